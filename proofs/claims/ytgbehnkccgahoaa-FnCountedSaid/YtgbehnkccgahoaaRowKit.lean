/- From the form's reading of an argument to the walk's: lists of numbers. -/
import Derived.Test.YtgbehnkccgahoaaRows
import Derived.Test.YtgbehnkccgahoaaShapes
import Derived.Test.YtgbehnkccgahoaaFloat
import Derived.ProofKit
import Derived.OpenShut
import Derived.ShutString
import Derived.ChangeOld
import Derived.Deep.Slices
namespace Go.Proofs.Ytgbehnkccgahoaa
open Go.ChangeShapes Go.WideShapes Go.ChangeAt Go.RowKit

set_option maxRecDepth 100000
theorem row_own : ownKnob Try.prog.godebug = none := by kernel_rfl
theorem row_laidOut : laidOutB Try.prog = true := by kernel_rfl

theorem fit_of_wf {n : Int} (h : (Lit.int .i64 n).wf = true) : -9223372036854775808 ≤ n ∧ n ≤ 9223372036854775807 := by
  have h' : decide (IntKind.i64.min ≤ n ∧ n ≤ IntKind.i64.max) = true := by simpa [Lit.wf] using h
  have := of_decide_eq_true h'
  have e1 : IntKind.i64.min = -9223372036854775808 := by decide
  have e2 : IntKind.i64.max = 9223372036854775807 := by decide
  omega

theorem rd_of_cells {W : World} {x : Addr} {l c : Nat} {zs : List Int} (hl : l ≤ c) (hz : zs.length = c) (hcell : ∀ i, i < zs.length → W.cell? (x.add i) = some (.int .i64 (zs.getD i 0))) :
    Rd W W.heap.size (some x) l (i64s (zs.take l)) := by
  refine ⟨by rw [i64s_length, List.length_take]; omega, fun hn => ?_⟩
  obtain ⟨b, off, spot⟩ := x
  have hc0 := hcell 0 (by omega)
  have hspot : spot = none := by simpa [Addr.add] using World.cell?_spot hc0
  subst hspot
  have hlt : b < W.heap.size := by
    have := World.block_lt_of_cell? W _ hc0
    simpa [Addr.add] using this
  refine ⟨b, off, rfl, hlt, fun j u hu => ?_⟩
  obtain ⟨y, rfl, hy⟩ := i64s_get? hu
  have hj : j < l := by
    have := (List.getElem?_eq_some_iff.1 hy).1
    rw [List.length_take] at this
    omega
  have := hcell j (by omega)
  rw [Addr.add_lit] at this
  rw [this]
  rw [List.getElem?_take, if_pos hj] at hy
  simp [List.getD, hy]

section
variable {H : Type} {enc : TypeId × Value → H} {W : World} {base : Nat} {spare : Nat → Bool} {held : Bool}
end
end Go.Proofs.Ytgbehnkccgahoaa
