/- From the form's reading of a seed to the walk's. -/
import Derived.Test.YtahimjdfkmhknaaRowKit
import Derived.Test.YtahimjdfkmhknaaShapesS
import Derived.Lib.SmallJoins
namespace Go.Proofs.Ytahimjdfkmhknaa
open Go.ChangeShapes Go.WideShapes Go.ChangeAt Go.RowKit

set_option maxRecDepth 100000
theorem u64_of_wf {n : Int} (h : (Lit.int .u64 n).wf = true) : 0 ≤ n ∧ n < 18446744073709551616 := by
  have h' : decide (IntKind.u64.min ≤ n ∧ n ≤ IntKind.u64.max) = true := by simpa [Lit.wf] using h
  have := of_decide_eq_true h'
  have e1 : IntKind.u64.min = 0 := by decide
  have e2 : IntKind.u64.max = 18446744073709551615 := by decide
  omega
theorem f32_of_wf {x : Nat} (h : (Lit.float .f32 x).wf = true) : x < 2 ^ 32 := by
  simpa [Lit.wf] using h
section
variable {H : Type} {enc : TypeId × Value → H} {W : World} {base : Nat} {spare : Nat → Bool} {held : Bool}
theorem open_S {v : Value} {d : DataW H} {p : List MemPlace} {r : Reach} {b0 : Nat} (hval : Value.okWide Try.prog W r b0 24 v) (h0 : DataW.Trod enc Try.prog W base (fun _ => true) held 24 v d p) :
    ∃ (k a b : Int), v = .agg #[.int .i64 k, .int .u64 a, .int .u64 b] ∧ Sd.ok ⟨k, a, b⟩ := by
  obtain ⟨v0, v1, v2, y0, y1, y2, n, rfl, _, _, h1, h2, h3⟩ := Go.Joins.open_agg3 Try.underlying24 (by kernel_rfl) (by kernel_rfl) hval h0
  obtain ⟨k, hk, _, wk⟩ := DataW.trod_int Try.underlying2 h1
  obtain ⟨a, ha, _, wa⟩ := DataW.trod_int Try.underlying22 h2
  obtain ⟨b, hb, _, wb⟩ := DataW.trod_int Try.underlying22 h3
  simp only [List.cons.injEq, and_true] at hk ha hb
  subst hk ha hb
  exact ⟨k, a, b, rfl, fit_of_wf wk, u64_of_wf wa, u64_of_wf wb⟩
end
end Go.Proofs.Ytahimjdfkmhknaa
