/- From the form's reading of an argument to the walk's: bytes. -/
import Derived.Test.YtijafnejdibdlaaGreatDoorRowKit
import Derived.Test.YtijafnejdibdlaaGreatDoorSrc
namespace Go.Proofs.YtijafnejdibdlaaGreatDoor
open Go.ChangeShapes Go.WideShapes Go.ChangeAt Go.RowKit
set_option maxRecDepth 100000
theorem byte_of_wf {n : Int} (h : (Lit.int .u8 n).wf = true) : 0 ≤ n ∧ n < 256 := by
  have h' : decide (IntKind.u8.min ≤ n ∧ n ≤ IntKind.u8.max) = true := by simpa [Lit.wf] using h
  have := of_decide_eq_true h'
  have e1 : IntKind.u8.min = 0 := by decide
  have e2 : IntKind.u8.max = 255 := by decide
  omega
theorem rd_of_bytes {W : World} {x : Addr} {l c : Nat} {zs : List Int} (hl : l ≤ c) (hz : zs.length = c) (hcell : ∀ i, i < zs.length → W.cell? (x.add i) = some (.int .u8 (zs.getD i 0))) :
    Rd W W.heap.size (some x) l (u8s (zs.take l)) := by
  refine ⟨by rw [u8s_length, List.length_take]; omega, fun hn => ?_⟩
  obtain ⟨b, off, spot⟩ := x
  have hc0 := hcell 0 (by omega)
  have hspot : spot = none := by simpa [Addr.add] using World.cell?_spot hc0
  subst hspot
  have hlt : b < W.heap.size := by
    have := World.block_lt_of_cell? W _ hc0
    simpa [Addr.add] using this
  refine ⟨b, off, rfl, hlt, fun j u hu => ?_⟩
  obtain ⟨y, rfl, hy⟩ := u8s_get? hu
  have hj : j < l := by
    have := (List.getElem?_eq_some_iff.1 hy).1
    rw [List.length_take] at this
    omega
  have := hcell j (by omega)
  rw [Addr.add_lit] at this
  rw [this]
  rw [List.getElem?_take, if_pos hj] at hy
  simp [List.getD, hy]
section
variable {H : Type} {enc : TypeId × Value → H} {W : World} {base : Nat} {held : Bool}
/-- A list of bytes that came in. -/
theorem open_B {v : Value} {d : DataW H} {p : List MemPlace} {r : Reach} {b0 : Nat} (hval : Value.okWide Tryz.prog W r b0 22 v) (h0 : DataW.Trod enc Tryz.prog W base (fun _ => true) held 22 v d p) :
    ∃ (A : Option Addr) (n c : Nat) (xs : List Int), v = .slice A n c ∧ Rd W W.heap.size A n (u8s xs) ∧ n ≤ maxLen ∧ Bytes xs := by
  obtain ⟨a0, len0, cap0, rfl⟩ := okWide_slice Tryz.underlying22 hval
  obtain ⟨fuel, hf⟩ := h0
  rcases open_ints Tryz.underlying22 Tryz.underlying5 (by kernel_rfl) hf with ⟨hcs, _⟩ | ⟨x, l, c, zs, hcs, _, hl, hm, hz, _, hcell, hwz⟩
  · simp [Value.cells] at hcs
    obtain ⟨rfl, rfl, rfl⟩ := hcs
    exact ⟨none, 0, 0, [], rfl, Rd.nil_, by unfold maxLen; omega, fun x hx => by cases hx⟩
  · simp [Value.cells] at hcs
    obtain ⟨rfl, rfl, rfl⟩ := hcs
    have hz' : zs.length = cap0 := by simpa using hz
    exact ⟨_, _, _, zs.take len0, rfl, rd_of_bytes hl hz' hcell, by omega, fun y hy => byte_of_wf (hwz y (List.mem_of_mem_take hy))⟩
end
end Go.Proofs.YtijafnejdibdlaaGreatDoor
