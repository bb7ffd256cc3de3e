/- slices.Sort of finite float32: the breaking of patterns. -/
import Derived.Test.YtmhhjegceibjoaaChooseI
import Derived.Lib.BitFns
import Derived.Lib.Small
namespace Go.Proofs.Ytmhhjegceibjoaa
open Go.RowKit
set_option maxRecDepth 100000
attribute [local go_sem] run_store_float'
theorem wrapU_ge (x : Int) : 0 ≤ IntKind.u64.wrap x ∧ IntKind.u64.wrap x < 18446744073709551616 := by
  have e : IntKind.u64.wrap x = x % 18446744073709551616 := rfl
  rw [e]
  exact ⟨Int.emod_nonneg _ (by omega), Int.emod_lt_of_pos _ (by omega)⟩
theorem xorU (x y : Int) : 0 ≤ bits .xor .u64 x y ∧ bits .xor .u64 x y < 18446744073709551616 := wrapU_ge _
theorem andU (x : Int) (m : Nat) (h : 0 ≤ x ∧ x < 18446744073709551616) (hm : m < 1000000) : 0 ≤ bits .and .u64 x (m : Int) ∧ bits .and .u64 x (m : Int) ≤ (m : Int) := by
  obtain ⟨n, rfl⟩ : ∃ n : Nat, x = (n : Int) := ⟨x.toNat, by omega⟩
  have e := bits_and_u64_nat n m (by omega) (by omega)
  have e' : bits .and .u64 (n : Int) (m : Int) = ((n &&& m : Nat) : Int) := e
  rw [e']
  have := Nat.and_le_right (n := n) (m := m)
  omega
/-- A box of the state of the random sequence. -/
def BoxU (w : World) (s : Nat) (t : Int) : Prop := w.heap[s]? = some (.cells #[.int .u64 t] 53 (0, 0))
section
variable {w w' : World} {s : Nat} {t : Int}
theorem BoxU.lt (h : BoxU w s t) : s < w.heap.size := (Array.getElem?_eq_some_iff.1 h).1
theorem BoxU.c0 (h : BoxU w s t) : w.cell? ⟨s, 0, none⟩ = some (.int .u64 t) := cell_of_row w s 0 _ 53 (0, 0) h
theorem BoxU.fz (h : BoxU w s t) (i : Nat) : w.frozen? ⟨s, i, none⟩ = false := by
  unfold World.frozen? BoxU at *
  simp [h]
theorem BoxU.set (h : BoxU w s t) (t' : Int) : BoxU (w.setCell ⟨s, 0, none⟩ (.int .u64 t')) s t' := by
  unfold BoxU at h ⊢
  simp [World.setCell, Array.getElem?_modify, h]
theorem BoxU.grown {row : Option Nat} (h : BoxU w s t) (hb : w.grownBy w' row) (hg : some s ≠ row) : BoxU w' s t := (hb.block s h.lt hg).trans h
end
set_option maxHeartbeats 2000000 in
theorem xnext_any (s : Nat) (t : Int) (w : World) (h : BoxU w s t) (ht : 0 ≤ t ∧ t < 18446744073709551616) :
    Calls Try.prog 33 #[.pointer (some ⟨s, 0, none⟩)] w fun e w' => ∃ v : Int, e = .returned (.int .u64 v) ∧ (0 ≤ v ∧ v < 18446744073709551616) ∧ Hid (BoxU w' s v) ∧ Hid (w.grownBy w' (some s)) := by
  have c0 := h.c0
  have f0 := h.fz 0
  have H := Lib.hid h
  clear h
  go_enter Try.func33, Try.ntmps33
  go_wp2_with fail
  go_big_region
  go_wp2_with fail
  generalize ha : bits .xor .u64 t _ = a1
  have ha1 : 0 ≤ a1 ∧ a1 < 18446744073709551616 := by rw [← ha]; exact xorU _ _
  clear ha
  have H1 : Hid (BoxU (w.setCell ⟨s, 0, none⟩ (.int .u64 a1)).drew s a1) := H.out.set a1
  have G1 : Hid (w.grownBy (w.setCell ⟨s, 0, none⟩ (.int .u64 a1)).drew (some s)) := grownBy_drew (grown_put w s (.int .u64 a1))
  generalize (w.setCell ⟨s, 0, none⟩ (.int .u64 a1)).drew = w1 at H1 G1 ⊢
  clear c0 f0
  have c0 := H1.out.c0
  have f0 := H1.out.fz 0
  go_wp2_with fail
  go_big_region
  go_wp2_with fail
  generalize ha : bits .xor .u64 a1 _ = a2
  have ha2 : 0 ≤ a2 ∧ a2 < 18446744073709551616 := by rw [← ha]; exact xorU _ _
  clear ha
  have H2 : Hid (BoxU (w1.setCell ⟨s, 0, none⟩ (.int .u64 a2)).drew s a2) := H1.out.set a2
  have G2 : Hid (w1.grownBy (w1.setCell ⟨s, 0, none⟩ (.int .u64 a2)).drew (some s)) := grownBy_drew (grown_put w1 s (.int .u64 a2))
  generalize (w1.setCell ⟨s, 0, none⟩ (.int .u64 a2)).drew = w2 at H2 G2 ⊢
  clear c0 f0
  have c0 := H2.out.c0
  have f0 := H2.out.fz 0
  go_wp2_with fail
  go_big_region
  go_wp2_with fail
  generalize ha : bits .xor .u64 a2 _ = a3
  have ha3 : 0 ≤ a3 ∧ a3 < 18446744073709551616 := by rw [← ha]; exact xorU _ _
  clear ha
  have H3 : Hid (BoxU (w2.setCell ⟨s, 0, none⟩ (.int .u64 a3)).drew s a3) := H2.out.set a3
  have G3 : Hid (w2.grownBy (w2.setCell ⟨s, 0, none⟩ (.int .u64 a3)).drew (some s)) := grownBy_drew (grown_put w2 s (.int .u64 a3))
  generalize (w2.setCell ⟨s, 0, none⟩ (.int .u64 a3)).drew = w3 at H3 G3 ⊢
  clear c0 f0
  have c0 := H3.out.c0
  have f0 := H3.out.fz 0
  go_wp2_with fail
  go_ret
  exact ⟨a3, rfl, ha3, H3, grown_trans' (grown_trans' G1.out G2.out) G3.out⟩
end Go.Proofs.Ytmhhjegceibjoaa
