/- The statement FnExactAreEdges out of the contracts of both functions; printed by a program of mine. -/
import Derived.Test.YtjiigjjabgncmaaShapes
namespace Go.Proofs.Ytjiigjjabgncmaa
open Go.RowKit
set_option maxRecDepth 100000 in
set_option maxHeartbeats 4000000 in
theorem law_AreEdges (r : List Int → Int → Bool) (hS : FnLN_B 8 r) (hI : FnLN_B 10 r)
    (w : World) (A_aEdges : Option Addr) (n_aEdges c_aEdges : Nat) (xs_aEdges : List Int) (h_aEdges : Rd w w.heap.size A_aEdges n_aEdges (i64s xs_aEdges)) (hn_aEdges : n_aEdges ≤ maxLen) (hf_aEdges : Fit xs_aEdges) (n_aN : Int) (hf_aN : -9223372036854775808 ≤ n_aN ∧ n_aN ≤ 9223372036854775807) :
    Calls Try.prog 3 #[.slice A_aEdges n_aEdges c_aEdges, .int .i64 n_aN] w fun e w' => e = .returned (.bool true) ∧ Below w.heap.size w w' := by
  unfold maxLen at hn_aEdges
  by_cases hbig_aEdges : 1048576 < n_aEdges
  · go_enter Try.func3, Try.ntmps3
    go_wp2
    go_ret
    exact ⟨rfl, Below.refl _ _⟩
  have hm_aEdges : n_aEdges ≤ 1048576 := by omega
  have hlen_aEdges := h_aEdges.lenI
  have hxl_aEdges : xs_aEdges.length ≤ 1048576 := by have := hlen_aEdges.out; omega
  generalize hrx : r xs_aEdges n_aN = rx
  have Hrx := Lib.hid hrx; clear hrx
  have Hf_aEdges := Lib.hid hf_aEdges; clear hf_aEdges
  have Hf_aN := Lib.hid hf_aN; clear hf_aN
  have HB0 : Hid (Below w.heap.size w w) := Below.refl _ _
  have hs0 : w.heap.size ≤ w.heap.size := Nat.le_refl _
  have HR0_aEdges := Lib.hid h_aEdges; clear h_aEdges
  go_enter Try.func3, Try.ntmps3
  go_wp2_with fail
  refine (toI_any A_aEdges n_aEdges c_aEdges _ xs_aEdges _ HR0_aEdges.out hs0 hm_aEdges).mono ?_
  rintro e w1 ⟨v, rfl, ho, hb⟩
  obtain ⟨A_t1, c_t1, rfl, hcap_t1⟩ := ho.shapeI
  have HO1_t1 := Lib.hid (ho.base_le hs0)
  have HR1_aEdges := Lib.hid (HR0_aEdges.out.below hb hs0)
  have HB1 := Lib.hid (HB0.out.trans (hb.mono hs0))
  have hs1 : w.heap.size ≤ w1.heap.size := HB1.out.size
  clear ho hb
  clear HR0_aEdges
  clear HB0
  go_wp2_with fail
  refine (hS A_t1 xs_aEdges.length c_t1 _ xs_aEdges n_aN _ HO1_t1.out.rdI (Nat.le_refl _) hxl_aEdges Hf_aEdges.out hcap_t1.out Hf_aN.out).mono ?_
  rw [Hrx.out]
  rintro e w2 ⟨rfl, hb⟩
  have HR2_aEdges := Lib.hid (HR1_aEdges.out.below hb hs1)
  have HO2_t1 := Lib.hid (HO1_t1.out.below hb (Nat.le_refl _))
  have HB2 := Lib.hid (HB1.out.trans (hb.mono hs1))
  have hs2 : w.heap.size ≤ w2.heap.size := HB2.out.size
  clear hb
  clear HR1_aEdges
  clear HO1_t1
  clear HB1
  have hne1 : (rx != rx) = false := by simp
  go_wp2_with fail
  refine (toI_any A_aEdges n_aEdges c_aEdges _ xs_aEdges _ HR2_aEdges.out hs2 hm_aEdges).mono ?_
  rintro e w3 ⟨v, rfl, ho, hb⟩
  obtain ⟨A_x0, c_x0, rfl, hcap_x0⟩ := ho.shapeI
  have hap1 := HO2_t1.out.apart ho (Nat.le_refl _)
  have HO3_x0 := Lib.hid (ho.base_le hs2)
  have HR3_aEdges := Lib.hid (HR2_aEdges.out.below hb hs2)
  have HO3_t1 := Lib.hid (HO2_t1.out.below hb (Nat.le_refl _))
  have HB3 := Lib.hid (HB2.out.trans (hb.mono hs2))
  have hs3 : w.heap.size ≤ w3.heap.size := HB3.out.size
  clear ho hb
  clear HR2_aEdges
  clear HO2_t1
  clear HB2
  go_wp2_with fail
  refine (hI A_x0 xs_aEdges.length c_x0 _ xs_aEdges n_aN _ HO3_x0.out.rdI (Nat.le_refl _) hxl_aEdges Hf_aEdges.out hcap_x0.out Hf_aN.out).mono ?_
  rw [Hrx.out]
  rintro e w4 ⟨rfl, hb⟩
  have HR4_aEdges := Lib.hid (HR3_aEdges.out.below hb hs3)
  have HO4_t1 := Lib.hid (HO3_t1.out.below hb (Nat.le_refl _))
  have HO4_x0 := Lib.hid (HO3_x0.out.below hb (Nat.le_refl _))
  have HB4 := Lib.hid (HB3.out.trans (hb.mono hs3))
  have hs4 : w.heap.size ≤ w4.heap.size := HB4.out.size
  clear hb
  clear HR3_aEdges
  clear HO3_t1
  clear HO3_x0
  clear HB3
  have hne3 : (rx != rx) = false := by simp
  go_wp2_with fail
  refine (toI_any A_aEdges n_aEdges c_aEdges _ xs_aEdges _ HR4_aEdges.out hs4 hm_aEdges).mono ?_
  rintro e w5 ⟨v, rfl, ho, hb⟩
  obtain ⟨A_t2, c_t2, rfl, hcap_t2⟩ := ho.shapeI
  have hap2 := HO4_t1.out.apart ho (Nat.le_refl _)
  have hap3 := HO4_x0.out.apart ho (Nat.le_refl _)
  have HO5_t2 := Lib.hid (ho.base_le hs4)
  have HR5_aEdges := Lib.hid (HR4_aEdges.out.below hb hs4)
  have HO5_t1 := Lib.hid (HO4_t1.out.below hb (Nat.le_refl _))
  have HO5_x0 := Lib.hid (HO4_x0.out.below hb (Nat.le_refl _))
  have HB5 := Lib.hid (HB4.out.trans (hb.mono hs4))
  have hs5 : w.heap.size ≤ w5.heap.size := HB5.out.size
  clear ho hb
  clear HR4_aEdges
  clear HO4_t1
  clear HO4_x0
  clear HB4
  go_wp2_with fail
  refine (eqI_same A_x0 A_t2 xs_aEdges.length xs_aEdges.length c_x0 c_t2 _ xs_aEdges _ HO5_x0.out.rdI HO5_t2.out.rdI (by unfold maxLen; omega)).mono ?_
  rintro e w6 ⟨rfl, hb⟩
  have HR6_aEdges := Lib.hid (HR5_aEdges.out.below hb hs5)
  have HO6_t1 := Lib.hid (HO5_t1.out.below hb (Nat.le_refl _))
  have HO6_x0 := Lib.hid (HO5_x0.out.below hb (Nat.le_refl _))
  have HO6_t2 := Lib.hid (HO5_t2.out.below hb (Nat.le_refl _))
  have HB6 := Lib.hid (HB5.out.trans (hb.mono hs5))
  have hs6 : w.heap.size ≤ w6.heap.size := HB6.out.size
  clear hb
  clear HR5_aEdges
  clear HO5_t1
  clear HO5_x0
  clear HO5_t2
  clear HB5
  go_wp2
  go_ret
  exact ⟨rfl, HB6.out⟩
end Go.Proofs.Ytjiigjjabgncmaa
