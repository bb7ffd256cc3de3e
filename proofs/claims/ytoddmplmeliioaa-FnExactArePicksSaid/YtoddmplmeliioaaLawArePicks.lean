/- The statement FnExactArePicks out of the contracts of both functions; printed by a program of mine. -/
import Derived.Test.YtoddmplmeliioaaShapes
import Derived.Test.YtoddmplmeliioaaShapesF
namespace Go.Proofs.Ytoddmplmeliioaa
open Go.RowKit
set_option maxRecDepth 100000 in
set_option maxHeartbeats 4000000 in
theorem law_ArePicks (r : List Nat → Bool) (hS : FnFl_B 14 r) (hI : FnFl_B 16 r)
    (w : World) (A_aWeights : Option Addr) (n_aWeights c_aWeights : Nat) (xs_aWeights : List Nat) (h_aWeights : Rd w w.heap.size A_aWeights n_aWeights (f32s xs_aWeights)) (hn_aWeights : n_aWeights ≤ maxLen) :
    Calls Try.prog 3 #[.slice A_aWeights n_aWeights c_aWeights] w fun e w' => e = .returned (.bool true) ∧ Below w.heap.size w w' := by
  unfold maxLen at hn_aWeights
  by_cases hbig_aWeights : 1048576 < n_aWeights
  · go_enter Try.func3, Try.ntmps3
    go_wp2
    go_ret
    exact ⟨rfl, Below.refl _ _⟩
  have hm_aWeights : n_aWeights ≤ 1048576 := by omega
  have hlen_aWeights := h_aWeights.lenF
  have hxl_aWeights : xs_aWeights.length ≤ 1048576 := by have := hlen_aWeights.out; omega
  generalize hrx : r xs_aWeights = rx
  have Hrx := Lib.hid hrx; clear hrx
  have HB0 : Hid (Below w.heap.size w w) := Below.refl _ _
  have hs0 : w.heap.size ≤ w.heap.size := Nat.le_refl _
  have HR0_aWeights := Lib.hid h_aWeights; clear h_aWeights
  go_enter Try.func3, Try.ntmps3
  go_wp2_with fail
  refine (toF_any A_aWeights n_aWeights c_aWeights _ xs_aWeights _ HR0_aWeights.out hs0 hm_aWeights).mono ?_
  rintro e w1 ⟨v, rfl, ho, hb⟩
  obtain ⟨A_t1, c_t1, rfl, hcap_t1⟩ := ho.shapeF
  have HO1_t1 := Lib.hid (ho.base_le hs0)
  have HR1_aWeights := Lib.hid (HR0_aWeights.out.below hb hs0)
  have HB1 := Lib.hid (HB0.out.trans (hb.mono hs0))
  have hs1 : w.heap.size ≤ w1.heap.size := HB1.out.size
  clear ho hb
  clear HR0_aWeights
  clear HB0
  go_wp2_with fail
  refine (hS A_t1 xs_aWeights.length c_t1 _ xs_aWeights _ HO1_t1.out.rdF (Nat.le_refl _) hxl_aWeights hcap_t1.out).mono ?_
  rw [Hrx.out]
  rintro e w2 ⟨rfl, hb⟩
  have HR2_aWeights := Lib.hid (HR1_aWeights.out.below hb hs1)
  have HO2_t1 := Lib.hid (HO1_t1.out.below hb (Nat.le_refl _))
  have HB2 := Lib.hid (HB1.out.trans (hb.mono hs1))
  have hs2 : w.heap.size ≤ w2.heap.size := HB2.out.size
  clear hb
  clear HR1_aWeights
  clear HO1_t1
  clear HB1
  have hne1 : (rx != rx) = false := by simp
  go_wp2_with fail
  refine (toF_any A_aWeights n_aWeights c_aWeights _ xs_aWeights _ HR2_aWeights.out hs2 hm_aWeights).mono ?_
  rintro e w3 ⟨v, rfl, ho, hb⟩
  obtain ⟨A_x0, c_x0, rfl, hcap_x0⟩ := ho.shapeF
  have hap1 := HO2_t1.out.apart ho (Nat.le_refl _)
  have HO3_x0 := Lib.hid (ho.base_le hs2)
  have HR3_aWeights := Lib.hid (HR2_aWeights.out.below hb hs2)
  have HO3_t1 := Lib.hid (HO2_t1.out.below hb (Nat.le_refl _))
  have HB3 := Lib.hid (HB2.out.trans (hb.mono hs2))
  have hs3 : w.heap.size ≤ w3.heap.size := HB3.out.size
  clear ho hb
  clear HR2_aWeights
  clear HO2_t1
  clear HB2
  go_wp2_with fail
  refine (hI A_x0 xs_aWeights.length c_x0 _ xs_aWeights _ HO3_x0.out.rdF (Nat.le_refl _) hxl_aWeights hcap_x0.out).mono ?_
  rw [Hrx.out]
  rintro e w4 ⟨rfl, hb⟩
  have HR4_aWeights := Lib.hid (HR3_aWeights.out.below hb hs3)
  have HO4_t1 := Lib.hid (HO3_t1.out.below hb (Nat.le_refl _))
  have HO4_x0 := Lib.hid (HO3_x0.out.below hb (Nat.le_refl _))
  have HB4 := Lib.hid (HB3.out.trans (hb.mono hs3))
  have hs4 : w.heap.size ≤ w4.heap.size := HB4.out.size
  clear hb
  clear HR3_aWeights
  clear HO3_t1
  clear HO3_x0
  clear HB3
  have hne3 : (rx != rx) = false := by simp
  go_wp2_with fail
  refine (toF_any A_aWeights n_aWeights c_aWeights _ xs_aWeights _ HR4_aWeights.out hs4 hm_aWeights).mono ?_
  rintro e w5 ⟨v, rfl, ho, hb⟩
  obtain ⟨A_t2, c_t2, rfl, hcap_t2⟩ := ho.shapeF
  have hap2 := HO4_t1.out.apart ho (Nat.le_refl _)
  have hap3 := HO4_x0.out.apart ho (Nat.le_refl _)
  have HO5_t2 := Lib.hid (ho.base_le hs4)
  have HR5_aWeights := Lib.hid (HR4_aWeights.out.below hb hs4)
  have HO5_t1 := Lib.hid (HO4_t1.out.below hb (Nat.le_refl _))
  have HO5_x0 := Lib.hid (HO4_x0.out.below hb (Nat.le_refl _))
  have HB5 := Lib.hid (HB4.out.trans (hb.mono hs4))
  have hs5 : w.heap.size ≤ w5.heap.size := HB5.out.size
  clear ho hb
  clear HR4_aWeights
  clear HO4_t1
  clear HO4_x0
  clear HB4
  go_wp2_with fail
  refine (eqF_same A_x0 A_t2 xs_aWeights.length xs_aWeights.length c_x0 c_t2 _ xs_aWeights xs_aWeights _ HO5_x0.out.rdF HO5_t2.out.rdF (by unfold maxLen; omega) rfl).mono ?_
  rintro e w6 ⟨rfl, hb⟩
  have HR6_aWeights := Lib.hid (HR5_aWeights.out.below hb hs5)
  have HO6_t1 := Lib.hid (HO5_t1.out.below hb (Nat.le_refl _))
  have HO6_x0 := Lib.hid (HO5_x0.out.below hb (Nat.le_refl _))
  have HO6_t2 := Lib.hid (HO5_t2.out.below hb (Nat.le_refl _))
  have HB6 := Lib.hid (HB5.out.trans (hb.mono hs5))
  have hs6 : w.heap.size ≤ w6.heap.size := HB6.out.size
  clear hb
  clear HR5_aWeights
  clear HO5_t1
  clear HO5_x0
  clear HO5_t2
  clear HB5
  go_wp2
  go_ret
  exact ⟨rfl, HB6.out⟩
end Go.Proofs.Ytoddmplmeliioaa
