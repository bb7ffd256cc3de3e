/- The statement FnExactChiOf out of the contracts of both functions; printed by a program of mine. -/
import Derived.Test.YticenfholnencaaShapes
import Derived.Test.YticenfholnencaaShapesF
namespace Go.Proofs.Yticenfholnencaa
open Go.RowKit
set_option maxRecDepth 100000 in
set_option maxHeartbeats 4000000 in
theorem law_ChiOf (r : List Int → List Nat → Option Nat) (hS : FnLFl_FB 25 r) (hI : FnLFl_FB 28 r)
    (w : World) (A_aCounts : Option Addr) (n_aCounts c_aCounts : Nat) (xs_aCounts : List Int) (h_aCounts : Rd w w.heap.size A_aCounts n_aCounts (i64s xs_aCounts)) (hn_aCounts : n_aCounts ≤ maxLen) (hf_aCounts : Fit xs_aCounts) (A_aShares : Option Addr) (n_aShares c_aShares : Nat) (xs_aShares : List Nat) (h_aShares : Rd w w.heap.size A_aShares n_aShares (f32s xs_aShares)) (hn_aShares : n_aShares ≤ maxLen) :
    Calls Try.prog 5 #[.slice A_aCounts n_aCounts c_aCounts, .slice A_aShares n_aShares c_aShares] w fun e w' => e = .returned (.bool true) ∧ Below w.heap.size w w' := by
  unfold maxLen at hn_aCounts
  unfold maxLen at hn_aShares
  by_cases hbig_aCounts : 1048576 < n_aCounts
  · go_enter Try.func5, Try.ntmps5
    go_wp2
    go_ret
    exact ⟨rfl, Below.refl _ _⟩
  by_cases hbig_aShares : 1048576 < n_aShares
  · go_enter Try.func5, Try.ntmps5
    go_wp2
    go_ret
    exact ⟨rfl, Below.refl _ _⟩
  have hm_aCounts : n_aCounts ≤ 1048576 := by omega
  have hlen_aCounts := h_aCounts.lenI
  have hxl_aCounts : xs_aCounts.length ≤ 1048576 := by have := hlen_aCounts.out; omega
  have hm_aShares : n_aShares ≤ 1048576 := by omega
  have hlen_aShares := h_aShares.lenF
  have hxl_aShares : xs_aShares.length ≤ 1048576 := by have := hlen_aShares.out; omega
  generalize hrx : r xs_aCounts xs_aShares = rx
  have Hrx := Lib.hid hrx; clear hrx
  have Hf_aCounts := Lib.hid hf_aCounts; clear hf_aCounts
  have HB0 : Hid (Below w.heap.size w w) := Below.refl _ _
  have hs0 : w.heap.size ≤ w.heap.size := Nat.le_refl _
  have HR0_aCounts := Lib.hid h_aCounts; clear h_aCounts
  have HR0_aShares := Lib.hid h_aShares; clear h_aShares
  go_enter Try.func5, Try.ntmps5
  go_wp2_with fail
  refine (toI_any A_aCounts n_aCounts c_aCounts _ xs_aCounts _ HR0_aCounts.out hs0 hm_aCounts).mono ?_
  rintro e w1 ⟨v, rfl, ho, hb⟩
  obtain ⟨A_t1, c_t1, rfl, hcap_t1⟩ := ho.shapeI
  have HO1_t1 := Lib.hid (ho.base_le hs0)
  have HR1_aCounts := Lib.hid (HR0_aCounts.out.below hb hs0)
  have HR1_aShares := Lib.hid (HR0_aShares.out.below hb hs0)
  have HB1 := Lib.hid (HB0.out.trans (hb.mono hs0))
  have hs1 : w.heap.size ≤ w1.heap.size := HB1.out.size
  clear ho hb
  clear HR0_aCounts
  clear HR0_aShares
  clear HB0
  go_wp2_with fail
  refine (toF_any A_aShares n_aShares c_aShares _ xs_aShares _ HR1_aShares.out hs1 hm_aShares).mono ?_
  rintro e w2 ⟨v, rfl, ho, hb⟩
  obtain ⟨A_t2, c_t2, rfl, hcap_t2⟩ := ho.shapeF
  have hap1 := HO1_t1.out.apart ho (Nat.le_refl _)
  have HO2_t2 := Lib.hid (ho.base_le hs1)
  have HR2_aCounts := Lib.hid (HR1_aCounts.out.below hb hs1)
  have HR2_aShares := Lib.hid (HR1_aShares.out.below hb hs1)
  have HO2_t1 := Lib.hid (HO1_t1.out.below hb (Nat.le_refl _))
  have HB2 := Lib.hid (HB1.out.trans (hb.mono hs1))
  have hs2 : w.heap.size ≤ w2.heap.size := HB2.out.size
  clear ho hb
  clear HR1_aCounts
  clear HR1_aShares
  clear HO1_t1
  clear HB1
  go_wp2_with fail
  refine (hS A_t1 xs_aCounts.length c_t1 _ xs_aCounts A_t2 xs_aShares.length c_t2 _ xs_aShares _ HO2_t1.out.rdI (Nat.le_refl _) hxl_aCounts Hf_aCounts.out hcap_t1.out HO2_t2.out.rdF (Nat.le_refl _) hxl_aShares hcap_t2.out).mono ?_
  rw [Hrx.out]
  rintro e w3 ⟨num_w0, ok, rfl, hok_w1, hnum_w0, hb⟩
  have HR3_aCounts := Lib.hid (HR2_aCounts.out.below hb hs2)
  have HR3_aShares := Lib.hid (HR2_aShares.out.below hb hs2)
  have HO3_t1 := Lib.hid (HO2_t1.out.below hb (Nat.le_refl _))
  have HO3_t2 := Lib.hid (HO2_t2.out.below hb (Nat.le_refl _))
  have HB3 := Lib.hid (HB2.out.trans (hb.mono hs2))
  have hs3 : w.heap.size ≤ w3.heap.size := HB3.out.size
  clear hb
  clear HR2_aCounts
  clear HR2_aShares
  clear HO2_t1
  clear HO2_t2
  clear HB2
  have hne2 : (ok != ok) = false := by simp
  go_wp2_with fail
  refine (toI_any A_aCounts n_aCounts c_aCounts _ xs_aCounts _ HR3_aCounts.out hs3 hm_aCounts).mono ?_
  rintro e w4 ⟨v, rfl, ho, hb⟩
  obtain ⟨A_x0, c_x0, rfl, hcap_x0⟩ := ho.shapeI
  have hap2 := HO3_t1.out.apart ho (Nat.le_refl _)
  have hap3 := HO3_t2.out.apart ho (Nat.le_refl _)
  have HO4_x0 := Lib.hid (ho.base_le hs3)
  have HR4_aCounts := Lib.hid (HR3_aCounts.out.below hb hs3)
  have HR4_aShares := Lib.hid (HR3_aShares.out.below hb hs3)
  have HO4_t1 := Lib.hid (HO3_t1.out.below hb (Nat.le_refl _))
  have HO4_t2 := Lib.hid (HO3_t2.out.below hb (Nat.le_refl _))
  have HB4 := Lib.hid (HB3.out.trans (hb.mono hs3))
  have hs4 : w.heap.size ≤ w4.heap.size := HB4.out.size
  clear ho hb
  clear HR3_aCounts
  clear HR3_aShares
  clear HO3_t1
  clear HO3_t2
  clear HB3
  go_wp2_with fail
  refine (toF_any A_aShares n_aShares c_aShares _ xs_aShares _ HR4_aShares.out hs4 hm_aShares).mono ?_
  rintro e w5 ⟨v, rfl, ho, hb⟩
  obtain ⟨A_x1, c_x1, rfl, hcap_x1⟩ := ho.shapeF
  have hap4 := HO4_t1.out.apart ho (Nat.le_refl _)
  have hap5 := HO4_t2.out.apart ho (Nat.le_refl _)
  have hap6 := HO4_x0.out.apart ho (Nat.le_refl _)
  have HO5_x1 := Lib.hid (ho.base_le hs4)
  have HR5_aCounts := Lib.hid (HR4_aCounts.out.below hb hs4)
  have HR5_aShares := Lib.hid (HR4_aShares.out.below hb hs4)
  have HO5_t1 := Lib.hid (HO4_t1.out.below hb (Nat.le_refl _))
  have HO5_t2 := Lib.hid (HO4_t2.out.below hb (Nat.le_refl _))
  have HO5_x0 := Lib.hid (HO4_x0.out.below hb (Nat.le_refl _))
  have HB5 := Lib.hid (HB4.out.trans (hb.mono hs4))
  have hs5 : w.heap.size ≤ w5.heap.size := HB5.out.size
  clear ho hb
  clear HR4_aCounts
  clear HR4_aShares
  clear HO4_t1
  clear HO4_t2
  clear HO4_x0
  clear HB4
  go_wp2_with fail
  refine (hI A_x0 xs_aCounts.length c_x0 _ xs_aCounts A_x1 xs_aShares.length c_x1 _ xs_aShares _ HO5_x0.out.rdI (Nat.le_refl _) hxl_aCounts Hf_aCounts.out hcap_x0.out HO5_x1.out.rdF (Nat.le_refl _) hxl_aShares hcap_x1.out).mono ?_
  rw [Hrx.out]
  rintro e w6 ⟨num_g0, ok_g1, rfl, hok_g1, hnum_g0, hb⟩
  obtain rfl : ok_g1 = ok := hok_g1.out.trans hok_w1.out.symm
  have HR6_aCounts := Lib.hid (HR5_aCounts.out.below hb hs5)
  have HR6_aShares := Lib.hid (HR5_aShares.out.below hb hs5)
  have HO6_t1 := Lib.hid (HO5_t1.out.below hb (Nat.le_refl _))
  have HO6_t2 := Lib.hid (HO5_t2.out.below hb (Nat.le_refl _))
  have HO6_x0 := Lib.hid (HO5_x0.out.below hb (Nat.le_refl _))
  have HO6_x1 := Lib.hid (HO5_x1.out.below hb (Nat.le_refl _))
  have HB6 := Lib.hid (HB5.out.trans (hb.mono hs5))
  have hs6 : w.heap.size ≤ w6.heap.size := HB6.out.size
  clear hb
  clear HR5_aCounts
  clear HR5_aShares
  clear HO5_t1
  clear HO5_t2
  clear HO5_x0
  clear HO5_x1
  clear HB5
  have hne5 : (ok_g1 != ok_g1) = false := by simp
  have hcv := run_widV (P := Try.prog) 38 44 rfl Try.underlying44
  go_wp2_with fail
  refine (sameFloat_any _ _ _ (by rw [widV_cn, widV_cn]; exact widen_congr (hnum_g0.out.trans hnum_w0.out.symm))).mono ?_
  rintro e w7 ⟨rfl, hq⟩
  have hb : Below w6.heap.size w6 w7 := by obtain ⟨q, rfl⟩ := hq; exact ⟨rfl, rfl, rfl, Nat.le_refl _, fun _ _ => rfl⟩
  clear hcv hq
  have HR7_aCounts := Lib.hid (HR6_aCounts.out.below hb hs6)
  have HR7_aShares := Lib.hid (HR6_aShares.out.below hb hs6)
  have HO7_t1 := Lib.hid (HO6_t1.out.below hb (Nat.le_refl _))
  have HO7_t2 := Lib.hid (HO6_t2.out.below hb (Nat.le_refl _))
  have HO7_x0 := Lib.hid (HO6_x0.out.below hb (Nat.le_refl _))
  have HO7_x1 := Lib.hid (HO6_x1.out.below hb (Nat.le_refl _))
  have HB7 := Lib.hid (HB6.out.trans (hb.mono hs6))
  have hs7 : w.heap.size ≤ w7.heap.size := HB7.out.size
  clear hb
  clear HR6_aCounts
  clear HR6_aShares
  clear HO6_t1
  clear HO6_t2
  clear HO6_x0
  clear HO6_x1
  clear HB6
  go_wp2_with fail
  refine (toI_any A_aCounts n_aCounts c_aCounts _ xs_aCounts _ HR7_aCounts.out hs7 hm_aCounts).mono ?_
  rintro e w8 ⟨v, rfl, ho, hb⟩
  obtain ⟨A_t3, c_t3, rfl, hcap_t3⟩ := ho.shapeI
  have hap7 := HO7_t1.out.apart ho (Nat.le_refl _)
  have hap8 := HO7_t2.out.apart ho (Nat.le_refl _)
  have hap9 := HO7_x0.out.apart ho (Nat.le_refl _)
  have hap10 := HO7_x1.out.apart ho (Nat.le_refl _)
  have HO8_t3 := Lib.hid (ho.base_le hs7)
  have HR8_aCounts := Lib.hid (HR7_aCounts.out.below hb hs7)
  have HR8_aShares := Lib.hid (HR7_aShares.out.below hb hs7)
  have HO8_t1 := Lib.hid (HO7_t1.out.below hb (Nat.le_refl _))
  have HO8_t2 := Lib.hid (HO7_t2.out.below hb (Nat.le_refl _))
  have HO8_x0 := Lib.hid (HO7_x0.out.below hb (Nat.le_refl _))
  have HO8_x1 := Lib.hid (HO7_x1.out.below hb (Nat.le_refl _))
  have HB8 := Lib.hid (HB7.out.trans (hb.mono hs7))
  have hs8 : w.heap.size ≤ w8.heap.size := HB8.out.size
  clear ho hb
  clear HR7_aCounts
  clear HR7_aShares
  clear HO7_t1
  clear HO7_t2
  clear HO7_x0
  clear HO7_x1
  clear HB7
  go_wp2_with fail
  refine (eqI_same A_x0 A_t3 xs_aCounts.length xs_aCounts.length c_x0 c_t3 _ xs_aCounts _ HO8_x0.out.rdI HO8_t3.out.rdI (by unfold maxLen; omega)).mono ?_
  rintro e w9 ⟨rfl, hb⟩
  have HR9_aCounts := Lib.hid (HR8_aCounts.out.below hb hs8)
  have HR9_aShares := Lib.hid (HR8_aShares.out.below hb hs8)
  have HO9_t1 := Lib.hid (HO8_t1.out.below hb (Nat.le_refl _))
  have HO9_t2 := Lib.hid (HO8_t2.out.below hb (Nat.le_refl _))
  have HO9_x0 := Lib.hid (HO8_x0.out.below hb (Nat.le_refl _))
  have HO9_x1 := Lib.hid (HO8_x1.out.below hb (Nat.le_refl _))
  have HO9_t3 := Lib.hid (HO8_t3.out.below hb (Nat.le_refl _))
  have HB9 := Lib.hid (HB8.out.trans (hb.mono hs8))
  have hs9 : w.heap.size ≤ w9.heap.size := HB9.out.size
  clear hb
  clear HR8_aCounts
  clear HR8_aShares
  clear HO8_t1
  clear HO8_t2
  clear HO8_x0
  clear HO8_x1
  clear HO8_t3
  clear HB8
  go_wp2_with fail
  refine (toF_any A_aShares n_aShares c_aShares _ xs_aShares _ HR9_aShares.out hs9 hm_aShares).mono ?_
  rintro e w10 ⟨v, rfl, ho, hb⟩
  obtain ⟨A_t4, c_t4, rfl, hcap_t4⟩ := ho.shapeF
  have hap11 := HO9_t1.out.apart ho (Nat.le_refl _)
  have hap12 := HO9_t2.out.apart ho (Nat.le_refl _)
  have hap13 := HO9_x0.out.apart ho (Nat.le_refl _)
  have hap14 := HO9_x1.out.apart ho (Nat.le_refl _)
  have hap15 := HO9_t3.out.apart ho (Nat.le_refl _)
  have HO10_t4 := Lib.hid (ho.base_le hs9)
  have HR10_aCounts := Lib.hid (HR9_aCounts.out.below hb hs9)
  have HR10_aShares := Lib.hid (HR9_aShares.out.below hb hs9)
  have HO10_t1 := Lib.hid (HO9_t1.out.below hb (Nat.le_refl _))
  have HO10_t2 := Lib.hid (HO9_t2.out.below hb (Nat.le_refl _))
  have HO10_x0 := Lib.hid (HO9_x0.out.below hb (Nat.le_refl _))
  have HO10_x1 := Lib.hid (HO9_x1.out.below hb (Nat.le_refl _))
  have HO10_t3 := Lib.hid (HO9_t3.out.below hb (Nat.le_refl _))
  have HB10 := Lib.hid (HB9.out.trans (hb.mono hs9))
  have hs10 : w.heap.size ≤ w10.heap.size := HB10.out.size
  clear ho hb
  clear HR9_aCounts
  clear HR9_aShares
  clear HO9_t1
  clear HO9_t2
  clear HO9_x0
  clear HO9_x1
  clear HO9_t3
  clear HB9
  go_wp2_with fail
  refine (eqF_same A_x1 A_t4 xs_aShares.length xs_aShares.length c_x1 c_t4 _ xs_aShares xs_aShares _ HO10_x1.out.rdF HO10_t4.out.rdF (by unfold maxLen; omega) rfl).mono ?_
  rintro e w11 ⟨rfl, hb⟩
  have HR11_aCounts := Lib.hid (HR10_aCounts.out.below hb hs10)
  have HR11_aShares := Lib.hid (HR10_aShares.out.below hb hs10)
  have HO11_t1 := Lib.hid (HO10_t1.out.below hb (Nat.le_refl _))
  have HO11_t2 := Lib.hid (HO10_t2.out.below hb (Nat.le_refl _))
  have HO11_x0 := Lib.hid (HO10_x0.out.below hb (Nat.le_refl _))
  have HO11_x1 := Lib.hid (HO10_x1.out.below hb (Nat.le_refl _))
  have HO11_t3 := Lib.hid (HO10_t3.out.below hb (Nat.le_refl _))
  have HO11_t4 := Lib.hid (HO10_t4.out.below hb (Nat.le_refl _))
  have HB11 := Lib.hid (HB10.out.trans (hb.mono hs10))
  have hs11 : w.heap.size ≤ w11.heap.size := HB11.out.size
  clear hb
  clear HR10_aCounts
  clear HR10_aShares
  clear HO10_t1
  clear HO10_t2
  clear HO10_x0
  clear HO10_x1
  clear HO10_t3
  clear HO10_t4
  clear HB10
  go_wp2
  go_ret
  exact ⟨rfl, HB11.out⟩
end Go.Proofs.Yticenfholnencaa
