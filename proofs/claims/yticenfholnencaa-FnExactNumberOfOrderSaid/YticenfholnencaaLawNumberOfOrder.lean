/- The statement FnExactNumberOfOrder out of the contracts of both functions; printed by a program of mine. -/
import Derived.Test.YticenfholnencaaShapes
namespace Go.Proofs.Yticenfholnencaa
open Go.RowKit
set_option maxRecDepth 100000 in
set_option maxHeartbeats 4000000 in
theorem law_NumberOfOrder (r : List Int → Option Int) (hS : FnL_NB 44 r) (hI : FnL_NB 45 r)
    (w : World) (A_aList : Option Addr) (n_aList c_aList : Nat) (xs_aList : List Int) (h_aList : Rd w w.heap.size A_aList n_aList (i64s xs_aList)) (hn_aList : n_aList ≤ maxLen) (hf_aList : Fit xs_aList) :
    Calls Try.prog 10 #[.slice A_aList n_aList c_aList] w fun e w' => e = .returned (.bool true) ∧ Below w.heap.size w w' := by
  unfold maxLen at hn_aList
  by_cases hbig_aList : 1048576 < n_aList
  · go_enter Try.func10, Try.ntmps10
    go_wp2
    go_ret
    exact ⟨rfl, Below.refl _ _⟩
  have hm_aList : n_aList ≤ 1048576 := by omega
  have hlen_aList := h_aList.lenI
  have hxl_aList : xs_aList.length ≤ 1048576 := by have := hlen_aList.out; omega
  generalize hrx : r xs_aList = rx
  have Hrx := Lib.hid hrx; clear hrx
  have Hf_aList := Lib.hid hf_aList; clear hf_aList
  have HB0 : Hid (Below w.heap.size w w) := Below.refl _ _
  have hs0 : w.heap.size ≤ w.heap.size := Nat.le_refl _
  have HR0_aList := Lib.hid h_aList; clear h_aList
  go_enter Try.func10, Try.ntmps10
  go_wp2_with fail
  refine (toI_any A_aList n_aList c_aList _ xs_aList _ HR0_aList.out hs0 hm_aList).mono ?_
  rintro e w1 ⟨v, rfl, ho, hb⟩
  obtain ⟨A_t1, c_t1, rfl, hcap_t1⟩ := ho.shapeI
  have HO1_t1 := Lib.hid (ho.base_le hs0)
  have HR1_aList := Lib.hid (HR0_aList.out.below hb hs0)
  have HB1 := Lib.hid (HB0.out.trans (hb.mono hs0))
  have hs1 : w.heap.size ≤ w1.heap.size := HB1.out.size
  clear ho hb
  clear HR0_aList
  clear HB0
  go_wp2_with fail
  refine (hS A_t1 xs_aList.length c_t1 _ xs_aList _ HO1_t1.out.rdI (Nat.le_refl _) hxl_aList Hf_aList.out hcap_t1.out).mono ?_
  rw [Hrx.out]
  rintro e w2 ⟨num, ok, rfl, hok_w1, hnum_w0, hb⟩
  have HR2_aList := Lib.hid (HR1_aList.out.below hb hs1)
  have HO2_t1 := Lib.hid (HO1_t1.out.below hb (Nat.le_refl _))
  have HB2 := Lib.hid (HB1.out.trans (hb.mono hs1))
  have hs2 : w.heap.size ≤ w2.heap.size := HB2.out.size
  clear hb
  clear HR1_aList
  clear HO1_t1
  clear HB1
  have hne1 : (ok != ok) = false := by simp
  have hnn1 : (num != num) = false := by simp
  go_wp2_with fail
  refine (toI_any A_aList n_aList c_aList _ xs_aList _ HR2_aList.out hs2 hm_aList).mono ?_
  rintro e w3 ⟨v, rfl, ho, hb⟩
  obtain ⟨A_x0, c_x0, rfl, hcap_x0⟩ := ho.shapeI
  have hap1 := HO2_t1.out.apart ho (Nat.le_refl _)
  have HO3_x0 := Lib.hid (ho.base_le hs2)
  have HR3_aList := Lib.hid (HR2_aList.out.below hb hs2)
  have HO3_t1 := Lib.hid (HO2_t1.out.below hb (Nat.le_refl _))
  have HB3 := Lib.hid (HB2.out.trans (hb.mono hs2))
  have hs3 : w.heap.size ≤ w3.heap.size := HB3.out.size
  clear ho hb
  clear HR2_aList
  clear HO2_t1
  clear HB2
  go_wp2_with fail
  refine (hI A_x0 xs_aList.length c_x0 _ xs_aList _ HO3_x0.out.rdI (Nat.le_refl _) hxl_aList Hf_aList.out hcap_x0.out).mono ?_
  rw [Hrx.out]
  rintro e w4 ⟨num_g0, ok_g1, rfl, hok_g1, hnum_g0, hb⟩
  obtain rfl : ok_g1 = ok := hok_g1.out.trans hok_w1.out.symm
  obtain rfl : num_g0 = num := hnum_g0.out.trans hnum_w0.out.symm
  have HR4_aList := Lib.hid (HR3_aList.out.below hb hs3)
  have HO4_t1 := Lib.hid (HO3_t1.out.below hb (Nat.le_refl _))
  have HO4_x0 := Lib.hid (HO3_x0.out.below hb (Nat.le_refl _))
  have HB4 := Lib.hid (HB3.out.trans (hb.mono hs3))
  have hs4 : w.heap.size ≤ w4.heap.size := HB4.out.size
  clear hb
  clear HR3_aList
  clear HO3_t1
  clear HO3_x0
  clear HB3
  have hne3 : (ok_g1 != ok_g1) = false := by simp
  have hnn3 : (num_g0 != num_g0) = false := by simp
  go_wp2_with fail
  refine (toI_any A_aList n_aList c_aList _ xs_aList _ HR4_aList.out hs4 hm_aList).mono ?_
  rintro e w5 ⟨v, rfl, ho, hb⟩
  obtain ⟨A_t2, c_t2, rfl, hcap_t2⟩ := ho.shapeI
  have hap2 := HO4_t1.out.apart ho (Nat.le_refl _)
  have hap3 := HO4_x0.out.apart ho (Nat.le_refl _)
  have HO5_t2 := Lib.hid (ho.base_le hs4)
  have HR5_aList := Lib.hid (HR4_aList.out.below hb hs4)
  have HO5_t1 := Lib.hid (HO4_t1.out.below hb (Nat.le_refl _))
  have HO5_x0 := Lib.hid (HO4_x0.out.below hb (Nat.le_refl _))
  have HB5 := Lib.hid (HB4.out.trans (hb.mono hs4))
  have hs5 : w.heap.size ≤ w5.heap.size := HB5.out.size
  clear ho hb
  clear HR4_aList
  clear HO4_t1
  clear HO4_x0
  clear HB4
  go_wp2_with fail
  refine (eqI_same A_x0 A_t2 xs_aList.length xs_aList.length c_x0 c_t2 _ xs_aList _ HO5_x0.out.rdI HO5_t2.out.rdI (by unfold maxLen; omega)).mono ?_
  rintro e w6 ⟨rfl, hb⟩
  have HR6_aList := Lib.hid (HR5_aList.out.below hb hs5)
  have HO6_t1 := Lib.hid (HO5_t1.out.below hb (Nat.le_refl _))
  have HO6_x0 := Lib.hid (HO5_x0.out.below hb (Nat.le_refl _))
  have HO6_t2 := Lib.hid (HO5_t2.out.below hb (Nat.le_refl _))
  have HB6 := Lib.hid (HB5.out.trans (hb.mono hs5))
  have hs6 : w.heap.size ≤ w6.heap.size := HB6.out.size
  clear hb
  clear HR5_aList
  clear HO5_t1
  clear HO5_x0
  clear HO5_t2
  clear HB5
  go_wp2
  go_ret
  exact ⟨rfl, HB6.out⟩
end Go.Proofs.Yticenfholnencaa
