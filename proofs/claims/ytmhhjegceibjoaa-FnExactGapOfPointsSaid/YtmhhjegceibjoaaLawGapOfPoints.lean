/- The statement FnExactGapOfPoints out of the contracts of both functions; printed by a program of mine. -/
import Derived.Test.YtmhhjegceibjoaaShapes
import Derived.Test.YtmhhjegceibjoaaShapesF
import Derived.Test.YtmhhjegceibjoaaGapI
namespace Go.Proofs.Ytmhhjegceibjoaa
open Go.RowKit
set_option maxRecDepth 100000 in
set_option maxHeartbeats 4000000 in
theorem law_GapOfPoints (r : List Nat → Option Nat) (hS : FnFl_FB 4 r) (hI : FnFl_FB 6 r)
    (w : World) (A_aList : Option Addr) (n_aList c_aList : Nat) (xs_aList : List Nat) (h_aList : Rd w w.heap.size A_aList n_aList (f32s xs_aList)) (hn_aList : n_aList ≤ maxLen) :
    Calls Try.prog 3 #[.slice A_aList n_aList c_aList] w fun e w' => e = .returned (.bool true) ∧ Below w.heap.size w w' := by
  unfold maxLen at hn_aList
  by_cases hbig_aList : 1048576 < n_aList
  · go_enter Try.func3, Try.ntmps3
    go_wp2
    go_ret
    exact ⟨rfl, Below.refl _ _⟩
  have hm_aList : n_aList ≤ 1048576 := by omega
  have hlen_aList := h_aList.lenF
  have hxl_aList : xs_aList.length ≤ 1048576 := by have := hlen_aList.out; omega
  generalize hrx : r xs_aList = rx
  have Hrx := Lib.hid hrx; clear hrx
  have HB0 : Hid (Below w.heap.size w w) := Below.refl _ _
  have hs0 : w.heap.size ≤ w.heap.size := Nat.le_refl _
  have HR0_aList := Lib.hid h_aList; clear h_aList
  go_enter Try.func3, Try.ntmps3
  go_wp2_with fail
  refine (toF_any A_aList n_aList c_aList _ xs_aList _ HR0_aList.out hs0 hm_aList).mono ?_
  rintro e w1 ⟨v, rfl, ho, hb⟩
  obtain ⟨A_t1, c_t1, rfl, hcap_t1⟩ := ho.shapeF
  have HO1_t1 := Lib.hid (ho.base_le hs0)
  have HR1_aList := Lib.hid (HR0_aList.out.below hb hs0)
  have HB1 := Lib.hid (HB0.out.trans (hb.mono hs0))
  have hs1 : w.heap.size ≤ w1.heap.size := HB1.out.size
  clear ho hb
  clear HR0_aList
  clear HB0
  go_wp2_with fail
  refine (hS A_t1 xs_aList.length c_t1 _ xs_aList _ HO1_t1.out.rdF (Nat.le_refl _) hxl_aList hcap_t1.out).mono ?_
  rw [Hrx.out]
  rintro e w2 ⟨num_w0, ok, rfl, hok_w1, hnum_w0, hb⟩
  have HR2_aList := Lib.hid (HR1_aList.out.below hb hs1)
  have HO2_t1 := Lib.hid (HO1_t1.out.below hb (Nat.le_refl _))
  have HB2 := Lib.hid (HB1.out.trans (hb.mono hs1))
  have hs2 : w.heap.size ≤ w2.heap.size := HB2.out.size
  clear hb
  clear HR1_aList
  clear HO1_t1
  clear HB1
  have hne1 : (ok != ok) = false := by simp
  go_wp2_with fail
  refine (toF_any A_aList n_aList c_aList _ xs_aList _ HR2_aList.out hs2 hm_aList).mono ?_
  rintro e w3 ⟨v, rfl, ho, hb⟩
  obtain ⟨A_x0, c_x0, rfl, hcap_x0⟩ := ho.shapeF
  have hap1 := HO2_t1.out.apart ho (Nat.le_refl _)
  have HO3_x0 := Lib.hid (ho.base_le hs2)
  have HR3_aList := Lib.hid (HR2_aList.out.below hb hs2)
  have HO3_t1 := Lib.hid (HO2_t1.out.below hb (Nat.le_refl _))
  have HB3 := Lib.hid (HB2.out.trans (hb.mono hs2))
  have hs3 : w.heap.size ≤ w3.heap.size := HB3.out.size
  clear ho hb
  clear HR2_aList
  clear HO2_t1
  clear HB2
  go_wp2_with fail
  refine (hI A_x0 xs_aList.length c_x0 _ xs_aList _ HO3_x0.out.rdF (Nat.le_refl _) hxl_aList hcap_x0.out).mono ?_
  rw [Hrx.out]
  rintro e w4 ⟨num_g0, ok_g1, rfl, hok_g1, hnum_g0, hb⟩
  obtain rfl : ok_g1 = ok := hok_g1.out.trans hok_w1.out.symm
  have HR4_aList := Lib.hid (HR3_aList.out.below hb hs3)
  have HO4_t1 := Lib.hid (HO3_t1.out.below hb (Nat.le_refl _))
  have HO4_x0 := Lib.hid (HO3_x0.out.below hb (Nat.le_refl _))
  have HB4 := Lib.hid (HB3.out.trans (hb.mono hs3))
  have hs4 : w.heap.size ≤ w4.heap.size := HB4.out.size
  clear hb
  clear HR3_aList
  clear HO3_t1
  clear HO3_x0
  clear HB3
  have hne3 : (ok_g1 != ok_g1) = false := by simp
  have hcv := run_widV (P := Try.prog) 23 28 rfl Try.underlying28
  go_wp2_with fail
  refine (sameFloat_any _ _ _ (by rw [widV_cn, widV_cn]; exact widen_congr (hnum_g0.out.trans hnum_w0.out.symm))).mono ?_
  rintro e w5 ⟨rfl, hq⟩
  have hb : Below w4.heap.size w4 w5 := by obtain ⟨q, rfl⟩ := hq; exact ⟨rfl, rfl, rfl, Nat.le_refl _, fun _ _ => rfl⟩
  clear hcv hq
  have HR5_aList := Lib.hid (HR4_aList.out.below hb hs4)
  have HO5_t1 := Lib.hid (HO4_t1.out.below hb (Nat.le_refl _))
  have HO5_x0 := Lib.hid (HO4_x0.out.below hb (Nat.le_refl _))
  have HB5 := Lib.hid (HB4.out.trans (hb.mono hs4))
  have hs5 : w.heap.size ≤ w5.heap.size := HB5.out.size
  clear hb
  clear HR4_aList
  clear HO4_t1
  clear HO4_x0
  clear HB4
  go_wp2_with fail
  refine (toF_any A_aList n_aList c_aList _ xs_aList _ HR5_aList.out hs5 hm_aList).mono ?_
  rintro e w6 ⟨v, rfl, ho, hb⟩
  obtain ⟨A_t2, c_t2, rfl, hcap_t2⟩ := ho.shapeF
  have hap2 := HO5_t1.out.apart ho (Nat.le_refl _)
  have hap3 := HO5_x0.out.apart ho (Nat.le_refl _)
  have HO6_t2 := Lib.hid (ho.base_le hs5)
  have HR6_aList := Lib.hid (HR5_aList.out.below hb hs5)
  have HO6_t1 := Lib.hid (HO5_t1.out.below hb (Nat.le_refl _))
  have HO6_x0 := Lib.hid (HO5_x0.out.below hb (Nat.le_refl _))
  have HB6 := Lib.hid (HB5.out.trans (hb.mono hs5))
  have hs6 : w.heap.size ≤ w6.heap.size := HB6.out.size
  clear ho hb
  clear HR5_aList
  clear HO5_t1
  clear HO5_x0
  clear HB5
  go_wp2_with fail
  refine (eqF_same A_x0 A_t2 xs_aList.length xs_aList.length c_x0 c_t2 _ xs_aList xs_aList _ HO6_x0.out.rdF HO6_t2.out.rdF (by unfold maxLen; omega) rfl).mono ?_
  rintro e w7 ⟨rfl, hb⟩
  have HR7_aList := Lib.hid (HR6_aList.out.below hb hs6)
  have HO7_t1 := Lib.hid (HO6_t1.out.below hb (Nat.le_refl _))
  have HO7_x0 := Lib.hid (HO6_x0.out.below hb (Nat.le_refl _))
  have HO7_t2 := Lib.hid (HO6_t2.out.below hb (Nat.le_refl _))
  have HB7 := Lib.hid (HB6.out.trans (hb.mono hs6))
  have hs7 : w.heap.size ≤ w7.heap.size := HB7.out.size
  clear hb
  clear HR6_aList
  clear HO6_t1
  clear HO6_x0
  clear HO6_t2
  clear HB6
  go_wp2
  go_ret
  exact ⟨rfl, HB7.out⟩
end Go.Proofs.Ytmhhjegceibjoaa
