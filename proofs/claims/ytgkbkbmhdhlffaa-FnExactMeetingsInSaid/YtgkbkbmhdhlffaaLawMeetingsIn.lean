/- The statement FnExactMeetingsIn out of the contracts of both functions; printed by a program of mine. -/
import Derived.Test.YtgkbkbmhdhlffaaShapes
import Derived.Test.YtgkbkbmhdhlffaaShapesN
namespace Go.Proofs.Ytgkbkbmhdhlffaa
open Go.RowKit
set_option maxRecDepth 100000 in
set_option maxHeartbeats 4000000 in
theorem law_MeetingsIn (r : List Int → Int → Option (Int × Int)) (hS : FnLN_NNB 6 r) (hI : FnLN_NNB 8 r)
    (w : World) (A_aWords : Option Addr) (n_aWords c_aWords : Nat) (xs_aWords : List Int) (h_aWords : Rd w w.heap.size A_aWords n_aWords (i64s xs_aWords)) (hn_aWords : n_aWords ≤ maxLen) (hf_aWords : Fit xs_aWords) (n_aSize : Int) (hf_aSize : -9223372036854775808 ≤ n_aSize ∧ n_aSize ≤ 9223372036854775807) :
    Calls Try.prog 3 #[.slice A_aWords n_aWords c_aWords, .int .i64 n_aSize] w fun e w' => e = .returned (.bool true) ∧ Below w.heap.size w w' := by
  unfold maxLen at hn_aWords
  by_cases hbig_aWords : 1048576 < n_aWords
  · go_enter Try.func3, Try.ntmps3
    go_wp2
    go_ret
    exact ⟨rfl, Below.refl _ _⟩
  have hm_aWords : n_aWords ≤ 1048576 := by omega
  have hlen_aWords := h_aWords.lenI
  have hxl_aWords : xs_aWords.length ≤ 1048576 := by have := hlen_aWords.out; omega
  generalize hrx : r xs_aWords n_aSize = rx
  have Hrx := Lib.hid hrx; clear hrx
  have Hf_aWords := Lib.hid hf_aWords; clear hf_aWords
  have Hf_aSize := Lib.hid hf_aSize; clear hf_aSize
  have HB0 : Hid (Below w.heap.size w w) := Below.refl _ _
  have hs0 : w.heap.size ≤ w.heap.size := Nat.le_refl _
  have HR0_aWords := Lib.hid h_aWords; clear h_aWords
  go_enter Try.func3, Try.ntmps3
  go_wp2_with fail
  refine (toI_any A_aWords n_aWords c_aWords _ xs_aWords _ HR0_aWords.out hs0 hm_aWords).mono ?_
  rintro e w1 ⟨v, rfl, ho, hb⟩
  obtain ⟨A_t1, c_t1, rfl, hcap_t1⟩ := ho.shapeI
  have HO1_t1 := Lib.hid (ho.base_le hs0)
  have HR1_aWords := Lib.hid (HR0_aWords.out.below hb hs0)
  have HB1 := Lib.hid (HB0.out.trans (hb.mono hs0))
  have hs1 : w.heap.size ≤ w1.heap.size := HB1.out.size
  clear ho hb
  clear HR0_aWords
  clear HB0
  go_wp2_with fail
  refine (hS A_t1 xs_aWords.length c_t1 _ xs_aWords n_aSize _ HO1_t1.out.rdI (Nat.le_refl _) hxl_aWords Hf_aWords.out hcap_t1.out Hf_aSize.out).mono ?_
  rw [Hrx.out]
  rintro e w2 ⟨numa, numb, ok, rfl, hok_w2, hnum_w0, hnum_w1, hb⟩
  have HR2_aWords := Lib.hid (HR1_aWords.out.below hb hs1)
  have HO2_t1 := Lib.hid (HO1_t1.out.below hb (Nat.le_refl _))
  have HB2 := Lib.hid (HB1.out.trans (hb.mono hs1))
  have hs2 : w.heap.size ≤ w2.heap.size := HB2.out.size
  clear hb
  clear HR1_aWords
  clear HO1_t1
  clear HB1
  have hne1 : (ok != ok) = false := by simp
  have hnn1 : (numa != numa) = false := by simp
  have hnm1 : (numb != numb) = false := by simp
  go_wp2_with fail
  refine (toI_any A_aWords n_aWords c_aWords _ xs_aWords _ HR2_aWords.out hs2 hm_aWords).mono ?_
  rintro e w3 ⟨v, rfl, ho, hb⟩
  obtain ⟨A_x0, c_x0, rfl, hcap_x0⟩ := ho.shapeI
  have hap1 := HO2_t1.out.apart ho (Nat.le_refl _)
  have HO3_x0 := Lib.hid (ho.base_le hs2)
  have HR3_aWords := Lib.hid (HR2_aWords.out.below hb hs2)
  have HO3_t1 := Lib.hid (HO2_t1.out.below hb (Nat.le_refl _))
  have HB3 := Lib.hid (HB2.out.trans (hb.mono hs2))
  have hs3 : w.heap.size ≤ w3.heap.size := HB3.out.size
  clear ho hb
  clear HR2_aWords
  clear HO2_t1
  clear HB2
  go_wp2_with fail
  refine (hI A_x0 xs_aWords.length c_x0 _ xs_aWords n_aSize _ HO3_x0.out.rdI (Nat.le_refl _) hxl_aWords Hf_aWords.out hcap_x0.out Hf_aSize.out).mono ?_
  rw [Hrx.out]
  rintro e w4 ⟨num_g0, num_g1, ok_g2, rfl, hok_g2, hnum_g0, hnum_g1, hb⟩
  obtain rfl : ok_g2 = ok := hok_g2.out.trans hok_w2.out.symm
  obtain rfl : num_g0 = numa := hnum_g0.out.trans hnum_w0.out.symm
  obtain rfl : num_g1 = numb := hnum_g1.out.trans hnum_w1.out.symm
  have HR4_aWords := Lib.hid (HR3_aWords.out.below hb hs3)
  have HO4_t1 := Lib.hid (HO3_t1.out.below hb (Nat.le_refl _))
  have HO4_x0 := Lib.hid (HO3_x0.out.below hb (Nat.le_refl _))
  have HB4 := Lib.hid (HB3.out.trans (hb.mono hs3))
  have hs4 : w.heap.size ≤ w4.heap.size := HB4.out.size
  clear hb
  clear HR3_aWords
  clear HO3_t1
  clear HO3_x0
  clear HB3
  have hne3 : (ok_g2 != ok_g2) = false := by simp
  have hnn3 : (num_g0 != num_g0) = false := by simp
  have hnm3 : (num_g1 != num_g1) = false := by simp
  go_wp2_with fail
  refine (toI_any A_aWords n_aWords c_aWords _ xs_aWords _ HR4_aWords.out hs4 hm_aWords).mono ?_
  rintro e w5 ⟨v, rfl, ho, hb⟩
  obtain ⟨A_t2, c_t2, rfl, hcap_t2⟩ := ho.shapeI
  have hap2 := HO4_t1.out.apart ho (Nat.le_refl _)
  have hap3 := HO4_x0.out.apart ho (Nat.le_refl _)
  have HO5_t2 := Lib.hid (ho.base_le hs4)
  have HR5_aWords := Lib.hid (HR4_aWords.out.below hb hs4)
  have HO5_t1 := Lib.hid (HO4_t1.out.below hb (Nat.le_refl _))
  have HO5_x0 := Lib.hid (HO4_x0.out.below hb (Nat.le_refl _))
  have HB5 := Lib.hid (HB4.out.trans (hb.mono hs4))
  have hs5 : w.heap.size ≤ w5.heap.size := HB5.out.size
  clear ho hb
  clear HR4_aWords
  clear HO4_t1
  clear HO4_x0
  clear HB4
  go_wp2_with fail
  refine (eqI_same A_x0 A_t2 xs_aWords.length xs_aWords.length c_x0 c_t2 _ xs_aWords _ HO5_x0.out.rdI HO5_t2.out.rdI (by unfold maxLen; omega)).mono ?_
  rintro e w6 ⟨rfl, hb⟩
  have HR6_aWords := Lib.hid (HR5_aWords.out.below hb hs5)
  have HO6_t1 := Lib.hid (HO5_t1.out.below hb (Nat.le_refl _))
  have HO6_x0 := Lib.hid (HO5_x0.out.below hb (Nat.le_refl _))
  have HO6_t2 := Lib.hid (HO5_t2.out.below hb (Nat.le_refl _))
  have HB6 := Lib.hid (HB5.out.trans (hb.mono hs5))
  have hs6 : w.heap.size ≤ w6.heap.size := HB6.out.size
  clear hb
  clear HR5_aWords
  clear HO5_t1
  clear HO5_x0
  clear HO5_t2
  clear HB5
  go_wp2
  go_ret
  exact ⟨rfl, HB6.out⟩
end Go.Proofs.Ytgkbkbmhdhlffaa
