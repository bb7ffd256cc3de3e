/- The statement FnExactCodeOfTree out of the contracts of both functions; printed by a program of mine. -/
import Derived.Test.YtgkbkbmhdhlffaaShapes
namespace Go.Proofs.Ytgkbkbmhdhlffaa
open Go.RowKit
set_option maxRecDepth 100000 in
set_option maxHeartbeats 4000000 in
theorem law_CodeOfTree (r : List Int → Int → Option (List Int)) (hS : FnLN_LB 10 r) (hI : FnLN_LB 11 r) (hr : ∀ xs_aEdges n_aN, xs_aEdges.length ≤ 1048576 → ((r xs_aEdges n_aN).getD []).length ≤ 2000000)
    (w : World) (A_aEdges : Option Addr) (n_aEdges c_aEdges : Nat) (xs_aEdges : List Int) (h_aEdges : Rd w w.heap.size A_aEdges n_aEdges (i64s xs_aEdges)) (hn_aEdges : n_aEdges ≤ maxLen) (hf_aEdges : Fit xs_aEdges) (n_aN : Int) (hf_aN : -9223372036854775808 ≤ n_aN ∧ n_aN ≤ 9223372036854775807) :
    Calls Try.prog 4 #[.slice A_aEdges n_aEdges c_aEdges, .int .i64 n_aN] w fun e w' => e = .returned (.bool true) ∧ Below w.heap.size w w' := by
  unfold maxLen at hn_aEdges
  by_cases hbig_aEdges : 1048576 < n_aEdges
  · go_enter Try.func4, Try.ntmps4
    go_wp2
    go_ret
    exact ⟨rfl, Below.refl _ _⟩
  have hm_aEdges : n_aEdges ≤ 1048576 := by omega
  have hlen_aEdges := h_aEdges.lenI
  have hxl_aEdges : xs_aEdges.length ≤ 1048576 := by have := hlen_aEdges.out; omega
  have hrl := hr xs_aEdges n_aN hxl_aEdges
  clear hr
  generalize hrx : r xs_aEdges n_aN = rx at hrl
  have Hrx := Lib.hid hrx; clear hrx
  have Hf_aEdges := Lib.hid hf_aEdges; clear hf_aEdges
  have Hf_aN := Lib.hid hf_aN; clear hf_aN
  have HB0 : Hid (Below w.heap.size w w) := Below.refl _ _
  have hs0 : w.heap.size ≤ w.heap.size := Nat.le_refl _
  have HR0_aEdges := Lib.hid h_aEdges; clear h_aEdges
  go_enter Try.func4, Try.ntmps4
  go_wp2_with fail
  refine (toI_any A_aEdges n_aEdges c_aEdges _ xs_aEdges _ HR0_aEdges.out hs0 hm_aEdges).mono ?_
  rintro e w1 ⟨v, rfl, ho, hb⟩
  obtain ⟨A_t1, c_t1, rfl, hcap_t1⟩ := ho.shapeI
  have HO1_t1 := Lib.hid (ho.base_le hs0)
  have HR1_aEdges := Lib.hid (HR0_aEdges.out.below hb hs0)
  have HB1 := Lib.hid (HB0.out.trans (hb.mono hs0))
  have hs1 : w.heap.size ≤ w1.heap.size := HB1.out.size
  clear ho hb
  clear HR0_aEdges
  clear HB0
  go_wp2_with fail
  refine (hS A_t1 xs_aEdges.length c_t1 _ xs_aEdges n_aN _ HO1_t1.out.rdI (Nat.le_refl _) hxl_aEdges Hf_aEdges.out hcap_t1.out Hf_aN.out).mono ?_
  rw [Hrx.out]
  rintro e w2 ⟨v, ok, rfl, hok_w1, ho, hb⟩
  obtain ⟨A_w0, c_w0, rfl, hcap_w0⟩ := ho.shapeI
  have hap1 := HO1_t1.out.apart ho (Nat.le_refl _)
  have HO2_w0 := Lib.hid (ho.base_le hs1)
  have HR2_aEdges := Lib.hid (HR1_aEdges.out.below hb hs1)
  have HO2_t1 := Lib.hid (HO1_t1.out.below hb (Nat.le_refl _))
  have HB2 := Lib.hid (HB1.out.trans (hb.mono hs1))
  have hs2 : w.heap.size ≤ w2.heap.size := HB2.out.size
  clear ho hb
  clear HR1_aEdges
  clear HO1_t1
  clear HB1
  have hne1 : (ok != ok) = false := by simp
  go_wp2_with fail
  refine (toI_any A_aEdges n_aEdges c_aEdges _ xs_aEdges _ HR2_aEdges.out hs2 hm_aEdges).mono ?_
  rintro e w3 ⟨v, rfl, ho, hb⟩
  obtain ⟨A_x0, c_x0, rfl, hcap_x0⟩ := ho.shapeI
  have hap2 := HO2_t1.out.apart ho (Nat.le_refl _)
  have hap3 := HO2_w0.out.apart ho (Nat.le_refl _)
  have HO3_x0 := Lib.hid (ho.base_le hs2)
  have HR3_aEdges := Lib.hid (HR2_aEdges.out.below hb hs2)
  have HO3_t1 := Lib.hid (HO2_t1.out.below hb (Nat.le_refl _))
  have HO3_w0 := Lib.hid (HO2_w0.out.below hb (Nat.le_refl _))
  have HB3 := Lib.hid (HB2.out.trans (hb.mono hs2))
  have hs3 : w.heap.size ≤ w3.heap.size := HB3.out.size
  clear ho hb
  clear HR2_aEdges
  clear HO2_t1
  clear HO2_w0
  clear HB2
  go_wp2_with fail
  refine (hI A_x0 xs_aEdges.length c_x0 _ xs_aEdges n_aN _ HO3_x0.out.rdI (Nat.le_refl _) hxl_aEdges Hf_aEdges.out hcap_x0.out Hf_aN.out).mono ?_
  rw [Hrx.out]
  rintro e w4 ⟨v, ok_g1, rfl, hok_g1, ho, hb⟩
  obtain rfl : ok_g1 = ok := hok_g1.out.trans hok_w1.out.symm
  obtain ⟨A_g0, c_g0, rfl, hcap_g0⟩ := ho.shapeI
  have hap4 := HO3_t1.out.apart ho (Nat.le_refl _)
  have hap5 := HO3_w0.out.apart ho (Nat.le_refl _)
  have hap6 := HO3_x0.out.apart ho (Nat.le_refl _)
  have HO4_g0 := Lib.hid (ho.base_le hs3)
  have HR4_aEdges := Lib.hid (HR3_aEdges.out.below hb hs3)
  have HO4_t1 := Lib.hid (HO3_t1.out.below hb (Nat.le_refl _))
  have HO4_w0 := Lib.hid (HO3_w0.out.below hb (Nat.le_refl _))
  have HO4_x0 := Lib.hid (HO3_x0.out.below hb (Nat.le_refl _))
  have HB4 := Lib.hid (HB3.out.trans (hb.mono hs3))
  have hs4 : w.heap.size ≤ w4.heap.size := HB4.out.size
  clear ho hb
  clear HR3_aEdges
  clear HO3_t1
  clear HO3_w0
  clear HO3_x0
  clear HB3
  have hne3 : (ok_g1 != ok_g1) = false := by simp
  go_wp2_with fail
  refine (eqI_same A_g0 A_w0 (rx.getD []).length (rx.getD []).length c_g0 c_w0 _ (rx.getD []) _ HO4_g0.out.rdI HO4_w0.out.rdI (by unfold maxLen; omega)).mono ?_
  rintro e w5 ⟨rfl, hb⟩
  have HR5_aEdges := Lib.hid (HR4_aEdges.out.below hb hs4)
  have HO5_t1 := Lib.hid (HO4_t1.out.below hb (Nat.le_refl _))
  have HO5_w0 := Lib.hid (HO4_w0.out.below hb (Nat.le_refl _))
  have HO5_x0 := Lib.hid (HO4_x0.out.below hb (Nat.le_refl _))
  have HO5_g0 := Lib.hid (HO4_g0.out.below hb (Nat.le_refl _))
  have HB5 := Lib.hid (HB4.out.trans (hb.mono hs4))
  have hs5 : w.heap.size ≤ w5.heap.size := HB5.out.size
  clear hb
  clear HR4_aEdges
  clear HO4_t1
  clear HO4_w0
  clear HO4_x0
  clear HO4_g0
  clear HB4
  go_wp2_with fail
  refine (toI_any A_aEdges n_aEdges c_aEdges _ xs_aEdges _ HR5_aEdges.out hs5 hm_aEdges).mono ?_
  rintro e w6 ⟨v, rfl, ho, hb⟩
  obtain ⟨A_t2, c_t2, rfl, hcap_t2⟩ := ho.shapeI
  have hap7 := HO5_t1.out.apart ho (Nat.le_refl _)
  have hap8 := HO5_w0.out.apart ho (Nat.le_refl _)
  have hap9 := HO5_x0.out.apart ho (Nat.le_refl _)
  have hap10 := HO5_g0.out.apart ho (Nat.le_refl _)
  have HO6_t2 := Lib.hid (ho.base_le hs5)
  have HR6_aEdges := Lib.hid (HR5_aEdges.out.below hb hs5)
  have HO6_t1 := Lib.hid (HO5_t1.out.below hb (Nat.le_refl _))
  have HO6_w0 := Lib.hid (HO5_w0.out.below hb (Nat.le_refl _))
  have HO6_x0 := Lib.hid (HO5_x0.out.below hb (Nat.le_refl _))
  have HO6_g0 := Lib.hid (HO5_g0.out.below hb (Nat.le_refl _))
  have HB6 := Lib.hid (HB5.out.trans (hb.mono hs5))
  have hs6 : w.heap.size ≤ w6.heap.size := HB6.out.size
  clear ho hb
  clear HR5_aEdges
  clear HO5_t1
  clear HO5_w0
  clear HO5_x0
  clear HO5_g0
  clear HB5
  go_wp2_with fail
  refine (eqI_same A_x0 A_t2 xs_aEdges.length xs_aEdges.length c_x0 c_t2 _ xs_aEdges _ HO6_x0.out.rdI HO6_t2.out.rdI (by unfold maxLen; omega)).mono ?_
  rintro e w7 ⟨rfl, hb⟩
  have HR7_aEdges := Lib.hid (HR6_aEdges.out.below hb hs6)
  have HO7_t1 := Lib.hid (HO6_t1.out.below hb (Nat.le_refl _))
  have HO7_w0 := Lib.hid (HO6_w0.out.below hb (Nat.le_refl _))
  have HO7_x0 := Lib.hid (HO6_x0.out.below hb (Nat.le_refl _))
  have HO7_g0 := Lib.hid (HO6_g0.out.below hb (Nat.le_refl _))
  have HO7_t2 := Lib.hid (HO6_t2.out.below hb (Nat.le_refl _))
  have HB7 := Lib.hid (HB6.out.trans (hb.mono hs6))
  have hs7 : w.heap.size ≤ w7.heap.size := HB7.out.size
  clear hb
  clear HR6_aEdges
  clear HO6_t1
  clear HO6_w0
  clear HO6_x0
  clear HO6_g0
  clear HO6_t2
  clear HB6
  go_wp2_with fail
  refine (markI_any A_x0 xs_aEdges.length c_x0 _ 1 xs_aEdges _ HO7_x0.out (by omega) (by omega)).mono ?_
  rintro e w8 ⟨rfl, ho, hg⟩
  have HO8_x0 := Lib.hid ho
  have HR8_aEdges := Lib.hid (HR7_aEdges.out.ownGrown HO7_x0.out hg hs7 (Nat.le_refl _))
  have HO8_t1 := Lib.hid (HO7_t1.out.grown hg hap2)
  have HO8_w0 := Lib.hid (HO7_w0.out.grown hg hap3)
  have HO8_g0 := Lib.hid (HO7_g0.out.grown hg hap6.symm)
  have HO8_t2 := Lib.hid (HO7_t2.out.grown hg hap9.symm)
  have HB8 := Lib.hid (below_ownGrown HB7.out HO7_x0.out hg (Nat.le_refl _) (Nat.le_refl _))
  have hs8 : w.heap.size ≤ w8.heap.size := HB8.out.size
  clear ho hg
  clear HR7_aEdges
  clear HO7_t1
  clear HO7_w0
  clear HO7_x0
  clear HO7_g0
  clear HO7_t2
  clear HB7
  go_wp2_with fail
  refine (eqI_same A_g0 A_w0 (rx.getD []).length (rx.getD []).length c_g0 c_w0 _ (rx.getD []) _ HO8_g0.out.rdI HO8_w0.out.rdI (by unfold maxLen; omega)).mono ?_
  rintro e w9 ⟨rfl, hb⟩
  have HR9_aEdges := Lib.hid (HR8_aEdges.out.below hb hs8)
  have HO9_t1 := Lib.hid (HO8_t1.out.below hb (Nat.le_refl _))
  have HO9_w0 := Lib.hid (HO8_w0.out.below hb (Nat.le_refl _))
  have HO9_x0 := Lib.hid (HO8_x0.out.below hb (Nat.le_refl _))
  have HO9_g0 := Lib.hid (HO8_g0.out.below hb (Nat.le_refl _))
  have HO9_t2 := Lib.hid (HO8_t2.out.below hb (Nat.le_refl _))
  have HB9 := Lib.hid (HB8.out.trans (hb.mono hs8))
  have hs9 : w.heap.size ≤ w9.heap.size := HB9.out.size
  clear hb
  clear HR8_aEdges
  clear HO8_t1
  clear HO8_w0
  clear HO8_x0
  clear HO8_g0
  clear HO8_t2
  clear HB8
  go_wp2_with fail
  refine (markI_any A_g0 (rx.getD []).length c_g0 _ 1 (rx.getD []) _ HO9_g0.out (by omega) (by omega)).mono ?_
  rintro e w10 ⟨rfl, ho, hg⟩
  have HO10_g0 := Lib.hid ho
  have HR10_aEdges := Lib.hid (HR9_aEdges.out.ownGrown HO9_g0.out hg hs9 (Nat.le_refl _))
  have HO10_t1 := Lib.hid (HO9_t1.out.grown hg hap4)
  have HO10_w0 := Lib.hid (HO9_w0.out.grown hg hap5)
  have HO10_x0 := Lib.hid (HO9_x0.out.grown hg hap6)
  have HO10_t2 := Lib.hid (HO9_t2.out.grown hg hap10.symm)
  have HB10 := Lib.hid (below_ownGrown HB9.out HO9_g0.out hg (Nat.le_refl _) (Nat.le_refl _))
  have hs10 : w.heap.size ≤ w10.heap.size := HB10.out.size
  clear ho hg
  clear HR9_aEdges
  clear HO9_t1
  clear HO9_w0
  clear HO9_x0
  clear HO9_g0
  clear HO9_t2
  clear HB9
  go_wp2_with fail
  have hrd := HO10_g0.out.rdI
  rw [marks_len] at hrd
  refine (heldI_b A_g0 (rx.getD []).length c_g0 _ 1 _ hrd (by omega) (by omega)).mono ?_
  clear hrd
  rintro e w11 ⟨rfl, hb⟩
  have HR11_aEdges := Lib.hid (HR10_aEdges.out.below hb hs10)
  have HO11_t1 := Lib.hid (HO10_t1.out.below hb (Nat.le_refl _))
  have HO11_w0 := Lib.hid (HO10_w0.out.below hb (Nat.le_refl _))
  have HO11_x0 := Lib.hid (HO10_x0.out.below hb (Nat.le_refl _))
  have HO11_g0 := Lib.hid (HO10_g0.out.below hb (Nat.le_refl _))
  have HO11_t2 := Lib.hid (HO10_t2.out.below hb (Nat.le_refl _))
  have HB11 := Lib.hid (HB10.out.trans (hb.mono hs10))
  have hs11 : w.heap.size ≤ w11.heap.size := HB11.out.size
  clear hb
  clear HR10_aEdges
  clear HO10_t1
  clear HO10_w0
  clear HO10_x0
  clear HO10_g0
  clear HO10_t2
  clear HB10
  have hge11 : ¬ ((1 + (rx.getD []).length : Nat) : Int) < 0 := by omega
  have hne11 : (((1 + (rx.getD []).length : Nat) : Int) != ((1 + (rx.getD []).length : Nat) : Int)) = false := by simp
  go_wp2_with fail
  refine (toI_any A_aEdges n_aEdges c_aEdges _ xs_aEdges _ HR11_aEdges.out hs11 hm_aEdges).mono ?_
  rintro e w12 ⟨v, rfl, ho, hb⟩
  obtain ⟨A_t3, c_t3, rfl, hcap_t3⟩ := ho.shapeI
  have hap11 := HO11_t1.out.apart ho (Nat.le_refl _)
  have hap12 := HO11_w0.out.apart ho (Nat.le_refl _)
  have hap13 := HO11_x0.out.apart ho (Nat.le_refl _)
  have hap14 := HO11_g0.out.apart ho (Nat.le_refl _)
  have hap15 := HO11_t2.out.apart ho (Nat.le_refl _)
  have HO12_t3 := Lib.hid (ho.base_le hs11)
  have HR12_aEdges := Lib.hid (HR11_aEdges.out.below hb hs11)
  have HO12_t1 := Lib.hid (HO11_t1.out.below hb (Nat.le_refl _))
  have HO12_w0 := Lib.hid (HO11_w0.out.below hb (Nat.le_refl _))
  have HO12_x0 := Lib.hid (HO11_x0.out.below hb (Nat.le_refl _))
  have HO12_g0 := Lib.hid (HO11_g0.out.below hb (Nat.le_refl _))
  have HO12_t2 := Lib.hid (HO11_t2.out.below hb (Nat.le_refl _))
  have HB12 := Lib.hid (HB11.out.trans (hb.mono hs11))
  have hs12 : w.heap.size ≤ w12.heap.size := HB12.out.size
  clear ho hb
  clear HR11_aEdges
  clear HO11_t1
  clear HO11_w0
  clear HO11_x0
  clear HO11_g0
  clear HO11_t2
  clear HB11
  go_wp2_with fail
  refine (hI A_t3 xs_aEdges.length c_t3 _ xs_aEdges n_aN _ HO12_t3.out.rdI (Nat.le_refl _) hxl_aEdges Hf_aEdges.out hcap_t3.out Hf_aN.out).mono ?_
  rw [Hrx.out]
  rintro e w13 ⟨v, ok_h1, rfl, hok_h1, ho, hb⟩
  obtain rfl : ok_h1 = ok_g1 := hok_h1.out.trans hok_w1.out.symm
  obtain ⟨A_h0, c_h0, rfl, hcap_h0⟩ := ho.shapeI
  have hap16 := HO12_t1.out.apart ho (Nat.le_refl _)
  have hap17 := HO12_w0.out.apart ho (Nat.le_refl _)
  have hap18 := HO12_x0.out.apart ho (Nat.le_refl _)
  have hap19 := HO12_g0.out.apart ho (Nat.le_refl _)
  have hap20 := HO12_t2.out.apart ho (Nat.le_refl _)
  have hap21 := HO12_t3.out.apart ho (Nat.le_refl _)
  have HO13_h0 := Lib.hid (ho.base_le hs12)
  have HR13_aEdges := Lib.hid (HR12_aEdges.out.below hb hs12)
  have HO13_t1 := Lib.hid (HO12_t1.out.below hb (Nat.le_refl _))
  have HO13_w0 := Lib.hid (HO12_w0.out.below hb (Nat.le_refl _))
  have HO13_x0 := Lib.hid (HO12_x0.out.below hb (Nat.le_refl _))
  have HO13_g0 := Lib.hid (HO12_g0.out.below hb (Nat.le_refl _))
  have HO13_t2 := Lib.hid (HO12_t2.out.below hb (Nat.le_refl _))
  have HO13_t3 := Lib.hid (HO12_t3.out.below hb (Nat.le_refl _))
  have HB13 := Lib.hid (HB12.out.trans (hb.mono hs12))
  have hs13 : w.heap.size ≤ w13.heap.size := HB13.out.size
  clear ho hb
  clear HR12_aEdges
  clear HO12_t1
  clear HO12_w0
  clear HO12_x0
  clear HO12_g0
  clear HO12_t2
  clear HO12_t3
  clear HB12
  have hne12 : (ok_h1 != ok_h1) = false := by simp
  go_wp2_with fail
  refine (eqI_same A_h0 A_w0 (rx.getD []).length (rx.getD []).length c_h0 c_w0 _ (rx.getD []) _ HO13_h0.out.rdI HO13_w0.out.rdI (by unfold maxLen; omega)).mono ?_
  rintro e w14 ⟨rfl, hb⟩
  have HR14_aEdges := Lib.hid (HR13_aEdges.out.below hb hs13)
  have HO14_t1 := Lib.hid (HO13_t1.out.below hb (Nat.le_refl _))
  have HO14_w0 := Lib.hid (HO13_w0.out.below hb (Nat.le_refl _))
  have HO14_x0 := Lib.hid (HO13_x0.out.below hb (Nat.le_refl _))
  have HO14_g0 := Lib.hid (HO13_g0.out.below hb (Nat.le_refl _))
  have HO14_t2 := Lib.hid (HO13_t2.out.below hb (Nat.le_refl _))
  have HO14_t3 := Lib.hid (HO13_t3.out.below hb (Nat.le_refl _))
  have HO14_h0 := Lib.hid (HO13_h0.out.below hb (Nat.le_refl _))
  have HB14 := Lib.hid (HB13.out.trans (hb.mono hs13))
  have hs14 : w.heap.size ≤ w14.heap.size := HB14.out.size
  clear hb
  clear HR13_aEdges
  clear HO13_t1
  clear HO13_w0
  clear HO13_x0
  clear HO13_g0
  clear HO13_t2
  clear HO13_t3
  clear HO13_h0
  clear HB13
  go_wp2_with fail
  have hrd := HO14_g0.out.rdI
  rw [marks_len] at hrd
  refine (heldI_b A_g0 (rx.getD []).length c_g0 _ 1 _ hrd (by omega) (by omega)).mono ?_
  clear hrd
  rintro e w15 ⟨rfl, hb⟩
  have HR15_aEdges := Lib.hid (HR14_aEdges.out.below hb hs14)
  have HO15_t1 := Lib.hid (HO14_t1.out.below hb (Nat.le_refl _))
  have HO15_w0 := Lib.hid (HO14_w0.out.below hb (Nat.le_refl _))
  have HO15_x0 := Lib.hid (HO14_x0.out.below hb (Nat.le_refl _))
  have HO15_g0 := Lib.hid (HO14_g0.out.below hb (Nat.le_refl _))
  have HO15_t2 := Lib.hid (HO14_t2.out.below hb (Nat.le_refl _))
  have HO15_t3 := Lib.hid (HO14_t3.out.below hb (Nat.le_refl _))
  have HO15_h0 := Lib.hid (HO14_h0.out.below hb (Nat.le_refl _))
  have HB15 := Lib.hid (HB14.out.trans (hb.mono hs14))
  have hs15 : w.heap.size ≤ w15.heap.size := HB15.out.size
  clear hb
  clear HR14_aEdges
  clear HO14_t1
  clear HO14_w0
  clear HO14_x0
  clear HO14_g0
  clear HO14_t2
  clear HO14_t3
  clear HO14_h0
  clear HB14
  have hge15 : ¬ ((1 + (rx.getD []).length : Nat) : Int) < 0 := by omega
  have hne15 : (((1 + (rx.getD []).length : Nat) : Int) != ((1 + (rx.getD []).length : Nat) : Int)) = false := by simp
  go_wp2
  go_ret
  exact ⟨rfl, HB15.out⟩
end Go.Proofs.Ytgkbkbmhdhlffaa
