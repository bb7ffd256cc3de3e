/- The statement FnExactOrderOfNumber out of the contracts of both functions; printed by a program of mine. -/
import Derived.Test.YtoddmplmeliioaaShapes
namespace Go.Proofs.Ytoddmplmeliioaa
open Go.RowKit
set_option maxRecDepth 100000 in
set_option maxHeartbeats 4000000 in
theorem law_OrderOfNumber (r : Int → Int → Option (List Int)) (hS : FnNN_LB 35 r) (hI : FnNN_LB 36 r) (hr : ∀ n_aN n_aK, ((r n_aN n_aK).getD []).length ≤ 2000000)
    (w : World) (n_aN : Int) (hf_aN : -9223372036854775808 ≤ n_aN ∧ n_aN ≤ 9223372036854775807) (n_aK : Int) (hf_aK : -9223372036854775808 ≤ n_aK ∧ n_aK ≤ 9223372036854775807) :
    Calls Try.prog 9 #[.int .i64 n_aN, .int .i64 n_aK] w fun e w' => e = .returned (.bool true) ∧ Below w.heap.size w w' := by
  have hrl := hr n_aN n_aK
  clear hr
  generalize hrx : r n_aN n_aK = rx at hrl
  have Hrx := Lib.hid hrx; clear hrx
  have Hf_aN := Lib.hid hf_aN; clear hf_aN
  have Hf_aK := Lib.hid hf_aK; clear hf_aK
  have HB0 : Hid (Below w.heap.size w w) := Below.refl _ _
  have hs0 : w.heap.size ≤ w.heap.size := Nat.le_refl _
  go_enter Try.func9, Try.ntmps9
  go_wp2_with fail
  refine (hS n_aN n_aK _ Hf_aN.out Hf_aK.out).mono ?_
  rw [Hrx.out]
  rintro e w1 ⟨v, ok, rfl, hok_w1, ho, hb⟩
  obtain ⟨A_w0, c_w0, rfl, hcap_w0⟩ := ho.shapeI
  have HO1_w0 := Lib.hid (ho.base_le hs0)
  have HB1 := Lib.hid (HB0.out.trans (hb.mono hs0))
  have hs1 : w.heap.size ≤ w1.heap.size := HB1.out.size
  clear ho hb
  clear HB0
  have hne0 : (ok != ok) = false := by simp
  go_wp2_with fail
  refine (hI n_aN n_aK _ Hf_aN.out Hf_aK.out).mono ?_
  rw [Hrx.out]
  rintro e w2 ⟨v, ok_g1, rfl, hok_g1, ho, hb⟩
  obtain rfl : ok_g1 = ok := hok_g1.out.trans hok_w1.out.symm
  obtain ⟨A_g0, c_g0, rfl, hcap_g0⟩ := ho.shapeI
  have hap1 := HO1_w0.out.apart ho (Nat.le_refl _)
  have HO2_g0 := Lib.hid (ho.base_le hs1)
  have HO2_w0 := Lib.hid (HO1_w0.out.below hb (Nat.le_refl _))
  have HB2 := Lib.hid (HB1.out.trans (hb.mono hs1))
  have hs2 : w.heap.size ≤ w2.heap.size := HB2.out.size
  clear ho hb
  clear HO1_w0
  clear HB1
  have hne1 : (ok_g1 != ok_g1) = false := by simp
  go_wp2_with fail
  refine (eqI_same A_g0 A_w0 (rx.getD []).length (rx.getD []).length c_g0 c_w0 _ (rx.getD []) _ HO2_g0.out.rdI HO2_w0.out.rdI (by unfold maxLen; omega)).mono ?_
  rintro e w3 ⟨rfl, hb⟩
  have HO3_w0 := Lib.hid (HO2_w0.out.below hb (Nat.le_refl _))
  have HO3_g0 := Lib.hid (HO2_g0.out.below hb (Nat.le_refl _))
  have HB3 := Lib.hid (HB2.out.trans (hb.mono hs2))
  have hs3 : w.heap.size ≤ w3.heap.size := HB3.out.size
  clear hb
  clear HO2_w0
  clear HO2_g0
  clear HB2
  go_wp2_with fail
  refine (markI_any A_g0 (rx.getD []).length c_g0 _ 1 (rx.getD []) _ HO3_g0.out (by omega) (by omega)).mono ?_
  rintro e w4 ⟨rfl, ho, hg⟩
  have HO4_g0 := Lib.hid ho
  have HO4_w0 := Lib.hid (HO3_w0.out.grown hg hap1)
  have HB4 := Lib.hid (below_ownGrown HB3.out HO3_g0.out hg (Nat.le_refl _) (Nat.le_refl _))
  have hs4 : w.heap.size ≤ w4.heap.size := HB4.out.size
  clear ho hg
  clear HO3_w0
  clear HO3_g0
  clear HB3
  go_wp2_with fail
  have hrd := HO4_g0.out.rdI
  rw [marks_len] at hrd
  refine (heldI_b A_g0 (rx.getD []).length c_g0 _ 1 _ hrd (by omega) (by omega)).mono ?_
  clear hrd
  rintro e w5 ⟨rfl, hb⟩
  have HO5_w0 := Lib.hid (HO4_w0.out.below hb (Nat.le_refl _))
  have HO5_g0 := Lib.hid (HO4_g0.out.below hb (Nat.le_refl _))
  have HB5 := Lib.hid (HB4.out.trans (hb.mono hs4))
  have hs5 : w.heap.size ≤ w5.heap.size := HB5.out.size
  clear hb
  clear HO4_w0
  clear HO4_g0
  clear HB4
  have hge5 : ¬ ((1 + (rx.getD []).length : Nat) : Int) < 0 := by omega
  have hne5 : (((1 + (rx.getD []).length : Nat) : Int) != ((1 + (rx.getD []).length : Nat) : Int)) = false := by simp
  go_wp2_with fail
  refine (hI n_aN n_aK _ Hf_aN.out Hf_aK.out).mono ?_
  rw [Hrx.out]
  rintro e w6 ⟨v, ok_h1, rfl, hok_h1, ho, hb⟩
  obtain rfl : ok_h1 = ok_g1 := hok_h1.out.trans hok_w1.out.symm
  obtain ⟨A_h0, c_h0, rfl, hcap_h0⟩ := ho.shapeI
  have hap2 := HO5_w0.out.apart ho (Nat.le_refl _)
  have hap3 := HO5_g0.out.apart ho (Nat.le_refl _)
  have HO6_h0 := Lib.hid (ho.base_le hs5)
  have HO6_w0 := Lib.hid (HO5_w0.out.below hb (Nat.le_refl _))
  have HO6_g0 := Lib.hid (HO5_g0.out.below hb (Nat.le_refl _))
  have HB6 := Lib.hid (HB5.out.trans (hb.mono hs5))
  have hs6 : w.heap.size ≤ w6.heap.size := HB6.out.size
  clear ho hb
  clear HO5_w0
  clear HO5_g0
  clear HB5
  have hne5 : (ok_h1 != ok_h1) = false := by simp
  go_wp2_with fail
  refine (eqI_same A_h0 A_w0 (rx.getD []).length (rx.getD []).length c_h0 c_w0 _ (rx.getD []) _ HO6_h0.out.rdI HO6_w0.out.rdI (by unfold maxLen; omega)).mono ?_
  rintro e w7 ⟨rfl, hb⟩
  have HO7_w0 := Lib.hid (HO6_w0.out.below hb (Nat.le_refl _))
  have HO7_g0 := Lib.hid (HO6_g0.out.below hb (Nat.le_refl _))
  have HO7_h0 := Lib.hid (HO6_h0.out.below hb (Nat.le_refl _))
  have HB7 := Lib.hid (HB6.out.trans (hb.mono hs6))
  have hs7 : w.heap.size ≤ w7.heap.size := HB7.out.size
  clear hb
  clear HO6_w0
  clear HO6_g0
  clear HO6_h0
  clear HB6
  go_wp2_with fail
  have hrd := HO7_g0.out.rdI
  rw [marks_len] at hrd
  refine (heldI_b A_g0 (rx.getD []).length c_g0 _ 1 _ hrd (by omega) (by omega)).mono ?_
  clear hrd
  rintro e w8 ⟨rfl, hb⟩
  have HO8_w0 := Lib.hid (HO7_w0.out.below hb (Nat.le_refl _))
  have HO8_g0 := Lib.hid (HO7_g0.out.below hb (Nat.le_refl _))
  have HO8_h0 := Lib.hid (HO7_h0.out.below hb (Nat.le_refl _))
  have HB8 := Lib.hid (HB7.out.trans (hb.mono hs7))
  have hs8 : w.heap.size ≤ w8.heap.size := HB8.out.size
  clear hb
  clear HO7_w0
  clear HO7_g0
  clear HO7_h0
  clear HB7
  have hge8 : ¬ ((1 + (rx.getD []).length : Nat) : Int) < 0 := by omega
  have hne8 : (((1 + (rx.getD []).length : Nat) : Int) != ((1 + (rx.getD []).length : Nat) : Int)) = false := by simp
  go_wp2
  go_ret
  exact ⟨rfl, HB8.out⟩
end Go.Proofs.Ytoddmplmeliioaa
