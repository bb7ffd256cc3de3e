/- The statement FnExactTurnedDigits out of the contracts of both functions; printed by a program of mine. -/
import Derived.Test.YticenfholnencaaShapes
import Derived.Test.YticenfholnencaaShapesF
namespace Go.Proofs.Yticenfholnencaa
open Go.RowKit
set_option maxRecDepth 100000 in
set_option maxHeartbeats 4000000 in
theorem law_TurnedDigits (r : Int → Int → List Int → Option Nat) (hS : FnNNL_FB 50 r) (hI : FnNNL_FB 51 r)
    (w : World) (n_aN : Int) (hf_aN : -9223372036854775808 ≤ n_aN ∧ n_aN ≤ 9223372036854775807) (n_aBase : Int) (hf_aBase : -9223372036854775808 ≤ n_aBase ∧ n_aBase ≤ 9223372036854775807) (A_aDigits : Option Addr) (n_aDigits c_aDigits : Nat) (xs_aDigits : List Int) (h_aDigits : Rd w w.heap.size A_aDigits n_aDigits (i64s xs_aDigits)) (hn_aDigits : n_aDigits ≤ maxLen) (hf_aDigits : Fit xs_aDigits) :
    Calls Try.prog 12 #[.int .i64 n_aN, .int .i64 n_aBase, .slice A_aDigits n_aDigits c_aDigits] w fun e w' => e = .returned (.bool true) ∧ Below w.heap.size w w' := by
  unfold maxLen at hn_aDigits
  by_cases hbig_aDigits : 1048576 < n_aDigits
  · go_enter Try.func12, Try.ntmps12
    go_wp2
    go_ret
    exact ⟨rfl, Below.refl _ _⟩
  have hm_aDigits : n_aDigits ≤ 1048576 := by omega
  have hlen_aDigits := h_aDigits.lenI
  have hxl_aDigits : xs_aDigits.length ≤ 1048576 := by have := hlen_aDigits.out; omega
  generalize hrx : r n_aN n_aBase xs_aDigits = rx
  have Hrx := Lib.hid hrx; clear hrx
  have Hf_aN := Lib.hid hf_aN; clear hf_aN
  have Hf_aBase := Lib.hid hf_aBase; clear hf_aBase
  have Hf_aDigits := Lib.hid hf_aDigits; clear hf_aDigits
  have HB0 : Hid (Below w.heap.size w w) := Below.refl _ _
  have hs0 : w.heap.size ≤ w.heap.size := Nat.le_refl _
  have HR0_aDigits := Lib.hid h_aDigits; clear h_aDigits
  go_enter Try.func12, Try.ntmps12
  go_wp2_with fail
  refine (toI_any A_aDigits n_aDigits c_aDigits _ xs_aDigits _ HR0_aDigits.out hs0 hm_aDigits).mono ?_
  rintro e w1 ⟨v, rfl, ho, hb⟩
  obtain ⟨A_t1, c_t1, rfl, hcap_t1⟩ := ho.shapeI
  have HO1_t1 := Lib.hid (ho.base_le hs0)
  have HR1_aDigits := Lib.hid (HR0_aDigits.out.below hb hs0)
  have HB1 := Lib.hid (HB0.out.trans (hb.mono hs0))
  have hs1 : w.heap.size ≤ w1.heap.size := HB1.out.size
  clear ho hb
  clear HR0_aDigits
  clear HB0
  go_wp2_with fail
  refine (hS n_aN n_aBase A_t1 xs_aDigits.length c_t1 _ xs_aDigits _ Hf_aN.out Hf_aBase.out HO1_t1.out.rdI (Nat.le_refl _) hxl_aDigits Hf_aDigits.out hcap_t1.out).mono ?_
  rw [Hrx.out]
  rintro e w2 ⟨num_w0, ok, rfl, hok_w1, hnum_w0, hb⟩
  have HR2_aDigits := Lib.hid (HR1_aDigits.out.below hb hs1)
  have HO2_t1 := Lib.hid (HO1_t1.out.below hb (Nat.le_refl _))
  have HB2 := Lib.hid (HB1.out.trans (hb.mono hs1))
  have hs2 : w.heap.size ≤ w2.heap.size := HB2.out.size
  clear hb
  clear HR1_aDigits
  clear HO1_t1
  clear HB1
  have hne1 : (ok != ok) = false := by simp
  go_wp2_with fail
  refine (toI_any A_aDigits n_aDigits c_aDigits _ xs_aDigits _ HR2_aDigits.out hs2 hm_aDigits).mono ?_
  rintro e w3 ⟨v, rfl, ho, hb⟩
  obtain ⟨A_x2, c_x2, rfl, hcap_x2⟩ := ho.shapeI
  have hap1 := HO2_t1.out.apart ho (Nat.le_refl _)
  have HO3_x2 := Lib.hid (ho.base_le hs2)
  have HR3_aDigits := Lib.hid (HR2_aDigits.out.below hb hs2)
  have HO3_t1 := Lib.hid (HO2_t1.out.below hb (Nat.le_refl _))
  have HB3 := Lib.hid (HB2.out.trans (hb.mono hs2))
  have hs3 : w.heap.size ≤ w3.heap.size := HB3.out.size
  clear ho hb
  clear HR2_aDigits
  clear HO2_t1
  clear HB2
  go_wp2_with fail
  refine (hI n_aN n_aBase A_x2 xs_aDigits.length c_x2 _ xs_aDigits _ Hf_aN.out Hf_aBase.out HO3_x2.out.rdI (Nat.le_refl _) hxl_aDigits Hf_aDigits.out hcap_x2.out).mono ?_
  rw [Hrx.out]
  rintro e w4 ⟨num_g0, ok_g1, rfl, hok_g1, hnum_g0, hb⟩
  obtain rfl : ok_g1 = ok := hok_g1.out.trans hok_w1.out.symm
  have HR4_aDigits := Lib.hid (HR3_aDigits.out.below hb hs3)
  have HO4_t1 := Lib.hid (HO3_t1.out.below hb (Nat.le_refl _))
  have HO4_x2 := Lib.hid (HO3_x2.out.below hb (Nat.le_refl _))
  have HB4 := Lib.hid (HB3.out.trans (hb.mono hs3))
  have hs4 : w.heap.size ≤ w4.heap.size := HB4.out.size
  clear hb
  clear HR3_aDigits
  clear HO3_t1
  clear HO3_x2
  clear HB3
  have hne3 : (ok_g1 != ok_g1) = false := by simp
  have hcv := run_widV (P := Try.prog) 38 44 rfl Try.underlying44
  go_wp2_with fail
  refine (sameFloat_any _ _ _ (by rw [widV_cn, widV_cn]; exact widen_congr (hnum_g0.out.trans hnum_w0.out.symm))).mono ?_
  rintro e w5 ⟨rfl, hq⟩
  have hb : Below w4.heap.size w4 w5 := by obtain ⟨q, rfl⟩ := hq; exact ⟨rfl, rfl, rfl, Nat.le_refl _, fun _ _ => rfl⟩
  clear hcv hq
  have HR5_aDigits := Lib.hid (HR4_aDigits.out.below hb hs4)
  have HO5_t1 := Lib.hid (HO4_t1.out.below hb (Nat.le_refl _))
  have HO5_x2 := Lib.hid (HO4_x2.out.below hb (Nat.le_refl _))
  have HB5 := Lib.hid (HB4.out.trans (hb.mono hs4))
  have hs5 : w.heap.size ≤ w5.heap.size := HB5.out.size
  clear hb
  clear HR4_aDigits
  clear HO4_t1
  clear HO4_x2
  clear HB4
  go_wp2_with fail
  refine (toI_any A_aDigits n_aDigits c_aDigits _ xs_aDigits _ HR5_aDigits.out hs5 hm_aDigits).mono ?_
  rintro e w6 ⟨v, rfl, ho, hb⟩
  obtain ⟨A_t2, c_t2, rfl, hcap_t2⟩ := ho.shapeI
  have hap2 := HO5_t1.out.apart ho (Nat.le_refl _)
  have hap3 := HO5_x2.out.apart ho (Nat.le_refl _)
  have HO6_t2 := Lib.hid (ho.base_le hs5)
  have HR6_aDigits := Lib.hid (HR5_aDigits.out.below hb hs5)
  have HO6_t1 := Lib.hid (HO5_t1.out.below hb (Nat.le_refl _))
  have HO6_x2 := Lib.hid (HO5_x2.out.below hb (Nat.le_refl _))
  have HB6 := Lib.hid (HB5.out.trans (hb.mono hs5))
  have hs6 : w.heap.size ≤ w6.heap.size := HB6.out.size
  clear ho hb
  clear HR5_aDigits
  clear HO5_t1
  clear HO5_x2
  clear HB5
  go_wp2_with fail
  refine (eqI_same A_x2 A_t2 xs_aDigits.length xs_aDigits.length c_x2 c_t2 _ xs_aDigits _ HO6_x2.out.rdI HO6_t2.out.rdI (by unfold maxLen; omega)).mono ?_
  rintro e w7 ⟨rfl, hb⟩
  have HR7_aDigits := Lib.hid (HR6_aDigits.out.below hb hs6)
  have HO7_t1 := Lib.hid (HO6_t1.out.below hb (Nat.le_refl _))
  have HO7_x2 := Lib.hid (HO6_x2.out.below hb (Nat.le_refl _))
  have HO7_t2 := Lib.hid (HO6_t2.out.below hb (Nat.le_refl _))
  have HB7 := Lib.hid (HB6.out.trans (hb.mono hs6))
  have hs7 : w.heap.size ≤ w7.heap.size := HB7.out.size
  clear hb
  clear HR6_aDigits
  clear HO6_t1
  clear HO6_x2
  clear HO6_t2
  clear HB6
  go_wp2
  go_ret
  exact ⟨rfl, HB7.out⟩
end Go.Proofs.Yticenfholnencaa
