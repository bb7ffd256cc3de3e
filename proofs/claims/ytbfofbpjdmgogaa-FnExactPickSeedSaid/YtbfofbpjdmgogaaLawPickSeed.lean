/- The statement FnExactPickSeed out of the contracts of both functions; printed by a program of mine. -/
import Derived.Test.YtbfofbpjdmgogaaShapes
import Derived.Test.YtbfofbpjdmgogaaShapesF
import Derived.Test.YtbfofbpjdmgogaaShapesS
namespace Go.Proofs.Ytbfofbpjdmgogaa
open Go.RowKit
set_option maxRecDepth 100000 in
set_option maxHeartbeats 4000000 in
theorem law_PickSeed (r : Sd → List Nat → Option (Sd × Int)) (hS : FnSFl_SNB 35 r) (hI : FnSFl_SNB 37 r)
    (w : World) (k_aS a_aS b_aS : Int) (hf_aS : Sd.ok ⟨k_aS, a_aS, b_aS⟩) (A_aWeights : Option Addr) (n_aWeights c_aWeights : Nat) (xs_aWeights : List Nat) (h_aWeights : Rd w w.heap.size A_aWeights n_aWeights (f32s xs_aWeights)) (hn_aWeights : n_aWeights ≤ maxLen) :
    Calls Try.prog 9 #[.agg #[.int .i64 k_aS, .int .u64 a_aS, .int .u64 b_aS], .slice A_aWeights n_aWeights c_aWeights] w fun e w' => e = .returned (.bool true) ∧ Below w.heap.size w w' := by
  unfold maxLen at hn_aWeights
  by_cases hbig_aWeights : 1048576 < n_aWeights
  · go_enter Try.func9, Try.ntmps9
    go_wp2
    go_ret
    exact ⟨rfl, (Below.refl _ _).alloc (Nat.le_refl _) _⟩
  have hm_aWeights : n_aWeights ≤ 1048576 := by omega
  have hlen_aWeights := h_aWeights.lenF
  have hxl_aWeights : xs_aWeights.length ≤ 1048576 := by have := hlen_aWeights.out; omega
  generalize hrx : r ⟨k_aS, a_aS, b_aS⟩ xs_aWeights = rx
  have Hrx := Lib.hid hrx; clear hrx
  have Hf_aS := Lib.hid hf_aS; clear hf_aS
  have HB0 : Hid (Below w.heap.size w (w.alloc (.cells #[.int .i64 k_aS, .int .u64 a_aS, .int .u64 b_aS] 24))) := (Below.refl _ _).alloc (Nat.le_refl _) _
  have hs0 : w.heap.size ≤ (w.alloc (.cells #[.int .i64 k_aS, .int .u64 a_aS, .int .u64 b_aS] 24)).heap.size := HB0.out.size
  have HR0_aWeights := Lib.hid (h_aWeights.below HB0.out (Nat.le_refl _)); clear h_aWeights
  have HX0_aS := Lib.hid (BoxAt.new w k_aS a_aS b_aS)
  go_enter Try.func9, Try.ntmps9
  have bx00 := HX0_aS.out.c0
  have bx01 := HX0_aS.out.c1
  have bx02 := HX0_aS.out.c2
  go_wp2_with fail
  refine (toSeed_any k_aS a_aS b_aS _).mono ?_
  rintro e w1 ⟨rfl, hb⟩
  clear bx00 bx01 bx02
  have HR1_aWeights := Lib.hid (HR0_aWeights.out.below hb hs0)
  have HX1_aS := Lib.hid (HX0_aS.out.below hb HX0_aS.out.lt)
  have HB1 := Lib.hid (HB0.out.trans (hb.mono hs0))
  have hs1 : w.heap.size ≤ w1.heap.size := HB1.out.size
  clear hb
  clear HX0_aS
  clear HR0_aWeights
  clear HB0
  go_wp2_with fail
  refine (toF_any A_aWeights n_aWeights c_aWeights _ xs_aWeights _ HR1_aWeights.out hs1 hm_aWeights).mono ?_
  rintro e w2 ⟨v, rfl, ho, hb⟩
  obtain ⟨A_t1, c_t1, rfl, hcap_t1⟩ := ho.shapeF
  have bn_aS_t1 : some (w.heap.size) ≠ Value.ownBlock (.slice A_t1 _ c_t1) := fun e => by have := (ho.lt _ e.symm).1; have := HX1_aS.out.lt; omega
  have HO2_t1 := Lib.hid (ho.base_le hs1)
  have HR2_aWeights := Lib.hid (HR1_aWeights.out.below hb hs1)
  have HX2_aS := Lib.hid (HX1_aS.out.below hb HX1_aS.out.lt)
  have HB2 := Lib.hid (HB1.out.trans (hb.mono hs1))
  have hs2 : w.heap.size ≤ w2.heap.size := HB2.out.size
  clear ho hb
  clear HX1_aS
  clear HR1_aWeights
  clear HB1
  have bx00 := HX2_aS.out.c0
  have bx01 := HX2_aS.out.c1
  have bx02 := HX2_aS.out.c2
  go_wp2_with fail
  refine (hS k_aS a_aS b_aS A_t1 xs_aWeights.length c_t1 _ xs_aWeights _ Hf_aS.out HO2_t1.out.rdF (Nat.le_refl _) hxl_aWeights hcap_t1.out).mono ?_
  clear bx00 bx01 bx02
  rw [Hrx.out]
  rintro e w3 ⟨k_w0, a_w0, b_w0, num_w1, ok_w2, rfl, hok_w2, hsd_w0, hnum_w1, hb⟩
  have HR3_aWeights := Lib.hid (HR2_aWeights.out.below hb hs2)
  have HO3_t1 := Lib.hid (HO2_t1.out.below hb (Nat.le_refl _))
  have HX3_aS := Lib.hid (HX2_aS.out.below hb HX2_aS.out.lt)
  have HB3 := Lib.hid (HB2.out.trans (hb.mono hs2))
  have hs3 : w.heap.size ≤ w3.heap.size := HB3.out.size
  clear hb
  clear HX2_aS
  clear HR2_aWeights
  clear HO2_t1
  clear HB2
  have hne2 : (ok_w2 != ok_w2) = false := by simp
  have hnn2 : (num_w1 != num_w1) = false := by simp
  have hb : Below w3.heap.size w3 (w3.alloc (.cells #[.int .i64 k_w0, .int .u64 a_w0, .int .u64 b_w0] 25)) := (Below.refl _ _).alloc (Nat.le_refl _) _
  have bn_w0_t1 : some (w3.heap.size) ≠ Value.ownBlock (.slice A_t1 xs_aWeights.length c_t1) := fun e => by have := (HO3_t1.out.lt _ e.symm).2; omega
  have HR4_aWeights := Lib.hid (HR3_aWeights.out.below hb hs3)
  have HO4_t1 := Lib.hid (HO3_t1.out.below hb (Nat.le_refl _))
  have HX4_aS := Lib.hid (HX3_aS.out.below hb HX3_aS.out.lt)
  have HB4 := Lib.hid (HB3.out.trans (hb.mono hs3))
  have hs4 : w.heap.size ≤ (w3.alloc (.cells #[.int .i64 k_w0, .int .u64 a_w0, .int .u64 b_w0] 25)).heap.size := HB4.out.size
  clear hb
  have HX4_w0 := Lib.hid (SeedAt.new w3 k_w0 a_w0 b_w0)
  clear HX3_aS
  clear HR3_aWeights
  clear HO3_t1
  clear HB3
  go_wp2_with fail
  refine (toF_any A_aWeights n_aWeights c_aWeights _ xs_aWeights _ HR4_aWeights.out hs4 hm_aWeights).mono ?_
  rintro e w5 ⟨v, rfl, ho, hb⟩
  obtain ⟨A_x1, c_x1, rfl, hcap_x1⟩ := ho.shapeF
  have hap1 := HO4_t1.out.apart ho (Nat.le_refl _)
  have bn_aS_x1 : some (w.heap.size) ≠ Value.ownBlock (.slice A_x1 _ c_x1) := fun e => by have := (ho.lt _ e.symm).1; have := HX4_aS.out.lt; omega
  have bn_w0_x1 : some (w3.heap.size) ≠ Value.ownBlock (.slice A_x1 _ c_x1) := fun e => by have := (ho.lt _ e.symm).1; have := HX4_w0.out.lt; omega
  have HO5_x1 := Lib.hid (ho.base_le hs4)
  have HR5_aWeights := Lib.hid (HR4_aWeights.out.below hb hs4)
  have HO5_t1 := Lib.hid (HO4_t1.out.below hb (Nat.le_refl _))
  have HX5_aS := Lib.hid (HX4_aS.out.below hb HX4_aS.out.lt)
  have HX5_w0 := Lib.hid (HX4_w0.out.below hb HX4_w0.out.lt)
  have HB5 := Lib.hid (HB4.out.trans (hb.mono hs4))
  have hs5 : w.heap.size ≤ w5.heap.size := HB5.out.size
  clear ho hb
  clear HX4_aS
  clear HX4_w0
  clear HR4_aWeights
  clear HO4_t1
  clear HB4
  have bx00 := HX5_aS.out.c0
  have bx01 := HX5_aS.out.c1
  have bx02 := HX5_aS.out.c2
  have bx10 := HX5_w0.out.c0
  have bx11 := HX5_w0.out.c1
  have bx12 := HX5_w0.out.c2
  simp only at bx10 bx11 bx12
  go_wp2_with fail
  refine (toSeed_any k_aS a_aS b_aS _).mono ?_
  rintro e w6 ⟨rfl, hb⟩
  clear bx00 bx01 bx02 bx10 bx11 bx12
  have HR6_aWeights := Lib.hid (HR5_aWeights.out.below hb hs5)
  have HO6_t1 := Lib.hid (HO5_t1.out.below hb (Nat.le_refl _))
  have HO6_x1 := Lib.hid (HO5_x1.out.below hb (Nat.le_refl _))
  have HX6_aS := Lib.hid (HX5_aS.out.below hb HX5_aS.out.lt)
  have HX6_w0 := Lib.hid (HX5_w0.out.below hb HX5_w0.out.lt)
  have HB6 := Lib.hid (HB5.out.trans (hb.mono hs5))
  have hs6 : w.heap.size ≤ w6.heap.size := HB6.out.size
  clear hb
  clear HX5_aS
  clear HX5_w0
  clear HR5_aWeights
  clear HO5_t1
  clear HO5_x1
  clear HB5
  have bx00 := HX6_aS.out.c0
  have bx01 := HX6_aS.out.c1
  have bx02 := HX6_aS.out.c2
  have bx10 := HX6_w0.out.c0
  have bx11 := HX6_w0.out.c1
  have bx12 := HX6_w0.out.c2
  simp only at bx10 bx11 bx12
  go_wp2_with fail
  refine (hI k_aS a_aS b_aS A_x1 xs_aWeights.length c_x1 _ xs_aWeights _ Hf_aS.out HO6_x1.out.rdF (Nat.le_refl _) hxl_aWeights hcap_x1.out).mono ?_
  clear bx00 bx01 bx02 bx10 bx11 bx12
  rw [Hrx.out]
  rintro e w7 ⟨k_g0, a_g0, b_g0, num_g1, ok_g2, rfl, hok_g2, hsd_g0, hnum_g1, hb⟩
  obtain ⟨rfl, rfl, rfl⟩ : k_w0 = k_g0 ∧ a_w0 = a_g0 ∧ b_w0 = b_g0 := by have := hsd_w0.out.trans hsd_g0.out.symm; simpa using this
  obtain rfl : ok_w2 = ok_g2 := hok_w2.out.trans hok_g2.out.symm
  obtain rfl : num_w1 = num_g1 := hnum_w1.out.trans hnum_g1.out.symm
  have HR7_aWeights := Lib.hid (HR6_aWeights.out.below hb hs6)
  have HO7_t1 := Lib.hid (HO6_t1.out.below hb (Nat.le_refl _))
  have HO7_x1 := Lib.hid (HO6_x1.out.below hb (Nat.le_refl _))
  have HX7_aS := Lib.hid (HX6_aS.out.below hb HX6_aS.out.lt)
  have HX7_w0 := Lib.hid (HX6_w0.out.below hb HX6_w0.out.lt)
  have HB7 := Lib.hid (HB6.out.trans (hb.mono hs6))
  have hs7 : w.heap.size ≤ w7.heap.size := HB7.out.size
  clear hb
  clear HX6_aS
  clear HX6_w0
  clear HR6_aWeights
  clear HO6_t1
  clear HO6_x1
  clear HB6
  have hne6 : (ok_w2 != ok_w2) = false := by simp
  have hnn6 : (num_w1 != num_w1) = false := by simp
  have hb : Below w7.heap.size w7 (w7.alloc (.cells #[.int .i64 k_w0, .int .u64 a_w0, .int .u64 b_w0] 25)) := (Below.refl _ _).alloc (Nat.le_refl _) _
  have bn_g0_t1 : some (w7.heap.size) ≠ Value.ownBlock (.slice A_t1 xs_aWeights.length c_t1) := fun e => by have := (HO7_t1.out.lt _ e.symm).2; omega
  have bn_g0_x1 : some (w7.heap.size) ≠ Value.ownBlock (.slice A_x1 xs_aWeights.length c_x1) := fun e => by have := (HO7_x1.out.lt _ e.symm).2; omega
  have HR8_aWeights := Lib.hid (HR7_aWeights.out.below hb hs7)
  have HO8_t1 := Lib.hid (HO7_t1.out.below hb (Nat.le_refl _))
  have HO8_x1 := Lib.hid (HO7_x1.out.below hb (Nat.le_refl _))
  have HX8_aS := Lib.hid (HX7_aS.out.below hb HX7_aS.out.lt)
  have HX8_w0 := Lib.hid (HX7_w0.out.below hb HX7_w0.out.lt)
  have HB8 := Lib.hid (HB7.out.trans (hb.mono hs7))
  have hs8 : w.heap.size ≤ (w7.alloc (.cells #[.int .i64 k_w0, .int .u64 a_w0, .int .u64 b_w0] 25)).heap.size := HB8.out.size
  clear hb
  have HX8_g0 := Lib.hid (SeedAt.new w7 k_w0 a_w0 b_w0)
  clear HX7_aS
  clear HX7_w0
  clear HR7_aWeights
  clear HO7_t1
  clear HO7_x1
  clear HB7
  have bx00 := HX8_aS.out.c0
  have bx01 := HX8_aS.out.c1
  have bx02 := HX8_aS.out.c2
  have bx10 := HX8_w0.out.c0
  have bx11 := HX8_w0.out.c1
  have bx12 := HX8_w0.out.c2
  simp only at bx10 bx11 bx12
  have bx20 := HX8_g0.out.c0
  have bx21 := HX8_g0.out.c1
  have bx22 := HX8_g0.out.c2
  simp only at bx20 bx21 bx22
  go_wp2_with fail
  refine (eqSeed_same k_w0 a_w0 b_w0 _).mono ?_
  rintro e w9 ⟨rfl, hb⟩
  clear bx00 bx01 bx02 bx10 bx11 bx12 bx20 bx21 bx22
  have HR9_aWeights := Lib.hid (HR8_aWeights.out.below hb hs8)
  have HO9_t1 := Lib.hid (HO8_t1.out.below hb (Nat.le_refl _))
  have HO9_x1 := Lib.hid (HO8_x1.out.below hb (Nat.le_refl _))
  have HX9_aS := Lib.hid (HX8_aS.out.below hb HX8_aS.out.lt)
  have HX9_w0 := Lib.hid (HX8_w0.out.below hb HX8_w0.out.lt)
  have HX9_g0 := Lib.hid (HX8_g0.out.below hb HX8_g0.out.lt)
  have HB9 := Lib.hid (HB8.out.trans (hb.mono hs8))
  have hs9 : w.heap.size ≤ w9.heap.size := HB9.out.size
  clear hb
  clear HX8_aS
  clear HX8_w0
  clear HX8_g0
  clear HR8_aWeights
  clear HO8_t1
  clear HO8_x1
  clear HB8
  go_wp2_with fail
  refine (toF_any A_aWeights n_aWeights c_aWeights _ xs_aWeights _ HR9_aWeights.out hs9 hm_aWeights).mono ?_
  rintro e w10 ⟨v, rfl, ho, hb⟩
  obtain ⟨A_t2, c_t2, rfl, hcap_t2⟩ := ho.shapeF
  have hap2 := HO9_t1.out.apart ho (Nat.le_refl _)
  have hap3 := HO9_x1.out.apart ho (Nat.le_refl _)
  have bn_aS_t2 : some (w.heap.size) ≠ Value.ownBlock (.slice A_t2 _ c_t2) := fun e => by have := (ho.lt _ e.symm).1; have := HX9_aS.out.lt; omega
  have bn_w0_t2 : some (w3.heap.size) ≠ Value.ownBlock (.slice A_t2 _ c_t2) := fun e => by have := (ho.lt _ e.symm).1; have := HX9_w0.out.lt; omega
  have bn_g0_t2 : some (w7.heap.size) ≠ Value.ownBlock (.slice A_t2 _ c_t2) := fun e => by have := (ho.lt _ e.symm).1; have := HX9_g0.out.lt; omega
  have HO10_t2 := Lib.hid (ho.base_le hs9)
  have HR10_aWeights := Lib.hid (HR9_aWeights.out.below hb hs9)
  have HO10_t1 := Lib.hid (HO9_t1.out.below hb (Nat.le_refl _))
  have HO10_x1 := Lib.hid (HO9_x1.out.below hb (Nat.le_refl _))
  have HX10_aS := Lib.hid (HX9_aS.out.below hb HX9_aS.out.lt)
  have HX10_w0 := Lib.hid (HX9_w0.out.below hb HX9_w0.out.lt)
  have HX10_g0 := Lib.hid (HX9_g0.out.below hb HX9_g0.out.lt)
  have HB10 := Lib.hid (HB9.out.trans (hb.mono hs9))
  have hs10 : w.heap.size ≤ w10.heap.size := HB10.out.size
  clear ho hb
  clear HX9_aS
  clear HX9_w0
  clear HX9_g0
  clear HR9_aWeights
  clear HO9_t1
  clear HO9_x1
  clear HB9
  go_wp2_with fail
  refine (eqF_same A_x1 A_t2 xs_aWeights.length xs_aWeights.length c_x1 c_t2 _ xs_aWeights xs_aWeights _ HO10_x1.out.rdF HO10_t2.out.rdF (by unfold maxLen; omega) rfl).mono ?_
  rintro e w11 ⟨rfl, hb⟩
  have HR11_aWeights := Lib.hid (HR10_aWeights.out.below hb hs10)
  have HO11_t1 := Lib.hid (HO10_t1.out.below hb (Nat.le_refl _))
  have HO11_x1 := Lib.hid (HO10_x1.out.below hb (Nat.le_refl _))
  have HO11_t2 := Lib.hid (HO10_t2.out.below hb (Nat.le_refl _))
  have HX11_aS := Lib.hid (HX10_aS.out.below hb HX10_aS.out.lt)
  have HX11_w0 := Lib.hid (HX10_w0.out.below hb HX10_w0.out.lt)
  have HX11_g0 := Lib.hid (HX10_g0.out.below hb HX10_g0.out.lt)
  have HB11 := Lib.hid (HB10.out.trans (hb.mono hs10))
  have hs11 : w.heap.size ≤ w11.heap.size := HB11.out.size
  clear hb
  clear HX10_aS
  clear HX10_w0
  clear HX10_g0
  clear HR10_aWeights
  clear HO10_t1
  clear HO10_x1
  clear HO10_t2
  clear HB10
  go_wp2
  go_ret
  exact ⟨rfl, HB11.out⟩
end Go.Proofs.Ytbfofbpjdmgogaa
