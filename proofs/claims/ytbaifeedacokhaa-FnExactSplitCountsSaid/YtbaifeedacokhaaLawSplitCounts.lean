/- The statement FnExactSplitCounts out of the contracts of both functions; printed by a program of mine. -/
import Derived.Test.YtbaifeedacokhaaShapes
import Derived.Test.YtbaifeedacokhaaShapesF
import Derived.Test.YtbaifeedacokhaaShapesS
import Derived.Test.YtbaifeedacokhaaSplit
import Derived.Test.YtbaifeedacokhaaFloatM
namespace Go.Proofs.Ytbaifeedacokhaa
open Go.RowKit
set_option maxRecDepth 100000 in
set_option maxHeartbeats 4000000 in
theorem law_SplitCounts (r : Sd → Int → List Nat → Option (Sd × List Int)) (hS : FnSNFl_SLB 14 r) (hI : FnSNFl_SLB 16 r) (hr : ∀ k_aS a_aS b_aS n_aN xs_aWeights, xs_aWeights.length ≤ 1048576 → (((r ⟨k_aS, a_aS, b_aS⟩ n_aN xs_aWeights).map Prod.snd).getD []).length ≤ 2000000)
    (w : World) (k_aS a_aS b_aS : Int) (hf_aS : Sd.ok ⟨k_aS, a_aS, b_aS⟩) (n_aN : Int) (hf_aN : -9223372036854775808 ≤ n_aN ∧ n_aN ≤ 9223372036854775807) (A_aWeights : Option Addr) (n_aWeights c_aWeights : Nat) (xs_aWeights : List Nat) (h_aWeights : Rd w w.heap.size A_aWeights n_aWeights (f32s xs_aWeights)) (hn_aWeights : n_aWeights ≤ maxLen) :
    Calls Try.prog 4 #[.agg #[.int .i64 k_aS, .int .u64 a_aS, .int .u64 b_aS], .int .i64 n_aN, .slice A_aWeights n_aWeights c_aWeights] w fun e w' => e = .returned (.bool true) ∧ Below w.heap.size w w' := by
  unfold maxLen at hn_aWeights
  by_cases hbig_aWeights : 1048576 < n_aWeights
  · go_enter Try.func4, Try.ntmps4
    go_wp2
    go_ret
    exact ⟨rfl, (Below.refl _ _).alloc (Nat.le_refl _) _⟩
  have hm_aWeights : n_aWeights ≤ 1048576 := by omega
  have hlen_aWeights := h_aWeights.lenF
  have hxl_aWeights : xs_aWeights.length ≤ 1048576 := by have := hlen_aWeights.out; omega
  have hrl := hr k_aS a_aS b_aS n_aN xs_aWeights hxl_aWeights
  clear hr
  generalize hrx : r ⟨k_aS, a_aS, b_aS⟩ n_aN xs_aWeights = rx at hrl
  have Hrx := Lib.hid hrx; clear hrx
  have Hf_aS := Lib.hid hf_aS; clear hf_aS
  have Hf_aN := Lib.hid hf_aN; clear hf_aN
  have HB0 : Hid (Below w.heap.size w (w.alloc (.cells #[.int .i64 k_aS, .int .u64 a_aS, .int .u64 b_aS] 36))) := (Below.refl _ _).alloc (Nat.le_refl _) _
  have hs0 : w.heap.size ≤ (w.alloc (.cells #[.int .i64 k_aS, .int .u64 a_aS, .int .u64 b_aS] 36)).heap.size := HB0.out.size
  have HR0_aWeights := Lib.hid (h_aWeights.below HB0.out (Nat.le_refl _)); clear h_aWeights
  have HX0_aS := Lib.hid (BoxAt.new w k_aS a_aS b_aS)
  go_enter Try.func4, Try.ntmps4
  have bx00 := HX0_aS.out.c0
  have bx01 := HX0_aS.out.c1
  have bx02 := HX0_aS.out.c2
  go_wp2_with fail
  refine (toSeed_any k_aS a_aS b_aS _).mono ?_
  rintro e w1 ⟨rfl, hb⟩
  clear bx00 bx01 bx02
  have HR1_aWeights := Lib.hid (HR0_aWeights.out.below hb hs0)
  have HX1_aS := Lib.hid (HX0_aS.out.below hb HX0_aS.out.lt)
  have HB1 := Lib.hid (HB0.out.trans (hb.mono hs0))
  have hs1 : w.heap.size ≤ w1.heap.size := HB1.out.size
  clear hb
  clear HX0_aS
  clear HR0_aWeights
  clear HB0
  go_wp2_with fail
  refine (toF_any A_aWeights n_aWeights c_aWeights _ xs_aWeights _ HR1_aWeights.out hs1 hm_aWeights).mono ?_
  rintro e w2 ⟨v, rfl, ho, hb⟩
  obtain ⟨A_t1, c_t1, rfl, hcap_t1⟩ := ho.shapeF
  have bn_aS_t1 : some (w.heap.size) ≠ Value.ownBlock (.slice A_t1 _ c_t1) := fun e => by have := (ho.lt _ e.symm).1; have := HX1_aS.out.lt; omega
  have HO2_t1 := Lib.hid (ho.base_le hs1)
  have HR2_aWeights := Lib.hid (HR1_aWeights.out.below hb hs1)
  have HX2_aS := Lib.hid (HX1_aS.out.below hb HX1_aS.out.lt)
  have HB2 := Lib.hid (HB1.out.trans (hb.mono hs1))
  have hs2 : w.heap.size ≤ w2.heap.size := HB2.out.size
  clear ho hb
  clear HX1_aS
  clear HR1_aWeights
  clear HB1
  have bx00 := HX2_aS.out.c0
  have bx01 := HX2_aS.out.c1
  have bx02 := HX2_aS.out.c2
  go_wp2_with fail
  refine (hS k_aS a_aS b_aS n_aN A_t1 xs_aWeights.length c_t1 _ xs_aWeights _ Hf_aS.out Hf_aN.out HO2_t1.out.rdF (Nat.le_refl _) hxl_aWeights hcap_t1.out).mono ?_
  clear bx00 bx01 bx02
  rw [Hrx.out]
  rintro e w3 ⟨k_w0, a_w0, b_w0, v, ok_w2, rfl, hok_w2, hsd_w0, ho, hb⟩
  obtain ⟨A_w1, c_w1, rfl, hcap_w1⟩ := ho.shapeI
  have hap1 := HO2_t1.out.apart ho (Nat.le_refl _)
  have bn_aS_w1 : some (w.heap.size) ≠ Value.ownBlock (.slice A_w1 _ c_w1) := fun e => by have := (ho.lt _ e.symm).1; have := HX2_aS.out.lt; omega
  have HO3_w1 := Lib.hid (ho.base_le hs2)
  have HR3_aWeights := Lib.hid (HR2_aWeights.out.below hb hs2)
  have HO3_t1 := Lib.hid (HO2_t1.out.below hb (Nat.le_refl _))
  have HX3_aS := Lib.hid (HX2_aS.out.below hb HX2_aS.out.lt)
  have HB3 := Lib.hid (HB2.out.trans (hb.mono hs2))
  have hs3 : w.heap.size ≤ w3.heap.size := HB3.out.size
  clear hb ho
  clear HX2_aS
  clear HR2_aWeights
  clear HO2_t1
  clear HB2
  have hne2 : (ok_w2 != ok_w2) = false := by simp
  have hb : Below w3.heap.size w3 (w3.alloc (.cells #[.int .i64 k_w0, .int .u64 a_w0, .int .u64 b_w0] 37)) := (Below.refl _ _).alloc (Nat.le_refl _) _
  have bn_w0_t1 : some (w3.heap.size) ≠ Value.ownBlock (.slice A_t1 xs_aWeights.length c_t1) := fun e => by have := (HO3_t1.out.lt _ e.symm).2; omega
  have bn_w0_w1 : some (w3.heap.size) ≠ Value.ownBlock (.slice A_w1 ((rx.map Prod.snd).getD []).length c_w1) := fun e => by have := (HO3_w1.out.lt _ e.symm).2; omega
  have HR4_aWeights := Lib.hid (HR3_aWeights.out.below hb hs3)
  have HO4_t1 := Lib.hid (HO3_t1.out.below hb (Nat.le_refl _))
  have HO4_w1 := Lib.hid (HO3_w1.out.below hb (Nat.le_refl _))
  have HX4_aS := Lib.hid (HX3_aS.out.below hb HX3_aS.out.lt)
  have HB4 := Lib.hid (HB3.out.trans (hb.mono hs3))
  have hs4 : w.heap.size ≤ (w3.alloc (.cells #[.int .i64 k_w0, .int .u64 a_w0, .int .u64 b_w0] 37)).heap.size := HB4.out.size
  clear hb
  have HX4_w0 := Lib.hid (SeedAt.new w3 k_w0 a_w0 b_w0)
  clear HX3_aS
  clear HR3_aWeights
  clear HO3_t1
  clear HO3_w1
  clear HB3
  go_wp2_with fail
  refine (toF_any A_aWeights n_aWeights c_aWeights _ xs_aWeights _ HR4_aWeights.out hs4 hm_aWeights).mono ?_
  rintro e w5 ⟨v, rfl, ho, hb⟩
  obtain ⟨A_x2, c_x2, rfl, hcap_x2⟩ := ho.shapeF
  have hap2 := HO4_t1.out.apart ho (Nat.le_refl _)
  have hap3 := HO4_w1.out.apart ho (Nat.le_refl _)
  have bn_aS_x2 : some (w.heap.size) ≠ Value.ownBlock (.slice A_x2 _ c_x2) := fun e => by have := (ho.lt _ e.symm).1; have := HX4_aS.out.lt; omega
  have bn_w0_x2 : some (w3.heap.size) ≠ Value.ownBlock (.slice A_x2 _ c_x2) := fun e => by have := (ho.lt _ e.symm).1; have := HX4_w0.out.lt; omega
  have HO5_x2 := Lib.hid (ho.base_le hs4)
  have HR5_aWeights := Lib.hid (HR4_aWeights.out.below hb hs4)
  have HO5_t1 := Lib.hid (HO4_t1.out.below hb (Nat.le_refl _))
  have HO5_w1 := Lib.hid (HO4_w1.out.below hb (Nat.le_refl _))
  have HX5_aS := Lib.hid (HX4_aS.out.below hb HX4_aS.out.lt)
  have HX5_w0 := Lib.hid (HX4_w0.out.below hb HX4_w0.out.lt)
  have HB5 := Lib.hid (HB4.out.trans (hb.mono hs4))
  have hs5 : w.heap.size ≤ w5.heap.size := HB5.out.size
  clear ho hb
  clear HX4_aS
  clear HX4_w0
  clear HR4_aWeights
  clear HO4_t1
  clear HO4_w1
  clear HB4
  have bx00 := HX5_aS.out.c0
  have bx01 := HX5_aS.out.c1
  have bx02 := HX5_aS.out.c2
  have bx10 := HX5_w0.out.c0
  have bx11 := HX5_w0.out.c1
  have bx12 := HX5_w0.out.c2
  simp only at bx10 bx11 bx12
  go_wp2_with fail
  refine (toSeed_any k_aS a_aS b_aS _).mono ?_
  rintro e w6 ⟨rfl, hb⟩
  clear bx00 bx01 bx02 bx10 bx11 bx12
  have HR6_aWeights := Lib.hid (HR5_aWeights.out.below hb hs5)
  have HO6_t1 := Lib.hid (HO5_t1.out.below hb (Nat.le_refl _))
  have HO6_w1 := Lib.hid (HO5_w1.out.below hb (Nat.le_refl _))
  have HO6_x2 := Lib.hid (HO5_x2.out.below hb (Nat.le_refl _))
  have HX6_aS := Lib.hid (HX5_aS.out.below hb HX5_aS.out.lt)
  have HX6_w0 := Lib.hid (HX5_w0.out.below hb HX5_w0.out.lt)
  have HB6 := Lib.hid (HB5.out.trans (hb.mono hs5))
  have hs6 : w.heap.size ≤ w6.heap.size := HB6.out.size
  clear hb
  clear HX5_aS
  clear HX5_w0
  clear HR5_aWeights
  clear HO5_t1
  clear HO5_w1
  clear HO5_x2
  clear HB5
  have bx00 := HX6_aS.out.c0
  have bx01 := HX6_aS.out.c1
  have bx02 := HX6_aS.out.c2
  have bx10 := HX6_w0.out.c0
  have bx11 := HX6_w0.out.c1
  have bx12 := HX6_w0.out.c2
  simp only at bx10 bx11 bx12
  go_wp2_with fail
  refine (hI k_aS a_aS b_aS n_aN A_x2 xs_aWeights.length c_x2 _ xs_aWeights _ Hf_aS.out Hf_aN.out HO6_x2.out.rdF (Nat.le_refl _) hxl_aWeights hcap_x2.out).mono ?_
  clear bx00 bx01 bx02 bx10 bx11 bx12
  rw [Hrx.out]
  rintro e w7 ⟨k_g0, a_g0, b_g0, v, ok_g2, rfl, hok_g2, hsd_g0, ho, hb⟩
  obtain ⟨rfl, rfl, rfl⟩ : k_w0 = k_g0 ∧ a_w0 = a_g0 ∧ b_w0 = b_g0 := by have := hsd_w0.out.trans hsd_g0.out.symm; simpa using this
  obtain rfl : ok_w2 = ok_g2 := hok_w2.out.trans hok_g2.out.symm
  obtain ⟨A_g1, c_g1, rfl, hcap_g1⟩ := ho.shapeI
  have hap4 := HO6_t1.out.apart ho (Nat.le_refl _)
  have hap5 := HO6_w1.out.apart ho (Nat.le_refl _)
  have hap6 := HO6_x2.out.apart ho (Nat.le_refl _)
  have bn_aS_g1 : some (w.heap.size) ≠ Value.ownBlock (.slice A_g1 _ c_g1) := fun e => by have := (ho.lt _ e.symm).1; have := HX6_aS.out.lt; omega
  have bn_w0_g1 : some (w3.heap.size) ≠ Value.ownBlock (.slice A_g1 _ c_g1) := fun e => by have := (ho.lt _ e.symm).1; have := HX6_w0.out.lt; omega
  have HO7_g1 := Lib.hid (ho.base_le hs6)
  have HR7_aWeights := Lib.hid (HR6_aWeights.out.below hb hs6)
  have HO7_t1 := Lib.hid (HO6_t1.out.below hb (Nat.le_refl _))
  have HO7_w1 := Lib.hid (HO6_w1.out.below hb (Nat.le_refl _))
  have HO7_x2 := Lib.hid (HO6_x2.out.below hb (Nat.le_refl _))
  have HX7_aS := Lib.hid (HX6_aS.out.below hb HX6_aS.out.lt)
  have HX7_w0 := Lib.hid (HX6_w0.out.below hb HX6_w0.out.lt)
  have HB7 := Lib.hid (HB6.out.trans (hb.mono hs6))
  have hs7 : w.heap.size ≤ w7.heap.size := HB7.out.size
  clear hb ho
  clear HX6_aS
  clear HX6_w0
  clear HR6_aWeights
  clear HO6_t1
  clear HO6_w1
  clear HO6_x2
  clear HB6
  have hne6 : (ok_w2 != ok_w2) = false := by simp
  have hb : Below w7.heap.size w7 (w7.alloc (.cells #[.int .i64 k_w0, .int .u64 a_w0, .int .u64 b_w0] 37)) := (Below.refl _ _).alloc (Nat.le_refl _) _
  have bn_g0_t1 : some (w7.heap.size) ≠ Value.ownBlock (.slice A_t1 xs_aWeights.length c_t1) := fun e => by have := (HO7_t1.out.lt _ e.symm).2; omega
  have bn_g0_w1 : some (w7.heap.size) ≠ Value.ownBlock (.slice A_w1 ((rx.map Prod.snd).getD []).length c_w1) := fun e => by have := (HO7_w1.out.lt _ e.symm).2; omega
  have bn_g0_x2 : some (w7.heap.size) ≠ Value.ownBlock (.slice A_x2 xs_aWeights.length c_x2) := fun e => by have := (HO7_x2.out.lt _ e.symm).2; omega
  have bn_g0_g1 : some (w7.heap.size) ≠ Value.ownBlock (.slice A_g1 ((rx.map Prod.snd).getD []).length c_g1) := fun e => by have := (HO7_g1.out.lt _ e.symm).2; omega
  have HR8_aWeights := Lib.hid (HR7_aWeights.out.below hb hs7)
  have HO8_t1 := Lib.hid (HO7_t1.out.below hb (Nat.le_refl _))
  have HO8_w1 := Lib.hid (HO7_w1.out.below hb (Nat.le_refl _))
  have HO8_x2 := Lib.hid (HO7_x2.out.below hb (Nat.le_refl _))
  have HO8_g1 := Lib.hid (HO7_g1.out.below hb (Nat.le_refl _))
  have HX8_aS := Lib.hid (HX7_aS.out.below hb HX7_aS.out.lt)
  have HX8_w0 := Lib.hid (HX7_w0.out.below hb HX7_w0.out.lt)
  have HB8 := Lib.hid (HB7.out.trans (hb.mono hs7))
  have hs8 : w.heap.size ≤ (w7.alloc (.cells #[.int .i64 k_w0, .int .u64 a_w0, .int .u64 b_w0] 37)).heap.size := HB8.out.size
  clear hb
  have HX8_g0 := Lib.hid (SeedAt.new w7 k_w0 a_w0 b_w0)
  clear HX7_aS
  clear HX7_w0
  clear HR7_aWeights
  clear HO7_t1
  clear HO7_w1
  clear HO7_x2
  clear HO7_g1
  clear HB7
  have bx00 := HX8_aS.out.c0
  have bx01 := HX8_aS.out.c1
  have bx02 := HX8_aS.out.c2
  have bx10 := HX8_w0.out.c0
  have bx11 := HX8_w0.out.c1
  have bx12 := HX8_w0.out.c2
  simp only at bx10 bx11 bx12
  have bx20 := HX8_g0.out.c0
  have bx21 := HX8_g0.out.c1
  have bx22 := HX8_g0.out.c2
  simp only at bx20 bx21 bx22
  go_wp2_with fail
  refine (eqSeed_same k_w0 a_w0 b_w0 _).mono ?_
  rintro e w9 ⟨rfl, hb⟩
  clear bx00 bx01 bx02 bx10 bx11 bx12 bx20 bx21 bx22
  have HR9_aWeights := Lib.hid (HR8_aWeights.out.below hb hs8)
  have HO9_t1 := Lib.hid (HO8_t1.out.below hb (Nat.le_refl _))
  have HO9_w1 := Lib.hid (HO8_w1.out.below hb (Nat.le_refl _))
  have HO9_x2 := Lib.hid (HO8_x2.out.below hb (Nat.le_refl _))
  have HO9_g1 := Lib.hid (HO8_g1.out.below hb (Nat.le_refl _))
  have HX9_aS := Lib.hid (HX8_aS.out.below hb HX8_aS.out.lt)
  have HX9_w0 := Lib.hid (HX8_w0.out.below hb HX8_w0.out.lt)
  have HX9_g0 := Lib.hid (HX8_g0.out.below hb HX8_g0.out.lt)
  have HB9 := Lib.hid (HB8.out.trans (hb.mono hs8))
  have hs9 : w.heap.size ≤ w9.heap.size := HB9.out.size
  clear hb
  clear HX8_aS
  clear HX8_w0
  clear HX8_g0
  clear HR8_aWeights
  clear HO8_t1
  clear HO8_w1
  clear HO8_x2
  clear HO8_g1
  clear HB8
  go_wp2_with fail
  refine (eqI_same A_g1 A_w1 ((rx.map Prod.snd).getD []).length ((rx.map Prod.snd).getD []).length c_g1 c_w1 _ ((rx.map Prod.snd).getD []) _ HO9_g1.out.rdI HO9_w1.out.rdI (by unfold maxLen; omega)).mono ?_
  rintro e w10 ⟨rfl, hb⟩
  have HR10_aWeights := Lib.hid (HR9_aWeights.out.below hb hs9)
  have HO10_t1 := Lib.hid (HO9_t1.out.below hb (Nat.le_refl _))
  have HO10_w1 := Lib.hid (HO9_w1.out.below hb (Nat.le_refl _))
  have HO10_x2 := Lib.hid (HO9_x2.out.below hb (Nat.le_refl _))
  have HO10_g1 := Lib.hid (HO9_g1.out.below hb (Nat.le_refl _))
  have HX10_aS := Lib.hid (HX9_aS.out.below hb HX9_aS.out.lt)
  have HX10_w0 := Lib.hid (HX9_w0.out.below hb HX9_w0.out.lt)
  have HX10_g0 := Lib.hid (HX9_g0.out.below hb HX9_g0.out.lt)
  have HB10 := Lib.hid (HB9.out.trans (hb.mono hs9))
  have hs10 : w.heap.size ≤ w10.heap.size := HB10.out.size
  clear hb
  clear HX9_aS
  clear HX9_w0
  clear HX9_g0
  clear HR9_aWeights
  clear HO9_t1
  clear HO9_w1
  clear HO9_x2
  clear HO9_g1
  clear HB9
  go_wp2_with fail
  refine (toF_any A_aWeights n_aWeights c_aWeights _ xs_aWeights _ HR10_aWeights.out hs10 hm_aWeights).mono ?_
  rintro e w11 ⟨v, rfl, ho, hb⟩
  obtain ⟨A_t2, c_t2, rfl, hcap_t2⟩ := ho.shapeF
  have hap7 := HO10_t1.out.apart ho (Nat.le_refl _)
  have hap8 := HO10_w1.out.apart ho (Nat.le_refl _)
  have hap9 := HO10_x2.out.apart ho (Nat.le_refl _)
  have hap10 := HO10_g1.out.apart ho (Nat.le_refl _)
  have bn_aS_t2 : some (w.heap.size) ≠ Value.ownBlock (.slice A_t2 _ c_t2) := fun e => by have := (ho.lt _ e.symm).1; have := HX10_aS.out.lt; omega
  have bn_w0_t2 : some (w3.heap.size) ≠ Value.ownBlock (.slice A_t2 _ c_t2) := fun e => by have := (ho.lt _ e.symm).1; have := HX10_w0.out.lt; omega
  have bn_g0_t2 : some (w7.heap.size) ≠ Value.ownBlock (.slice A_t2 _ c_t2) := fun e => by have := (ho.lt _ e.symm).1; have := HX10_g0.out.lt; omega
  have HO11_t2 := Lib.hid (ho.base_le hs10)
  have HR11_aWeights := Lib.hid (HR10_aWeights.out.below hb hs10)
  have HO11_t1 := Lib.hid (HO10_t1.out.below hb (Nat.le_refl _))
  have HO11_w1 := Lib.hid (HO10_w1.out.below hb (Nat.le_refl _))
  have HO11_x2 := Lib.hid (HO10_x2.out.below hb (Nat.le_refl _))
  have HO11_g1 := Lib.hid (HO10_g1.out.below hb (Nat.le_refl _))
  have HX11_aS := Lib.hid (HX10_aS.out.below hb HX10_aS.out.lt)
  have HX11_w0 := Lib.hid (HX10_w0.out.below hb HX10_w0.out.lt)
  have HX11_g0 := Lib.hid (HX10_g0.out.below hb HX10_g0.out.lt)
  have HB11 := Lib.hid (HB10.out.trans (hb.mono hs10))
  have hs11 : w.heap.size ≤ w11.heap.size := HB11.out.size
  clear ho hb
  clear HX10_aS
  clear HX10_w0
  clear HX10_g0
  clear HR10_aWeights
  clear HO10_t1
  clear HO10_w1
  clear HO10_x2
  clear HO10_g1
  clear HB10
  go_wp2_with fail
  refine (eqF_same A_x2 A_t2 xs_aWeights.length xs_aWeights.length c_x2 c_t2 _ xs_aWeights xs_aWeights _ HO11_x2.out.rdF HO11_t2.out.rdF (by unfold maxLen; omega) rfl).mono ?_
  rintro e w12 ⟨rfl, hb⟩
  have HR12_aWeights := Lib.hid (HR11_aWeights.out.below hb hs11)
  have HO12_t1 := Lib.hid (HO11_t1.out.below hb (Nat.le_refl _))
  have HO12_w1 := Lib.hid (HO11_w1.out.below hb (Nat.le_refl _))
  have HO12_x2 := Lib.hid (HO11_x2.out.below hb (Nat.le_refl _))
  have HO12_g1 := Lib.hid (HO11_g1.out.below hb (Nat.le_refl _))
  have HO12_t2 := Lib.hid (HO11_t2.out.below hb (Nat.le_refl _))
  have HX12_aS := Lib.hid (HX11_aS.out.below hb HX11_aS.out.lt)
  have HX12_w0 := Lib.hid (HX11_w0.out.below hb HX11_w0.out.lt)
  have HX12_g0 := Lib.hid (HX11_g0.out.below hb HX11_g0.out.lt)
  have HB12 := Lib.hid (HB11.out.trans (hb.mono hs11))
  have hs12 : w.heap.size ≤ w12.heap.size := HB12.out.size
  clear hb
  clear HX11_aS
  clear HX11_w0
  clear HX11_g0
  clear HR11_aWeights
  clear HO11_t1
  clear HO11_w1
  clear HO11_x2
  clear HO11_g1
  clear HO11_t2
  clear HB11
  go_wp2_with fail
  refine (markF_any A_x2 xs_aWeights.length c_x2 _ 1 xs_aWeights _ HO12_x2.out (by omega) (by omega)).mono ?_
  rintro e w13 ⟨rfl, ho, hg⟩
  have HO13_x2 := Lib.hid ho
  have HR13_aWeights := Lib.hid (HR12_aWeights.out.ownGrown HO12_x2.out hg hs12 (Nat.le_refl _))
  have HO13_t1 := Lib.hid (HO12_t1.out.grown hg hap2)
  have HO13_w1 := Lib.hid (HO12_w1.out.grown hg hap3)
  have HO13_g1 := Lib.hid (HO12_g1.out.grown hg hap6.symm)
  have HO13_t2 := Lib.hid (HO12_t2.out.grown hg hap9.symm)
  have HX13_aS := Lib.hid (HX12_aS.out.grown hg bn_aS_x2)
  have HX13_w0 := Lib.hid (HX12_w0.out.grown hg bn_w0_x2)
  have HX13_g0 := Lib.hid (HX12_g0.out.grown hg bn_g0_x2)
  have HB13 := Lib.hid (below_ownGrown HB12.out HO12_x2.out hg (Nat.le_refl _) (Nat.le_refl _))
  have hs13 : w.heap.size ≤ w13.heap.size := HB13.out.size
  clear ho hg
  clear HX12_aS
  clear HX12_w0
  clear HX12_g0
  clear HR12_aWeights
  clear HO12_t1
  clear HO12_w1
  clear HO12_x2
  clear HO12_g1
  clear HO12_t2
  clear HB12
  have bx00 := HX13_aS.out.c0
  have bx01 := HX13_aS.out.c1
  have bx02 := HX13_aS.out.c2
  have bx10 := HX13_w0.out.c0
  have bx11 := HX13_w0.out.c1
  have bx12 := HX13_w0.out.c2
  simp only at bx10 bx11 bx12
  have bx20 := HX13_g0.out.c0
  have bx21 := HX13_g0.out.c1
  have bx22 := HX13_g0.out.c2
  simp only at bx20 bx21 bx22
  go_wp2_with fail
  refine (eqSeed_same k_w0 a_w0 b_w0 _).mono ?_
  rintro e w14 ⟨rfl, hb⟩
  clear bx00 bx01 bx02 bx10 bx11 bx12 bx20 bx21 bx22
  have HR14_aWeights := Lib.hid (HR13_aWeights.out.below hb hs13)
  have HO14_t1 := Lib.hid (HO13_t1.out.below hb (Nat.le_refl _))
  have HO14_w1 := Lib.hid (HO13_w1.out.below hb (Nat.le_refl _))
  have HO14_x2 := Lib.hid (HO13_x2.out.below hb (Nat.le_refl _))
  have HO14_g1 := Lib.hid (HO13_g1.out.below hb (Nat.le_refl _))
  have HO14_t2 := Lib.hid (HO13_t2.out.below hb (Nat.le_refl _))
  have HX14_aS := Lib.hid (HX13_aS.out.below hb HX13_aS.out.lt)
  have HX14_w0 := Lib.hid (HX13_w0.out.below hb HX13_w0.out.lt)
  have HX14_g0 := Lib.hid (HX13_g0.out.below hb HX13_g0.out.lt)
  have HB14 := Lib.hid (HB13.out.trans (hb.mono hs13))
  have hs14 : w.heap.size ≤ w14.heap.size := HB14.out.size
  clear hb
  clear HX13_aS
  clear HX13_w0
  clear HX13_g0
  clear HR13_aWeights
  clear HO13_t1
  clear HO13_w1
  clear HO13_x2
  clear HO13_g1
  clear HO13_t2
  clear HB13
  go_wp2_with fail
  refine (eqI_same A_g1 A_w1 ((rx.map Prod.snd).getD []).length ((rx.map Prod.snd).getD []).length c_g1 c_w1 _ ((rx.map Prod.snd).getD []) _ HO14_g1.out.rdI HO14_w1.out.rdI (by unfold maxLen; omega)).mono ?_
  rintro e w15 ⟨rfl, hb⟩
  have HR15_aWeights := Lib.hid (HR14_aWeights.out.below hb hs14)
  have HO15_t1 := Lib.hid (HO14_t1.out.below hb (Nat.le_refl _))
  have HO15_w1 := Lib.hid (HO14_w1.out.below hb (Nat.le_refl _))
  have HO15_x2 := Lib.hid (HO14_x2.out.below hb (Nat.le_refl _))
  have HO15_g1 := Lib.hid (HO14_g1.out.below hb (Nat.le_refl _))
  have HO15_t2 := Lib.hid (HO14_t2.out.below hb (Nat.le_refl _))
  have HX15_aS := Lib.hid (HX14_aS.out.below hb HX14_aS.out.lt)
  have HX15_w0 := Lib.hid (HX14_w0.out.below hb HX14_w0.out.lt)
  have HX15_g0 := Lib.hid (HX14_g0.out.below hb HX14_g0.out.lt)
  have HB15 := Lib.hid (HB14.out.trans (hb.mono hs14))
  have hs15 : w.heap.size ≤ w15.heap.size := HB15.out.size
  clear hb
  clear HX14_aS
  clear HX14_w0
  clear HX14_g0
  clear HR14_aWeights
  clear HO14_t1
  clear HO14_w1
  clear HO14_x2
  clear HO14_g1
  clear HO14_t2
  clear HB14
  go_wp2_with fail
  refine (markI_any A_g1 ((rx.map Prod.snd).getD []).length c_g1 _ 1 ((rx.map Prod.snd).getD []) _ HO15_g1.out (by omega) (by omega)).mono ?_
  rintro e w16 ⟨rfl, ho, hg⟩
  have HO16_g1 := Lib.hid ho
  have HR16_aWeights := Lib.hid (HR15_aWeights.out.ownGrown HO15_g1.out hg hs15 (Nat.le_refl _))
  have HO16_t1 := Lib.hid (HO15_t1.out.grown hg hap4)
  have HO16_w1 := Lib.hid (HO15_w1.out.grown hg hap5)
  have HO16_x2 := Lib.hid (HO15_x2.out.grown hg hap6)
  have HO16_t2 := Lib.hid (HO15_t2.out.grown hg hap10.symm)
  have HX16_aS := Lib.hid (HX15_aS.out.grown hg bn_aS_g1)
  have HX16_w0 := Lib.hid (HX15_w0.out.grown hg bn_w0_g1)
  have HX16_g0 := Lib.hid (HX15_g0.out.grown hg bn_g0_g1)
  have HB16 := Lib.hid (below_ownGrown HB15.out HO15_g1.out hg (Nat.le_refl _) (Nat.le_refl _))
  have hs16 : w.heap.size ≤ w16.heap.size := HB16.out.size
  clear ho hg
  clear HX15_aS
  clear HX15_w0
  clear HX15_g0
  clear HR15_aWeights
  clear HO15_t1
  clear HO15_w1
  clear HO15_x2
  clear HO15_g1
  clear HO15_t2
  clear HB15
  go_wp2_with fail
  have hrd := HO16_g1.out.rdI
  rw [marks_len] at hrd
  refine (heldI_b A_g1 ((rx.map Prod.snd).getD []).length c_g1 _ 1 _ hrd (by omega) (by omega)).mono ?_
  clear hrd
  rintro e w17 ⟨rfl, hb⟩
  have HR17_aWeights := Lib.hid (HR16_aWeights.out.below hb hs16)
  have HO17_t1 := Lib.hid (HO16_t1.out.below hb (Nat.le_refl _))
  have HO17_w1 := Lib.hid (HO16_w1.out.below hb (Nat.le_refl _))
  have HO17_x2 := Lib.hid (HO16_x2.out.below hb (Nat.le_refl _))
  have HO17_g1 := Lib.hid (HO16_g1.out.below hb (Nat.le_refl _))
  have HO17_t2 := Lib.hid (HO16_t2.out.below hb (Nat.le_refl _))
  have HX17_aS := Lib.hid (HX16_aS.out.below hb HX16_aS.out.lt)
  have HX17_w0 := Lib.hid (HX16_w0.out.below hb HX16_w0.out.lt)
  have HX17_g0 := Lib.hid (HX16_g0.out.below hb HX16_g0.out.lt)
  have HB17 := Lib.hid (HB16.out.trans (hb.mono hs16))
  have hs17 : w.heap.size ≤ w17.heap.size := HB17.out.size
  clear hb
  clear HX16_aS
  clear HX16_w0
  clear HX16_g0
  clear HR16_aWeights
  clear HO16_t1
  clear HO16_w1
  clear HO16_x2
  clear HO16_g1
  clear HO16_t2
  clear HB16
  have hge17 : ¬ ((1 + ((rx.map Prod.snd).getD []).length : Nat) : Int) < 0 := by omega
  have hne17 : (((1 + ((rx.map Prod.snd).getD []).length : Nat) : Int) != ((1 + ((rx.map Prod.snd).getD []).length : Nat) : Int)) = false := by simp
  have bx00 := HX17_aS.out.c0
  have bx01 := HX17_aS.out.c1
  have bx02 := HX17_aS.out.c2
  have bx10 := HX17_w0.out.c0
  have bx11 := HX17_w0.out.c1
  have bx12 := HX17_w0.out.c2
  simp only at bx10 bx11 bx12
  have bx20 := HX17_g0.out.c0
  have bx21 := HX17_g0.out.c1
  have bx22 := HX17_g0.out.c2
  simp only at bx20 bx21 bx22
  go_wp2_with fail
  refine (toSeed_any k_aS a_aS b_aS _).mono ?_
  rintro e w18 ⟨rfl, hb⟩
  clear bx00 bx01 bx02 bx10 bx11 bx12 bx20 bx21 bx22
  have HR18_aWeights := Lib.hid (HR17_aWeights.out.below hb hs17)
  have HO18_t1 := Lib.hid (HO17_t1.out.below hb (Nat.le_refl _))
  have HO18_w1 := Lib.hid (HO17_w1.out.below hb (Nat.le_refl _))
  have HO18_x2 := Lib.hid (HO17_x2.out.below hb (Nat.le_refl _))
  have HO18_g1 := Lib.hid (HO17_g1.out.below hb (Nat.le_refl _))
  have HO18_t2 := Lib.hid (HO17_t2.out.below hb (Nat.le_refl _))
  have HX18_aS := Lib.hid (HX17_aS.out.below hb HX17_aS.out.lt)
  have HX18_w0 := Lib.hid (HX17_w0.out.below hb HX17_w0.out.lt)
  have HX18_g0 := Lib.hid (HX17_g0.out.below hb HX17_g0.out.lt)
  have HB18 := Lib.hid (HB17.out.trans (hb.mono hs17))
  have hs18 : w.heap.size ≤ w18.heap.size := HB18.out.size
  clear hb
  clear HX17_aS
  clear HX17_w0
  clear HX17_g0
  clear HR17_aWeights
  clear HO17_t1
  clear HO17_w1
  clear HO17_x2
  clear HO17_g1
  clear HO17_t2
  clear HB17
  go_wp2_with fail
  refine (toF_any A_aWeights n_aWeights c_aWeights _ xs_aWeights _ HR18_aWeights.out hs18 hm_aWeights).mono ?_
  rintro e w19 ⟨v, rfl, ho, hb⟩
  obtain ⟨A_t3, c_t3, rfl, hcap_t3⟩ := ho.shapeF
  have hap11 := HO18_t1.out.apart ho (Nat.le_refl _)
  have hap12 := HO18_w1.out.apart ho (Nat.le_refl _)
  have hap13 := HO18_x2.out.apart ho (Nat.le_refl _)
  have hap14 := HO18_g1.out.apart ho (Nat.le_refl _)
  have hap15 := HO18_t2.out.apart ho (Nat.le_refl _)
  have bn_aS_t3 : some (w.heap.size) ≠ Value.ownBlock (.slice A_t3 _ c_t3) := fun e => by have := (ho.lt _ e.symm).1; have := HX18_aS.out.lt; omega
  have bn_w0_t3 : some (w3.heap.size) ≠ Value.ownBlock (.slice A_t3 _ c_t3) := fun e => by have := (ho.lt _ e.symm).1; have := HX18_w0.out.lt; omega
  have bn_g0_t3 : some (w7.heap.size) ≠ Value.ownBlock (.slice A_t3 _ c_t3) := fun e => by have := (ho.lt _ e.symm).1; have := HX18_g0.out.lt; omega
  have HO19_t3 := Lib.hid (ho.base_le hs18)
  have HR19_aWeights := Lib.hid (HR18_aWeights.out.below hb hs18)
  have HO19_t1 := Lib.hid (HO18_t1.out.below hb (Nat.le_refl _))
  have HO19_w1 := Lib.hid (HO18_w1.out.below hb (Nat.le_refl _))
  have HO19_x2 := Lib.hid (HO18_x2.out.below hb (Nat.le_refl _))
  have HO19_g1 := Lib.hid (HO18_g1.out.below hb (Nat.le_refl _))
  have HO19_t2 := Lib.hid (HO18_t2.out.below hb (Nat.le_refl _))
  have HX19_aS := Lib.hid (HX18_aS.out.below hb HX18_aS.out.lt)
  have HX19_w0 := Lib.hid (HX18_w0.out.below hb HX18_w0.out.lt)
  have HX19_g0 := Lib.hid (HX18_g0.out.below hb HX18_g0.out.lt)
  have HB19 := Lib.hid (HB18.out.trans (hb.mono hs18))
  have hs19 : w.heap.size ≤ w19.heap.size := HB19.out.size
  clear ho hb
  clear HX18_aS
  clear HX18_w0
  clear HX18_g0
  clear HR18_aWeights
  clear HO18_t1
  clear HO18_w1
  clear HO18_x2
  clear HO18_g1
  clear HO18_t2
  clear HB18
  have bx00 := HX19_aS.out.c0
  have bx01 := HX19_aS.out.c1
  have bx02 := HX19_aS.out.c2
  have bx10 := HX19_w0.out.c0
  have bx11 := HX19_w0.out.c1
  have bx12 := HX19_w0.out.c2
  simp only at bx10 bx11 bx12
  have bx20 := HX19_g0.out.c0
  have bx21 := HX19_g0.out.c1
  have bx22 := HX19_g0.out.c2
  simp only at bx20 bx21 bx22
  go_wp2_with fail
  refine (hI k_aS a_aS b_aS n_aN A_t3 xs_aWeights.length c_t3 _ xs_aWeights _ Hf_aS.out Hf_aN.out HO19_t3.out.rdF (Nat.le_refl _) hxl_aWeights hcap_t3.out).mono ?_
  clear bx00 bx01 bx02 bx10 bx11 bx12 bx20 bx21 bx22
  rw [Hrx.out]
  rintro e w20 ⟨k_h0, a_h0, b_h0, v, ok_h2, rfl, hok_h2, hsd_h0, ho, hb⟩
  obtain ⟨rfl, rfl, rfl⟩ : k_w0 = k_h0 ∧ a_w0 = a_h0 ∧ b_w0 = b_h0 := by have := hsd_w0.out.trans hsd_h0.out.symm; simpa using this
  obtain rfl : ok_w2 = ok_h2 := hok_w2.out.trans hok_h2.out.symm
  obtain ⟨A_h1, c_h1, rfl, hcap_h1⟩ := ho.shapeI
  have hap16 := HO19_t1.out.apart ho (Nat.le_refl _)
  have hap17 := HO19_w1.out.apart ho (Nat.le_refl _)
  have hap18 := HO19_x2.out.apart ho (Nat.le_refl _)
  have hap19 := HO19_g1.out.apart ho (Nat.le_refl _)
  have hap20 := HO19_t2.out.apart ho (Nat.le_refl _)
  have hap21 := HO19_t3.out.apart ho (Nat.le_refl _)
  have bn_aS_h1 : some (w.heap.size) ≠ Value.ownBlock (.slice A_h1 _ c_h1) := fun e => by have := (ho.lt _ e.symm).1; have := HX19_aS.out.lt; omega
  have bn_w0_h1 : some (w3.heap.size) ≠ Value.ownBlock (.slice A_h1 _ c_h1) := fun e => by have := (ho.lt _ e.symm).1; have := HX19_w0.out.lt; omega
  have bn_g0_h1 : some (w7.heap.size) ≠ Value.ownBlock (.slice A_h1 _ c_h1) := fun e => by have := (ho.lt _ e.symm).1; have := HX19_g0.out.lt; omega
  have HO20_h1 := Lib.hid (ho.base_le hs19)
  have HR20_aWeights := Lib.hid (HR19_aWeights.out.below hb hs19)
  have HO20_t1 := Lib.hid (HO19_t1.out.below hb (Nat.le_refl _))
  have HO20_w1 := Lib.hid (HO19_w1.out.below hb (Nat.le_refl _))
  have HO20_x2 := Lib.hid (HO19_x2.out.below hb (Nat.le_refl _))
  have HO20_g1 := Lib.hid (HO19_g1.out.below hb (Nat.le_refl _))
  have HO20_t2 := Lib.hid (HO19_t2.out.below hb (Nat.le_refl _))
  have HO20_t3 := Lib.hid (HO19_t3.out.below hb (Nat.le_refl _))
  have HX20_aS := Lib.hid (HX19_aS.out.below hb HX19_aS.out.lt)
  have HX20_w0 := Lib.hid (HX19_w0.out.below hb HX19_w0.out.lt)
  have HX20_g0 := Lib.hid (HX19_g0.out.below hb HX19_g0.out.lt)
  have HB20 := Lib.hid (HB19.out.trans (hb.mono hs19))
  have hs20 : w.heap.size ≤ w20.heap.size := HB20.out.size
  clear hb ho
  clear HX19_aS
  clear HX19_w0
  clear HX19_g0
  clear HR19_aWeights
  clear HO19_t1
  clear HO19_w1
  clear HO19_x2
  clear HO19_g1
  clear HO19_t2
  clear HO19_t3
  clear HB19
  have hne19 : (ok_w2 != ok_w2) = false := by simp
  have hb : Below w20.heap.size w20 (w20.alloc (.cells #[.int .i64 k_w0, .int .u64 a_w0, .int .u64 b_w0] 37)) := (Below.refl _ _).alloc (Nat.le_refl _) _
  have bn_h0_t1 : some (w20.heap.size) ≠ Value.ownBlock (.slice A_t1 xs_aWeights.length c_t1) := fun e => by have := (HO20_t1.out.lt _ e.symm).2; omega
  have bn_h0_w1 : some (w20.heap.size) ≠ Value.ownBlock (.slice A_w1 ((rx.map Prod.snd).getD []).length c_w1) := fun e => by have := (HO20_w1.out.lt _ e.symm).2; omega
  have bn_h0_x2 : some (w20.heap.size) ≠ Value.ownBlock (.slice A_x2 xs_aWeights.length c_x2) := fun e => by have := (HO20_x2.out.lt _ e.symm).2; omega
  have bn_h0_g1 : some (w20.heap.size) ≠ Value.ownBlock (.slice A_g1 ((rx.map Prod.snd).getD []).length c_g1) := fun e => by have := (HO20_g1.out.lt _ e.symm).2; omega
  have bn_h0_t2 : some (w20.heap.size) ≠ Value.ownBlock (.slice A_t2 xs_aWeights.length c_t2) := fun e => by have := (HO20_t2.out.lt _ e.symm).2; omega
  have bn_h0_t3 : some (w20.heap.size) ≠ Value.ownBlock (.slice A_t3 xs_aWeights.length c_t3) := fun e => by have := (HO20_t3.out.lt _ e.symm).2; omega
  have bn_h0_h1 : some (w20.heap.size) ≠ Value.ownBlock (.slice A_h1 ((rx.map Prod.snd).getD []).length c_h1) := fun e => by have := (HO20_h1.out.lt _ e.symm).2; omega
  have HR21_aWeights := Lib.hid (HR20_aWeights.out.below hb hs20)
  have HO21_t1 := Lib.hid (HO20_t1.out.below hb (Nat.le_refl _))
  have HO21_w1 := Lib.hid (HO20_w1.out.below hb (Nat.le_refl _))
  have HO21_x2 := Lib.hid (HO20_x2.out.below hb (Nat.le_refl _))
  have HO21_g1 := Lib.hid (HO20_g1.out.below hb (Nat.le_refl _))
  have HO21_t2 := Lib.hid (HO20_t2.out.below hb (Nat.le_refl _))
  have HO21_t3 := Lib.hid (HO20_t3.out.below hb (Nat.le_refl _))
  have HO21_h1 := Lib.hid (HO20_h1.out.below hb (Nat.le_refl _))
  have HX21_aS := Lib.hid (HX20_aS.out.below hb HX20_aS.out.lt)
  have HX21_w0 := Lib.hid (HX20_w0.out.below hb HX20_w0.out.lt)
  have HX21_g0 := Lib.hid (HX20_g0.out.below hb HX20_g0.out.lt)
  have HB21 := Lib.hid (HB20.out.trans (hb.mono hs20))
  have hs21 : w.heap.size ≤ (w20.alloc (.cells #[.int .i64 k_w0, .int .u64 a_w0, .int .u64 b_w0] 37)).heap.size := HB21.out.size
  clear hb
  have HX21_h0 := Lib.hid (SeedAt.new w20 k_w0 a_w0 b_w0)
  clear HX20_aS
  clear HX20_w0
  clear HX20_g0
  clear HR20_aWeights
  clear HO20_t1
  clear HO20_w1
  clear HO20_x2
  clear HO20_g1
  clear HO20_t2
  clear HO20_t3
  clear HO20_h1
  clear HB20
  have bx00 := HX21_aS.out.c0
  have bx01 := HX21_aS.out.c1
  have bx02 := HX21_aS.out.c2
  have bx10 := HX21_w0.out.c0
  have bx11 := HX21_w0.out.c1
  have bx12 := HX21_w0.out.c2
  simp only at bx10 bx11 bx12
  have bx20 := HX21_g0.out.c0
  have bx21 := HX21_g0.out.c1
  have bx22 := HX21_g0.out.c2
  simp only at bx20 bx21 bx22
  have bx30 := HX21_h0.out.c0
  have bx31 := HX21_h0.out.c1
  have bx32 := HX21_h0.out.c2
  simp only at bx30 bx31 bx32
  go_wp2_with fail
  refine (eqSeed_same k_w0 a_w0 b_w0 _).mono ?_
  rintro e w22 ⟨rfl, hb⟩
  clear bx00 bx01 bx02 bx10 bx11 bx12 bx20 bx21 bx22 bx30 bx31 bx32
  have HR22_aWeights := Lib.hid (HR21_aWeights.out.below hb hs21)
  have HO22_t1 := Lib.hid (HO21_t1.out.below hb (Nat.le_refl _))
  have HO22_w1 := Lib.hid (HO21_w1.out.below hb (Nat.le_refl _))
  have HO22_x2 := Lib.hid (HO21_x2.out.below hb (Nat.le_refl _))
  have HO22_g1 := Lib.hid (HO21_g1.out.below hb (Nat.le_refl _))
  have HO22_t2 := Lib.hid (HO21_t2.out.below hb (Nat.le_refl _))
  have HO22_t3 := Lib.hid (HO21_t3.out.below hb (Nat.le_refl _))
  have HO22_h1 := Lib.hid (HO21_h1.out.below hb (Nat.le_refl _))
  have HX22_aS := Lib.hid (HX21_aS.out.below hb HX21_aS.out.lt)
  have HX22_w0 := Lib.hid (HX21_w0.out.below hb HX21_w0.out.lt)
  have HX22_g0 := Lib.hid (HX21_g0.out.below hb HX21_g0.out.lt)
  have HX22_h0 := Lib.hid (HX21_h0.out.below hb HX21_h0.out.lt)
  have HB22 := Lib.hid (HB21.out.trans (hb.mono hs21))
  have hs22 : w.heap.size ≤ w22.heap.size := HB22.out.size
  clear hb
  clear HX21_aS
  clear HX21_w0
  clear HX21_g0
  clear HX21_h0
  clear HR21_aWeights
  clear HO21_t1
  clear HO21_w1
  clear HO21_x2
  clear HO21_g1
  clear HO21_t2
  clear HO21_t3
  clear HO21_h1
  clear HB21
  go_wp2_with fail
  refine (eqI_same A_h1 A_w1 ((rx.map Prod.snd).getD []).length ((rx.map Prod.snd).getD []).length c_h1 c_w1 _ ((rx.map Prod.snd).getD []) _ HO22_h1.out.rdI HO22_w1.out.rdI (by unfold maxLen; omega)).mono ?_
  rintro e w23 ⟨rfl, hb⟩
  have HR23_aWeights := Lib.hid (HR22_aWeights.out.below hb hs22)
  have HO23_t1 := Lib.hid (HO22_t1.out.below hb (Nat.le_refl _))
  have HO23_w1 := Lib.hid (HO22_w1.out.below hb (Nat.le_refl _))
  have HO23_x2 := Lib.hid (HO22_x2.out.below hb (Nat.le_refl _))
  have HO23_g1 := Lib.hid (HO22_g1.out.below hb (Nat.le_refl _))
  have HO23_t2 := Lib.hid (HO22_t2.out.below hb (Nat.le_refl _))
  have HO23_t3 := Lib.hid (HO22_t3.out.below hb (Nat.le_refl _))
  have HO23_h1 := Lib.hid (HO22_h1.out.below hb (Nat.le_refl _))
  have HX23_aS := Lib.hid (HX22_aS.out.below hb HX22_aS.out.lt)
  have HX23_w0 := Lib.hid (HX22_w0.out.below hb HX22_w0.out.lt)
  have HX23_g0 := Lib.hid (HX22_g0.out.below hb HX22_g0.out.lt)
  have HX23_h0 := Lib.hid (HX22_h0.out.below hb HX22_h0.out.lt)
  have HB23 := Lib.hid (HB22.out.trans (hb.mono hs22))
  have hs23 : w.heap.size ≤ w23.heap.size := HB23.out.size
  clear hb
  clear HX22_aS
  clear HX22_w0
  clear HX22_g0
  clear HX22_h0
  clear HR22_aWeights
  clear HO22_t1
  clear HO22_w1
  clear HO22_x2
  clear HO22_g1
  clear HO22_t2
  clear HO22_t3
  clear HO22_h1
  clear HB22
  go_wp2_with fail
  have hrd := HO23_g1.out.rdI
  rw [marks_len] at hrd
  refine (heldI_b A_g1 ((rx.map Prod.snd).getD []).length c_g1 _ 1 _ hrd (by omega) (by omega)).mono ?_
  clear hrd
  rintro e w24 ⟨rfl, hb⟩
  have HR24_aWeights := Lib.hid (HR23_aWeights.out.below hb hs23)
  have HO24_t1 := Lib.hid (HO23_t1.out.below hb (Nat.le_refl _))
  have HO24_w1 := Lib.hid (HO23_w1.out.below hb (Nat.le_refl _))
  have HO24_x2 := Lib.hid (HO23_x2.out.below hb (Nat.le_refl _))
  have HO24_g1 := Lib.hid (HO23_g1.out.below hb (Nat.le_refl _))
  have HO24_t2 := Lib.hid (HO23_t2.out.below hb (Nat.le_refl _))
  have HO24_t3 := Lib.hid (HO23_t3.out.below hb (Nat.le_refl _))
  have HO24_h1 := Lib.hid (HO23_h1.out.below hb (Nat.le_refl _))
  have HX24_aS := Lib.hid (HX23_aS.out.below hb HX23_aS.out.lt)
  have HX24_w0 := Lib.hid (HX23_w0.out.below hb HX23_w0.out.lt)
  have HX24_g0 := Lib.hid (HX23_g0.out.below hb HX23_g0.out.lt)
  have HX24_h0 := Lib.hid (HX23_h0.out.below hb HX23_h0.out.lt)
  have HB24 := Lib.hid (HB23.out.trans (hb.mono hs23))
  have hs24 : w.heap.size ≤ w24.heap.size := HB24.out.size
  clear hb
  clear HX23_aS
  clear HX23_w0
  clear HX23_g0
  clear HX23_h0
  clear HR23_aWeights
  clear HO23_t1
  clear HO23_w1
  clear HO23_x2
  clear HO23_g1
  clear HO23_t2
  clear HO23_t3
  clear HO23_h1
  clear HB23
  have hge24 : ¬ ((1 + ((rx.map Prod.snd).getD []).length : Nat) : Int) < 0 := by omega
  have hne24 : (((1 + ((rx.map Prod.snd).getD []).length : Nat) : Int) != ((1 + ((rx.map Prod.snd).getD []).length : Nat) : Int)) = false := by simp
  go_wp2
  go_ret
  exact ⟨rfl, HB24.out⟩
end Go.Proofs.Ytbaifeedacokhaa
