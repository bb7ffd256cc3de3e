/- The statement FnExactBallPoint out of the contracts of both functions; printed by a program of mine. -/
import Derived.Test.YtdofpnhmlhkoiaaShapes
import Derived.Test.YtdofpnhmlhkoiaaShapesF
import Derived.Test.YtdofpnhmlhkoiaaShapesS
import Derived.Test.YtdofpnhmlhkoiaaFloatM
import Derived.Test.YtdofpnhmlhkoiaaShapesB
namespace Go.Proofs.Ytdofpnhmlhkoiaa
open Go.RowKit
set_option maxRecDepth 100000 in
set_option maxHeartbeats 4000000 in
theorem law_BallPoint (r : Sd → Option (Sd × List Nat)) (hS : FnS_SFlB 20 r) (hI : FnS_SFlB 21 r) (hr : ∀ k_aS a_aS b_aS, (((r ⟨k_aS, a_aS, b_aS⟩).map Prod.snd).getD []).length ≤ 2000000)
    (w : World) (k_aS a_aS b_aS : Int) (hf_aS : Sd.ok ⟨k_aS, a_aS, b_aS⟩) :
    Calls Try.prog 6 #[.agg #[.int .i64 k_aS, .int .u64 a_aS, .int .u64 b_aS]] w fun e w' => e = .returned (.bool true) ∧ Below w.heap.size w w' := by
  have hrl := hr k_aS a_aS b_aS
  clear hr
  generalize hrx : r ⟨k_aS, a_aS, b_aS⟩ = rx at hrl
  have Hrx := Lib.hid hrx; clear hrx
  have Hf_aS := Lib.hid hf_aS; clear hf_aS
  have HB0 : Hid (Below w.heap.size w (w.alloc (.cells #[.int .i64 k_aS, .int .u64 a_aS, .int .u64 b_aS] 24))) := (Below.refl _ _).alloc (Nat.le_refl _) _
  have hs0 : w.heap.size ≤ (w.alloc (.cells #[.int .i64 k_aS, .int .u64 a_aS, .int .u64 b_aS] 24)).heap.size := HB0.out.size
  have HX0_aS := Lib.hid (BoxAt.new w k_aS a_aS b_aS)
  go_enter Try.func6, Try.ntmps6
  have bx00 := HX0_aS.out.c0
  have bx01 := HX0_aS.out.c1
  have bx02 := HX0_aS.out.c2
  go_wp2_with fail
  refine (toSeed_any k_aS a_aS b_aS _).mono ?_
  rintro e w1 ⟨rfl, hb⟩
  clear bx00 bx01 bx02
  have HX1_aS := Lib.hid (HX0_aS.out.below hb HX0_aS.out.lt)
  have HB1 := Lib.hid (HB0.out.trans (hb.mono hs0))
  have hs1 : w.heap.size ≤ w1.heap.size := HB1.out.size
  clear hb
  clear HX0_aS
  clear HB0
  have bx00 := HX1_aS.out.c0
  have bx01 := HX1_aS.out.c1
  have bx02 := HX1_aS.out.c2
  go_wp2_with fail
  refine (hS k_aS a_aS b_aS _ Hf_aS.out).mono ?_
  clear bx00 bx01 bx02
  rw [Hrx.out]
  rintro e w2 ⟨k_w0, a_w0, b_w0, v, xs_w1, ok_w2, rfl, hok_w2, hsd_w0, hmap_w1, ho, hb⟩
  obtain ⟨A_w1, c_w1, rfl, hcap_w1⟩ := ho.shapeF
  have bn_aS_w1 : some (w.heap.size) ≠ Value.ownBlock (.slice A_w1 _ c_w1) := fun e => by have := (ho.lt _ e.symm).1; have := HX1_aS.out.lt; omega
  have HO2_w1 := Lib.hid (ho.base_le hs1)
  have hxl_w1 : xs_w1.length ≤ 2000000 := by have := congrArg List.length hmap_w1.out; rw [List.length_map] at this; omega
  have HX2_aS := Lib.hid (HX1_aS.out.below hb HX1_aS.out.lt)
  have HB2 := Lib.hid (HB1.out.trans (hb.mono hs1))
  have hs2 : w.heap.size ≤ w2.heap.size := HB2.out.size
  clear hb ho
  clear HX1_aS
  clear HB1
  have hne1 : (ok_w2 != ok_w2) = false := by simp
  have hb : Below w2.heap.size w2 (w2.alloc (.cells #[.int .i64 k_w0, .int .u64 a_w0, .int .u64 b_w0] 26)) := (Below.refl _ _).alloc (Nat.le_refl _) _
  have bn_w0_w1 : some (w2.heap.size) ≠ Value.ownBlock (.slice A_w1 xs_w1.length c_w1) := fun e => by have := (HO2_w1.out.lt _ e.symm).2; omega
  have HO3_w1 := Lib.hid (HO2_w1.out.below hb (Nat.le_refl _))
  have HX3_aS := Lib.hid (HX2_aS.out.below hb HX2_aS.out.lt)
  have HB3 := Lib.hid (HB2.out.trans (hb.mono hs2))
  have hs3 : w.heap.size ≤ (w2.alloc (.cells #[.int .i64 k_w0, .int .u64 a_w0, .int .u64 b_w0] 26)).heap.size := HB3.out.size
  clear hb
  have HX3_w0 := Lib.hid (SeedAt.new w2 k_w0 a_w0 b_w0)
  clear HX2_aS
  clear HO2_w1
  clear HB2
  have bx00 := HX3_aS.out.c0
  have bx01 := HX3_aS.out.c1
  have bx02 := HX3_aS.out.c2
  have bx10 := HX3_w0.out.c0
  have bx11 := HX3_w0.out.c1
  have bx12 := HX3_w0.out.c2
  simp only at bx10 bx11 bx12
  go_wp2_with fail
  refine (toSeed_any k_aS a_aS b_aS _).mono ?_
  rintro e w4 ⟨rfl, hb⟩
  clear bx00 bx01 bx02 bx10 bx11 bx12
  have HO4_w1 := Lib.hid (HO3_w1.out.below hb (Nat.le_refl _))
  have HX4_aS := Lib.hid (HX3_aS.out.below hb HX3_aS.out.lt)
  have HX4_w0 := Lib.hid (HX3_w0.out.below hb HX3_w0.out.lt)
  have HB4 := Lib.hid (HB3.out.trans (hb.mono hs3))
  have hs4 : w.heap.size ≤ w4.heap.size := HB4.out.size
  clear hb
  clear HX3_aS
  clear HX3_w0
  clear HO3_w1
  clear HB3
  have bx00 := HX4_aS.out.c0
  have bx01 := HX4_aS.out.c1
  have bx02 := HX4_aS.out.c2
  have bx10 := HX4_w0.out.c0
  have bx11 := HX4_w0.out.c1
  have bx12 := HX4_w0.out.c2
  simp only at bx10 bx11 bx12
  go_wp2_with fail
  refine (hI k_aS a_aS b_aS _ Hf_aS.out).mono ?_
  clear bx00 bx01 bx02 bx10 bx11 bx12
  rw [Hrx.out]
  rintro e w5 ⟨k_g0, a_g0, b_g0, v, xs_g1, ok_g2, rfl, hok_g2, hsd_g0, hmap_g1, ho, hb⟩
  obtain ⟨rfl, rfl, rfl⟩ : k_w0 = k_g0 ∧ a_w0 = a_g0 ∧ b_w0 = b_g0 := by have := hsd_w0.out.trans hsd_g0.out.symm; simpa using this
  obtain rfl : ok_w2 = ok_g2 := hok_w2.out.trans hok_g2.out.symm
  obtain ⟨A_g1, c_g1, rfl, hcap_g1⟩ := ho.shapeF
  have hap1 := HO4_w1.out.apart ho (Nat.le_refl _)
  have bn_aS_g1 : some (w.heap.size) ≠ Value.ownBlock (.slice A_g1 _ c_g1) := fun e => by have := (ho.lt _ e.symm).1; have := HX4_aS.out.lt; omega
  have bn_w0_g1 : some (w2.heap.size) ≠ Value.ownBlock (.slice A_g1 _ c_g1) := fun e => by have := (ho.lt _ e.symm).1; have := HX4_w0.out.lt; omega
  have HO5_g1 := Lib.hid (ho.base_le hs4)
  have hxl_g1 : xs_g1.length ≤ 2000000 := by have := congrArg List.length hmap_g1.out; rw [List.length_map] at this; omega
  have HO5_w1 := Lib.hid (HO4_w1.out.below hb (Nat.le_refl _))
  have HX5_aS := Lib.hid (HX4_aS.out.below hb HX4_aS.out.lt)
  have HX5_w0 := Lib.hid (HX4_w0.out.below hb HX4_w0.out.lt)
  have HB5 := Lib.hid (HB4.out.trans (hb.mono hs4))
  have hs5 : w.heap.size ≤ w5.heap.size := HB5.out.size
  clear hb ho
  clear HX4_aS
  clear HX4_w0
  clear HO4_w1
  clear HB4
  have hne4 : (ok_w2 != ok_w2) = false := by simp
  have hb : Below w5.heap.size w5 (w5.alloc (.cells #[.int .i64 k_w0, .int .u64 a_w0, .int .u64 b_w0] 26)) := (Below.refl _ _).alloc (Nat.le_refl _) _
  have bn_g0_w1 : some (w5.heap.size) ≠ Value.ownBlock (.slice A_w1 xs_w1.length c_w1) := fun e => by have := (HO5_w1.out.lt _ e.symm).2; omega
  have bn_g0_g1 : some (w5.heap.size) ≠ Value.ownBlock (.slice A_g1 xs_g1.length c_g1) := fun e => by have := (HO5_g1.out.lt _ e.symm).2; omega
  have HO6_w1 := Lib.hid (HO5_w1.out.below hb (Nat.le_refl _))
  have HO6_g1 := Lib.hid (HO5_g1.out.below hb (Nat.le_refl _))
  have HX6_aS := Lib.hid (HX5_aS.out.below hb HX5_aS.out.lt)
  have HX6_w0 := Lib.hid (HX5_w0.out.below hb HX5_w0.out.lt)
  have HB6 := Lib.hid (HB5.out.trans (hb.mono hs5))
  have hs6 : w.heap.size ≤ (w5.alloc (.cells #[.int .i64 k_w0, .int .u64 a_w0, .int .u64 b_w0] 26)).heap.size := HB6.out.size
  clear hb
  have HX6_g0 := Lib.hid (SeedAt.new w5 k_w0 a_w0 b_w0)
  clear HX5_aS
  clear HX5_w0
  clear HO5_w1
  clear HO5_g1
  clear HB5
  have bx00 := HX6_aS.out.c0
  have bx01 := HX6_aS.out.c1
  have bx02 := HX6_aS.out.c2
  have bx10 := HX6_w0.out.c0
  have bx11 := HX6_w0.out.c1
  have bx12 := HX6_w0.out.c2
  simp only at bx10 bx11 bx12
  have bx20 := HX6_g0.out.c0
  have bx21 := HX6_g0.out.c1
  have bx22 := HX6_g0.out.c2
  simp only at bx20 bx21 bx22
  go_wp2_with fail
  refine (eqSeed_same k_w0 a_w0 b_w0 _).mono ?_
  rintro e w7 ⟨rfl, hb⟩
  clear bx00 bx01 bx02 bx10 bx11 bx12 bx20 bx21 bx22
  have HO7_w1 := Lib.hid (HO6_w1.out.below hb (Nat.le_refl _))
  have HO7_g1 := Lib.hid (HO6_g1.out.below hb (Nat.le_refl _))
  have HX7_aS := Lib.hid (HX6_aS.out.below hb HX6_aS.out.lt)
  have HX7_w0 := Lib.hid (HX6_w0.out.below hb HX6_w0.out.lt)
  have HX7_g0 := Lib.hid (HX6_g0.out.below hb HX6_g0.out.lt)
  have HB7 := Lib.hid (HB6.out.trans (hb.mono hs6))
  have hs7 : w.heap.size ≤ w7.heap.size := HB7.out.size
  clear hb
  clear HX6_aS
  clear HX6_w0
  clear HX6_g0
  clear HO6_w1
  clear HO6_g1
  clear HB6
  go_wp2_with fail
  refine (eqF_same A_g1 A_w1 xs_g1.length xs_w1.length c_g1 c_w1 _ xs_g1 xs_w1 _ HO7_g1.out.rdF HO7_w1.out.rdF (by unfold maxLen; omega) (hmap_g1.out.trans hmap_w1.out.symm)).mono ?_
  rintro e w8 ⟨rfl, hb⟩
  have HO8_w1 := Lib.hid (HO7_w1.out.below hb (Nat.le_refl _))
  have HO8_g1 := Lib.hid (HO7_g1.out.below hb (Nat.le_refl _))
  have HX8_aS := Lib.hid (HX7_aS.out.below hb HX7_aS.out.lt)
  have HX8_w0 := Lib.hid (HX7_w0.out.below hb HX7_w0.out.lt)
  have HX8_g0 := Lib.hid (HX7_g0.out.below hb HX7_g0.out.lt)
  have HB8 := Lib.hid (HB7.out.trans (hb.mono hs7))
  have hs8 : w.heap.size ≤ w8.heap.size := HB8.out.size
  clear hb
  clear HX7_aS
  clear HX7_w0
  clear HX7_g0
  clear HO7_w1
  clear HO7_g1
  clear HB7
  go_wp2_with fail
  refine (markF_any A_g1 xs_g1.length c_g1 _ 1 xs_g1 _ HO8_g1.out (by omega) (by omega)).mono ?_
  rintro e w9 ⟨rfl, ho, hg⟩
  have HO9_g1 := Lib.hid ho
  have HO9_w1 := Lib.hid (HO8_w1.out.grown hg hap1)
  have HX9_aS := Lib.hid (HX8_aS.out.grown hg bn_aS_g1)
  have HX9_w0 := Lib.hid (HX8_w0.out.grown hg bn_w0_g1)
  have HX9_g0 := Lib.hid (HX8_g0.out.grown hg bn_g0_g1)
  have HB9 := Lib.hid (below_ownGrown HB8.out HO8_g1.out hg (Nat.le_refl _) (Nat.le_refl _))
  have hs9 : w.heap.size ≤ w9.heap.size := HB9.out.size
  clear ho hg
  clear HX8_aS
  clear HX8_w0
  clear HX8_g0
  clear HO8_w1
  clear HO8_g1
  clear HB8
  go_wp2_with fail
  have hrd := HO9_g1.out.rdF
  rw [marksF_len] at hrd
  refine (heldF_b A_g1 xs_g1.length c_g1 _ 1 _ hrd (by omega) (by omega)).mono ?_
  clear hrd
  rintro e w10 ⟨rfl, hb⟩
  have HO10_w1 := Lib.hid (HO9_w1.out.below hb (Nat.le_refl _))
  have HO10_g1 := Lib.hid (HO9_g1.out.below hb (Nat.le_refl _))
  have HX10_aS := Lib.hid (HX9_aS.out.below hb HX9_aS.out.lt)
  have HX10_w0 := Lib.hid (HX9_w0.out.below hb HX9_w0.out.lt)
  have HX10_g0 := Lib.hid (HX9_g0.out.below hb HX9_g0.out.lt)
  have HB10 := Lib.hid (HB9.out.trans (hb.mono hs9))
  have hs10 : w.heap.size ≤ w10.heap.size := HB10.out.size
  clear hb
  clear HX9_aS
  clear HX9_w0
  clear HX9_g0
  clear HO9_w1
  clear HO9_g1
  clear HB9
  have hge10 : ¬ ((1 + xs_g1.length : Nat) : Int) < 0 := by omega
  have hne10 : (((1 + xs_g1.length : Nat) : Int) != ((1 + xs_g1.length : Nat) : Int)) = false := by simp
  have bx00 := HX10_aS.out.c0
  have bx01 := HX10_aS.out.c1
  have bx02 := HX10_aS.out.c2
  have bx10 := HX10_w0.out.c0
  have bx11 := HX10_w0.out.c1
  have bx12 := HX10_w0.out.c2
  simp only at bx10 bx11 bx12
  have bx20 := HX10_g0.out.c0
  have bx21 := HX10_g0.out.c1
  have bx22 := HX10_g0.out.c2
  simp only at bx20 bx21 bx22
  go_wp2_with fail
  refine (toSeed_any k_aS a_aS b_aS _).mono ?_
  rintro e w11 ⟨rfl, hb⟩
  clear bx00 bx01 bx02 bx10 bx11 bx12 bx20 bx21 bx22
  have HO11_w1 := Lib.hid (HO10_w1.out.below hb (Nat.le_refl _))
  have HO11_g1 := Lib.hid (HO10_g1.out.below hb (Nat.le_refl _))
  have HX11_aS := Lib.hid (HX10_aS.out.below hb HX10_aS.out.lt)
  have HX11_w0 := Lib.hid (HX10_w0.out.below hb HX10_w0.out.lt)
  have HX11_g0 := Lib.hid (HX10_g0.out.below hb HX10_g0.out.lt)
  have HB11 := Lib.hid (HB10.out.trans (hb.mono hs10))
  have hs11 : w.heap.size ≤ w11.heap.size := HB11.out.size
  clear hb
  clear HX10_aS
  clear HX10_w0
  clear HX10_g0
  clear HO10_w1
  clear HO10_g1
  clear HB10
  have bx00 := HX11_aS.out.c0
  have bx01 := HX11_aS.out.c1
  have bx02 := HX11_aS.out.c2
  have bx10 := HX11_w0.out.c0
  have bx11 := HX11_w0.out.c1
  have bx12 := HX11_w0.out.c2
  simp only at bx10 bx11 bx12
  have bx20 := HX11_g0.out.c0
  have bx21 := HX11_g0.out.c1
  have bx22 := HX11_g0.out.c2
  simp only at bx20 bx21 bx22
  go_wp2_with fail
  refine (hI k_aS a_aS b_aS _ Hf_aS.out).mono ?_
  clear bx00 bx01 bx02 bx10 bx11 bx12 bx20 bx21 bx22
  rw [Hrx.out]
  rintro e w12 ⟨k_h0, a_h0, b_h0, v, xs_h1, ok_h2, rfl, hok_h2, hsd_h0, hmap_h1, ho, hb⟩
  obtain ⟨rfl, rfl, rfl⟩ : k_w0 = k_h0 ∧ a_w0 = a_h0 ∧ b_w0 = b_h0 := by have := hsd_w0.out.trans hsd_h0.out.symm; simpa using this
  obtain rfl : ok_w2 = ok_h2 := hok_w2.out.trans hok_h2.out.symm
  obtain ⟨A_h1, c_h1, rfl, hcap_h1⟩ := ho.shapeF
  have hap2 := HO11_w1.out.apart ho (Nat.le_refl _)
  have hap3 := HO11_g1.out.apart ho (Nat.le_refl _)
  have bn_aS_h1 : some (w.heap.size) ≠ Value.ownBlock (.slice A_h1 _ c_h1) := fun e => by have := (ho.lt _ e.symm).1; have := HX11_aS.out.lt; omega
  have bn_w0_h1 : some (w2.heap.size) ≠ Value.ownBlock (.slice A_h1 _ c_h1) := fun e => by have := (ho.lt _ e.symm).1; have := HX11_w0.out.lt; omega
  have bn_g0_h1 : some (w5.heap.size) ≠ Value.ownBlock (.slice A_h1 _ c_h1) := fun e => by have := (ho.lt _ e.symm).1; have := HX11_g0.out.lt; omega
  have HO12_h1 := Lib.hid (ho.base_le hs11)
  have hxl_h1 : xs_h1.length ≤ 2000000 := by have := congrArg List.length hmap_h1.out; rw [List.length_map] at this; omega
  have HO12_w1 := Lib.hid (HO11_w1.out.below hb (Nat.le_refl _))
  have HO12_g1 := Lib.hid (HO11_g1.out.below hb (Nat.le_refl _))
  have HX12_aS := Lib.hid (HX11_aS.out.below hb HX11_aS.out.lt)
  have HX12_w0 := Lib.hid (HX11_w0.out.below hb HX11_w0.out.lt)
  have HX12_g0 := Lib.hid (HX11_g0.out.below hb HX11_g0.out.lt)
  have HB12 := Lib.hid (HB11.out.trans (hb.mono hs11))
  have hs12 : w.heap.size ≤ w12.heap.size := HB12.out.size
  clear hb ho
  clear HX11_aS
  clear HX11_w0
  clear HX11_g0
  clear HO11_w1
  clear HO11_g1
  clear HB11
  have hne11 : (ok_w2 != ok_w2) = false := by simp
  have hb : Below w12.heap.size w12 (w12.alloc (.cells #[.int .i64 k_w0, .int .u64 a_w0, .int .u64 b_w0] 26)) := (Below.refl _ _).alloc (Nat.le_refl _) _
  have bn_h0_w1 : some (w12.heap.size) ≠ Value.ownBlock (.slice A_w1 xs_w1.length c_w1) := fun e => by have := (HO12_w1.out.lt _ e.symm).2; omega
  have bn_h0_g1 : some (w12.heap.size) ≠ Value.ownBlock (.slice A_g1 xs_g1.length c_g1) := fun e => by have := (HO12_g1.out.lt _ e.symm).2; omega
  have bn_h0_h1 : some (w12.heap.size) ≠ Value.ownBlock (.slice A_h1 xs_h1.length c_h1) := fun e => by have := (HO12_h1.out.lt _ e.symm).2; omega
  have HO13_w1 := Lib.hid (HO12_w1.out.below hb (Nat.le_refl _))
  have HO13_g1 := Lib.hid (HO12_g1.out.below hb (Nat.le_refl _))
  have HO13_h1 := Lib.hid (HO12_h1.out.below hb (Nat.le_refl _))
  have HX13_aS := Lib.hid (HX12_aS.out.below hb HX12_aS.out.lt)
  have HX13_w0 := Lib.hid (HX12_w0.out.below hb HX12_w0.out.lt)
  have HX13_g0 := Lib.hid (HX12_g0.out.below hb HX12_g0.out.lt)
  have HB13 := Lib.hid (HB12.out.trans (hb.mono hs12))
  have hs13 : w.heap.size ≤ (w12.alloc (.cells #[.int .i64 k_w0, .int .u64 a_w0, .int .u64 b_w0] 26)).heap.size := HB13.out.size
  clear hb
  have HX13_h0 := Lib.hid (SeedAt.new w12 k_w0 a_w0 b_w0)
  clear HX12_aS
  clear HX12_w0
  clear HX12_g0
  clear HO12_w1
  clear HO12_g1
  clear HO12_h1
  clear HB12
  have bx00 := HX13_aS.out.c0
  have bx01 := HX13_aS.out.c1
  have bx02 := HX13_aS.out.c2
  have bx10 := HX13_w0.out.c0
  have bx11 := HX13_w0.out.c1
  have bx12 := HX13_w0.out.c2
  simp only at bx10 bx11 bx12
  have bx20 := HX13_g0.out.c0
  have bx21 := HX13_g0.out.c1
  have bx22 := HX13_g0.out.c2
  simp only at bx20 bx21 bx22
  have bx30 := HX13_h0.out.c0
  have bx31 := HX13_h0.out.c1
  have bx32 := HX13_h0.out.c2
  simp only at bx30 bx31 bx32
  go_wp2_with fail
  refine (eqSeed_same k_w0 a_w0 b_w0 _).mono ?_
  rintro e w14 ⟨rfl, hb⟩
  clear bx00 bx01 bx02 bx10 bx11 bx12 bx20 bx21 bx22 bx30 bx31 bx32
  have HO14_w1 := Lib.hid (HO13_w1.out.below hb (Nat.le_refl _))
  have HO14_g1 := Lib.hid (HO13_g1.out.below hb (Nat.le_refl _))
  have HO14_h1 := Lib.hid (HO13_h1.out.below hb (Nat.le_refl _))
  have HX14_aS := Lib.hid (HX13_aS.out.below hb HX13_aS.out.lt)
  have HX14_w0 := Lib.hid (HX13_w0.out.below hb HX13_w0.out.lt)
  have HX14_g0 := Lib.hid (HX13_g0.out.below hb HX13_g0.out.lt)
  have HX14_h0 := Lib.hid (HX13_h0.out.below hb HX13_h0.out.lt)
  have HB14 := Lib.hid (HB13.out.trans (hb.mono hs13))
  have hs14 : w.heap.size ≤ w14.heap.size := HB14.out.size
  clear hb
  clear HX13_aS
  clear HX13_w0
  clear HX13_g0
  clear HX13_h0
  clear HO13_w1
  clear HO13_g1
  clear HO13_h1
  clear HB13
  go_wp2_with fail
  refine (eqF_same A_h1 A_w1 xs_h1.length xs_w1.length c_h1 c_w1 _ xs_h1 xs_w1 _ HO14_h1.out.rdF HO14_w1.out.rdF (by unfold maxLen; omega) (hmap_h1.out.trans hmap_w1.out.symm)).mono ?_
  rintro e w15 ⟨rfl, hb⟩
  have HO15_w1 := Lib.hid (HO14_w1.out.below hb (Nat.le_refl _))
  have HO15_g1 := Lib.hid (HO14_g1.out.below hb (Nat.le_refl _))
  have HO15_h1 := Lib.hid (HO14_h1.out.below hb (Nat.le_refl _))
  have HX15_aS := Lib.hid (HX14_aS.out.below hb HX14_aS.out.lt)
  have HX15_w0 := Lib.hid (HX14_w0.out.below hb HX14_w0.out.lt)
  have HX15_g0 := Lib.hid (HX14_g0.out.below hb HX14_g0.out.lt)
  have HX15_h0 := Lib.hid (HX14_h0.out.below hb HX14_h0.out.lt)
  have HB15 := Lib.hid (HB14.out.trans (hb.mono hs14))
  have hs15 : w.heap.size ≤ w15.heap.size := HB15.out.size
  clear hb
  clear HX14_aS
  clear HX14_w0
  clear HX14_g0
  clear HX14_h0
  clear HO14_w1
  clear HO14_g1
  clear HO14_h1
  clear HB14
  go_wp2_with fail
  have hrd := HO15_g1.out.rdF
  rw [marksF_len] at hrd
  refine (heldF_b A_g1 xs_g1.length c_g1 _ 1 _ hrd (by omega) (by omega)).mono ?_
  clear hrd
  rintro e w16 ⟨rfl, hb⟩
  have HO16_w1 := Lib.hid (HO15_w1.out.below hb (Nat.le_refl _))
  have HO16_g1 := Lib.hid (HO15_g1.out.below hb (Nat.le_refl _))
  have HO16_h1 := Lib.hid (HO15_h1.out.below hb (Nat.le_refl _))
  have HX16_aS := Lib.hid (HX15_aS.out.below hb HX15_aS.out.lt)
  have HX16_w0 := Lib.hid (HX15_w0.out.below hb HX15_w0.out.lt)
  have HX16_g0 := Lib.hid (HX15_g0.out.below hb HX15_g0.out.lt)
  have HX16_h0 := Lib.hid (HX15_h0.out.below hb HX15_h0.out.lt)
  have HB16 := Lib.hid (HB15.out.trans (hb.mono hs15))
  have hs16 : w.heap.size ≤ w16.heap.size := HB16.out.size
  clear hb
  clear HX15_aS
  clear HX15_w0
  clear HX15_g0
  clear HX15_h0
  clear HO15_w1
  clear HO15_g1
  clear HO15_h1
  clear HB15
  have hge16 : ¬ ((1 + xs_g1.length : Nat) : Int) < 0 := by omega
  have hne16 : (((1 + xs_g1.length : Nat) : Int) != ((1 + xs_g1.length : Nat) : Int)) = false := by simp
  go_wp2
  go_ret
  exact ⟨rfl, HB16.out⟩
end Go.Proofs.Ytdofpnhmlhkoiaa
