/- The statement FnExactBetaSeed out of the contracts of both functions; printed by a program of mine. -/
import Derived.Test.YtahimjdfkmhknaaShapes
import Derived.Test.YtahimjdfkmhknaaShapesF
import Derived.Test.YtahimjdfkmhknaaShapesS
import Derived.Test.YtahimjdfkmhknaaShapesSF
namespace Go.Proofs.Ytahimjdfkmhknaa
open Go.RowKit
set_option maxRecDepth 100000 in
set_option maxHeartbeats 4000000 in
theorem law_BetaSeed (r : Sd → Nat → Nat → Option (Sd × Nat)) (hS : FnSFF_SFB 10 r) (hI : FnSFF_SFB 11 r)
    (w : World) (k_aS a_aS b_aS : Int) (hf_aS : Sd.ok ⟨k_aS, a_aS, b_aS⟩) (x_aA : Nat) (hf_aA : x_aA < 2 ^ 32) (x_aB : Nat) (hf_aB : x_aB < 2 ^ 32) :
    Calls Try.prog 4 #[.agg #[.int .i64 k_aS, .int .u64 a_aS, .int .u64 b_aS], .float .f32 x_aA, .float .f32 x_aB] w fun e w' => e = .returned (.bool true) ∧ Below w.heap.size w w' := by
  generalize hrx : r ⟨k_aS, a_aS, b_aS⟩ x_aA x_aB = rx
  have Hrx := Lib.hid hrx; clear hrx
  have Hf_aS := Lib.hid hf_aS; clear hf_aS
  have Hf_aA := Lib.hid hf_aA; clear hf_aA
  have Hf_aB := Lib.hid hf_aB; clear hf_aB
  have HB0 : Hid (Below w.heap.size w (w.alloc (.cells #[.int .i64 k_aS, .int .u64 a_aS, .int .u64 b_aS] 24))) := (Below.refl _ _).alloc (Nat.le_refl _) _
  have hs0 : w.heap.size ≤ (w.alloc (.cells #[.int .i64 k_aS, .int .u64 a_aS, .int .u64 b_aS] 24)).heap.size := HB0.out.size
  have HX0_aS := Lib.hid (BoxAt.new w k_aS a_aS b_aS)
  go_enter Try.func4, Try.ntmps4
  have bx00 := HX0_aS.out.c0
  have bx01 := HX0_aS.out.c1
  have bx02 := HX0_aS.out.c2
  go_wp2_with fail
  refine (toSeed_any k_aS a_aS b_aS _).mono ?_
  rintro e w1 ⟨rfl, hb⟩
  clear bx00 bx01 bx02
  have HX1_aS := Lib.hid (HX0_aS.out.below hb HX0_aS.out.lt)
  have HB1 := Lib.hid (HB0.out.trans (hb.mono hs0))
  have hs1 : w.heap.size ≤ w1.heap.size := HB1.out.size
  clear hb
  clear HX0_aS
  clear HB0
  have bx00 := HX1_aS.out.c0
  have bx01 := HX1_aS.out.c1
  have bx02 := HX1_aS.out.c2
  go_wp2_with fail
  refine (hS k_aS a_aS b_aS x_aA x_aB _ Hf_aS.out Hf_aA.out Hf_aB.out).mono ?_
  clear bx00 bx01 bx02
  rw [Hrx.out]
  rintro e w2 ⟨k_w0, a_w0, b_w0, num_w1, ok_w2, rfl, hok_w2, hsd_w0, hnum_w1, hb⟩
  have HX2_aS := Lib.hid (HX1_aS.out.below hb HX1_aS.out.lt)
  have HB2 := Lib.hid (HB1.out.trans (hb.mono hs1))
  have hs2 : w.heap.size ≤ w2.heap.size := HB2.out.size
  clear hb
  clear HX1_aS
  clear HB1
  have hne1 : (ok_w2 != ok_w2) = false := by simp
  have hb : Below w2.heap.size w2 (w2.alloc (.cells #[.int .i64 k_w0, .int .u64 a_w0, .int .u64 b_w0] 26)) := (Below.refl _ _).alloc (Nat.le_refl _) _
  have HX3_aS := Lib.hid (HX2_aS.out.below hb HX2_aS.out.lt)
  have HB3 := Lib.hid (HB2.out.trans (hb.mono hs2))
  have hs3 : w.heap.size ≤ (w2.alloc (.cells #[.int .i64 k_w0, .int .u64 a_w0, .int .u64 b_w0] 26)).heap.size := HB3.out.size
  clear hb
  have HX3_w0 := Lib.hid (SeedAt.new w2 k_w0 a_w0 b_w0)
  clear HX2_aS
  clear HB2
  have bx00 := HX3_aS.out.c0
  have bx01 := HX3_aS.out.c1
  have bx02 := HX3_aS.out.c2
  have bx10 := HX3_w0.out.c0
  have bx11 := HX3_w0.out.c1
  have bx12 := HX3_w0.out.c2
  simp only at bx10 bx11 bx12
  go_wp2_with fail
  refine (toSeed_any k_aS a_aS b_aS _).mono ?_
  rintro e w4 ⟨rfl, hb⟩
  clear bx00 bx01 bx02 bx10 bx11 bx12
  have HX4_aS := Lib.hid (HX3_aS.out.below hb HX3_aS.out.lt)
  have HX4_w0 := Lib.hid (HX3_w0.out.below hb HX3_w0.out.lt)
  have HB4 := Lib.hid (HB3.out.trans (hb.mono hs3))
  have hs4 : w.heap.size ≤ w4.heap.size := HB4.out.size
  clear hb
  clear HX3_aS
  clear HX3_w0
  clear HB3
  have bx00 := HX4_aS.out.c0
  have bx01 := HX4_aS.out.c1
  have bx02 := HX4_aS.out.c2
  have bx10 := HX4_w0.out.c0
  have bx11 := HX4_w0.out.c1
  have bx12 := HX4_w0.out.c2
  simp only at bx10 bx11 bx12
  go_wp2_with fail
  refine (hI k_aS a_aS b_aS x_aA x_aB _ Hf_aS.out Hf_aA.out Hf_aB.out).mono ?_
  clear bx00 bx01 bx02 bx10 bx11 bx12
  rw [Hrx.out]
  rintro e w5 ⟨k_g0, a_g0, b_g0, num_g1, ok_g2, rfl, hok_g2, hsd_g0, hnum_g1, hb⟩
  obtain ⟨rfl, rfl, rfl⟩ : k_w0 = k_g0 ∧ a_w0 = a_g0 ∧ b_w0 = b_g0 := by have := hsd_w0.out.trans hsd_g0.out.symm; simpa using this
  obtain rfl : ok_w2 = ok_g2 := hok_w2.out.trans hok_g2.out.symm
  have HX5_aS := Lib.hid (HX4_aS.out.below hb HX4_aS.out.lt)
  have HX5_w0 := Lib.hid (HX4_w0.out.below hb HX4_w0.out.lt)
  have HB5 := Lib.hid (HB4.out.trans (hb.mono hs4))
  have hs5 : w.heap.size ≤ w5.heap.size := HB5.out.size
  clear hb
  clear HX4_aS
  clear HX4_w0
  clear HB4
  have hne4 : (ok_w2 != ok_w2) = false := by simp
  have hb : Below w5.heap.size w5 (w5.alloc (.cells #[.int .i64 k_w0, .int .u64 a_w0, .int .u64 b_w0] 26)) := (Below.refl _ _).alloc (Nat.le_refl _) _
  have HX6_aS := Lib.hid (HX5_aS.out.below hb HX5_aS.out.lt)
  have HX6_w0 := Lib.hid (HX5_w0.out.below hb HX5_w0.out.lt)
  have HB6 := Lib.hid (HB5.out.trans (hb.mono hs5))
  have hs6 : w.heap.size ≤ (w5.alloc (.cells #[.int .i64 k_w0, .int .u64 a_w0, .int .u64 b_w0] 26)).heap.size := HB6.out.size
  clear hb
  have HX6_g0 := Lib.hid (SeedAt.new w5 k_w0 a_w0 b_w0)
  clear HX5_aS
  clear HX5_w0
  clear HB5
  have bx00 := HX6_aS.out.c0
  have bx01 := HX6_aS.out.c1
  have bx02 := HX6_aS.out.c2
  have bx10 := HX6_w0.out.c0
  have bx11 := HX6_w0.out.c1
  have bx12 := HX6_w0.out.c2
  simp only at bx10 bx11 bx12
  have bx20 := HX6_g0.out.c0
  have bx21 := HX6_g0.out.c1
  have bx22 := HX6_g0.out.c2
  simp only at bx20 bx21 bx22
  go_wp2_with fail
  refine (eqSeed_same k_w0 a_w0 b_w0 _).mono ?_
  rintro e w7 ⟨rfl, hb⟩
  clear bx00 bx01 bx02 bx10 bx11 bx12 bx20 bx21 bx22
  have HX7_aS := Lib.hid (HX6_aS.out.below hb HX6_aS.out.lt)
  have HX7_w0 := Lib.hid (HX6_w0.out.below hb HX6_w0.out.lt)
  have HX7_g0 := Lib.hid (HX6_g0.out.below hb HX6_g0.out.lt)
  have HB7 := Lib.hid (HB6.out.trans (hb.mono hs6))
  have hs7 : w.heap.size ≤ w7.heap.size := HB7.out.size
  clear hb
  clear HX6_aS
  clear HX6_w0
  clear HX6_g0
  clear HB6
  have bx00 := HX7_aS.out.c0
  have bx01 := HX7_aS.out.c1
  have bx02 := HX7_aS.out.c2
  have bx10 := HX7_w0.out.c0
  have bx11 := HX7_w0.out.c1
  have bx12 := HX7_w0.out.c2
  simp only at bx10 bx11 bx12
  have bx20 := HX7_g0.out.c0
  have bx21 := HX7_g0.out.c1
  have bx22 := HX7_g0.out.c2
  simp only at bx20 bx21 bx22
  have hcv := run_widV (P := Try.prog) 25 32 rfl Try.underlying32
  go_wp2_with fail
  refine (sameFloat_any _ _ _ (by rw [widV_cn, widV_cn]; exact widen_congr (hnum_g1.out.trans hnum_w1.out.symm))).mono ?_
  rintro e w8 ⟨rfl, hq⟩
  have hb : Below w7.heap.size w7 w8 := by obtain ⟨q, rfl⟩ := hq; exact ⟨rfl, rfl, rfl, Nat.le_refl _, fun _ _ => rfl⟩
  clear hcv hq
  clear bx00 bx01 bx02 bx10 bx11 bx12 bx20 bx21 bx22
  have HX8_aS := Lib.hid (HX7_aS.out.below hb HX7_aS.out.lt)
  have HX8_w0 := Lib.hid (HX7_w0.out.below hb HX7_w0.out.lt)
  have HX8_g0 := Lib.hid (HX7_g0.out.below hb HX7_g0.out.lt)
  have HB8 := Lib.hid (HB7.out.trans (hb.mono hs7))
  have hs8 : w.heap.size ≤ w8.heap.size := HB8.out.size
  clear hb
  clear HX7_aS
  clear HX7_w0
  clear HX7_g0
  clear HB7
  go_wp2
  go_ret
  exact ⟨rfl, HB8.out⟩
end Go.Proofs.Ytahimjdfkmhknaa
