/- The statement FnProducts, walked: it holds where the table of 64 bits holds 4 at 15. -/
import Derived.Test.YtijafnejdibdlaaGreatDoorKx
import Derived.Test.YtijafnejdibdlaaGreatDoorCSame
import Derived.Deep.DeepCutAuto
namespace Go.Proofs.YtijafnejdibdlaaGreatDoor
open Go.RowKit Mag
attribute [local go_sem] run_negF
theorem b10At_b (A : Option Addr) (n c B : Nat) (xs : List Int) (i m : Int) (w : World) (h : Rd w B A n (u8s xs)) (hb : Bytes xs) (hi : 0 ≤ i ∧ i ≤ 1000000) (hm : 1 ≤ m ∧ m ≤ 1000000) :
    Calls Tryz.prog 15 #[.slice A n c, .int .i64 i, .int .i64 m] w fun e w' => ∃ x : Nat, e = .returned (.int .i64 x) ∧ (x : Int) < m ∧ Hid (Below w.heap.size w w') :=
  (b10At_any A n c B xs i m w h hb hi hm).mono fun _ _ ⟨x, he, hx, hq⟩ => ⟨x.toNat, by rw [he, Int.toNat_of_nonneg hx.1], by omega, quiet_below hq⟩
/-- A table that was laid stays as it is. -/
theorem TabAt.next {w w' : World} (h : TabAt w) (hb : Below w.heap.size w w') : TabAt w' := h.below hb h.lt
set_option maxRecDepth 100000 in
set_option maxHeartbeats 16000000 in
theorem walk_FnProducts (w : World) (A0 : Option Addr) (n0 c0 : Nat) (xs0 : List Int) (hr0 : Rd w w.heap.size A0 n0 (u8s xs0)) (hm0 : n0 ≤ maxLen) (hb0 : Bytes xs0)
    (A1 : Option Addr) (n1 c1 : Nat) (xs1 : List Int) (hr1 : Rd w w.heap.size A1 n1 (u8s xs1)) (hm1 : n1 ≤ maxLen) (hb1 : Bytes xs1) (ht : TabAt w) :
    Calls Tryz.prog 3 #[.slice A0 n0 c0, .slice A1 n1 c1] w fun e w' => e = .returned (.bool true) ∧ Below w.heap.size w w' := by
  have K := Lib.hid (((Kx.refl w).add hr0).add hr1)
  have Hb0 := Lib.hid hb0; have Hb1 := Lib.hid hb1
  have HT := Lib.hid ht
  clear hr0 hr1 hb0 hb1 ht
  go_enter Tryz.func3, Tryz.ntmps3
  go_wp2_with fail
  refine (b10Long_any A0 A1 n0 c0 n1 c1 _ hm0 hm1).mono ?_
  rintro e w1 ⟨rfl, rfl⟩
  clear hm0 hm1
  by_cases hbig : 1048576 < n0 ∨ 1048576 < n1
  · rw [decide_eq_true hbig]
    go_wp2
    go_ret
    exact ⟨rfl, Below.refl _ _⟩
  · rw [decide_eq_false hbig]
    clear hbig
    go_wp2_with fail
    refine (b10Whole_any A0 n0 c0 w1.heap.size xs0 w1 (K.out.row (A0, n0, u8s xs0) (by simp)) Hb0.out (Nat.le_refl _)).mono ?_
    rintro e w2 ⟨v2, a1, a2, rfl, hO, ha, hb2⟩
    obtain ⟨A2, c2, rfl, hcl, hcm, hrd⟩ := Own.shapeV (n := 1) hO rfl
    obtain ⟨g2, off2, p2, q2, rfl, _, hp2, hc2⟩ := hrd.atC (k := 0) (by omega)
    rw [Nat.add_zero] at hc2
    obtain ⟨rfl, rfl⟩ : p2 = floatOfInt .f32 a1 ∧ q2 = floatOfInt .f32 a2 := by have := hp2.out; simp at this; exact ⟨this.1.symm, this.2.symm⟩
    have K2 := Lib.hid (K.out.next hb2)
    have HT2 := Lib.hid (HT.out.next hb2)
    have HA := Lib.hid ha
    clear K HT hb2 hO hrd hcl hcm hp2 ha
    have K := K2; have HT := HT2
    clear K2 HT2
    go_wp2_with fail
    clear hc2
    refine (b10Whole_any A1 n1 c1 _ xs1 w2 (K.out.row (A1, n1, u8s xs1) (by simp)) Hb1.out (Nat.le_refl _)).mono ?_
    rintro e w3 ⟨v3, b1, b2, rfl, hO, hb, hb3⟩
    obtain ⟨A3, c3, rfl, hcl, hcm, hrd⟩ := Own.shapeV (n := 1) hO rfl
    obtain ⟨g3, off3, p3, q3, rfl, _, hp3, hc3⟩ := hrd.atC (k := 0) (by omega)
    rw [Nat.add_zero] at hc3
    obtain ⟨rfl, rfl⟩ : p3 = floatOfInt .f32 b1 ∧ q3 = floatOfInt .f32 b2 := by have := hp3.out; simp at this; exact ⟨this.1.symm, this.2.symm⟩
    have K2 := Lib.hid (K.out.next hb3)
    have HT2 := Lib.hid (HT.out.next hb3)
    have HB := Lib.hid hb
    clear K HT hb3 hO hrd hcl hcm hp3 hb
    have K := K2; have HT := HT2
    clear K2 HT2
    have va1 : Hid (Vl .f32 (floatOfInt .f32 a1) a1) := Vl.int (by rw [sm32]; have := HA.out; omega)
    have va2 : Hid (Vl .f32 (floatOfInt .f32 a2) a2) := Vl.int (by rw [sm32]; have := HA.out; omega)
    have vb1 : Hid (Vl .f32 (floatOfInt .f32 b1) b1) := Vl.int (by rw [sm32]; have := HB.out; omega)
    have vb2 : Hid (Vl .f32 (floatOfInt .f32 b2) b2) := Vl.int (by rw [sm32]; have := HB.out; omega)
    have m1 := mul_bound HA.out.1 HB.out.1
    have m2 := mul_bound HA.out.2 HB.out.2
    have m3 := mul_bound HA.out.1 HB.out.2
    have m4 := mul_bound HA.out.2 HB.out.1
    have m5 := mul_bound HA.out.1 HA.out.1
    have m6 := mul_bound HA.out.2 HA.out.2
    obtain ⟨q1, hq1⟩ : ∃ q, a1 * b1 = q := ⟨_, rfl⟩
    rw [hq1] at m1
    have bq1 : -40000 ≤ q1 ∧ q1 ≤ 40000 := by omega
    obtain ⟨q2, hq2⟩ : ∃ q, a2 * b2 = q := ⟨_, rfl⟩
    rw [hq2] at m2
    have bq2 : -40000 ≤ q2 ∧ q2 ≤ 40000 := by omega
    obtain ⟨q3, hq3⟩ : ∃ q, a1 * b2 = q := ⟨_, rfl⟩
    rw [hq3] at m3
    have bq3 : -40000 ≤ q3 ∧ q3 ≤ 40000 := by omega
    obtain ⟨q4, hq4⟩ : ∃ q, a2 * b1 = q := ⟨_, rfl⟩
    rw [hq4] at m4
    have bq4 : -40000 ≤ q4 ∧ q4 ≤ 40000 := by omega
    obtain ⟨q5, hq5⟩ : ∃ q, a1 * a1 = q := ⟨_, rfl⟩
    rw [hq5] at m5
    have bq5 : -40000 ≤ q5 ∧ q5 ≤ 40000 := by omega
    obtain ⟨q6, hq6⟩ : ∃ q, a2 * a2 = q := ⟨_, rfl⟩
    rw [hq6] at m6
    have bq6 : -40000 ≤ q6 ∧ q6 ≤ 40000 := by omega
    obtain ⟨X, hX⟩ : ∃ X, q1 - q2 = X := ⟨_, rfl⟩
    obtain ⟨Y, hY⟩ : ∃ Y, q3 + q4 = Y := ⟨_, rfl⟩
    obtain ⟨P, hP⟩ : ∃ P, q5 + q6 = P := ⟨_, rfl⟩
    have bX : Hid (X.natAbs < smK .f32) := by show _ < _; rw [sm32]; omega
    have bY : Hid (Y.natAbs < smK .f32) := by show _ < _; rw [sm32]; omega
    have bP : Hid (P.natAbs < smK .f32) := by show _ < _; rw [sm32]; omega
    have cX : Hid (X.natAbs ≤ 80000) := by show _ ≤ _; omega
    have cY : Hid (Y.natAbs ≤ 80000) := by show _ ≤ _; omega
    have vX : Hid (Vl .f32 (floatOfInt .f32 X) X) := Vl.int bX.out
    have vY : Hid (Vl .f32 (floatOfInt .f32 Y) Y) := Vl.int bY.out
    have vP : Hid (Vl .f32 (floatOfInt .f32 P) P) := Vl.int bP.out
    have hX2 : b1 * a1 - b2 * a2 = X := by rw [Int.mul_comm b1, Int.mul_comm b2, hq1, hq2, hX]
    have hY2 : b1 * a2 + b2 * a1 = Y := by rw [Int.mul_comm b1, Int.mul_comm b2, hq3, hq4, Int.add_comm, hY]
    have hP2 : a1 * a1 - a2 * -a2 = P := by rw [Int.mul_neg, hq5, hq6]; omega
    have hZ2 : a1 * -a2 + a2 * a1 = 0 := by rw [Int.mul_neg, Int.mul_comm a2 a1]; omega
    have C1 := Lib.hid (mulC_v _ _ _ _ a1 a2 b1 b2 va1.out va2.out vb1.out vb2.out HA.out.1 HA.out.2 HB.out.1 HB.out.2)
    have C2 := Lib.hid (mulC_v _ _ _ _ b1 b2 a1 a2 vb1.out vb2.out va1.out va2.out HB.out.1 HB.out.2 HA.out.1 HA.out.2)
    have C3 := Lib.hid (mulC_v _ _ _ _ a1 a2 a1 (-a2) va1.out va2.out va1.out va2.out.neg HA.out.1 HA.out.2 HA.out.1 (by rw [Int.natAbs_neg]; exact HA.out.2))
    have C4 := Lib.hid (powerOf_v _ _ a1 a2 va1.out va2.out HA.out.1 HA.out.2)
    have C5 := Lib.hid (longOf_v HA.out.1 HA.out.2)
    have C6 := Lib.hid (scale_v _ _ a1 a2 va1.out va2.out HA.out.1 HA.out.2)
    rw [hq1, hq2, hX, hq3, hq4, hY] at C1
    rw [hX2, hY2] at C2
    rw [hP2, hZ2] at C3
    rw [hq5, hq6, hP] at C4 C5
    have C7 : Hid (∀ (r s : Nat), Vl .f32 r X → Vl .f32 s Y → ¬ (b1 = 0 ∧ b2 = 0) → ∀ w, Calls Tryz.prog 12 #[.complex .f32 r s, .complex .f32 (floatOfInt .f32 b1) (floatOfInt .f32 b2)] w fun e w' => ∃ r s, e = .returned (.complex .f32 r s) ∧ Hid (Vl .f32 r a1) ∧ Hid (Vl .f32 s a2) ∧ ∃ q, w' = w.drewN q) := fun r s hr hs h0 w =>
      quoC_v r s _ _ X Y a1 a2 b1 b2 hr hs vb1.out vb2.out cX.out cY.out HA.out.1 HA.out.2 HB.out.1 HB.out.2 (by rw [← hX, ← hY, ← hq1, ← hq2, ← hq3, ← hq4]; grind) (by rw [← hX, ← hY, ← hq1, ← hq2, ← hq3, ← hq4]; grind) (by
        have n1 := sq_nn b1
        have n2 := sq_nn b2
        by_cases h3 : b1 = 0
        · have := sq_pos (a := b2) (fun e => h0 ⟨h3, e⟩); omega
        · have := sq_pos h3; omega) w
    have D1 : (FloatKind.f32.format.order (floatOfInt .f32 b1) 0 == some .eq) = decide (b1 = 0) := vb1.out.zero_eq (by rw [sm32]; have := HB.out; omega)
    have D2 : (FloatKind.f32.format.order (floatOfInt .f32 b2) 0 == some .eq) = decide (b2 = 0) := vb2.out.zero_eq (by rw [sm32]; have := HB.out; omega)
    have D1' := Lib.hid D1
    have D2' := Lib.hid D2
    have E1 := fun w => run_convert_float_int (P := Tryz.prog) w 28 2 .f32 .i64 (floatOfInt .f32 a1) a1 rfl Tryz.underlying2 (int_back HA.out.1)
    have E2 := fun w => run_convert_float_int (P := Tryz.prog) w 28 2 .f32 .i64 (floatOfInt .f32 a2) a2 rfl Tryz.underlying2 (int_back HA.out.2)
    have E3 := fun w => run_convert_float_int (P := Tryz.prog) w 28 2 .f32 .i64 (floatOfInt .f32 b1) b1 rfl Tryz.underlying2 (int_back HB.out.1)
    have E4 := fun w => run_convert_float_int (P := Tryz.prog) w 28 2 .f32 .i64 (floatOfInt .f32 b2) b2 rfl Tryz.underlying2 (int_back HB.out.2)
    have S1 : Hid (Vl .f32 (fop .add .f32 (floatOfInt .f32 a1) (floatOfInt .f32 a1)) (a1 + a1)) := va1.out.add va1.out (by rw [sm32]; have := HA.out; omega)
    have S2 : Hid (Vl .f32 (fop .add .f32 (floatOfInt .f32 a2) (floatOfInt .f32 a2)) (a2 + a2)) := va2.out.add va2.out (by rw [sm32]; have := HA.out; omega)
    have E5 := Lib.hid (fun w => run_complex_sum (P := Tryz.prog) w .add (.inl rfl) 24 .f32 (floatOfInt .f32 a1) (floatOfInt .f32 a2) (floatOfInt .f32 a1) (floatOfInt .f32 a2) _ _ (show cSumBits .add .f32 _ _ _ _ = some (fop .add .f32 (floatOfInt .f32 a1) (floatOfInt .f32 a1), fop .add .f32 (floatOfInt .f32 a2) (floatOfInt .f32 a2)) by
      unfold cSumBits
      rw [add_some va1.out.1 va1.out.1, add_some va2.out.1 va2.out.1]; rfl))
    clear m1 m2 m3 m4 m5 m6 hX2 hY2 hP2 hZ2 D1 D2 vb1 vb2
    generalize floatOfInt .f32 a1 = F1 at *
    generalize floatOfInt .f32 a2 = F2 at *
    generalize floatOfInt .f32 b1 = G1 at *
    generalize floatOfInt .f32 b2 = G2 at *
    go_wp2_with fail
    refine (C1.out _).mono ?_
    rintro e w4 ⟨r, s, rfl, hr, hs, k4, rfl⟩
    clear hc3
    have O1 := hr.out.same vX.out bX.out
    have O2 := hs.out.same vY.out bY.out
    go_wp2_with fail
    clear O1 O2 hq1 hq2 hq3 hq4 hq5 hq6 bq1 bq2 bq3 bq4 bq5 bq6 hX hY hP E1 E2 E3 E4
    refine (C2.out _).mono ?_
    rintro e w5 ⟨r', s', rfl, hr', hs', k5, rfl⟩
    have O1 := hr'.out.same hr.out bX.out
    have O2 := hs'.out.same hs.out bY.out
    go_wp2_with fail
    clear O1 O2
    refine (C4.out _).mono ?_
    rintro e w6 ⟨pw, rfl, hpw, k6, rfl⟩
    have O1 := hpw.out.not_ne vP.out bP.out
    go_wp2_with fail
    clear O1
    refine (conj_any F1 F2 _).mono ?_
    rintro e w7 ⟨rfl, hw7⟩
    subst hw7
    go_wp2_with fail
    refine (C3.out _).mono ?_
    rintro e w8 ⟨r8, s8, rfl, hr8, hs8, k8, rfl⟩
    have O1 := hr8.out.same vP.out bP.out
    have O2 : (FloatKind.f32.format.order s8 0 == some .eq) = true := hs8.out.zero_eq (by decide)
    go_wp2_with fail
    clear O1 O2
    refine (C5.out _).mono ?_
    rintro e w9 ⟨r9, rfl, hr9, k9, rfl⟩
    go_wp2_with fail
    refine (specRootN_any _ _).mono ?_
    rintro e w10 ⟨r10, rfl, hr10, k10, rfl⟩
    go_wp2_with fail
    refine (sameN_any r9 r10 _ (hr9.out.trans hr10.out.symm)).mono ?_
    rintro e w11 ⟨rfl, hw11⟩
    subst hw11
    go_upto_region 11 with fail
    go_cut [136] (fun s wx => s = .bool false ∧ ∃ q, wx = w3.drewN q)
    case first =>
      have hab : Hid ((a1 + a1).natAbs < smK .f32 ∧ (a2 + a2).natAbs < smK .f32) := by show _ ∧ _; rw [sm32]; have := HA.out; omega
      have hab2 : Hid (a1.natAbs < smK .f32 ∧ a2.natAbs < smK .f32) := by show _ ∧ _; rw [sm32]; have := HA.out; omega
      have h2a : Hid (a1 * 2 = a1 + a1 ∧ a2 * 2 = a2 + a2) := by show _ ∧ _; omega
      by_cases hb0 : b1 = 0 ∧ b2 = 0
      · have O1 : (FloatKind.f32.format.order G1 0 == some .eq) = true := by rw [D1'.out]; exact decide_eq_true hb0.1
        have O2 : (FloatKind.f32.format.order G2 0 == some .eq) = true := by rw [D2'.out]; exact decide_eq_true hb0.2
        clear hb0
        go_wp2_with fail
        clear O1 O2
        refine (C6.out _).mono ?_
        rintro e w12 ⟨r12, s12, rfl, hr12, hs12, k12, rfl⟩
        have O1 := (h2a.out.1 ▸ hr12.out).same S1.out hab.out.1
        have O2 := (h2a.out.2 ▸ hs12.out).same S2.out hab.out.2
        have E5' := E5.out
        go_wp2_with fail
        go_meet
        case rel => exact ⟨rfl, _, rfl⟩
      · have hor : ((FloatKind.f32.format.order G1 0 == some .eq) = false) ∨ ((FloatKind.f32.format.order G1 0 == some .eq) = true ∧ (FloatKind.f32.format.order G2 0 == some .eq) = false) := by
          rw [D1'.out, D2'.out]
          by_cases h1 : b1 = 0
          · right; exact ⟨decide_eq_true h1, decide_eq_false (fun h2 => hb0 ⟨h1, h2⟩)⟩
          · left; exact decide_eq_false h1
        have Hb0 := Lib.hid hb0
        clear hb0
        rcases hor with O1 | ⟨O1, O2⟩
        all_goals
          go_wp2_with fail
          refine (C7.out r s hr.out hs.out Hb0.out _).mono ?_
          rintro e w12 ⟨r13, s13, rfl, hr13, hs13, k13, rfl⟩
          have O3 := hr13.out.same va1.out hab2.out.1
          have O4 := hs13.out.same va2.out hab2.out.2
          go_wp2_with fail
          clear O3 O4
          refine (C6.out _).mono ?_
          rintro e w13 ⟨r12, s12, rfl, hr12, hs12, k12, rfl⟩
          have O5 := (h2a.out.1 ▸ hr12.out).same S1.out hab.out.1
          have O6 := (h2a.out.2 ▸ hs12.out).same S2.out hab.out.2
          have E5' := E5.out
          go_wp2_with fail
          go_meet
          case rel => exact ⟨rfl, _, rfl⟩
    case rest =>
      obtain ⟨rfl, q12, rfl⟩ := hcut
      have K2 := Lib.hid (K.out.drewN q12)
      have HT2 := Lib.hid (HT.out.next (below_drewN' q12))
      clear K HT C1 C2 C3 C4 C5 C6 C7 E5 S1 S2 hr hs hr' hs' hpw hr8 hs8 hr9 hr10 D1' D2' va1 va2 vX vY vP bX bY bP cX cY HA HB
      have K := K2; have HT := HT2
      clear K2 HT2
      generalize w3.drewN q12 = v0 at K HT ⊢
      go_wp2_with fail
      refine (b10At_b A0 n0 c0 _ xs0 0 9 _ (K.out.row (A0, n0, u8s xs0) (by simp)) Hb0.out (by omega) (by omega)).mono ?_
      rintro e v1 ⟨m, rfl, hm, hbv⟩
      have K2 := Lib.hid (K.out.next hbv.out)
      have HT2 := Lib.hid (HT.out.next hbv.out)
      clear K HT hbv
      have K := K2; have HT := HT2
      clear K2 HT2
      go_wp2_with fail
      refine (b10Any_any A1 n1 c1 _ xs1 m _ (K.out.row (A1, n1, u8s xs1) (by simp)) Hb1.out (Nat.le_refl _) (by omega)).mono ?_
      rintro e v2 ⟨vl, ys, rfl, hO, hyl, hys, hbv⟩
      obtain ⟨A, c, rfl, hcl, hcm, hrd⟩ := Own.shapeV (n := m) hO (by rw [c64s_length]; exact hyl)
      have K2 := Lib.hid ((K.out.next hbv).add hrd)
      have HT2 := Lib.hid (HT.out.next hbv)
      have Hyl := Lib.hid hyl
      have Hys := Lib.hid hys
      have hmx : m ≤ maxLen := by unfold maxLen; omega
      have Hmx := Lib.hid hmx
      clear K HT hO hrd hbv hyl hcl hcm hys hmx
      have K := K2; have HT := HT2
      clear K2 HT2
      go_wp2_with fail
      refine (complexText_any A m c _ ys _ (K.out.row (A, m, c64s ys) (by simp)) (Nat.le_refl _) Hys.out HT.out (by omega)).mono ?_
      rintro e v3 ⟨rfl, hbv⟩
      have K2 := Lib.hid (K.out.next hbv)
      have HT2 := Lib.hid (HT.out.next hbv)
      clear K HT hbv
      have K := K2; have HT := HT2
      clear K2 HT2
      go_wp2_with fail
      refine (readComplex_any ys _ Hys.out HT.out (by have := Hyl.out; omega)).mono ?_
      rintro e v4 ⟨vb, rfl, hO, hbv⟩
      obtain ⟨A', c', rfl, hcl, hcm, hrd⟩ := Own.shapeV (n := m) hO (by rw [c64s_length, List.length_map]; exact Hyl.out)
      have K2 := Lib.hid ((K.out.next hbv).add hrd)
      clear K HT hbv hO hrd hcl hcm
      have K := K2
      clear K2
      go_wp2_with fail
      refine (b10Number_any A0 n0 c0 _ xs0 _ (K.out.row (A0, n0, u8s xs0) (by simp)) Hb0.out (Nat.le_refl _)).mono ?_
      rintro e v5 ⟨z, rfl, hz, hbv⟩
      have K2 := Lib.hid (K.out.next hbv)
      have HZ := Lib.hid hz
      clear K hbv hz
      have K := K2
      clear K2
      have hsx := sb_cn HZ.out
      have hzl := Lib.hid HZ.out.cn_lt
      obtain ⟨z', hz'⟩ : ∃ z', cn .f32 z = z' := ⟨_, rfl⟩
      rw [hz'] at hsx hzl
      have Hz' := Lib.hid hz'
      have Hsx := Lib.hid hsx
      clear hz' hsx
      go_wp2_with fail
      refine (implBits_any z _).mono ?_
      rintro e v6 ⟨rfl, rfl⟩
      rw [Hsx.out]
      go_wp2_with fail
      refine (fromBits_any z' _ hzl.out).mono ?_
      rintro e v7 ⟨rfl, rfl⟩
      go_wp2_with fail
      refine (b10Complex_any A0 n0 c0 _ xs0 _ (K.out.row (A0, n0, u8s xs0) (by simp)) Hb0.out (Nat.le_refl _)).mono ?_
      rintro e v8 ⟨x, y, rfl, hxy, hbv⟩
      have K2 := Lib.hid (K.out.next hbv)
      have HXY := Lib.hid hxy
      clear K hbv hxy
      have K := K2
      clear K2
      have f1 := Lib.hid (fits_widen HXY.out.1)
      have f2 := Lib.hid (fits_widen HXY.out.2)
      have nw1 := Lib.hid (narrow_widen HXY.out.1)
      have nw2 := Lib.hid (narrow_widen HXY.out.2)
      have t1 : True := trivial
      have t2 : True := trivial
      go_wp2_with (first
        | (have := t1; clear this t1; refine wpList_widen _ rfl 28 46 _ rfl rfl Tryz.underlying46 _ rfl ?_; intro r1 k1 h1)
        | (have := t2; clear this t2; refine wpList_widen _ rfl 28 46 _ rfl rfl Tryz.underlying46 _ rfl ?_; intro r2 k2 h2))
      refine (b10Same_any A' A m c' c _ _ ys _ ((K.out.drewN (k1 + k2)).row (A', m, c64s (ys.map cn2)) (by simp)) ((K.out.drewN (k1 + k2)).row (A, m, c64s ys) (by simp)) Hmx.out).mono ?_
      rintro e v9 ⟨rfl, k9, rfl⟩
      go_wp2_with fail
      refine (sameN_any z' z _ (by rw [← Hz'.out, cn_cn])).mono ?_
      rintro e v10 ⟨rfl, hv10⟩
      subst hv10
      go_wp2_with fail
      refine (narrowC_any r1 r2 (fitsN_cn h1.out f1.out) (fitsN_cn h2.out f2.out) _).mono ?_
      rintro e v11 ⟨u, v, rfl, hu, hv, k11, rfl⟩
      go_wp2_with fail
      refine (sameCI_any u v x y _ (by rw [hu.out, narrow_l h1.out, nw1.out]) (by rw [hv.out, narrow_l h2.out, nw2.out])).mono ?_
      rintro e v12 ⟨rfl, k12, rfl⟩
      go_wp2_with fail
      refine (conj_any x y _).mono ?_
      rintro e v13 ⟨rfl, hv13⟩
      subst hv13
      go_wp2_with fail
      refine (conj_any x _ _).mono ?_
      rintro e v14 ⟨rfl, hv14⟩
      subst hv14
      rw [neg_neg_word]
      go_wp2_with fail
      refine (sameCI_any x y x y _ rfl rfl).mono ?_
      rintro e v15 ⟨rfl, k15, rfl⟩
      go_wp2_with fail
      refine (finCC_any x y _).mono ?_
      rintro e v16 ⟨rfl, hbv⟩
      have K2 := Lib.hid ((K.out.drewN (k1 + k2 + k9 + k11 + k12 + k15)).next hbv)
      clear K hbv
      have K := K2
      clear K2
      have HF1 := Lib.hid (fun w => specFin_any x w)
      have HF2 := Lib.hid (fun w => specFin_any y w)
      cases e1 : finB x with
      | false =>
        rw [e1] at HF1
        clear e1
        rw [Bool.false_and]
        go_wp2_with fail
        refine (HF1.out _).mono ?_
        rintro e v17 ⟨rfl, k17, rfl⟩
        go_wp2_with fail
        go_ret
        exact ⟨rfl, (K.out.drewN k17).below⟩
      | true =>
        rw [e1] at HF1
        clear e1
        rw [Bool.true_and]
        cases e2 : finB y with
        | false =>
          rw [e2] at HF2
          clear e2
          go_wp2_with fail
          refine (HF1.out _).mono ?_
          rintro e v17 ⟨rfl, k17, rfl⟩
          go_wp2_with fail
          refine (HF2.out _).mono ?_
          rintro e v18 ⟨rfl, k18, rfl⟩
          go_wp2_with fail
          go_ret
          exact ⟨rfl, (K.out.drewN (k17 + k18)).below⟩
        | true =>
          rw [e2] at HF2
          clear e2
          go_wp2_with fail
          refine (HF1.out _).mono ?_
          rintro e v17 ⟨rfl, k17, rfl⟩
          go_wp2_with fail
          refine (HF2.out _).mono ?_
          rintro e v18 ⟨rfl, k18, rfl⟩
          go_wp2_with fail
          go_ret
          exact ⟨rfl, (K.out.drewN (k17 + k18)).below⟩
end Go.Proofs.YtijafnejdibdlaaGreatDoor
