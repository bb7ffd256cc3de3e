/- The statement FnNumbers, walked: it holds where the table of 64 bits holds 4 at 15. -/
import Derived.Test.YtgbclibemdnohaaGreatDoorKx
import Derived.Test.YtgbclibemdnohaaGreatDoorB10
import Derived.Test.YtgbclibemdnohaaGreatDoorDraws
import Derived.Test.YtgbclibemdnohaaGreatDoorReads
import Derived.Test.YtgbclibemdnohaaGreatDoorAngleB
import Derived.Deep.DeepCutAuto
namespace Go.Proofs.YtgbclibemdnohaaGreatDoor
open Go.RowKit Mag
theorem b10At_b (A : Option Addr) (n c B : Nat) (xs : List Int) (i m : Int) (w : World) (h : Rd w B A n (u8s xs)) (hb : Bytes xs) (hi : 0 ≤ i ∧ i ≤ 1000000) (hm : 1 ≤ m ∧ m ≤ 1000000) :
    Calls Tryz.prog 10 #[.slice A n c, .int .i64 i, .int .i64 m] w fun e w' => ∃ x : Nat, e = .returned (.int .i64 x) ∧ (x : Int) < m ∧ Hid (Below w.heap.size w w') :=
  (b10At_any A n c B xs i m w h hb hi hm).mono fun _ _ ⟨x, he, hx, hq⟩ => ⟨x.toNat, by rw [he, Int.toNat_of_nonneg hx.1], by omega, quiet_below hq⟩
/-- A table that was laid stays as it is. -/
theorem TabAt.next {w w' : World} (h : TabAt w) (hb : Below w.heap.size w w') : TabAt w' := h.below hb h.lt
theorem same_q (x y : Nat) (h : cn .f32 x = cn .f32 y) (w : World) : Calls Tryz.prog 14 #[.float .f32 x, .float .f32 y] w fun e w' => e = .returned (.bool true) ∧ ∃ m, w' = w.drewN m :=
  (sameN_any x y w h).mono fun _ _ ⟨he, hw⟩ => ⟨he, 0, hw⟩
set_option maxRecDepth 100000 in
set_option maxHeartbeats 16000000 in
theorem walk_FnNumbers (w : World) (A0 : Option Addr) (n0 c0 : Nat) (xs0 : List Int) (hr0 : Rd w w.heap.size A0 n0 (u8s xs0)) (hm0 : n0 ≤ maxLen) (hb0 : Bytes xs0)
    (A1 : Option Addr) (n1 c1 : Nat) (xs1 : List Int) (hr1 : Rd w w.heap.size A1 n1 (u8s xs1)) (hm1 : n1 ≤ maxLen) (hb1 : Bytes xs1) (ht : TabAt w) :
    Calls Tryz.prog 3 #[.slice A0 n0 c0, .slice A1 n1 c1] w fun e w' => e = .returned (.bool true) ∧ Below w.heap.size w w' := by
  have K := Lib.hid (((Kx.refl w).add hr0).add hr1)
  have Hb0 := Lib.hid hb0; have Hb1 := Lib.hid hb1
  have HT := Lib.hid ht
  clear hr0 hr1 hb0 hb1 ht
  go_enter Tryz.func3, Tryz.ntmps3
  go_wp2_with fail
  refine (b10Long_any A0 A1 n0 c0 n1 c1 _ hm0 hm1).mono ?_
  rintro e w1 ⟨rfl, rfl⟩
  clear hm0 hm1
  by_cases hbig : 1048576 < n0 ∨ 1048576 < n1
  · rw [decide_eq_true hbig]
    go_wp2
    go_ret
    exact ⟨rfl, Below.refl _ _⟩
  · rw [decide_eq_false hbig]
    clear hbig
    go_wp2_with fail
    refine (b10Number_any A0 n0 c0 w1.heap.size xs0 w1 (K.out.row (A0, n0, u8s xs0) (by simp)) Hb0.out (Nat.le_refl _)).mono ?_
    rintro e w2 ⟨x, rfl, hx, hb2⟩
    have K2 := Lib.hid (K.out.next hb2)
    have HT2 := Lib.hid (HT.out.next hb2)
    have HX := Lib.hid hx
    clear K hb2 hx HT
    have K := K2; have HT := HT2
    clear K2 HT2
    go_wp2_with fail
    refine (b10Number_any A1 n1 c1 _ xs1 _ (K.out.row (A1, n1, u8s xs1) (by simp)) Hb1.out (Nat.le_refl _)).mono ?_
    rintro e w3 ⟨y, rfl, hy, hb3⟩
    have K2 := Lib.hid (K.out.next hb3)
    have HT2 := Lib.hid (HT.out.next hb3)
    have HY := Lib.hid hy
    clear K hb3 hy HT
    have K := K2; have HT := HT2
    clear K2 HT2
    have hsx := sb_cn HX.out
    have hzl := Lib.hid HX.out.cn_lt
    obtain ⟨x', hx'⟩ : ∃ x', cn .f32 x = x' := ⟨_, rfl⟩
    rw [hx'] at hsx hzl
    have Hx' := Lib.hid hx'
    have Hsx := Lib.hid hsx
    clear hx' hsx
    go_wp2_with fail
    refine (implBits_any x _).mono ?_
    rintro e w4 ⟨rfl, rfl⟩
    rw [Hsx.out]
    go_wp2_with fail
    refine (fromBits_any x' _ hzl.out).mono ?_
    rintro e w5 ⟨rfl, rfl⟩
    go_wp2_with fail
    refine (flush_any x _).mono ?_
    rintro e w6 ⟨⟨z, rfl, hz⟩, q6, rfl⟩
    have Hz := Lib.hid hz
    have K2 := Lib.hid (K.out.drewN q6)
    have HT2 := Lib.hid (HT.out.next (below_drewN' q6))
    clear K HT hz
    have K := K2; have HT := HT2
    clear K2 HT2
    go_wp2_with fail
    refine (b10At_b A0 n0 c0 _ xs0 0 12 _ (K.out.row (A0, n0, u8s xs0) (by simp)) Hb0.out (by omega) (by omega)).mono ?_
    rintro e w7 ⟨m, rfl, hm, hb7⟩
    have K2 := Lib.hid (K.out.next hb7.out)
    have HT2 := Lib.hid (HT.out.next hb7.out)
    clear K HT hb7
    have K := K2; have HT := HT2
    clear K2 HT2
    go_wp2_with fail
    refine (b10Numbers_any A1 n1 c1 _ xs1 m _ (K.out.row (A1, n1, u8s xs1) (by simp)) Hb1.out (Nat.le_refl _) (by omega)).mono ?_
    rintro e w8 ⟨v, ys, rfl, hO, hyl, hys, hb8⟩
    obtain ⟨A, c, rfl, hcl, hcm, hrd⟩ := Own.shapeV (n := m) hO (by rw [f32s_length]; exact hyl)
    have K2 := Lib.hid ((K.out.next hb8).add hrd)
    have HT2 := Lib.hid (HT.out.next hb8)
    have Hyl := Lib.hid hyl
    have Hys := Lib.hid hys
    clear K HT hO hrd hb8 hyl hcl hcm hys
    have K := K2; have HT := HT2
    clear K2 HT2
    have hl0 : Hid (ys.length ≤ 12) := by show _ ≤ _; have := Hyl.out; omega
    go_wp2_with fail
    go_loopw [11, 12, 41] (fun s _ i wr => ∃ k r q : Nat, k ≤ m ∧ i = .int .i64 k ∧ s = .float .f32 r ∧ Hid (cn .f32 r = sumF (ys.take k)) ∧ wr = w8.drewN q) (fun _ _ i _ => m - (intOf i).toNat)
    case atStart => exact ⟨0, 0, 0, Nat.zero_le _, rfl, rfl, cn_of_not (zero_not_nan .f32), rfl⟩
    case round =>
      obtain ⟨k, r, q, hk, rfl, rfl, hr, rfl⟩ := hrel
      by_cases hlt : k < m
      · obtain ⟨b, off, u, rfl, _, hu, hc⟩ := (((K.out.drewN q).row (A, m, f32s ys) (by simp))).atF hlt
        have hlt' : (k : Int) < (m : Int) := by omega
        have t1 : True := trivial
        go_wp2_with (have := t1; clear this t1; refine wpList_fop _ rfl .add _ _ _ _ rfl rfl .f32 _ _ rfl rfl ?_; intro r2 q2 hr2)
        go_roundw
        case rel => exact ⟨k + 1, r2, _, by omega, by go_num, rfl, by show _ = _; rw [take_succ_of hu.out, sumF_snoc, hr2.out, fop_l hr.out], rfl⟩
        case measure => simp only [intOf]; omega
      · obtain rfl : k = m := by omega
        have hrs : Hid (cn .f32 r = sumF ys) := by
          have := hr.out
          rwa [List.take_of_length_le (by have := Hyl.out; omega)] at this
        have K2 := Lib.hid (K.out.drewN q)
        have HT2 := Lib.hid (HT.out.next (below_drewN' q))
        clear K HT hr hlt hk
        have K := K2; have HT := HT2
        clear K2 HT2
        generalize w8.drewN q = w9 at K HT ⊢
        go_wp2_with fail
        refine (sumN_any A k c _ ys _ (K.out.row (A, k, f32s ys) (by simp)) (by have := Hyl.out; have := hl0.out; omega)).mono ?_
        rintro e w10 ⟨g, rfl, hg, q10, rfl⟩
        have K2 := Lib.hid (K.out.drewN q10)
        have HT2 := Lib.hid (HT.out.next (below_drewN' q10))
        clear K HT
        have K := K2; have HT := HT2
        clear K2 HT2
        generalize w9.drewN q10 = w10 at K HT ⊢
        go_wp2_with fail
        refine (numbersText_any A k c _ ys _ (K.out.row (A, k, f32s ys) (by simp)) (Nat.le_refl _) Hys.out HT.out (by have := Hyl.out; have := hl0.out; omega)).mono ?_
        rintro e w11 ⟨rfl, hb11⟩
        have K2 := Lib.hid (K.out.next hb11)
        have HT2 := Lib.hid (HT.out.next hb11)
        clear K HT hb11
        have K := K2; have HT := HT2
        clear K2 HT2
        go_wp2_with fail
        refine (readNumbers_any ys _ Hys.out HT.out (by have := hl0.out; omega)).mono ?_
        rintro e w12 ⟨v', rfl, hO, hb12⟩
        obtain ⟨A', c', rfl, hcl, hcm, hrd⟩ := Own.shapeV (n := k) hO (by rw [f32s_length, List.length_map]; exact Hyl.out)
        have K2 := Lib.hid ((K.out.next hb12).add hrd)
        have HT2 := Lib.hid (HT.out.next hb12)
        clear K HT hb12 hO hrd hcl hcm
        have K := K2; have HT := HT2
        clear K2 HT2
        have hgs : Hid (sb g = sb r) := sb_same (hg.out.trans hrs.out.symm)
        have hxs : Hid (sb x' = sb x) := sb_same (by rw [← Hx'.out, cn_cn])
        clear hg hrs
        have hgs' : Hid ((sb g == sb r) = true) := by show _ = _; rw [hgs.out]; exact beq_self_eq_true _
        have hxs' : Hid ((sb x' == sb x) = true) := by show _ = _; rw [hxs.out]; exact beq_self_eq_true _
        have hzz : Hid (subB z = false ∧ ∃ b, subB x = b ∧ (sb x == sb z) = !b) := by
          show _ ∧ _
          rcases Hz.out with ⟨h1, rfl⟩ | ⟨h1, h2⟩
          · exact ⟨h1, false, h1, by simp⟩
          · refine ⟨?_, true, h1, beq_eq_false_iff_ne.2 (sub_far HX.out h1 h2)⟩
            rcases h2 with rfl | rfl
            · exact sub_zero.1
            · exact sub_zero.2
        obtain ⟨hz0, b, hb1, hb2⟩ := hzz.out
        have HZ0 := Lib.hid hz0
        have HB1 := Lib.hid hb1
        have HB2 := Lib.hid hb2
        clear hzz hz0 hb1 hb2 Hz
        go_wp2_with fail
        refine (same_gen x' x _).mono ?_
        rintro e v1 ⟨rfl, rfl⟩
        rw [hxs'.out]
        go_wp2_with fail
        refine (isSub_any z _).mono ?_
        rintro e v2 ⟨rfl, q2, rfl⟩
        rw [HZ0.out]
        go_wp2_with fail
        refine (isSub_any x _).mono ?_
        rintro e v3 ⟨rfl, q3, rfl⟩
        rw [HB1.out]
        go_wp2_with fail
        refine (same_gen x z _).mono ?_
        rintro e v4 ⟨rfl, hv4⟩
        rw [HB2.out]
        have hbb : (b == !b) = false := by cases b <;> rfl
        go_wp2_with fail
        refine (same_gen g r _).mono ?_
        rintro e v5 ⟨rfl, hv5⟩
        rw [hgs'.out]
        subst hv4 hv5
        clear hbb
        go_wp2_with fail
        have K2 := Lib.hid (K.out.drewN (q2 + q3))
        clear K HT hgs hgs' hxs hxs' HZ0 HB1 HB2 Hsx Hx' hzl
        have K := K2
        clear K2
        generalize v1.drewN (q2 + q3) = wa at K ⊢
        go_loopw [19, 113] (fun _ i wr => ∃ j q : Nat, j ≤ k ∧ i = .int .i64 j ∧ wr = wa.drewN q) (fun _ i _ => k - (intOf i).toNat)
        case atStart => exact ⟨0, 0, Nat.zero_le _, rfl, rfl⟩
        case round =>
          obtain ⟨j, q, hj, rfl, rfl⟩ := hrel
          by_cases hlt : j < k
          · obtain ⟨b1, off1, u, rfl, _, hu, hc1⟩ := (K.out.row (A', k, f32s (ys.map (cn .f32))) (by simp)).atF hlt
            obtain ⟨b2, off2, u', rfl, _, hu', hc2⟩ := (K.out.row (A, k, f32s ys) (by simp)).atF hlt
            have huu : Hid (cn .f32 u = cn .f32 u') := by
              have h1 := hu.out
              rw [List.getElem?_map, hu'.out, Option.map_some] at h1
              injection h1 with h1
              show _ = _
              rw [← h1, cn_cn]
            have hlt' : (j : Int) < (k : Int) := by omega
            have h0 : (0 : Int) ≤ (j : Int) := by omega
            go_wp2_with fail
            go_quiet ((go_at_call 14; exact quiet_add (same_q u u' huu.out _)))
            go_wp2_with fail
            go_roundw
            case rel => exact ⟨j + 1, q + nq, by omega, by go_num, rfl⟩
            case measure => simp only [intOf]; omega
          · obtain rfl : j = k := by omega
            clear hlt hj
            have K2 := Lib.hid (K.out.drewN q)
            clear K
            have K := K2
            clear K2
            generalize wa.drewN q = wb at K ⊢
            go_wp2_with fail
            refine (angle_any y x HY.out HX.out _).mono ?_
            rintro e v1 ⟨a1, rfl, ha1, hv1⟩
            have K2 := Lib.hid (K.out.next hv1)
            clear K hv1
            have K := K2
            clear K2
            go_wp2_with fail
            refine (angleOf_any y x HY.out HX.out _).mono ?_
            rintro e v2 ⟨a2, rfl, ha2, hv2⟩
            have K2 := Lib.hid (K.out.next hv2)
            clear K hv2
            have K := K2
            clear K2
            go_wp2_with fail
            refine (sameN_any a1 a2 _ (ha1.out.trans ha2.out.symm)).mono ?_
            rintro e v3 ⟨rfl, hv3⟩
            subst hv3
            have hft := Lib.hid (fits_widen HX.out)
            have hnw := Lib.hid (narrow_widen HX.out)
            have hcv := run_widV (P := Tryz.prog) 24 44 rfl Tryz.underlying44 v3 x
            have hc4 := widV_cn v3 x
            generalize widV v3 x = r4 at hcv hc4
            generalize widD x = q4 at hcv
            have h4 := Lib.hid hc4
            clear hc4
            go_wp2_with fail
            refine (narrowN_any r4 _ (fitsN_cn h4.out hft.out)).mono ?_
            rintro e v5 ⟨r5, rfl, h5, q5, rfl⟩
            go_wp2_with fail
            refine (sameN_any r5 x _ (by rw [h5.out, narrow_l h4.out, hnw.out])).mono ?_
            rintro e v6 ⟨rfl, hv6⟩
            subst hv6
            go_wp2_with fail
            refine (quarter_any _).mono ?_
            rintro e v7 ⟨rfl, q7, rfl⟩
            have h1 : (FloatKind.f32.format.order 1065353216 1065353216 == some .eq) = true := by decide +kernel
            go_wp2_with fail
            go_ret
            exact ⟨rfl, below_drewN K.out.below _⟩
end Go.Proofs.YtgbclibemdnohaaGreatDoor
