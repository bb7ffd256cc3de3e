/- The statement FnDrawn, walked. -/
import Derived.Test.YtomepdbpemgcfaaKp
import Derived.Test.YtomepdbpemgcfaaB10
import Derived.Test.YtomepdbpemgcfaaDrawnP
import Derived.Test.YtomepdbpemgcfaaEvenI
import Derived.Test.YtomepdbpemgcfaaBell
import Derived.Test.YtomepdbpemgcfaaSameN
namespace Go.Proofs.Ytomepdbpemgcfaa
open Go.RowKit Mag
theorem b10At_b (A : Option Addr) (n c B : Nat) (xs : List Int) (i m : Int) (w : World) (h : Rd w B A n (u8s xs)) (hb : Bytes xs) (hi : 0 ≤ i ∧ i ≤ 1000000) (hm : 1 ≤ m ∧ m ≤ 1000000) :
    Calls Try.prog 6 #[.slice A n c, .int .i64 i, .int .i64 m] w fun e w' => ∃ x : Nat, e = .returned (.int .i64 x) ∧ (x : Int) < m ∧ Hid (Below w.heap.size w w') :=
  (b10At_any A n c B xs i m w h hb hi hm).mono fun _ _ ⟨x, he, hx, hq⟩ => ⟨x.toNat, by rw [he, Int.toNat_of_nonneg hx.1], by omega, quiet_below hq⟩
set_option maxRecDepth 100000 in
set_option maxHeartbeats 8000000 in
theorem walk_FnDrawn (w : World) (A0 : Option Addr) (n0 c0 : Nat) (xs0 : List Int) (hr0 : Rd w w.heap.size A0 n0 (u8s xs0)) (hm0 : n0 ≤ maxLen) (hb0 : Bytes xs0)
    (A1 : Option Addr) (n1 c1 : Nat) (xs1 : List Int) (hr1 : Rd w w.heap.size A1 n1 (u8s xs1)) (hm1 : n1 ≤ maxLen) (hb1 : Bytes xs1) :
    Calls Try.prog 3 #[.slice A0 n0 c0, .slice A1 n1 c1] w fun e w' => e = .returned (.bool true) ∧ Below w.heap.size w w' := by
  have Hr0 := Lib.hid hr0; have Hr1 := Lib.hid hr1; have Hb0 := Lib.hid hb0; have Hb1 := Lib.hid hb1
  clear hr0 hr1 hb0 hb1
  go_enter Try.func3, Try.ntmps3
  go_wp2_with fail
  refine (b10Long_any A0 A1 n0 c0 n1 c1 _ hm0 hm1).mono ?_
  rintro e w1 ⟨rfl, rfl⟩
  clear hm0 hm1
  by_cases hbig : 1048576 < n0 ∨ 1048576 < n1
  · rw [decide_eq_true hbig]
    go_wp2
    go_ret
    exact ⟨rfl, Below.refl _ _⟩
  · rw [decide_eq_false hbig]
    clear hbig
    have K := Lib.hid (Kp.refl w1)
    go_wp2_with fail
    refine (b10Seed_v A0 n0 c0 w1.heap.size xs0 w1 Hr0.out Hb0.out (Nat.le_refl _)).mono ?_
    rintro e w2 ⟨sd, hsd, hvd, rfl, hb2⟩
    unfold Sd.val
    have Hsd := Lib.hid hsd
    have Hvd := Lib.hid hvd
    have K2 := Lib.hid ((K.out.next hb2).push sd)
    clear K hb2 hsd hvd
    have K := K2
    clear K2
    go_wp2_with fail
    refine (b10At_b A1 n1 c1 w1.heap.size xs1 0 17 _ (Hr1.out.below K.out.below (Nat.le_refl _)) Hb1.out (by omega) (by omega)).mono ?_
    rintro e w3 ⟨b, rfl, hb, hb3⟩
    have K2 := Lib.hid (K.out.next hb3.out)
    clear K hb3
    have K := K2
    clear K2
    have t1 : True := trivial
    go_wp2_with (first
      | (have := t1; clear this t1; refine wpList_fop _ rfl .quo _ _ _ _ rfl rfl .f32 _ _ rfl rfl ?_; intro r1 qr1 gr1))
    have hlr := Rn.const (low_rn b (by omega))
    obtain rfl : r1 = lowF b := cn_num gr1.out (FinK_not_nan hlr.1)
    clear gr1
    have K2 := Lib.hid (K.out.drewN qr1)
    clear K
    have K := K2
    clear K2
    refine (b10At_b A1 n1 c1 w1.heap.size xs1 1 16 _ (Hr1.out.below K.out.below (Nat.le_refl _)) Hb1.out (by omega) (by omega)).mono ?_
    rintro e w4 ⟨c, rfl, hc, hb3⟩
    have K2 := Lib.hid (K.out.next hb3.out)
    clear K hb3
    have K := K2
    clear K2
    have bs0 := (K.out.box (w2.heap.size, sd) (by simp)).c0
    have bs1 := (K.out.box (w2.heap.size, sd) (by simp)).c1
    have bs2 := (K.out.box (w2.heap.size, sd) (by simp)).c2
    simp only at bs0 bs1 bs2
    have t1 : True := trivial
    have t2 : True := trivial
    go_wp2_with (first
      | (have := t1; clear this t1; refine wpList_fop _ rfl .quo _ _ _ _ rfl rfl .f32 _ _ rfl rfl ?_; intro r2 qr2 gr2)
      | (have := t2; clear this t2; refine wpList_fop _ rfl .add _ _ _ _ rfl rfl .f32 _ _ rfl rfl ?_; intro r3 qr3 gr3))
    have hqn : isNaNB .f32 (quarF (1 + (c : Int))) = false := FinK_not_nan (Rn.const (rate_rn c (by omega))).1
    obtain rfl : r2 = quarF (1 + (c : Int)) := cn_num gr2.out hqn
    have hhr := Rn.const (high_rn b (by omega) c (by omega))
    obtain rfl : r3 = highF b c := cn_num gr3.out (FinK_not_nan hhr.1)
    clear gr2 gr3 hqn hhr hlr
    have K2 := Lib.hid (K.out.drewN (qr2 + qr3))
    clear K
    have K := K2
    clear K2
    obtain ⟨te, xe, hE, hEr⟩ := even_some (s := sd) Hvd.out
    obtain ⟨xb, hBt, hBf, hB1, hB2⟩ := between_some (s := sd) Hvd.out (b := b) (c := c) (by omega) (by omega)
    have hP := bell_some (s := sd) Hvd.out
    have HE := Lib.hid hE; have HEr := Lib.hid hEr; have HBt := Lib.hid hBt; have HBf := Lib.hid hBf; have HB1 := Lib.hid hB1; have HB2 := Lib.hid hB2; have HP := Lib.hid hP
    clear hE hEr hBt hBf hB1 hB2 hP
    obtain ⟨tn, htn⟩ : ∃ t, t = nextSd sd := ⟨_, rfl⟩
    rw [← htn] at HBt HP
    obtain ⟨tp, htp⟩ : ∃ t, t = nextSd tn := ⟨_, rfl⟩
    rw [← htp] at HP
    have Htn := Lib.hid htn
    clear htn htp
    clear bs0 bs1 bs2
    refine (implEven_any sd.kind sd.a sd.b _ Hsd.out).mono ?_
    intro e w5 hgave
    obtain ⟨rfl, hbl⟩ := gaveSFB_get hgave HE.out (FinK_not_nan HEr.out.1)
    clear hgave
    have K2 := Lib.hid ((K.out.next hbl.out).push te)
    clear K hbl
    have K := K2
    clear K2
    have bs0 := (K.out.box (w2.heap.size, sd) (by simp)).c0
    have bs1 := (K.out.box (w2.heap.size, sd) (by simp)).c1
    have bs2 := (K.out.box (w2.heap.size, sd) (by simp)).c2
    simp only at bs0 bs1 bs2
    go_wp2_with fail
    clear bs0 bs1 bs2
    refine (specEven_any sd.kind sd.a sd.b _ Hsd.out).mono ?_
    intro e w6 hgave
    obtain ⟨rfl, hbl⟩ := gaveSFB_get hgave HE.out (FinK_not_nan HEr.out.1)
    clear hgave
    have K2 := Lib.hid ((K.out.next hbl.out).push te)
    clear K hbl
    have K := K2
    clear K2
    have bs0 := (K.out.box (w2.heap.size, sd) (by simp)).c0
    have bs1 := (K.out.box (w2.heap.size, sd) (by simp)).c1
    have bs2 := (K.out.box (w2.heap.size, sd) (by simp)).c2
    simp only at bs0 bs1 bs2
    go_wp2_with fail
    clear bs0 bs1 bs2
    refine (implBetween_any sd.kind sd.a sd.b (lowF b) (highF b c) _ Hsd.out (fop32_lt _ _ _) (fop32_lt _ _ _)).mono ?_
    intro e w7 hgave
    obtain ⟨rfl, hbl⟩ := gaveSFB_get hgave HBt.out (FinK_not_nan HBf.out)
    clear hgave
    have K2 := Lib.hid ((K.out.next hbl.out).push tn)
    clear K hbl
    have K := K2
    clear K2
    have bs0 := (K.out.box (w2.heap.size, sd) (by simp)).c0
    have bs1 := (K.out.box (w2.heap.size, sd) (by simp)).c1
    have bs2 := (K.out.box (w2.heap.size, sd) (by simp)).c2
    simp only at bs0 bs1 bs2
    go_wp2_with fail
    clear bs0 bs1 bs2
    refine (specBetween_any sd.kind sd.a sd.b (lowF b) (highF b c) _ Hsd.out (fop32_lt _ _ _) (fop32_lt _ _ _)).mono ?_
    intro e w8 hgave
    obtain ⟨rfl, hbl⟩ := gaveSFB_get hgave HBt.out (FinK_not_nan HBf.out)
    clear hgave
    have K2 := Lib.hid ((K.out.next hbl.out).push tn)
    clear K hbl
    have K := K2
    clear K2
    have bs0 := (K.out.box (w2.heap.size, sd) (by simp)).c0
    have bs1 := (K.out.box (w2.heap.size, sd) (by simp)).c1
    have bs2 := (K.out.box (w2.heap.size, sd) (by simp)).c2
    simp only at bs0 bs1 bs2
    go_wp2_with fail
    clear bs0 bs1 bs2
    refine (implBellP_any sd.kind sd.a sd.b _ Hsd.out).mono ?_
    intro e w9 hgave
    obtain ⟨rfl, hbl⟩ := gaveSCB_get hgave HP.out (FinK_not_nan (bellRe_rn _).1) (FinK_not_nan (bellIm_rn _).1)
    clear hgave
    have K2 := Lib.hid ((K.out.next hbl.out).push tp)
    clear K hbl
    have K := K2
    clear K2
    have bs0 := (K.out.box (w2.heap.size, sd) (by simp)).c0
    have bs1 := (K.out.box (w2.heap.size, sd) (by simp)).c1
    have bs2 := (K.out.box (w2.heap.size, sd) (by simp)).c2
    simp only at bs0 bs1 bs2
    go_wp2_with fail
    clear bs0 bs1 bs2
    refine (specBellP_any sd.kind sd.a sd.b _ Hsd.out).mono ?_
    intro e w10 hgave
    obtain ⟨rfl, hbl⟩ := gaveSCB_get hgave HP.out (FinK_not_nan (bellRe_rn _).1) (FinK_not_nan (bellIm_rn _).1)
    clear hgave
    have K2 := Lib.hid ((K.out.next hbl.out).push tp)
    clear K hbl
    have K := K2
    clear K2
    have bs0 := (K.out.box (w2.heap.size, sd) (by simp)).c0
    have bs1 := (K.out.box (w2.heap.size, sd) (by simp)).c1
    have bs2 := (K.out.box (w2.heap.size, sd) (by simp)).c2
    simp only at bs0 bs1 bs2
    clear bs0 bs1 bs2
    go_wp2_with fail
    refine (b10At_b A1 n1 c1 w1.heap.size xs1 2 16 _ (Hr1.out.below K.out.below (Nat.le_refl _)) Hb1.out (by omega) (by omega)).mono ?_
    rintro e w11 ⟨d, rfl, hd, hb3⟩
    have K2 := Lib.hid (K.out.next hb3.out)
    clear K hb3
    have K := K2
    clear K2
    have bs0 := (K.out.box (w2.heap.size, sd) (by simp)).c0
    have bs1 := (K.out.box (w2.heap.size, sd) (by simp)).c1
    have bs2 := (K.out.box (w2.heap.size, sd) (by simp)).c2
    simp only at bs0 bs1 bs2
    have t1 : True := trivial
    go_wp2_with (first
      | (have := t1; clear this t1; refine wpList_fop _ rfl .quo _ _ _ _ rfl rfl .f32 _ _ rfl rfl ?_; intro r4 qr4 gr4))
    have hrr := Rn.const (rate_rn d (by omega))
    obtain rfl : r4 = rateF d := cn_num gr4.out (FinK_not_nan hrr.1)
    clear gr4 hrr
    have K2 := Lib.hid (K.out.drewN qr4)
    clear K
    have K := K2
    clear K2
    obtain ⟨xw, hWt, hWr⟩ := wait_some (s := sd) Hvd.out (c := d) (by omega)
    have HWt := Lib.hid hWt; have HWr := Lib.hid hWr
    clear hWt hWr
    rw [← Htn.out] at HWt
    clear bs0 bs1 bs2
    refine (implWait_any sd.kind sd.a sd.b (rateF d) _ Hsd.out (fop32_lt _ _ _)).mono ?_
    intro e w12 hgave
    obtain ⟨rfl, hbl⟩ := gaveSFB_get hgave HWt.out (FinK_not_nan HWr.out.1)
    clear hgave
    have K2 := Lib.hid ((K.out.next hbl.out).push tn)
    clear K hbl
    have K := K2
    clear K2
    have bs0 := (K.out.box (w2.heap.size, sd) (by simp)).c0
    have bs1 := (K.out.box (w2.heap.size, sd) (by simp)).c1
    have bs2 := (K.out.box (w2.heap.size, sd) (by simp)).c2
    simp only at bs0 bs1 bs2
    go_wp2_with fail
    clear bs0 bs1 bs2
    refine (specWait_any sd.kind sd.a sd.b (rateF d) _ Hsd.out (fop32_lt _ _ _)).mono ?_
    intro e w13 hgave
    obtain ⟨rfl, hbl⟩ := gaveSFB_get hgave HWt.out (FinK_not_nan HWr.out.1)
    clear hgave
    have K2 := Lib.hid ((K.out.next hbl.out).push tn)
    clear K hbl
    have K := K2
    clear K2
    have bs0 := (K.out.box (w2.heap.size, sd) (by simp)).c0
    have bs1 := (K.out.box (w2.heap.size, sd) (by simp)).c1
    have bs2 := (K.out.box (w2.heap.size, sd) (by simp)).c2
    simp only at bs0 bs1 bs2
    have e1_0 := (K.out.box (w5.heap.size, te) (by simp)).c0
    have e1_1 := (K.out.box (w5.heap.size, te) (by simp)).c1
    have e1_2 := (K.out.box (w5.heap.size, te) (by simp)).c2
    have e2_0 := (K.out.box (w6.heap.size, te) (by simp)).c0
    have e2_1 := (K.out.box (w6.heap.size, te) (by simp)).c1
    have e2_2 := (K.out.box (w6.heap.size, te) (by simp)).c2
    have b1_0 := (K.out.box (w7.heap.size, tn) (by simp)).c0
    have b1_1 := (K.out.box (w7.heap.size, tn) (by simp)).c1
    have b1_2 := (K.out.box (w7.heap.size, tn) (by simp)).c2
    have b2_0 := (K.out.box (w8.heap.size, tn) (by simp)).c0
    have b2_1 := (K.out.box (w8.heap.size, tn) (by simp)).c1
    have b2_2 := (K.out.box (w8.heap.size, tn) (by simp)).c2
    have p1_0 := (K.out.box (w9.heap.size, tp) (by simp)).c0
    have p1_1 := (K.out.box (w9.heap.size, tp) (by simp)).c1
    have p1_2 := (K.out.box (w9.heap.size, tp) (by simp)).c2
    have p2_0 := (K.out.box (w10.heap.size, tp) (by simp)).c0
    have p2_1 := (K.out.box (w10.heap.size, tp) (by simp)).c1
    have p2_2 := (K.out.box (w10.heap.size, tp) (by simp)).c2
    have t1_0 := (K.out.box (w12.heap.size, tn) (by simp)).c0
    have t1_1 := (K.out.box (w12.heap.size, tn) (by simp)).c1
    have t1_2 := (K.out.box (w12.heap.size, tn) (by simp)).c2
    have t2_0 := (K.out.box (w13.heap.size, tn) (by simp)).c0
    have t2_1 := (K.out.box (w13.heap.size, tn) (by simp)).c1
    have t2_2 := (K.out.box (w13.heap.size, tn) (by simp)).c2
    simp only at e1_0 e1_1 e1_2 e2_0 e2_1 e2_2 b1_0 b1_1 b1_2 b2_0 b2_1 b2_2 p1_0 p1_1 p1_2 p2_0 p2_1 p2_2 t1_0 t1_1 t1_2 t2_0 t2_1 t2_2
    have nte0 : (te.kind != te.kind) = false := by simp
    have nte1 : (te.a != te.a) = false := by simp
    have nte2 : (te.b != te.b) = false := by simp
    have ntn0 : (tn.kind != tn.kind) = false := by simp
    have ntn1 : (tn.a != tn.a) = false := by simp
    have ntn2 : (tn.b != tn.b) = false := by simp
    have ntp0 : (tp.kind != tp.kind) = false := by simp
    have ntp1 : (tp.a != tp.a) = false := by simp
    have ntp2 : (tp.b != tp.b) = false := by simp
    have f1 : (FloatKind.f32.format.order xe 0 == some .lt) = false := nonneg_lt HEr.out
    have f2 : (FloatKind.f32.format.order xe 1065353216 == some .gt) = false := le_one_gt HEr.out
    have f3 : (FloatKind.f32.format.order xb (lowF b) == some .lt) = false := HB1.out
    have f4 : (FloatKind.f32.format.order xb (highF b c) == some .gt || FloatKind.f32.format.order xb (highF b c) == some .eq) = false := HB2.out
    have f5 : (FloatKind.f32.format.order xw 0 == some .lt) = false := nonneg_lt HWr.out
    go_wp2_with (first
      | (refine (sameN_any _ _ _ rfl).mono ?_; rintro e w' ⟨rfl, rfl⟩)
      | (refine (sameC_any _ _ _ _ _ rfl rfl).mono ?_; rintro e w' ⟨rfl, rfl⟩))
    clear e1_0 e1_1 e1_2 e2_0 e2_1 e2_2 b1_0 b1_1 b1_2 b2_0 b2_1 b2_2 p1_0 p1_1 p1_2 p2_0 p2_1 p2_2 t1_0 t1_1 t1_2 t2_0 t2_1 t2_2 f1 f2 f3 f4 f5 nte0 nte1 nte2 ntn0 ntn1 ntn2 ntp0 ntp1 ntp2
    clear bs0 bs1 bs2
    refine (specBell_any sd.kind sd.a sd.b _ Hsd.out).mono ?_
    rintro e w20 ⟨kq, aq, bq, yq, okq, rfl, hq1, hq2, hq3, hbl⟩
    have K2 := Lib.hid ((K.out.next hbl).push ⟨kq, aq, bq⟩)
    clear K hbl
    have K := K2
    clear K2
    have bs0 := (K.out.box (w2.heap.size, sd) (by simp)).c0
    have bs1 := (K.out.box (w2.heap.size, sd) (by simp)).c1
    have bs2 := (K.out.box (w2.heap.size, sd) (by simp)).c2
    simp only at bs0 bs1 bs2
    go_wp2_with fail
    clear bs0 bs1 bs2
    refine (implBell_any sd.kind sd.a sd.b _ Hsd.out).mono ?_
    rintro e w21 ⟨kr, ar, br, yr, okr, rfl, hr1, hr2, hr3, hbl⟩
    have K2 := Lib.hid ((K.out.next hbl).push ⟨kr, ar, br⟩)
    clear K hbl
    have K := K2
    clear K2
    obtain rfl : okr = okq := hr1.out.trans hq1.out.symm
    have hseed := hr2.out.trans hq2.out.symm
    obtain ⟨rfl, rfl, rfl⟩ : kr = kq ∧ ar = aq ∧ br = bq := by simpa using hseed
    have Hxx := Lib.hid (hr3.out.trans hq3.out.symm)
    clear hseed hr1 hr2 hr3 hq1 hq2 hq3
    cases okr with
    | false =>
      go_wp2
      go_ret
      exact ⟨rfl, K.out.below⟩
    | true =>
      have q1_0 := (K.out.box (w20.heap.size, ⟨kr, ar, br⟩) (by simp)).c0
      have q1_1 := (K.out.box (w20.heap.size, ⟨kr, ar, br⟩) (by simp)).c1
      have q1_2 := (K.out.box (w20.heap.size, ⟨kr, ar, br⟩) (by simp)).c2
      have q2_0 := (K.out.box (w21.heap.size, ⟨kr, ar, br⟩) (by simp)).c0
      have q2_1 := (K.out.box (w21.heap.size, ⟨kr, ar, br⟩) (by simp)).c1
      have q2_2 := (K.out.box (w21.heap.size, ⟨kr, ar, br⟩) (by simp)).c2
      simp only at q1_0 q1_1 q1_2 q2_0 q2_1 q2_2
      have m0 : (kr == kr) = true := by simp
      have m1 : (ar == ar) = true := by simp
      have m2 : (br == br) = true := by simp
      go_wp2_with (refine (sameN_any _ _ _ Hxx.out).mono ?_; rintro e w' ⟨rfl, rfl⟩)
      go_ret
      exact ⟨rfl, K.out.below⟩
end Go.Proofs.Ytomepdbpemgcfaa
