/- The statement FnCounted, walked. -/
import Derived.Test.YtgbehnkccgahoaaKp
import Derived.Test.YtgbehnkccgahoaaB10
import Derived.Test.YtgbehnkccgahoaaCountP
import Derived.Test.YtgbehnkccgahoaaSameN
import Derived.Deep.DeepCutAuto
namespace Go.Proofs.Ytgbehnkccgahoaa
open Go.RowKit Mag
theorem b10At_b (A : Option Addr) (n c B : Nat) (xs : List Int) (i m : Int) (w : World) (h : Rd w B A n (u8s xs)) (hb : Bytes xs) (hi : 0 ≤ i ∧ i ≤ 1000000) (hm : 1 ≤ m ∧ m ≤ 1000000) :
    Calls Try.prog 6 #[.slice A n c, .int .i64 i, .int .i64 m] w fun e w' => ∃ x : Nat, e = .returned (.int .i64 x) ∧ (x : Int) < m ∧ Hid (Below w.heap.size w w') :=
  (b10At_any A n c B xs i m w h hb hi hm).mono fun _ _ ⟨x, he, hx, hq⟩ => ⟨x.toNat, by rw [he, Int.toNat_of_nonneg hx.1], by omega, quiet_below hq⟩
/-- What is handed back, with names for the parts. -/
theorem gaveSFB_use {w w' : World} {r : Option (Sd × Nat)} {e : Ending} (h : GaveSFB w r e w') {s : Sd} {ok : Bool} {x : Nat} (e1 : Hid (s = (r.map Prod.fst).getD Sd.zero)) (e2 : Hid (ok = r.isSome)) (_e3 : Hid (x = (r.map Prod.snd).getD 0)) :
    ∃ y : Nat, e = .returned (.tuple #[.agg #[.int .i64 s.kind, .int .u64 s.a, .int .u64 s.b], .float .f32 y, .bool ok]) ∧ Hid (cn .f32 y = x) ∧ Hid (Below w.heap.size w w') := by
  obtain ⟨k, a, b, y, ok', rfl, h1, h2, h3, hb⟩ := h
  obtain rfl : ok' = ok := h1.out.trans e2.out.symm
  have e : (⟨k, a, b⟩ : Sd) = s := h2.out.trans e1.out.symm
  subst e
  exact ⟨y, rfl, h3.out.trans _e3.out.symm, hb⟩
theorem gaveSNB_use {w w' : World} {r : Option (Sd × Int)} {e : Ending} (h : GaveSNB w r e w') {s : Sd} {ok : Bool} {x : Int} (e1 : Hid (s = (r.map Prod.fst).getD Sd.zero)) (e2 : Hid (ok = r.isSome)) (e3 : Hid (x = (r.map Prod.snd).getD 0)) :
    e = .returned (.tuple #[.agg #[.int .i64 s.kind, .int .u64 s.a, .int .u64 s.b], .int .i64 x, .bool ok]) ∧ Hid (Below w.heap.size w w') := by
  obtain ⟨k, a, b, y, ok', rfl, h1, h2, h3, hb⟩ := h
  obtain rfl : ok' = ok := h1.out.trans e2.out.symm
  obtain rfl : y = x := h3.out.trans e3.out.symm
  have e : (⟨k, a, b⟩ : Sd) = s := h2.out.trans e1.out.symm
  subst e
  exact ⟨rfl, hb⟩
theorem gaveSNB_get {w w' : World} {r : Option (Sd × Int)} {e : Ending} {t : Sd} {x : Int} (h : GaveSNB w r e w') (hr : r = some (t, x)) :
    e = .returned (.tuple #[.agg #[.int .i64 t.kind, .int .u64 t.a, .int .u64 t.b], .int .i64 x, .bool true]) ∧ Hid (Below w.heap.size w w') := by
  obtain ⟨k, a, b, y, ok, rfl, h1, h2, h3, hb⟩ := h
  subst hr
  obtain rfl : ok = true := h1.out
  have e : (⟨k, a, b⟩ : Sd) = t := h2.out
  subst e
  obtain rfl : y = x := h3.out
  exact ⟨rfl, hb⟩
theorem nn_lt {hi : Int} {x : Nat} (h : Rn .f32 0 hi x) : (FloatKind.f32.format.order x 0 == some .lt) = false := by
  have h0 : FinK .f32 0 ∧ KV .f32 0 = 0 := ⟨(Rn.const (k := .f32) (lo := 0) (hi := 0) (by decide +kernel)).1, by decide +kernel⟩
  have := flt_KV h.1 h0.1
  unfold flt at this
  rw [this, h0.2]
  exact decide_eq_false (by have := h.2.1; omega)
theorem one_gt {lo : Int} {x : Nat} (h : Rn .f32 lo (1065353216 : Nat) x) : (FloatKind.f32.format.order x 1065353216 == some .gt) = false := by
  have h1 : Rn .f32 (1065353216 : Nat) (1065353216 : Nat) 1065353216 := Rn.const (by decide +kernel)
  have := fgt_KV h.1 h1.1
  unfold fgt at this
  rw [this]
  exact decide_eq_false (by have := h.2.2; have := h1.2; omega)
set_option maxRecDepth 100000 in
set_option maxHeartbeats 16000000 in
theorem walk_FnCounted (w : World) (A0 : Option Addr) (n0 c0 : Nat) (xs0 : List Int) (hr0 : Rd w w.heap.size A0 n0 (u8s xs0)) (hm0 : n0 ≤ maxLen) (hb0 : Bytes xs0)
    (A1 : Option Addr) (n1 c1 : Nat) (xs1 : List Int) (hr1 : Rd w w.heap.size A1 n1 (u8s xs1)) (hm1 : n1 ≤ maxLen) (hb1 : Bytes xs1) :
    Calls Try.prog 3 #[.slice A0 n0 c0, .slice A1 n1 c1] w fun e w' => e = .returned (.bool true) ∧ Below w.heap.size w w' := by
  have Hr0 := Lib.hid hr0; have Hr1 := Lib.hid hr1; have Hb0 := Lib.hid hb0; have Hb1 := Lib.hid hb1
  clear hr0 hr1 hb0 hb1
  go_enter Try.func3, Try.ntmps3
  go_wp2_with fail
  refine (b10Long_any A0 A1 n0 c0 n1 c1 _ hm0 hm1).mono ?_
  rintro e w1 ⟨rfl, rfl⟩
  clear hm0 hm1
  by_cases hbig : 1048576 < n0 ∨ 1048576 < n1
  · rw [decide_eq_true hbig]
    go_wp2
    go_ret
    exact ⟨rfl, Below.refl _ _⟩
  · rw [decide_eq_false hbig]
    clear hbig
    have K := Lib.hid (Kp.refl w1)
    go_wp2_with fail
    refine (b10Seed_v A0 n0 c0 w1.heap.size xs0 w1 Hr0.out Hb0.out (Nat.le_refl _)).mono ?_
    rintro e w2 ⟨sd, hsd, hvd, rfl, hb2⟩
    unfold Sd.val
    have Hsd := Lib.hid hsd
    have Hvd := Lib.hid hvd
    have K2 := Lib.hid ((K.out.next hb2).push sd)
    clear K hb2 hsd hvd
    have K := K2
    clear K2
    go_wp2_with fail
    refine (b10At_b A1 n1 c1 w1.heap.size xs1 0 24 _ (Hr1.out.below K.out.below (Nat.le_refl _)) Hb1.out (by omega) (by omega)).mono ?_
    rintro e w3 ⟨b, rfl, hb, hb3⟩
    have K2 := Lib.hid (K.out.next hb3.out)
    clear K
    have K := K2
    clear K2
    clear hb3
    have t1 : True := trivial
    go_wp2_with (have := t1; clear this t1; refine wpList_fop _ rfl .quo _ _ _ _ rfl rfl .f32 _ _ rfl rfl ?_; intro r1 qr1 gr1)
    have hrn := Rn.const (shapeF_rn b (by omega))
    obtain rfl : r1 = shapeF b := cn_num gr1.out (FinK_not_nan hrn.1)
    clear gr1
    have K2 := Lib.hid (K.out.drewN qr1)
    clear K
    have K := K2
    clear K2
    have Hrb := Lib.hid hrn
    clear hrn
    refine (b10At_b A1 n1 c1 w1.heap.size xs1 1 24 _ (Hr1.out.below K.out.below (Nat.le_refl _)) Hb1.out (by omega) (by omega)).mono ?_
    rintro e w4 ⟨c, rfl, hc, hb3⟩
    have K2 := Lib.hid (K.out.next hb3.out)
    clear K
    have K := K2
    clear K2
    clear hb3
    have bs0 := (K.out.box (w2.heap.size, sd) (by simp)).c0
    have bs1 := (K.out.box (w2.heap.size, sd) (by simp)).c1
    have bs2 := (K.out.box (w2.heap.size, sd) (by simp)).c2
    simp only at bs0 bs1 bs2
    have t1 : True := trivial
    go_wp2_with (have := t1; clear this t1; refine wpList_fop _ rfl .quo _ _ _ _ rfl rfl .f32 _ _ rfl rfl ?_; intro r2 qr2 gr2)
    have hrn := Rn.const (shapeF_rn c (by omega))
    obtain rfl : r2 = shapeF c := cn_num gr2.out (FinK_not_nan hrn.1)
    clear gr2
    have K2 := Lib.hid (K.out.drewN qr2)
    clear K
    have K := K2
    clear K2
    have Hrc := Lib.hid hrn
    clear hrn
    obtain ⟨rg0, hrg0⟩ : ∃ r, r = gammaSeed sd (shapeF b) := ⟨_, rfl⟩
    obtain ⟨sg, hsg⟩ : ∃ s, s = (rg0.map Prod.fst).getD Sd.zero := ⟨_, rfl⟩
    obtain ⟨okg, hokg⟩ : ∃ b, b = rg0.isSome := ⟨_, rfl⟩
    obtain ⟨yg, hyg⟩ : ∃ y, y = (rg0.map Prod.snd).getD 0 := ⟨_, rfl⟩
    have Hrg0 := Lib.hid hrg0; have Hsg := Lib.hid hsg; have Hokg := Lib.hid hokg; have Hyg := Lib.hid hyg
    clear hrg0 hsg hokg hyg
    obtain ⟨rb0, hrb0⟩ : ∃ r, r = betaSeed sd (shapeF b) (shapeF c) := ⟨_, rfl⟩
    obtain ⟨sb, hsb⟩ : ∃ s, s = (rb0.map Prod.fst).getD Sd.zero := ⟨_, rfl⟩
    obtain ⟨okb, hokb⟩ : ∃ b, b = rb0.isSome := ⟨_, rfl⟩
    obtain ⟨yb, hyb⟩ : ∃ y, y = (rb0.map Prod.snd).getD 0 := ⟨_, rfl⟩
    have Hrb0 := Lib.hid hrb0; have Hsb := Lib.hid hsb; have Hokb := Lib.hid hokb; have Hyb := Lib.hid hyb
    clear hrb0 hsb hokb hyb
    clear bs0 bs1 bs2
    refine (implGamma_any sd.kind sd.a sd.b (shapeF b) _ Hsd.out (fop_lt _ _ _)).mono ?_
    intro e w5 hgave
    rw [show (⟨sd.kind, sd.a, sd.b⟩ : Sd) = sd from rfl, ← Hrg0.out] at hgave
    obtain ⟨ug, rfl, Hug, hbl⟩ := gaveSFB_use hgave Hsg Hokg Hyg
    clear hgave
    have K2 := Lib.hid ((K.out.next hbl.out).push sg)
    clear K
    have K := K2
    clear K2
    clear hbl
    have bs0 := (K.out.box (w2.heap.size, sd) (by simp)).c0
    have bs1 := (K.out.box (w2.heap.size, sd) (by simp)).c1
    have bs2 := (K.out.box (w2.heap.size, sd) (by simp)).c2
    simp only at bs0 bs1 bs2
    go_wp2_with fail
    clear bs0 bs1 bs2
    refine (specGamma_any sd.kind sd.a sd.b (shapeF b) _ Hsd.out (fop_lt _ _ _)).mono ?_
    intro e w6 hgave
    rw [show (⟨sd.kind, sd.a, sd.b⟩ : Sd) = sd from rfl, ← Hrg0.out] at hgave
    obtain ⟨vg, rfl, Hvg, hbl⟩ := gaveSFB_use hgave Hsg Hokg Hyg
    clear hgave
    have K2 := Lib.hid ((K.out.next hbl.out).push sg)
    clear K
    have K := K2
    clear K2
    clear hbl
    have bs0 := (K.out.box (w2.heap.size, sd) (by simp)).c0
    have bs1 := (K.out.box (w2.heap.size, sd) (by simp)).c1
    have bs2 := (K.out.box (w2.heap.size, sd) (by simp)).c2
    simp only at bs0 bs1 bs2
    go_wp2_with fail
    clear bs0 bs1 bs2
    refine (implBeta_any sd.kind sd.a sd.b (shapeF b) (shapeF c) _ Hsd.out (fop_lt _ _ _) (fop_lt _ _ _)).mono ?_
    intro e w7 hgave
    rw [show (⟨sd.kind, sd.a, sd.b⟩ : Sd) = sd from rfl, ← Hrb0.out] at hgave
    obtain ⟨ub, rfl, Hub, hbl⟩ := gaveSFB_use hgave Hsb Hokb Hyb
    clear hgave
    have K2 := Lib.hid ((K.out.next hbl.out).push sb)
    clear K
    have K := K2
    clear K2
    clear hbl
    have bs0 := (K.out.box (w2.heap.size, sd) (by simp)).c0
    have bs1 := (K.out.box (w2.heap.size, sd) (by simp)).c1
    have bs2 := (K.out.box (w2.heap.size, sd) (by simp)).c2
    simp only at bs0 bs1 bs2
    go_wp2_with fail
    clear bs0 bs1 bs2
    refine (specBeta_any sd.kind sd.a sd.b (shapeF b) (shapeF c) _ Hsd.out (fop_lt _ _ _) (fop_lt _ _ _)).mono ?_
    intro e w8 hgave
    rw [show (⟨sd.kind, sd.a, sd.b⟩ : Sd) = sd from rfl, ← Hrb0.out] at hgave
    obtain ⟨vb, rfl, Hvb, hbl⟩ := gaveSFB_use hgave Hsb Hokb Hyb
    clear hgave
    have K2 := Lib.hid ((K.out.next hbl.out).push sb)
    clear K
    have K := K2
    clear K2
    clear hbl
    have bs0 := (K.out.box (w2.heap.size, sd) (by simp)).c0
    have bs1 := (K.out.box (w2.heap.size, sd) (by simp)).c1
    have bs2 := (K.out.box (w2.heap.size, sd) (by simp)).c2
    simp only at bs0 bs1 bs2
    have Fg : Hid (okg = true → (FloatKind.f32.format.order ug 0 == some .lt) = false) := by
      intro ht
      have h1 : rg0.isSome = true := by rw [← Hokg.out]; exact ht
      obtain ⟨p, hp⟩ := Option.isSome_iff_exists.1 h1
      have h2 : gammaSeed sd (shapeF b) = some (p.1, p.2) := by rw [← Hrg0.out, hp]
      have h3 := gamma_rn Hrb.out h2
      have h4 : cn .f32 ug = p.2 := by rw [Hug.out, Hyg.out, hp]; rfl
      have h5 : ug = p.2 := cn_num h4 (FinK_not_nan h3.1)
      rw [h5]
      exact nn_lt h3
    have Fb : Hid (okb = true → (FloatKind.f32.format.order ub 0 == some .lt) = false ∧ (FloatKind.f32.format.order ub 1065353216 == some .gt) = false) := by
      intro ht
      have h1 : rb0.isSome = true := by rw [← Hokb.out]; exact ht
      obtain ⟨p, hp⟩ := Option.isSome_iff_exists.1 h1
      have h2 : betaSeed sd (shapeF b) (shapeF c) = some (p.1, p.2) := by rw [← Hrb0.out, hp]
      have h3 := beta_rn Hsd.out Hrb.out Hrc.out h2
      have h4 : cn .f32 ub = p.2 := by rw [Hub.out, Hyb.out, hp]; rfl
      have h5 : ub = p.2 := cn_num h4 (FinK_not_nan h3.1)
      rw [h5]
      exact ⟨nn_lt h3, one_gt h3⟩
    have Sg := Lib.hid (Hug.out.trans Hvg.out.symm)
    have Sb := Lib.hid (Hub.out.trans Hvb.out.symm)
    clear Hug Hvg Hub Hvb Hrg0 Hrb0 Hsg Hsb Hokg Hokb Hyg Hyb
    go_upto_region 10 with fail
    clear bs0 bs1 bs2
    obtain ⟨wc, hwc⟩ : ∃ v, v = w8.alloc (.cells #[.int .i64 sb.kind, .int .u64 sb.a, .int .u64 sb.b] 26) := ⟨_, rfl⟩
    rw [← hwc] at K ⊢
    clear hwc
    go_cut [137] from 90 to 137 (fun s wx => s = .bool false ∧ wx = wc)
    case first => as_aux_lemma =>
      clear Hr0 Hr1 Hb0 Hb1 Hsd Hvd Hrb Hrc
      cases okg
      · cases okb
        · have z0 : True := trivial
          go_wp2_with (first
            | (go_at_call 11; refine (sameN_any _ _ _ Sg.out).mono ?_; rintro e w' ⟨rfl, rfl⟩)
            | (go_at_call 11; refine (sameN_any _ _ _ Sb.out).mono ?_; rintro e w' ⟨rfl, rfl⟩))
          go_meet
          case rel => exact ⟨rfl, rfl⟩
        · have z0 : True := trivial
          have b1_0 := (K.out.box (w7.heap.size, sb) (by simp)).c0
          have b1_1 := (K.out.box (w7.heap.size, sb) (by simp)).c1
          have b1_2 := (K.out.box (w7.heap.size, sb) (by simp)).c2
          simp only at b1_0 b1_1 b1_2
          have b2_0 := (K.out.box (w8.heap.size, sb) (by simp)).c0
          have b2_1 := (K.out.box (w8.heap.size, sb) (by simp)).c1
          have b2_2 := (K.out.box (w8.heap.size, sb) (by simp)).c2
          simp only at b2_0 b2_1 b2_2
          have nsb0 : (sb.kind != sb.kind) = false := by simp
          have nsb1 : (sb.a != sb.a) = false := by simp
          have nsb2 : (sb.b != sb.b) = false := by simp
          have fb1 := (Fb.out rfl).1
          have fb2 := (Fb.out rfl).2
          go_wp2_with (first
            | (go_at_call 11; refine (sameN_any _ _ _ Sg.out).mono ?_; rintro e w' ⟨rfl, rfl⟩)
            | (go_at_call 11; refine (sameN_any _ _ _ Sb.out).mono ?_; rintro e w' ⟨rfl, rfl⟩))
          go_meet
          case rel => exact ⟨rfl, rfl⟩
      · cases okb
        · have z0 : True := trivial
          have g1_0 := (K.out.box (w5.heap.size, sg) (by simp)).c0
          have g1_1 := (K.out.box (w5.heap.size, sg) (by simp)).c1
          have g1_2 := (K.out.box (w5.heap.size, sg) (by simp)).c2
          simp only at g1_0 g1_1 g1_2
          have g2_0 := (K.out.box (w6.heap.size, sg) (by simp)).c0
          have g2_1 := (K.out.box (w6.heap.size, sg) (by simp)).c1
          have g2_2 := (K.out.box (w6.heap.size, sg) (by simp)).c2
          simp only at g2_0 g2_1 g2_2
          have nsg0 : (sg.kind != sg.kind) = false := by simp
          have nsg1 : (sg.a != sg.a) = false := by simp
          have nsg2 : (sg.b != sg.b) = false := by simp
          have fg := Fg.out rfl
          go_wp2_with (first
            | (go_at_call 11; refine (sameN_any _ _ _ Sg.out).mono ?_; rintro e w' ⟨rfl, rfl⟩)
            | (go_at_call 11; refine (sameN_any _ _ _ Sb.out).mono ?_; rintro e w' ⟨rfl, rfl⟩))
          go_meet
          case rel => exact ⟨rfl, rfl⟩
        · have z0 : True := trivial
          have g1_0 := (K.out.box (w5.heap.size, sg) (by simp)).c0
          have g1_1 := (K.out.box (w5.heap.size, sg) (by simp)).c1
          have g1_2 := (K.out.box (w5.heap.size, sg) (by simp)).c2
          simp only at g1_0 g1_1 g1_2
          have g2_0 := (K.out.box (w6.heap.size, sg) (by simp)).c0
          have g2_1 := (K.out.box (w6.heap.size, sg) (by simp)).c1
          have g2_2 := (K.out.box (w6.heap.size, sg) (by simp)).c2
          simp only at g2_0 g2_1 g2_2
          have nsg0 : (sg.kind != sg.kind) = false := by simp
          have nsg1 : (sg.a != sg.a) = false := by simp
          have nsg2 : (sg.b != sg.b) = false := by simp
          have fg := Fg.out rfl
          have b1_0 := (K.out.box (w7.heap.size, sb) (by simp)).c0
          have b1_1 := (K.out.box (w7.heap.size, sb) (by simp)).c1
          have b1_2 := (K.out.box (w7.heap.size, sb) (by simp)).c2
          simp only at b1_0 b1_1 b1_2
          have b2_0 := (K.out.box (w8.heap.size, sb) (by simp)).c0
          have b2_1 := (K.out.box (w8.heap.size, sb) (by simp)).c1
          have b2_2 := (K.out.box (w8.heap.size, sb) (by simp)).c2
          simp only at b2_0 b2_1 b2_2
          have nsb0 : (sb.kind != sb.kind) = false := by simp
          have nsb1 : (sb.a != sb.a) = false := by simp
          have nsb2 : (sb.b != sb.b) = false := by simp
          have fb1 := (Fb.out rfl).1
          have fb2 := (Fb.out rfl).2
          go_wp2_with (first
            | (go_at_call 11; refine (sameN_any _ _ _ Sg.out).mono ?_; rintro e w' ⟨rfl, rfl⟩)
            | (go_at_call 11; refine (sameN_any _ _ _ Sb.out).mono ?_; rintro e w' ⟨rfl, rfl⟩))
          go_meet
          case rel => exact ⟨rfl, rfl⟩
    case rest => as_aux_lemma =>
      obtain ⟨rfl, rfl⟩ := hcut
      clear Fg Fb Sg Sb Hrb Hrc
      go_wp2_with fail
      refine (b10At_b A1 n1 c1 w1.heap.size xs1 2 33 _ (Hr1.out.below K.out.below (Nat.le_refl _)) Hb1.out (by omega) (by omega)).mono ?_
      rintro e w9 ⟨d, rfl, hd, hb3⟩
      have K2 := Lib.hid (K.out.next hb3.out)
      clear K
      have K := K2
      clear K2
      clear hb3
      have bs0 := (K.out.box (w2.heap.size, sd) (by simp)).c0
      have bs1 := (K.out.box (w2.heap.size, sd) (by simp)).c1
      have bs2 := (K.out.box (w2.heap.size, sd) (by simp)).c2
      simp only at bs0 bs1 bs2
      have t1 : True := trivial
      go_wp2_with (have := t1; clear this t1; refine wpList_fop _ rfl .quo _ _ _ _ rfl rfl .f32 _ _ rfl rfl ?_; intro r3 qr3 gr3)
      have hrn := Rn.const (half_rn d (by omega))
      obtain rfl : r3 = halfF (d : Int) := cn_num gr3.out (FinK_not_nan hrn.1)
      clear gr3
      have K2 := Lib.hid (K.out.drewN qr3)
      clear K
      have K := K2
      clear K2
      clear hrn
      obtain ⟨rc0, hrc0⟩ : ∃ r, r = countSeed sd (halfF (d : Int)) := ⟨_, rfl⟩
      obtain ⟨sc, hsc⟩ : ∃ s, s = (rc0.map Prod.fst).getD Sd.zero := ⟨_, rfl⟩
      obtain ⟨okc, hokc⟩ : ∃ b, b = rc0.isSome := ⟨_, rfl⟩
      obtain ⟨xc, hxc⟩ : ∃ y, y = (rc0.map Prod.snd).getD 0 := ⟨_, rfl⟩
      have Hrc0 := Lib.hid hrc0; have Hsc := Lib.hid hsc; have Hokc := Lib.hid hokc; have Hxc := Lib.hid hxc
      clear hrc0 hsc hokc hxc
      clear bs0 bs1 bs2
      refine (implCount_any sd.kind sd.a sd.b (halfF (d : Int)) _ Hsd.out (fop_lt _ _ _)).mono ?_
      intro e w10 hgave
      rw [show (⟨sd.kind, sd.a, sd.b⟩ : Sd) = sd from rfl, ← Hrc0.out] at hgave
      obtain ⟨rfl, hbl⟩ := gaveSNB_use hgave Hsc Hokc Hxc
      clear hgave
      have K2 := Lib.hid ((K.out.next hbl.out).push sc)
      clear K
      have K := K2
      clear K2
      clear hbl
      have bs0 := (K.out.box (w2.heap.size, sd) (by simp)).c0
      have bs1 := (K.out.box (w2.heap.size, sd) (by simp)).c1
      have bs2 := (K.out.box (w2.heap.size, sd) (by simp)).c2
      simp only at bs0 bs1 bs2
      go_wp2_with fail
      clear bs0 bs1 bs2
      refine (specCount_any sd.kind sd.a sd.b (halfF (d : Int)) _ Hsd.out (fop_lt _ _ _)).mono ?_
      intro e w11 hgave
      rw [show (⟨sd.kind, sd.a, sd.b⟩ : Sd) = sd from rfl, ← Hrc0.out] at hgave
      obtain ⟨rfl, hbl⟩ := gaveSNB_use hgave Hsc Hokc Hxc
      clear hgave
      have K2 := Lib.hid ((K.out.next hbl.out).push sc)
      clear K
      have K := K2
      clear K2
      clear hbl
      have bs0 := (K.out.box (w2.heap.size, sd) (by simp)).c0
      have bs1 := (K.out.box (w2.heap.size, sd) (by simp)).c1
      have bs2 := (K.out.box (w2.heap.size, sd) (by simp)).c2
      simp only at bs0 bs1 bs2
      clear bs0 bs1 bs2
      go_wp2_with fail
      refine (b10At_b A1 n1 c1 w1.heap.size xs1 3 40 _ (Hr1.out.below K.out.below (Nat.le_refl _)) Hb1.out (by omega) (by omega)).mono ?_
      rintro e w12 ⟨n, rfl, hn, hb3⟩
      have K2 := Lib.hid (K.out.next hb3.out)
      clear K
      have K := K2
      clear K2
      clear hb3
      go_wp2_with fail
      refine (b10At_b A1 n1 c1 w1.heap.size xs1 4 17 _ (Hr1.out.below K.out.below (Nat.le_refl _)) Hb1.out (by omega) (by omega)).mono ?_
      rintro e w13 ⟨e4, rfl, he4, hb3⟩
      have K2 := Lib.hid (K.out.next hb3.out)
      clear K
      have K := K2
      clear K2
      clear hb3
      have bs0 := (K.out.box (w2.heap.size, sd) (by simp)).c0
      have bs1 := (K.out.box (w2.heap.size, sd) (by simp)).c1
      have bs2 := (K.out.box (w2.heap.size, sd) (by simp)).c2
      simp only at bs0 bs1 bs2
      have t1 : True := trivial
      go_wp2_with (have := t1; clear this t1; refine wpList_fop _ rfl .quo _ _ _ _ rfl rfl .f32 _ _ rfl rfl ?_; intro r4 qr4 gr4)
      have hrn := Rn.const (six_rn e4 (by omega))
      obtain rfl : r4 = sixF (e4 : Int) := cn_num gr4.out (FinK_not_nan hrn.1)
      clear gr4
      have K2 := Lib.hid (K.out.drewN qr4)
      clear K
      have K := K2
      clear K2
      clear hrn
      have hH := hits_some (s := sd) Hvd.out (n := n) (by omega) (six_part e4 (by omega))
      have hA := hits_some (s := sd) Hvd.out (n := n) (by omega) one_part
      rw [hits_all] at hA
      have hbd := hitsN_bd (sixF (e4 : Int)) n sd
      obtain ⟨sn, hsn⟩ : ∃ s, s = nthSd n sd := ⟨_, rfl⟩
      obtain ⟨hx, hhx⟩ : ∃ y, y = hitsN (sixF (e4 : Int)) n sd := ⟨_, rfl⟩
      rw [← hsn, ← hhx] at hH
      rw [← hsn] at hA
      rw [← hhx] at hbd
      have HH := Lib.hid hH; have HA := Lib.hid hA
      have hnf : -9223372036854775808 ≤ (n : Int) ∧ (n : Int) ≤ 9223372036854775807 := by omega
      clear hH hA hsn hhx
      clear bs0 bs1 bs2
      refine (implHits_any sd.kind sd.a sd.b (n : Int) (sixF (e4 : Int)) _ Hsd.out hnf (fop_lt _ _ _)).mono ?_
      intro e w14 hgave
      obtain ⟨rfl, hbl⟩ := gaveSNB_get hgave HH.out
      clear hgave
      have K2 := Lib.hid ((K.out.next hbl.out).push sn)
      clear K
      have K := K2
      clear K2
      clear hbl
      have bs0 := (K.out.box (w2.heap.size, sd) (by simp)).c0
      have bs1 := (K.out.box (w2.heap.size, sd) (by simp)).c1
      have bs2 := (K.out.box (w2.heap.size, sd) (by simp)).c2
      simp only at bs0 bs1 bs2
      go_wp2_with fail
      clear bs0 bs1 bs2
      refine (specHits_any sd.kind sd.a sd.b (n : Int) (sixF (e4 : Int)) _ Hsd.out hnf (fop_lt _ _ _)).mono ?_
      intro e w15 hgave
      obtain ⟨rfl, hbl⟩ := gaveSNB_get hgave HH.out
      clear hgave
      have K2 := Lib.hid ((K.out.next hbl.out).push sn)
      clear K
      have K := K2
      clear K2
      clear hbl
      have bs0 := (K.out.box (w2.heap.size, sd) (by simp)).c0
      have bs1 := (K.out.box (w2.heap.size, sd) (by simp)).c1
      have bs2 := (K.out.box (w2.heap.size, sd) (by simp)).c2
      simp only at bs0 bs1 bs2
      clear bs0 bs1 bs2
      go_wp2_with fail
      refine (b10At_b A1 n1 c1 w1.heap.size xs1 5 16 _ (Hr1.out.below K.out.below (Nat.le_refl _)) Hb1.out (by omega) (by omega)).mono ?_
      rintro e w16 ⟨f5, rfl, hf5, hb3⟩
      have K2 := Lib.hid (K.out.next hb3.out)
      clear K
      have K := K2
      clear K2
      clear hb3
      have bs0 := (K.out.box (w2.heap.size, sd) (by simp)).c0
      have bs1 := (K.out.box (w2.heap.size, sd) (by simp)).c1
      have bs2 := (K.out.box (w2.heap.size, sd) (by simp)).c2
      simp only at bs0 bs1 bs2
      have t1 : True := trivial
      go_wp2_with (have := t1; clear this t1; refine wpList_fop _ rfl .quo _ _ _ _ rfl rfl .f32 _ _ rfl rfl ?_; intro r5 qr5 gr5)
      have hrn := Rn.const (six1_rn f5 (by omega))
      obtain rfl : r5 = sixF (1 + (f5 : Int)) := cn_num gr5.out (FinK_not_nan hrn.1)
      clear gr5
      have K2 := Lib.hid (K.out.drewN qr5)
      clear K
      have K := K2
      clear K2
      clear hrn
      obtain ⟨rf0, hrf0⟩ : ∃ r, r = firstSeed sd (sixF (1 + (f5 : Int))) := ⟨_, rfl⟩
      obtain ⟨sf, hsf⟩ : ∃ s, s = (rf0.map Prod.fst).getD Sd.zero := ⟨_, rfl⟩
      obtain ⟨okf, hokf⟩ : ∃ b, b = rf0.isSome := ⟨_, rfl⟩
      obtain ⟨xf, hxf⟩ : ∃ y, y = (rf0.map Prod.snd).getD 0 := ⟨_, rfl⟩
      have Hrf0 := Lib.hid hrf0; have Hsf := Lib.hid hsf; have Hokf := Lib.hid hokf; have Hxf := Lib.hid hxf
      clear hrf0 hsf hokf hxf
      clear bs0 bs1 bs2
      refine (implFirst_any sd.kind sd.a sd.b (sixF (1 + (f5 : Int))) _ Hsd.out (fop_lt _ _ _)).mono ?_
      intro e w17 hgave
      rw [show (⟨sd.kind, sd.a, sd.b⟩ : Sd) = sd from rfl, ← Hrf0.out] at hgave
      obtain ⟨rfl, hbl⟩ := gaveSNB_use hgave Hsf Hokf Hxf
      clear hgave
      have K2 := Lib.hid ((K.out.next hbl.out).push sf)
      clear K
      have K := K2
      clear K2
      clear hbl
      have bs0 := (K.out.box (w2.heap.size, sd) (by simp)).c0
      have bs1 := (K.out.box (w2.heap.size, sd) (by simp)).c1
      have bs2 := (K.out.box (w2.heap.size, sd) (by simp)).c2
      simp only at bs0 bs1 bs2
      go_wp2_with fail
      clear bs0 bs1 bs2
      refine (specFirst_any sd.kind sd.a sd.b (sixF (1 + (f5 : Int))) _ Hsd.out (fop_lt _ _ _)).mono ?_
      intro e w18 hgave
      rw [show (⟨sd.kind, sd.a, sd.b⟩ : Sd) = sd from rfl, ← Hrf0.out] at hgave
      obtain ⟨rfl, hbl⟩ := gaveSNB_use hgave Hsf Hokf Hxf
      clear hgave
      have K2 := Lib.hid ((K.out.next hbl.out).push sf)
      clear K
      have K := K2
      clear K2
      clear hbl
      have bs0 := (K.out.box (w2.heap.size, sd) (by simp)).c0
      have bs1 := (K.out.box (w2.heap.size, sd) (by simp)).c1
      have bs2 := (K.out.box (w2.heap.size, sd) (by simp)).c2
      simp only at bs0 bs1 bs2
      go_wp2_with fail
      clear bs0 bs1 bs2
      refine (implHits_any sd.kind sd.a sd.b (n : Int) 1065353216 _ Hsd.out hnf (by decide)).mono ?_
      intro e w19 hgave
      obtain ⟨rfl, hbl⟩ := gaveSNB_get hgave HA.out
      clear hgave
      have K2 := Lib.hid ((K.out.next hbl.out).push sn)
      clear K
      have K := K2
      clear K2
      clear hbl
      have bs0 := (K.out.box (w2.heap.size, sd) (by simp)).c0
      have bs1 := (K.out.box (w2.heap.size, sd) (by simp)).c1
      have bs2 := (K.out.box (w2.heap.size, sd) (by simp)).c2
      simp only at bs0 bs1 bs2
      have Fc : Hid (okc = true → 0 ≤ xc) := by
        intro ht
        have h1 : rc0.isSome = true := by rw [← Hokc.out]; exact ht
        obtain ⟨p, hp⟩ := Option.isSome_iff_exists.1 h1
        have h2 : countSeed sd (halfF (d : Int)) = some (p.1, p.2) := by rw [← Hrc0.out, hp]
        have h4 : xc = p.2 := by rw [Hxc.out, hp]; rfl
        rw [h4]
        exact count_nn h2
      have Ff : Hid (okf = true → 0 ≤ xf) := by
        intro ht
        have h1 : rf0.isSome = true := by rw [← Hokf.out]; exact ht
        obtain ⟨p, hp⟩ := Option.isSome_iff_exists.1 h1
        have h2 : firstSeed sd (sixF (1 + (f5 : Int))) = some (p.1, p.2) := by rw [← Hrf0.out, hp]
        have h4 : xf = p.2 := by rw [Hxf.out, hp]; rfl
        rw [h4]
        exact first_nn h2
      clear bs0 bs1 bs2 Hrc0 Hrf0 Hsc Hsf Hokc Hokf Hxc Hxf HH HA Hr0 Hr1 Hb0 Hb1 Hsd Hvd
      have hx1 : (hx == hx) = true := by simp
      have hn1 : ((n : Int) == (n : Int)) = true := by simp
      have hc1 : (xc == xc) = true := by simp
      have hf1 : (xf == xf) = true := by simp
      have h1_0 := (K.out.box (w14.heap.size, sn) (by simp)).c0
      have h1_1 := (K.out.box (w14.heap.size, sn) (by simp)).c1
      have h1_2 := (K.out.box (w14.heap.size, sn) (by simp)).c2
      simp only at h1_0 h1_1 h1_2
      have h2_0 := (K.out.box (w15.heap.size, sn) (by simp)).c0
      have h2_1 := (K.out.box (w15.heap.size, sn) (by simp)).c1
      have h2_2 := (K.out.box (w15.heap.size, sn) (by simp)).c2
      simp only at h2_0 h2_1 h2_2
      have a1_0 := (K.out.box (w19.heap.size, sn) (by simp)).c0
      have a1_1 := (K.out.box (w19.heap.size, sn) (by simp)).c1
      have a1_2 := (K.out.box (w19.heap.size, sn) (by simp)).c2
      simp only at a1_0 a1_1 a1_2
      have nsn0 : (sn.kind == sn.kind) = true := by simp
      have nsn1 : (sn.a == sn.a) = true := by simp
      have nsn2 : (sn.b == sn.b) = true := by simp
      go_upto_region 23 with fail
      simp only [List.append_eq, List.cons_append, List.nil_append]
      cases okc
      · have z1 : True := trivial
        cases okf
        · have z2 : True := trivial
          go_wp2
          go_ret
          exact ⟨rfl, K.out.below⟩
        · have z2 : True := trivial
          have f1_0 := (K.out.box (w17.heap.size, sf) (by simp)).c0
          have f1_1 := (K.out.box (w17.heap.size, sf) (by simp)).c1
          have f1_2 := (K.out.box (w17.heap.size, sf) (by simp)).c2
          simp only at f1_0 f1_1 f1_2
          have f2_0 := (K.out.box (w18.heap.size, sf) (by simp)).c0
          have f2_1 := (K.out.box (w18.heap.size, sf) (by simp)).c1
          have f2_2 := (K.out.box (w18.heap.size, sf) (by simp)).c2
          simp only at f2_0 f2_1 f2_2
          have nsf0 : (sf.kind == sf.kind) = true := by simp
          have nsf1 : (sf.a == sf.a) = true := by simp
          have nsf2 : (sf.b == sf.b) = true := by simp
          have ff := Ff.out rfl
          go_wp2
          go_ret
          exact ⟨rfl, K.out.below⟩
      · have z1 : True := trivial
        have k1_0 := (K.out.box (w10.heap.size, sc) (by simp)).c0
        have k1_1 := (K.out.box (w10.heap.size, sc) (by simp)).c1
        have k1_2 := (K.out.box (w10.heap.size, sc) (by simp)).c2
        simp only at k1_0 k1_1 k1_2
        have k2_0 := (K.out.box (w11.heap.size, sc) (by simp)).c0
        have k2_1 := (K.out.box (w11.heap.size, sc) (by simp)).c1
        have k2_2 := (K.out.box (w11.heap.size, sc) (by simp)).c2
        simp only at k2_0 k2_1 k2_2
        have nsc0 : (sc.kind == sc.kind) = true := by simp
        have nsc1 : (sc.a == sc.a) = true := by simp
        have nsc2 : (sc.b == sc.b) = true := by simp
        have fc := Fc.out rfl
        cases okf
        · have z2 : True := trivial
          go_wp2
          go_ret
          exact ⟨rfl, K.out.below⟩
        · have z2 : True := trivial
          have f1_0 := (K.out.box (w17.heap.size, sf) (by simp)).c0
          have f1_1 := (K.out.box (w17.heap.size, sf) (by simp)).c1
          have f1_2 := (K.out.box (w17.heap.size, sf) (by simp)).c2
          simp only at f1_0 f1_1 f1_2
          have f2_0 := (K.out.box (w18.heap.size, sf) (by simp)).c0
          have f2_1 := (K.out.box (w18.heap.size, sf) (by simp)).c1
          have f2_2 := (K.out.box (w18.heap.size, sf) (by simp)).c2
          simp only at f2_0 f2_1 f2_2
          have nsf0 : (sf.kind == sf.kind) = true := by simp
          have nsf1 : (sf.a == sf.a) = true := by simp
          have nsf2 : (sf.b == sf.b) = true := by simp
          have ff := Ff.out rfl
          go_wp2
          go_ret
          exact ⟨rfl, K.out.below⟩
end Go.Proofs.Ytgbehnkccgahoaa
