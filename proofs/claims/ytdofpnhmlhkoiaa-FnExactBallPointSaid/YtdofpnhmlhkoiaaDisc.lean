/- Points of the disc: two draws again and again. -/
import Derived.Test.YtdofpnhmlhkoiaaBetween
namespace Go.Proofs.Ytdofpnhmlhkoiaa
open Go.RowKit
def discU (x : Nat) : Nat := fop .sub .f32 (fop .mul .f32 1073741824 x) 1065353216
def discQ (u v : Nat) : Nat := fop .add .f32 (fop .mul .f32 u u) (fop .mul .f32 v v)
def discFrom : Nat → Sd → Option (Sd × Nat × Nat × Nat)
  | 0, _ => none
  | k + 1, s =>
    if flt .f32 (discQ (discU (shareOf s)) (discU (shareOf (nextSd s)))) 1065353216 then some (nextSd (nextSd s), discU (shareOf s), discU (shareOf (nextSd s)), discQ (discU (shareOf s)) (discU (shareOf (nextSd s))))
    else discFrom k (nextSd (nextSd s))
def discP (s : Sd) : Option (Sd × Nat × Nat × Nat) := if validB s then discFrom 64 s else none
def discSeed (s : Sd) : Option (Sd × Nat × Nat) := (discP s).map fun r => (r.1, r.2.1, r.2.2.1)
theorem discFrom_yes {k : Nat} {s : Sd} (h : flt .f32 (discQ (discU (shareOf s)) (discU (shareOf (nextSd s)))) 1065353216 = true) : discFrom (k + 1) s = some (nextSd (nextSd s), discU (shareOf s), discU (shareOf (nextSd s)), discQ (discU (shareOf s)) (discU (shareOf (nextSd s)))) := by
  rw [discFrom, if_pos h]
theorem discFrom_no {k : Nat} {s : Sd} (h : flt .f32 (discQ (discU (shareOf s)) (discU (shareOf (nextSd s)))) 1065353216 = false) : discFrom (k + 1) s = discFrom k (nextSd (nextSd s)) := by
  rw [discFrom, if_neg (by rw [h]; decide)]
theorem cn_discU {x r1 r2 : Nat} {u : Nat} (hx : cn .f32 x = u) (h1 : cn .f32 r1 = fop .mul .f32 1073741824 x) (h2 : cn .f32 r2 = fop .sub .f32 r1 1065353216) : cn .f32 r2 = discU u := by
  rw [h2, fop_l h1, fop_r hx]; rfl
theorem cn_discQ {x y r1 r2 r3 u v : Nat} (hx : cn .f32 x = u) (hy : cn .f32 y = v) (h1 : cn .f32 r1 = fop .mul .f32 x x) (h2 : cn .f32 r2 = fop .mul .f32 y y) (h3 : cn .f32 r3 = fop .add .f32 r1 r2) : cn .f32 r3 = discQ u v := by
  rw [h3, fop_l h1, fop_r h2, fop_l hx, fop_r hx, fop_l hy, fop_r hy]; rfl
theorem results_s5 {fn : Func} {t u v x y : Tmp} {w : World} {g : Nat} {s : Sd} (h : fn.results = #[.cell t 26, .tmp u, .tmp v, .tmp x, .tmp y]) (tmps : Array Value) (hp : tmps.getD t undef = .pointer (some ⟨g, 0, none⟩)) (hs : SeedAt w g s) :
    (results fn tmps).run Try.prog w = .ok (.tuple #[s.val, tmps.getD u undef, tmps.getD v undef, tmps.getD x undef, tmps.getD y undef]) w := by
  have hp' := hp
  simp only [Array.getD_eq_getD_getElem?] at hp'
  simp [results, h, hp', asAddr, run_loadSeed hs]
theorem results_f4 {fn : Func} {t u v x : Tmp} (h : fn.results = #[.tmp t, .tmp u, .tmp v, .tmp x]) (tmps : Array Value) (P : Program) (w : World) :
    (results fn tmps).run P w = .ok (.tuple #[tmps.getD t undef, tmps.getD u undef, tmps.getD v undef, tmps.getD x undef]) w := by
  simp [results, h]
/-- What has come of the draws. -/
def DiscGave (r : Option (Sd × Nat × Nat × Nat)) (t : Sd) (x y z : Nat) (ok : Bool) : Prop :=
  (r = none ∧ ok = false ∧ t = Sd.zero ∧ x = 0 ∧ y = 0 ∧ z = 0) ∨ (r = some (t, cn .f32 x, cn .f32 y, cn .f32 z) ∧ ok = true)
set_option maxHeartbeats 1000000 in
theorem implDiscP_any (s : Sd) (w : World) (hs : s.ok) : Calls Try.prog 49 #[s.val] w fun e w' => ∃ (t : Sd) (x y z : Nat) (ok : Bool), e = .returned (.tuple #[t.val, .float .f32 x, .float .f32 y, .float .f32 z, .bool ok]) ∧ Hid (DiscGave (discP s) t x y z ok) ∧ Below w.heap.size w w' := by
  obtain ⟨k0, a0, b0⟩ := s
  unfold Sd.val
  have hz0 : ((w.alloc (.cells #[.int .i64 k0, .int .u64 a0, .int .u64 b0] 26)).alloc (.cells #[.int .i64 0, .int .u64 0, .int .u64 0] 26)).heap.size = w.heap.size + 2 := by rw [size_alloc', size_alloc']
  go_enter Try.func49, Try.ntmps49
  go_wp2_with fail
  refine (implValid_any ⟨k0, a0, b0⟩ _ hs).mono ?_
  rintro e w1 ⟨rfl, hb1⟩
  rw [hz0] at hb1
  have hBl : Below w.heap.size w w1 := (((Below.refl _ _).alloc (Nat.le_refl _) _).alloc (by rw [size_alloc']; omega) _).trans (hb1.mono (by omega))
  have hg : SeedAt w1 w.heap.size ⟨k0, a0, b0⟩ := ((SeedAt.new w k0 a0 b0).alloc _).below hb1 (by omega)
  have hz : SeedAt w1 (w.heap.size + 1) ⟨0, 0, 0⟩ := (SeedAt.new1 w _ 0 0 0).below hb1 (by omega)
  clear hz0 hb1
  obtain ⟨s, hsd⟩ : ∃ s : Sd, s = ⟨k0, a0, b0⟩ := ⟨_, rfl⟩
  rw [← hsd] at hs hg ⊢
  have HB := Lib.hid hBl; have Hz := Lib.hid hz; have Hg := Lib.hid hg; have Hk : Hid s.ok := hs
  have Hs0 : Hid ((⟨k0, a0, b0⟩ : Sd) = s) := hsd.symm
  clear hBl hz hg hs hsd
  cases hv : validB s with
  | false =>
    have Hn : Hid (discP ⟨k0, a0, b0⟩ = none) := by show _ = _; rw [Hs0.out]; simp [discP, hv]
    have u0 := Hz.out.c0
    have u1 := Hz.out.c1
    have u2 := Hz.out.c2
    have v0 := Hz.out.fz 0
    have v1 := Hz.out.fz 1
    have v2 := Hz.out.fz 2
    go_wp2
    (try simp only [Exit.inBlock, Exit.then])
    refine bodyPost_ret (results_s5 (s := ⟨0, 0, 0⟩) (g := w.heap.size + 1) rfl _ rfl (by exact Hz.out.set3 0 0 0)) rfl ?_
    exact ⟨Sd.zero, 0, 0, 0, false, rfl, .inl ⟨Hn.out, rfl, rfl, rfl, rfl, rfl⟩, below_set3 HB.out (by omega) _ _ _⟩
  | true =>
    have Hr : Hid (discP ⟨k0, a0, b0⟩ = discFrom 64 s) := by show _ = _; rw [Hs0.out]; simp [discP, hv]
    clear hv
    go_wp2
    go_loopw [14] (fun i wr => ∃ (k : Nat) (s' : Sd), k ≤ 64 ∧ i = .int .i64 k ∧ Hid (discFrom 64 s = discFrom (64 - k) s') ∧ s'.ok ∧ SeedAt wr w.heap.size s' ∧ SeedAt wr (w.heap.size + 1) Sd.zero ∧ Below w.heap.size w wr) (fun i _ => 64 - (intOf i).toNat)
    case atStart => exact ⟨0, s, by omega, rfl, rfl, Hk.out, Hg.out, Hz.out, HB.out⟩
    case round =>
      obtain ⟨k, s', hk, rfl, hdf, hs', hg', hz', hbel⟩ := hrel
      have HB' := Lib.hid hbel; have Hz' := Lib.hid hz'; have Hk' := Lib.hid hs'
      clear hbel hz' hs'
      by_cases hlt : k < 64
      · have c0 := hg'.c0
        have c1 := hg'.c1
        have c2 := hg'.c2
        have hlt' : (k : Int) < 64 := by omega
        go_wp2_with fail
        refine (implShare_any s' _ Hk'.out).mono ?_
        rintro e w2 ⟨u, rfl, hu, hb2⟩
        have hg2 := hg'.below hb2 hg'.lt
        have Hz2 := Lib.hid (Hz'.out.below hb2 Hz'.out.lt)
        have HB2 := Lib.hid (HB'.out.trans (hb2.mono HB'.out.size))
        clear hb2 hg' c0 c1 c2
        obtain ⟨t, ht⟩ : ∃ t, t = nextSd s' := ⟨_, rfl⟩
        rw [← ht]
        have hto : t.ok := by rw [ht]; exact nextSd_ok Hk'.out
        have Ht := Lib.hid ht
        clear ht
        obtain ⟨k1, a1, b1⟩ := t
        have Hto := Lib.hid hto
        clear hto
        unfold Sd.val
        have f0 := hg2.fz 0
        have f1 := hg2.fz 1
        have f2 := hg2.fz 2
        have x0 := hg2.c0
        have x1 := hg2.c1
        have x2 := hg2.c2
        have hg3 := hg2.set3 k1 a1 b1
        have Hz3 := Lib.hid (Hz2.out.far3 (g' := w.heap.size) (by omega) k1 a1 b1)
        have HB3 := Lib.hid (below_set3 HB2.out (Nat.le_refl _) k1 a1 b1)
        have y0 := hg3.c0
        have y1 := hg3.c1
        have y2 := hg3.c2
        simp only at y0 y1 y2
        go_wp2_with fail
        refine (implShare_any ⟨k1, a1, b1⟩ _ Hto.out).mono ?_
        rintro e w4 ⟨v, rfl, hv, hb4⟩
        have hg4 := hg3.below hb4 hg3.lt
        have Hz4 := Lib.hid (Hz3.out.below hb4 Hz3.out.lt)
        have HB4 := Lib.hid (HB3.out.trans (hb4.mono HB3.out.size))
        clear hb4 hg3 hg2 x0 x1 x2 y0 y1 y2 f0 f1 f2
        obtain ⟨t, ht⟩ : ∃ t, t = nextSd ⟨k1, a1, b1⟩ := ⟨_, rfl⟩
        rw [← ht]
        have hto : t.ok := by rw [ht]; exact nextSd_ok Hto.out
        have Ht2 := Lib.hid ht
        clear ht
        obtain ⟨k2, a2, b2⟩ := t
        have Hto2 := Lib.hid hto
        clear hto
        unfold Sd.val
        have f0 := hg4.fz 0
        have f1 := hg4.fz 1
        have f2 := hg4.fz 2
        have x0 := hg4.c0
        have x1 := hg4.c1
        have x2 := hg4.c2
        have Hg5 := Lib.hid (hg4.set3 k2 a2 b2)
        have Hz5 := Lib.hid (Hz4.out.far3 (g' := w.heap.size) (by omega) k2 a2 b2)
        have HB5 := Lib.hid (below_set3 HB4.out (Nat.le_refl _) k2 a2 b2)
        have y0 := Hg5.out.c0
        have y1 := Hg5.out.c1
        have y2 := Hg5.out.c2
        simp only at y0 y1 y2
        have u0 := Hz5.out.c0
        have u1 := Hz5.out.c1
        have u2 := Hz5.out.c2
        have v0 := Hz5.out.fz 0
        have v1 := Hz5.out.fz 1
        have v2 := Hz5.out.fz 2
        have t1 : True := trivial
        have t2 : True := trivial
        have t3 : True := trivial
        have t4 : True := trivial
        have t5 : True := trivial
        have t6 : True := trivial
        have t7 : True := trivial
        go_wp2_with (first
          | (have := t1; clear this t1; refine wpList_fop _ rfl .mul _ _ _ _ rfl rfl .f32 _ _ rfl rfl ?_; intro r1 q1 h1)
          | (have := t2; clear this t2; refine wpList_fop _ rfl .sub _ _ _ _ rfl rfl .f32 _ _ rfl rfl ?_; intro r2 q2 h2)
          | (have := t3; clear this t3; refine wpList_fop _ rfl .mul _ _ _ _ rfl rfl .f32 _ _ rfl rfl ?_; intro r3 q3 h3)
          | (have := t4; clear this t4; refine wpList_fop _ rfl .sub _ _ _ _ rfl rfl .f32 _ _ rfl rfl ?_; intro r4 q4 h4)
          | (have := t5; clear this t5; refine wpList_fop _ rfl .mul _ _ _ _ rfl rfl .f32 _ _ rfl rfl ?_; intro r5 q5 h5)
          | (have := t6; clear this t6; refine wpList_fop _ rfl .mul _ _ _ _ rfl rfl .f32 _ _ rfl rfl ?_; intro r6 q6 h6)
          | (have := t7; clear this t7; refine wpList_fop _ rfl .add _ _ _ _ rfl rfl .f32 _ _ rfl rfl ?_; intro r7 q7 h7))
        · have hc : (FloatKind.f32.format.order r7 1065353216 == some Ordering.lt) = true := by assumption
          have hu2 := cn_discU hu.out h1.out h2.out
          have hv2 := cn_discU hv.out h3.out h4.out
          have hq7 := cn_discQ hu2 hv2 h5.out h6.out h7.out
          have hd : Hid (discFrom 64 s = some (⟨k2, a2, b2⟩, cn .f32 r2, cn .f32 r4, cn .f32 r7)) := by
            show _ = _
            have e : 64 - k = (63 - k) + 1 := by omega
            rw [order_l hq7, Ht.out] at hc
            rw [hu2, hv2, hq7, Ht2.out, Ht.out, hdf.out, e, discFrom_yes hc]
          clear hc hu2 hv2 hq7
          (try simp only [Exit.inBlock, Exit.then])
          refine bodyPost_ret (results_s5 (s := ⟨k2, a2, b2⟩) (g := w.heap.size + 1) rfl _ rfl (by exact (Hz5.out.drewN (q1 + q2 + q3 + q4 + q5 + q6 + q7)).set3 k2 a2 b2)) rfl ?_
          exact ⟨⟨k2, a2, b2⟩, r2, r4, r7, true, rfl, .inr ⟨by rw [Hr.out]; exact hd.out, rfl⟩, below_set3 (below_drewN HB5.out _) (by omega) _ _ _⟩
        · have hc : (FloatKind.f32.format.order r7 1065353216 == some Ordering.lt) = false := by assumption
          have hu2 := cn_discU hu.out h1.out h2.out
          have hv2 := cn_discU hv.out h3.out h4.out
          have hq7 := cn_discQ hu2 hv2 h5.out h6.out h7.out
          have hd : Hid (discFrom 64 s = discFrom (64 - (k + 1)) ⟨k2, a2, b2⟩) := by
            show _ = _
            have e : 64 - k = (64 - (k + 1)) + 1 := by omega
            rw [order_l hq7, Ht.out] at hc
            rw [Ht2.out, Ht.out, hdf.out, e, discFrom_no hc]
          clear hc hu2 hv2 hq7
          first
            | (go_round; exact ⟨⟨k + 1, ⟨k2, a2, b2⟩, by omega, by go_num, hd, Hto2.out, Hg5.out.drewN _, Hz5.out.drewN _, below_drewN HB5.out _⟩, by simp only [intOf]; omega⟩)
            | exact ⟨⟨k + 1, ⟨k2, a2, b2⟩, by omega, by go_num, hd, Hto2.out, Hg5.out.drewN _, Hz5.out.drewN _, below_drewN HB5.out _⟩, by simp only [intOf]; omega⟩
      · obtain rfl : k = 64 := by omega
        have u0 := Hz'.out.c0
        have u1 := Hz'.out.c1
        have u2 := Hz'.out.c2
        have v0 := Hz'.out.fz 0
        have v1 := Hz'.out.fz 1
        have v2 := Hz'.out.fz 2
        go_wp2
        (try simp only [Exit.inBlock, Exit.then])
        refine bodyPost_ret (results_s5 (s := ⟨0, 0, 0⟩) (g := w.heap.size + 1) rfl _ rfl (by exact Hz'.out.set3 0 0 0)) rfl ?_
        exact ⟨Sd.zero, 0, 0, 0, false, rfl, .inl ⟨by rw [Hr.out, hdf.out]; rfl, rfl, rfl, rfl, rfl, rfl⟩, below_set3 HB'.out (by omega) _ _ _⟩
set_option maxHeartbeats 1000000 in
theorem specDiscP_any (s : Sd) (g : Nat) (w : World) (hs : s.ok) (hg : SeedAt w g s) :
    Calls Try.prog 47 #[.pointer (some ⟨g, 0, none⟩)] w fun e w' => ∃ (t : Sd) (x y z : Nat) (ok : Bool), e = .returned (.tuple #[.float .f32 x, .float .f32 y, .float .f32 z, .bool ok]) ∧ Hid ((discFrom 64 s = none ∧ ok = false) ∨ (discFrom 64 s = some (t, cn .f32 x, cn .f32 y, cn .f32 z) ∧ ok = true)) ∧ SeedAt w' g t ∧ w.grownBy w' (some g) := by
  have Hg := Lib.hid hg; have Hk : Hid s.ok := hs
  clear hg hs
  go_enter Try.func47, Try.ntmps47
  go_wp2
  go_loopw [6] (fun i wr => ∃ (k : Nat) (s' : Sd), k ≤ 64 ∧ i = .int .i64 k ∧ Hid (discFrom 64 s = discFrom (64 - k) s') ∧ s'.ok ∧ SeedAt wr g s' ∧ w.grownBy wr (some g)) (fun i _ => 64 - (intOf i).toNat)
  case atStart => exact ⟨0, s, by omega, rfl, rfl, Hk.out, Hg.out, grown_rfl' _ _⟩
  case round =>
    obtain ⟨k, s', hk, rfl, hdf, hs', hg', hgr⟩ := hrel
    have HG := Lib.hid hgr; have Hk' := Lib.hid hs'
    clear hgr hs'
    by_cases hlt : k < 64
    · have hlt' : (k : Int) < 64 := by omega
      go_wp2_with fail
      refine (specShare_any s' g _ Hk'.out hg').mono ?_
      rintro e w2 ⟨u, rfl, hu, hg2, hgr2⟩
      have HG2 := Lib.hid (grown_trans HG.out hgr2)
      have Hk2 := Lib.hid (nextSd_ok Hk'.out)
      clear hgr2 hg'
      have t1 : True := trivial
      have t2 : True := trivial
      go_wp2_with (first
        | (have := t1; clear this t1; refine wpList_fop _ rfl .mul _ _ _ _ rfl rfl .f32 _ _ rfl rfl ?_; intro r1 q1 h1)
        | (have := t2; clear this t2; refine wpList_fop _ rfl .sub _ _ _ _ rfl rfl .f32 _ _ rfl rfl ?_; intro r2 q2 h2))
      refine (specShare_any (nextSd s') g _ Hk2.out (hg2.drewN (q1 + q2))).mono ?_
      rintro e w3 ⟨v, rfl, hv, hg3, hgr3⟩
      have HG3 := Lib.hid (grown_trans (grown_mk_drewN HG2.out (q1 + q2)) hgr3)
      have Hk3 := Lib.hid (nextSd_ok Hk2.out)
      have Hg3 := Lib.hid hg3
      clear hgr3 hg2 hg3
      have t3 : True := trivial
      have t4 : True := trivial
      have t5 : True := trivial
      have t6 : True := trivial
      have t7 : True := trivial
      go_wp2_with (first
        | (have := t3; clear this t3; refine wpList_fop _ rfl .mul _ _ _ _ rfl rfl .f32 _ _ rfl rfl ?_; intro r3 q3 h3)
        | (have := t4; clear this t4; refine wpList_fop _ rfl .sub _ _ _ _ rfl rfl .f32 _ _ rfl rfl ?_; intro r4 q4 h4)
        | (have := t5; clear this t5; refine wpList_fop _ rfl .mul _ _ _ _ rfl rfl .f32 _ _ rfl rfl ?_; intro r5 q5 h5)
        | (have := t6; clear this t6; refine wpList_fop _ rfl .mul _ _ _ _ rfl rfl .f32 _ _ rfl rfl ?_; intro r6 q6 h6)
        | (have := t7; clear this t7; refine wpList_fop _ rfl .add _ _ _ _ rfl rfl .f32 _ _ rfl rfl ?_; intro r7 q7 h7))
      · have hc : (FloatKind.f32.format.order r7 1065353216 == some Ordering.lt) = true := by assumption
        have hu2 := cn_discU hu.out h1.out h2.out
        have hv2 := cn_discU hv.out h3.out h4.out
        have hq7 := cn_discQ hu2 hv2 h5.out h6.out h7.out
        have hd : Hid (discFrom 64 s = some (nextSd (nextSd s'), cn .f32 r2, cn .f32 r4, cn .f32 r7)) := by
          show _ = _
          have e : 64 - k = (63 - k) + 1 := by omega
          rw [order_l hq7] at hc
          rw [hu2, hv2, hq7, hdf.out, e, discFrom_yes hc]
        clear hc hu2 hv2 hq7
        (try simp only [Exit.inBlock, Exit.then])
        refine bodyPost_ret (results_f4 rfl _ _ _) rfl ?_
        exact ⟨nextSd (nextSd s'), r2, r4, r7, true, rfl, .inr ⟨hd.out, rfl⟩, Hg3.out.drewN _, grown_mk_drewN HG3.out _⟩
      · have hc : (FloatKind.f32.format.order r7 1065353216 == some Ordering.lt) = false := by assumption
        have hu2 := cn_discU hu.out h1.out h2.out
        have hv2 := cn_discU hv.out h3.out h4.out
        have hq7 := cn_discQ hu2 hv2 h5.out h6.out h7.out
        have hd : Hid (discFrom 64 s = discFrom (64 - (k + 1)) (nextSd (nextSd s'))) := by
          show _ = _
          have e : 64 - k = (64 - (k + 1)) + 1 := by omega
          rw [order_l hq7] at hc
          rw [hdf.out, e, discFrom_no hc]
        clear hc hu2 hv2 hq7
        exact ⟨⟨k + 1, nextSd (nextSd s'), by omega, by go_num, hd, Hk3.out, Hg3.out.drewN _, grown_mk_drewN HG3.out _⟩, by simp only [intOf]; omega⟩
    · obtain rfl : k = 64 := by omega
      go_wp2
      (try simp only [Exit.inBlock, Exit.then])
      refine bodyPost_ret (results_f4 rfl _ _ _) rfl ?_
      exact ⟨s', 0, 0, 0, false, rfl, .inl ⟨hdf.out, rfl⟩, hg', HG.out⟩
end Go.Proofs.Ytdofpnhmlhkoiaa
