/- BellQuotient: a number of a bell by quotients. -/
import Derived.Test.YtomepdbpemgcfaaWait
import Derived.Test.YtomepdbpemgcfaaDisc
namespace Go.Proofs.Ytomepdbpemgcfaa
open Go.RowKit Mag
attribute [local go_sem] run_negF
def bellX (s : Sd) : Nat := fop .quo .f32 (fop .mul .f32 1071355498 (fop .sub .f32 (shareOf (nextSd s)) 1056964608)) (leftOf s)
def bellOk (s : Sd) : Bool := fle .f32 (fop .mul .f32 (bellX s) (bellX s)) (fop .mul .f32 3229614080 (logF (leftOf s)))
def bellFrom : Nat → Sd → Option (Sd × Nat)
  | 0, _ => none
  | k + 1, s => if bellOk s then (if finB (bellX s) then some (nextSd (nextSd s), bellX s) else none) else bellFrom k (nextSd (nextSd s))
def bellSeed (s : Sd) : Option (Sd × Nat) := if validB s then bellFrom 64 s else none
theorem bellFrom_yes {k : Nat} {s : Sd} (h : bellOk s = true) : bellFrom (k + 1) s = if finB (bellX s) then some (nextSd (nextSd s), bellX s) else none := by rw [bellFrom, if_pos h]
theorem bellFrom_no {k : Nat} {s : Sd} (h : bellOk s = false) : bellFrom (k + 1) s = bellFrom k (nextSd (nextSd s)) := by rw [bellFrom, if_neg (by rw [h]; decide)]
set_option maxHeartbeats 2000000 in
theorem implBell_any : FnS_SFB 18 bellSeed := by
  intro k0 a0 b0 w hs
  have hz0 : ((w.alloc (.cells #[.int .i64 k0, .int .u64 a0, .int .u64 b0] 26)).alloc (.cells #[.int .i64 0, .int .u64 0, .int .u64 0] 26)).heap.size = w.heap.size + 2 := by rw [size_alloc', size_alloc']
  go_enter Try.func18, Try.ntmps18
  go_wp2_with fail
  refine (implValid_any ⟨k0, a0, b0⟩ _ hs).mono ?_
  rintro e w1 ⟨rfl, hb1⟩
  rw [hz0] at hb1
  have hBl : Below w.heap.size w w1 := (((Below.refl _ _).alloc (Nat.le_refl _) _).alloc (by rw [size_alloc']; omega) _).trans (hb1.mono (by omega))
  have hg : SeedAt w1 w.heap.size ⟨k0, a0, b0⟩ := ((SeedAt.new w k0 a0 b0).alloc _).below hb1 (by omega)
  have hz : SeedAt w1 (w.heap.size + 1) ⟨0, 0, 0⟩ := (SeedAt.new1 w _ 0 0 0).below hb1 (by omega)
  clear hz0 hb1
  obtain ⟨s, hsd⟩ : ∃ s : Sd, s = ⟨k0, a0, b0⟩ := ⟨_, rfl⟩
  rw [← hsd] at hs hg ⊢
  have HB := Lib.hid hBl; have Hz := Lib.hid hz; have Hg := Lib.hid hg; have Hk : Hid s.ok := hs
  have Hs0 : Hid ((⟨k0, a0, b0⟩ : Sd) = s) := hsd.symm
  clear hBl hz hg hs hsd
  cases hv : validB s with
  | false =>
    have Hn : Hid (bellSeed ⟨k0, a0, b0⟩ = none) := by show _ = _; rw [Hs0.out]; simp [bellSeed, hv]
    have u0 := Hz.out.c0
    have u1 := Hz.out.c1
    have u2 := Hz.out.c2
    have v0 := Hz.out.fz 0
    have v1 := Hz.out.fz 1
    have v2 := Hz.out.fz 2
    go_wp2
    (try simp only [Exit.inBlock, Exit.then])
    refine bodyPost_ret (results_s3 (s := ⟨0, 0, 0⟩) (g := w.heap.size + 1) rfl _ rfl (by exact Hz.out.set3 0 0 0)) rfl ?_
    exact gaveSFB_none Hn.out (below_set3 HB.out (by omega) _ _ _)
  | true =>
    have Hr : Hid (bellSeed ⟨k0, a0, b0⟩ = bellFrom 64 s) := by show _ = _; rw [Hs0.out]; simp [bellSeed, hv]
    clear hv
    go_wp2
    go_loopw [13] (fun i wr => ∃ (k : Nat) (s' : Sd), k ≤ 64 ∧ i = .int .i64 k ∧ Hid (bellFrom 64 s = bellFrom (64 - k) s') ∧ s'.ok ∧ SeedAt wr w.heap.size s' ∧ SeedAt wr (w.heap.size + 1) Sd.zero ∧ Below w.heap.size w wr) (fun i _ => 64 - (intOf i).toNat)
    case atStart => exact ⟨0, s, by omega, rfl, rfl, Hk.out, Hg.out, Hz.out, HB.out⟩
    case round =>
      obtain ⟨k, s', hk, rfl, hdf, hs', hg', hz', hbel⟩ := hrel
      have HB' := Lib.hid hbel; have Hz' := Lib.hid hz'; have Hk' := Lib.hid hs'
      clear hbel hz' hs'
      by_cases hlt : k < 64
      · have c0 := hg'.c0
        have c1 := hg'.c1
        have c2 := hg'.c2
        have hlt' : (k : Int) < 64 := by omega
        go_wp2_with fail
        refine (implShare_any s' _ Hk'.out).mono ?_
        rintro e w2 ⟨u, rfl, hu, hb2⟩
        have hg2 := hg'.below hb2 hg'.lt
        have Hz2 := Lib.hid (Hz'.out.below hb2 Hz'.out.lt)
        have HB2 := Lib.hid (HB'.out.trans (hb2.mono HB'.out.size))
        clear hb2 hg' c0 c1 c2
        obtain ⟨t, ht⟩ : ∃ t, t = nextSd s' := ⟨_, rfl⟩
        rw [← ht]
        have hto : t.ok := by rw [ht]; exact nextSd_ok Hk'.out
        have Ht := Lib.hid ht
        clear ht
        obtain ⟨k1, a1, b1⟩ := t
        have Hto := Lib.hid hto
        clear hto
        unfold Sd.val
        have f0 := hg2.fz 0
        have f1 := hg2.fz 1
        have f2 := hg2.fz 2
        have x0 := hg2.c0
        have x1 := hg2.c1
        have x2 := hg2.c2
        have hg3 := hg2.set3 k1 a1 b1
        have Hz3 := Lib.hid (Hz2.out.far3 (g' := w.heap.size) (by omega) k1 a1 b1)
        have HB3 := Lib.hid (below_set3 HB2.out (Nat.le_refl _) k1 a1 b1)
        have y0 := hg3.c0
        have y1 := hg3.c1
        have y2 := hg3.c2
        simp only at y0 y1 y2
        go_wp2_with fail
        refine (implShare_any ⟨k1, a1, b1⟩ _ Hto.out).mono ?_
        rintro e w4 ⟨v, rfl, hv, hb4⟩
        have hg4 := hg3.below hb4 hg3.lt
        have Hz4 := Lib.hid (Hz3.out.below hb4 Hz3.out.lt)
        have HB4 := Lib.hid (HB3.out.trans (hb4.mono HB3.out.size))
        clear hb4 hg3 hg2 x0 x1 x2 y0 y1 y2 f0 f1 f2
        obtain ⟨t, ht⟩ : ∃ t, t = nextSd ⟨k1, a1, b1⟩ := ⟨_, rfl⟩
        rw [← ht]
        have hto : t.ok := by rw [ht]; exact nextSd_ok Hto.out
        have Ht2 := Lib.hid ht
        clear ht
        obtain ⟨k2, a2, b2⟩ := t
        have Hto2 := Lib.hid hto
        clear hto
        unfold Sd.val
        have f0 := hg4.fz 0
        have f1 := hg4.fz 1
        have f2 := hg4.fz 2
        have x0 := hg4.c0
        have x1 := hg4.c1
        have x2 := hg4.c2
        have Hg5 := Lib.hid (hg4.set3 k2 a2 b2)
        have Hz5 := Lib.hid (Hz4.out.far3 (g' := w.heap.size) (by omega) k2 a2 b2)
        have HB5 := Lib.hid (below_set3 HB4.out (Nat.le_refl _) k2 a2 b2)
        have y0 := Hg5.out.c0
        have y1 := Hg5.out.c1
        have y2 := Hg5.out.c2
        simp only at y0 y1 y2
        have u0 := Hz5.out.c0
        have u1 := Hz5.out.c1
        have u2 := Hz5.out.c2
        have v0 := Hz5.out.fz 0
        have v1 := Hz5.out.fz 1
        have v2 := Hz5.out.fz 2
        have t1 : True := trivial
        have t2 : True := trivial
        have t3 : True := trivial
        have t4 : True := trivial
        have t5 : True := trivial
        go_wp2_with (first
          | (have := t1; clear this t1; refine wpList_fop _ rfl .sub _ _ _ _ rfl rfl .f32 _ _ rfl rfl ?_; intro r1 q1 h1)
          | (have := t2; clear this t2; refine wpList_fop _ rfl .sub _ _ _ _ rfl rfl .f32 _ _ rfl rfl ?_; intro r2 q2 h2)
          | (have := t3; clear this t3; refine wpList_fop _ rfl .mul _ _ _ _ rfl rfl .f32 _ _ rfl rfl ?_; intro r3 q3 h3)
          | (have := t4; clear this t4; refine wpList_fop _ rfl .quo _ _ _ _ rfl rfl .f32 _ _ rfl rfl ?_; intro r4 q4 h4)
          | (have := t5; clear this t5; refine wpList_fop _ rfl .mul _ _ _ _ rfl rfl .f32 _ _ rfl rfl ?_; intro r5 q5 h5))
        have ha : cn .f32 r1 = leftOf s' := by rw [h1.out, fop_r hu.out]; rfl
        have hx : Hid (cn .f32 r4 = bellX s') := by
          show _ = _
          rw [h4.out, fop_l h3.out, fop_r ha, fop_r h2.out, fop_l hv.out, Ht.out]
          rfl
        have Ha := Lib.hid ha
        clear ha
        refine (implLog_any _ _ _ Ha.out (leftOf_rn s').1 (leftOf_rn s').2).mono ?_
        rintro e w6 ⟨l, rfl, hl, ql, rfl⟩
        go_wp2_with (refine wpList_fop _ rfl .mul _ _ _ _ rfl rfl .f32 _ _ rfl rfl ?_; intro r6 q6 h6)
        · have hc : (FloatKind.f32.format.order r5 r6 == some Ordering.lt || FloatKind.f32.format.order r5 r6 == some Ordering.eq) = true := by rw [Bool.or_eq_true]; assumption
          have hok : bellOk s' = true := by
            rw [← hc]
            unfold bellOk fle
            rw [order_congr (x := r5) (x' := fop .mul .f32 (bellX s') (bellX s')) (y := r6) (y' := fop .mul .f32 3229614080 (logF (leftOf s'))) (by rw [h5.out, cn_fop, fop_l hx.out, fop_r hx.out]) (by rw [h6.out, cn_fop, fop_r hl.out])]
          clear hc
          refine (drawn_any ⟨k2, a2, b2⟩ r4 _).mono ?_
          rintro e w7 ⟨hor, hb7⟩
          have Hz7 := Lib.hid (SeedAt.via hb7 Hz5.out)
          have HB7 := Lib.hid (below_via hb7 ⟨HB5.out.os, HB5.out.tape, HB5.out.output, HB5.out.size, HB5.out.block⟩)
          clear hb7 u0 u1 u2 v0 v1 v2
          have u0 := Hz7.out.c0
          have u1 := Hz7.out.c1
          have u2 := Hz7.out.c2
          have v0 := Hz7.out.fz 0
          have v1 := Hz7.out.fz 1
          have v2 := Hz7.out.fz 2
          have hfx : finB r4 = finB (bellX s') := by rw [← finB_cn, hx.out]
          have hd : bellSeed ⟨k0, a0, b0⟩ = if finB (bellX s') then some (⟨k2, a2, b2⟩, bellX s') else none := by
            have e : 64 - k = (63 - k) + 1 := by omega
            rw [Hr.out, hdf.out, e, bellFrom_yes hok, Ht2.out, Ht.out]
          clear hok
          rcases hor with ⟨hf, rfl⟩ | ⟨hf, rfl⟩
          · rw [hf] at hfx
            have Hr2 : Hid (bellSeed ⟨k0, a0, b0⟩ = some (⟨k2, a2, b2⟩, bellX s')) := by show _ = _; rw [hd, if_pos hfx.symm]
            clear hf hfx hd
            unfold Sd.val
            go_wp2
            (try simp only [Exit.inBlock, Exit.then])
            refine bodyPost_ret (results_s3 (s := ⟨k2, a2, b2⟩) (g := w.heap.size + 1) rfl _ rfl (by exact Hz7.out.set3 k2 a2 b2)) rfl ?_
            exact gaveSFB_some (s := ⟨k2, a2, b2⟩) Hr2.out hx.out (below_set3 HB7.out (by omega) _ _ _)
          · rw [hf] at hfx
            have Hr2 : Hid (bellSeed ⟨k0, a0, b0⟩ = none) := by show _ = _; rw [hd, if_neg (by rw [← hfx]; decide)]
            clear hf hfx hd
            unfold Sd.val Sd.zero
            go_wp2
            (try simp only [Exit.inBlock, Exit.then])
            refine bodyPost_ret (results_s3 (s := ⟨0, 0, 0⟩) (g := w.heap.size + 1) rfl _ rfl (by exact Hz7.out.set3 0 0 0)) rfl ?_
            exact gaveSFB_none Hr2.out (below_set3 HB7.out (by omega) _ _ _)
        · have hc : (FloatKind.f32.format.order r5 r6 == some Ordering.lt || FloatKind.f32.format.order r5 r6 == some Ordering.eq) = false := by rw [Bool.or_eq_false_iff]; assumption
          have hok : bellOk s' = false := by
            rw [← hc]
            unfold bellOk fle
            rw [order_congr (x := r5) (x' := fop .mul .f32 (bellX s') (bellX s')) (y := r6) (y' := fop .mul .f32 3229614080 (logF (leftOf s'))) (by rw [h5.out, cn_fop, fop_l hx.out, fop_r hx.out]) (by rw [h6.out, cn_fop, fop_r hl.out])]
          have hd : Hid (bellFrom 64 s = bellFrom (64 - (k + 1)) ⟨k2, a2, b2⟩) := by
            show _ = _
            have e : 64 - k = (64 - (k + 1)) + 1 := by omega
            rw [hdf.out, e, bellFrom_no hok, Ht2.out, Ht.out]
          clear hc hok
          have HB6 : Hid (Below w.heap.size w _) := below_drewN HB5.out (q1 + q2 + q3 + q4 + q5 + ql + q6)
          first
            | (go_round; exact ⟨⟨k + 1, ⟨k2, a2, b2⟩, by omega, by go_num, hd, Hto2.out, Hg5.out.drewN _, Hz5.out.drewN _, HB6.out⟩, by simp only [intOf]; omega⟩)
            | exact ⟨⟨k + 1, ⟨k2, a2, b2⟩, by omega, by go_num, hd, Hto2.out, Hg5.out.drewN _, Hz5.out.drewN _, HB6.out⟩, by simp only [intOf]; omega⟩
      · obtain rfl : k = 64 := by omega
        have u0 := Hz'.out.c0
        have u1 := Hz'.out.c1
        have u2 := Hz'.out.c2
        have v0 := Hz'.out.fz 0
        have v1 := Hz'.out.fz 1
        have v2 := Hz'.out.fz 2
        go_wp2
        (try simp only [Exit.inBlock, Exit.then])
        refine bodyPost_ret (results_s3 (s := ⟨0, 0, 0⟩) (g := w.heap.size + 1) rfl _ rfl (by exact Hz'.out.set3 0 0 0)) rfl ?_
        exact gaveSFB_none (by rw [Hr.out, hdf.out]; rfl) (below_set3 HB'.out (by omega) _ _ _)
set_option maxHeartbeats 2000000 in
theorem specBell_any : FnS_SFB 17 bellSeed := by
  intro k0 a0 b0 w hs
  have hz0 : ((w.alloc (.cells #[.int .i64 k0, .int .u64 a0, .int .u64 b0] 26)).alloc (.cells #[.int .i64 0, .int .u64 0, .int .u64 0] 26)).heap.size = w.heap.size + 2 := by rw [size_alloc', size_alloc']
  have hg : SeedAt ((w.alloc (.cells #[.int .i64 k0, .int .u64 a0, .int .u64 b0] 26)).alloc (.cells #[.int .i64 0, .int .u64 0, .int .u64 0] 26)) w.heap.size ⟨k0, a0, b0⟩ := (SeedAt.new w k0 a0 b0).alloc _
  have hz : SeedAt ((w.alloc (.cells #[.int .i64 k0, .int .u64 a0, .int .u64 b0] 26)).alloc (.cells #[.int .i64 0, .int .u64 0, .int .u64 0] 26)) (w.heap.size + 1) ⟨0, 0, 0⟩ := SeedAt.new1 w _ 0 0 0
  have hBl : Below w.heap.size w ((w.alloc (.cells #[.int .i64 k0, .int .u64 a0, .int .u64 b0] 26)).alloc (.cells #[.int .i64 0, .int .u64 0, .int .u64 0] 26)) := ((Below.refl _ _).alloc (Nat.le_refl _) _).alloc (by rw [size_alloc']; omega) _
  go_enter Try.func17, Try.ntmps17
  go_wp2_with fail
  refine (specIs_any ⟨k0, a0, b0⟩ _ _ hs hg).mono ?_
  rintro e w1 ⟨rfl, rfl⟩
  generalize (w.alloc (.cells #[.int .i64 k0, .int .u64 a0, .int .u64 b0] 26)).alloc (.cells #[.int .i64 0, .int .u64 0, .int .u64 0] 26) = w1 at hz0 hg hz hBl ⊢
  obtain ⟨s, hsd⟩ : ∃ s : Sd, s = ⟨k0, a0, b0⟩ := ⟨_, rfl⟩
  rw [← hsd] at hs hg ⊢
  have HB := Lib.hid hBl; have Hz := Lib.hid hz; have Hg := Lib.hid hg; have Hk : Hid s.ok := hs
  have Hs0 : Hid ((⟨k0, a0, b0⟩ : Sd) = s) := hsd.symm
  clear hBl hz hg hs hz0 hsd
  cases hv : validB s with
  | false =>
    have Hn : Hid (bellSeed ⟨k0, a0, b0⟩ = none) := by show _ = _; rw [Hs0.out]; simp [bellSeed, hv]
    have u0 := Hz.out.c0
    have u1 := Hz.out.c1
    have u2 := Hz.out.c2
    have v0 := Hz.out.fz 0
    have v1 := Hz.out.fz 1
    have v2 := Hz.out.fz 2
    simp only at u0 u1 u2
    go_wp2
    (try simp only [Exit.inBlock, Exit.then])
    refine bodyPost_ret (results_s3 rfl _ rfl (Hz.out.set3 0 0 0)) rfl ?_
    exact gaveSFB_none Hn.out (below_set3 HB.out (by omega) _ _ _)
  | true =>
    have Hr : Hid (bellSeed s = bellFrom 64 s) := by show _ = _; simp [bellSeed, hv]
    clear hv
    go_wp2
    go_loopw [5] (fun i wr => ∃ (k : Nat) (s' : Sd), k ≤ 64 ∧ i = .int .i64 k ∧ Hid (bellFrom 64 s = bellFrom (64 - k) s') ∧ s'.ok ∧ SeedAt wr w.heap.size s' ∧ SeedAt wr (w.heap.size + 1) Sd.zero ∧ Below w.heap.size w wr) (fun i _ => 64 - (intOf i).toNat)
    case atStart => exact ⟨0, s, by omega, rfl, rfl, Hk.out, Hg.out, Hz.out, HB.out⟩
    case round =>
      obtain ⟨k, s', hk, rfl, hdf, hs', hg', hz', hbel⟩ := hrel
      have HB' := Lib.hid hbel; have Hz' := Lib.hid hz'; have Hk' := Lib.hid hs'
      clear hbel hz' hs'
      by_cases hlt : k < 64
      · have hlt' : (k : Int) < 64 := by omega
        go_wp2_with fail
        refine (specShare_any s' _ _ Hk'.out hg').mono ?_
        rintro e w2 ⟨u, rfl, hu, hg2, hgr2⟩
        have HZ2 := Lib.hid (Hz'.out.grown hgr2 (by simp))
        have HB2 := Lib.hid (HB'.out.grown hgr2 HB'.out.size (fun _ h => by cases h; exact Nat.le_refl _))
        have Hk2 := Lib.hid (nextSd_ok Hk'.out)
        clear hgr2 hg'
        go_wp2_with fail
        refine (specShare_any (nextSd s') _ _ Hk2.out hg2).mono ?_
        rintro e w3 ⟨v, rfl, hv, hg3, hgr3⟩
        have HZ3 := Lib.hid (HZ2.out.grown hgr3 (by simp))
        have HB3 := Lib.hid (HB2.out.grown hgr3 HB2.out.size (fun _ h => by cases h; exact Nat.le_refl _))
        have Hk3 := Lib.hid (nextSd_ok Hk2.out)
        have Hg3 := Lib.hid hg3
        clear hgr3 hg2 hg3
        have t1 : True := trivial
        have t2 : True := trivial
        have t3 : True := trivial
        have t4 : True := trivial
        have t5 : True := trivial
        go_wp2_with (first
          | (have := t1; clear this t1; refine wpList_fop _ rfl .sub _ _ _ _ rfl rfl .f32 _ _ rfl rfl ?_; intro r1 q1 h1)
          | (have := t2; clear this t2; refine wpList_fop _ rfl .sub _ _ _ _ rfl rfl .f32 _ _ rfl rfl ?_; intro r2 q2 h2)
          | (have := t3; clear this t3; refine wpList_fop _ rfl .mul _ _ _ _ rfl rfl .f32 _ _ rfl rfl ?_; intro r3 q3 h3)
          | (have := t4; clear this t4; refine wpList_fop _ rfl .quo _ _ _ _ rfl rfl .f32 _ _ rfl rfl ?_; intro r4 q4 h4)
          | (have := t5; clear this t5; refine wpList_fop _ rfl .mul _ _ _ _ rfl rfl .f32 _ _ rfl rfl ?_; intro r5 q5 h5))
        have ha : cn .f32 r1 = leftOf s' := by rw [h1.out, fop_r hu.out]; rfl
        have hx : Hid (cn .f32 r4 = bellX s') := by
          show _ = _
          rw [h4.out, fop_l h3.out, fop_r ha, fop_r h2.out, fop_l hv.out]
          rfl
        have Ha := Lib.hid ha
        clear ha
        refine (specLog_any _ _ _ Ha.out (leftOf_rn s').1 (leftOf_rn s').2).mono ?_
        rintro e w6 ⟨l, rfl, hl, ql, rfl⟩
        go_wp2_with (refine wpList_fop _ rfl .mul _ _ _ _ rfl rfl .f32 _ _ rfl rfl ?_; intro r6 q6 h6)
        · have hc : (FloatKind.f32.format.order r5 r6 == some Ordering.lt || FloatKind.f32.format.order r5 r6 == some Ordering.eq) = true := by rw [Bool.or_eq_true]; assumption
          have hok : bellOk s' = true := by
            rw [← hc]
            unfold bellOk fle
            rw [order_congr (x := r5) (x' := fop .mul .f32 (bellX s') (bellX s')) (y := r6) (y' := fop .mul .f32 3229614080 (logF (leftOf s'))) (by rw [h5.out, cn_fop, fop_l hx.out, fop_r hx.out]) (by rw [h6.out, cn_fop, fop_r hl.out])]
          clear hc
          refine (give_any (nextSd (nextSd s')) w.heap.size r4 _ (Hg3.out.drewN (q1 + q2 + q3 + q4 + q5 + ql + q6))).mono ?_
          rintro e w7 ⟨hor, hb7⟩
          have Hz7 := Lib.hid (SeedAt.via hb7 HZ3.out)
          have HB7 := Lib.hid (below_via hb7 ⟨HB3.out.os, HB3.out.tape, HB3.out.output, HB3.out.size, HB3.out.block⟩)
          clear hb7
          have u0 := Hz7.out.c0
          have u1 := Hz7.out.c1
          have u2 := Hz7.out.c2
          have v0 := Hz7.out.fz 0
          have v1 := Hz7.out.fz 1
          have v2 := Hz7.out.fz 2
          have hfx : finB r4 = finB (bellX s') := by rw [← finB_cn, hx.out]
          have hd : bellSeed ⟨k0, a0, b0⟩ = if finB (bellX s') then some (nextSd (nextSd s'), bellX s') else none := by
            have e : 64 - k = (63 - k) + 1 := by omega
            rw [Hs0.out, Hr.out, hdf.out, e, bellFrom_yes hok]
          clear hok
          obtain ⟨t, ht⟩ : ∃ t, t = nextSd (nextSd s') := ⟨_, rfl⟩
          rw [← ht] at hd hor
          clear ht
          obtain ⟨k2, a2, b2⟩ := t
          rcases hor with ⟨hf, rfl⟩ | ⟨hf, rfl⟩
          · rw [hf] at hfx
            have Hr2 : Hid (bellSeed ⟨k0, a0, b0⟩ = some (⟨k2, a2, b2⟩, bellX s')) := by show _ = _; rw [hd, if_pos hfx.symm]
            clear hf hfx hd
            unfold Sd.val
            go_wp2
            (try simp only [Exit.inBlock, Exit.then])
            refine bodyPost_ret (results_s3 (s := ⟨k2, a2, b2⟩) (g := w.heap.size + 1) rfl _ rfl (by exact Hz7.out.set3 k2 a2 b2)) rfl ?_
            exact gaveSFB_some (s := ⟨k2, a2, b2⟩) Hr2.out hx.out (below_set3 HB7.out (by omega) _ _ _)
          · rw [hf] at hfx
            have Hr2 : Hid (bellSeed ⟨k0, a0, b0⟩ = none) := by show _ = _; rw [hd, if_neg (by rw [← hfx]; decide)]
            clear hf hfx hd
            unfold Sd.val Sd.zero
            go_wp2
            (try simp only [Exit.inBlock, Exit.then])
            refine bodyPost_ret (results_s3 (s := ⟨0, 0, 0⟩) (g := w.heap.size + 1) rfl _ rfl (by exact Hz7.out.set3 0 0 0)) rfl ?_
            exact gaveSFB_none Hr2.out (below_set3 HB7.out (by omega) _ _ _)
        · have hc : (FloatKind.f32.format.order r5 r6 == some Ordering.lt || FloatKind.f32.format.order r5 r6 == some Ordering.eq) = false := by rw [Bool.or_eq_false_iff]; assumption
          have hok : bellOk s' = false := by
            rw [← hc]
            unfold bellOk fle
            rw [order_congr (x := r5) (x' := fop .mul .f32 (bellX s') (bellX s')) (y := r6) (y' := fop .mul .f32 3229614080 (logF (leftOf s'))) (by rw [h5.out, cn_fop, fop_l hx.out, fop_r hx.out]) (by rw [h6.out, cn_fop, fop_r hl.out])]
          have hd : Hid (bellFrom 64 s = bellFrom (64 - (k + 1)) (nextSd (nextSd s'))) := by
            show _ = _
            have e : 64 - k = (64 - (k + 1)) + 1 := by omega
            rw [hdf.out, e, bellFrom_no hok]
          clear hc hok
          have HB6 : Hid (Below w.heap.size w _) := below_drewN HB3.out (q1 + q2 + q3 + q4 + q5 + ql + q6)
          first
            | (go_round; exact ⟨⟨k + 1, nextSd (nextSd s'), by omega, by go_num, hd, Hk3.out, Hg3.out.drewN _, HZ3.out.drewN _, HB6.out⟩, by simp only [intOf]; omega⟩)
            | exact ⟨⟨k + 1, nextSd (nextSd s'), by omega, by go_num, hd, Hk3.out, Hg3.out.drewN _, HZ3.out.drewN _, HB6.out⟩, by simp only [intOf]; omega⟩
      · obtain rfl : k = 64 := by omega
        have u0 := Hz'.out.c0
        have u1 := Hz'.out.c1
        have u2 := Hz'.out.c2
        have v0 := Hz'.out.fz 0
        have v1 := Hz'.out.fz 1
        have v2 := Hz'.out.fz 2
        go_wp2
        (try simp only [Exit.inBlock, Exit.then])
        refine bodyPost_ret (results_s3 (s := ⟨0, 0, 0⟩) (g := w.heap.size + 1) rfl _ rfl (by exact Hz'.out.set3 0 0 0)) rfl ?_
        exact gaveSFB_none (by rw [Hs0.out, Hr.out, hdf.out]; rfl) (below_set3 HB'.out (by omega) _ _ _)
end Go.Proofs.Ytomepdbpemgcfaa
