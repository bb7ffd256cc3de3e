/- BetaSeed: the share of one of two numbers of shapes. -/
import Derived.Test.YtgbehnkccgahoaaGamT
namespace Go.Proofs.Ytgbehnkccgahoaa
open Go.RowKit Mag
set_option maxRecDepth 100000
theorem gamma_some {s t : Sd} {x y : Nat} (hs : s.ok) (h : gammaSeed s x = some (t, y)) : t.ok ∧ validB t = true ∧ gam x s = some (t, y) := by
  unfold gammaSeed at h
  split at h
  · rename_i hc
    simp only [Bool.and_eq_true] at hc
    have a := gam_ok hs h
    exact ⟨a.1, a.2.trans hc.1, h⟩
  · cases h
theorem zero_sd_ok : Sd.zero.ok := ⟨by decide, by decide, by decide⟩
theorem gamma_ok {s : Sd} (x : Nat) (hs : s.ok) : (((gammaSeed s x).map Prod.fst).getD Sd.zero).ok := by
  cases h : gammaSeed s x with
  | none => exact zero_sd_ok
  | some r => exact (gamma_some (t := r.1) (y := r.2) hs h).1
theorem beta_no1 {s : Sd} {x y : Nat} (h : gammaSeed s x = none) : betaSeed s x y = none := by unfold betaSeed; rw [h]
theorem beta_no2 {s t : Sd} {x y u : Nat} (h : gammaSeed s x = some (t, u)) (h2 : gammaSeed t y = none) : betaSeed s x y = none := by unfold betaSeed; rw [h]; dsimp only; rw [h2]
theorem beta_yes {s t t2 : Sd} {x y u v : Nat} (h : gammaSeed s x = some (t, u)) (h2 : gammaSeed t y = some (t2, v)) : betaSeed s x y = if finB (fop .quo .f32 u (fop .add .f32 u v)) then some (t2, fop .quo .f32 u (fop .add .f32 u v)) else none := by unfold betaSeed; rw [h]; dsimp only; rw [h2]
set_option maxHeartbeats 4000000 in
theorem implBeta_any : FnSFF_SFB 9 betaSeed := by
  intro k0 a0 b0 x y w hs hx hy
  have hg : SeedAt ((w.alloc (.cells #[.int .i64 k0, .int .u64 a0, .int .u64 b0] 26)).alloc (.cells #[.int .i64 0, .int .u64 0, .int .u64 0] 26)) w.heap.size ⟨k0, a0, b0⟩ := (SeedAt.new w k0 a0 b0).alloc _
  have hz : SeedAt ((w.alloc (.cells #[.int .i64 k0, .int .u64 a0, .int .u64 b0] 26)).alloc (.cells #[.int .i64 0, .int .u64 0, .int .u64 0] 26)) (w.heap.size + 1) ⟨0, 0, 0⟩ := SeedAt.new1 w _ 0 0 0
  have hBl : Below w.heap.size w ((w.alloc (.cells #[.int .i64 k0, .int .u64 a0, .int .u64 b0] 26)).alloc (.cells #[.int .i64 0, .int .u64 0, .int .u64 0] 26)) := ((Below.refl _ _).alloc (Nat.le_refl _) _).alloc (by rw [size_alloc']; omega) _
  have Hx := Lib.hid hx; have Hy := Lib.hid hy; have Hk := Lib.hid hs
  have Hg := Lib.hid hg; have Hz := Lib.hid hz; have HB := Lib.hid hBl
  clear hx hy hs hg hz hBl
  go_enter Try.func9, Try.ntmps9
  go_wp2_with fail
  refine (implGamma_any k0 a0 b0 x _ Hk.out Hx.out).mono ?_
  rintro e w3 ⟨k1, a1, b1, num, ok, rfl, hok, hsd, hnum, hb3⟩
  have Hz3 := Lib.hid (SeedAt.via hb3 Hz.out)
  have Hg3 := Lib.hid (SeedAt.via hb3 Hg.out)
  have HB3 := Lib.hid (below_via hb3 HB.out)
  have hk1 : Sd.ok ⟨k1, a1, b1⟩ := by rw [hsd.out]; exact gamma_ok x Hk.out
  have Hk1 := Lib.hid hk1
  clear hb3 hk1 Hz Hg HB
  have f0 := Hg3.out.fz 0
  have f1 := Hg3.out.fz 1
  have f2 := Hg3.out.fz 2
  have x0 := Hg3.out.c0
  have x1 := Hg3.out.c1
  have x2 := Hg3.out.c2
  have Hg4 := Lib.hid (Hg3.out.set3 k1 a1 b1)
  have Hz4 := Lib.hid (Hz3.out.far3 (g' := w.heap.size) (by omega) k1 a1 b1)
  have HB4 := Lib.hid (below_set3 HB3.out (Nat.le_refl _) k1 a1 b1)
  have c0 := Hg4.out.c0
  have c1 := Hg4.out.c1
  have c2 := Hg4.out.c2
  simp only at c0 c1 c2
  go_wp2_with fail
  refine (implGamma_any k1 a1 b1 y _ Hk1.out Hy.out).mono ?_
  rintro e w5 ⟨k2, a2, b2, num2, ok2, rfl, hok2, hsd2, hnum2, hb5⟩
  have Hz5 := Lib.hid (SeedAt.via hb5 Hz4.out)
  have Hg5 := Lib.hid (SeedAt.via hb5 Hg4.out)
  have HB5 := Lib.hid (below_via hb5 HB4.out)
  clear hb5 c0 c1 c2 f0 f1 f2 x0 x1 x2 Hg3 Hz3 HB3 Hg4 Hz4 HB4
  have f0 := Hg5.out.fz 0
  have f1 := Hg5.out.fz 1
  have f2 := Hg5.out.fz 2
  have x0 := Hg5.out.c0
  have x1 := Hg5.out.c1
  have x2 := Hg5.out.c2
  simp only at x0 x1 x2
  have Hg6 := Lib.hid (Hg5.out.set3 k2 a2 b2)
  have Hz6 := Lib.hid (Hz5.out.far3 (g' := w.heap.size) (by omega) k2 a2 b2)
  have HB6 := Lib.hid (below_set3 HB5.out (Nat.le_refl _) k2 a2 b2)
  cases h1 : gammaSeed ⟨k0, a0, b0⟩ x with
  | none =>
    rw [h1] at hok
    obtain rfl : ok = false := hok.out
    have Hn : Hid (betaSeed ⟨k0, a0, b0⟩ x y = none) := beta_no1 h1
    clear h1 hsd hnum hok hok2 hsd2 hnum2
    have u0 := Hz6.out.c0
    have u1 := Hz6.out.c1
    have u2 := Hz6.out.c2
    have v0 := Hz6.out.fz 0
    have v1 := Hz6.out.fz 1
    have v2 := Hz6.out.fz 2
    simp only at u0 u1 u2
    go_wp2
    (try simp only [Exit.inBlock, Exit.then])
    refine bodyPost_ret (results_s3 rfl _ rfl (Hz6.out.set3 0 0 0)) rfl ?_
    exact gaveSFB_none Hn.out (below_set3 HB6.out (by omega) _ _ _)
  | some tu =>
    obtain ⟨t, u⟩ := tu
    rw [h1] at hok hsd hnum
    obtain rfl : ok = true := hok.out
    have het : (⟨k1, a1, b1⟩ : Sd) = t := hsd.out
    subst het
    have hnu : cn .f32 num = u := hnum.out
    cases h2 : gammaSeed ⟨k1, a1, b1⟩ y with
    | none =>
      rw [h2] at hok2
      obtain rfl : ok2 = false := hok2.out
      have Hn : Hid (betaSeed ⟨k0, a0, b0⟩ x y = none) := beta_no2 h1 h2
      clear h1 h2 hsd hnum hok hok2 hsd2 hnum2
      have u0 := Hz6.out.c0
      have u1 := Hz6.out.c1
      have u2 := Hz6.out.c2
      have v0 := Hz6.out.fz 0
      have v1 := Hz6.out.fz 1
      have v2 := Hz6.out.fz 2
      simp only at u0 u1 u2
      go_wp2
      (try simp only [Exit.inBlock, Exit.then])
      refine bodyPost_ret (results_s3 rfl _ rfl (Hz6.out.set3 0 0 0)) rfl ?_
      exact gaveSFB_none Hn.out (below_set3 HB6.out (by omega) _ _ _)
    | some tv =>
      obtain ⟨t2, v⟩ := tv
      rw [h2] at hok2 hsd2 hnum2
      obtain rfl : ok2 = true := hok2.out
      have het : (⟨k2, a2, b2⟩ : Sd) = t2 := hsd2.out
      subst het
      have hnv : cn .f32 num2 = v := hnum2.out
      have Hr := Lib.hid (beta_yes h1 h2)
      have Hnu := Lib.hid hnu; have Hnv := Lib.hid hnv
      clear h1 h2 hsd hnum hok hok2 hsd2 hnum2 hnu hnv
      have c0 := Hg6.out.c0
      have c1 := Hg6.out.c1
      have c2 := Hg6.out.c2
      simp only at c0 c1 c2
      have t1 : True := trivial
      have t2 : True := trivial
      go_wp2_with (first
        | (have := t1; clear this t1; refine wpList_fop _ rfl .add _ _ _ _ rfl rfl .f32 _ _ rfl rfl ?_; intro r1 q1 g1)
        | (have := t2; clear this t2; refine wpList_fop _ rfl .quo _ _ _ _ rfl rfl .f32 _ _ rfl rfl ?_; intro r2 q2 g2))
      have HX : Hid (cn .f32 r2 = fop .quo .f32 u (fop .add .f32 u v)) := by show _ = _; rw [g2.out, fop_l Hnu.out, fop_r (g1.out.trans ((fop_l Hnu.out _).trans (fop_r Hnv.out _)))]
      clear g1 g2 f0 f1 f2 x0 x1 x2 c0 c1 c2
      have hfx : finB r2 = finB (fop .quo .f32 u (fop .add .f32 u v)) := by rw [← finB_cn, HX.out]
      refine (drawn_any ⟨k2, a2, b2⟩ r2 _).mono ?_
      rintro e w8 ⟨hor, hb8⟩
      have Hz8 := Lib.hid (SeedAt.via hb8 Hz6.out)
      have HB8 := Lib.hid (below_via hb8 ⟨HB6.out.os, HB6.out.tape, HB6.out.output, HB6.out.size, HB6.out.block⟩)
      clear hb8
      have u0 := Hz8.out.c0
      have u1 := Hz8.out.c1
      have u2 := Hz8.out.c2
      have v0 := Hz8.out.fz 0
      have v1 := Hz8.out.fz 1
      have v2 := Hz8.out.fz 2
      simp only at u0 u1 u2
      rcases hor with ⟨hf, rfl⟩ | ⟨hf, rfl⟩
      · rw [hf] at hfx
        have Hn : Hid (betaSeed ⟨k0, a0, b0⟩ x y = some (⟨k2, a2, b2⟩, fop .quo .f32 u (fop .add .f32 u v))) := by show _ = _; rw [Hr.out, if_pos hfx.symm]
        clear hf hfx
        unfold Sd.val
        go_wp2
        (try simp only [Exit.inBlock, Exit.then])
        refine bodyPost_ret (results_s3 (s := ⟨k2, a2, b2⟩) (g := w.heap.size + 1) rfl _ rfl (by exact Hz8.out.set3 k2 a2 b2)) rfl ?_
        exact gaveSFB_some (s := ⟨k2, a2, b2⟩) Hn.out HX.out (below_set3 HB8.out (by omega) _ _ _)
      · rw [hf] at hfx
        have Hn : Hid (betaSeed ⟨k0, a0, b0⟩ x y = none) := by show _ = _; rw [Hr.out, if_neg (by rw [← hfx]; decide)]
        clear hf hfx
        unfold Sd.val Sd.zero
        go_wp2
        (try simp only [Exit.inBlock, Exit.then])
        refine bodyPost_ret (results_s3 (s := ⟨0, 0, 0⟩) (g := w.heap.size + 1) rfl _ rfl (by exact Hz8.out.set3 0 0 0)) rfl ?_
        exact gaveSFB_none Hn.out (below_set3 HB8.out (by omega) _ _ _)
theorem gammaSeed_gam {s : Sd} {x : Nat} (hv : validB s = true) (hsh : (fgt .f32 x 0 && fle .f32 x 1148846080) = true) : gammaSeed s x = gam x s := by unfold gammaSeed; rw [hv, hsh]; rfl
theorem beta_bad {s : Sd} {x y : Nat} (hs : s.ok) (h : validB s = false ∨ (fgt .f32 x 0 && fle .f32 x 1148846080) = false ∨ (fgt .f32 y 0 && fle .f32 y 1148846080) = false) : betaSeed s x y = none := by
  rcases h with h | h | h
  · exact beta_no1 (by unfold gammaSeed; rw [h]; rfl)
  · exact beta_no1 (by unfold gammaSeed; rw [h, if_neg (by simp)])
  · cases hg : gammaSeed s x with
    | none => exact beta_no1 hg
    | some r => exact beta_no2 (t := r.1) (u := r.2) hg (by unfold gammaSeed; rw [h, if_neg (by simp)])
set_option maxHeartbeats 4000000 in
theorem specBeta_any : FnSFF_SFB 10 betaSeed := by
  intro k0 a0 b0 x y w hs hx hy
  have hg : SeedAt ((w.alloc (.cells #[.int .i64 k0, .int .u64 a0, .int .u64 b0] 26)).alloc (.cells #[.int .i64 0, .int .u64 0, .int .u64 0] 26)) w.heap.size ⟨k0, a0, b0⟩ := (SeedAt.new w k0 a0 b0).alloc _
  have hz : SeedAt ((w.alloc (.cells #[.int .i64 k0, .int .u64 a0, .int .u64 b0] 26)).alloc (.cells #[.int .i64 0, .int .u64 0, .int .u64 0] 26)) (w.heap.size + 1) ⟨0, 0, 0⟩ := SeedAt.new1 w _ 0 0 0
  have hBl : Below w.heap.size w ((w.alloc (.cells #[.int .i64 k0, .int .u64 a0, .int .u64 b0] 26)).alloc (.cells #[.int .i64 0, .int .u64 0, .int .u64 0] 26)) := ((Below.refl _ _).alloc (Nat.le_refl _) _).alloc (by rw [size_alloc']; omega) _
  go_enter Try.func10, Try.ntmps10
  go_wp2_with fail
  refine (specIs_any ⟨k0, a0, b0⟩ _ _ hs hg).mono ?_
  rintro e w1 ⟨rfl, rfl⟩
  generalize (w.alloc (.cells #[.int .i64 k0, .int .u64 a0, .int .u64 b0] 26)).alloc (.cells #[.int .i64 0, .int .u64 0, .int .u64 0] 26) = w1 at hg hz hBl ⊢
  have HB := Lib.hid hBl; have Hz := Lib.hid hz; have Hg := Lib.hid hg; have Hk := Lib.hid hs; have Hx := Lib.hid hx; have Hy := Lib.hid hy
  clear hBl hz hg hs hx hy
  have u0 := Hz.out.c0
  have u1 := Hz.out.c1
  have u2 := Hz.out.c2
  have v0 := Hz.out.fz 0
  have v1 := Hz.out.fz 1
  have v2 := Hz.out.fz 2
  simp only at u0 u1 u2
  cases hv : validB ⟨k0, a0, b0⟩ with
  | false =>
    have Hn : Hid (betaSeed ⟨k0, a0, b0⟩ x y = none) := beta_bad Hk.out (.inl hv)
    clear hv
    go_wp2
    (try simp only [Exit.inBlock, Exit.then])
    refine bodyPost_ret (results_s3 rfl _ rfl (Hz.out.set3 0 0 0)) rfl ?_
    exact gaveSFB_none Hn.out (below_set3 HB.out (by omega) _ _ _)
  | true =>
    go_wp2_with fail
    refine (l03Shape_any _ _).mono ?_
    rintro e w2 ⟨rfl, rfl⟩
    cases hsh : (fgt .f32 x 0 && fle .f32 x 1148846080) with
    | false =>
      have Hn : Hid (betaSeed ⟨k0, a0, b0⟩ x y = none) := beta_bad Hk.out (.inr (.inl hsh))
      clear hv hsh
      go_wp2
      (try simp only [Exit.inBlock, Exit.then])
      refine bodyPost_ret (results_s3 rfl _ rfl (Hz.out.set3 0 0 0)) rfl ?_
      exact gaveSFB_none Hn.out (below_set3 HB.out (by omega) _ _ _)
    | true =>
      go_wp2_with fail
      refine (l03Shape_any _ _).mono ?_
      rintro e w2 ⟨rfl, rfl⟩
      cases hsh2 : (fgt .f32 y 0 && fle .f32 y 1148846080) with
      | false =>
        have Hn : Hid (betaSeed ⟨k0, a0, b0⟩ x y = none) := beta_bad Hk.out (.inr (.inr hsh2))
        clear hv hsh hsh2
        go_wp2
        (try simp only [Exit.inBlock, Exit.then])
        refine bodyPost_ret (results_s3 rfl _ rfl (Hz.out.set3 0 0 0)) rfl ?_
        exact gaveSFB_none Hn.out (below_set3 HB.out (by omega) _ _ _)
      | true =>
        have Hr1 := Lib.hid (gammaSeed_gam hv hsh)
        have hsp := Bool.and_eq_true _ _ |>.mp hsh
        have hsp2 := Bool.and_eq_true _ _ |>.mp hsh2
        have Hrn := Lib.hid (shape_rn Hx.out hsp.1 hsp.2)
        have Hrn2 := Lib.hid (shape_rn Hy.out hsp2.1 hsp2.2)
        have Hsh2 := Lib.hid hsh2
        clear hv hsh hsh2 hsp hsp2
        go_wp2_with fail
        clear u0 u1 u2 v0 v1 v2
        refine (specGam_any ⟨k0, a0, b0⟩ w.heap.size x _ Hk.out Hg.out Hrn.out).mono ?_
        rintro e w3 ⟨hor, hgr⟩
        have Hz3 := Lib.hid (Hz.out.grown hgr (by simp))
        have HB3 := Lib.hid (HB.out.grown hgr HB.out.size (fun j e => by cases e; exact Nat.le_refl _))
        clear hgr
        have u0 := Hz3.out.c0
        have u1 := Hz3.out.c1
        have u2 := Hz3.out.c2
        have v0 := Hz3.out.fz 0
        have v1 := Hz3.out.fz 1
        have v2 := Hz3.out.fz 2
        simp only at u0 u1 u2
        rcases hor with ⟨hn, rfl⟩ | ⟨t, u, num, hsm, hnum, rfl, hg2⟩
        · have Hn : Hid (betaSeed ⟨k0, a0, b0⟩ x y = none) := beta_no1 (by rw [Hr1.out, hn])
          clear hn
          go_wp2
          (try simp only [Exit.inBlock, Exit.then])
          refine bodyPost_ret (results_s3 rfl _ rfl (Hz3.out.set3 0 0 0)) rfl ?_
          exact gaveSFB_none Hn.out (below_set3 HB3.out (by omega) _ _ _)
        · have h1 : gammaSeed ⟨k0, a0, b0⟩ x = some (t, u) := by rw [Hr1.out, hsm]
          have hgs := gamma_some Hk.out h1
          have Hr2 := Lib.hid (gammaSeed_gam hgs.2.1 Hsh2.out)
          have H1 := Lib.hid h1; have Hto := Lib.hid hgs.1; have Hnu := Lib.hid hnum; have Hg2 := Lib.hid hg2
          clear h1 hgs hsm hnum hg2
          go_wp2_with fail
          clear u0 u1 u2 v0 v1 v2
          refine (specGam_any t w.heap.size y _ Hto.out Hg2.out Hrn2.out).mono ?_
          rintro e w4 ⟨hor, hgr⟩
          have Hz4 := Lib.hid (Hz3.out.grown hgr (by simp))
          have HB4 := Lib.hid (HB3.out.grown hgr HB3.out.size (fun j e => by cases e; exact Nat.le_refl _))
          clear hgr
          have u0 := Hz4.out.c0
          have u1 := Hz4.out.c1
          have u2 := Hz4.out.c2
          have v0 := Hz4.out.fz 0
          have v1 := Hz4.out.fz 1
          have v2 := Hz4.out.fz 2
          simp only at u0 u1 u2
          rcases hor with ⟨hn, rfl⟩ | ⟨t2, v, num2, hsm, hnum2, rfl, hg4⟩
          · have Hn : Hid (betaSeed ⟨k0, a0, b0⟩ x y = none) := beta_no2 H1.out (by rw [Hr2.out, hn])
            clear hn
            go_wp2
            (try simp only [Exit.inBlock, Exit.then])
            refine bodyPost_ret (results_s3 rfl _ rfl (Hz4.out.set3 0 0 0)) rfl ?_
            exact gaveSFB_none Hn.out (below_set3 HB4.out (by omega) _ _ _)
          · have Hr := Lib.hid (beta_yes H1.out (show gammaSeed t y = some (t2, v) by rw [Hr2.out, hsm]))
            have Hnv := Lib.hid hnum2
            have Hg4 := Lib.hid hg4
            clear hsm hnum2 hg4 u0 u1 u2 v0 v1 v2
            obtain ⟨k2, a2, b2⟩ := t2
            have t1 : True := trivial
            have t2 : True := trivial
            go_wp2_with (first
              | (have := t1; clear this t1; refine wpList_fop _ rfl .add _ _ _ _ rfl rfl .f32 _ _ rfl rfl ?_; intro r1 q1 g1)
              | (have := t2; clear this t2; refine wpList_fop _ rfl .quo _ _ _ _ rfl rfl .f32 _ _ rfl rfl ?_; intro r2 q2 g2))
            have HX : Hid (cn .f32 r2 = fop .quo .f32 u (fop .add .f32 u v)) := by show _ = _; rw [g2.out, fop_l Hnu.out, fop_r (g1.out.trans ((fop_l Hnu.out _).trans (fop_r Hnv.out _)))]
            clear g1 g2
            have hfx : finB r2 = finB (fop .quo .f32 u (fop .add .f32 u v)) := by rw [← finB_cn, HX.out]
            refine (give_any ⟨k2, a2, b2⟩ w.heap.size r2 _ (Hg4.out.drewN _)).mono ?_
            rintro e w8 ⟨hor, hb8⟩
            have Hz8 := Lib.hid (SeedAt.via hb8 Hz4.out)
            have HB8 := Lib.hid (below_via hb8 ⟨HB4.out.os, HB4.out.tape, HB4.out.output, HB4.out.size, HB4.out.block⟩)
            clear hb8
            have u0 := Hz8.out.c0
            have u1 := Hz8.out.c1
            have u2 := Hz8.out.c2
            have v0 := Hz8.out.fz 0
            have v1 := Hz8.out.fz 1
            have v2 := Hz8.out.fz 2
            simp only at u0 u1 u2
            rcases hor with ⟨hf, rfl⟩ | ⟨hf, rfl⟩
            · rw [hf] at hfx
              have Hn : Hid (betaSeed ⟨k0, a0, b0⟩ x y = some (⟨k2, a2, b2⟩, fop .quo .f32 u (fop .add .f32 u v))) := by show _ = _; rw [Hr.out, if_pos hfx.symm]
              clear hf hfx
              unfold Sd.val
              go_wp2
              (try simp only [Exit.inBlock, Exit.then])
              refine bodyPost_ret (results_s3 (s := ⟨k2, a2, b2⟩) (g := w.heap.size + 1) rfl _ rfl (by exact Hz8.out.set3 k2 a2 b2)) rfl ?_
              exact gaveSFB_some (s := ⟨k2, a2, b2⟩) Hn.out HX.out (below_set3 HB8.out (by omega) _ _ _)
            · rw [hf] at hfx
              have Hn : Hid (betaSeed ⟨k0, a0, b0⟩ x y = none) := by show _ = _; rw [Hr.out, if_neg (by rw [← hfx]; decide)]
              clear hf hfx
              unfold Sd.val Sd.zero
              go_wp2
              (try simp only [Exit.inBlock, Exit.then])
              refine bodyPost_ret (results_s3 (s := ⟨0, 0, 0⟩) (g := w.heap.size + 1) rfl _ rfl (by exact Hz8.out.set3 0 0 0)) rfl ?_
              exact gaveSFB_none Hn.out (below_set3 HB8.out (by omega) _ _ _)
end Go.Proofs.Ytgbehnkccgahoaa
