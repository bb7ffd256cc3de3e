/- GammaSeed of the program, walked. -/
import Derived.Test.YtgbehnkccgahoaaGamL
import Derived.Test.YtgbehnkccgahoaaValid
import Derived.Deep.RegionWith
namespace Go.Proofs.Ytgbehnkccgahoaa
open Go.RowKit Mag
set_option maxRecDepth 100000
theorem gamGo_valid {d c n : Nat} {s t : Sd} {x : Nat} (hs : s.ok) (h : gamGo d c n s = some (t, x)) : validB t = validB s := by
  induction n generalizing s with
  | zero => cases h
  | succ n ih =>
    unfold gamGo at h
    have h1 : (nextSd s).ok := nextSd_ok hs
    have h2 : (gamS s).ok := nextSd_ok h1
    have e2 : validB (gamS s) = validB s := (validB_next h1).trans (validB_next hs)
    have e3 : validB (nextSd (gamS s)) = validB s := (validB_next h2).trans e2
    split at h
    · split at h
      · split at h
        · simp only [Option.some.injEq, Prod.mk.injEq] at h
          exact h.1 ▸ e3
        · cases h
      · exact (ih (nextSd_ok h2) h).trans e3
    · exact (ih h2 h).trans e2
theorem gam_ok {x : Nat} {s t : Sd} {y : Nat} (hs : s.ok) (h : gam x s = some (t, y)) : t.ok ∧ validB t = validB s := by
  unfold gam at h
  split at h
  · exact ⟨gamGo_ok hs h, gamGo_valid hs h⟩
  · split at h
    · cases h
    · rename_i t1 y1 hl
      split at h
      · simp only [Option.some.injEq, Prod.mk.injEq] at h
        have a := gamGo_ok hs hl
        exact h.1 ▸ ⟨nextSd_ok a, (validB_next a).trans (gamGo_valid hs hl)⟩
      · cases h
theorem gam_num {x : Nat} {s t : Sd} {y : Nat} (h : gam x s = some (t, y)) : finB y = true := by
  unfold gam at h
  have key : ∀ n d c s, gamGo d c n s = some (t, y) → finB y = true := by
    intro n d c
    induction n with
    | zero => intro s h; cases h
    | succ n ih =>
      intro s h
      unfold gamGo at h
      split at h
      · split at h
        · split at h
          · rename_i hf
            simp only [Option.some.injEq, Prod.mk.injEq] at h
            exact h.2 ▸ hf
          · cases h
        · exact ih _ h
      · exact ih _ h
  split at h
  · exact key _ _ _ _ h
  · split at h
    · cases h
    · split at h
      · rename_i hf
        simp only [Option.some.injEq, Prod.mk.injEq] at h
        exact h.2 ▸ hf
      · cases h
theorem large_num {x : Nat} {s t : Sd} {y : Nat} (h : gamLarge x s = some (t, y)) : finB y = true := by
  have key : ∀ n d c s, gamGo d c n s = some (t, y) → finB y = true := by
    intro n d c
    induction n with
    | zero => intro s h; cases h
    | succ n ih =>
      intro s h
      unfold gamGo at h
      split at h
      · split at h
        · split at h
          · rename_i hf
            simp only [Option.some.injEq, Prod.mk.injEq] at h
            exact h.2 ▸ hf
          · cases h
        · exact ih _ h
      · exact ih _ h
  exact key _ _ _ _ h
/-- What a shape below 1 is. -/
theorem shape_rn {x : Nat} (hx : x < 4294967296) (h1 : fgt .f32 x 0 = true) (h2 : fle .f32 x 1148846080 = true) : Rn .f32 (1 : Nat) (2139095039 : Nat) x := by
  have hb := pos_bits hx h1
  have hne : x ≠ 2139095040 := by
    intro e
    subst e
    revert h2
    decide +kernel
  have hf := fin_bits (t := x) (by omega)
  have hs : Ieee.single.signWeight = 2147483648 := by decide
  have e : KV .f32 x = (rungW Ieee.single x : Int) := (KV_sign (k := .f32) (x := x)).1 hf.2
  rw [rungW_small (by omega)] at e
  exact ⟨hf.1, by omega, by omega⟩
theorem run_fop_num' {P : Program} {op : BinOp} {k : FloatKind} {x y z : Nat} (hz : fop op k x y = z) (hn : isNaNB k z = false) (t : TypeId) (w : World) :
    (binOp op t (.float k x) (.float k y)).run P w = .ok (.float k z) w := by
  cases h : floatBits op k x y with
  | some r =>
    have : r = z := by rw [← hz]; unfold fop; rw [h]; rfl
    rw [← this]
    exact run_float_arith w op t k x y r h
  | none =>
    exfalso
    have : z = qnan k := by rw [← hz]; unfold fop; rw [h]; rfl
    rw [this, qnan_isNaN] at hn
    cases hn
theorem implExpLE_any (a : Nat) (w : World) (h : Low a) :
    Calls Try.prog 24 #[.float .f32 a] w fun e w' => e = .returned (.float .f32 (expL a)) ∧ ∃ q, w' = w.drewN q :=
  (implExpL_any a a w (cn_of_not h.1) h).mono fun _ _ ⟨r, he, hr, hq⟩ => ⟨by rw [he, cn_num hr.out (FinK_not_nan (expL_rn h).1)], hq⟩
theorem gamLarge_l {r v : Nat} (h : cn .f32 r = v) (s : Sd) : gamLarge r s = gamLarge v s := by
  unfold gamLarge gamC gamD
  rw [fop_l h]
theorem gaveSFB_as {w w' : World} {e : Ending} {r r' : Option (Sd × Nat)} (h : GaveSFB w r e w') (he : r' = r) : GaveSFB w r' e w' := he ▸ h
set_option maxHeartbeats 4000000 in
theorem implGamma_any : FnSF_SFB 7 gammaSeed := by
  intro k0 a0 b0 x w hs hx
  have hz0 : ((w.alloc (.cells #[.int .i64 k0, .int .u64 a0, .int .u64 b0] 26)).alloc (.cells #[.int .i64 0, .int .u64 0, .int .u64 0] 26)).heap.size = w.heap.size + 2 := by rw [size_alloc', size_alloc']
  go_enter Try.func7, Try.ntmps7
  go_wp2_with fail
  refine (implValid_any ⟨k0, a0, b0⟩ _ hs).mono ?_
  rintro e w1 ⟨rfl, hb1⟩
  rw [hz0] at hb1
  have hBl : Below w.heap.size w w1 := (((Below.refl _ _).alloc (Nat.le_refl _) _).alloc (by rw [size_alloc']; omega) _).trans (hb1.mono (by omega))
  have hg : SeedAt w1 w.heap.size ⟨k0, a0, b0⟩ := ((SeedAt.new w k0 a0 b0).alloc _).below hb1 (by omega)
  have hz : SeedAt w1 (w.heap.size + 1) ⟨0, 0, 0⟩ := (SeedAt.new1 w _ 0 0 0).below hb1 (by omega)
  clear hz0 hb1
  have HB := Lib.hid hBl; have Hz := Lib.hid hz; have Hg := Lib.hid hg; have Hk := Lib.hid hs
  have Hx := Lib.hid hx
  clear hBl hz hg hs hx
  have u0 := Hz.out.c0
  have u1 := Hz.out.c1
  have u2 := Hz.out.c2
  have v0 := Hz.out.fz 0
  have v1 := Hz.out.fz 1
  have v2 := Hz.out.fz 2
  simp only at u0 u1 u2
  have bad : ∀ {b1 b2 b3 : Bool}, validB ⟨k0, a0, b0⟩ = b1 → fgt .f32 x 0 = b2 → fle .f32 x 1148846080 = b3 → (b1 && (b2 && b3)) = false → gammaSeed ⟨k0, a0, b0⟩ x = none := by
    intro b1 b2 b3 h1 h2 h3 h
    unfold gammaSeed
    rw [h1, h2, h3, if_neg (by rw [h]; decide)]
  cases hv : validB ⟨k0, a0, b0⟩ with
  | false =>
    have Hn : Hid (gammaSeed ⟨k0, a0, b0⟩ x = none) := bad hv rfl rfl rfl
    clear bad hv
    go_wp2
    (try simp only [Exit.inBlock, Exit.then])
    refine bodyPost_ret (results_s3 rfl _ rfl (Hz.out.set3 0 0 0)) rfl ?_
    exact gaveSFB_none Hn.out (below_set3 HB.out (by omega) _ _ _)
  | true =>
    cases h1 : fgt .f32 x 0 with
    | false =>
      have Hn : Hid (gammaSeed ⟨k0, a0, b0⟩ x = none) := bad hv h1 rfl rfl
      have g1 : (FloatKind.f32.format.order x 0 == some .gt) = false := h1
      clear bad hv h1
      go_wp2
      (try simp only [Exit.inBlock, Exit.then])
      refine bodyPost_ret (results_s3 rfl _ rfl (Hz.out.set3 0 0 0)) rfl ?_
      exact gaveSFB_none Hn.out (below_set3 HB.out (by omega) _ _ _)
    | true =>
      have g1 : (FloatKind.f32.format.order x 0 == some .gt) = true := h1
      cases h2 : fle .f32 x 1148846080 with
      | false =>
        have Hn : Hid (gammaSeed ⟨k0, a0, b0⟩ x = none) := bad hv h1 h2 rfl
        have g2 : (FloatKind.f32.format.order x 1148846080 == some .lt || FloatKind.f32.format.order x 1148846080 == some .eq) = false := h2
        clear bad hv h1 h2
        go_wp2
        (try simp only [Exit.inBlock, Exit.then])
        refine bodyPost_ret (results_s3 rfl _ rfl (Hz.out.set3 0 0 0)) rfl ?_
        exact gaveSFB_none Hn.out (below_set3 HB.out (by omega) _ _ _)
      | true =>
        have g2 : (FloatKind.f32.format.order x 1148846080 == some .lt || FloatKind.f32.format.order x 1148846080 == some .eq) = true := h2
        have Hr : Hid (gammaSeed ⟨k0, a0, b0⟩ x = gam x ⟨k0, a0, b0⟩) := by show _ = _; unfold gammaSeed; rw [hv, h1, h2]; rfl
        have Hrn := Lib.hid (shape_rn Hx.out h1 h2)
        clear bad hv h1 h2
        have c0 := Hg.out.c0
        have c1 := Hg.out.c1
        have c2 := Hg.out.c2
        simp only at c0 c1 c2
        cases h3 : fge .f32 x 1065353216 with
        | true =>
          have g3 : (FloatKind.f32.format.order x 1065353216 == some .gt || FloatKind.f32.format.order x 1065353216 == some .eq) = true := h3
          have Hr2 : Hid (gammaSeed ⟨k0, a0, b0⟩ x = gamLarge x ⟨k0, a0, b0⟩) := by show _ = _; rw [Hr.out]; unfold gam; rw [h3]; rfl
          clear h3
          go_wp2_with fail
          clear u0 u1 u2 v0 v1 v2 c0 c1 c2 g1 g2 g3
          refine (implLarge_any k0 a0 b0 x (cn .f32 x) _ Hk.out rfl).mono ?_
          rintro e w3 ⟨k1, a1, b1, num, ok, rfl, hok, hsd, hnum, hb3⟩
          have Hz3 := Lib.hid (SeedAt.via hb3 Hz.out)
          have HB3 := Lib.hid (below_via hb3 ⟨HB.out.os, HB.out.tape, HB.out.output, HB.out.size, HB.out.block⟩)
          clear hb3
          have u0 := Hz3.out.c0
          have u1 := Hz3.out.c1
          have u2 := Hz3.out.c2
          have v0 := Hz3.out.fz 0
          have v1 := Hz3.out.fz 1
          have v2 := Hz3.out.fz 2
          go_wp2
          (try simp only [Exit.inBlock, Exit.then])
          refine bodyPost_ret (results_s3 (s := ⟨k1, a1, b1⟩) (g := w.heap.size + 1) rfl _ rfl (by exact Hz3.out.set3 k1 a1 b1)) rfl ?_
          refine gaveSFB_as ⟨k1, a1, b1, num, ok, rfl, hok, hsd, hnum, below_set3 HB3.out (by omega) _ _ _⟩ ?_
          rw [Hr2.out]
          exact gamLarge_l rfl _
        | false =>
          have g3 : (FloatKind.f32.format.order x 1065353216 == some .gt || FloatKind.f32.format.order x 1065353216 == some .eq) = false := h3
          have Hr2 : Hid (gammaSeed ⟨k0, a0, b0⟩ x = match gamLarge (fop .add .f32 x 1065353216) ⟨k0, a0, b0⟩ with
              | none => none
              | some (t, y) => if finB (fop .mul .f32 y (expL (fop .quo .f32 (logF (leftOf t)) x))) then some (nextSd t, fop .mul .f32 y (expL (fop .quo .f32 (logF (leftOf t)) x))) else none) := by show _ = _; rw [Hr.out]; unfold gam; rw [h3]; rfl
          clear h3
          have t1 : True := trivial
          go_wp2_with (have := t1; clear this t1; refine wpList_fop _ rfl .add _ _ _ _ rfl rfl .f32 _ _ rfl rfl ?_; intro r1 q1 hr1)
          clear u0 u1 u2 v0 v1 v2 c0 c1 c2 g1 g2 g3
          refine (implLarge_any k0 a0 b0 r1 _ _ Hk.out hr1.out).mono ?_
          rintro e w3 ⟨k1, a1, b1, num, ok, rfl, hok, hsd, hnum, hb3⟩
          have Hz3 := Lib.hid (SeedAt.via hb3 Hz.out)
          have Hg3 := Lib.hid (SeedAt.via hb3 Hg.out)
          have HB3 := Lib.hid (below_via hb3 ⟨HB.out.os, HB.out.tape, HB.out.output, HB.out.size, HB.out.block⟩)
          clear hb3 hr1
          have f0 := Hg3.out.fz 0
          have f1 := Hg3.out.fz 1
          have f2 := Hg3.out.fz 2
          have x0 := Hg3.out.c0
          have x1 := Hg3.out.c1
          have x2 := Hg3.out.c2
          have Hg4 := Lib.hid (Hg3.out.set3 k1 a1 b1)
          have Hz4 := Lib.hid (Hz3.out.far3 (g' := w.heap.size) (by omega) k1 a1 b1)
          have HB4 := Lib.hid (below_set3 HB3.out (Nat.le_refl _) k1 a1 b1)
          cases hl : gamLarge (fop .add .f32 x 1065353216) ⟨k0, a0, b0⟩ with
          | none =>
            rw [hl] at hok
            obtain rfl : ok = false := hok.out
            have Hn : Hid (gammaSeed ⟨k0, a0, b0⟩ x = none) := by show _ = _; rw [Hr2.out, hl]
            clear hl hsd hnum hok
            have u0 := Hz4.out.c0
            have u1 := Hz4.out.c1
            have u2 := Hz4.out.c2
            have v0 := Hz4.out.fz 0
            have v1 := Hz4.out.fz 1
            have v2 := Hz4.out.fz 2
            go_wp2
            (try simp only [Exit.inBlock, Exit.then])
            refine bodyPost_ret (results_s3 (s := ⟨0, 0, 0⟩) (g := w.heap.size + 1) rfl _ rfl (by exact Hz4.out.set3 0 0 0)) rfl ?_
            exact gaveSFB_none Hn.out (below_set3 HB4.out (by omega) _ _ _)
          | some ty =>
            obtain ⟨t, y⟩ := ty
            rw [hl] at hok hsd hnum
            obtain rfl : ok = true := hok.out
            have hto : t.ok := gamGo_ok Hk.out hl
            have hyf := large_num hl
            obtain rfl : num = y := cn_num hnum.out (finB_not_nan hyf)
            have het : (⟨k1, a1, b1⟩ : Sd) = t := hsd.out
            subst het
            have Hr3 : Hid (gammaSeed ⟨k0, a0, b0⟩ x = if finB (fop .mul .f32 num (expL (fop .quo .f32 (logF (leftOf ⟨k1, a1, b1⟩)) x))) then some (nextSd ⟨k1, a1, b1⟩, fop .mul .f32 num (expL (fop .quo .f32 (logF (leftOf ⟨k1, a1, b1⟩)) x))) else none) := by show _ = _; rw [Hr2.out, hl]
            have Hto := Lib.hid hto
            have hll := logF_neg (leftOf_rn ⟨k1, a1, b1⟩).1 (leftOf_rn ⟨k1, a1, b1⟩).2
            have hlow := low_quo hll Hrn.out
            have hquo := fun (t : TypeId) (w : World) => run_fop_num' (P := Try.prog) (op := .quo) (k := .f32) (x := logF (leftOf ⟨k1, a1, b1⟩)) (y := x) rfl hlow.1 t w
            have hmn : isNaNB .f32 (fop .mul .f32 num (expL (fop .quo .f32 (logF (leftOf ⟨k1, a1, b1⟩)) x))) = false :=
              floatBits_not_nan (mul_some (FinK_of_fin hyf) (expL_rn hlow).1)
            have hmul := fun (t : TypeId) (w : World) => run_fop_num' (P := Try.prog) (op := .mul) (k := .f32) (x := num) (y := expL (fop .quo .f32 (logF (leftOf ⟨k1, a1, b1⟩)) x)) rfl hmn t w
            have hsub := run_fop_some (P := Try.prog) (op := .sub) 28 .f32 1065353216 (shareOf ⟨k1, a1, b1⟩) _ (sub_some (Rn.const (k := .f32) (lo := 1065353216) (hi := 1065353216) (by decide +kernel)).1 (share_rn ⟨k1, a1, b1⟩).1)
            change ∀ w : World, (binOp .sub 28 (.float .f32 1065353216) (.float .f32 (shareOf ⟨k1, a1, b1⟩))).run Try.prog w = .ok (.float .f32 (leftOf ⟨k1, a1, b1⟩)) w at hsub
            have Hsub := Lib.hid hsub
            have Hquo := Lib.hid (hquo 28)
            have Hmul := Lib.hid (hmul 28)
            have Hlow := Lib.hid hlow
            clear hsub hquo hmul hlow hmn hll hl hsd hnum hok hyf hto Hr Hr2
            have c0 := Hg4.out.c0
            have c1 := Hg4.out.c1
            have c2 := Hg4.out.c2
            simp only at c0 c1 c2
            go_wp2_with fail
            refine (implShare_any ⟨k1, a1, b1⟩ _ Hto.out).mono ?_
            rintro e w5 ⟨u, rfl, hu, hb5⟩
            obtain rfl : u = shareOf ⟨k1, a1, b1⟩ := cn_num hu.out (FinK_not_nan (share_rn _).1)
            have Hg5 := Lib.hid (SeedAt.via hb5 Hg4.out)
            have Hz5 := Lib.hid (SeedAt.via hb5 Hz4.out)
            have HB5 := Lib.hid (below_via hb5 HB4.out)
            clear hb5 c0 c1 c2 f0 f1 f2 x0 x1 x2 hu
            obtain ⟨t, ht⟩ : ∃ t, t = nextSd ⟨k1, a1, b1⟩ := ⟨_, rfl⟩
            rw [← ht] at Hr3 ⊢
            clear ht
            obtain ⟨k2, a2, b2⟩ := t
            unfold Sd.val
            have f0 := Hg5.out.fz 0
            have f1 := Hg5.out.fz 1
            have f2 := Hg5.out.fz 2
            have x0 := Hg5.out.c0
            have x1 := Hg5.out.c1
            have x2 := Hg5.out.c2
            simp only at x0 x1 x2
            have Hg6 := Lib.hid (Hg5.out.set3 k2 a2 b2)
            have Hz6 := Lib.hid (Hz5.out.far3 (g' := w.heap.size) (by omega) k2 a2 b2)
            have HB6 := Lib.hid (below_set3 HB5.out (Nat.le_refl _) k2 a2 b2)
            go_wp2_with fail
            clear x0 x1 x2 f0 f1 f2
            generalize (((w5.setCell ⟨w.heap.size, 0, none⟩ (.int .i64 k2)).setCell ⟨w.heap.size, 1, none⟩ (.int .u64 a2)).setCell ⟨w.heap.size, 2, none⟩ (.int .u64 b2)) = w6 at Hg6 Hz6 HB6 ⊢
            have c0 := Hg6.out.c0
            have c1 := Hg6.out.c1
            have c2 := Hg6.out.c2
            have u0 := Hz6.out.c0
            have u1 := Hz6.out.c1
            have u2 := Hz6.out.c2
            have v0 := Hz6.out.fz 0
            have v1 := Hz6.out.fz 1
            have v2 := Hz6.out.fz 2
            simp only at c0 c1 c2 u0 u1 u2
            have hsub := Hsub.out
            have hquo := Hquo.out
            have hmul := Hmul.out
            cases hf : finB (fop .mul .f32 num (expL (fop .quo .f32 (logF (leftOf ⟨k1, a1, b1⟩)) x))) with
            | false =>
              have Hn : Hid (gammaSeed ⟨k0, a0, b0⟩ x = none) := by show _ = _; rw [Hr3.out, if_neg (by rw [hf]; decide)]
              go_region_with (first
                | (refine (implLogE_any _ _ (leftOf_rn _).1 (leftOf_rn _).2).mono ?_; rintro e w7 ⟨rfl, q, rfl⟩)
                | (refine (implExpLE_any _ _ Hlow.out).mono ?_; rintro e w7 ⟨rfl, q, rfl⟩)
                | (refine (drawn_no ⟨k2, a2, b2⟩ _ _ hf).mono ?_; rintro e w7 ⟨rfl, hb7⟩; have Hz7 := Lib.hid (SeedAt.via hb7 Hz6.out); have HB7 := Lib.hid (below_via hb7 ⟨HB6.out.os, HB6.out.tape, HB6.out.output, HB6.out.size, HB6.out.block⟩); clear hb7; have u0 := Hz7.out.c0; have u1 := Hz7.out.c1; have u2 := Hz7.out.c2; have v0 := Hz7.out.fz 0; have v1 := Hz7.out.fz 1; have v2 := Hz7.out.fz 2; simp only at u0 u1 u2))
              all_goals go_wp2
              all_goals
                (try simp only [Exit.inBlock, Exit.then])
                refine bodyPost_ret (results_s3 (s := ⟨0, 0, 0⟩) (g := w.heap.size + 1) rfl _ rfl (by exact Hz7.out.set3 0 0 0)) rfl ?_
                exact gaveSFB_none Hn.out (below_set3 HB7.out (by omega) _ _ _)
            | true =>
              have Hn : Hid (gammaSeed ⟨k0, a0, b0⟩ x = some (⟨k2, a2, b2⟩, fop .mul .f32 num (expL (fop .quo .f32 (logF (leftOf ⟨k1, a1, b1⟩)) x)))) := by show _ = _; rw [Hr3.out, if_pos hf]
              have HX : Hid (cn .f32 (fop .mul .f32 num (expL (fop .quo .f32 (logF (leftOf ⟨k1, a1, b1⟩)) x))) = fop .mul .f32 num (expL (fop .quo .f32 (logF (leftOf ⟨k1, a1, b1⟩)) x))) := cn_fop _ _ _ _
              go_region_with (first
                | (refine (implLogE_any _ _ (leftOf_rn _).1 (leftOf_rn _).2).mono ?_; rintro e w7 ⟨rfl, q, rfl⟩)
                | (refine (implExpLE_any _ _ Hlow.out).mono ?_; rintro e w7 ⟨rfl, q, rfl⟩)
                | (refine (drawn_yes k2 a2 b2 _ _ hf).mono ?_; rintro e w7 ⟨rfl, hb7⟩; have Hz7 := Lib.hid (SeedAt.via hb7 Hz6.out); have HB7 := Lib.hid (below_via hb7 ⟨HB6.out.os, HB6.out.tape, HB6.out.output, HB6.out.size, HB6.out.block⟩); clear hb7; have u0 := Hz7.out.c0; have u1 := Hz7.out.c1; have u2 := Hz7.out.c2; have v0 := Hz7.out.fz 0; have v1 := Hz7.out.fz 1; have v2 := Hz7.out.fz 2; simp only at u0 u1 u2))
              all_goals go_wp2
              all_goals
                (try simp only [Exit.inBlock, Exit.then])
                refine bodyPost_ret (results_s3 (s := ⟨k2, a2, b2⟩) (g := w.heap.size + 1) rfl _ rfl (by exact Hz7.out.set3 k2 a2 b2)) rfl ?_
                exact gaveSFB_some (s := ⟨k2, a2, b2⟩) Hn.out HX.out (below_set3 HB7.out (by omega) _ _ _)
end Go.Proofs.Ytgbehnkccgahoaa
