/- GammaSeed of the reference, whole. -/
import Derived.Test.YtgbehnkccgahoaaGamS
namespace Go.Proofs.Ytgbehnkccgahoaa
open Go.RowKit Mag
set_option maxRecDepth 100000
theorem one_up {x : Nat} (h : Rn .f32 (1 : Nat) (1065353216 : Nat) x) : (FloatKind.f32.format.order (fop .add .f32 x 1065353216) 1065353216 == some .lt) = false := by
  have c1 : Rn .f32 (1065353216 : Nat) (1065353216 : Nat) 1065353216 := Rn.const (by decide +kernel)
  have a : Rn .f32 (1065353216 : Nat) (1073741824 : Nat) (fop .add .f32 x 1065353216) := h.add c1 (by decide +kernel)
  have := flt_KV a.1 c1.1
  unfold flt at this
  rw [this]
  have h1 := a.2; have h2 := c1.2
  simp only [decide_eq_false_iff_not]; omega
theorem gamGave_as {w w' : World} {g : Nat} {r r' : Option (Sd × Nat)} {e : Ending} (h : GamGave w g r e w') (he : r' = r) : GamGave w g r' e w' := he ▸ h
theorem lt_ge {x : Nat} (h : Rn .f32 (1 : Nat) (2139095039 : Nat) x) : ((FloatKind.f32.format.order x 1065353216 == some .lt) = false ∧ fge .f32 x 1065353216 = true) ∨ ((FloatKind.f32.format.order x 1065353216 == some .lt) = true ∧ fge .f32 x 1065353216 = false ∧ Rn .f32 (1 : Nat) (1065353216 : Nat) x) := by
  have c1 : Rn .f32 (1065353216 : Nat) (1065353216 : Nat) 1065353216 := Rn.const (by decide +kernel)
  have a := flt_KV h.1 c1.1
  have b := fge_KV h.1 c1.1
  unfold flt at a
  rw [a, b]
  have h2 := c1.2
  have h3 := h.2
  by_cases hlt : KV .f32 x < KV .f32 1065353216
  · right
    refine ⟨decide_eq_true hlt, decide_eq_false (by omega), h.1, h3.1, by omega⟩
  · left
    exact ⟨decide_eq_false hlt, decide_eq_true (by omega)⟩
set_option maxHeartbeats 4000000 in
theorem specGam_any (s : Sd) (g x : Nat) (w : World) (hs : s.ok) (hg : SeedAt w g s) (hx : Rn .f32 (1 : Nat) (2139095039 : Nat) x) :
    Calls Try.prog 28 #[.pointer (some ⟨g, 0, none⟩), .float .f32 x] w (GamGave w g (gam x s)) := by
  rcases lt_ge hx with ⟨h1, h2⟩ | ⟨h1, h2, h3⟩
  · have e : gam x s = gamLarge x s := by unfold gam; rw [h2]; rfl
    rw [e]
    exact specLarge_any s g x w hs hg h1
  · have Hr : Hid (gam x s = match gamLarge (fop .add .f32 x 1065353216) s with
        | none => none
        | some (t, y) => if finB (fop .mul .f32 y (expL (fop .quo .f32 (logF (leftOf t)) x))) then some (nextSd t, fop .mul .f32 y (expL (fop .quo .f32 (logF (leftOf t)) x))) else none) := by show _ = _; unfold gam; rw [h2]; rfl
    have Hup := Lib.hid (one_up h3)
    have Hg := Lib.hid hg; have Hs := Lib.hid hs; have Hx := Lib.hid hx
    clear h2 h3 hg hs hx
    go_enter Try.func28, Try.ntmps28
    have t1 : True := trivial
    go_wp2_with (have := t1; clear this t1; refine wpList_fop _ rfl .add _ _ _ _ rfl rfl .f32 _ _ rfl rfl ?_; intro r1 q1 hr1)
    clear h1
    refine (specLarge_any s g r1 _ Hs.out (Hg.out.drewN _) (by rw [order_l hr1.out]; exact Hup.out)).mono ?_
    rintro e w2 ⟨hor, hgr⟩
    have el : gamLarge r1 s = gamLarge (fop .add .f32 x 1065353216) s := gamLarge_l hr1.out s
    rw [el] at hor
    have HB2 := Lib.hid (show w.grownBy w2 (some g) from grown_trans (grown_drewN (grown_rfl' w (some g)) q1) hgr)
    clear hgr el hr1
    rcases hor with ⟨hn, rfl⟩ | ⟨t, y, num, hsm, hnum, rfl, hg2⟩
    · have Hn : Hid (gam x s = none) := by show _ = _; rw [Hr.out, hn]
      clear hn
      go_wp2
      go_ret2
      exact ⟨.inl ⟨Hn.out, rfl⟩, HB2.out⟩
    · have hto : t.ok := gamGo_ok Hs.out hsm
      have Hr2 : Hid (gam x s = if finB (fop .mul .f32 y (expL (fop .quo .f32 (logF (leftOf t)) x))) then some (nextSd t, fop .mul .f32 y (expL (fop .quo .f32 (logF (leftOf t)) x))) else none) := by show _ = _; rw [Hr.out, hsm]
      have Hto := Lib.hid hto; have Hg2 := Lib.hid hg2; have Hnum := Lib.hid hnum
      clear hsm hnum hg2 hto Hr
      go_wp2_with fail
      refine (specLeft_any t g _ Hto.out Hg2.out).mono ?_
      rintro e w4 ⟨l2, rfl, hl2, hg4, hgr4⟩
      have Hg4 := Lib.hid hg4
      have HB4 := Lib.hid (grown_trans HB2.out hgr4)
      clear hg4 hgr4 Hg2 HB2
      have t1 : True := trivial
      go_wp2_with (have := t1; clear this t1; refine wpList_fop _ rfl .quo _ _ _ _ rfl rfl .f32 _ _ rfl rfl ?_; intro r3 q3 h3)
      have hlow := low_quo (logF_neg (leftOf_rn t).1 (leftOf_rn t).2) Hx.out
      refine (specExpL_any _ _ _ (h3.out.trans (fop_l hl2.out _)) hlow).mono ?_
      rintro e w5 ⟨r5, rfl, h5, q5, rfl⟩
      clear h3 hl2
      have t1 : True := trivial
      go_wp2_with (have := t1; clear this t1; refine wpList_fop _ rfl .mul _ _ _ _ rfl rfl .f32 _ _ rfl rfl ?_; intro r6 q6 h6)
      have HX : Hid (cn .f32 r6 = fop .mul .f32 y (expL (fop .quo .f32 (logF (leftOf t)) x))) := by show _ = _; rw [h6.out, fop_l Hnum.out, fop_r h5.out]
      have hfx : finB r6 = finB (fop .mul .f32 y (expL (fop .quo .f32 (logF (leftOf t)) x))) := by rw [← finB_cn, HX.out]
      clear h5 h6 hlow
      refine (l02Number_any _ _).mono ?_
      rintro e w8 ⟨hor, q8, rfl⟩
      rcases hor with ⟨hf, rfl⟩ | ⟨hf, rfl⟩
      · rw [hf] at hfx
        have Hr3 : Hid (gam x s = some (nextSd t, fop .mul .f32 y (expL (fop .quo .f32 (logF (leftOf t)) x)))) := by show _ = _; rw [Hr2.out, if_pos hfx.symm]
        clear hf hfx
        go_wp2
        go_ret2
        exact ⟨.inr ⟨_, _, r6, Hr3.out, HX.out, rfl, Hg4.out.drewN _⟩, grown_drewN HB4.out _⟩
      · rw [hf] at hfx
        have Hr3 : Hid (gam x s = none) := by show _ = _; rw [Hr2.out, if_neg (by rw [← hfx]; decide)]
        clear hf hfx
        go_wp2
        go_ret2
        exact ⟨.inl ⟨Hr3.out, rfl⟩, grown_drewN HB4.out _⟩
set_option maxHeartbeats 4000000 in
theorem specGamma_any : FnSF_SFB 8 gammaSeed := by
  intro k0 a0 b0 x w hs hx
  have hg : SeedAt ((w.alloc (.cells #[.int .i64 k0, .int .u64 a0, .int .u64 b0] 26)).alloc (.cells #[.int .i64 0, .int .u64 0, .int .u64 0] 26)) w.heap.size ⟨k0, a0, b0⟩ := (SeedAt.new w k0 a0 b0).alloc _
  have hz : SeedAt ((w.alloc (.cells #[.int .i64 k0, .int .u64 a0, .int .u64 b0] 26)).alloc (.cells #[.int .i64 0, .int .u64 0, .int .u64 0] 26)) (w.heap.size + 1) ⟨0, 0, 0⟩ := SeedAt.new1 w _ 0 0 0
  have hBl : Below w.heap.size w ((w.alloc (.cells #[.int .i64 k0, .int .u64 a0, .int .u64 b0] 26)).alloc (.cells #[.int .i64 0, .int .u64 0, .int .u64 0] 26)) := ((Below.refl _ _).alloc (Nat.le_refl _) _).alloc (by rw [size_alloc']; omega) _
  go_enter Try.func8, Try.ntmps8
  go_wp2_with fail
  refine (specIs_any ⟨k0, a0, b0⟩ _ _ hs hg).mono ?_
  rintro e w1 ⟨rfl, rfl⟩
  generalize (w.alloc (.cells #[.int .i64 k0, .int .u64 a0, .int .u64 b0] 26)).alloc (.cells #[.int .i64 0, .int .u64 0, .int .u64 0] 26) = w1 at hg hz hBl ⊢
  have HB := Lib.hid hBl; have Hz := Lib.hid hz; have Hg := Lib.hid hg; have Hk := Lib.hid hs; have Hx := Lib.hid hx
  clear hBl hz hg hs hx
  have u0 := Hz.out.c0
  have u1 := Hz.out.c1
  have u2 := Hz.out.c2
  have v0 := Hz.out.fz 0
  have v1 := Hz.out.fz 1
  have v2 := Hz.out.fz 2
  simp only at u0 u1 u2
  cases hv : validB ⟨k0, a0, b0⟩ with
  | false =>
    have Hn : Hid (gammaSeed ⟨k0, a0, b0⟩ x = none) := by show _ = _; unfold gammaSeed; rw [hv]; rfl
    clear hv
    go_wp2
    (try simp only [Exit.inBlock, Exit.then])
    refine bodyPost_ret (results_s3 rfl _ rfl (Hz.out.set3 0 0 0)) rfl ?_
    exact gaveSFB_none Hn.out (below_set3 HB.out (by omega) _ _ _)
  | true =>
    go_wp2_with fail
    refine (l03Shape_any _ _).mono ?_
    rintro e w2 ⟨rfl, rfl⟩
    cases hsh : (fgt .f32 x 0 && fle .f32 x 1148846080) with
    | false =>
      have Hn : Hid (gammaSeed ⟨k0, a0, b0⟩ x = none) := by show _ = _; unfold gammaSeed; rw [hv, hsh]; rfl
      clear hv hsh
      go_wp2
      (try simp only [Exit.inBlock, Exit.then])
      refine bodyPost_ret (results_s3 rfl _ rfl (Hz.out.set3 0 0 0)) rfl ?_
      exact gaveSFB_none Hn.out (below_set3 HB.out (by omega) _ _ _)
    | true =>
      have Hr : Hid (gammaSeed ⟨k0, a0, b0⟩ x = gam x ⟨k0, a0, b0⟩) := by show _ = _; unfold gammaSeed; rw [hv, hsh]; rfl
      have hsh2 := Bool.and_eq_true _ _ |>.mp hsh
      have Hrn := Lib.hid (shape_rn Hx.out hsh2.1 hsh2.2)
      clear hv hsh hsh2
      go_wp2_with fail
      clear u0 u1 u2 v0 v1 v2
      refine (specGam_any ⟨k0, a0, b0⟩ w.heap.size x _ Hk.out Hg.out Hrn.out).mono ?_
      rintro e w3 ⟨hor, hgr⟩
      have Hz3 := Lib.hid (Hz.out.grown hgr (by simp))
      have HB3 := Lib.hid (HB.out.grown hgr HB.out.size (fun j e => by cases e; exact Nat.le_refl _))
      clear hgr
      have u0 := Hz3.out.c0
      have u1 := Hz3.out.c1
      have u2 := Hz3.out.c2
      have v0 := Hz3.out.fz 0
      have v1 := Hz3.out.fz 1
      have v2 := Hz3.out.fz 2
      simp only at u0 u1 u2
      rcases hor with ⟨hn, rfl⟩ | ⟨t, y, num, hsm, hnum, rfl, hg2⟩
      · have Hn : Hid (gammaSeed ⟨k0, a0, b0⟩ x = none) := by show _ = _; rw [Hr.out, hn]
        clear hn
        go_wp2
        (try simp only [Exit.inBlock, Exit.then])
        refine bodyPost_ret (results_s3 rfl _ rfl (Hz3.out.set3 0 0 0)) rfl ?_
        exact gaveSFB_none Hn.out (below_set3 HB3.out (by omega) _ _ _)
      · have Hn : Hid (gammaSeed ⟨k0, a0, b0⟩ x = some (t, y)) := by show _ = _; rw [Hr.out, hsm]
        have Hnum := Lib.hid hnum
        have Hg2 := Lib.hid hg2
        clear hsm hnum hg2
        obtain ⟨k2, a2, b2⟩ := t
        have c0 := Hg2.out.c0
        have c1 := Hg2.out.c1
        have c2 := Hg2.out.c2
        simp only at c0 c1 c2
        go_wp2
        (try simp only [Exit.inBlock, Exit.then])
        refine bodyPost_ret (results_s3 (s := ⟨k2, a2, b2⟩) (g := w.heap.size + 1) rfl _ rfl (by exact Hz3.out.set3 k2 a2 b2)) rfl ?_
        exact gaveSFB_some (s := ⟨k2, a2, b2⟩) Hn.out Hnum.out (below_set3 HB3.out (by omega) _ _ _)
end Go.Proofs.Ytgbehnkccgahoaa
