/- WaitSeed: a number of a wait. -/
import Derived.Test.YtomepdbpemgcfaaLog
import Derived.Test.YtomepdbpemgcfaaNeg
import Derived.Test.YtomepdbpemgcfaaBetween
namespace Go.Proofs.Ytomepdbpemgcfaa
open Go.RowKit Mag
attribute [local go_sem] run_negF
def waitX (s : Sd) (rate : Nat) : Nat := fop .quo .f32 (negC .f32 (logF (leftOf s))) rate
def waitSeed (s : Sd) (rate : Nat) : Option (Sd × Nat) :=
  if validB s && posB rate && finB (waitX s rate) then some (nextSd s, waitX s rate) else none
theorem logLeft_rn (s : Sd) : Rn .f32 (-(1128792064 : Nat)) (1128792064 : Nat) (logF (leftOf s)) := logF_rn (leftOf_rn s).1 (leftOf_rn s).2
/-- A number that is finite by the test is finite. -/
theorem FinK_of_fin {x : Nat} (h : finB x = true) : FinK .f32 x := by
  have hn := finB_not_nan h
  rw [nan_rung] at hn
  simp only [decide_eq_false_iff_not] at hn
  rcases Nat.lt_or_ge (rungW FloatKind.f32.format x) FloatKind.f32.format.infRung with hl | hg
  · exact hl
  · exfalso
    have he : rungW Ieee.single x = Ieee.single.infRung := by
      show rungW FloatKind.f32.format x = FloatKind.f32.format.infRung
      omega
    have hr : FloatKind.f32.format.read x = .infinity (negW Ieee.single x) := by
      show Ieee.single.read x = _
      unfold Ieee.Format.read
      dsimp only
      change (if rungW Ieee.single x < Ieee.single.binade then _ else if rungW Ieee.single x < Ieee.single.infRung then _ else if rungW Ieee.single x = Ieee.single.infRung then _ else _ : Ieee.Datum) = _
      rw [he, if_neg (by decide), if_neg (by decide), if_pos rfl]
      rfl
    have hq : fop .sub .f32 x x = qnan .f32 := by
      unfold fop floatBits
      dsimp only
      unfold Ieee.Format.sub
      rw [hr]
      cases negW Ieee.single x <;> rfl
    unfold finB feq at h
    rw [hq, order_nan_l (qnan_isNaN .f32)] at h
    cases h
theorem pos_KV {x : Nat} (h : posB x = true) : FinK .f32 x ∧ 0 < KV .f32 x := by
  unfold posB at h
  simp only [Bool.and_eq_true] at h
  have hf := FinK_of_fin h.1
  have h0 : FinK .f32 0 ∧ KV .f32 0 = 0 := ⟨(Rn.const (k := .f32) (lo := 0) (hi := 0) (by decide +kernel)).1, by decide +kernel⟩
  have := fgt_KV hf h0.1
  rw [h.2, h0.2] at this
  exact ⟨hf, by simpa using this.symm⟩
theorem implLogE_any (a : Nat) (w : World) (h1 : 1 ≤ a) (h2 : a ≤ 1065353216) :
    Calls Try.prog 37 #[.float .f32 a] w fun e w' => e = .returned (.float .f32 (logF a)) ∧ ∃ q, w' = w.drewN q :=
  (implLog_any a a w (Fin_one h2).1.cn h1 h2).mono fun _ _ ⟨r, he, hr, hq⟩ => ⟨by rw [he, cn_num hr.out (FinK_not_nan (logF_rn h1 h2).1)], hq⟩
theorem drawn_no (s : Sd) (x : Nat) (w : World) (hf : finB x = false) :
    Calls Try.prog 29 #[s.val, .float .f32 x] w fun e w' => e = .returned (.tuple #[.agg #[.int .i64 0, .int .u64 0, .int .u64 0], .float .f32 0, .bool false]) ∧ Below w.heap.size w w' :=
  (drawn_any s x w).mono fun _ _ ⟨h, hb⟩ => by
    rcases h with ⟨h1, _⟩ | ⟨_, h2⟩
    · rw [hf] at h1; cases h1
    · exact ⟨h2, hb⟩
theorem drawn_yes (k a b : Int) (x : Nat) (w : World) (hf : finB x = true) :
    Calls Try.prog 29 #[.agg #[.int .i64 k, .int .u64 a, .int .u64 b], .float .f32 x] w fun e w' => e = .returned (.tuple #[.agg #[.int .i64 k, .int .u64 a, .int .u64 b], .float .f32 x, .bool true]) ∧ Below w.heap.size w w' :=
  (drawn_any ⟨k, a, b⟩ x w).mono fun _ _ ⟨h, hb⟩ => by
    rcases h with ⟨_, h2⟩ | ⟨h1, _⟩
    · exact ⟨h2, hb⟩
    · rw [hf] at h1; cases h1
theorem SeedAt.via {W w' : World} {g : Nat} {s : Sd} (hb : Below W.heap.size W w') (h : SeedAt W g s) : SeedAt w' g s := h.below hb h.lt
theorem below_via {w W w' : World} (hb : Below W.heap.size W w') (h : Below w.heap.size w W) : Below w.heap.size w w' := h.trans (hb.mono h.size)
set_option maxHeartbeats 1000000 in
theorem specWait_any : FnSF_SFB 14 waitSeed := by
  intro k0 a0 b0 rate w hs _
  have hz0 : ((w.alloc (.cells #[.int .i64 k0, .int .u64 a0, .int .u64 b0] 26)).alloc (.cells #[.int .i64 0, .int .u64 0, .int .u64 0] 26)).heap.size = w.heap.size + 2 := by rw [size_alloc', size_alloc']
  have hg : SeedAt ((w.alloc (.cells #[.int .i64 k0, .int .u64 a0, .int .u64 b0] 26)).alloc (.cells #[.int .i64 0, .int .u64 0, .int .u64 0] 26)) w.heap.size ⟨k0, a0, b0⟩ := (SeedAt.new w k0 a0 b0).alloc _
  have hz : SeedAt ((w.alloc (.cells #[.int .i64 k0, .int .u64 a0, .int .u64 b0] 26)).alloc (.cells #[.int .i64 0, .int .u64 0, .int .u64 0] 26)) (w.heap.size + 1) ⟨0, 0, 0⟩ := SeedAt.new1 w _ 0 0 0
  have hBl : Below w.heap.size w ((w.alloc (.cells #[.int .i64 k0, .int .u64 a0, .int .u64 b0] 26)).alloc (.cells #[.int .i64 0, .int .u64 0, .int .u64 0] 26)) := ((Below.refl _ _).alloc (Nat.le_refl _) _).alloc (by rw [size_alloc']; omega) _
  go_enter Try.func14, Try.ntmps14
  go_wp2_with fail
  refine (specIs_any ⟨k0, a0, b0⟩ _ _ hs hg).mono ?_
  rintro e w1 ⟨rfl, rfl⟩
  generalize (w.alloc (.cells #[.int .i64 k0, .int .u64 a0, .int .u64 b0] 26)).alloc (.cells #[.int .i64 0, .int .u64 0, .int .u64 0] 26) = w1 at hz0 hg hz hBl ⊢
  have HB := Lib.hid hBl; have Hz := Lib.hid hz; have Hg := Lib.hid hg; have Hk : Hid (Sd.ok ⟨k0, a0, b0⟩) := hs
  clear hBl hz hg hs hz0
  have u0 := Hz.out.c0
  have u1 := Hz.out.c1
  have u2 := Hz.out.c2
  have v0 := Hz.out.fz 0
  have v1 := Hz.out.fz 1
  have v2 := Hz.out.fz 2
  simp only at u0 u1 u2
  cases hv : validB ⟨k0, a0, b0⟩ with
  | false =>
    have Hn : Hid (waitSeed ⟨k0, a0, b0⟩ rate = none) := by show _ = _; simp [waitSeed, hv]
    go_wp2
    (try simp only [Exit.inBlock, Exit.then])
    refine bodyPost_ret (results_s3 rfl _ rfl (Hz.out.set3 0 0 0)) rfl ?_
    exact gaveSFB_none Hn.out (below_set3 HB.out (by omega) _ _ _)
  | true =>
    have Hv := Lib.hid hv
    clear hv
    go_wp2_with fail
    refine (l02Above_any _ _).mono ?_
    rintro e w2 ⟨rfl, q1, rfl⟩
    cases hp : posB rate with
    | false =>
      have Hn : Hid (waitSeed ⟨k0, a0, b0⟩ rate = none) := by show _ = _; simp [waitSeed, hp]
      clear hp
      go_wp2
      (try simp only [Exit.inBlock, Exit.then])
      refine bodyPost_ret (results_s3 rfl _ rfl ((Hz.out.drewN q1).set3 0 0 0)) rfl ?_
      exact gaveSFB_none Hn.out (below_set3 (below_drewN HB.out q1) (by omega) _ _ _)
    | true =>
      have Hr : Hid (waitSeed ⟨k0, a0, b0⟩ rate = if finB (waitX ⟨k0, a0, b0⟩ rate) then some (nextSd ⟨k0, a0, b0⟩, waitX ⟨k0, a0, b0⟩ rate) else none) := by show _ = _; simp [waitSeed, Hv.out, hp]
      clear hp u0 u1 u2 v0 v1 v2
      go_wp2_with fail
      refine (specLeft_any ⟨k0, a0, b0⟩ _ _ Hk.out (Hg.out.drewN q1)).mono ?_
      rintro e w3 ⟨l, rfl, hl, hg3, hgr⟩
      have Hg3 := Lib.hid hg3
      have Hz3 := Lib.hid ((Hz.out.drewN q1).grown hgr (by simp))
      have HB3 := Lib.hid ((below_drewN HB.out q1).grown hgr HB.out.size (fun _ h => by cases h; exact Nat.le_refl _))
      clear hgr hg3
      obtain ⟨t, ht⟩ : ∃ t, t = nextSd ⟨k0, a0, b0⟩ := ⟨_, rfl⟩
      rw [← ht] at Hr Hg3
      clear ht
      go_wp2_with (refine wpList_fop _ rfl .quo _ _ _ _ rfl rfl .f32 _ _ rfl rfl ?_; intro x q2 hx)
      have hX : Hid (cn .f32 x = waitX ⟨k0, a0, b0⟩ rate) := by
        show _ = _
        rw [hx.out, fop_l (negC_l hl.out)]; rfl
      refine (give_any t w.heap.size x _ (Hg3.out.drewN q2)).mono ?_
      rintro e w5 ⟨hor, hb5⟩
      have Hz5 := Lib.hid ((Hz3.out.drewN q2).below hb5 Hz3.out.lt)
      have HB5 := Lib.hid ((below_drewN HB3.out q2).trans (hb5.mono HB3.out.size))
      clear hb5
      have u0 := Hz5.out.c0
      have u1 := Hz5.out.c1
      have u2 := Hz5.out.c2
      have v0 := Hz5.out.fz 0
      have v1 := Hz5.out.fz 1
      have v2 := Hz5.out.fz 2
      simp only at u0 u1 u2
      have hfx : finB x = finB (waitX ⟨k0, a0, b0⟩ rate) := by rw [← finB_cn, hX.out]
      obtain ⟨k1, a1, b1⟩ := t
      rcases hor with ⟨hf, rfl⟩ | ⟨hf, rfl⟩
      · rw [hf] at hfx
        have Hr2 : Hid (waitSeed ⟨k0, a0, b0⟩ rate = some (⟨k1, a1, b1⟩, waitX ⟨k0, a0, b0⟩ rate)) := by show _ = _; rw [Hr.out, if_pos hfx.symm]
        clear hf hfx
        unfold Sd.val
        go_wp2
        (try simp only [Exit.inBlock, Exit.then])
        refine bodyPost_ret (results_s3 (s := ⟨k1, a1, b1⟩) (g := w.heap.size + 1) rfl _ rfl (by exact Hz5.out.set3 k1 a1 b1)) rfl ?_
        exact gaveSFB_some (s := ⟨k1, a1, b1⟩) Hr2.out hX.out (below_set3 HB5.out (by omega) _ _ _)
      · rw [hf] at hfx
        have Hr2 : Hid (waitSeed ⟨k0, a0, b0⟩ rate = none) := by show _ = _; rw [Hr.out, if_neg (by rw [← hfx]; decide)]
        clear hf hfx
        unfold Sd.val Sd.zero
        go_wp2
        (try simp only [Exit.inBlock, Exit.then])
        refine bodyPost_ret (results_s3 (s := ⟨0, 0, 0⟩) (g := w.heap.size + 1) rfl _ rfl (by exact Hz5.out.set3 0 0 0)) rfl ?_
        exact gaveSFB_none Hr2.out (below_set3 HB5.out (by omega) _ _ _)
set_option maxHeartbeats 2000000 in
theorem implWait_any : FnSF_SFB 13 waitSeed := by
  intro k0 a0 b0 rate w hs _
  have hz0 : ((w.alloc (.cells #[.int .i64 k0, .int .u64 a0, .int .u64 b0] 26)).alloc (.cells #[.int .i64 0, .int .u64 0, .int .u64 0] 26)).heap.size = w.heap.size + 2 := by rw [size_alloc', size_alloc']
  go_enter Try.func13, Try.ntmps13
  go_wp2_with fail
  refine (implValid_any ⟨k0, a0, b0⟩ _ hs).mono ?_
  rintro e w1 ⟨rfl, hb1⟩
  rw [hz0] at hb1
  have hBl : Below w.heap.size w w1 := (((Below.refl _ _).alloc (Nat.le_refl _) _).alloc (by rw [size_alloc']; omega) _).trans (hb1.mono (by omega))
  have hg : SeedAt w1 w.heap.size ⟨k0, a0, b0⟩ := ((SeedAt.new w k0 a0 b0).alloc _).below hb1 (by omega)
  have hz : SeedAt w1 (w.heap.size + 1) ⟨0, 0, 0⟩ := (SeedAt.new1 w _ 0 0 0).below hb1 (by omega)
  clear hz0 hb1
  have HB := Lib.hid hBl; have Hz := Lib.hid hz; have Hg := Lib.hid hg; have Hk : Hid (Sd.ok ⟨k0, a0, b0⟩) := hs
  clear hBl hz hg hs
  have u0 := Hz.out.c0
  have u1 := Hz.out.c1
  have u2 := Hz.out.c2
  have v0 := Hz.out.fz 0
  have v1 := Hz.out.fz 1
  have v2 := Hz.out.fz 2
  simp only at u0 u1 u2
  cases hv : validB ⟨k0, a0, b0⟩ with
  | false =>
    have Hn : Hid (waitSeed ⟨k0, a0, b0⟩ rate = none) := by show _ = _; simp [waitSeed, hv]
    go_wp2
    (try simp only [Exit.inBlock, Exit.then])
    refine bodyPost_ret (results_s3 rfl _ rfl (Hz.out.set3 0 0 0)) rfl ?_
    exact gaveSFB_none Hn.out (below_set3 HB.out (by omega) _ _ _)
  | true =>
    have Hv := Lib.hid hv
    clear hv u0 u1 u2 v0 v1 v2
    go_wp2_with fail
    refine (arePos_any _ 1 1 _ [rate] _ (by exact rd_newF w1 [rate] 28) (by simp)).mono ?_
    rintro e w2 ⟨rfl, q2, rfl⟩
    have hz2 := (Hz.out.alloc (.cells #[.float .f32 rate] 28)).drewN q2
    have hg2 := (Hg.out.alloc (.cells #[.float .f32 rate] 28)).drewN q2
    have HB2 := Lib.hid (below_drewN (HB.out.alloc HB.out.size (.cells #[.float .f32 rate] 28)) q2)
    generalize hw2 : (w1.alloc (.cells #[.float .f32 rate] 28)).drewN q2 = w2 at hz2 hg2 HB2 ⊢
    clear hw2
    have Hz2 := Lib.hid hz2; have Hg2 := Lib.hid hg2
    clear hz2 hg2
    have Hal : Hid (allP posB [rate] = posB rate) := by show _ = _; simp [allP]
    have u0 := Hz2.out.c0
    have u1 := Hz2.out.c1
    have u2 := Hz2.out.c2
    have v0 := Hz2.out.fz 0
    have v1 := Hz2.out.fz 1
    have v2 := Hz2.out.fz 2
    simp only at u0 u1 u2
    rw [Hal.out]
    cases hp : posB rate with
    | false =>
      have Hn : Hid (waitSeed ⟨k0, a0, b0⟩ rate = none) := by show _ = _; simp [waitSeed, hp]
      clear hp
      go_wp2
      (try simp only [Exit.inBlock, Exit.then])
      refine bodyPost_ret (results_s3 rfl _ rfl (Hz2.out.set3 0 0 0)) rfl ?_
      exact gaveSFB_none Hn.out (below_set3 HB2.out (by omega) _ _ _)
    | true =>
      have Hr : Hid (waitSeed ⟨k0, a0, b0⟩ rate = if finB (waitX ⟨k0, a0, b0⟩ rate) then some (nextSd ⟨k0, a0, b0⟩, waitX ⟨k0, a0, b0⟩ rate) else none) := by show _ = _; simp [waitSeed, Hv.out, hp]
      have hlr := logLeft_rn ⟨k0, a0, b0⟩
      have hpk := pos_KV hp
      have hsub := run_fop_some (P := Try.prog) (op := .sub) 28 .f32 1065353216 (shareOf ⟨k0, a0, b0⟩) _ (sub_some (Rn.const (k := .f32) (lo := 1065353216) (hi := 1065353216) (by decide +kernel)).1 (share_rn ⟨k0, a0, b0⟩).1)
      have hquo := run_fop_some (P := Try.prog) (op := .quo) 28 .f32 (Op.negFloat .f32 (logF (leftOf ⟨k0, a0, b0⟩))) rate _ (quo_some (FinK_neg hlr.1) hpk.1 (by omega))
      have hwX : Hid (waitX ⟨k0, a0, b0⟩ rate = fop .quo .f32 (Op.negFloat .f32 (logF (leftOf ⟨k0, a0, b0⟩))) rate) := by show _ = _; unfold waitX; rw [negC_fin hlr.1]
      rw [← hwX.out] at hquo
      change ∀ w : World, (binOp .sub 28 (.float .f32 1065353216) (.float .f32 (shareOf ⟨k0, a0, b0⟩))).run Try.prog w = .ok (.float .f32 (leftOf ⟨k0, a0, b0⟩)) w at hsub
      have Hsub := Lib.hid hsub
      have Hquo := Lib.hid hquo
      have c0 := Hg2.out.c0
      have c1 := Hg2.out.c1
      have c2 := Hg2.out.c2
      simp only at c0 c1 c2
      clear hp u0 u1 u2 v0 v1 v2 hlr hpk hsub hquo
      go_wp2_with fail
      refine (implShare_any ⟨k0, a0, b0⟩ _ Hk.out).mono ?_
      rintro e w3 ⟨u, rfl, hu, hb3⟩
      obtain rfl : u = shareOf ⟨k0, a0, b0⟩ := cn_num hu.out (FinK_not_nan (share_rn _).1)
      have hg3 := Hg2.out.below hb3 Hg2.out.lt
      have hz3 := Hz2.out.below hb3 Hz2.out.lt
      have HB3 := Lib.hid (HB2.out.trans (hb3.mono HB2.out.size))
      clear hb3 c0 c1 c2
      obtain ⟨t, ht⟩ : ∃ t, t = nextSd ⟨k0, a0, b0⟩ := ⟨_, rfl⟩
      rw [← ht] at Hr ⊢
      clear ht
      obtain ⟨k1, a1, b1⟩ := t
      unfold Sd.val
      have c0 := hg3.c0
      have c1 := hg3.c1
      have c2 := hg3.c2
      have f0 := hg3.fz 0
      have f1 := hg3.fz 1
      have f2 := hg3.fz 2
      simp only at c0 c1 c2
      have Hg4 := Lib.hid (hg3.set3 k1 a1 b1)
      have Hz4 := Lib.hid (hz3.far3 (g' := w.heap.size) (by omega) k1 a1 b1)
      have HB4 := Lib.hid (below_set3 HB3.out (Nat.le_refl _) k1 a1 b1)
      clear hg3 hz3
      go_wp2_with fail
      clear c0 c1 c2 f0 f1 f2
      generalize (((w3.setCell ⟨w.heap.size, 0, none⟩ (.int .i64 k1)).setCell ⟨w.heap.size, 1, none⟩ (.int .u64 a1)).setCell ⟨w.heap.size, 2, none⟩ (.int .u64 b1)) = w5 at Hg4 Hz4 HB4 ⊢
      have c0 := Hg4.out.c0
      have c1 := Hg4.out.c1
      have c2 := Hg4.out.c2
      have u0 := Hz4.out.c0
      have u1 := Hz4.out.c1
      have u2 := Hz4.out.c2
      have v0 := Hz4.out.fz 0
      have v1 := Hz4.out.fz 1
      have v2 := Hz4.out.fz 2
      simp only at c0 c1 c2 u0 u1 u2
      have hsub := Hsub.out
      have hquo := Hquo.out
      cases hf : finB (waitX ⟨k0, a0, b0⟩ rate) with
      | false =>
        have Hn : Hid (waitSeed ⟨k0, a0, b0⟩ rate = none) := by show _ = _; rw [Hr.out, if_neg (by rw [hf]; decide)]
        go_region_with (first
          | (refine (implLogE_any _ _ (leftOf_rn _).1 (leftOf_rn _).2).mono ?_; rintro e w7 ⟨rfl, q, rfl⟩)
          | (refine (drawn_no ⟨k1, a1, b1⟩ _ _ hf).mono ?_; rintro e w7 ⟨rfl, hb7⟩; have Hz7 := Lib.hid (SeedAt.via hb7 Hz4.out); have HB7 := Lib.hid (below_via hb7 ⟨HB4.out.os, HB4.out.tape, HB4.out.output, HB4.out.size, HB4.out.block⟩); clear hb7; have u0 := Hz7.out.c0; have u1 := Hz7.out.c1; have u2 := Hz7.out.c2; have v0 := Hz7.out.fz 0; have v1 := Hz7.out.fz 1; have v2 := Hz7.out.fz 2; simp only at u0 u1 u2))
        all_goals go_wp2
        all_goals
          (try simp only [Exit.inBlock, Exit.then])
          refine bodyPost_ret (results_s3 (s := ⟨0, 0, 0⟩) (g := w.heap.size + 1) rfl _ rfl (by exact Hz7.out.set3 0 0 0)) rfl ?_
          exact gaveSFB_none Hn.out (below_set3 HB7.out (by omega) _ _ _)
      | true =>
        have Hn : Hid (waitSeed ⟨k0, a0, b0⟩ rate = some (⟨k1, a1, b1⟩, waitX ⟨k0, a0, b0⟩ rate)) := by show _ = _; rw [Hr.out, if_pos hf]
        have HX : Hid (cn .f32 (waitX ⟨k0, a0, b0⟩ rate) = waitX ⟨k0, a0, b0⟩ rate) := cn_fop _ _ _ _
        go_region_with (first
          | (refine (implLogE_any _ _ (leftOf_rn _).1 (leftOf_rn _).2).mono ?_; rintro e w7 ⟨rfl, q, rfl⟩)
          | (refine (drawn_yes k1 a1 b1 _ _ hf).mono ?_; rintro e w7 ⟨rfl, hb7⟩; have Hz7 := Lib.hid (SeedAt.via hb7 Hz4.out); have HB7 := Lib.hid (below_via hb7 ⟨HB4.out.os, HB4.out.tape, HB4.out.output, HB4.out.size, HB4.out.block⟩); clear hb7; have u0 := Hz7.out.c0; have u1 := Hz7.out.c1; have u2 := Hz7.out.c2; have v0 := Hz7.out.fz 0; have v1 := Hz7.out.fz 1; have v2 := Hz7.out.fz 2; simp only at u0 u1 u2))
        all_goals go_wp2
        all_goals
          (try simp only [Exit.inBlock, Exit.then])
          refine bodyPost_ret (results_s3 (s := ⟨k1, a1, b1⟩) (g := w.heap.size + 1) rfl _ rfl (by exact Hz7.out.set3 k1 a1 b1)) rfl ?_
          exact gaveSFB_some (s := ⟨k1, a1, b1⟩) Hn.out HX.out (below_set3 HB7.out (by omega) _ _ _)
end Go.Proofs.Ytomepdbpemgcfaa
