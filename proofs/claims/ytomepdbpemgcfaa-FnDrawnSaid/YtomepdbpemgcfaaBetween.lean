/- BetweenSeed: a number between two others. -/
import Derived.Test.YtomepdbpemgcfaaShare
import Derived.Test.YtomepdbpemgcfaaShapesSF
import Derived.Test.YtomepdbpemgcfaaPicks
namespace Go.Proofs.Ytomepdbpemgcfaa
open Go.RowKit
theorem rd_newF (w : World) (xs : List Nat) (e : TypeId) : Rd (w.alloc (.cells (f32s xs).toArray e)) (w.heap.size + 1) (some ⟨w.heap.size, 0, none⟩) xs.length (f32s xs) := by
  refine ⟨f32s_length xs, fun _ => ⟨w.heap.size, 0, rfl, by omega, fun j u hu => ?_⟩⟩
  rw [Nat.zero_add, cell_of_row _ _ j _ e (0, 0) (heap_alloc_new w _)]
  simpa using hu
/-- What a number drawn between two others is. -/
def betweenX (u lo hi : Nat) : Nat :=
  if flt .f32 (fop .add .f32 lo (fop .mul .f32 (fop .sub .f32 hi lo) u)) hi then fop .add .f32 lo (fop .mul .f32 (fop .sub .f32 hi lo) u) else cn .f32 lo
def betweenSeed (s : Sd) (lo hi : Nat) : Option (Sd × Nat) :=
  if validB s && finB lo && finB hi && flt .f32 lo hi && finB (fop .sub .f32 hi lo) && finB (betweenX (shareOf s) lo hi) then some (nextSd s, betweenX (shareOf s) lo hi) else none
theorem give_any (s : Sd) (g x : Nat) (w : World) (hg : SeedAt w g s) :
    Calls Try.prog 32 #[.pointer (some ⟨g, 0, none⟩), .float .f32 x] w fun e w' => ((finB x = true ∧ e = .returned (.tuple #[s.val, .float .f32 x, .bool true])) ∨ (finB x = false ∧ e = .returned (.tuple #[Sd.zero.val, .float .f32 0, .bool false]))) ∧ Below w.heap.size w w' := by
  have Hg := Lib.hid hg
  clear hg
  go_enter Try.func32, Try.ntmps32
  go_wp2_with fail
  refine (l01Fin_any _ _).mono ?_
  rintro e w1 ⟨rfl, q, rfl⟩
  have hz := SeedAt.new w 0 0 0
  have HB : Hid (Below w.heap.size w ((w.alloc (.cells #[.int .i64 0, .int .u64 0, .int .u64 0] 26)).drewN q)) := below_drewN ((Below.refl _ _).alloc (Nat.le_refl _) _) q
  have hg1 := Hg.out.alloc (.cells #[.int .i64 0, .int .u64 0, .int .u64 0] 26)
  have c0 := hg1.c0
  have c1 := hg1.c1
  have c2 := hg1.c2
  have u0 := hz.c0
  have u1 := hz.c1
  have u2 := hz.c2
  have v0 := hz.fz 0
  have v1 := hz.fz 1
  have v2 := hz.fz 2
  cases hf : finB x with
  | false =>
    go_wp2
    (try simp only [Exit.inBlock, Exit.then])
    refine bodyPost_ret (results_s3 rfl _ rfl ((hz.drewN q).set3 0 0 0)) rfl ?_
    exact ⟨.inr ⟨hf, rfl⟩, below_set3 HB.out (Nat.le_refl _) _ _ _⟩
  | true =>
    go_wp2
    (try simp only [Exit.inBlock, Exit.then])
    refine bodyPost_ret (results_s3 rfl _ rfl ((hz.drewN q).set3 s.kind s.a s.b)) rfl ?_
    exact ⟨.inl ⟨hf, rfl⟩, below_set3 HB.out (Nat.le_refl _) _ _ _⟩
theorem drawn_any (s : Sd) (x : Nat) (w : World) :
    Calls Try.prog 29 #[s.val, .float .f32 x] w fun e w' => ((finB x = true ∧ e = .returned (.tuple #[s.val, .float .f32 x, .bool true])) ∨ (finB x = false ∧ e = .returned (.tuple #[Sd.zero.val, .float .f32 0, .bool false]))) ∧ Below w.heap.size w w' := by
  unfold Sd.val
  go_enter Try.func29, Try.ntmps29
  go_wp2_with fail
  refine (isFin_any _ _).mono ?_
  rintro e w1 ⟨rfl, q, rfl⟩
  have hg := (SeedAt.new w s.kind s.a s.b).alloc (.cells #[.int .i64 0, .int .u64 0, .int .u64 0] 26)
  have hz := SeedAt.new1 w (.cells #[.int .i64 s.kind, .int .u64 s.a, .int .u64 s.b] 26) 0 0 0
  have HB : Hid (Below w.heap.size w (((w.alloc (.cells #[.int .i64 s.kind, .int .u64 s.a, .int .u64 s.b] 26)).alloc (.cells #[.int .i64 0, .int .u64 0, .int .u64 0] 26)).drewN q)) := below_drewN (((Below.refl _ _).alloc (Nat.le_refl _) _).alloc (by rw [size_alloc']; omega) _) q
  have c0 := hg.c0
  have c1 := hg.c1
  have c2 := hg.c2
  have u0 := hz.c0
  have u1 := hz.c1
  have u2 := hz.c2
  have v0 := hz.fz 0
  have v1 := hz.fz 1
  have v2 := hz.fz 2
  cases hf : finB x with
  | false =>
    go_wp2
    (try simp only [Exit.inBlock, Exit.then])
    refine bodyPost_ret (results_s3 rfl _ rfl ((hz.drewN q).set3 0 0 0)) rfl ?_
    exact ⟨.inr ⟨hf, rfl⟩, below_set3 HB.out (by omega) _ _ _⟩
  | true =>
    go_wp2
    (try simp only [Exit.inBlock, Exit.then])
    refine bodyPost_ret (results_s3 rfl _ rfl ((hz.drewN q).set3 s.kind s.a s.b)) rfl ?_
    exact ⟨.inl ⟨hf, rfl⟩, below_set3 HB.out (by omega) _ _ _⟩
set_option maxHeartbeats 1000000 in
theorem implBetween_any : FnSFF_SFB 9 betweenSeed := by
  intro k0 a0 b0 lo hi w hs _ _
  have hz0 : ((w.alloc (.cells #[.int .i64 k0, .int .u64 a0, .int .u64 b0] 26)).alloc (.cells #[.int .i64 0, .int .u64 0, .int .u64 0] 26)).heap.size = w.heap.size + 2 := by rw [size_alloc', size_alloc']
  go_enter Try.func9, Try.ntmps9
  have tok : True := trivial
  go_wp2_with (have := tok; clear this tok; refine wpList_fop _ rfl .sub _ _ _ _ rfl rfl .f32 _ _ rfl rfl ?_; intro wd q0 hwd)
  refine (implValid_any ⟨k0, a0, b0⟩ _ hs).mono ?_
  rintro e w1 ⟨rfl, hb1⟩
  replace hb1 : Below (w.heap.size + 2) (((w.alloc (.cells #[.int .i64 k0, .int .u64 a0, .int .u64 b0] 26)).alloc (.cells #[.int .i64 0, .int .u64 0, .int .u64 0] 26)).drewN q0) w1 := by rw [← hz0]; exact hb1
  have hBl : Below w.heap.size w w1 := (below_drewN (((Below.refl _ _).alloc (Nat.le_refl _) _).alloc (by rw [size_alloc']; omega) _) q0).trans (hb1.mono (by omega))
  have hg : SeedAt w1 w.heap.size ⟨k0, a0, b0⟩ := (((SeedAt.new w k0 a0 b0).alloc _).drewN q0).below hb1 (by omega)
  have hz : SeedAt w1 (w.heap.size + 1) ⟨0, 0, 0⟩ := ((SeedAt.new1 w _ 0 0 0).drewN q0).below hb1 (by omega)
  clear hz0 hb1
  have HB := Lib.hid hBl; have Hz := Lib.hid hz; have Hg := Lib.hid hg; have Hk : Hid (Sd.ok ⟨k0, a0, b0⟩) := hs
  clear hBl hz hg hs
  have Hwf : Hid (finB wd = finB (fop .sub .f32 hi lo)) := by show _ = _; rw [← finB_cn wd, hwd.out]
  have hcnt : Hid (cn .f32 (fop .sub .f32 hi lo) = fop .sub .f32 hi lo) := cn_fop _ _ _ _
  have u0 := Hz.out.c0
  have u1 := Hz.out.c1
  have u2 := Hz.out.c2
  have v0 := Hz.out.fz 0
  have v1 := Hz.out.fz 1
  have v2 := Hz.out.fz 2
  simp only at u0 u1 u2
  cases hv : validB ⟨k0, a0, b0⟩ with
  | false =>
    have Hn : Hid (betweenSeed ⟨k0, a0, b0⟩ lo hi = none) := by show _ = _; simp [betweenSeed, hv]
    go_wp2
    (try simp only [Exit.inBlock, Exit.then])
    refine bodyPost_ret (results_s3 rfl _ rfl (Hz.out.set3 0 0 0)) rfl ?_
    exact gaveSFB_none Hn.out (below_set3 HB.out (by omega) _ _ _)
  | true =>
    have Hv := Lib.hid hv
    clear hv u0 u1 u2 v0 v1 v2
    go_wp2_with fail
    refine (areFin_any _ 3 3 _ [lo, hi, wd] _ (by exact rd_newF w1 [lo, hi, wd] 28) (by simp)).mono ?_
    rintro e w2 ⟨rfl, q2, rfl⟩
    have hz2 := (Hz.out.alloc (.cells #[.float .f32 lo, .float .f32 hi, .float .f32 wd] 28)).drewN q2
    have hg2 := (Hg.out.alloc (.cells #[.float .f32 lo, .float .f32 hi, .float .f32 wd] 28)).drewN q2
    have HB2 := Lib.hid (below_drewN (HB.out.alloc HB.out.size (.cells #[.float .f32 lo, .float .f32 hi, .float .f32 wd] 28)) q2)
    generalize hw2 : (w1.alloc (.cells #[.float .f32 lo, .float .f32 hi, .float .f32 wd] 28)).drewN q2 = w2 at hz2 hg2 HB2 ⊢
    clear hw2
    have Hz2 := Lib.hid hz2; have Hg2 := Lib.hid hg2
    clear hz2 hg2
    have Hal : Hid (allP finB [lo, hi, wd] = (finB lo && finB hi && finB (fop .sub .f32 hi lo))) := by
      show _ = _
      rw [← Hwf.out]
      unfold allP
      simp [Bool.and_assoc]
    have u0 := Hz2.out.c0
    have u1 := Hz2.out.c1
    have u2 := Hz2.out.c2
    have v0 := Hz2.out.fz 0
    have v1 := Hz2.out.fz 1
    have v2 := Hz2.out.fz 2
    simp only at u0 u1 u2
    cases hf : allP finB [lo, hi, wd] with
    | false =>
      have Hn : Hid (betweenSeed ⟨k0, a0, b0⟩ lo hi = none) := by
        show _ = _
        have h1 := hf.symm.trans Hal.out
        unfold betweenSeed
        rw [if_neg]
        intro h
        simp only [Bool.and_eq_true] at h
        rw [h.1.1.1.1.2, h.1.1.1.2, h.1.2] at h1
        cases h1
      clear hf
      go_wp2
      (try simp only [Exit.inBlock, Exit.then])
      refine bodyPost_ret (results_s3 rfl _ rfl (Hz2.out.set3 0 0 0)) rfl ?_
      exact gaveSFB_none Hn.out (below_set3 HB2.out (by omega) _ _ _)
    | true =>
      have h1 := hf.symm.trans Hal.out
      have H1 := Lib.hid h1
      clear hf h1
      by_cases hl : (FloatKind.f32.format.order lo hi == some Ordering.lt) = true
      · have Hr : Hid (betweenSeed ⟨k0, a0, b0⟩ lo hi = if finB (betweenX (shareOf ⟨k0, a0, b0⟩) lo hi) then some (nextSd ⟨k0, a0, b0⟩, betweenX (shareOf ⟨k0, a0, b0⟩) lo hi) else none) := by
          show _ = _
          have h1 := H1.out
          simp only [Eq.comm (a := true), Bool.and_eq_true] at h1
          unfold betweenSeed
          have hl' : flt .f32 lo hi = true := hl
          rw [Hv.out, h1.1.1, h1.1.2, h1.2, hl']
          simp
        have c0 := Hg2.out.c0
        have c1 := Hg2.out.c1
        have c2 := Hg2.out.c2
        simp only at c0 c1 c2
        clear u0 u1 u2 v0 v1 v2
        go_wp2_with fail
        clear hl
        refine (implShare_any ⟨k0, a0, b0⟩ _ Hk.out).mono ?_
        rintro e w3 ⟨u, rfl, hu, hb3⟩
        have hg3 := Hg2.out.below hb3 Hg2.out.lt
        have hz3 := Hz2.out.below hb3 Hz2.out.lt
        have HB3 := Lib.hid (HB2.out.trans (hb3.mono HB2.out.size))
        clear hb3 c0 c1 c2
        obtain ⟨t, ht⟩ : ∃ t, t = nextSd ⟨k0, a0, b0⟩ := ⟨_, rfl⟩
        rw [← ht] at Hr ⊢
        clear ht
        obtain ⟨k1, a1, b1⟩ := t
        unfold Sd.val
        have c0 := hg3.c0
        have c1 := hg3.c1
        have c2 := hg3.c2
        have f0 := hg3.fz 0
        have f1 := hg3.fz 1
        have f2 := hg3.fz 2
        simp only at c0 c1 c2
        have Hg4 := Lib.hid (hg3.set3 k1 a1 b1)
        have Hz4 := Lib.hid (hz3.far3 (g' := w.heap.size) (by omega) k1 a1 b1)
        have HB4 := Lib.hid (below_set3 HB3.out (Nat.le_refl _) k1 a1 b1)
        have tok : True := trivial
        have tok2 : True := trivial
        clear hg3 hz3
        go_wp2_with (first
          | (have := tok; clear this tok; refine wpList_fop _ rfl .mul _ _ _ _ rfl rfl .f32 _ _ rfl rfl ?_; intro r1 q3 hr1)
          | (have := tok2; clear this tok2; refine wpList_fop _ rfl .add _ _ _ _ rfl rfl .f32 _ _ rfl rfl ?_; intro r2 q4 hr2))
        · have hc : (!FloatKind.f32.format.order r2 hi == some Ordering.lt) = true := by assumption
          have hX : cn .f32 r2 = fop .add .f32 lo (fop .mul .f32 (fop .sub .f32 hi lo) (shareOf ⟨k0, a0, b0⟩)) := by rw [hr2.out, fop_r hr1.out, fop_l hwd.out, fop_r hu.out]
          have Hx : Hid (cn .f32 lo = betweenX (shareOf ⟨k0, a0, b0⟩) lo hi) := by
            show _ = _
            unfold betweenX flt
            rw [← order_l hX, if_neg (by simpa using hc)]
          clear hc hX
          refine (drawn_any ⟨k1, a1, b1⟩ lo _).mono ?_
          rintro e w5 ⟨hor, hb5⟩
          have Hz5 := Lib.hid ((Hz4.out.drewN (q3 + q4)).below hb5 Hz4.out.lt)
          have HB5 := Lib.hid ((below_drewN HB4.out (q3 + q4)).trans (hb5.mono HB4.out.size))
          clear hb5
          have u0 := Hz5.out.c0
          have u1 := Hz5.out.c1
          have u2 := Hz5.out.c2
          have v0 := Hz5.out.fz 0
          have v1 := Hz5.out.fz 1
          have v2 := Hz5.out.fz 2
          simp only at u0 u1 u2
          have hfx : finB lo = finB (betweenX (shareOf ⟨k0, a0, b0⟩) lo hi) := by rw [← finB_cn, Hx.out]
          rcases hor with ⟨hf, rfl⟩ | ⟨hf, rfl⟩
          · rw [hf] at hfx
            have Hr2 : Hid (betweenSeed ⟨k0, a0, b0⟩ lo hi = some (⟨k1, a1, b1⟩, betweenX (shareOf ⟨k0, a0, b0⟩) lo hi)) := by show _ = _; rw [Hr.out, if_pos hfx.symm]
            clear hf hfx
            unfold Sd.val
            go_wp2
            (try simp only [Exit.inBlock, Exit.then])
            refine bodyPost_ret (results_s3 (s := ⟨k1, a1, b1⟩) (g := w.heap.size + 1) rfl _ rfl (by exact Hz5.out.set3 k1 a1 b1)) rfl ?_
            exact gaveSFB_some (s := ⟨k1, a1, b1⟩) Hr2.out Hx.out (below_set3 HB5.out (by omega) _ _ _)
          · rw [hf] at hfx
            have Hr2 : Hid (betweenSeed ⟨k0, a0, b0⟩ lo hi = none) := by show _ = _; rw [Hr.out, if_neg (by rw [← hfx]; decide)]
            clear hf hfx
            unfold Sd.val Sd.zero
            go_wp2
            (try simp only [Exit.inBlock, Exit.then])
            refine bodyPost_ret (results_s3 (s := ⟨0, 0, 0⟩) (g := w.heap.size + 1) rfl _ rfl (by exact Hz5.out.set3 0 0 0)) rfl ?_
            exact gaveSFB_none Hr2.out (below_set3 HB5.out (by omega) _ _ _)
        · have hc : (!FloatKind.f32.format.order r2 hi == some Ordering.lt) = false := by assumption
          have hX : cn .f32 r2 = fop .add .f32 lo (fop .mul .f32 (fop .sub .f32 hi lo) (shareOf ⟨k0, a0, b0⟩)) := by rw [hr2.out, fop_r hr1.out, fop_l hwd.out, fop_r hu.out]
          have Hx : Hid (cn .f32 r2 = betweenX (shareOf ⟨k0, a0, b0⟩) lo hi) := by
            show _ = _
            unfold betweenX flt
            rw [← order_l hX, if_pos (by simpa using hc), hX]
          clear hc hX
          refine (drawn_any ⟨k1, a1, b1⟩ r2 _).mono ?_
          rintro e w5 ⟨hor, hb5⟩
          have Hz5 := Lib.hid ((Hz4.out.drewN (q3 + q4)).below hb5 Hz4.out.lt)
          have HB5 := Lib.hid ((below_drewN HB4.out (q3 + q4)).trans (hb5.mono HB4.out.size))
          clear hb5
          have u0 := Hz5.out.c0
          have u1 := Hz5.out.c1
          have u2 := Hz5.out.c2
          have v0 := Hz5.out.fz 0
          have v1 := Hz5.out.fz 1
          have v2 := Hz5.out.fz 2
          simp only at u0 u1 u2
          have hfx : finB r2 = finB (betweenX (shareOf ⟨k0, a0, b0⟩) lo hi) := by rw [← finB_cn, Hx.out]
          rcases hor with ⟨hf, rfl⟩ | ⟨hf, rfl⟩
          · rw [hf] at hfx
            have Hr2 : Hid (betweenSeed ⟨k0, a0, b0⟩ lo hi = some (⟨k1, a1, b1⟩, betweenX (shareOf ⟨k0, a0, b0⟩) lo hi)) := by show _ = _; rw [Hr.out, if_pos hfx.symm]
            clear hf hfx
            unfold Sd.val
            go_wp2
            (try simp only [Exit.inBlock, Exit.then])
            refine bodyPost_ret (results_s3 (s := ⟨k1, a1, b1⟩) (g := w.heap.size + 1) rfl _ rfl (by exact Hz5.out.set3 k1 a1 b1)) rfl ?_
            exact gaveSFB_some (s := ⟨k1, a1, b1⟩) Hr2.out Hx.out (below_set3 HB5.out (by omega) _ _ _)
          · rw [hf] at hfx
            have Hr2 : Hid (betweenSeed ⟨k0, a0, b0⟩ lo hi = none) := by show _ = _; rw [Hr.out, if_neg (by rw [← hfx]; decide)]
            clear hf hfx
            unfold Sd.val Sd.zero
            go_wp2
            (try simp only [Exit.inBlock, Exit.then])
            refine bodyPost_ret (results_s3 (s := ⟨0, 0, 0⟩) (g := w.heap.size + 1) rfl _ rfl (by exact Hz5.out.set3 0 0 0)) rfl ?_
            exact gaveSFB_none Hr2.out (below_set3 HB5.out (by omega) _ _ _)
      · have Hn : Hid (betweenSeed ⟨k0, a0, b0⟩ lo hi = none) := by
          show _ = _
          have hl' : flt .f32 lo hi = false := by unfold flt; simpa using hl
          simp [betweenSeed, hl']
        go_wp2
        (try simp only [Exit.inBlock, Exit.then])
        refine bodyPost_ret (results_s3 rfl _ rfl (Hz2.out.set3 0 0 0)) rfl ?_
        exact gaveSFB_none Hn.out (below_set3 HB2.out (by omega) _ _ _)
set_option maxHeartbeats 1000000 in
theorem specBetween_any : FnSFF_SFB 10 betweenSeed := by
  intro k0 a0 b0 lo hi w hs _ _
  have hz0 : ((w.alloc (.cells #[.int .i64 k0, .int .u64 a0, .int .u64 b0] 26)).alloc (.cells #[.int .i64 0, .int .u64 0, .int .u64 0] 26)).heap.size = w.heap.size + 2 := by rw [size_alloc', size_alloc']
  have hg : SeedAt ((w.alloc (.cells #[.int .i64 k0, .int .u64 a0, .int .u64 b0] 26)).alloc (.cells #[.int .i64 0, .int .u64 0, .int .u64 0] 26)) w.heap.size ⟨k0, a0, b0⟩ := (SeedAt.new w k0 a0 b0).alloc _
  have hz : SeedAt ((w.alloc (.cells #[.int .i64 k0, .int .u64 a0, .int .u64 b0] 26)).alloc (.cells #[.int .i64 0, .int .u64 0, .int .u64 0] 26)) (w.heap.size + 1) ⟨0, 0, 0⟩ := SeedAt.new1 w _ 0 0 0
  have hBl : Below w.heap.size w ((w.alloc (.cells #[.int .i64 k0, .int .u64 a0, .int .u64 b0] 26)).alloc (.cells #[.int .i64 0, .int .u64 0, .int .u64 0] 26)) := ((Below.refl _ _).alloc (Nat.le_refl _) _).alloc (by rw [size_alloc']; omega) _
  go_enter Try.func10, Try.ntmps10
  go_wp2_with fail
  refine (specIs_any ⟨k0, a0, b0⟩ _ _ hs hg).mono ?_
  rintro e w1 ⟨rfl, rfl⟩
  generalize (w.alloc (.cells #[.int .i64 k0, .int .u64 a0, .int .u64 b0] 26)).alloc (.cells #[.int .i64 0, .int .u64 0, .int .u64 0] 26) = w1 at hz0 hg hz hBl ⊢
  have HB := Lib.hid hBl; have Hz := Lib.hid hz; have Hg := Lib.hid hg; have Hk : Hid (Sd.ok ⟨k0, a0, b0⟩) := hs
  clear hBl hz hg hs hz0
  have u0 := Hz.out.c0
  have u1 := Hz.out.c1
  have u2 := Hz.out.c2
  have v0 := Hz.out.fz 0
  have v1 := Hz.out.fz 1
  have v2 := Hz.out.fz 2
  simp only at u0 u1 u2
  cases hv : validB ⟨k0, a0, b0⟩ with
  | false =>
    have Hn : Hid (betweenSeed ⟨k0, a0, b0⟩ lo hi = none) := by show _ = _; simp [betweenSeed, hv]
    go_wp2
    (try simp only [Exit.inBlock, Exit.then])
    refine bodyPost_ret (results_s3 rfl _ rfl (Hz.out.set3 0 0 0)) rfl ?_
    exact gaveSFB_none Hn.out (below_set3 HB.out (by omega) _ _ _)
  | true =>
    have Hv := Lib.hid hv
    clear hv
    go_wp2_with fail
    refine (l01Fin_any _ _).mono ?_
    rintro e w2 ⟨rfl, q1, rfl⟩
    cases hlo : finB lo with
    | false =>
      have Hn : Hid (betweenSeed ⟨k0, a0, b0⟩ lo hi = none) := by show _ = _; simp [betweenSeed, hlo]
      clear hlo
      go_wp2
      (try simp only [Exit.inBlock, Exit.then])
      refine bodyPost_ret (results_s3 rfl _ rfl ((Hz.out.drewN q1).set3 0 0 0)) rfl ?_
      exact gaveSFB_none Hn.out (below_set3 (below_drewN HB.out q1) (by omega) _ _ _)
    | true =>
      have Hlo := Lib.hid hlo
      clear hlo
      go_wp2_with fail
      refine (l01Fin_any _ _).mono ?_
      rintro e w2 ⟨rfl, q2, rfl⟩
      cases hhi : finB hi with
      | false =>
        have Hn : Hid (betweenSeed ⟨k0, a0, b0⟩ lo hi = none) := by show _ = _; simp [betweenSeed, hhi]
        clear hhi
        go_wp2
        (try simp only [Exit.inBlock, Exit.then])
        refine bodyPost_ret (results_s3 rfl _ rfl ((Hz.out.drewN (q1 + q2)).set3 0 0 0)) rfl ?_
        exact gaveSFB_none Hn.out (below_set3 (below_drewN HB.out (q1 + q2)) (by omega) _ _ _)
      | true =>
        have Hhi := Lib.hid hhi
        clear hhi
        by_cases hl : (FloatKind.f32.format.order lo hi == some Ordering.lt) = true
        · have Hr : Hid (betweenSeed ⟨k0, a0, b0⟩ lo hi = if finB (fop .sub .f32 hi lo) && finB (betweenX (shareOf ⟨k0, a0, b0⟩) lo hi) then some (nextSd ⟨k0, a0, b0⟩, betweenX (shareOf ⟨k0, a0, b0⟩) lo hi) else none) := by
            show _ = _
            unfold betweenSeed
            have hl' : flt .f32 lo hi = true := hl
            rw [Hv.out, Hlo.out, Hhi.out, hl']
            simp
          clear u0 u1 u2 v0 v1 v2
          go_wp2_with fail
          clear hl
          refine (specShare_any ⟨k0, a0, b0⟩ _ _ Hk.out (Hg.out.drewN (q1 + q2))).mono ?_
          rintro e w3 ⟨u, rfl, hu, hg3, hgr⟩
          have Hg3 := Lib.hid hg3
          have Hz3 := Lib.hid ((Hz.out.drewN (q1 + q2)).grown hgr (by simp))
          have HB3 := Lib.hid ((below_drewN HB.out (q1 + q2)).grown hgr HB.out.size (fun _ h => by cases h; exact Nat.le_refl _))
          clear hgr hg3
          obtain ⟨t, ht⟩ : ∃ t, t = nextSd ⟨k0, a0, b0⟩ := ⟨_, rfl⟩
          rw [← ht] at Hr Hg3
          clear ht
          have u0 := Hz3.out.c0
          have u1 := Hz3.out.c1
          have u2 := Hz3.out.c2
          have v0 := Hz3.out.fz 0
          have v1 := Hz3.out.fz 1
          have v2 := Hz3.out.fz 2
          simp only at u0 u1 u2
          have t1 : True := trivial
          have t2 : True := trivial
          have t3 : True := trivial
          have t4 : True := trivial
          go_wp2_with (first
            | (have := t1; clear this t1; refine wpList_fop _ rfl .sub _ _ _ _ rfl rfl .f32 _ _ rfl rfl ?_; intro wd q3 hwd)
            | (have := t2; clear this t2; refine wpList_fop _ rfl .mul _ _ _ _ rfl rfl .f32 _ _ rfl rfl ?_; intro r1 q4 hr1)
            | (have := t3; clear this t3; refine wpList_fop _ rfl .add _ _ _ _ rfl rfl .f32 _ _ rfl rfl ?_; intro r2 q5 hr2)
            | (have := t4; clear this t4; refine wpList_fop _ rfl .sub _ _ _ _ rfl rfl .f32 _ _ rfl rfl ?_; intro wd' q6 hwd'))
          · have hc : (!FloatKind.f32.format.order r2 hi == some Ordering.lt) = true := by assumption
            have hX : cn .f32 r2 = fop .add .f32 lo (fop .mul .f32 (fop .sub .f32 hi lo) (shareOf ⟨k0, a0, b0⟩)) := by rw [hr2.out, fop_r hr1.out, fop_l hwd.out, fop_r hu.out]
            have Hx : Hid (cn .f32 lo = betweenX (shareOf ⟨k0, a0, b0⟩) lo hi) := by
              show _ = _
              unfold betweenX flt
              rw [← order_l hX, if_neg (by simpa using hc)]
            clear hc hX
            have Hwf : Hid (finB wd' = finB (fop .sub .f32 hi lo)) := by show _ = _; rw [← finB_cn wd', hwd'.out]
            refine (l01Fin_any _ _).mono ?_
            rintro e w4 ⟨rfl, q7, rfl⟩
            cases hf : finB wd' with
            | false =>
              have Hn : Hid (betweenSeed ⟨k0, a0, b0⟩ lo hi = none) := by show _ = _; rw [Hr.out, ← Hwf.out, hf]; rfl
              clear hf
              go_wp2
              (try simp only [Exit.inBlock, Exit.then])
              refine bodyPost_ret (results_s3 (s := ⟨0, 0, 0⟩) (g := w.heap.size + 1) rfl _ rfl (by exact (Hz3.out.drewN (q3 + q4 + q5 + q6 + q7)).set3 0 0 0)) rfl ?_
              exact gaveSFB_none Hn.out (below_set3 (below_drewN HB3.out (q3 + q4 + q5 + q6 + q7)) (by omega) _ _ _)
            | true =>
              have Hr1 : Hid (betweenSeed ⟨k0, a0, b0⟩ lo hi = if finB (betweenX (shareOf ⟨k0, a0, b0⟩) lo hi) then some (t, betweenX (shareOf ⟨k0, a0, b0⟩) lo hi) else none) := by show _ = _; rw [Hr.out, ← Hwf.out, hf, Bool.true_and]
              clear hf
              go_wp2_with fail
              refine (give_any t w.heap.size lo _ (Hg3.out.drewN (q3 + q4 + q5 + q6 + q7))).mono ?_
              rintro e w5 ⟨hor, hb5⟩
              have Hz5 := Lib.hid ((Hz3.out.drewN (q3 + q4 + q5 + q6 + q7)).below hb5 Hz3.out.lt)
              have HB5 := Lib.hid ((below_drewN HB3.out (q3 + q4 + q5 + q6 + q7)).trans (hb5.mono HB3.out.size))
              clear hb5 u0 u1 u2 v0 v1 v2
              have u0 := Hz5.out.c0
              have u1 := Hz5.out.c1
              have u2 := Hz5.out.c2
              have v0 := Hz5.out.fz 0
              have v1 := Hz5.out.fz 1
              have v2 := Hz5.out.fz 2
              simp only at u0 u1 u2
              have hfx : finB lo = finB (betweenX (shareOf ⟨k0, a0, b0⟩) lo hi) := by rw [← finB_cn, Hx.out]
              obtain ⟨k1, a1, b1⟩ := t
              rcases hor with ⟨hf, rfl⟩ | ⟨hf, rfl⟩
              · rw [hf] at hfx
                have Hr2 : Hid (betweenSeed ⟨k0, a0, b0⟩ lo hi = some (⟨k1, a1, b1⟩, betweenX (shareOf ⟨k0, a0, b0⟩) lo hi)) := by show _ = _; rw [Hr1.out, if_pos hfx.symm]
                clear hf hfx
                unfold Sd.val
                go_wp2
                (try simp only [Exit.inBlock, Exit.then])
                refine bodyPost_ret (results_s3 (s := ⟨k1, a1, b1⟩) (g := w.heap.size + 1) rfl _ rfl (by exact Hz5.out.set3 k1 a1 b1)) rfl ?_
                exact gaveSFB_some (s := ⟨k1, a1, b1⟩) Hr2.out Hx.out (below_set3 HB5.out (by omega) _ _ _)
              · rw [hf] at hfx
                have Hr2 : Hid (betweenSeed ⟨k0, a0, b0⟩ lo hi = none) := by show _ = _; rw [Hr1.out, if_neg (by rw [← hfx]; decide)]
                clear hf hfx
                unfold Sd.val Sd.zero
                go_wp2
                (try simp only [Exit.inBlock, Exit.then])
                refine bodyPost_ret (results_s3 (s := ⟨0, 0, 0⟩) (g := w.heap.size + 1) rfl _ rfl (by exact Hz5.out.set3 0 0 0)) rfl ?_
                exact gaveSFB_none Hr2.out (below_set3 HB5.out (by omega) _ _ _)
          · have hc : (!FloatKind.f32.format.order r2 hi == some Ordering.lt) = false := by assumption
            have hX : cn .f32 r2 = fop .add .f32 lo (fop .mul .f32 (fop .sub .f32 hi lo) (shareOf ⟨k0, a0, b0⟩)) := by rw [hr2.out, fop_r hr1.out, fop_l hwd.out, fop_r hu.out]
            have Hx : Hid (cn .f32 r2 = betweenX (shareOf ⟨k0, a0, b0⟩) lo hi) := by
              show _ = _
              unfold betweenX flt
              rw [← order_l hX, if_pos (by simpa using hc), hX]
            clear hc hX
            have Hwf : Hid (finB wd' = finB (fop .sub .f32 hi lo)) := by show _ = _; rw [← finB_cn wd', hwd'.out]
            refine (l01Fin_any _ _).mono ?_
            rintro e w4 ⟨rfl, q7, rfl⟩
            cases hf : finB wd' with
            | false =>
              have Hn : Hid (betweenSeed ⟨k0, a0, b0⟩ lo hi = none) := by show _ = _; rw [Hr.out, ← Hwf.out, hf]; rfl
              clear hf
              go_wp2
              (try simp only [Exit.inBlock, Exit.then])
              refine bodyPost_ret (results_s3 (s := ⟨0, 0, 0⟩) (g := w.heap.size + 1) rfl _ rfl (by exact (Hz3.out.drewN (q3 + q4 + q5 + q6 + q7)).set3 0 0 0)) rfl ?_
              exact gaveSFB_none Hn.out (below_set3 (below_drewN HB3.out (q3 + q4 + q5 + q6 + q7)) (by omega) _ _ _)
            | true =>
              have Hr1 : Hid (betweenSeed ⟨k0, a0, b0⟩ lo hi = if finB (betweenX (shareOf ⟨k0, a0, b0⟩) lo hi) then some (t, betweenX (shareOf ⟨k0, a0, b0⟩) lo hi) else none) := by show _ = _; rw [Hr.out, ← Hwf.out, hf, Bool.true_and]
              clear hf
              go_wp2_with fail
              refine (give_any t w.heap.size r2 _ (Hg3.out.drewN (q3 + q4 + q5 + q6 + q7))).mono ?_
              rintro e w5 ⟨hor, hb5⟩
              have Hz5 := Lib.hid ((Hz3.out.drewN (q3 + q4 + q5 + q6 + q7)).below hb5 Hz3.out.lt)
              have HB5 := Lib.hid ((below_drewN HB3.out (q3 + q4 + q5 + q6 + q7)).trans (hb5.mono HB3.out.size))
              clear hb5 u0 u1 u2 v0 v1 v2
              have u0 := Hz5.out.c0
              have u1 := Hz5.out.c1
              have u2 := Hz5.out.c2
              have v0 := Hz5.out.fz 0
              have v1 := Hz5.out.fz 1
              have v2 := Hz5.out.fz 2
              simp only at u0 u1 u2
              have hfx : finB r2 = finB (betweenX (shareOf ⟨k0, a0, b0⟩) lo hi) := by rw [← finB_cn, Hx.out]
              obtain ⟨k1, a1, b1⟩ := t
              rcases hor with ⟨hf, rfl⟩ | ⟨hf, rfl⟩
              · rw [hf] at hfx
                have Hr2 : Hid (betweenSeed ⟨k0, a0, b0⟩ lo hi = some (⟨k1, a1, b1⟩, betweenX (shareOf ⟨k0, a0, b0⟩) lo hi)) := by show _ = _; rw [Hr1.out, if_pos hfx.symm]
                clear hf hfx
                unfold Sd.val
                go_wp2
                (try simp only [Exit.inBlock, Exit.then])
                refine bodyPost_ret (results_s3 (s := ⟨k1, a1, b1⟩) (g := w.heap.size + 1) rfl _ rfl (by exact Hz5.out.set3 k1 a1 b1)) rfl ?_
                exact gaveSFB_some (s := ⟨k1, a1, b1⟩) Hr2.out Hx.out (below_set3 HB5.out (by omega) _ _ _)
              · rw [hf] at hfx
                have Hr2 : Hid (betweenSeed ⟨k0, a0, b0⟩ lo hi = none) := by show _ = _; rw [Hr1.out, if_neg (by rw [← hfx]; decide)]
                clear hf hfx
                unfold Sd.val Sd.zero
                go_wp2
                (try simp only [Exit.inBlock, Exit.then])
                refine bodyPost_ret (results_s3 (s := ⟨0, 0, 0⟩) (g := w.heap.size + 1) rfl _ rfl (by exact Hz5.out.set3 0 0 0)) rfl ?_
                exact gaveSFB_none Hr2.out (below_set3 HB5.out (by omega) _ _ _)
        · have Hn : Hid (betweenSeed ⟨k0, a0, b0⟩ lo hi = none) := by
            show _ = _
            have hl' : flt .f32 lo hi = false := by unfold flt; simpa using hl
            simp [betweenSeed, hl']
          go_wp2
          (try simp only [Exit.inBlock, Exit.then])
          refine bodyPost_ret (results_s3 rfl _ rfl ((Hz.out.drewN (q1 + q2)).set3 0 0 0)) rfl ?_
          exact gaveSFB_none Hn.out (below_set3 (below_drewN HB.out (q1 + q2)) (by omega) _ _ _)
end Go.Proofs.Ytomepdbpemgcfaa
