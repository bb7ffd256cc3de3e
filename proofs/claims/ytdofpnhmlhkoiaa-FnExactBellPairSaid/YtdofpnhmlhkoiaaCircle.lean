/- CirclePoint: a point of the circle. -/
import Derived.Test.YtdofpnhmlhkoiaaPhasor
import Derived.Test.YtdofpnhmlhkoiaaWait
namespace Go.Proofs.Ytdofpnhmlhkoiaa
open Go.RowKit Mag
set_option maxRecDepth 100000
def circleSeed (s : Sd) : Option (Sd × Nat × Nat) := if validB s then some (nextSd s, phRe (widen (shareOf s)), phIm (widen (shareOf s))) else none
theorem cn_phRe (t : Nat) : cn .f32 (phRe t) = phRe t := cn_narrow _
theorem cn_phIm (t : Nat) : cn .f32 (phIm t) = phIm t := cn_narrow _
set_option maxHeartbeats 1000000 in
theorem specCircle_any : FnS_SCB 25 circleSeed := by
  intro k0 a0 b0 w hs
  have hz0 : ((w.alloc (.cells #[.int .i64 k0, .int .u64 a0, .int .u64 b0] 26)).alloc (.cells #[.int .i64 0, .int .u64 0, .int .u64 0] 26)).heap.size = w.heap.size + 2 := by rw [size_alloc', size_alloc']
  have hg : SeedAt ((w.alloc (.cells #[.int .i64 k0, .int .u64 a0, .int .u64 b0] 26)).alloc (.cells #[.int .i64 0, .int .u64 0, .int .u64 0] 26)) w.heap.size ⟨k0, a0, b0⟩ := (SeedAt.new w k0 a0 b0).alloc _
  have hz : SeedAt ((w.alloc (.cells #[.int .i64 k0, .int .u64 a0, .int .u64 b0] 26)).alloc (.cells #[.int .i64 0, .int .u64 0, .int .u64 0] 26)) (w.heap.size + 1) ⟨0, 0, 0⟩ := SeedAt.new1 w _ 0 0 0
  have hBl : Below w.heap.size w ((w.alloc (.cells #[.int .i64 k0, .int .u64 a0, .int .u64 b0] 26)).alloc (.cells #[.int .i64 0, .int .u64 0, .int .u64 0] 26)) := ((Below.refl _ _).alloc (Nat.le_refl _) _).alloc (by rw [size_alloc']; omega) _
  go_enter Try.func25, Try.ntmps25
  go_wp2_with fail
  refine (specIs_any ⟨k0, a0, b0⟩ _ _ hs hg).mono ?_
  rintro e w1 ⟨rfl, rfl⟩
  generalize (w.alloc (.cells #[.int .i64 k0, .int .u64 a0, .int .u64 b0] 26)).alloc (.cells #[.int .i64 0, .int .u64 0, .int .u64 0] 26) = w1 at hz0 hg hz hBl ⊢
  have HB := Lib.hid hBl; have Hz := Lib.hid hz; have Hg := Lib.hid hg; have Hk : Hid (Sd.ok ⟨k0, a0, b0⟩) := hs
  clear hBl hz hg hs hz0
  have u0 := Hz.out.c0
  have u1 := Hz.out.c1
  have u2 := Hz.out.c2
  have v0 := Hz.out.fz 0
  have v1 := Hz.out.fz 1
  have v2 := Hz.out.fz 2
  simp only at u0 u1 u2
  cases hv : validB ⟨k0, a0, b0⟩ with
  | false =>
    have Hn : Hid (circleSeed ⟨k0, a0, b0⟩ = none) := by show _ = _; simp [circleSeed, hv]
    go_wp2
    (try simp only [Exit.inBlock, Exit.then])
    refine bodyPost_ret (results_s3 rfl _ rfl (Hz.out.set3 0 0 0)) rfl ?_
    exact gaveSCB_none Hn.out (below_set3 HB.out (by omega) _ _ _)
  | true =>
    have Hr : Hid (circleSeed ⟨k0, a0, b0⟩ = some (nextSd ⟨k0, a0, b0⟩, phRe (widen (shareOf ⟨k0, a0, b0⟩)), phIm (widen (shareOf ⟨k0, a0, b0⟩)))) := by show _ = _; simp [circleSeed, hv]
    have hcv := fun w => run_widen_num (P := Try.prog) 25 32 rfl Try.underlying32 w (shareOf ⟨k0, a0, b0⟩) (FinK_not_nan (share_rn _).1)
    have Hcv := Lib.hid hcv
    clear hv hcv u0 u1 u2 v0 v1 v2
    go_wp2_with fail
    refine (specShare_any ⟨k0, a0, b0⟩ _ _ Hk.out Hg.out).mono ?_
    rintro e w3 ⟨u, rfl, hu, hg3, hgr⟩
    obtain rfl : u = shareOf ⟨k0, a0, b0⟩ := cn_num hu.out (FinK_not_nan (share_rn _).1)
    have Hg3 := Lib.hid hg3
    have Hz3 := Lib.hid (Hz.out.grown hgr (by simp))
    have HB3 := Lib.hid (HB.out.grown hgr HB.out.size (fun _ h => by cases h; exact Nat.le_refl _))
    clear hgr hg3
    obtain ⟨t, ht⟩ : ∃ t, t = nextSd ⟨k0, a0, b0⟩ := ⟨_, rfl⟩
    rw [← ht] at Hr Hg3
    clear ht
    obtain ⟨k1, a1, b1⟩ := t
    have hcv := Hcv.out
    go_wp2_with fail
    clear hcv
    refine (specPhasor_any _ (share_wide _).2 _).mono ?_
    rintro e w4 ⟨rfl, q, rfl⟩
    have c0 := Hg3.out.c0
    have c1 := Hg3.out.c1
    have c2 := Hg3.out.c2
    have u0 := Hz3.out.c0
    have u1 := Hz3.out.c1
    have u2 := Hz3.out.c2
    have v0 := Hz3.out.fz 0
    have v1 := Hz3.out.fz 1
    have v2 := Hz3.out.fz 2
    simp only at c0 c1 c2 u0 u1 u2
    go_wp2
    (try simp only [Exit.inBlock, Exit.then])
    refine bodyPost_ret (results_s3 (s := ⟨k1, a1, b1⟩) (g := w.heap.size + 1) rfl _ rfl (by exact (Hz3.out.drewN q).set3 k1 a1 b1)) rfl ?_
    exact gaveSCB_some (s := ⟨k1, a1, b1⟩) Hr.out (cn_phRe _) (cn_phIm _) (below_set3 (below_drewN HB3.out q) (by omega) _ _ _)
set_option maxHeartbeats 2000000 in
theorem implCircle_any : FnS_SCB 26 circleSeed := by
  intro k0 a0 b0 w hs
  have hz0 : ((w.alloc (.cells #[.int .i64 k0, .int .u64 a0, .int .u64 b0] 26)).alloc (.cells #[.int .i64 0, .int .u64 0, .int .u64 0] 26)).heap.size = w.heap.size + 2 := by rw [size_alloc', size_alloc']
  go_enter Try.func26, Try.ntmps26
  go_wp2_with fail
  refine (implValid_any ⟨k0, a0, b0⟩ _ hs).mono ?_
  rintro e w1 ⟨rfl, hb1⟩
  rw [hz0] at hb1
  have hBl : Below w.heap.size w w1 := (((Below.refl _ _).alloc (Nat.le_refl _) _).alloc (by rw [size_alloc']; omega) _).trans (hb1.mono (by omega))
  have hg : SeedAt w1 w.heap.size ⟨k0, a0, b0⟩ := ((SeedAt.new w k0 a0 b0).alloc _).below hb1 (by omega)
  have hz : SeedAt w1 (w.heap.size + 1) ⟨0, 0, 0⟩ := (SeedAt.new1 w _ 0 0 0).below hb1 (by omega)
  clear hz0 hb1
  have HB := Lib.hid hBl; have Hz := Lib.hid hz; have Hg := Lib.hid hg; have Hk : Hid (Sd.ok ⟨k0, a0, b0⟩) := hs
  clear hBl hz hg hs
  have u0 := Hz.out.c0
  have u1 := Hz.out.c1
  have u2 := Hz.out.c2
  have v0 := Hz.out.fz 0
  have v1 := Hz.out.fz 1
  have v2 := Hz.out.fz 2
  simp only at u0 u1 u2
  cases hv : validB ⟨k0, a0, b0⟩ with
  | false =>
    have Hn : Hid (circleSeed ⟨k0, a0, b0⟩ = none) := by show _ = _; simp [circleSeed, hv]
    go_wp2
    (try simp only [Exit.inBlock, Exit.then])
    refine bodyPost_ret (results_s3 rfl _ rfl (Hz.out.set3 0 0 0)) rfl ?_
    exact gaveSCB_none Hn.out (below_set3 HB.out (by omega) _ _ _)
  | true =>
    have Hr : Hid (circleSeed ⟨k0, a0, b0⟩ = some (nextSd ⟨k0, a0, b0⟩, phRe (widen (shareOf ⟨k0, a0, b0⟩)), phIm (widen (shareOf ⟨k0, a0, b0⟩)))) := by show _ = _; simp [circleSeed, hv]
    have hcv := fun w => run_widen_num (P := Try.prog) 25 32 rfl Try.underlying32 w (shareOf ⟨k0, a0, b0⟩) (FinK_not_nan (share_rn _).1)
    have Hcv := Lib.hid hcv
    have c0 := Hg.out.c0
    have c1 := Hg.out.c1
    have c2 := Hg.out.c2
    simp only at c0 c1 c2
    clear hv hcv u0 u1 u2 v0 v1 v2
    go_wp2_with fail
    refine (implShare_any ⟨k0, a0, b0⟩ _ Hk.out).mono ?_
    rintro e w3 ⟨u, rfl, hu, hb3⟩
    obtain rfl : u = shareOf ⟨k0, a0, b0⟩ := cn_num hu.out (FinK_not_nan (share_rn _).1)
    have hg3 := Hg.out.below hb3 Hg.out.lt
    have hz3 := Hz.out.below hb3 Hz.out.lt
    have HB3 := Lib.hid (HB.out.trans (hb3.mono HB.out.size))
    clear hb3 c0 c1 c2
    obtain ⟨t, ht⟩ : ∃ t, t = nextSd ⟨k0, a0, b0⟩ := ⟨_, rfl⟩
    rw [← ht] at Hr ⊢
    clear ht
    obtain ⟨k1, a1, b1⟩ := t
    unfold Sd.val
    have c0 := hg3.c0
    have c1 := hg3.c1
    have c2 := hg3.c2
    have f0 := hg3.fz 0
    have f1 := hg3.fz 1
    have f2 := hg3.fz 2
    simp only at c0 c1 c2
    have Hg4 := Lib.hid (hg3.set3 k1 a1 b1)
    have Hz4 := Lib.hid (hz3.far3 (g' := w.heap.size) (by omega) k1 a1 b1)
    have HB4 := Lib.hid (below_set3 HB3.out (Nat.le_refl _) k1 a1 b1)
    clear hg3 hz3
    go_wp2_with fail
    clear c0 c1 c2 f0 f1 f2
    generalize (((w3.setCell ⟨w.heap.size, 0, none⟩ (.int .i64 k1)).setCell ⟨w.heap.size, 1, none⟩ (.int .u64 a1)).setCell ⟨w.heap.size, 2, none⟩ (.int .u64 b1)) = w5 at Hg4 Hz4 HB4 ⊢
    have c0 := Hg4.out.c0
    have c1 := Hg4.out.c1
    have c2 := Hg4.out.c2
    have u0 := Hz4.out.c0
    have u1 := Hz4.out.c1
    have u2 := Hz4.out.c2
    have v0 := Hz4.out.fz 0
    have v1 := Hz4.out.fz 1
    have v2 := Hz4.out.fz 2
    simp only at c0 c1 c2 u0 u1 u2
    have Hz6 := Lib.hid (Hz4.out.set3 k1 a1 b1)
    have Hb6 := Lib.hid (below_set3 HB4.out (g := w.heap.size + 1) (by omega) k1 a1 b1)
    have hcv := Hcv.out
    have hsw := Lib.hid (share_wide ⟨k0, a0, b0⟩)
    go_region_with (refine (phasor_any _ hsw.out.1 hsw.out.2 _).mono ?_; rintro e w7 ⟨rfl, q, rfl⟩)
    all_goals go_wp2
    all_goals
      (try simp only [Exit.inBlock, Exit.then])
      refine bodyPost_ret (results_s3 (s := ⟨k1, a1, b1⟩) (g := w.heap.size + 1) rfl _ rfl (by exact Hz6.out)) rfl ?_
      exact gaveSCB_some (s := ⟨k1, a1, b1⟩) Hr.out (cn_phRe _) (cn_phIm _) ⟨Hb6.out.os, Hb6.out.tape, Hb6.out.output, Hb6.out.size, Hb6.out.block⟩
end Go.Proofs.Ytdofpnhmlhkoiaa
