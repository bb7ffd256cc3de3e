/- BallPoint: a point of the sphere. -/
import Derived.Test.YtdofpnhmlhkoiaaRoot
import Derived.Test.YtdofpnhmlhkoiaaDisc
import Derived.Test.YtdofpnhmlhkoiaaShapesB
import Derived.Test.YtdofpnhmlhkoiaaWait
namespace Go.Proofs.Ytdofpnhmlhkoiaa
open Go.RowKit Mag
def ballL (u v q : Nat) : List Nat := [fop .mul .f32 (fop .mul .f32 1073741824 u) (rootF (fop .sub .f32 1065353216 q)), fop .mul .f32 (fop .mul .f32 1073741824 v) (rootF (fop .sub .f32 1065353216 q)), fop .sub .f32 1065353216 (fop .mul .f32 1073741824 q)]
def ballSeed (s : Sd) : Option (Sd × List Nat) := (discP s).map fun r => (r.1, ballL r.2.1 r.2.2.1 r.2.2.2)
theorem ballSeed_short (k a b : Int) : (((ballSeed ⟨k, a, b⟩).map Prod.snd).getD []).length ≤ 2000000 := by
  unfold ballSeed
  cases discP ⟨k, a, b⟩ <;> simp [ballL]
theorem own_list3 (w : World) (a b c base : Nat) (hb : base ≤ w.heap.size) : Own (w.alloc (.cells #[.float .f32 a, .float .f32 b, .float .f32 c] 25)) base 25 (.slice (some ⟨w.heap.size, 0, none⟩) 3 3) (f32s [a, b, c]) :=
  ⟨by simp [f32s], .inr ⟨w.heap.size, 3, #[.float .f32 a, .float .f32 b, .float .f32 c], rfl, hb, heap_alloc_new w _, by simp [f32s], by unfold maxLen; omega, by simp, by simp [f32s]⟩⟩
set_option maxHeartbeats 2000000 in
theorem implBall_any : FnS_SFlB 21 ballSeed := by
  intro k0 a0 b0 w hs
  have hz0 : ((w.alloc (.cells #[.int .i64 k0, .int .u64 a0, .int .u64 b0] 26)).alloc (.cells #[.int .i64 0, .int .u64 0, .int .u64 0] 26)).heap.size = w.heap.size + 2 := by rw [size_alloc', size_alloc']
  go_enter Try.func21, Try.ntmps21
  go_wp2_with fail
  refine (implDiscP_any ⟨k0, a0, b0⟩ _ hs).mono ?_
  rintro e w1 ⟨t, x, y, z, ok, rfl, hr, hb1⟩
  rw [hz0] at hb1
  have hBl : Below w.heap.size w w1 := (((Below.refl _ _).alloc (Nat.le_refl _) _).alloc (by rw [size_alloc']; omega) _).trans (hb1.mono (by omega))
  have hg : SeedAt w1 w.heap.size ⟨k0, a0, b0⟩ := ((SeedAt.new w k0 a0 b0).alloc _).below hb1 (by omega)
  have hz : SeedAt w1 (w.heap.size + 1) ⟨0, 0, 0⟩ := (SeedAt.new1 w _ 0 0 0).below hb1 (by omega)
  clear hz0 hb1
  obtain ⟨k1, a1, b1⟩ := t
  unfold Sd.val
  have c0 := hg.c0
  have c1 := hg.c1
  have c2 := hg.c2
  have f0 := hg.fz 0
  have f1 := hg.fz 1
  have f2 := hg.fz 2
  simp only at c0 c1 c2
  have Hg3 := Lib.hid (hg.set3 k1 a1 b1)
  have Hz3 := Lib.hid (hz.far3 (g' := w.heap.size) (by omega) k1 a1 b1)
  have HB3 := Lib.hid (below_set3 hBl (Nat.le_refl _) k1 a1 b1)
  have y0 := Hg3.out.c0
  have y1 := Hg3.out.c1
  have y2 := Hg3.out.c2
  simp only at y0 y1 y2
  have u0 := Hz3.out.c0
  have u1 := Hz3.out.c1
  have u2 := Hz3.out.c2
  have v0 := Hz3.out.fz 0
  have v1 := Hz3.out.fz 1
  have v2 := Hz3.out.fz 2
  simp only at u0 u1 u2
  clear hBl hz hg
  rcases hr.out with ⟨hd, rfl, ht, rfl, rfl, rfl⟩ | ⟨hd, rfl⟩
  · have Hn : Hid (ballSeed ⟨k0, a0, b0⟩ = none) := by show _ = _; unfold ballSeed; rw [hd]; rfl
    clear hd ht hr
    go_wp2
    (try simp only [Exit.inBlock, Exit.then])
    refine bodyPost_ret (results_s3 rfl _ rfl (Hz3.out.set3 0 0 0)) rfl ?_
    exact gaveSFlB_none Hn.out (below_set3 HB3.out (by omega) _ _ _)
  · have Hn : Hid (ballSeed ⟨k0, a0, b0⟩ = some (⟨k1, a1, b1⟩, ballL (cn .f32 x) (cn .f32 y) (cn .f32 z))) := by show _ = _; unfold ballSeed; rw [hd]; rfl
    clear hd hr
    have t1 : True := trivial
    go_wp2_with (have := t1; clear this t1; refine wpList_fop _ rfl .sub _ _ _ _ rfl rfl .f32 _ _ rfl rfl ?_; intro r0 q0 hq)
    clear y0 y1 y2 u0 u1 u2 v0 v1 v2 c0 c1 c2 f0 f1 f2
    generalize (((w1.setCell ⟨w.heap.size, 0, none⟩ (.int .i64 k1)).setCell ⟨w.heap.size, 1, none⟩ (.int .u64 a1)).setCell ⟨w.heap.size, 2, none⟩ (.int .u64 b1)) = w3 at Hg3 Hz3 HB3 ⊢
    have y0 := Hg3.out.c0
    have y1 := Hg3.out.c1
    have y2 := Hg3.out.c2
    simp only at y0 y1 y2
    have u0 := fun n o => ((Hz3.out.drewN n).alloc o).c0
    have u1 := fun n o => ((Hz3.out.drewN n).alloc o).c1
    have u2 := fun n o => ((Hz3.out.drewN n).alloc o).c2
    have v0 := fun n o => ((Hz3.out.drewN n).alloc o).fz 0
    have v1 := fun n o => ((Hz3.out.drewN n).alloc o).fz 1
    have v2 := fun n o => ((Hz3.out.drewN n).alloc o).fz 2
    simp only at u0 u1 u2
    refine (implRoot_any r0 _).mono ?_
    rintro e w4 ⟨l, rfl, hl, ql, rfl⟩
    dsimp only
    have t1 : True := trivial
    have t2 : True := trivial
    have t3 : True := trivial
    have t4 : True := trivial
    have t5 : True := trivial
    have t6 : True := trivial
    go_wp2_with (first
      | (have := t1; clear this t1; refine wpList_fop _ rfl .mul _ _ _ _ rfl rfl .f32 _ _ rfl rfl ?_; intro r1 q1 h1)
      | (have := t2; clear this t2; refine wpList_fop _ rfl .mul _ _ _ _ rfl rfl .f32 _ _ rfl rfl ?_; intro r2 q2 h2)
      | (have := t3; clear this t3; refine wpList_fop _ rfl .mul _ _ _ _ rfl rfl .f32 _ _ rfl rfl ?_; intro r3 q3 h3)
      | (have := t4; clear this t4; refine wpList_fop _ rfl .mul _ _ _ _ rfl rfl .f32 _ _ rfl rfl ?_; intro r4 q4 h4)
      | (have := t5; clear this t5; refine wpList_fop _ rfl .mul _ _ _ _ rfl rfl .f32 _ _ rfl rfl ?_; intro r5 q5 h5)
      | (have := t6; clear this t6; refine wpList_fop _ rfl .sub _ _ _ _ rfl rfl .f32 _ _ rfl rfl ?_; intro r6 q6 h6))
    have hm : Hid ([r2, r4, r6].map (cn .f32) = ballL (cn .f32 x) (cn .f32 y) (cn .f32 z)) := by
      show _ = _
      have e1 : cn .f32 l = rootF (fop .sub .f32 1065353216 (cn .f32 z)) := by rw [hl.out, rootF_l hq.out, fop_r (r := z) rfl]
      simp only [List.map_cons, List.map_nil, ballL]
      rw [h2.out, h4.out, h6.out, fop_l h1.out, fop_l h3.out, fop_r h5.out, fop_r e1, fop_r e1, fop_r (r := x) rfl, fop_r (r := y) rfl, fop_r (r := z) rfl]
    have Hf := Hz3.out.drewN (q0 + ql + q1 + q2 + q3 + q4 + q5 + q6)
    have Ha := Hf.alloc (.cells #[.float .f32 r2, .float .f32 r4, .float .f32 r6] 25)
    have Ho := own_list3 (w3.drewN (q0 + ql + q1 + q2 + q3 + q4 + q5 + q6)) r2 r4 r6 w.heap.size HB3.out.size
    have HBa := (below_drewN HB3.out (q0 + ql + q1 + q2 + q3 + q4 + q5 + q6)).alloc HB3.out.size (.cells #[.float .f32 r2, .float .f32 r4, .float .f32 r6] 25)
    (try simp only [Exit.inBlock, Exit.then])
    refine bodyPost_ret (results_s3 (s := ⟨k1, a1, b1⟩) (g := w.heap.size + 1) rfl _ rfl (by exact Ha.set3 k1 a1 b1)) rfl ?_
    refine gaveSFlB_some (s := ⟨k1, a1, b1⟩) Hn.out hm.out (Ho.kept (grown_set3 _ _ _ _ _) (.inr (fun e => ?_))) (below_set3 HBa (by omega) _ _ _)
    have h1 := Hz3.out.lt
    have h2 : w3.heap.size = w.heap.size + 1 := by simpa [Value.ownBlock] using e
    omega
set_option maxHeartbeats 2000000 in
theorem specBall_any : FnS_SFlB 20 ballSeed := by
  intro k0 a0 b0 w hs
  have hz0 : ((w.alloc (.cells #[.int .i64 k0, .int .u64 a0, .int .u64 b0] 26)).alloc (.cells #[.int .i64 0, .int .u64 0, .int .u64 0] 26)).heap.size = w.heap.size + 2 := by rw [size_alloc', size_alloc']
  have hg : SeedAt ((w.alloc (.cells #[.int .i64 k0, .int .u64 a0, .int .u64 b0] 26)).alloc (.cells #[.int .i64 0, .int .u64 0, .int .u64 0] 26)) w.heap.size ⟨k0, a0, b0⟩ := (SeedAt.new w k0 a0 b0).alloc _
  have hz : SeedAt ((w.alloc (.cells #[.int .i64 k0, .int .u64 a0, .int .u64 b0] 26)).alloc (.cells #[.int .i64 0, .int .u64 0, .int .u64 0] 26)) (w.heap.size + 1) ⟨0, 0, 0⟩ := SeedAt.new1 w _ 0 0 0
  have hBl : Below w.heap.size w ((w.alloc (.cells #[.int .i64 k0, .int .u64 a0, .int .u64 b0] 26)).alloc (.cells #[.int .i64 0, .int .u64 0, .int .u64 0] 26)) := ((Below.refl _ _).alloc (Nat.le_refl _) _).alloc (by rw [size_alloc']; omega) _
  go_enter Try.func20, Try.ntmps20
  go_wp2_with fail
  refine (specIs_any ⟨k0, a0, b0⟩ _ _ hs hg).mono ?_
  rintro e w1 ⟨rfl, rfl⟩
  generalize (w.alloc (.cells #[.int .i64 k0, .int .u64 a0, .int .u64 b0] 26)).alloc (.cells #[.int .i64 0, .int .u64 0, .int .u64 0] 26) = w1 at hz0 hg hz hBl ⊢
  have HB := Lib.hid hBl; have Hz := Lib.hid hz; have Hg := Lib.hid hg; have Hk : Hid (Sd.ok ⟨k0, a0, b0⟩) := hs
  clear hBl hz hg hs hz0
  have u0 := Hz.out.c0
  have u1 := Hz.out.c1
  have u2 := Hz.out.c2
  have v0 := Hz.out.fz 0
  have v1 := Hz.out.fz 1
  have v2 := Hz.out.fz 2
  simp only at u0 u1 u2
  cases hv : validB ⟨k0, a0, b0⟩ with
  | false =>
    have Hn : Hid (ballSeed ⟨k0, a0, b0⟩ = none) := by show _ = _; simp [ballSeed, discP, hv]
    go_wp2
    (try simp only [Exit.inBlock, Exit.then])
    refine bodyPost_ret (results_s3 rfl _ rfl (Hz.out.set3 0 0 0)) rfl ?_
    exact gaveSFlB_none Hn.out (below_set3 HB.out (by omega) _ _ _)
  | true =>
    have Hr : Hid (ballSeed ⟨k0, a0, b0⟩ = (discFrom 64 ⟨k0, a0, b0⟩).map fun r => (r.1, ballL r.2.1 r.2.2.1 r.2.2.2)) := by show _ = _; simp [ballSeed, discP, hv]
    clear hv u0 u1 u2 v0 v1 v2
    go_wp2_with fail
    refine (specDiscP_any ⟨k0, a0, b0⟩ _ _ Hk.out Hg.out).mono ?_
    rintro e w2 ⟨t, x, y, z, ok, rfl, hr, hg2, hgr⟩
    have HZ2 := Lib.hid (Hz.out.grown hgr (by simp))
    have HB2 := Lib.hid (HB.out.grown hgr HB.out.size (fun _ h => by cases h; exact Nat.le_refl _))
    clear hgr
    rcases hr.out with ⟨h1, rfl⟩ | ⟨h1, rfl⟩
    · have Hn : Hid (ballSeed ⟨k0, a0, b0⟩ = none) := by show _ = _; rw [Hr.out, h1]; rfl
      clear h1 hg2
      have u0 := HZ2.out.c0
      have u1 := HZ2.out.c1
      have u2 := HZ2.out.c2
      have v0 := HZ2.out.fz 0
      have v1 := HZ2.out.fz 1
      have v2 := HZ2.out.fz 2
      simp only at u0 u1 u2
      go_wp2
      (try simp only [Exit.inBlock, Exit.then])
      refine bodyPost_ret (results_s3 rfl _ rfl (HZ2.out.set3 0 0 0)) rfl ?_
      exact gaveSFlB_none Hn.out (below_set3 HB2.out (by omega) _ _ _)
    · have Hn0 : Hid (ballSeed ⟨k0, a0, b0⟩ = some (t, ballL (cn .f32 x) (cn .f32 y) (cn .f32 z))) := by show _ = _; rw [Hr.out, h1]; rfl
      clear h1
      obtain ⟨k1, a1, b1⟩ := t
      have Hn := Hn0
      clear Hn0
      have y0 := hg2.c0
      have y1 := hg2.c1
      have y2 := hg2.c2
      simp only at y0 y1 y2
      clear hg2
      have u0 := fun n o => ((HZ2.out.drewN n).alloc o).c0
      have u1 := fun n o => ((HZ2.out.drewN n).alloc o).c1
      have u2 := fun n o => ((HZ2.out.drewN n).alloc o).c2
      have v0 := fun n o => ((HZ2.out.drewN n).alloc o).fz 0
      have v1 := fun n o => ((HZ2.out.drewN n).alloc o).fz 1
      have v2 := fun n o => ((HZ2.out.drewN n).alloc o).fz 2
      simp only at u0 u1 u2
      have t0 : True := trivial
      go_wp2_with (have := t0; clear this t0; refine wpList_fop _ rfl .sub _ _ _ _ rfl rfl .f32 _ _ rfl rfl ?_; intro r0 q0 hq)
      refine (specRoot_any r0 _).mono ?_
      rintro e w4 ⟨l, rfl, hl, ql, rfl⟩
      dsimp only
      have t1 : True := trivial
      have t2 : True := trivial
      have t3 : True := trivial
      have t4 : True := trivial
      have t5 : True := trivial
      have t6 : True := trivial
      go_wp2_with (first
        | (have := t1; clear this t1; refine wpList_fop _ rfl .mul _ _ _ _ rfl rfl .f32 _ _ rfl rfl ?_; intro r1 q1 h1)
        | (have := t2; clear this t2; refine wpList_fop _ rfl .mul _ _ _ _ rfl rfl .f32 _ _ rfl rfl ?_; intro r2 q2 h2)
        | (have := t3; clear this t3; refine wpList_fop _ rfl .mul _ _ _ _ rfl rfl .f32 _ _ rfl rfl ?_; intro r3 q3 h3)
        | (have := t4; clear this t4; refine wpList_fop _ rfl .mul _ _ _ _ rfl rfl .f32 _ _ rfl rfl ?_; intro r4 q4 h4)
        | (have := t5; clear this t5; refine wpList_fop _ rfl .mul _ _ _ _ rfl rfl .f32 _ _ rfl rfl ?_; intro r5 q5 h5)
        | (have := t6; clear this t6; refine wpList_fop _ rfl .sub _ _ _ _ rfl rfl .f32 _ _ rfl rfl ?_; intro r6 q6 h6))
      have hm : Hid ([r2, r4, r6].map (cn .f32) = ballL (cn .f32 x) (cn .f32 y) (cn .f32 z)) := by
        show _ = _
        have e1 : cn .f32 l = rootF (fop .sub .f32 1065353216 (cn .f32 z)) := by rw [hl.out, rootF_l hq.out, fop_r (r := z) rfl]
        simp only [List.map_cons, List.map_nil, ballL]
        rw [h2.out, h4.out, h6.out, fop_l h1.out, fop_l h3.out, fop_r h5.out, fop_r e1, fop_r e1, fop_r (r := x) rfl, fop_r (r := y) rfl, fop_r (r := z) rfl]
      have Hf := HZ2.out.drewN (q0 + ql + q1 + q2 + q3 + q4 + q5 + q6)
      have Ha := Hf.alloc (.cells #[.float .f32 r2, .float .f32 r4, .float .f32 r6] 25)
      have Ho := own_list3 (w2.drewN (q0 + ql + q1 + q2 + q3 + q4 + q5 + q6)) r2 r4 r6 w.heap.size HB2.out.size
      have HBa := (below_drewN HB2.out (q0 + ql + q1 + q2 + q3 + q4 + q5 + q6)).alloc HB2.out.size (.cells #[.float .f32 r2, .float .f32 r4, .float .f32 r6] 25)
      (try simp only [Exit.inBlock, Exit.then])
      refine bodyPost_ret (results_s3 (s := ⟨k1, a1, b1⟩) (g := w.heap.size + 1) rfl _ rfl (by exact Ha.set3 k1 a1 b1)) rfl ?_
      refine gaveSFlB_some (s := ⟨k1, a1, b1⟩) Hn.out hm.out (Ho.kept (grown_set3 _ _ _ _ _) (.inr (fun e => ?_))) (below_set3 HBa (by omega) _ _ _)
      have h1 := HZ2.out.lt
      have h2 : w2.heap.size = w.heap.size + 1 := by simpa [Value.ownBlock] using e
      omega
end Go.Proofs.Ytdofpnhmlhkoiaa
