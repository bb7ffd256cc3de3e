/- BellPair: a pair of numbers of a bell. -/
import Derived.Test.YtgbehnkccgahoaaCircle
import Derived.Test.YtgbehnkccgahoaaLogSign
namespace Go.Proofs.Ytgbehnkccgahoaa
open Go.RowKit Mag
set_option maxRecDepth 100000
def bellRoot (s : Sd) : Nat := rootF (fop .mul .f32 3221225472 (logF (leftOf s)))
def bellRe (s : Sd) : Nat := fop .mul .f32 (phRe (widen (shareOf (nextSd s)))) (bellRoot s)
def bellIm (s : Sd) : Nat := fop .mul .f32 (phIm (widen (shareOf (nextSd s)))) (bellRoot s)
def bellP (s : Sd) : Option (Sd × Nat × Nat) := if validB s then some (nextSd (nextSd s), bellRe s, bellIm s) else none
theorem mul_negs {k : FloatKind} {x y : Nat} (hx : FinK k x) (hy : FinK k y) : fop .mul k (Op.negFloat k x) y = fop .mul k x (Op.negFloat k y) := by
  have a := mul_fin (FinK_neg hx) hy
  have b := mul_fin hx (FinK_neg hy)
  rw [rungW_neg, negW_neg] at a b
  unfold fop floatBits
  dsimp only
  rw [a, b]
  have : (!negW k.format x ^^ negW k.format y) = (negW k.format x ^^ !negW k.format y) := by cases negW k.format x <;> cases negW k.format y <;> rfl
  rw [this]
theorem two_rn : Rn .f32 0 (1073741824 : Nat) 1073741824 := Rn.const (by decide +kernel)
theorem mtwo_rn : Rn .f32 (-(1073741824 : Nat)) (1073741824 : Nat) 3221225472 := Rn.const (by decide +kernel)
theorem bellSq_rn (s : Sd) : Rn .f32 0 (1140850688 : Nat) (fop .mul .f32 3221225472 (logF (leftOf s))) := by
  have hl := logF_neg (leftOf_rn s).1 (leftOf_rn s).2
  have hn : Rn .f32 0 (1128792064 : Nat) (Op.negFloat .f32 (logF (leftOf s))) := hl.neg.weak (by omega) (by omega)
  have e : (3221225472 : Nat) = Op.negFloat .f32 1073741824 := by decide +kernel
  rw [e, mul_negs two_rn.1 hl.1]
  exact two_rn.mulP hn (by decide +kernel)
theorem bellRoot_rn (s : Sd) : Rn .f32 (-(1103101952 : Nat)) (1103101952 : Nat) (bellRoot s) := (root_rn (bellSq_rn s)).weak (by omega) (by omega)
theorem bellRe_rn (s : Sd) : Rn .f32 (-(1128792064 : Nat)) (1128792064 : Nat) (bellRe s) := (phRe_rn (share_wide (nextSd s)).2).mul (bellRoot_rn s) (by decide +kernel)
theorem bellIm_rn (s : Sd) : Rn .f32 (-(1128792064 : Nat)) (1128792064 : Nat) (bellIm s) := (phIm_rn (share_wide (nextSd s)).2).mul (bellRoot_rn s) (by decide +kernel)
theorem cn_bellRe (s : Sd) : cn .f32 (bellRe s) = bellRe s := (bellRe_rn s).cn
theorem cn_bellIm (s : Sd) : cn .f32 (bellIm s) = bellIm s := (bellIm_rn s).cn
theorem specScale_any (x y b : Nat) (w : World) (hx : isNaNB .f32 (fop .mul .f32 x b) = false) (hy : isNaNB .f32 (fop .mul .f32 y b) = false) : Calls Try.prog 67 #[.complex .f32 x y, .float .f32 b] w fun e w' => e = .returned (.complex .f32 (fop .mul .f32 x b) (fop .mul .f32 y b)) ∧ ∃ q, w' = w.drewN q := by
  have Hx := Lib.hid hx; have Hy := Lib.hid hy
  clear hx hy
  go_enter Try.func67, Try.ntmps67
  have t1 : True := trivial
  have t2 : True := trivial
  go_wp2_with (first
    | (have := t1; clear this t1; refine wpList_fop _ rfl .mul _ _ _ _ rfl rfl .f32 _ _ rfl rfl ?_; intro r1 q1 h1)
    | (have := t2; clear this t2; refine wpList_fop _ rfl .mul _ _ _ _ rfl rfl .f32 _ _ rfl rfl ?_; intro r2 q2 h2))
  obtain rfl : r1 = fop .mul .f32 x b := cn_num h1.out Hx.out
  obtain rfl : r2 = fop .mul .f32 y b := cn_num h2.out Hy.out
  go_ret
  exact ⟨rfl, _, rfl⟩
theorem implScale_any (x y b : Nat) (w : World) (hx : isNaNB .f32 (fop .mul .f32 x b) = false) (hy : isNaNB .f32 (fop .mul .f32 y b) = false) : Calls Try.prog 62 #[.complex .f32 x y, .float .f32 b] w fun e w' => e = .returned (.complex .f32 (fop .mul .f32 x b) (fop .mul .f32 y b)) ∧ ∃ q, w' = w.drewN q := by
  have Hx := Lib.hid hx; have Hy := Lib.hid hy
  clear hx hy
  go_enter Try.func62, Try.ntmps62
  have t1 : True := trivial
  have t2 : True := trivial
  go_wp2_with (first
    | (have := t1; clear this t1; refine wpList_fop _ rfl .mul _ _ _ _ rfl rfl .f32 _ _ rfl rfl ?_; intro r1 q1 h1)
    | (have := t2; clear this t2; refine wpList_fop _ rfl .mul _ _ _ _ rfl rfl .f32 _ _ rfl rfl ?_; intro r2 q2 h2))
  obtain rfl : r1 = fop .mul .f32 x b := cn_num h1.out Hx.out
  obtain rfl : r2 = fop .mul .f32 y b := cn_num h2.out Hy.out
  go_ret
  exact ⟨rfl, _, rfl⟩
theorem l03Bell_any (s : Sd) (g : Nat) (w : World) (hs : s.ok) (hg : SeedAt w g s) :
    Calls Try.prog 51 #[.pointer (some ⟨g, 0, none⟩)] w fun e w' => e = .returned (.complex .f32 (bellRe s) (bellIm s)) ∧ SeedAt w' g (nextSd (nextSd s)) ∧ w.grownBy w' (some g) := by
  have hcv := fun w => run_widen_num (P := Try.prog) 28 52 rfl Try.underlying52 w (shareOf (nextSd s)) (FinK_not_nan (share_rn _).1)
  have Hcv := Lib.hid hcv
  have Hk : Hid s.ok := hs
  clear hcv hs
  go_enter Try.func51, Try.ntmps51
  go_wp2_with fail
  refine (specShare_any s g _ Hk.out hg).mono ?_
  rintro e w2 ⟨u, rfl, hu, hg2, hgr2⟩
  obtain rfl : u = shareOf s := cn_num hu.out (FinK_not_nan (share_rn _).1)
  have Hgr2 := Lib.hid hgr2
  clear hgr2 hg
  go_wp2_with fail
  refine (specShare_any (nextSd s) g _ (nextSd_ok Hk.out) hg2).mono ?_
  rintro e w3 ⟨v, rfl, hv, hg3, hgr3⟩
  obtain rfl : v = shareOf (nextSd s) := cn_num hv.out (FinK_not_nan (share_rn _).1)
  have Hgr3 := Lib.hid (grown_trans' Hgr2.out hgr3)
  have Hg3 := Lib.hid hg3
  clear hgr3 hg2 hg3
  have hcv := Hcv.out
  go_wp2_with fail
  clear hcv
  refine (specPhasor_any _ (share_wide (nextSd s)).2 _).mono ?_
  rintro e w4 ⟨rfl, q4, rfl⟩
  dsimp only
  have t1 : True := trivial
  go_wp2_with (have := t1; clear this t1; refine wpList_fop _ rfl .sub _ _ _ _ rfl rfl .f32 _ _ rfl rfl ?_; intro r1 q1 h1)
  refine (specLog_any (leftOf s) _ _ h1.out (leftOf_rn s).1 (leftOf_rn s).2).mono ?_
  rintro e w5 ⟨l, rfl, hl, q5, rfl⟩
  dsimp only
  have t2 : True := trivial
  go_wp2_with (have := t2; clear this t2; refine wpList_fop _ rfl .mul _ _ _ _ rfl rfl .f32 _ _ rfl rfl ?_; intro r2 q2 h2)
  refine (specRoot_any _ _).mono ?_
  rintro e w6 ⟨r3, rfl, h3, q6, rfl⟩
  obtain rfl : r3 = bellRoot s := cn_num (h3.out.trans (by rw [rootF_l h2.out, fop_r hl.out]; rfl)) (FinK_not_nan (bellRoot_rn s).1)
  go_wp2_with fail
  refine (specScale_any _ _ _ _ (FinK_not_nan (bellRe_rn s).1) (FinK_not_nan (bellIm_rn s).1)).mono ?_
  rintro e w7 ⟨rfl, q7, rfl⟩
  go_wp2
  go_ret
  exact ⟨rfl, Hg3.out.drewN _, grown_mk_drewN Hgr3.out _⟩
theorem implRootE_any (s : Sd) (w : World) : Calls Try.prog 41 #[.float .f32 (fop .mul .f32 3221225472 (logF (leftOf s)))] w fun e w' => e = .returned (.float .f32 (bellRoot s)) ∧ ∃ q, w' = w.drewN q :=
  (implRoot_any _ w).mono fun _ _ ⟨r, he, hr, hq⟩ => ⟨by rw [he, cn_num hr.out (FinK_not_nan (bellRoot_rn s).1)]; rfl, hq⟩
set_option maxHeartbeats 4000000 in
theorem bells_any (s : Sd) (w : World) (hs : s.ok) : Calls Try.prog 42 #[s.val] w fun e w' => e = .returned (.tuple #[(nextSd (nextSd s)).val, .complex .f32 (bellRe s) (bellIm s)]) ∧ Below w.heap.size w w' := by
  obtain ⟨k0, a0, b0⟩ := s
  unfold Sd.val
  have Hk : Hid (Sd.ok ⟨k0, a0, b0⟩) := hs
  have hcv := fun w => run_widen_num (P := Try.prog) 28 52 rfl Try.underlying52 w (shareOf (nextSd ⟨k0, a0, b0⟩)) (FinK_not_nan (share_rn _).1)
  have hsub := run_fop_some (P := Try.prog) (op := .sub) 28 .f32 1065353216 (shareOf ⟨k0, a0, b0⟩) _ (sub_some (Rn.const (k := .f32) (lo := 1065353216) (hi := 1065353216) (by decide +kernel)).1 (share_rn ⟨k0, a0, b0⟩).1)
  change ∀ w : World, (binOp .sub 28 (.float .f32 1065353216) (.float .f32 (shareOf ⟨k0, a0, b0⟩))).run Try.prog w = .ok (.float .f32 (leftOf ⟨k0, a0, b0⟩)) w at hsub
  have hmul := run_fop_some (P := Try.prog) (op := .mul) 28 .f32 3221225472 (logF (leftOf ⟨k0, a0, b0⟩)) _ (mul_some mtwo_rn.1 (logF_rn (leftOf_rn ⟨k0, a0, b0⟩).1 (leftOf_rn ⟨k0, a0, b0⟩).2).1)
  have Hcv := Lib.hid hcv
  have Hsub := Lib.hid hsub
  have Hmul := Lib.hid hmul
  clear hs hcv hsub hmul
  have hz0 : ((w.alloc (.cells #[.int .i64 k0, .int .u64 a0, .int .u64 b0] 26)).alloc (.cells #[.int .i64 0, .int .u64 0, .int .u64 0] 26)).heap.size = w.heap.size + 2 := by rw [size_alloc', size_alloc']
  go_enter Try.func42, Try.ntmps42
  go_wp2_with fail
  refine (implShare_any ⟨k0, a0, b0⟩ _ Hk.out).mono ?_
  rintro e w1 ⟨u, rfl, hu, hb1⟩
  obtain rfl : u = shareOf ⟨k0, a0, b0⟩ := cn_num hu.out (FinK_not_nan (share_rn _).1)
  rw [hz0] at hb1
  have hBl : Below w.heap.size w w1 := (((Below.refl _ _).alloc (Nat.le_refl _) _).alloc (by rw [size_alloc']; omega) _).trans (hb1.mono (by omega))
  have hg2 : SeedAt w1 w.heap.size ⟨k0, a0, b0⟩ := ((SeedAt.new w k0 a0 b0).alloc _).below hb1 (by omega)
  have hz : SeedAt w1 (w.heap.size + 1) ⟨0, 0, 0⟩ := (SeedAt.new1 w _ 0 0 0).below hb1 (by omega)
  have HB2 := Lib.hid hBl
  have Hz2 := Lib.hid hz
  clear hz0 hb1 hBl hz
  obtain ⟨t, ht⟩ : ∃ t, t = nextSd ⟨k0, a0, b0⟩ := ⟨_, rfl⟩
  have hto : t.ok := by rw [ht]; exact nextSd_ok Hk.out
  rw [← ht] at Hcv ⊢
  have Ht := Lib.hid ht
  clear ht
  obtain ⟨k1, a1, b1⟩ := t
  have Hto := Lib.hid hto
  clear hto
  unfold Sd.val
  have f0 := hg2.fz 0
  have f1 := hg2.fz 1
  have f2 := hg2.fz 2
  have x0 := hg2.c0
  have x1 := hg2.c1
  have x2 := hg2.c2
  simp only at x0 x1 x2
  have hg3 := hg2.set3 k1 a1 b1
  have Hz3 := Lib.hid (Hz2.out.far3 (g' := w.heap.size) (by omega) k1 a1 b1)
  have HB3 := Lib.hid (below_set3 HB2.out (Nat.le_refl _) k1 a1 b1)
  have y0 := hg3.c0
  have y1 := hg3.c1
  have y2 := hg3.c2
  simp only at y0 y1 y2
  go_wp2_with fail
  refine (implShare_any ⟨k1, a1, b1⟩ _ Hto.out).mono ?_
  rintro e w4 ⟨v, rfl, hv, hb4⟩
  obtain rfl : v = shareOf ⟨k1, a1, b1⟩ := cn_num hv.out (FinK_not_nan (share_rn _).1)
  have hg4 := hg3.below hb4 hg3.lt
  have Hz4 := Lib.hid (Hz3.out.below hb4 Hz3.out.lt)
  have HB4 := Lib.hid (HB3.out.trans (hb4.mono HB3.out.size))
  clear hb4 hg3 hg2 x0 x1 x2 y0 y1 y2 f0 f1 f2
  have hsw := Lib.hid (share_wide ⟨k1, a1, b1⟩)
  obtain ⟨t, ht⟩ : ∃ t, t = nextSd ⟨k1, a1, b1⟩ := ⟨_, rfl⟩
  rw [← ht]
  have Ht2 := Lib.hid ht
  clear ht
  obtain ⟨k2, a2, b2⟩ := t
  unfold Sd.val
  have f0 := hg4.fz 0
  have f1 := hg4.fz 1
  have f2 := hg4.fz 2
  have x0 := hg4.c0
  have x1 := hg4.c1
  have x2 := hg4.c2
  simp only at x0 x1 x2
  have Hg5 := Lib.hid (hg4.set3 k2 a2 b2)
  have Hz5 := Lib.hid (Hz4.out.far3 (g' := w.heap.size) (by omega) k2 a2 b2)
  have HB5 := Lib.hid (below_set3 HB4.out (Nat.le_refl _) k2 a2 b2)
  clear hg4
  go_wp2_with fail
  clear x0 x1 x2 f0 f1 f2
  generalize (((w4.setCell ⟨w.heap.size, 0, none⟩ (.int .i64 k2)).setCell ⟨w.heap.size, 1, none⟩ (.int .u64 a2)).setCell ⟨w.heap.size, 2, none⟩ (.int .u64 b2)) = w5 at Hg5 Hz5 HB5 ⊢
  have c0 := Hg5.out.c0
  have c1 := Hg5.out.c1
  have c2 := Hg5.out.c2
  have u0 := Hz5.out.c0
  have u1 := Hz5.out.c1
  have u2 := Hz5.out.c2
  have v0 := Hz5.out.fz 0
  have v1 := Hz5.out.fz 1
  have v2 := Hz5.out.fz 2
  simp only at c0 c1 c2 u0 u1 u2
  have Hz6 := Lib.hid (Hz5.out.set3 k2 a2 b2)
  have Hb6 := Lib.hid (below_set3 HB5.out (g := w.heap.size + 1) (by omega) k2 a2 b2)
  have hcv := Hcv.out
  have hsub := Hsub.out
  have hmul := Hmul.out
  have hrt := Lib.hid (bellRoot_rn ⟨k0, a0, b0⟩)
  have hre := Lib.hid (bellRe_rn ⟨k0, a0, b0⟩)
  have him := Lib.hid (bellIm_rn ⟨k0, a0, b0⟩)
  have ere : Hid (bellRe ⟨k0, a0, b0⟩ = fop .mul .f32 (phRe (widen (shareOf ⟨k1, a1, b1⟩))) (bellRoot ⟨k0, a0, b0⟩)) := by show _ = _; unfold bellRe; rw [Ht.out]
  have eim : Hid (bellIm ⟨k0, a0, b0⟩ = fop .mul .f32 (phIm (widen (shareOf ⟨k1, a1, b1⟩))) (bellRoot ⟨k0, a0, b0⟩)) := by show _ = _; unfold bellIm; rw [Ht.out]
  have hroot := Lib.hid (fun w' => implRootE_any ⟨k0, a0, b0⟩ w')
  have hscale := Lib.hid (fun w' => implScale_any (phRe (widen (shareOf ⟨k1, a1, b1⟩))) (phIm (widen (shareOf ⟨k1, a1, b1⟩))) (bellRoot ⟨k0, a0, b0⟩) w' (by rw [← ere.out]; exact FinK_not_nan hre.out.1) (by rw [← eim.out]; exact FinK_not_nan him.out.1))
  go_region_with (first
    | (refine (phasor_any _ hsw.out.1 hsw.out.2 _).mono ?_; rintro e w7 ⟨rfl, q, rfl⟩)
    | (refine (implLogE_any _ _ (leftOf_rn _).1 (leftOf_rn _).2).mono ?_; rintro e w7 ⟨rfl, q, rfl⟩)
    | (refine (hroot.out _).mono ?_; rintro e w7 ⟨rfl, q, rfl⟩)
    | (refine (hscale.out _).mono ?_; rintro e w7 ⟨rfl, q, rfl⟩))
  all_goals go_wp2
  all_goals
    (try simp only [Exit.inBlock, Exit.then])
    refine bodyPost_ret (results_s2 (s := ⟨k2, a2, b2⟩) (g := w.heap.size + 1) rfl _ rfl (by exact Hz6.out)) rfl ?_
    refine ⟨?_, ⟨Hb6.out.os, Hb6.out.tape, Hb6.out.output, Hb6.out.size, Hb6.out.block⟩⟩
    rw [ere.out, eim.out, ← Ht.out, ← Ht2.out]
    rfl
end Go.Proofs.Ytgbehnkccgahoaa
