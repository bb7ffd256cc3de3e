/- largeGamma, walked. -/
import Derived.Test.YtgbehnkccgahoaaGamP
namespace Go.Proofs.Ytgbehnkccgahoaa
open Go.RowKit Mag
set_option maxRecDepth 100000
set_option maxHeartbeats 4000000 in
theorem implLarge_any (k0 a0 b0 : Int) (x0 xc : Nat) (w : World) (hs : Sd.ok ⟨k0, a0, b0⟩) (hx0 : cn .f32 x0 = xc) : Calls Try.prog 21 #[.agg #[.int .i64 k0, .int .u64 a0, .int .u64 b0], .float .f32 x0] w (GaveSFB w (gamLarge xc ⟨k0, a0, b0⟩)) := by
  have hz0 : ((w.alloc (.cells #[.int .i64 k0, .int .u64 a0, .int .u64 b0] 26)).alloc (.cells #[.int .i64 0, .int .u64 0, .int .u64 0] 26)).heap.size = w.heap.size + 2 := by rw [size_alloc', size_alloc']
  have HB0 : Hid (Below w.heap.size w ((w.alloc (.cells #[.int .i64 k0, .int .u64 a0, .int .u64 b0] 26)).alloc (.cells #[.int .i64 0, .int .u64 0, .int .u64 0] 26))) := ((Below.refl _ _).alloc (Nat.le_refl _) _).alloc (by rw [size_alloc']; omega) _
  have Hg0 : Hid (SeedAt ((w.alloc (.cells #[.int .i64 k0, .int .u64 a0, .int .u64 b0] 26)).alloc (.cells #[.int .i64 0, .int .u64 0, .int .u64 0] 26)) w.heap.size ⟨k0, a0, b0⟩) := (SeedAt.new w k0 a0 b0).alloc _
  have Hz0 : Hid (SeedAt ((w.alloc (.cells #[.int .i64 k0, .int .u64 a0, .int .u64 b0] 26)).alloc (.cells #[.int .i64 0, .int .u64 0, .int .u64 0] 26)) (w.heap.size + 1) ⟨0, 0, 0⟩) := SeedAt.new1 w _ 0 0 0
  have Hx0 := Lib.hid hx0
  have Hsz := Lib.hid hz0
  clear hx0 hz0
  go_enter Try.func21, Try.ntmps21
  have t1 : True := trivial
  have t2 : True := trivial
  go_wp2_with (first
    | (have := t1; clear this t1; refine wpList_fop _ rfl .sub _ _ _ _ rfl rfl .f32 _ _ rfl rfl ?_; intro d q1 h1)
    | (have := t2; clear this t2; refine wpList_fop _ rfl .mul _ _ _ _ rfl rfl .f32 _ _ rfl rfl ?_; intro r2 q2 h2))
  have hd : cn .f32 d = gamD xc := by rw [h1.out, fop_l Hx0.out]; rfl
  have Hd := Lib.hid hd
  refine (implRoot_any _ _).mono ?_
  rintro e w2 ⟨y, rfl, hy, q3, rfl⟩
  have hyc : cn .f32 y = rootF (fop .mul .f32 1091567616 (gamD xc)) := by rw [hy.out]; exact rootF_l (h2.out.trans (fop_r hd _))
  have Hy := Lib.hid hyc
  clear hyc hd h1 h2 hy
  go_wp2_with (refine wpList_fop _ rfl .quo _ _ _ _ rfl rfl .f32 _ _ rfl rfl ?_; intro c q4 h4)
  have Hc : Hid (cn .f32 c = gamC xc) := by show _ = _; rw [h4.out, fop_r Hy.out]; rfl
  clear h4 Hy
  obtain ⟨s, hsd⟩ : ∃ s : Sd, s = ⟨k0, a0, b0⟩ := ⟨_, rfl⟩
  rw [← hsd] at hs Hg0 ⊢
  have Hr : Hid (gamLarge xc ⟨k0, a0, b0⟩ = gamGo (gamD xc) (gamC xc) 64 s) := by show _ = _; rw [← hsd]; rfl
  have Hs := Lib.hid hs
  have Hs0 := Lib.hid hsd
  clear hs hsd
  go_loopw [21] (fun i wr => ∃ (k : Nat) (s' : Sd), k ≤ 64 ∧ i = .int .i64 k ∧ Hid (gamLarge xc ⟨k0, a0, b0⟩ = gamGo (gamD xc) (gamC xc) (64 - k) s') ∧ s'.ok ∧ SeedAt wr w.heap.size s' ∧ SeedAt wr (w.heap.size + 1) Sd.zero ∧ Below w.heap.size w wr) (fun i _ => 64 - (intOf i).toNat)
  case atStart => exact ⟨0, s, by omega, rfl, Hr, Hs.out, Hg0.out.drewN _, Hz0.out.drewN _, below_drewN HB0.out _⟩
  case round =>
    obtain ⟨k, s', hk, rfl, hdf, hs', hg', hz', hbel⟩ := hrel
    have HB' := Lib.hid hbel; have Hz' := Lib.hid hz'; have Hk' := Lib.hid hs'; have Hg' := Lib.hid hg'
    clear hbel hz' hs' hg' HB0 Hg0 Hz0 Hsz
    by_cases hlt : k < 64
    · have c0 := Hg'.out.c0
      have c1 := Hg'.out.c1
      have c2 := Hg'.out.c2
      have hlt' : (k : Int) < 64 := by omega
      go_wp2_with fail
      refine (bells_any s' _ Hk'.out).mono ?_
      rintro e w2 ⟨rfl, hb2⟩
      have Hg2 := Lib.hid (Hg'.out.below hb2 Hg'.out.lt)
      have Hz2 := Lib.hid (Hz'.out.below hb2 Hz'.out.lt)
      have HB2 := Lib.hid (HB'.out.trans (hb2.mono HB'.out.size))
      clear hb2 Hg' Hz' HB' c0 c1 c2
      obtain ⟨t, ht⟩ : ∃ t, t = gamS s' := ⟨_, rfl⟩
      rw [show nextSd (nextSd s') = t from ht.symm]
      have hto : t.ok := by rw [ht]; exact nextSd_ok (nextSd_ok Hk'.out)
      have Ht := Lib.hid ht
      clear ht
      obtain ⟨k1, a1, b1⟩ := t
      have Hto := Lib.hid hto
      clear hto
      unfold Sd.val
      have f0 := Hg2.out.fz 0
      have f1 := Hg2.out.fz 1
      have f2 := Hg2.out.fz 2
      have x0 := Hg2.out.c0
      have x1 := Hg2.out.c1
      have x2 := Hg2.out.c2
      have Hg3 := Lib.hid (Hg2.out.set3 k1 a1 b1)
      have Hz3 := Lib.hid (Hz2.out.far3 (g' := w.heap.size) (by omega) k1 a1 b1)
      have HB3 := Lib.hid (below_set3 HB2.out (Nat.le_refl _) k1 a1 b1)
      have y0 := Hg3.out.c0
      have y1 := Hg3.out.c1
      have y2 := Hg3.out.c2
      simp only at y0 y1 y2
      have t1 : True := trivial
      have t2 : True := trivial
      go_wp2_with (first
        | (have := t1; clear this t1; refine wpList_fop _ rfl .mul _ _ _ _ rfl rfl .f32 _ _ rfl rfl ?_; intro r1 q1 h1)
        | (have := t2; clear this t2; refine wpList_fop _ rfl .add _ _ _ _ rfl rfl .f32 _ _ rfl rfl ?_; intro r2 q2 h2))
      · have hc : (!FloatKind.f32.format.order r2 0 == some Ordering.gt) = true := by assumption
        have hT : cn .f32 r2 = gamT (gamC xc) s' := by rw [h2.out, fop_r (h1.out.trans (fop_l Hc.out _))]; rfl
        have hng : fgt .f32 (gamT (gamC xc) s') 0 = false := by unfold fgt; rw [← order_l hT]; simpa using hc
        have hd : Hid (gamLarge xc ⟨k0, a0, b0⟩ = gamGo (gamD xc) (gamC xc) (64 - (k + 1)) ⟨k1, a1, b1⟩) := by
          show _ = _
          rw [hdf.out, show 64 - k = (64 - (k + 1)) + 1 by omega, gamGo_skip hng, Ht.out]
        clear hng hc
        exact ⟨⟨k + 1, ⟨k1, a1, b1⟩, by omega, by go_num, hd, Hto.out, Hg3.out.drewN _, Hz3.out.drewN _, below_drewN HB3.out _⟩, by simp only [intOf]; omega⟩
      · have hc : (!FloatKind.f32.format.order r2 0 == some Ordering.gt) = false := by assumption
        have hT : cn .f32 r2 = gamT (gamC xc) s' := by rw [h2.out, fop_r (h1.out.trans (fop_l Hc.out _))]; rfl
        have hng : fgt .f32 (gamT (gamC xc) s') 0 = true := by unfold fgt; rw [← order_l hT]; simpa using hc
        have Hng := Lib.hid hng
        have HT := Lib.hid hT
        clear hng hc hT h1 h2 f0 f1 f2 x0 x1 x2
        refine (implShare_any ⟨k1, a1, b1⟩ _ Hto.out).mono ?_
        rintro e w4 ⟨u, rfl, hu, hb4⟩
        have Hg4 := Lib.hid (SeedAt.via hb4 Hg3.out)
        have Hz4 := Lib.hid (SeedAt.via hb4 Hz3.out)
        have HB4 := Lib.hid (below_via hb4 ⟨HB3.out.os, HB3.out.tape, HB3.out.output, HB3.out.size, HB3.out.block⟩)
        clear hb4 Hg3 Hz3 HB3 y0 y1 y2 Hg2 Hz2 HB2
        obtain ⟨t, ht⟩ : ∃ t, t = nextSd ⟨k1, a1, b1⟩ := ⟨_, rfl⟩
        rw [← ht]
        have hto : t.ok := by rw [ht]; exact nextSd_ok Hto.out
        have Ht2 := Lib.hid ht
        clear ht
        obtain ⟨k2, a2, b2⟩ := t
        have Hto2 := Lib.hid hto
        clear hto
        unfold Sd.val
        have f0 := Hg4.out.fz 0
        have f1 := Hg4.out.fz 1
        have f2 := Hg4.out.fz 2
        have x0 := Hg4.out.c0
        have x1 := Hg4.out.c1
        have x2 := Hg4.out.c2
        have Hg5 := Lib.hid (Hg4.out.set3 k2 a2 b2)
        have Hz5 := Lib.hid (Hz4.out.far3 (g' := w.heap.size) (by omega) k2 a2 b2)
        have HB5 := Lib.hid (below_set3 HB4.out (Nat.le_refl _) k2 a2 b2)
        have hu' : cn .f32 (fop .sub .f32 1065353216 u) = leftOf ⟨k1, a1, b1⟩ := by rw [cn_fop, fop_r hu.out]; rfl
        have Hu := Lib.hid hu'
        clear hu hu'
        have t1 : True := trivial
        have t2 : True := trivial
        have t3 : True := trivial
        have t4 : True := trivial
        have t5 : True := trivial
        have t6 : True := trivial
        have t7 : True := trivial
        go_wp2_with (first
          | (have := t1; clear this t1; refine wpList_fop _ rfl .mul _ _ _ _ rfl rfl .f32 _ _ rfl rfl ?_; intro m1 p1 h1)
          | (have := t2; clear this t2; refine wpList_fop _ rfl .mul _ _ _ _ rfl rfl .f32 _ _ rfl rfl ?_; intro m2 p2 h2)
          | (have := t3; clear this t3; refine wpList_fop _ rfl .mul _ _ _ _ rfl rfl .f32 _ _ rfl rfl ?_; intro m3 p3 h3)
          | (have := t4; clear this t4; refine wpList_fop _ rfl .mul _ _ _ _ rfl rfl .f32 _ _ rfl rfl ?_; intro m4 p4 h4)
          | (have := t5; clear this t5; refine wpList_fop _ rfl .add _ _ _ _ rfl rfl .f32 _ _ rfl rfl ?_; intro m5 p5 h5)
          | (have := t6; clear this t6; refine wpList_fop _ rfl .mul _ _ _ _ rfl rfl .f32 _ _ rfl rfl ?_; intro m6 p6 h6)
          | (have := t7; clear this t7; refine wpList_fop _ rfl .sub _ _ _ _ rfl rfl .f32 _ _ rfl rfl ?_; intro m7 p7 h7))
        have hW : cn .f32 m2 = gamW (gamT (gamC xc) s') := by rw [h2.out, fop_l (h1.out.trans ((fop_l HT.out _).trans (fop_r HT.out _))), fop_r HT.out]; rfl
        have HW := Lib.hid hW
        clear hW
        refine (implLogA_any _ _ _ HW.out (gamW_bits (gamT_lt _ _) Hng.out)).mono ?_
        rintro e w6 ⟨lg, rfl, hlg, ql, rfl⟩
        have t1 : True := trivial
        have t2 : True := trivial
        have t3 : True := trivial
        go_wp2_with (first
          | (have := t1; clear this t1; refine wpList_fop _ rfl .mul _ _ _ _ rfl rfl .f32 _ _ rfl rfl ?_; intro m8 p8 h8)
          | (have := t2; clear this t2; refine wpList_fop _ rfl .add _ _ _ _ rfl rfl .f32 _ _ rfl rfl ?_; intro m9 p9 h9)
          | (have := t3; clear this t3; refine wpList_fop _ rfl .sub _ _ _ _ rfl rfl .f32 _ _ rfl rfl ?_; intro m10 p10 h10))
        have HBd : Hid (cn .f32 m9 = gamB (gamD xc) (bellRe s') (gamW (gamT (gamC xc) s'))) := by
          show _ = _
          rw [h9.out, fop_l (h7.out.trans ((fop_l (h5.out.trans ((fop_l (h4.out.trans (fop_l h3.out _)) _).trans (fop_r Hd.out _))) _).trans (fop_r (h6.out.trans ((fop_l Hd.out _).trans (fop_r HW.out _))) _))), fop_r (h8.out.trans ((fop_l Hd.out _).trans (fop_r hlg.out _)))]
          rfl
        clear h1 h2 h3 h4 h5 h6 h7 h8 h9 hlg
        refine (implLog_any _ _ _ (h10.out.trans ((cn_fop _ _ _ _).symm.trans Hu.out)) (leftOf_rn _).1 (leftOf_rn _).2).mono ?_
        rintro e w7 ⟨l2, rfl, hl2, ql2, rfl⟩
        clear h10
        have y0 := Hg5.out.c0
        have y1 := Hg5.out.c1
        have y2 := Hg5.out.c2
        simp only at y0 y1 y2
        have t1 : True := trivial
        go_wp2_with (have := t1; clear this t1; refine wpList_fop _ rfl .mul _ _ _ _ rfl rfl .f32 _ _ rfl rfl ?_; intro m11 p11 h11)
        · have hc : (FloatKind.f32.format.order l2 m9 == some Ordering.lt) = true := by assumption
          have hok : gamOk (gamD xc) (gamC xc) s' = true := by
            unfold gamOk flt
            rw [← Ht.out, ← order_l hl2.out, ← order_r HBd.out]
            exact hc
          have HX : Hid (cn .f32 m11 = gamX (gamD xc) (gamC xc) s') := by show _ = _; rw [h11.out, fop_l Hd.out, fop_r HW.out]; rfl
          clear hc h11 hl2 f0 f1 f2 x0 x1 x2 y0 y1 y2
          refine (drawn_any ⟨k2, a2, b2⟩ m11 _).mono ?_
          rintro e w8 ⟨hor, hb8⟩
          have Hz8 := Lib.hid (SeedAt.via hb8 Hz5.out)
          have HB8 := Lib.hid (below_via hb8 ⟨HB5.out.os, HB5.out.tape, HB5.out.output, HB5.out.size, HB5.out.block⟩)
          clear hb8
          have u0 := Hz8.out.c0
          have u1 := Hz8.out.c1
          have u2 := Hz8.out.c2
          have v0 := Hz8.out.fz 0
          have v1 := Hz8.out.fz 1
          have v2 := Hz8.out.fz 2
          have hfx : finB m11 = finB (gamX (gamD xc) (gamC xc) s') := by rw [← finB_cn, HX.out]
          have hd : gamLarge xc ⟨k0, a0, b0⟩ = if finB (gamX (gamD xc) (gamC xc) s') then some (⟨k2, a2, b2⟩, gamX (gamD xc) (gamC xc) s') else none := by
            rw [hdf.out, show 64 - k = (63 - k) + 1 by omega, gamGo_yes Hng.out hok, Ht2.out, Ht.out]
          clear hok
          rcases hor with ⟨hf, rfl⟩ | ⟨hf, rfl⟩
          · rw [hf] at hfx
            have Hr2 : Hid (gamLarge xc ⟨k0, a0, b0⟩ = some (⟨k2, a2, b2⟩, gamX (gamD xc) (gamC xc) s')) := by show _ = _; rw [hd, if_pos hfx.symm]
            clear hf hfx hd
            unfold Sd.val
            go_wp2
            (try simp only [Exit.inBlock, Exit.then])
            refine bodyPost_ret (results_s3 (s := ⟨k2, a2, b2⟩) (g := w.heap.size + 1) rfl _ rfl (by exact Hz8.out.set3 k2 a2 b2)) rfl ?_
            exact gaveSFB_some (s := ⟨k2, a2, b2⟩) (by first | exact Hr2.out | (rw [Hs0.out]; exact Hr2.out)) HX.out (below_set3 HB8.out (by omega) _ _ _)
          · rw [hf] at hfx
            have Hr2 : Hid (gamLarge xc ⟨k0, a0, b0⟩ = none) := by show _ = _; rw [hd, if_neg (by rw [← hfx]; decide)]
            clear hf hfx hd
            unfold Sd.val Sd.zero
            go_wp2
            (try simp only [Exit.inBlock, Exit.then])
            refine bodyPost_ret (results_s3 (s := ⟨0, 0, 0⟩) (g := w.heap.size + 1) rfl _ rfl (by exact Hz8.out.set3 0 0 0)) rfl ?_
            exact gaveSFB_none (by first | exact Hr2.out | (rw [Hs0.out]; exact Hr2.out)) (below_set3 HB8.out (by omega) _ _ _)
        · have hc : (FloatKind.f32.format.order l2 m9 == some Ordering.lt) = false := by assumption
          have hok : gamOk (gamD xc) (gamC xc) s' = false := by
            unfold gamOk flt
            rw [← Ht.out, ← order_l hl2.out, ← order_r HBd.out]
            exact hc
          have hd : Hid (gamLarge xc ⟨k0, a0, b0⟩ = gamGo (gamD xc) (gamC xc) (64 - (k + 1)) ⟨k2, a2, b2⟩) := by
            show _ = _
            rw [hdf.out, show 64 - k = (64 - (k + 1)) + 1 by omega, gamGo_no Hng.out hok, Ht2.out, Ht.out]
          clear hok hc
          exact ⟨⟨k + 1, ⟨k2, a2, b2⟩, by omega, by go_num, hd, Hto2.out, Hg5.out.drewN _, Hz5.out.drewN _, below_drewN HB5.out _⟩, by simp only [intOf]; omega⟩
    · obtain rfl : k = 64 := by omega
      have u0 := Hz'.out.c0
      have u1 := Hz'.out.c1
      have u2 := Hz'.out.c2
      have v0 := Hz'.out.fz 0
      have v1 := Hz'.out.fz 1
      have v2 := Hz'.out.fz 2
      go_wp2
      (try simp only [Exit.inBlock, Exit.then])
      refine bodyPost_ret (results_s3 (s := ⟨0, 0, 0⟩) (g := w.heap.size + 1) rfl _ rfl (by exact Hz'.out.set3 0 0 0)) rfl ?_
      exact gaveSFB_none (by rw [hdf.out]; rfl) (below_set3 HB'.out (by omega) _ _ _)
end Go.Proofs.Ytgbehnkccgahoaa
