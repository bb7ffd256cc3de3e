/- GammaSeed of the reference, walked. -/
import Derived.Test.YtgbehnkccgahoaaGamI
namespace Go.Proofs.Ytgbehnkccgahoaa
open Go.RowKit Mag
set_option maxRecDepth 100000
def GamGave (w : World) (g : Nat) (r : Option (Sd × Nat)) (e : Ending) (w' : World) : Prop :=
  ((r = none ∧ e = .returned (.tuple #[.float .f32 0, .bool false])) ∨ ∃ t y num, r = some (t, y) ∧ cn .f32 num = y ∧ e = .returned (.tuple #[.float .f32 num, .bool true]) ∧ SeedAt w' g t) ∧ w.grownBy w' (some g)
theorem l02Number_any (x : Nat) (w : World) : Calls Try.prog 49 #[.float .f32 x] w fun e w' => ((finB x = true ∧ e = .returned (.tuple #[.float .f32 x, .bool true])) ∨ (finB x = false ∧ e = .returned (.tuple #[.float .f32 0, .bool false]))) ∧ ∃ q, w' = w.drewN q := by
  go_enter Try.func49, Try.ntmps49
  go_wp2_with fail
  refine (l01Fin_any _ _).mono ?_
  rintro e w1 ⟨rfl, q, rfl⟩
  cases hf : finB x with
  | true =>
    go_wp2
    go_ret2
    exact ⟨.inl ⟨by first | exact hf | rfl, rfl⟩, q, rfl⟩
  | false =>
    go_wp2
    go_ret2
    exact ⟨.inr ⟨by first | exact hf | rfl, rfl⟩, q, rfl⟩
theorem l03Shape_any (x : Nat) (w : World) : Calls Try.prog 27 #[.float .f32 x] w fun e w' => e = .returned (.bool (fgt .f32 x 0 && fle .f32 x 1148846080)) ∧ w' = w := by
  go_enter Try.func27, Try.ntmps27
  cases h1 : fgt .f32 x 0 with
  | false =>
    have g1 : (FloatKind.f32.format.order x 0 == some .gt) = false := h1
    go_wp2
    go_ret
    exact ⟨rfl, rfl⟩
  | true =>
    have g1 : (FloatKind.f32.format.order x 0 == some .gt) = true := h1
    cases h2 : fle .f32 x 1148846080 with
    | false =>
      have g2 : (FloatKind.f32.format.order x 1148846080 == some .lt || FloatKind.f32.format.order x 1148846080 == some .eq) = false := h2
      go_wp2
      go_ret
      exact ⟨rfl, rfl⟩
    | true =>
      have g2 : (FloatKind.f32.format.order x 1148846080 == some .lt || FloatKind.f32.format.order x 1148846080 == some .eq) = true := h2
      go_wp2
      go_ret
      exact ⟨rfl, rfl⟩
set_option maxHeartbeats 4000000 in
theorem specLarge_any (s : Sd) (g x0 : Nat) (w : World) (hs : s.ok) (hg : SeedAt w g s) (hc : (FloatKind.f32.format.order x0 1065353216 == some .lt) = false) :
    Calls Try.prog 28 #[.pointer (some ⟨g, 0, none⟩), .float .f32 x0] w (GamGave w g (gamLarge x0 s)) := by
  have Hg0 := Lib.hid hg; have Hs := Lib.hid hs
  clear hg hs
  go_enter Try.func28, Try.ntmps28
  have t1 : True := trivial
  have t2 : True := trivial
  go_wp2_with (first
    | (have := t1; clear this t1; refine wpList_fop _ rfl .sub _ _ _ _ rfl rfl .f32 _ _ rfl rfl ?_; intro d q1 h1)
    | (have := t2; clear this t2; refine wpList_fop _ rfl .mul _ _ _ _ rfl rfl .f32 _ _ rfl rfl ?_; intro r2 q2 h2))
  clear hc
  have hd : cn .f32 d = gamD x0 := h1.out
  have Hd := Lib.hid hd
  refine (specRoot_any _ _).mono ?_
  rintro e w2 ⟨y, rfl, hy, q3, rfl⟩
  have hyc : cn .f32 y = rootF (fop .mul .f32 1091567616 (gamD x0)) := by rw [hy.out]; exact rootF_l (h2.out.trans (fop_r hd _))
  have Hy := Lib.hid hyc
  clear hyc hd h1 h2 hy
  go_wp2_with (refine wpList_fop _ rfl .quo _ _ _ _ rfl rfl .f32 _ _ rfl rfl ?_; intro c q4 h4)
  have Hc : Hid (cn .f32 c = gamC x0) := by show _ = _; rw [h4.out, fop_r Hy.out]; rfl
  clear h4 Hy
  have Hr : Hid (gamLarge x0 s = gamGo (gamD x0) (gamC x0) 64 s) := rfl
  go_loopw [11] (fun i wr => ∃ (k : Nat) (s' : Sd), k ≤ 64 ∧ i = .int .i64 k ∧ Hid (gamLarge x0 s = gamGo (gamD x0) (gamC x0) (64 - k) s') ∧ s'.ok ∧ SeedAt wr g s' ∧ w.grownBy wr (some g)) (fun i _ => 64 - (intOf i).toNat)
  case atStart => exact ⟨0, s, by omega, rfl, Hr, Hs.out, Hg0.out.drewN _, grown_drewN (grown_rfl' _ _) _⟩
  case round =>
    obtain ⟨k, s', hk, rfl, hdf, hs', hg', hgr⟩ := hrel
    have HB' := Lib.hid hgr; have Hk' := Lib.hid hs'; have Hg' := Lib.hid hg'
    clear hgr hs' hg' Hg0
    by_cases hlt : k < 64
    · have hlt' : (k : Int) < 64 := by omega
      go_wp2_with fail
      refine (l03Bell_any s' g _ Hk'.out Hg'.out).mono ?_
      rintro e w2 ⟨rfl, hg2, hgr2⟩
      have Hg2 := Lib.hid hg2
      have HB2 := Lib.hid (grown_trans HB'.out hgr2)
      have Hto := Lib.hid (show (gamS s').ok from nextSd_ok (nextSd_ok Hk'.out))
      clear hg2 hgr2 Hg' HB'
      have t1 : True := trivial
      have t2 : True := trivial
      have t3 : True := trivial
      have t4 : True := trivial
      go_wp2_with (first
        | (have := t1; clear this t1; refine wpList_fop _ rfl .mul _ _ _ _ rfl rfl .f32 _ _ rfl rfl ?_; intro r1 q1 h1)
        | (have := t2; clear this t2; refine wpList_fop _ rfl .add _ _ _ _ rfl rfl .f32 _ _ rfl rfl ?_; intro r2 q2 h2)
        | (have := t3; clear this t3; refine wpList_fop _ rfl .mul _ _ _ _ rfl rfl .f32 _ _ rfl rfl ?_; intro m1 p1 hm1)
        | (have := t4; clear this t4; refine wpList_fop _ rfl .mul _ _ _ _ rfl rfl .f32 _ _ rfl rfl ?_; intro m2 p2 hm2))
      · have hc : (!FloatKind.f32.format.order r2 0 == some Ordering.gt) = true := by assumption
        have hT : cn .f32 r2 = gamT (gamC x0) s' := by rw [h2.out, fop_r (h1.out.trans (fop_l Hc.out _))]; rfl
        have hng : fgt .f32 (gamT (gamC x0) s') 0 = false := by unfold fgt; rw [← order_l hT]; simpa using hc
        have hd : Hid (gamLarge x0 s = gamGo (gamD x0) (gamC x0) (64 - (k + 1)) (gamS s')) := by
          show _ = _
          rw [hdf.out, show 64 - k = (64 - (k + 1)) + 1 by omega, gamGo_skip hng]
        clear hng hc
        exact ⟨⟨k + 1, gamS s', by omega, by go_num, hd, Hto.out, Hg2.out.drewN _, grown_drewN HB2.out _⟩, by simp only [intOf]; omega⟩
      · have hc : (!FloatKind.f32.format.order r2 0 == some Ordering.gt) = false := by assumption
        have hT : cn .f32 r2 = gamT (gamC x0) s' := by rw [h2.out, fop_r (h1.out.trans (fop_l Hc.out _))]; rfl
        have hng : fgt .f32 (gamT (gamC x0) s') 0 = true := by unfold fgt; rw [← order_l hT]; simpa using hc
        have Hng := Lib.hid hng
        have HT := Lib.hid hT
        clear hng hc hT h1 h2
        have hW : cn .f32 m2 = gamW (gamT (gamC x0) s') := by rw [hm2.out, fop_l (hm1.out.trans ((fop_l HT.out _).trans (fop_r HT.out _))), fop_r HT.out]; rfl
        have HW := Lib.hid hW
        clear hW hm1 hm2
        refine (specLeft_any (gamS s') g _ Hto.out (Hg2.out.drewN _)).mono ?_
        rintro e w4 ⟨l2, rfl, hl2, hg4, hgr4⟩
        have Hg4 := Lib.hid hg4
        have HB4 := Lib.hid (grown_trans (grown_drewN HB2.out _) hgr4)
        have Hto2 := Lib.hid (nextSd_ok Hto.out)
        clear hg4 hgr4 Hg2 HB2
        have t3 : True := trivial
        have t4 : True := trivial
        have t5 : True := trivial
        have t6 : True := trivial
        have t7 : True := trivial
        go_wp2_with (first
          | (have := t3; clear this t3; refine wpList_fop _ rfl .mul _ _ _ _ rfl rfl .f32 _ _ rfl rfl ?_; intro m3 p3 h3)
          | (have := t4; clear this t4; refine wpList_fop _ rfl .mul _ _ _ _ rfl rfl .f32 _ _ rfl rfl ?_; intro m4 p4 h4)
          | (have := t5; clear this t5; refine wpList_fop _ rfl .add _ _ _ _ rfl rfl .f32 _ _ rfl rfl ?_; intro m5 p5 h5)
          | (have := t6; clear this t6; refine wpList_fop _ rfl .mul _ _ _ _ rfl rfl .f32 _ _ rfl rfl ?_; intro m6 p6 h6)
          | (have := t7; clear this t7; refine wpList_fop _ rfl .sub _ _ _ _ rfl rfl .f32 _ _ rfl rfl ?_; intro m7 p7 h7))
        refine (specLogA_any _ _ _ HW.out (gamW_bits (gamT_lt _ _) Hng.out)).mono ?_
        rintro e w6 ⟨lg, rfl, hlg, ql, rfl⟩
        have t1 : True := trivial
        have t2 : True := trivial
        have t3 : True := trivial
        go_wp2_with (first
          | (have := t1; clear this t1; refine wpList_fop _ rfl .mul _ _ _ _ rfl rfl .f32 _ _ rfl rfl ?_; intro m8 p8 h8)
          | (have := t2; clear this t2; refine wpList_fop _ rfl .add _ _ _ _ rfl rfl .f32 _ _ rfl rfl ?_; intro m9 p9 h9)
          | (have := t3; clear this t3; refine wpList_fop _ rfl .mul _ _ _ _ rfl rfl .f32 _ _ rfl rfl ?_; intro m11 p11 h11))
        all_goals
          have HBd : Hid (cn .f32 m9 = gamB (gamD x0) (bellRe s') (gamW (gamT (gamC x0) s'))) := by
            show _ = _
            rw [h9.out, fop_l (h7.out.trans ((fop_l (h5.out.trans ((fop_l (h4.out.trans (fop_l h3.out _)) _).trans (fop_r Hd.out _))) _).trans (fop_r (h6.out.trans ((fop_l Hd.out _).trans (fop_r HW.out _))) _))), fop_r (h8.out.trans ((fop_l Hd.out _).trans (fop_r hlg.out _)))]
            rfl
          clear h3 h4 h5 h6 h7 h8 h9 hlg
        · have hc : (FloatKind.f32.format.order l2 m9 == some Ordering.lt) = true := by assumption
          have hok : gamOk (gamD x0) (gamC x0) s' = true := by
            unfold gamOk flt
            rw [← order_l hl2.out, ← order_r HBd.out]
            exact hc
          have HX : Hid (cn .f32 m11 = gamX (gamD x0) (gamC x0) s') := by show _ = _; rw [h11.out, fop_l Hd.out, fop_r HW.out]; rfl
          clear hc h11 hl2
          have hfx : finB m11 = finB (gamX (gamD x0) (gamC x0) s') := by rw [← finB_cn, HX.out]
          have hd : gamLarge x0 s = if finB (gamX (gamD x0) (gamC x0) s') then some (nextSd (gamS s'), gamX (gamD x0) (gamC x0) s') else none := by
            rw [hdf.out, show 64 - k = (63 - k) + 1 by omega, gamGo_yes Hng.out hok]
          refine (l02Number_any _ _).mono ?_
          rintro e w8 ⟨hor, q8, rfl⟩
          rcases hor with ⟨hf, rfl⟩ | ⟨hf, rfl⟩
          · rw [hf] at hfx
            have Hr2 : Hid (gamLarge x0 s = some (nextSd (gamS s'), gamX (gamD x0) (gamC x0) s')) := by show _ = _; rw [hd, if_pos hfx.symm]
            clear hf hfx hd hok
            go_wp2
            go_ret2
            exact ⟨.inr ⟨_, _, m11, Hr2.out, HX.out, rfl, Hg4.out.drewN _⟩, grown_drewN HB4.out _⟩
          · rw [hf] at hfx
            have Hr2 : Hid (gamLarge x0 s = none) := by show _ = _; rw [hd, if_neg (by rw [← hfx]; decide)]
            clear hf hfx hd hok
            go_wp2
            go_ret2
            exact ⟨.inl ⟨Hr2.out, rfl⟩, grown_drewN HB4.out _⟩
        · have hc : (FloatKind.f32.format.order l2 m9 == some Ordering.lt) = false := by assumption
          have hok : gamOk (gamD x0) (gamC x0) s' = false := by
            unfold gamOk flt
            rw [← order_l hl2.out, ← order_r HBd.out]
            exact hc
          have hd : Hid (gamLarge x0 s = gamGo (gamD x0) (gamC x0) (64 - (k + 1)) (nextSd (gamS s'))) := by
            show _ = _
            rw [hdf.out, show 64 - k = (64 - (k + 1)) + 1 by omega, gamGo_no Hng.out hok]
          clear hok hc
          exact ⟨⟨k + 1, nextSd (gamS s'), by omega, by go_num, hd, Hto2.out, Hg4.out.drewN _, grown_drewN HB4.out _⟩, by simp only [intOf]; omega⟩
    · obtain rfl : k = 64 := by omega
      go_wp2
      go_ret2
      exact ⟨.inl ⟨by rw [hdf.out]; rfl, rfl⟩, HB'.out⟩
end Go.Proofs.Ytgbehnkccgahoaa
