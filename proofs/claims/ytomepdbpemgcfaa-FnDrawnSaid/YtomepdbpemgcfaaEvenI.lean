/- EvenSeed, the program's side. -/
import Derived.Test.YtomepdbpemgcfaaEven
namespace Go.Proofs.Ytomepdbpemgcfaa
open Go.RowKit Mag
set_option maxRecDepth 100000
theorem run_narrow_num {P : Program} (src dst : TypeId) (hs : (P.underlying src).isSome = true) (hd : P.underlying dst = some (.float .f32)) (w : World) (x : Nat) (hx : isNaNB .f64 x = false) (hf : fitsN x) :
    (convert src dst (.float .f64 x)).run P w = .ok (.float .f32 (narrow x)) w := by
  obtain ⟨u, hs'⟩ := Option.isSome_iff_exists.1 hs
  have h' : (FloatKind.f64.decode x).isNaN = false := hx
  unfold narrow
  cases hx : FloatKind.f64.decode x with
  | number s m e =>
    have hfit := hf s m e hx
    exact run_convert_float_float w src dst .f64 .f32 x _ hs hd (by unfold floatToFloatBits; rw [if_neg (by decide), hx]; simp only; rw [if_neg (by rw [hfit]; decide)])
  | infinity s => exact run_convert_float_float w src dst .f64 .f32 x _ hs hd (by unfold floatToFloatBits; rw [if_neg (by decide), hx])
  | nan s f => rw [hx] at h'; cases h'
theorem narrow_not_nan {x : Nat} (hx : isNaNB .f64 x = false) : isNaNB .f32 (narrow x) = false := by
  have h' : (FloatKind.f64.decode x).isNaN = false := hx
  unfold narrow
  cases hx : FloatKind.f64.decode x with
  | number s m e => exact write_not_nan _ _ rfl
  | infinity s => exact write_not_nan _ _ rfl
  | nan s f => rw [hx] at h'; cases h'
set_option maxHeartbeats 4000000 in
theorem implEven_any : FnS_SFB 7 evenSeed := by
  intro k0 a0 b0 w hs
  have hz0 : ((w.alloc (.cells #[.int .i64 k0, .int .u64 a0, .int .u64 b0] 26)).alloc (.cells #[.int .i64 0, .int .u64 0, .int .u64 0] 26)).heap.size = w.heap.size + 2 := by rw [size_alloc', size_alloc']
  go_enter Try.func7, Try.ntmps7
  go_wp2_with fail
  refine (implValid_any ⟨k0, a0, b0⟩ _ hs).mono ?_
  rintro e w1 ⟨rfl, hb1⟩
  rw [hz0] at hb1
  have hBl : Below w.heap.size w w1 := (((Below.refl _ _).alloc (Nat.le_refl _) _).alloc (by rw [size_alloc']; omega) _).trans (hb1.mono (by omega))
  have hg : SeedAt w1 w.heap.size ⟨k0, a0, b0⟩ := ((SeedAt.new w k0 a0 b0).alloc _).below hb1 (by omega)
  have hz : SeedAt w1 (w.heap.size + 1) ⟨0, 0, 0⟩ := (SeedAt.new1 w _ 0 0 0).below hb1 (by omega)
  clear hz0 hb1
  obtain ⟨s, hsd⟩ : ∃ s : Sd, s = ⟨k0, a0, b0⟩ := ⟨_, rfl⟩
  rw [← hsd] at hs hg ⊢
  have HB := Lib.hid hBl; have Hz := Lib.hid hz; have Hg := Lib.hid hg; have Hk : Hid s.ok := hs
  have Hs0 : Hid ((⟨k0, a0, b0⟩ : Sd) = s) := hsd.symm
  clear hBl hz hg hs hsd
  cases hv : validB s with
  | false =>
    have Hn : Hid (evenSeed ⟨k0, a0, b0⟩ = none) := by show _ = _; rw [Hs0.out]; simp [evenSeed, hv]
    have u0 := Hz.out.c0
    have u1 := Hz.out.c1
    have u2 := Hz.out.c2
    have v0 := Hz.out.fz 0
    have v1 := Hz.out.fz 1
    have v2 := Hz.out.fz 2
    go_wp2
    (try simp only [Exit.inBlock, Exit.then])
    refine bodyPost_ret (results_s3 (s := ⟨0, 0, 0⟩) (g := w.heap.size + 1) rfl _ rfl (by exact Hz.out.set3 0 0 0)) rfl ?_
    exact gaveSFB_none Hn.out (below_set3 HB.out (by omega) _ _ _)
  | true =>
    have Hr : Hid (evenSeed ⟨k0, a0, b0⟩ = some (evenFrom 4 0 s)) := by show _ = _; rw [Hs0.out]; simp [evenSeed, hv]
    clear hv
    go_wp2
    go_loopw [5, 6, 7] (fun e wd n wr => ∃ (m : Nat) (s' : Sd) (v : Int) (ev : Nat), m ≤ 4 ∧ n = .int .i64 m ∧ e = .int .i64 (ev : Int) ∧ wd = .int .i64 v ∧ Hid ((v = 0 ∧ ev = 32 * m ∧ evenFrom 4 0 s = evenFrom (4 - m) (32 * m) s') ∨ (0 < v ∧ v ≤ 4294967295 ∧ ev ≤ 96 ∧ evenFrom 4 0 s = (nextSd s', evenY (ev + lzN v) (wordOf s' / 512)))) ∧ s'.ok ∧ SeedAt wr w.heap.size s' ∧ SeedAt wr (w.heap.size + 1) Sd.zero ∧ Below w.heap.size w wr) (fun _ _ n _ => 4 - (intOf n).toNat)
    case atStart => exact ⟨0, s, 0, 0, by omega, rfl, rfl, rfl, .inl ⟨rfl, rfl, rfl⟩, Hk.out, Hg.out, Hz.out, HB.out⟩
    case round =>
      obtain ⟨m, s', v, ev, hm, rfl, rfl, rfl, hor, hs', hg', hz', hbel⟩ := hrel
      have HB' := Lib.hid hbel; have Hz' := Lib.hid hz'; have Hk' := Lib.hid hs'
      clear hbel hz' hs'
      rcases hor with ⟨rfl, hev, hdf⟩ | ⟨hv0, hv1, hev, hdf⟩
      · subst hev
        have Hdf := Lib.hid hdf
        clear hdf
        by_cases hlt : m < 4
        · have c0 := hg'.c0
          have c1 := hg'.c1
          have c2 := hg'.c2
          have hlt' : (m : Int) < 4 := by omega
          go_wp2_with fail
          refine (implNext_any s' _ Hk'.out).mono ?_
          rintro e w2 ⟨rfl, hb2⟩
          have hg2 := hg'.below hb2 hg'.lt
          have Hz2 := Lib.hid (Hz'.out.below hb2 Hz'.out.lt)
          have HB2 := Lib.hid (HB'.out.trans (hb2.mono HB'.out.size))
          clear hb2 hg' c0 c1 c2
          have hwo := wordOf_ok s'
          obtain ⟨v, hvd⟩ : ∃ v, v = wordOf s' := ⟨_, rfl⟩
          obtain ⟨t, ht⟩ : ∃ t, t = nextSd s' := ⟨_, rfl⟩
          have Hvd := Lib.hid hvd
          rw [← ht, ← hvd]
          rw [← hvd] at hwo
          have hto : t.ok := by rw [ht]; exact nextSd_ok Hk'.out
          have Ht := Lib.hid ht
          clear ht hvd
          obtain ⟨k1, a1, b1⟩ := t
          have Hto := Lib.hid hto
          clear hto
          unfold Sd.val
          have f0 := hg2.fz 0
          have f1 := hg2.fz 1
          have f2 := hg2.fz 2
          have x0 := hg2.c0
          have x1 := hg2.c1
          have x2 := hg2.c2
          have Hg3 := Lib.hid (hg2.set3 k1 a1 b1)
          have Hz3 := Lib.hid (Hz2.out.far3 (g' := w.heap.size) (by omega) k1 a1 b1)
          have HB3 := Lib.hid (below_set3 HB2.out (Nat.le_refl _) k1 a1 b1)
          clear hg2
          by_cases hv0 : v = 0
          · have hd : Hid (evenFrom 4 0 s = evenFrom (4 - (m + 1)) (32 * (m + 1)) ⟨k1, a1, b1⟩) := by
              show _ = _
              have e1 : 4 - m = (4 - (m + 1)) + 1 := by omega
              rw [Hdf.out, e1, evenFrom_zero (by rw [← Hvd.out, hv0]), Ht.out]
              rfl
            subst hv0
            clear hwo
            go_wp2
            go_roundw
            case rel => exact ⟨m + 1, ⟨k1, a1, b1⟩, 0, 32 * (m + 1), by omega, by go_num, by go_num, rfl, .inl ⟨rfl, rfl, hd.out⟩, Hto.out, Hg3.out, Hz3.out, HB3.out⟩
            case measure => simp only [intOf]; omega
          · have hd : Hid (evenFrom 4 0 s = (nextSd ⟨k1, a1, b1⟩, evenY (32 * m + lzN v) (wordOf ⟨k1, a1, b1⟩ / 512))) := by
              show _ = _
              have e1 : 4 - m = (3 - m) + 1 := by omega
              rw [Hdf.out, e1, evenFrom_some (by rw [← Hvd.out]; exact hv0), Ht.out, Hvd.out]
            have hne : (v == 0) = false := by simpa using hv0
            go_wp2
            go_roundw
            case rel => exact ⟨m + 1, ⟨k1, a1, b1⟩, v, 32 * m, by omega, by go_num, rfl, rfl, .inr ⟨by omega, by omega, by omega, hd.out⟩, Hto.out, Hg3.out, Hz3.out, HB3.out⟩
            case measure => simp only [intOf]; omega
        · obtain rfl : m = 4 := by omega
          have c0 := hg'.c0
          have c1 := hg'.c1
          have c2 := hg'.c2
          go_wp2_with fail
          refine (implNext_any s' _ Hk'.out).mono ?_
          rintro e w2 ⟨rfl, hb2⟩
          have hg2 := hg'.below hb2 hg'.lt
          have Hz2 := Lib.hid (Hz'.out.below hb2 Hz'.out.lt)
          have HB2 := Lib.hid (HB'.out.trans (hb2.mono HB'.out.size))
          clear hb2 hg' c0 c1 c2
          obtain ⟨t, ht⟩ : ∃ t, t = nextSd s' := ⟨_, rfl⟩
          rw [← ht]
          have hR : Hid (evenSeed ⟨k0, a0, b0⟩ = some (t, 0)) := by show _ = _; rw [Hr.out, Hdf.out, ht]; rfl
          clear ht
          obtain ⟨k1, a1, b1⟩ := t
          unfold Sd.val
          have f0 := hg2.fz 0
          have f1 := hg2.fz 1
          have f2 := hg2.fz 2
          have x0 := hg2.c0
          have x1 := hg2.c1
          have x2 := hg2.c2
          have Hg3 := Lib.hid (hg2.set3 k1 a1 b1)
          have Hz3 := Lib.hid (Hz2.out.far3 (g' := w.heap.size) (by omega) k1 a1 b1)
          have HB3 := Lib.hid (below_set3 HB2.out (Nat.le_refl _) k1 a1 b1)
          have y0 := Hg3.out.c0
          have y1 := Hg3.out.c1
          have y2 := Hg3.out.c2
          simp only at y0 y1 y2
          have u0 := Hz3.out.c0
          have u1 := Hz3.out.c1
          have u2 := Hz3.out.c2
          have z0 := Hz3.out.fz 0
          have z1 := Hz3.out.fz 1
          have z2 := Hz3.out.fz 2
          clear hg2
          go_wp2
          (try simp only [Exit.inBlock, Exit.then])
          refine bodyPost_ret (results_s3 (s := ⟨k1, a1, b1⟩) (g := w.heap.size + 1) rfl _ rfl (by exact Hz3.out.set3 k1 a1 b1)) rfl ?_
          exact gaveSFB_some (s := ⟨k1, a1, b1⟩) hR.out (cn_of_not (zero_not_nan .f32)) (below_set3 HB3.out (by omega) _ _ _)
      · have hne : (v == 0) = false := by simp; omega
        have c0 := hg'.c0
        have c1 := hg'.c1
        have c2 := hg'.c2
        have Hdf := Lib.hid hdf
        have Hev := Lib.hid hev
        have Hm := Lib.hid hm
        clear hdf hm
        obtain ⟨l0, l1, l2, l3⟩ := lz_facts hv0 hv1
        clear l2 l3
        obtain ⟨lz, hlz⟩ : ∃ lz, lz = lzN v := ⟨_, rfl⟩
        rw [← hlz] at l0 l1 Hdf
        clear hlz
        by_cases hlt : (m : Int) < 4
        all_goals
          go_wp2_with fail
          refine (lz32_any v _ (by omega) hv1).mono ?_
          rintro e w2 ⟨rfl, rfl⟩
          rw [l0]
          go_wp2_with fail
          refine (implNext_any s' _ Hk'.out).mono ?_
          rintro e w2 ⟨rfl, hb2⟩
          have hg2 := hg'.below hb2 hg'.lt
          have Hz2 := Lib.hid (Hz'.out.below hb2 Hz'.out.lt)
          have HB2 := Lib.hid (HB'.out.trans (hb2.mono HB'.out.size))
          clear hb2 hg' c0 c1 c2 hlt hne
          have hwb := wordOf_ok s'
          obtain ⟨wd, hwd⟩ : ∃ wd, wd = wordOf s' := ⟨_, rfl⟩
          obtain ⟨t, ht⟩ : ∃ t, t = nextSd s' := ⟨_, rfl⟩
          rw [← ht, ← hwd]
          have hR : Hid (evenSeed ⟨k0, a0, b0⟩ = some (t, evenY (ev + lz) (wd / 512))) := by show _ = _; rw [Hr.out, Hdf.out, ht, hwd]
          rw [← hwd] at hwb
          clear ht hwd Hdf l0
          obtain ⟨k1, a1, b1⟩ := t
          unfold Sd.val
          have f0 := hg2.fz 0
          have f1 := hg2.fz 1
          have f2 := hg2.fz 2
          have x0 := hg2.c0
          have x1 := hg2.c1
          have x2 := hg2.c2
          have Hg3 := Lib.hid (hg2.set3 k1 a1 b1)
          have Hz3 := Lib.hid (Hz2.out.far3 (g' := w.heap.size) (by omega) k1 a1 b1)
          have HB3 := Lib.hid (below_set3 HB2.out (Nat.le_refl _) k1 a1 b1)
          clear hg2
          obtain ⟨kk, hkk⟩ : ∃ kk, kk = wd / 512 := ⟨_, rfl⟩
          have hk0 : 0 ≤ kk := by omega
          have hk1 : kk < 8388608 := by omega
          have hD : 24 + (ev + lz) ≤ 200 := by omega
          have hq : Int.tdiv wd 512 = kk := by rw [Int.tdiv_eq_ediv_of_nonneg (by omega), hkk]
          rw [← hkk] at hR
          clear hkk
          go_wp2_with fail
          clear x0 x1 x2 f0 f1 f2
          generalize (((w2.setCell ⟨w.heap.size, 0, none⟩ (.int .i64 k1)).setCell ⟨w.heap.size, 1, none⟩ (.int .u64 a1)).setCell ⟨w.heap.size, 2, none⟩ (.int .u64 b1)) = w5 at Hg3 Hz3 HB3 ⊢
          have c0 := Hg3.out.c0
          have c1 := Hg3.out.c1
          have c2 := Hg3.out.c2
          have u0 := Hz3.out.c0
          have u1 := Hz3.out.c1
          have u2 := Hz3.out.c2
          have z0 := Hz3.out.fz 0
          have z1 := Hz3.out.fz 1
          have z2 := Hz3.out.fz 2
          simp only at c0 c1 c2
          have Hz6 := Lib.hid (Hz3.out.set3 k1 a1 b1)
          have Hb6 := Lib.hid (below_set3 HB3.out (g := w.heap.size + 1) (by omega) k1 a1 b1)
          obtain ⟨x, hx⟩ : ∃ x, x = evX kk := ⟨_, rfl⟩
          obtain ⟨x1, x2⟩ := evX_bd hk0 hk1
          rw [← hx] at x1 x2
          have hw0 : IntKind.i64.wrap kk = kk := by rw [IntKind.wrap_i64]; omega
          have hw1 : IntKind.i64.wrap (8388608 + kk) = 8388608 + kk := by rw [IntKind.wrap_i64]; omega
          have hfi : floatOfInt .f64 (8388608 + kk) = x := hx.symm
          obtain ⟨d, hd⟩ : ∃ d, d = 24 + (ev + lz) := ⟨_, rfl⟩
          have hw3 : IntKind.i64.wrap (24 + ((ev : Int) + (lz : Int))) = (d : Int) := by rw [IntKind.wrap_i64]; omega
          have hw4 : IntKind.i64.wrap (-(d : Int)) = -(d : Int) := by rw [IntKind.wrap_i64]; omega
          have hd1 : 24 ≤ d := by omega
          have hR' : Hid (evenSeed ⟨k0, a0, b0⟩ = some (⟨k1, a1, b1⟩, narrow (evX kk - d * Bd))) := by show _ = _; rw [hR.out, hd]; rfl
          rw [← hd] at hD
          clear hd hR
          have Hw3 := Lib.hid hw3
          have Hw4 := Lib.hid hw4
          have hcv := fun w => run_narrow_num (P := Try.prog) 47 28 rfl Try.underlying28 w (evI kk d) (evI_nan hk0 hk1 hD) (evI_fits hk0 hk1 hd1 hD)
          have hyn := narrow_not_nan (evI_nan hk0 hk1 hD)
          unfold evI at hcv hyn
          rw [← hx] at hcv hyn
          have Hyn := Lib.hid (cn_of_not hyn)
          have hR2 : Hid (evenSeed ⟨k0, a0, b0⟩ = some (⟨k1, a1, b1⟩, narrow (x - d * Bd))) := by show _ = _; rw [hR'.out, hx]
          clear hx hyn hR'
          have Hx1 := Lib.hid x1; have Hx2 := Lib.hid x2; have HD := Lib.hid hD; have Hd1 := Lib.hid hd1
          clear x1 x2 hD hd1 hk0 hk1 hw3 hw4 Hev hev l1 hwb hv0 hv1
          have hw3 := Hw3.out
          have hw4 := Hw4.out
          go_region_with (refine (ldexp_any x d Hx1.out Hx2.out (Nat.le_trans (by decide) Hd1.out) HD.out _).mono ?_; rintro e w7 ⟨rfl, q, rfl⟩)
          all_goals go_wp2
          all_goals
            (try simp only [Exit.inBlock, Exit.then])
            refine bodyPost_ret (results_s3 (s := ⟨k1, a1, b1⟩) (g := w.heap.size + 1) rfl _ rfl (by exact Hz6.out)) rfl ?_
            exact gaveSFB_some (s := ⟨k1, a1, b1⟩) hR2.out Hyn.out ⟨Hb6.out.os, Hb6.out.tape, Hb6.out.output, Hb6.out.size, Hb6.out.block⟩
end Go.Proofs.Ytomepdbpemgcfaa
