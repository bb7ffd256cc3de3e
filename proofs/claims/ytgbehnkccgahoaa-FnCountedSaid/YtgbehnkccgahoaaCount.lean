/- CountSeed: how many shares are drawn till their product is less than an exponential. -/
import Derived.Test.YtgbehnkccgahoaaExp
import Derived.Test.YtgbehnkccgahoaaWait
import Derived.Test.YtgbehnkccgahoaaPart
import Derived.Test.YtgbehnkccgahoaaShapesC
namespace Go.Proofs.Ytgbehnkccgahoaa
open Go.RowKit Mag
set_option maxRecDepth 100000
attribute [local go_sem] run_negF
def le32 (x : Nat) : Bool := FloatKind.f32.format.order x 1107296256 == some Ordering.lt || FloatKind.f32.format.order x 1107296256 == some Ordering.eq
def geB (x y : Nat) : Bool := FloatKind.f32.format.order x y == some Ordering.gt || FloatKind.f32.format.order x y == some Ordering.eq
def countFrom (l : Nat) : Nat → Int → Sd → Nat → Option (Sd × Int)
  | 0, _, _, _ => none
  | f + 1, n, s, p => if geB (fop .mul .f32 p (leftOf s)) l then countFrom l f (n + 1) (nextSd s) (fop .mul .f32 p (leftOf s)) else some (nextSd s, n)
def countSeed (s : Sd) (mean : Nat) : Option (Sd × Int) :=
  if validB s && (ge0 mean && le32 mean) then countFrom (expF (Op.negFloat .f32 mean)) 256 0 s 1065353216 else none
theorem nor_t {a b : Bool} (h : (!a) = true ∧ (!b) = true) : (a || b) = false := by cases a <;> cases b <;> simp_all
theorem nor_f {a b : Bool} (h : (!a) = false ∨ (!b) = false) : (a || b) = true := by cases a <;> cases b <;> simp_all
theorem countFrom_yes {l f p : Nat} {n : Int} {s : Sd} (h : geB (fop .mul .f32 p (leftOf s)) l = true) : countFrom l (f + 1) n s p = countFrom l f (n + 1) (nextSd s) (fop .mul .f32 p (leftOf s)) := by rw [countFrom, if_pos h]
theorem countFrom_no {l f p : Nat} {n : Int} {s : Sd} (h : geB (fop .mul .f32 p (leftOf s)) l = false) : countFrom l (f + 1) n s p = some (nextSd s, n) := by rw [countFrom, if_neg (by rw [h]; decide)]
theorem FinK_of_order {x : Nat} (h0 : ge0 x = true) (h1 : le32 x = true) : Rn .f32 (0 : Nat) (1107296256 : Nat) x := by
  have hn : isNaNB .f32 x = false := by
    rcases hb : isNaNB .f32 x with _ | _
    · rfl
    · unfold ge0 at h0; rw [order_nan_l hb] at h0; cases h0
  have hn' := hn
  rw [nan_rung] at hn'
  simp only [decide_eq_false_iff_not] at hn'
  have hf : FinK .f32 x := by
    rcases Nat.lt_or_ge (rungW FloatKind.f32.format x) FloatKind.f32.format.infRung with hl | hg
    · exact hl
    · exfalso
      have he : rungW Ieee.single x = Ieee.single.infRung := by
        show rungW FloatKind.f32.format x = FloatKind.f32.format.infRung
        omega
      have hr : Ieee.single.read x = .infinity (negW Ieee.single x) := by
        unfold Ieee.Format.read
        dsimp only
        change (if rungW Ieee.single x < Ieee.single.binade then _ else if rungW Ieee.single x < Ieee.single.infRung then _ else if rungW Ieee.single x = Ieee.single.infRung then _ else _ : Ieee.Datum) = _
        rw [he, if_neg (by decide), if_neg (by decide), if_pos rfl]
        rfl
      unfold ge0 Ieee.Format.order at h0
      unfold le32 Ieee.Format.order at h1
      change (Ieee.Datum.order (Ieee.single.read x) (Ieee.single.read 0) == some Ordering.gt || Ieee.Datum.order (Ieee.single.read x) (Ieee.single.read 0) == some Ordering.eq) = true at h0
      change (Ieee.Datum.order (Ieee.single.read x) (Ieee.single.read 1107296256) == some Ordering.lt || Ieee.Datum.order (Ieee.single.read x) (Ieee.single.read 1107296256) == some Ordering.eq) = true at h1
      rw [hr] at h0 h1
      cases hs : negW Ieee.single x <;> rw [hs] at h0 h1
      · revert h1; decide
      · revert h0; decide
  have z : FinK .f32 0 ∧ KV .f32 0 = 0 := ⟨(Rn.const (k := .f32) (lo := 0) (hi := 0) (by decide +kernel)).1, by decide +kernel⟩
  have c : FinK .f32 1107296256 ∧ KV .f32 1107296256 = 1107296256 := ⟨(Rn.const (k := .f32) (lo := 1107296256) (hi := 1107296256) (by decide +kernel)).1, by decide +kernel⟩
  have a := fge_KV hf z.1
  have b := fle_KV hf c.1
  have h0' : fge .f32 x 0 = true := h0
  have h1' : fle .f32 x 1107296256 = true := h1
  rw [h0', z.2] at a
  rw [h1', c.2] at b
  exact ⟨hf, by simpa using a.symm, by simpa using b.symm⟩
theorem neg_32 {x : Nat} (h : Rn .f32 (0 : Nat) (1107296256 : Nat) x) : Rn .f32 (-(1107296256 : Nat)) (1107296256 : Nat) (Op.negFloat .f32 x) := h.neg.weak (by omega) (by omega)
theorem geB_congr {x x' y y' : Nat} (hx : cn .f32 x = cn .f32 x') (hy : cn .f32 y = cn .f32 y') : geB x y = geB x' y' := by unfold geB; rw [order_congr hx hy]
theorem cn_expF (a : Nat) : cn .f32 (expF a) = expF a := cn_narrow _
set_option maxHeartbeats 2000000 in
theorem implCount_any : FnSF_SNB 12 countSeed := by
  intro k0 a0 b0 mean w hs _
  have hz0 : ((w.alloc (.cells #[.int .i64 k0, .int .u64 a0, .int .u64 b0] 26)).alloc (.cells #[.int .i64 0, .int .u64 0, .int .u64 0] 26)).heap.size = w.heap.size + 2 := by rw [size_alloc', size_alloc']
  go_enter Try.func12, Try.ntmps12
  go_wp2_with fail
  refine (implValid_any ⟨k0, a0, b0⟩ _ hs).mono ?_
  rintro e w1 ⟨rfl, hb1⟩
  rw [hz0] at hb1
  have hBl : Below w.heap.size w w1 := (((Below.refl _ _).alloc (Nat.le_refl _) _).alloc (by rw [size_alloc']; omega) _).trans (hb1.mono (by omega))
  have hg : SeedAt w1 w.heap.size ⟨k0, a0, b0⟩ := ((SeedAt.new w k0 a0 b0).alloc _).below hb1 (by omega)
  have hz : SeedAt w1 (w.heap.size + 1) ⟨0, 0, 0⟩ := (SeedAt.new1 w _ 0 0 0).below hb1 (by omega)
  clear hz0 hb1
  obtain ⟨s, hsd⟩ : ∃ s : Sd, s = ⟨k0, a0, b0⟩ := ⟨_, rfl⟩
  rw [← hsd] at hs hg ⊢
  have HB := Lib.hid hBl; have Hz := Lib.hid hz; have Hg := Lib.hid hg; have Hk : Hid s.ok := hs
  have Hs0 : Hid ((⟨k0, a0, b0⟩ : Sd) = s) := hsd.symm
  clear hBl hz hg hs hsd
  cases hv : validB s with
  | false =>
    have Hn : Hid (countSeed ⟨k0, a0, b0⟩ mean = none) := by show _ = _; rw [Hs0.out]; simp [countSeed, hv]
    have u0 := Hz.out.c0
    have u1 := Hz.out.c1
    have u2 := Hz.out.c2
    have v0 := Hz.out.fz 0
    have v1 := Hz.out.fz 1
    have v2 := Hz.out.fz 2
    go_wp2
    (try simp only [Exit.inBlock, Exit.then])
    refine bodyPost_ret (results_s3 rfl _ rfl (Hz.out.set3 0 0 0)) rfl ?_
    exact gaveSNB_none Hn.out (below_set3 HB.out (by omega) _ _ _)
  | true =>
    have Hv := Lib.hid hv
    clear hv
    by_cases hp : (ge0 mean && le32 mean) = true
    · have Hr : Hid (countSeed ⟨k0, a0, b0⟩ mean = countFrom (expF (Op.negFloat .f32 mean)) 256 0 s 1065353216) := by show _ = _; rw [Hs0.out]; simp only [countSeed, Hv.out, hp, Bool.and_self, if_true]
      simp only [Bool.and_eq_true] at hp
      obtain ⟨hp1, hp2⟩ := hp
      have Hm := Lib.hid (neg_32 (FinK_of_order hp1 hp2))
      unfold ge0 at hp1
      unfold le32 at hp2
      go_wp2_with fail
      clear hp1 hp2
      refine (implExp_any _ _ _ Hm.out.cn Hm.out).mono ?_
      rintro e w2 ⟨l, rfl, hl, ql, rfl⟩
      go_wp2
      go_loopw [7, 27] (fun pv i wr => ∃ (k p : Nat) (s' : Sd), k ≤ 256 ∧ i = .int .i64 k ∧ pv = .float .f32 p ∧ Hid (countFrom (expF (Op.negFloat .f32 mean)) 256 0 s 1065353216 = countFrom (expF (Op.negFloat .f32 mean)) (256 - k) k s' (cn .f32 p)) ∧ s'.ok ∧ SeedAt wr w.heap.size s' ∧ SeedAt wr (w.heap.size + 1) Sd.zero ∧ Below w.heap.size w wr) (fun _ i _ => 256 - (intOf i).toNat)
      case atStart => exact ⟨0, 1065353216, s, by omega, rfl, rfl, by show _ = _; rw [show cn .f32 1065353216 = 1065353216 by decide +kernel]; rfl, Hk.out, Hg.out.drewN ql, Hz.out.drewN ql, below_drewN HB.out ql⟩
      case round =>
        obtain ⟨k, p, s', hk, rfl, rfl, hdf, hs', hg', hz', hbel⟩ := hrel
        have HB' := Lib.hid hbel; have Hz' := Lib.hid hz'; have Hk' := Lib.hid hs'
        clear hbel hz' hs'
        by_cases hlt : k < 256
        · have c0 := hg'.c0
          have c1 := hg'.c1
          have c2 := hg'.c2
          have hlt' : (k : Int) < 256 := by omega
          go_wp2_with fail
          refine (implShare_any s' _ Hk'.out).mono ?_
          rintro e w2 ⟨u, rfl, hu, hb2⟩
          have hg2 := hg'.below hb2 hg'.lt
          have Hz2 := Lib.hid (Hz'.out.below hb2 Hz'.out.lt)
          have HB2 := Lib.hid (HB'.out.trans (hb2.mono HB'.out.size))
          clear hb2 hg' c0 c1 c2
          obtain ⟨t, ht⟩ : ∃ t, t = nextSd s' := ⟨_, rfl⟩
          rw [← ht]
          have hto : t.ok := by rw [ht]; exact nextSd_ok Hk'.out
          have Ht := Lib.hid ht
          clear ht
          obtain ⟨k1, a1, b1⟩ := t
          have Hto := Lib.hid hto
          clear hto
          unfold Sd.val
          have f0 := hg2.fz 0
          have f1 := hg2.fz 1
          have f2 := hg2.fz 2
          have x0 := hg2.c0
          have x1 := hg2.c1
          have x2 := hg2.c2
          have Hg5 := Lib.hid (hg2.set3 k1 a1 b1)
          have Hz5 := Lib.hid (Hz2.out.far3 (g' := w.heap.size) (by omega) k1 a1 b1)
          have HB5 := Lib.hid (below_set3 HB2.out (Nat.le_refl _) k1 a1 b1)
          have y0 := Hg5.out.c0
          have y1 := Hg5.out.c1
          have y2 := Hg5.out.c2
          simp only at y0 y1 y2
          have u0 := Hz5.out.c0
          have u1 := Hz5.out.c1
          have u2 := Hz5.out.c2
          have v0 := Hz5.out.fz 0
          have v1 := Hz5.out.fz 1
          have v2 := Hz5.out.fz 2
          have t1 : True := trivial
          have t2 : True := trivial
          go_wp2_with (first
            | (have := t1; clear this t1; refine wpList_fop _ rfl .sub _ _ _ _ rfl rfl .f32 _ _ rfl rfl ?_; intro r1 q1 h1)
            | (have := t2; clear this t2; refine wpList_fop _ rfl .mul _ _ _ _ rfl rfl .f32 _ _ rfl rfl ?_; intro r2 q2 h2))
          · have hc : geB r2 l = false := by
              unfold geB
              exact nor_t (by assumption)
            have hm : geB (fop .mul .f32 (cn .f32 p) (leftOf s')) (expF (Op.negFloat .f32 mean)) = false := by
              rw [← hc]
              refine geB_congr ?_ (by rw [cn_expF, hl.out])
              rw [cn_fop, h2.out, fop_l (r := p) rfl, fop_r h1.out, fop_r hu.out]
              rfl
            have hd : Hid (countSeed ⟨k0, a0, b0⟩ mean = some (⟨k1, a1, b1⟩, (k : Int))) := by
              show _ = _
              have e : 256 - k = (255 - k) + 1 := by omega
              rw [Hr.out, hdf.out, e, countFrom_no hm, Ht.out]
            clear hc hm
            (try simp only [Exit.inBlock, Exit.then])
            refine bodyPost_ret (results_s3 (s := ⟨k1, a1, b1⟩) (g := w.heap.size + 1) rfl _ rfl (by exact (Hz5.out.drewN (q1 + q2)).set3 k1 a1 b1)) rfl ?_
            exact gaveSNB_some (s := ⟨k1, a1, b1⟩) hd.out (below_set3 (below_drewN HB5.out _) (by omega) _ _ _)
          · have hc : geB r2 l = true := by
              unfold geB
              exact nor_f (by assumption)
            have hX : Hid (cn .f32 r2 = fop .mul .f32 (cn .f32 p) (leftOf s')) := by
              show _ = _
              rw [h2.out, fop_l (r := p) rfl, fop_r h1.out, fop_r hu.out]
              rfl
            have hm : geB (fop .mul .f32 (cn .f32 p) (leftOf s')) (expF (Op.negFloat .f32 mean)) = true := by
              rw [← hc]
              exact geB_congr (by rw [cn_fop, hX.out]) (by rw [cn_expF, hl.out])
            have hd : Hid (countFrom (expF (Op.negFloat .f32 mean)) 256 0 s 1065353216 = countFrom (expF (Op.negFloat .f32 mean)) (256 - (k + 1)) ((k + 1 : Nat) : Int) ⟨k1, a1, b1⟩ (cn .f32 r2)) := by
              show _ = _
              have e : 256 - k = (256 - (k + 1)) + 1 := by omega
              rw [hdf.out, e, countFrom_yes hm, Ht.out, hX.out]
              rfl
            clear hc hm
            first
              | (go_round; exact ⟨⟨k + 1, r2, ⟨k1, a1, b1⟩, by omega, by go_num, rfl, hd, Hto.out, Hg5.out.drewN _, Hz5.out.drewN _, below_drewN HB5.out _⟩, by simp only [intOf]; omega⟩)
              | exact ⟨⟨k + 1, r2, ⟨k1, a1, b1⟩, by omega, by go_num, rfl, hd, Hto.out, Hg5.out.drewN _, Hz5.out.drewN _, below_drewN HB5.out _⟩, by simp only [intOf]; omega⟩
        · obtain rfl : k = 256 := by omega
          have u0 := Hz'.out.c0
          have u1 := Hz'.out.c1
          have u2 := Hz'.out.c2
          have v0 := Hz'.out.fz 0
          have v1 := Hz'.out.fz 1
          have v2 := Hz'.out.fz 2
          go_wp2
          (try simp only [Exit.inBlock, Exit.then])
          refine bodyPost_ret (results_s3 (s := ⟨0, 0, 0⟩) (g := w.heap.size + 1) rfl _ rfl (by exact Hz'.out.set3 0 0 0)) rfl ?_
          exact gaveSNB_none (by rw [Hr.out, hdf.out]; rfl) (below_set3 HB'.out (by omega) _ _ _)
    · have Hn : Hid (countSeed ⟨k0, a0, b0⟩ mean = none) := by show _ = _; rw [Hs0.out]; simp only [countSeed, Hv.out, hp, Bool.and_false, if_false, Bool.false_eq_true]
      by_cases hge : ge0 mean = true
      · have hle : le32 mean = false := by simpa [hge] using hp
        unfold ge0 at hge
        unfold le32 at hle
        clear hp
        have u0 := Hz.out.c0
        have u1 := Hz.out.c1
        have u2 := Hz.out.c2
        have v0 := Hz.out.fz 0
        have v1 := Hz.out.fz 1
        have v2 := Hz.out.fz 2
        go_wp2
        (try simp only [Exit.inBlock, Exit.then])
        refine bodyPost_ret (results_s3 rfl _ rfl (Hz.out.set3 0 0 0)) rfl ?_
        exact gaveSNB_none Hn.out (below_set3 HB.out (by omega) _ _ _)
      · have hge' : ge0 mean = false := by simpa using hge
        unfold ge0 at hge'
        clear hp hge
        have u0 := Hz.out.c0
        have u1 := Hz.out.c1
        have u2 := Hz.out.c2
        have v0 := Hz.out.fz 0
        have v1 := Hz.out.fz 1
        have v2 := Hz.out.fz 2
        go_wp2
        (try simp only [Exit.inBlock, Exit.then])
        refine bodyPost_ret (results_s3 rfl _ rfl (Hz.out.set3 0 0 0)) rfl ?_
        exact gaveSNB_none Hn.out (below_set3 HB.out (by omega) _ _ _)
set_option maxHeartbeats 2000000 in
theorem specCount_any : FnSF_SNB 13 countSeed := by
  intro k0 a0 b0 mean w hs _
  have hz0 : ((w.alloc (.cells #[.int .i64 k0, .int .u64 a0, .int .u64 b0] 26)).alloc (.cells #[.int .i64 0, .int .u64 0, .int .u64 0] 26)).heap.size = w.heap.size + 2 := by rw [size_alloc', size_alloc']
  have hg : SeedAt ((w.alloc (.cells #[.int .i64 k0, .int .u64 a0, .int .u64 b0] 26)).alloc (.cells #[.int .i64 0, .int .u64 0, .int .u64 0] 26)) w.heap.size ⟨k0, a0, b0⟩ := (SeedAt.new w k0 a0 b0).alloc _
  have hz : SeedAt ((w.alloc (.cells #[.int .i64 k0, .int .u64 a0, .int .u64 b0] 26)).alloc (.cells #[.int .i64 0, .int .u64 0, .int .u64 0] 26)) (w.heap.size + 1) ⟨0, 0, 0⟩ := SeedAt.new1 w _ 0 0 0
  have hBl : Below w.heap.size w ((w.alloc (.cells #[.int .i64 k0, .int .u64 a0, .int .u64 b0] 26)).alloc (.cells #[.int .i64 0, .int .u64 0, .int .u64 0] 26)) := ((Below.refl _ _).alloc (Nat.le_refl _) _).alloc (by rw [size_alloc']; omega) _
  go_enter Try.func13, Try.ntmps13
  go_wp2_with fail
  refine (specIs_any ⟨k0, a0, b0⟩ _ _ hs hg).mono ?_
  rintro e w1 ⟨rfl, rfl⟩
  generalize (w.alloc (.cells #[.int .i64 k0, .int .u64 a0, .int .u64 b0] 26)).alloc (.cells #[.int .i64 0, .int .u64 0, .int .u64 0] 26) = w1 at hz0 hg hz hBl ⊢
  obtain ⟨s, hsd⟩ : ∃ s : Sd, s = ⟨k0, a0, b0⟩ := ⟨_, rfl⟩
  rw [← hsd] at hs hg ⊢
  have HB := Lib.hid hBl; have Hz := Lib.hid hz; have Hg := Lib.hid hg; have Hk : Hid s.ok := hs
  have Hs0 : Hid ((⟨k0, a0, b0⟩ : Sd) = s) := hsd.symm
  clear hBl hz hg hs hz0 hsd
  cases hv : validB s with
  | false =>
    have Hn : Hid (countSeed ⟨k0, a0, b0⟩ mean = none) := by show _ = _; rw [Hs0.out]; simp [countSeed, hv]
    have u0 := Hz.out.c0
    have u1 := Hz.out.c1
    have u2 := Hz.out.c2
    have v0 := Hz.out.fz 0
    have v1 := Hz.out.fz 1
    have v2 := Hz.out.fz 2
    simp only at u0 u1 u2
    go_wp2
    (try simp only [Exit.inBlock, Exit.then])
    refine bodyPost_ret (results_s3 rfl _ rfl (Hz.out.set3 0 0 0)) rfl ?_
    exact gaveSNB_none Hn.out (below_set3 HB.out (by omega) _ _ _)
  | true =>
    have Hv := Lib.hid hv
    clear hv
    by_cases hp : (ge0 mean && le32 mean) = true
    · have Hr : Hid (countSeed s mean = countFrom (expF (Op.negFloat .f32 mean)) 256 0 s 1065353216) := by show _ = _; simp only [countSeed, Hv.out, hp, Bool.and_self, if_true]
      simp only [Bool.and_eq_true] at hp
      obtain ⟨hp1, hp2⟩ := hp
      have Hm := Lib.hid (neg_32 (FinK_of_order hp1 hp2))
      unfold ge0 at hp1
      unfold le32 at hp2
      go_wp2_with fail
      clear hp1 hp2
      refine (specExp_any _ _ _ Hm.out.cn Hm.out).mono ?_
      rintro e w2 ⟨l, rfl, hl, ql, rfl⟩
      go_wp2
      go_loopw [8, 9] (fun pv i wr => ∃ (k p : Nat) (s' : Sd), k ≤ 256 ∧ i = .int .i64 k ∧ pv = .float .f32 p ∧ Hid (countFrom (expF (Op.negFloat .f32 mean)) 256 0 s 1065353216 = countFrom (expF (Op.negFloat .f32 mean)) (256 - k) k s' (cn .f32 p)) ∧ s'.ok ∧ SeedAt wr w.heap.size s' ∧ SeedAt wr (w.heap.size + 1) Sd.zero ∧ Below w.heap.size w wr) (fun _ i _ => 256 - (intOf i).toNat)
      case atStart => exact ⟨0, 1065353216, s, by omega, rfl, rfl, by show _ = _; rw [show cn .f32 1065353216 = 1065353216 by decide +kernel]; rfl, Hk.out, Hg.out.drewN ql, Hz.out.drewN ql, below_drewN HB.out ql⟩
      case round =>
        obtain ⟨k, p, s', hk, rfl, rfl, hdf, hs', hg', hz', hbel⟩ := hrel
        have HB' := Lib.hid hbel; have Hz' := Lib.hid hz'; have Hk' := Lib.hid hs'
        clear hbel hz' hs'
        by_cases hlt : k < 256
        · have hlt' : (k : Int) < 256 := by omega
          go_wp2_with fail
          refine (specShare_any s' _ _ Hk'.out hg').mono ?_
          rintro e w2 ⟨u, rfl, hu, hg2, hgr2⟩
          have Hz5 := Lib.hid (Hz'.out.grown hgr2 (by simp))
          have HB5 := Lib.hid (HB'.out.grown hgr2 HB'.out.size (fun _ h => by cases h; exact Nat.le_refl _))
          have Hto := Lib.hid (nextSd_ok Hk'.out)
          clear hgr2 hg'
          obtain ⟨t, ht⟩ : ∃ t, t = nextSd s' := ⟨_, rfl⟩
          rw [← ht] at hg2 Hto
          have Ht := Lib.hid ht
          clear ht
          obtain ⟨k1, a1, b1⟩ := t
          have Hg5 := Lib.hid hg2
          clear hg2
          have y0 := Hg5.out.c0
          have y1 := Hg5.out.c1
          have y2 := Hg5.out.c2
          simp only at y0 y1 y2
          have u0 := Hz5.out.c0
          have u1 := Hz5.out.c1
          have u2 := Hz5.out.c2
          have v0 := Hz5.out.fz 0
          have v1 := Hz5.out.fz 1
          have v2 := Hz5.out.fz 2
          have t1 : True := trivial
          have t2 : True := trivial
          go_wp2_with (first
            | (have := t1; clear this t1; refine wpList_fop _ rfl .sub _ _ _ _ rfl rfl .f32 _ _ rfl rfl ?_; intro r1 q1 h1)
            | (have := t2; clear this t2; refine wpList_fop _ rfl .mul _ _ _ _ rfl rfl .f32 _ _ rfl rfl ?_; intro r2 q2 h2))
          · have hc : geB r2 l = false := by
              unfold geB
              exact nor_t (by assumption)
            have hm : geB (fop .mul .f32 (cn .f32 p) (leftOf s')) (expF (Op.negFloat .f32 mean)) = false := by
              rw [← hc]
              refine geB_congr ?_ (by rw [cn_expF, hl.out])
              rw [cn_fop, h2.out, fop_l (r := p) rfl, fop_r h1.out, fop_r hu.out]
              rfl
            have hd : Hid (countSeed ⟨k0, a0, b0⟩ mean = some (⟨k1, a1, b1⟩, (k : Int))) := by
              show _ = _
              have e : 256 - k = (255 - k) + 1 := by omega
              rw [Hs0.out, Hr.out, hdf.out, e, countFrom_no hm, Ht.out]
            clear hc hm
            (try simp only [Exit.inBlock, Exit.then])
            refine bodyPost_ret (results_s3 (s := ⟨k1, a1, b1⟩) (g := w.heap.size + 1) rfl _ rfl (by exact (Hz5.out.drewN (q1 + q2)).set3 k1 a1 b1)) rfl ?_
            exact gaveSNB_some (s := ⟨k1, a1, b1⟩) hd.out (below_set3 (below_drewN HB5.out _) (by omega) _ _ _)
          · have hc : geB r2 l = true := by
              unfold geB
              exact nor_f (by assumption)
            have hX : Hid (cn .f32 r2 = fop .mul .f32 (cn .f32 p) (leftOf s')) := by
              show _ = _
              rw [h2.out, fop_l (r := p) rfl, fop_r h1.out, fop_r hu.out]
              rfl
            have hm : geB (fop .mul .f32 (cn .f32 p) (leftOf s')) (expF (Op.negFloat .f32 mean)) = true := by
              rw [← hc]
              exact geB_congr (by rw [cn_fop, hX.out]) (by rw [cn_expF, hl.out])
            have hd : Hid (countFrom (expF (Op.negFloat .f32 mean)) 256 0 s 1065353216 = countFrom (expF (Op.negFloat .f32 mean)) (256 - (k + 1)) ((k + 1 : Nat) : Int) ⟨k1, a1, b1⟩ (cn .f32 r2)) := by
              show _ = _
              have e : 256 - k = (256 - (k + 1)) + 1 := by omega
              rw [hdf.out, e, countFrom_yes hm, Ht.out, hX.out]
              rfl
            clear hc hm
            first
              | (go_round; exact ⟨⟨k + 1, r2, ⟨k1, a1, b1⟩, by omega, by go_num, rfl, hd, Hto.out, Hg5.out.drewN _, Hz5.out.drewN _, below_drewN HB5.out _⟩, by simp only [intOf]; omega⟩)
              | exact ⟨⟨k + 1, r2, ⟨k1, a1, b1⟩, by omega, by go_num, rfl, hd, Hto.out, Hg5.out.drewN _, Hz5.out.drewN _, below_drewN HB5.out _⟩, by simp only [intOf]; omega⟩
        · obtain rfl : k = 256 := by omega
          have u0 := Hz'.out.c0
          have u1 := Hz'.out.c1
          have u2 := Hz'.out.c2
          have v0 := Hz'.out.fz 0
          have v1 := Hz'.out.fz 1
          have v2 := Hz'.out.fz 2
          go_wp2
          (try simp only [Exit.inBlock, Exit.then])
          refine bodyPost_ret (results_s3 (s := ⟨0, 0, 0⟩) (g := w.heap.size + 1) rfl _ rfl (by exact Hz'.out.set3 0 0 0)) rfl ?_
          exact gaveSNB_none (by rw [Hs0.out, Hr.out, hdf.out]; rfl) (below_set3 HB'.out (by omega) _ _ _)
    · have Hn : Hid (countSeed ⟨k0, a0, b0⟩ mean = none) := by show _ = _; rw [Hs0.out]; simp only [countSeed, Hv.out, hp, Bool.and_false, if_false, Bool.false_eq_true]
      by_cases hge : ge0 mean = true
      · have hle : le32 mean = false := by simpa [hge] using hp
        unfold ge0 at hge
        unfold le32 at hle
        clear hp
        have u0 := Hz.out.c0
        have u1 := Hz.out.c1
        have u2 := Hz.out.c2
        have v0 := Hz.out.fz 0
        have v1 := Hz.out.fz 1
        have v2 := Hz.out.fz 2
        simp only at u0 u1 u2
        go_wp2
        (try simp only [Exit.inBlock, Exit.then])
        refine bodyPost_ret (results_s3 rfl _ rfl (Hz.out.set3 0 0 0)) rfl ?_
        exact gaveSNB_none Hn.out (below_set3 HB.out (by omega) _ _ _)
      · have hge' : ge0 mean = false := by simpa using hge
        unfold ge0 at hge'
        clear hp hge
        have u0 := Hz.out.c0
        have u1 := Hz.out.c1
        have u2 := Hz.out.c2
        have v0 := Hz.out.fz 0
        have v1 := Hz.out.fz 1
        have v2 := Hz.out.fz 2
        simp only at u0 u1 u2
        go_wp2
        (try simp only [Exit.inBlock, Exit.then])
        refine bodyPost_ret (results_s3 rfl _ rfl (Hz.out.set3 0 0 0)) rfl ?_
        exact gaveSNB_none Hn.out (below_set3 HB.out (by omega) _ _ _)
end Go.Proofs.Ytgbehnkccgahoaa
