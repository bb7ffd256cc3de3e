/- FirstSeed: how many draws till the first hit. -/
import Derived.Test.YtgbehnkccgahoaaFloor
import Derived.Test.YtgbehnkccgahoaaWait
import Derived.Test.YtgbehnkccgahoaaPart
import Derived.Test.YtgbehnkccgahoaaShapesC
namespace Go.Proofs.Ytgbehnkccgahoaa
open Go.RowKit Mag
set_option maxRecDepth 100000
def gt0 (x : Nat) : Bool := FloatKind.f32.format.order x 0 == some Ordering.gt
def eq1 (x : Nat) : Bool := FloatKind.f32.format.order x 1065353216 == some Ordering.eq
def geZ (x : Nat) : Bool := FloatKind.f64.format.order x 0 == some Ordering.gt || FloatKind.f64.format.order x 0 == some Ordering.eq
def geM (x : Nat) : Bool := FloatKind.f64.format.order x 13965043853221167104 == some Ordering.gt || FloatKind.f64.format.order x 13965043853221167104 == some Ordering.eq
def leB (x : Nat) : Bool := FloatKind.f64.format.order x 4741671816366391296 == some Ordering.lt || FloatKind.f64.format.order x 4741671816366391296 == some Ordering.eq
def restOf (share : Nat) : Nat := fop .sub .f32 1065353216 share
def firstN (s : Sd) (share : Nat) : Nat := floorF (widen (fop .quo .f32 (logF (leftOf s)) (logF (restOf share))))
def toZ (x : Nat) : Int := (floatToIntVal .f64 x .i64).getD 0
def firstSeed (s : Sd) (share : Nat) : Option (Sd × Int) :=
  if validB s && (gt0 share && le1 share) then (if eq1 share then some (nextSd s, 0) else if geZ (firstN s share) && leB (firstN s share) then some (nextSd s, toZ (firstN s share)) else none) else none
theorem fin_01 {x : Nat} (h0 : ge0 x = true) (h1 : le1 x = true) : Rn .f32 (0 : Nat) (1065353216 : Nat) x := by
  have hn : isNaNB .f32 x = false := by
    rcases hb : isNaNB .f32 x with _ | _
    · rfl
    · unfold ge0 at h0; rw [order_nan_l hb] at h0; cases h0
  have hn' := hn
  rw [nan_rung] at hn'
  simp only [decide_eq_false_iff_not] at hn'
  have hf : FinK .f32 x := by
    rcases Nat.lt_or_ge (rungW FloatKind.f32.format x) FloatKind.f32.format.infRung with hl | hg
    · exact hl
    · exfalso
      have he : rungW Ieee.single x = Ieee.single.infRung := by
        show rungW FloatKind.f32.format x = FloatKind.f32.format.infRung
        omega
      have hr : Ieee.single.read x = .infinity (negW Ieee.single x) := by
        unfold Ieee.Format.read
        dsimp only
        change (if rungW Ieee.single x < Ieee.single.binade then _ else if rungW Ieee.single x < Ieee.single.infRung then _ else if rungW Ieee.single x = Ieee.single.infRung then _ else _ : Ieee.Datum) = _
        rw [he, if_neg (by decide), if_neg (by decide), if_pos rfl]
        rfl
      unfold ge0 Ieee.Format.order at h0
      unfold le1 Ieee.Format.order at h1
      change (Ieee.Datum.order (Ieee.single.read x) (Ieee.single.read 0) == some Ordering.gt || Ieee.Datum.order (Ieee.single.read x) (Ieee.single.read 0) == some Ordering.eq) = true at h0
      change (Ieee.Datum.order (Ieee.single.read x) (Ieee.single.read 1065353216) == some Ordering.lt || Ieee.Datum.order (Ieee.single.read x) (Ieee.single.read 1065353216) == some Ordering.eq) = true at h1
      rw [hr] at h0 h1
      cases hs : negW Ieee.single x <;> rw [hs] at h0 h1
      · revert h1; decide
      · revert h0; decide
  have z : FinK .f32 0 ∧ KV .f32 0 = 0 := ⟨(Rn.const (k := .f32) (lo := 0) (hi := 0) (by decide +kernel)).1, by decide +kernel⟩
  have c : FinK .f32 1065353216 ∧ KV .f32 1065353216 = 1065353216 := ⟨(Rn.const (k := .f32) (lo := 1065353216) (hi := 1065353216) (by decide +kernel)).1, by decide +kernel⟩
  have a := fge_KV hf z.1
  have b := fle_KV hf c.1
  have h0' : fge .f32 x 0 = true := h0
  have h1' : fle .f32 x 1065353216 = true := h1
  rw [h0', z.2] at a
  rw [h1', c.2] at b
  exact ⟨hf, by simpa using a.symm, by simpa using b.symm⟩
theorem rest_rn {x : Nat} (h0 : gt0 x = true) (h1 : le1 x = true) (h2 : eq1 x = false) : 1 ≤ restOf x ∧ restOf x ≤ 1065353216 := by
  have hg : ge0 x = true := by unfold gt0 at h0; unfold ge0; rw [h0]; rfl
  have hf := fin_01 hg h1
  have z : FinK .f32 0 ∧ KV .f32 0 = 0 := ⟨(Rn.const (k := .f32) (lo := 0) (hi := 0) (by decide +kernel)).1, by decide +kernel⟩
  have c : FinK .f32 1065353216 ∧ KV .f32 1065353216 = 1065353216 := ⟨(Rn.const (k := .f32) (lo := 1065353216) (hi := 1065353216) (by decide +kernel)).1, by decide +kernel⟩
  have a := fgt_KV hf.1 z.1
  have b := feq_KV hf.1 c.1
  unfold fgt at a
  unfold feq at b
  unfold gt0 at h0
  unfold eq1 at h2
  rw [h0, z.2] at a
  rw [h2, c.2] at b
  have a' : 0 < KV .f32 x := by simpa using a.symm
  have b' : ¬ KV .f32 x = 1065353216 := by simpa using b.symm
  have hr : Rn .f32 (1 : Nat) (1065353215 : Nat) x := ⟨hf.1, by omega, by have := hf.2.2; omega⟩
  have o1 : Rn .f32 1065353216 1065353216 1065353216 := Rn.const (by decide +kernel)
  have h : Rn .f32 1 1065353216 (restOf x) := o1.sub hr (by decide +kernel)
  have hlt : restOf x < 4294967296 := by
    unfold restOf fop floatBits
    dsimp only
    obtain ⟨r, e, _⟩ := sub_sk o1.1 hr.1
    rw [e]
    exact Ieee.Format.sub_lt Ieee.single e
  obtain ⟨_, l, u⟩ := h
  have hs : Ieee.single.signWeight = 2147483648 := by decide
  have hk : KV .f32 (restOf x) = restOf x := by
    by_cases hb : restOf x < 2147483648
    · exact sk_small (f := Ieee.single) (by rw [hs]; exact hb)
    · exfalso
      have hn : negW FloatKind.f32.format (restOf x) = true := by
        show negW Ieee.single (restOf x) = true
        unfold negW; rw [hs]
        have : restOf x / 2147483648 = 1 := by omega
        rw [this]; rfl
      have := (KV_sign (k := .f32) (x := restOf x)).2 hn
      omega
  rw [hk] at l u
  omega
theorem quo_class {x y : Nat} (hx : Rn .f32 (-(1128792064 : Nat)) 0 x) (hy : Rn .f32 (-(1128792064 : Nat)) 0 y) :
    isNaNB .f32 (fop .quo .f32 x y) = true ∨ (∃ s, fop .quo .f32 x y = FloatKind.f32.encode (.infinity s)) ∨ Rn .f32 (0 : Nat) (2139095039 : Nat) (fop .quo .f32 x y) := by
  have e0 : fop .quo .f32 x y = (((Ieee.Datum.number (negW Ieee.single x) (magM Ieee.single (rungW Ieee.single x)) (magE Ieee.single (rungW Ieee.single x))).quotient (Ieee.single.fractionBits + 2) (.number (negW Ieee.single y) (magM Ieee.single (rungW Ieee.single y)) (magE Ieee.single (rungW Ieee.single y)))).map Ieee.single.write).getD (qnan .f32) := by
    show (Ieee.single.div x y).getD _ = _
    unfold Ieee.Format.div
    rw [read_fin (f := Ieee.single) hx.1, read_fin (f := Ieee.single) hy.1]
  rw [e0]
  unfold Ieee.Datum.quotient
  dsimp only
  by_cases hn : magM Ieee.single (rungW Ieee.single y) = 0
  · rw [if_pos hn]
    by_cases hm : magM Ieee.single (rungW Ieee.single x) = 0
    · rw [if_pos hm]; exact .inl (qnan_isNaN .f32)
    · rw [if_neg hm]; exact .inr (.inl ⟨_, rfl⟩)
  · rw [if_neg hn]
    generalize hQ : 2 * (magM Ieee.single (rungW Ieee.single x) <<< (Ieee.single.fractionBits + 2 + (magM Ieee.single (rungW Ieee.single y)).log2 - (magM Ieee.single (rungW Ieee.single x)).log2) / magM Ieee.single (rungW Ieee.single y)) + (magM Ieee.single (rungW Ieee.single x) <<< (Ieee.single.fractionBits + 2 + (magM Ieee.single (rungW Ieee.single y)).log2 - (magM Ieee.single (rungW Ieee.single x)).log2) % magM Ieee.single (rungW Ieee.single y) != 0).toNat = Q
    generalize magE Ieee.single (rungW Ieee.single x) - magE Ieee.single (rungW Ieee.single y) - ((Ieee.single.fractionBits + 2 + (magM Ieee.single (rungW Ieee.single y)).log2 - (magM Ieee.single (rungW Ieee.single x)).log2 : Nat) : Int) - 1 = P
    have hw : (Option.map Ieee.single.write (some (Ieee.Datum.number (negW Ieee.single x ^^ negW Ieee.single y) Q P))).getD (qnan .f32) = Ieee.single.word (negW Ieee.single x ^^ negW Ieee.single y) (rg Ieee.single Q P) := by
      show Ieee.single.nearest _ _ _ = _
      rw [nearest_rg]
    rw [hw]
    have hle := rg_le Ieee.single Q P
    rcases Nat.lt_or_ge (rg Ieee.single Q P) Ieee.single.infRung with hl | hg
    · refine .inr (.inr ?_)
      have hkv : KV .f32 (Ieee.single.word (negW Ieee.single x ^^ negW Ieee.single y) (rg Ieee.single Q P)) = sv (negW Ieee.single x ^^ negW Ieee.single y) (rg Ieee.single Q P) := sk_word _ _ hle
      have hi : Ieee.single.infRung = 2139095040 := by decide
      have hpos : 0 ≤ sv (negW Ieee.single x ^^ negW Ieee.single y) (rg Ieee.single Q P) := by
        by_cases hx0 : rungW Ieee.single x = 0
        · have : Q = 0 := by
            rw [← hQ, hx0]
            have h0 : magM Ieee.single 0 = 0 := by decide
            rw [h0, Nat.shiftLeft_eq, Nat.zero_mul, Nat.zero_div, Nat.zero_mod]; rfl
          have : rg Ieee.single Q P = 0 := by rw [this]; unfold rg; rw [if_pos rfl]
          rw [this]; unfold sv; split <;> simp
        · have nx : negW Ieee.single x = true := by
            rcases hb : negW Ieee.single x with _ | _
            · have h1 : KV .f32 x = rungW Ieee.single x := (KV_sign (k := .f32) (x := x)).1 hb
              have := hx.2; omega
            · rfl
          have ny : negW Ieee.single y = true := by
            rcases hb : negW Ieee.single y with _ | _
            · have h1 : KV .f32 y = rungW Ieee.single y := (KV_sign (k := .f32) (x := y)).1 hb
              have h2 := hy.2
              have : rungW Ieee.single y = 0 := by omega
              exfalso; apply hn; rw [this]; decide
            · rfl
          rw [nx, ny]; unfold sv; simp
      have hub : sv (negW Ieee.single x ^^ negW Ieee.single y) (rg Ieee.single Q P) ≤ 2139095039 := by unfold sv; split <;> omega
      exact Rn.mk_ (by decide) (by rw [hkv]; exact hpos) (by rw [hkv]; exact hub) (by decide)
    · refine .inr (.inl ⟨negW Ieee.single x ^^ negW Ieee.single y, ?_⟩)
      have : rg Ieee.single Q P = Ieee.single.infRung := by omega
      rw [this]; rfl
theorem first_class (s : Sd) (share : Nat) (hr : 1 ≤ restOf share ∧ restOf share ≤ 1065353216) :
    isNaNB .f64 (firstN s share) = true ∨ (∃ b, firstN s share = FloatKind.f64.encode (.infinity b)) ∨ (FinK .f64 (firstN s share) ∧ 0 ≤ KV .f64 (firstN s share)) := by
  have hc := quo_class (logF_neg (leftOf_rn s).1 (leftOf_rn s).2) (logF_neg hr.1 hr.2)
  unfold firstN
  generalize fop .quo .f32 (logF (leftOf s)) (logF (restOf share)) = q at hc
  rcases hc with h | ⟨b, rfl⟩ | h
  · left
    rw [widen_nan h, floorF_nan (qnan_isNaN .f64)]
    exact qnan_isNaN .f64
  · refine .inr (.inl ⟨b, ?_⟩)
    cases b <;> decide +kernel
  · have hw : Rn .f64 (0 : Nat) (5183643170566569984 : Nat) (widen q) := h.widen (by decide +kernel)
    have hf := floor_rn hw.1 (by have := hw.2.1; omega)
    exact .inr (.inr ⟨hf.1, hf.2.1⟩)
theorem first_same (s : Sd) (share : Nat) (hr : 1 ≤ restOf share ∧ restOf share ≤ 1065353216) : (geM (firstN s share) && leB (firstN s share)) = (geZ (firstN s share) && leB (firstN s share)) := by
  rcases first_class s share hr with h | ⟨b, hb⟩ | ⟨hf, h0⟩
  · unfold geM geZ
    rw [order_nan_l h, order_nan_l h]
  · rw [hb]; cases b <;> decide +kernel
  · have m : Rn .f64 (-(4741671816366391296 : Nat)) (-(4741671816366391296 : Nat)) 13965043853221167104 := Rn.const (by decide +kernel)
    have a := fge_KV hf m.1
    have b := fge_KV hf c0.1
    have e : KV .f64 0 = 0 := by decide +kernel
    have hm := m.2
    rw [decide_eq_true (by omega)] at a
    rw [e, decide_eq_true h0] at b
    have a' : geM (firstN s share) = true := a
    have b' : geZ (firstN s share) = true := b
    rw [a', b']
theorem first_toZ (s : Sd) (share : Nat) (hr : 1 ≤ restOf share ∧ restOf share ≤ 1065353216) (h : (geZ (firstN s share) && leB (firstN s share)) = true) :
    floatToIntVal .f64 (firstN s share) .i64 = some (toZ (firstN s share)) ∧ isNaNB .f64 (firstN s share) = false := by
  simp only [Bool.and_eq_true] at h
  rcases first_class s share hr with hn | ⟨b, hb⟩ | ⟨hf, h0⟩
  · exfalso
    have h1 := h.1
    unfold geZ at h1
    rw [order_nan_l hn] at h1
    cases h1
  · exfalso
    obtain ⟨h1, h2⟩ := h
    rw [hb] at h1 h2
    cases b
    · revert h2; decide +kernel
    · revert h1; decide +kernel
  · have m : Rn .f64 (4741671816366391296 : Nat) (4741671816366391296 : Nat) 4741671816366391296 := Rn.const (by decide +kernel)
    have a := fle_KV hf m.1
    have a' : fle .f64 (firstN s share) 4741671816366391296 = true := h.2
    rw [a'] at a
    have hm := m.2
    have hle : KV .f64 (firstN s share) ≤ KV .f64 4741671816366391296 := by simpa using a.symm
    obtain ⟨z, hz⟩ := toInt_le (x := firstN s share) ⟨hf, h0, by omega⟩
    refine ⟨?_, FinK_not_nan hf⟩
    unfold toZ
    rw [hz]; rfl
set_option maxHeartbeats 4000000 in
theorem implFirst_any : FnSF_SNB 16 firstSeed := by
  intro k0 a0 b0 share w hs _
  have hz0 : ((w.alloc (.cells #[.int .i64 k0, .int .u64 a0, .int .u64 b0] 26)).alloc (.cells #[.int .i64 0, .int .u64 0, .int .u64 0] 26)).heap.size = w.heap.size + 2 := by rw [size_alloc', size_alloc']
  go_enter Try.func16, Try.ntmps16
  go_wp2_with fail
  refine (implValid_any ⟨k0, a0, b0⟩ _ hs).mono ?_
  rintro e w1 ⟨rfl, hb1⟩
  rw [hz0] at hb1
  have hBl : Below w.heap.size w w1 := (((Below.refl _ _).alloc (Nat.le_refl _) _).alloc (by rw [size_alloc']; omega) _).trans (hb1.mono (by omega))
  have hg : SeedAt w1 w.heap.size ⟨k0, a0, b0⟩ := ((SeedAt.new w k0 a0 b0).alloc _).below hb1 (by omega)
  have hz : SeedAt w1 (w.heap.size + 1) ⟨0, 0, 0⟩ := (SeedAt.new1 w _ 0 0 0).below hb1 (by omega)
  clear hz0 hb1
  obtain ⟨s, hsd⟩ : ∃ s : Sd, s = ⟨k0, a0, b0⟩ := ⟨_, rfl⟩
  rw [← hsd] at hs hg ⊢
  have HB := Lib.hid hBl; have Hz := Lib.hid hz; have Hg := Lib.hid hg; have Hk : Hid s.ok := hs
  have Hs0 : Hid ((⟨k0, a0, b0⟩ : Sd) = s) := hsd.symm
  clear hBl hz hg hs hsd
  cases hv : validB s with
  | false =>
    have Hn : Hid (firstSeed ⟨k0, a0, b0⟩ share = none) := by show _ = _; rw [Hs0.out]; simp [firstSeed, hv]
    have u0 := Hz.out.c0
    have u1 := Hz.out.c1
    have u2 := Hz.out.c2
    have v0 := Hz.out.fz 0
    have v1 := Hz.out.fz 1
    have v2 := Hz.out.fz 2
    go_wp2
    (try simp only [Exit.inBlock, Exit.then])
    refine bodyPost_ret (results_s3 rfl _ rfl (Hz.out.set3 0 0 0)) rfl ?_
    exact gaveSNB_none Hn.out (below_set3 HB.out (by omega) _ _ _)
  | true =>
    have Hv := Lib.hid hv
    clear hv
    by_cases hp : (gt0 share && le1 share) = true
    · simp only [Bool.and_eq_true] at hp
      obtain ⟨hp1, hp2⟩ := hp
      have Hp1 := Lib.hid hp1
      have Hp2 := Lib.hid hp2
      unfold gt0 at hp1
      unfold le1 at hp2
      have c0 := Hg.out.c0
      have c1 := Hg.out.c1
      have c2 := Hg.out.c2
      go_wp2_with fail
      clear hp1 hp2
      refine (implShare_any s _ Hk.out).mono ?_
      rintro e w3 ⟨u, rfl, hu, hb3⟩
      obtain rfl : u = shareOf s := cn_num hu.out (FinK_not_nan (share_rn _).1)
      have hg3 := Hg.out.below hb3 Hg.out.lt
      have hz3 := Hz.out.below hb3 Hz.out.lt
      have HB3 := Lib.hid (HB.out.trans (hb3.mono HB.out.size))
      clear hb3 c0 c1 c2
      obtain ⟨t, ht⟩ : ∃ t, t = nextSd s := ⟨_, rfl⟩
      rw [← ht]
      have Ht := Lib.hid ht
      clear ht
      obtain ⟨k1, a1, b1⟩ := t
      unfold Sd.val
      have x0 := hg3.c0
      have x1 := hg3.c1
      have x2 := hg3.c2
      have f0 := hg3.fz 0
      have f1 := hg3.fz 1
      have f2 := hg3.fz 2
      have Hg5 := Lib.hid (hg3.set3 k1 a1 b1)
      have Hz5 := Lib.hid (hz3.far3 (g' := w.heap.size) (by omega) k1 a1 b1)
      have HB5 := Lib.hid (below_set3 HB3.out (Nat.le_refl _) k1 a1 b1)
      have y0 := Hg5.out.c0
      have y1 := Hg5.out.c1
      have y2 := Hg5.out.c2
      simp only at y0 y1 y2
      have u0 := Hz5.out.c0
      have u1 := Hz5.out.c1
      have u2 := Hz5.out.c2
      have v0 := Hz5.out.fz 0
      have v1 := Hz5.out.fz 1
      have v2 := Hz5.out.fz 2
      cases he : eq1 share with
      | true =>
        have Hn : Hid (firstSeed ⟨k0, a0, b0⟩ share = some (⟨k1, a1, b1⟩, 0)) := by show _ = _; rw [Hs0.out]; simp only [firstSeed, Hv.out, Hp1.out, Hp2.out, he, Bool.and_self, if_true, Ht.out]
        unfold eq1 at he
        go_wp2
        (try simp only [Exit.inBlock, Exit.then])
        refine bodyPost_ret (results_s3 (s := ⟨k1, a1, b1⟩) (g := w.heap.size + 1) rfl _ rfl (by exact Hz5.out.set3 k1 a1 b1)) rfl ?_
        exact gaveSNB_some (s := ⟨k1, a1, b1⟩) Hn.out (below_set3 HB5.out (by omega) _ _ _)
      | false =>
        have hr := Lib.hid (rest_rn Hp1.out Hp2.out he)
        have Hr : Hid (firstSeed ⟨k0, a0, b0⟩ share = if geZ (firstN s share) && leB (firstN s share) then some (⟨k1, a1, b1⟩, toZ (firstN s share)) else none) := by show _ = _; rw [Hs0.out]; simp only [firstSeed, Hv.out, Hp1.out, Hp2.out, he, Bool.and_self, if_true, Ht.out, if_false, Bool.false_eq_true]
        unfold eq1 at he
        have t1 : True := trivial
        go_wp2_with (have := t1; clear this t1; refine wpList_fop _ rfl .sub _ _ _ _ rfl rfl .f32 _ _ rfl rfl ?_; intro r1 q1 h1)
        refine (implLog_any (leftOf s) r1 _ h1.out (leftOf_rn s).1 (leftOf_rn s).2).mono ?_
        rintro e w6 ⟨l1, rfl, hl1, p1, rfl⟩
        dsimp only
        have t2 : True := trivial
        go_wp2_with (have := t2; clear this t2; refine wpList_fop _ rfl .sub _ _ _ _ rfl rfl .f32 _ _ rfl rfl ?_; intro r2 q2 h2)
        refine (implLog_any (restOf share) r2 _ h2.out hr.out.1 hr.out.2).mono ?_
        rintro e w7 ⟨l2, rfl, hl2, p2, rfl⟩
        dsimp only
        have t3 : True := trivial
        have t4 : True := trivial
        go_wp2_with (first
          | (have := t3; clear this t3; refine wpList_fop _ rfl .quo _ _ _ _ rfl rfl .f32 _ _ rfl rfl ?_; intro r3 q3 h3)
          | (have := t4; clear this t4; refine wpList_widen _ rfl 28 52 _ rfl rfl Try.underlying52 _ rfl ?_; intro r4 q4 h4))
        refine (floor_any _ _).mono ?_
        rintro e w8 ⟨n, rfl, hn, p3, rfl⟩
        have hN : Hid (cn .f64 n = firstN s share) := by
          have e1 : cn .f32 r3 = fop .quo .f32 (logF (leftOf s)) (logF (restOf share)) := by rw [h3.out, fop_l hl1.out, fop_r hl2.out]
          have e2 : cn .f64 r4 = widen (fop .quo .f32 (logF (leftOf s)) (logF (restOf share))) := by rw [h4.out, ← e1, widen_cn]
          show _ = _
          rw [hn.out, floorF_l e2]; rfl
        clear he
        have hsame := Lib.hid (first_same s share hr.out)
        have hE2 : (FloatKind.f64.format.order n 4741671816366391296 == some Ordering.lt || FloatKind.f64.format.order n 4741671816366391296 == some Ordering.eq) = leB (firstN s share) := by rw [order_l hN.out]; rfl
        have hE1 : (FloatKind.f64.format.order n 13965043853221167104 == some Ordering.gt || FloatKind.f64.format.order n 13965043853221167104 == some Ordering.eq) = geM (firstN s share) := by rw [order_l hN.out]; rfl
        cases hA : geM (firstN s share) with
        | false =>
          have Hn : Hid (firstSeed ⟨k0, a0, b0⟩ share = none) := by
            show _ = _
            have h : (geZ (firstN s share) && leB (firstN s share)) = false := by rw [← hsame.out, hA]; rfl
            rw [Hr.out, h]; rfl
          rw [hA] at hE1
          clear hA hE2
          go_wp2
          (try simp only [Exit.inBlock, Exit.then])
          refine bodyPost_ret (results_s3 (s := ⟨0, 0, 0⟩) (g := w.heap.size + 1) rfl _ rfl (by exact (Hz5.out.drewN (q1 + p1 + q2 + p2 + q3 + q4 + p3)).set3 0 0 0)) rfl ?_
          exact gaveSNB_none Hn.out (below_set3 (below_drewN HB5.out (q1 + p1 + q2 + p2 + q3 + q4 + p3)) (by omega) _ _ _)
        | true =>
          cases hB : leB (firstN s share) with
          | false =>
            have Hn : Hid (firstSeed ⟨k0, a0, b0⟩ share = none) := by
              show _ = _
              rw [Hr.out, hB, Bool.and_false]; rfl
            rw [hA] at hE1
            rw [hB] at hE2
            clear hA hB
            go_wp2
            (try simp only [Exit.inBlock, Exit.then])
            refine bodyPost_ret (results_s3 (s := ⟨0, 0, 0⟩) (g := w.heap.size + 1) rfl _ rfl (by exact (Hz5.out.drewN (q1 + p1 + q2 + p2 + q3 + q4 + p3)).set3 0 0 0)) rfl ?_
            exact gaveSNB_none Hn.out (below_set3 (below_drewN HB5.out (q1 + p1 + q2 + p2 + q3 + q4 + p3)) (by omega) _ _ _)
          | true =>
            have hyes : (geZ (firstN s share) && leB (firstN s share)) = true := by rw [← hsame.out, hA, hB]; rfl
            have Hn : Hid (firstSeed ⟨k0, a0, b0⟩ share = some (⟨k1, a1, b1⟩, toZ (firstN s share))) := by
              show _ = _
              rw [Hr.out, if_pos hyes]
            have hz := first_toZ s share hr.out hyes
            obtain rfl : n = firstN s share := cn_num hN.out hz.2
            have hcv := fun w => run_convert_float_int (P := Try.prog) w 52 2 .f64 .i64 (firstN s share) (toZ (firstN s share)) rfl Try.underlying2 hz.1
            rw [hA] at hE1
            rw [hB] at hE2
            clear hA hB hyes hz
            go_wp2
            (try simp only [Exit.inBlock, Exit.then])
            refine bodyPost_ret (results_s3 (s := ⟨k1, a1, b1⟩) (g := w.heap.size + 1) rfl _ rfl (by exact (Hz5.out.drewN (q1 + p1 + q2 + p2 + q3 + q4 + p3)).set3 k1 a1 b1)) rfl ?_
            exact gaveSNB_some (s := ⟨k1, a1, b1⟩) Hn.out (below_set3 (below_drewN HB5.out (q1 + p1 + q2 + p2 + q3 + q4 + p3)) (by omega) _ _ _)
    · have Hn : Hid (firstSeed ⟨k0, a0, b0⟩ share = none) := by show _ = _; rw [Hs0.out]; simp only [firstSeed, Hv.out, hp, Bool.and_false, if_false, Bool.false_eq_true]
      by_cases hge : gt0 share = true
      · have hle : le1 share = false := by simpa [hge] using hp
        unfold gt0 at hge
        unfold le1 at hle
        clear hp
        have u0 := Hz.out.c0
        have u1 := Hz.out.c1
        have u2 := Hz.out.c2
        have v0 := Hz.out.fz 0
        have v1 := Hz.out.fz 1
        have v2 := Hz.out.fz 2
        go_wp2
        (try simp only [Exit.inBlock, Exit.then])
        refine bodyPost_ret (results_s3 rfl _ rfl (Hz.out.set3 0 0 0)) rfl ?_
        exact gaveSNB_none Hn.out (below_set3 HB.out (by omega) _ _ _)
      · have hge' : gt0 share = false := by simpa using hge
        unfold gt0 at hge'
        clear hp hge
        have u0 := Hz.out.c0
        have u1 := Hz.out.c1
        have u2 := Hz.out.c2
        have v0 := Hz.out.fz 0
        have v1 := Hz.out.fz 1
        have v2 := Hz.out.fz 2
        go_wp2
        (try simp only [Exit.inBlock, Exit.then])
        refine bodyPost_ret (results_s3 rfl _ rfl (Hz.out.set3 0 0 0)) rfl ?_
        exact gaveSNB_none Hn.out (below_set3 HB.out (by omega) _ _ _)
set_option maxHeartbeats 4000000 in
theorem specFirst_any : FnSF_SNB 17 firstSeed := by
  intro k0 a0 b0 share w hs _
  have hz0 : ((w.alloc (.cells #[.int .i64 k0, .int .u64 a0, .int .u64 b0] 26)).alloc (.cells #[.int .i64 0, .int .u64 0, .int .u64 0] 26)).heap.size = w.heap.size + 2 := by rw [size_alloc', size_alloc']
  have hg : SeedAt ((w.alloc (.cells #[.int .i64 k0, .int .u64 a0, .int .u64 b0] 26)).alloc (.cells #[.int .i64 0, .int .u64 0, .int .u64 0] 26)) w.heap.size ⟨k0, a0, b0⟩ := (SeedAt.new w k0 a0 b0).alloc _
  have hz : SeedAt ((w.alloc (.cells #[.int .i64 k0, .int .u64 a0, .int .u64 b0] 26)).alloc (.cells #[.int .i64 0, .int .u64 0, .int .u64 0] 26)) (w.heap.size + 1) ⟨0, 0, 0⟩ := SeedAt.new1 w _ 0 0 0
  have hBl : Below w.heap.size w ((w.alloc (.cells #[.int .i64 k0, .int .u64 a0, .int .u64 b0] 26)).alloc (.cells #[.int .i64 0, .int .u64 0, .int .u64 0] 26)) := ((Below.refl _ _).alloc (Nat.le_refl _) _).alloc (by rw [size_alloc']; omega) _
  go_enter Try.func17, Try.ntmps17
  go_wp2_with fail
  refine (specIs_any ⟨k0, a0, b0⟩ _ _ hs hg).mono ?_
  rintro e w1 ⟨rfl, rfl⟩
  generalize (w.alloc (.cells #[.int .i64 k0, .int .u64 a0, .int .u64 b0] 26)).alloc (.cells #[.int .i64 0, .int .u64 0, .int .u64 0] 26) = w1 at hz0 hg hz hBl ⊢
  obtain ⟨s, hsd⟩ : ∃ s : Sd, s = ⟨k0, a0, b0⟩ := ⟨_, rfl⟩
  rw [← hsd] at hs hg ⊢
  have HB := Lib.hid hBl; have Hz := Lib.hid hz; have Hg := Lib.hid hg; have Hk : Hid s.ok := hs
  have Hs0 : Hid ((⟨k0, a0, b0⟩ : Sd) = s) := hsd.symm
  clear hBl hz hg hs hz0 hsd
  cases hv : validB s with
  | false =>
    have Hn : Hid (firstSeed ⟨k0, a0, b0⟩ share = none) := by show _ = _; rw [Hs0.out]; simp [firstSeed, hv]
    have u0 := Hz.out.c0
    have u1 := Hz.out.c1
    have u2 := Hz.out.c2
    have v0 := Hz.out.fz 0
    have v1 := Hz.out.fz 1
    have v2 := Hz.out.fz 2
    simp only at u0 u1 u2
    go_wp2
    (try simp only [Exit.inBlock, Exit.then])
    refine bodyPost_ret (results_s3 rfl _ rfl (Hz.out.set3 0 0 0)) rfl ?_
    exact gaveSNB_none Hn.out (below_set3 HB.out (by omega) _ _ _)
  | true =>
    have Hv := Lib.hid hv
    clear hv
    by_cases hp : (gt0 share && le1 share) = true
    · simp only [Bool.and_eq_true] at hp
      obtain ⟨hp1, hp2⟩ := hp
      have Hp1 := Lib.hid hp1
      have Hp2 := Lib.hid hp2
      unfold gt0 at hp1
      unfold le1 at hp2
      go_wp2_with fail
      clear hp1 hp2
      refine (specLeft_any s _ _ Hk.out Hg.out).mono ?_
      rintro e w3 ⟨l1, rfl, hl1, hg3, hgr⟩
      have Hz5 := Lib.hid (Hz.out.grown hgr (by simp))
      have HB5 := Lib.hid (HB.out.grown hgr HB.out.size (fun _ h => by cases h; exact Nat.le_refl _))
      clear hgr
      obtain ⟨t, ht⟩ : ∃ t, t = nextSd s := ⟨_, rfl⟩
      rw [← ht] at hg3
      have Ht := Lib.hid ht
      clear ht
      obtain ⟨k1, a1, b1⟩ := t
      have Hg5 := Lib.hid hg3
      clear hg3
      have y0 := Hg5.out.c0
      have y1 := Hg5.out.c1
      have y2 := Hg5.out.c2
      simp only at y0 y1 y2
      have u0 := Hz5.out.c0
      have u1 := Hz5.out.c1
      have u2 := Hz5.out.c2
      have v0 := Hz5.out.fz 0
      have v1 := Hz5.out.fz 1
      have v2 := Hz5.out.fz 2
      cases he : eq1 share with
      | true =>
        have Hn : Hid (firstSeed ⟨k0, a0, b0⟩ share = some (⟨k1, a1, b1⟩, 0)) := by show _ = _; rw [Hs0.out]; simp only [firstSeed, Hv.out, Hp1.out, Hp2.out, he, Bool.and_self, if_true, Ht.out]
        unfold eq1 at he
        go_wp2
        (try simp only [Exit.inBlock, Exit.then])
        refine bodyPost_ret (results_s3 (s := ⟨k1, a1, b1⟩) (g := w.heap.size + 1) rfl _ rfl (by exact Hz5.out.set3 k1 a1 b1)) rfl ?_
        exact gaveSNB_some (s := ⟨k1, a1, b1⟩) Hn.out (below_set3 HB5.out (by omega) _ _ _)
      | false =>
        have hr := Lib.hid (rest_rn Hp1.out Hp2.out he)
        have Hr : Hid (firstSeed ⟨k0, a0, b0⟩ share = if geZ (firstN s share) && leB (firstN s share) then some (⟨k1, a1, b1⟩, toZ (firstN s share)) else none) := by show _ = _; rw [Hs0.out]; simp only [firstSeed, Hv.out, Hp1.out, Hp2.out, he, Bool.and_self, if_true, Ht.out, if_false, Bool.false_eq_true]
        unfold eq1 at he
        have t2 : True := trivial
        go_wp2_with (have := t2; clear this t2; refine wpList_fop _ rfl .sub _ _ _ _ rfl rfl .f32 _ _ rfl rfl ?_; intro r2 q2 h2)
        refine (specLog_any (restOf share) r2 _ h2.out hr.out.1 hr.out.2).mono ?_
        rintro e w7 ⟨l2, rfl, hl2, p2, rfl⟩
        dsimp only
        have t3 : True := trivial
        have t4 : True := trivial
        go_wp2_with (first
          | (have := t3; clear this t3; refine wpList_fop _ rfl .quo _ _ _ _ rfl rfl .f32 _ _ rfl rfl ?_; intro r3 q3 h3)
          | (have := t4; clear this t4; refine wpList_widen _ rfl 28 52 _ rfl rfl Try.underlying52 _ rfl ?_; intro r4 q4 h4))
        refine (floor_any _ _).mono ?_
        rintro e w8 ⟨n, rfl, hn, p3, rfl⟩
        have hN : Hid (cn .f64 n = firstN s share) := by
          have e1 : cn .f32 r3 = fop .quo .f32 (logF (leftOf s)) (logF (restOf share)) := by rw [h3.out, fop_l hl1.out, fop_r hl2.out]
          have e2 : cn .f64 r4 = widen (fop .quo .f32 (logF (leftOf s)) (logF (restOf share))) := by rw [h4.out, ← e1, widen_cn]
          show _ = _
          rw [hn.out, floorF_l e2]; rfl
        clear he
        have hsame : Hid ((geZ (firstN s share) && leB (firstN s share)) = (geZ (firstN s share) && leB (firstN s share))) := rfl
        have hE2 : (FloatKind.f64.format.order n 4741671816366391296 == some Ordering.lt || FloatKind.f64.format.order n 4741671816366391296 == some Ordering.eq) = leB (firstN s share) := by rw [order_l hN.out]; rfl
        have hE1 : (FloatKind.f64.format.order n 0 == some Ordering.gt || FloatKind.f64.format.order n 0 == some Ordering.eq) = geZ (firstN s share) := by rw [order_l hN.out]; rfl
        cases hA : geZ (firstN s share) with
        | false =>
          have Hn : Hid (firstSeed ⟨k0, a0, b0⟩ share = none) := by
            show _ = _
            have h : (geZ (firstN s share) && leB (firstN s share)) = false := by rw [← hsame.out, hA]; rfl
            rw [Hr.out, h]; rfl
          rw [hA] at hE1
          clear hA hE2
          go_wp2
          (try simp only [Exit.inBlock, Exit.then])
          refine bodyPost_ret (results_s3 (s := ⟨0, 0, 0⟩) (g := w.heap.size + 1) rfl _ rfl (by exact (Hz5.out.drewN (q2 + p2 + q3 + q4 + p3)).set3 0 0 0)) rfl ?_
          exact gaveSNB_none Hn.out (below_set3 (below_drewN HB5.out (q2 + p2 + q3 + q4 + p3)) (by omega) _ _ _)
        | true =>
          cases hB : leB (firstN s share) with
          | false =>
            have Hn : Hid (firstSeed ⟨k0, a0, b0⟩ share = none) := by
              show _ = _
              rw [Hr.out, hB, Bool.and_false]; rfl
            rw [hA] at hE1
            rw [hB] at hE2
            clear hA hB
            go_wp2
            (try simp only [Exit.inBlock, Exit.then])
            refine bodyPost_ret (results_s3 (s := ⟨0, 0, 0⟩) (g := w.heap.size + 1) rfl _ rfl (by exact (Hz5.out.drewN (q2 + p2 + q3 + q4 + p3)).set3 0 0 0)) rfl ?_
            exact gaveSNB_none Hn.out (below_set3 (below_drewN HB5.out (q2 + p2 + q3 + q4 + p3)) (by omega) _ _ _)
          | true =>
            have hyes : (geZ (firstN s share) && leB (firstN s share)) = true := by rw [← hsame.out, hA, hB]; rfl
            have Hn : Hid (firstSeed ⟨k0, a0, b0⟩ share = some (⟨k1, a1, b1⟩, toZ (firstN s share))) := by
              show _ = _
              rw [Hr.out, if_pos hyes]
            have hz := first_toZ s share hr.out hyes
            obtain rfl : n = firstN s share := cn_num hN.out hz.2
            have hcv := fun w => run_convert_float_int (P := Try.prog) w 52 2 .f64 .i64 (firstN s share) (toZ (firstN s share)) rfl Try.underlying2 hz.1
            rw [hA] at hE1
            rw [hB] at hE2
            clear hA hB hyes hz
            go_wp2
            (try simp only [Exit.inBlock, Exit.then])
            refine bodyPost_ret (results_s3 (s := ⟨k1, a1, b1⟩) (g := w.heap.size + 1) rfl _ rfl (by exact (Hz5.out.drewN (q2 + p2 + q3 + q4 + p3)).set3 k1 a1 b1)) rfl ?_
            exact gaveSNB_some (s := ⟨k1, a1, b1⟩) Hn.out (below_set3 (below_drewN HB5.out (q2 + p2 + q3 + q4 + p3)) (by omega) _ _ _)
    · have Hn : Hid (firstSeed ⟨k0, a0, b0⟩ share = none) := by show _ = _; rw [Hs0.out]; simp only [firstSeed, Hv.out, hp, Bool.and_false, if_false, Bool.false_eq_true]
      by_cases hge : gt0 share = true
      · have hle : le1 share = false := by simpa [hge] using hp
        unfold gt0 at hge
        unfold le1 at hle
        clear hp
        have u0 := Hz.out.c0
        have u1 := Hz.out.c1
        have u2 := Hz.out.c2
        have v0 := Hz.out.fz 0
        have v1 := Hz.out.fz 1
        have v2 := Hz.out.fz 2
        simp only at u0 u1 u2
        go_wp2
        (try simp only [Exit.inBlock, Exit.then])
        refine bodyPost_ret (results_s3 rfl _ rfl (Hz.out.set3 0 0 0)) rfl ?_
        exact gaveSNB_none Hn.out (below_set3 HB.out (by omega) _ _ _)
      · have hge' : gt0 share = false := by simpa using hge
        unfold gt0 at hge'
        clear hp hge
        have u0 := Hz.out.c0
        have u1 := Hz.out.c1
        have u2 := Hz.out.c2
        have v0 := Hz.out.fz 0
        have v1 := Hz.out.fz 1
        have v2 := Hz.out.fz 2
        simp only at u0 u1 u2
        go_wp2
        (try simp only [Exit.inBlock, Exit.then])
        refine bodyPost_ret (results_s3 rfl _ rfl (Hz.out.set3 0 0 0)) rfl ?_
        exact gaveSNB_none Hn.out (below_set3 HB.out (by omega) _ _ _)
end Go.Proofs.Ytgbehnkccgahoaa
