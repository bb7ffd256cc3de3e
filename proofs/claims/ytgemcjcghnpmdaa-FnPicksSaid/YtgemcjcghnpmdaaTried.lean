/- Draws below a bound: the pure law and both contracts. -/
import Derived.Test.YtgemcjcghnpmdaaSeed
namespace Go.Proofs.Ytgemcjcghnpmdaa
open Go.RowKit

/-- The cells of a seed's block, written anew. -/
def setSeed (w : World) (g : Nat) (k a b : Int) : World := ((w.setCell ⟨g, 0, none⟩ (.int .i64 k)).setCell ⟨g, 1, none⟩ (.int .u64 a)).setCell ⟨g, 2, none⟩ (.int .u64 b)
theorem SeedAt.set3 {w : World} {g : Nat} {s : Sd} (h : SeedAt w g s) (k a b : Int) : SeedAt (((w.setCell ⟨g, 0, none⟩ (.int .i64 k)).setCell ⟨g, 1, none⟩ (.int .u64 a)).setCell ⟨g, 2, none⟩ (.int .u64 b)) g ⟨k, a, b⟩ :=
  ((h.set_k k).set_a a).set_b b
theorem below_set3 {B : Nat} {w0 w : World} {g : Nat} (h : Below B w0 w) (hg : B ≤ g) (k a b : Int) : Below B w0 (((w.setCell ⟨g, 0, none⟩ (.int .i64 k)).setCell ⟨g, 1, none⟩ (.int .u64 a)).setCell ⟨g, 2, none⟩ (.int .u64 b)) :=
  ((h.setCell hg _).setCell hg _).setCell hg _
theorem SeedAt.far3 {w : World} {g g' : Nat} {s : Sd} (h : SeedAt w g s) (hne : g ≠ g') (k a b : Int) : SeedAt (((w.setCell ⟨g', 0, none⟩ (.int .i64 k)).setCell ⟨g', 1, none⟩ (.int .u64 a)).setCell ⟨g', 2, none⟩ (.int .u64 b)) g s :=
  ((h.far hne _).far hne _).far hne _
theorem grown_set3 (w : World) (g : Nat) (k a b : Int) : w.grownBy (((w.setCell ⟨g, 0, none⟩ (.int .i64 k)).setCell ⟨g, 1, none⟩ (.int .u64 a)).setCell ⟨g, 2, none⟩ (.int .u64 b)) (some g) :=
  grown_trans (grown_trans (grown_set _ _ _ _) (grown_set _ _ _ _)) (grown_set _ _ _ _)

/-- What is handed back by a function that gives a seed, a number and whether there is one. -/
def GaveSNB (w : World) (r : Option (Sd × Int)) (e : Ending) (w' : World) : Prop :=
  ∃ (k a b x : Int) (ok : Bool), e = .returned (.tuple #[.agg #[.int .i64 k, .int .u64 a, .int .u64 b], .int .i64 x, .bool ok]) ∧ Hid (ok = r.isSome) ∧ Hid ((⟨k, a, b⟩ : Sd) = ((r.map Prod.fst).getD Sd.zero)) ∧ Hid (x = ((r.map Prod.snd).getD 0)) ∧ Below w.heap.size w w'

/-- A number below n out of the words of a seed, and the seed behind it; so many tries. -/
def tried (n : Int) : Nat → Sd → Option (Sd × Int)
  | 0, _ => none
  | k + 1, s => if wordOf s < 4294967296 / n * n then some (nextSd s, wordOf s % n) else tried n k (nextSd s)
def belowS (s : Sd) (n : Int) : Option (Sd × Int) := if validB s && inB n 1 4294967296 then tried n 64 s else none
theorem tried_ok {n : Int} {k : Nat} {s s' : Sd} {x : Int} (hs : s.ok) (h : tried n k s = some (s', x)) : s'.ok := by
  induction k generalizing s with
  | zero => cases h
  | succ k ih =>
    unfold tried at h
    split at h
    · simp only [Option.some.injEq, Prod.mk.injEq] at h
      exact h.1 ▸ nextSd_ok hs
    · exact ih (nextSd_ok hs) h
theorem tried_lt {n : Int} {k : Nat} {s s' : Sd} {x : Int} (hn : 0 < n) (h : tried n k s = some (s', x)) : 0 ≤ x ∧ x < n := by
  induction k generalizing s with
  | zero => cases h
  | succ k ih =>
    unfold tried at h
    split at h
    · simp only [Option.some.injEq, Prod.mk.injEq] at h
      have := wordOf_ok s
      have h2 := h.2
      exact ⟨h2 ▸ Int.emod_nonneg _ (by omega), h2 ▸ Int.emod_lt_of_pos _ hn⟩
    · exact ih h
theorem most_bd {n : Int} (h : 1 ≤ n) (h2 : n ≤ 4294967296) : 0 ≤ 4294967296 / n * n ∧ 4294967296 / n * n ≤ 4294967296 := by
  have h0 : 0 ≤ 4294967296 / n := Int.ediv_nonneg (by omega) (by omega)
  exact ⟨Int.mul_nonneg h0 (by omega), Int.ediv_mul_le _ (by omega)⟩

/-- A draw: a number below n (a bound of at most 2^32), or none after 64 words that are too great; the seed's block moves. -/
theorem specTried_any (s : Sd) (g : Nat) (n : Int) (w : World) (hs : s.ok) (hn : 1 ≤ n ∧ n ≤ 4294967296) (hg : SeedAt w g s) :
    Calls Try.prog 54 #[.pointer (some ⟨g, 0, none⟩), .int .i64 n] w fun e w' => ∃ (x : Int) (ok : Bool), e = .returned (.tuple #[.int .i64 x, .bool ok]) ∧ Hid (ok = (tried n 64 s).isSome) ∧ Hid (x = (((tried n 64 s).map Prod.snd).getD 0)) ∧ (∃ s' : Sd, SeedAt w' g s' ∧ s'.ok ∧ (ok = true → s' = (((tried n 64 s).map Prod.fst).getD Sd.zero))) ∧ w.grownBy w' (some g) := by
  obtain ⟨hn1, hn2⟩ := hn
  have hm := most_bd hn1 hn2
  obtain ⟨m, hmd⟩ : ∃ m, m = 4294967296 / n * n := ⟨_, rfl⟩
  rw [← hmd] at hm
  have hz : ¬ n = 0 := by omega
  have hq : (0 : Int) ≤ 4294967296 / n ∧ 4294967296 / n ≤ 4294967296 := ⟨Int.ediv_nonneg (by omega) (by omega), Int.ediv_le_self _ (by omega)⟩
  go_enter Try.func54, Try.ntmps54
  go_wp2
  rw [← hmd]
  have Hm := Lib.hid hmd; clear hmd hq
  go_loopw [7] (fun i wr => ∃ (k : Nat) (s' : Sd), k ≤ 64 ∧ i = .int .i64 k ∧ Hid (tried n 64 s = tried n (64 - k) s') ∧ s'.ok ∧ SeedAt wr g s' ∧ w.grownBy wr (some g)) (fun i _ => 64 - (intOf i).toNat)
  case atStart => exact ⟨0, s, by omega, rfl, rfl, hs, hg, grown_rfl' _ _⟩
  case round =>
    obtain ⟨k, s', hk, rfl, htr, hs', hg', hgr⟩ := hrel
    by_cases hlt : k < 64
    · have hwo := wordOf_ok s'
      have hstep : tried n (64 - k) s' = if wordOf s' < m then some (nextSd s', wordOf s' % n) else tried n (64 - (k + 1)) (nextSd s') := by
        rw [Hm.out]
        have : 64 - k = (64 - (k + 1)) + 1 := by omega
        rw [this]
        rfl
      have Hs := Lib.hid hstep; clear hstep
      have Hk : Hid (s'.ok) := hs'
      have Hgr := Lib.hid hgr
      clear hs' hgr
      go_wp2_with fail
      refine (specNext_any s' g _ Hk.out hg').mono ?_
      rintro e w2 ⟨rfl, hg2, hgr2⟩
      have Hg2 := Lib.hid hg2
      have Hgr2 := Lib.hid (grown_trans Hgr.out hgr2)
      clear hg2 hgr2
      by_cases hw : wordOf s' < m
      · have hr0 : (0 : Int) ≤ wordOf s' % n := Int.emod_nonneg _ (by omega)
        have hr1 : wordOf s' % n < n := Int.emod_lt_of_pos _ (by omega)
        go_wp2
        go_ret2
        have e1 : tried n 64 s = some (nextSd s', wordOf s' % n) := by rw [htr.out, Hs.out, if_pos hw]
        rw [e1]
        exact ⟨_, true, rfl, rfl, rfl, ⟨nextSd s', Hg2.out, nextSd_ok Hk.out, fun _ => rfl⟩, Hgr2.out⟩
      · go_wp2
        go_round
        case rel => exact ⟨k + 1, nextSd s', by omega, by go_num, by rw [htr.out, Hs.out, if_neg (by omega)]; rfl, nextSd_ok Hk.out, Hg2.out, Hgr2.out⟩
        case measure => simp only [intOf]; omega
    · obtain rfl : k = 64 := by omega
      go_wp2
      go_ret2
      have e1 : tried n 64 s = none := htr.out
      rw [e1]
      exact ⟨_, false, rfl, rfl, rfl, ⟨s', hg', hs', fun h => by cases h⟩, hgr⟩
theorem implBelow_any (s : Sd) (n : Int) (w : World) (hs : s.ok) (hn : -9223372036854775808 ≤ n ∧ n ≤ 9223372036854775807) :
    Calls Try.prog 45 #[s.val, .int .i64 n] w (GaveSNB w (belowS s n)) := by
  obtain ⟨k0, a0, b0⟩ := s
  unfold Sd.val
  have hz0 : ((w.alloc (.cells #[.int .i64 k0, .int .u64 a0, .int .u64 b0] 26)).alloc (.cells #[.int .i64 0, .int .u64 0, .int .u64 0] 26)).heap.size = w.heap.size + 2 := by rw [size_alloc', size_alloc']
  go_enter Try.func45, Try.ntmps45
  go_wp2_with fail
  refine (implValid_any ⟨k0, a0, b0⟩ _ hs).mono ?_
  rintro e w1 ⟨rfl, hb1⟩
  rw [hz0] at hb1
  have hB : Below w.heap.size w w1 := (((Below.refl _ _).alloc (Nat.le_refl _) _).alloc (by rw [size_alloc']; omega) _).trans (hb1.mono (by omega))
  have hg : SeedAt w1 w.heap.size ⟨k0, a0, b0⟩ := ((SeedAt.new w k0 a0 b0).alloc _).below hb1 (by omega)
  have hz : SeedAt w1 (w.heap.size + 1) ⟨0, 0, 0⟩ := (SeedAt.new1 w _ 0 0 0).below hb1 (by omega)
  clear hz0 hb1
  obtain ⟨s, hsd⟩ : ∃ s : Sd, s = ⟨k0, a0, b0⟩ := ⟨_, rfl⟩
  rw [← hsd] at hs hg ⊢
  have HB := Lib.hid hB; have Hsd := Lib.hid hsd; clear hB hsd
  have z0 := hz.fz 0
  have z1 := hz.fz 1
  have z2 := hz.fz 2
  have y0 := hz.c0
  have y1 := hz.c1
  have y2 := hz.c2
  by_cases hv : validB s = true
  · rw [hv]
    by_cases hi : inB n 1 4294967296 = true
    · have Hr : Hid (belowS ⟨k0, a0, b0⟩ n = tried n 64 s) := by rw [← Hsd.out]; show _ = _; simp [belowS, hv, hi]
      have hn' := inB_true hi
      obtain ⟨hn1, hn2⟩ := hn'
      have hm := most_bd hn1 hn2
      obtain ⟨m, hmd⟩ : ∃ m, m = 4294967296 / n * n := ⟨_, rfl⟩
      rw [← hmd] at hm
      have hzn : ¬ n = 0 := by omega
      have hq : (0 : Int) ≤ 4294967296 / n ∧ 4294967296 / n ≤ 4294967296 := ⟨Int.ediv_nonneg (by omega) (by omega), Int.ediv_le_self _ (by omega)⟩
      have Hm := Lib.hid hmd
      clear hn
      go_wp2_with fail
      refine (within_any _ _ _ _).mono ?_
      rintro e w2 ⟨rfl, rfl⟩
      rw [hi]
      go_wp2
      clear z0 z1 z2 y0 y1 y2
      go_loopw [18] (fun i wr => ∃ (k : Nat) (s' : Sd), k ≤ 64 ∧ i = .int .i64 k ∧ Hid (tried n 64 s = tried n (64 - k) s') ∧ s'.ok ∧ SeedAt wr w.heap.size s' ∧ SeedAt wr (w.heap.size + 1) Sd.zero ∧ Below w.heap.size w wr) (fun i _ => 64 - (intOf i).toNat)
      case atStart => exact ⟨0, s, by omega, rfl, rfl, hs, hg, hz, HB.out⟩
      case round =>
        obtain ⟨k, s', hk, rfl, htr, hs', hg', hz', hbel⟩ := hrel
        have HB' := Lib.hid hbel; clear hbel
        by_cases hlt : k < 64
        · have hwo := wordOf_ok s'
          have hstep : tried n (64 - k) s' = if wordOf s' < m then some (nextSd s', wordOf s' % n) else tried n (64 - (k + 1)) (nextSd s') := by
            rw [Hm.out]
            have : 64 - k = (64 - (k + 1)) + 1 := by omega
            rw [this]
            rfl
          have Hs := Lib.hid hstep; clear hstep
          have Hk : Hid (s'.ok) := hs'
          have c0 := hg'.c0
          have c1 := hg'.c1
          have c2 := hg'.c2
          clear hs'
          go_wp2_with fail
          refine (implNext_any s' _ Hk.out).mono ?_
          rintro e w2 ⟨rfl, hb2⟩
          have hg2 := hg'.below hb2 hg'.lt
          have hz2 := hz'.below hb2 hz'.lt
          have HB2 := Lib.hid (HB'.out.trans (hb2.mono HB'.out.size))
          have hle2 : w.heap.size ≤ w2.heap.size := HB2.out.size
          have htok := nextSd_ok Hk.out
          have hnx : Hid (nextSd s' = nextSd s') := rfl
          obtain ⟨t, ht⟩ : ∃ t, t = nextSd s' := ⟨_, rfl⟩
          rw [← ht] at Hs htok ⊢
          have Ht := Lib.hid ht
          clear hb2 c0 c1 c2 hnx ht
          obtain ⟨k1, a1, b1⟩ := t
          unfold Sd.val
          have hg3 := hg2.alloc (.cells #[.int .i64 k1, .int .u64 a1, .int .u64 b1] 26)
          have hz3 := hz2.alloc (.cells #[.int .i64 k1, .int .u64 a1, .int .u64 b1] 26)
          have f0 := hg3.fz 0
          have f1 := hg3.fz 1
          have f2 := hg3.fz 2
          have x0 := hg3.c0
          have x1 := hg3.c1
          have x2 := hg3.c2
          have Hg4 := Lib.hid (hg3.set3 k1 a1 b1)
          have Hz4 := Lib.hid (hz3.far3 (g' := w.heap.size) (by omega) k1 a1 b1)
          have HB4 := Lib.hid (below_set3 (HB2.out.alloc hle2 (.cells #[.int .i64 k1, .int .u64 a1, .int .u64 b1] 26)) (Nat.le_refl _) k1 a1 b1)
          clear hg2 hz2
          by_cases hw : wordOf s' < m
          · have hr0 : (0 : Int) ≤ wordOf s' % n := Int.emod_nonneg _ (by omega)
            have hr1 : wordOf s' % n < n := Int.emod_lt_of_pos _ (by omega)
            rw [hmd] at hw
            go_wp2_with fail
            generalize (((w2.alloc (.cells #[.int .i64 k1, .int .u64 a1, .int .u64 b1] 26)).setCell ⟨w.heap.size, 0, none⟩ (.int .i64 k1)).setCell ⟨w.heap.size, 1, none⟩ (.int .u64 a1)).setCell ⟨w.heap.size, 2, none⟩ (.int .u64 b1) = w4 at Hg4 Hz4 HB4 ⊢
            clear hg3 hz3 f0 f1 f2 x0 x1 x2
            have x0 := Hg4.out.c0
            have x1 := Hg4.out.c1
            have x2 := Hg4.out.c2
            have u0 := Hz4.out.c0
            have u1 := Hz4.out.c1
            have u2 := Hz4.out.c2
            have v0 := Hz4.out.fz 0
            have v1 := Hz4.out.fz 1
            have v2 := Hz4.out.fz 2
            go_region
            go_wp2
            have hz5 := Hz4.out.set3 k1 a1 b1
            have hb5 := below_set3 HB4.out (g := w.heap.size + 1) (by omega) k1 a1 b1
            (try simp only [Exit.inBlock, Exit.then])
            refine bodyPost_ret (results_s3 rfl _ rfl (hz5.drew)) rfl ?_
            have e1 : tried n 64 s = some (⟨k1, a1, b1⟩, wordOf s' % n) := by rw [htr.out, Hs.out, Hm.out, if_pos hw]
            rw [Hr.out, e1]
            exact ⟨k1, a1, b1, _, true, rfl, rfl, rfl, rfl, hb5.drew⟩
          · rw [hmd] at hw
            go_wp2
            go_round
            case rel => exact ⟨k + 1, _, by omega, by go_num, by rw [htr.out, Hs.out, Hm.out, if_neg (by omega)]; rfl, htok, Hg4.out, Hz4.out, HB4.out⟩
            case measure => simp only [intOf]; omega
        · obtain rfl : k = 64 := by omega
          have e1 : tried n 64 s = none := htr.out
          have u0 := hz'.c0
          have u1 := hz'.c1
          have u2 := hz'.c2
          have v0 := hz'.fz 0
          have v1 := hz'.fz 1
          have v2 := hz'.fz 2
          go_wp2
          (try simp only [Exit.inBlock, Exit.then])
          refine bodyPost_ret (results_s3 rfl _ rfl (hz'.set3 0 0 0)) rfl ?_
          rw [Hr.out, e1]
          exact ⟨0, 0, 0, 0, false, rfl, rfl, rfl, rfl, below_set3 HB'.out (by omega) _ _ _⟩
    · have hi' : inB n 1 4294967296 = false := by simpa using hi
      have Hr : Hid (belowS ⟨k0, a0, b0⟩ n = none) := by rw [← Hsd.out]; show _ = _; simp [belowS, hi']
      go_wp2_with fail
      refine (within_any _ _ _ _).mono ?_
      rintro e w2 ⟨rfl, rfl⟩
      rw [hi']
      go_wp2
      (try simp only [Exit.inBlock, Exit.then])
      refine bodyPost_ret (results_s3 rfl _ rfl (hz.set3 0 0 0)) rfl ?_
      rw [Hr.out]
      exact ⟨0, 0, 0, 0, false, rfl, rfl, rfl, rfl, below_set3 HB.out (by omega) _ _ _⟩
  · have hv' : validB s = false := by simpa using hv
    have Hr : Hid (belowS ⟨k0, a0, b0⟩ n = none) := by rw [← Hsd.out]; show _ = _; simp [belowS, hv']
    rw [hv']
    go_wp2
    (try simp only [Exit.inBlock, Exit.then])
    refine bodyPost_ret (results_s3 rfl _ rfl (hz.set3 0 0 0)) rfl ?_
    rw [Hr.out]
    exact ⟨0, 0, 0, 0, false, rfl, rfl, rfl, rfl, below_set3 HB.out (by omega) _ _ _⟩
end Go.Proofs.Ytgemcjcghnpmdaa
