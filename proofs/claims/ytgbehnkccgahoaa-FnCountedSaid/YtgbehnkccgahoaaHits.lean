/- HitsSeed: how many of n drawn shares are below a share. -/
import Derived.Test.YtgbehnkccgahoaaShare
import Derived.Test.YtgbehnkccgahoaaShapesS
import Derived.Test.YtgbehnkccgahoaaPart
namespace Go.Proofs.Ytgbehnkccgahoaa
open Go.RowKit
/-- How many of n shares are below x. -/
def hitsN (x : Nat) : Nat → Sd → Int
  | 0, _ => 0
  | n + 1, s => (if FloatKind.f32.format.order (shareOf s) x == some .lt then 1 else 0) + hitsN x n (nextSd s)
theorem hitsN_succ (x n : Nat) (s : Sd) : hitsN x (n + 1) s = hitsN x n s + (if FloatKind.f32.format.order (shareOf (nthSd n s)) x == some .lt then 1 else 0) := by
  induction n generalizing s with
  | zero => simp [hitsN, nthSd]
  | succ n ih => rw [hitsN, ih (nextSd s)]; exact (Int.add_assoc _ _ _).symm
theorem hitsN_bd (x n : Nat) (s : Sd) : 0 ≤ hitsN x n s ∧ hitsN x n s ≤ n := by
  induction n generalizing s with
  | zero => simp [hitsN]
  | succ n ih =>
    have := ih (nextSd s)
    unfold hitsN
    split <;> omega
def hitsSeed (s : Sd) (n : Int) (x : Nat) : Option (Sd × Int) :=
  if validB s && inB n 0 256 && partB x then some (nthSd n.toNat s, hitsN x n.toNat s) else none
theorem specHits_any : FnSNF_SNB 15 hitsSeed := by
  intro k0 a0 b0 n x w hs hn hx
  have hz0 : ((w.alloc (.cells #[.int .i64 k0, .int .u64 a0, .int .u64 b0] 26)).alloc (.cells #[.int .i64 0, .int .u64 0, .int .u64 0] 26)).heap.size = w.heap.size + 2 := by rw [size_alloc', size_alloc']
  have hg : SeedAt ((w.alloc (.cells #[.int .i64 k0, .int .u64 a0, .int .u64 b0] 26)).alloc (.cells #[.int .i64 0, .int .u64 0, .int .u64 0] 26)) w.heap.size ⟨k0, a0, b0⟩ := (SeedAt.new w k0 a0 b0).alloc _
  have hz : SeedAt ((w.alloc (.cells #[.int .i64 k0, .int .u64 a0, .int .u64 b0] 26)).alloc (.cells #[.int .i64 0, .int .u64 0, .int .u64 0] 26)) (w.heap.size + 1) ⟨0, 0, 0⟩ := SeedAt.new1 w _ 0 0 0
  have hB : Below w.heap.size w ((w.alloc (.cells #[.int .i64 k0, .int .u64 a0, .int .u64 b0] 26)).alloc (.cells #[.int .i64 0, .int .u64 0, .int .u64 0] 26)) := ((Below.refl _ _).alloc (Nat.le_refl _) _).alloc (by rw [size_alloc']; omega) _
  go_enter Try.func15, Try.ntmps15
  go_wp2_with fail
  refine (specIs_any ⟨k0, a0, b0⟩ _ _ hs hg).mono ?_
  rintro e w1 ⟨rfl, rfl⟩
  generalize (w.alloc (.cells #[.int .i64 k0, .int .u64 a0, .int .u64 b0] 26)).alloc (.cells #[.int .i64 0, .int .u64 0, .int .u64 0] 26) = w1 at hz0 hg hz hB ⊢
  obtain ⟨s, hsd⟩ : ∃ s : Sd, s = ⟨k0, a0, b0⟩ := ⟨_, rfl⟩
  rw [← hsd] at hs hg ⊢
  have HB := Lib.hid hB; have Hsd := Lib.hid hsd; have Hz := Lib.hid hz; have Hg := Lib.hid hg; have Hk : Hid s.ok := hs
  clear hB hsd hz hg hs
  by_cases hv : (validB s && inB n 0 256 && partB x) = true
  · have hr : hitsSeed ⟨k0, a0, b0⟩ n x = some (nthSd n.toNat s, hitsN x n.toNat s) := by rw [← Hsd.out]; simp only [hitsSeed, hv, if_true]
    have Hr := Lib.hid hr; clear hr
    simp only [Bool.and_eq_true] at hv
    obtain ⟨⟨hv1, hv2⟩, hv3⟩ := hv
    have hnb := inB_true hv2
    rw [hv1]
    go_wp2_with fail
    refine (l00In_any _ _ _ _).mono ?_
    rintro e w2 ⟨rfl, rfl⟩
    rw [hv2]
    go_wp2_with fail
    refine (specPart_any _ _).mono ?_
    rintro e w2 ⟨rfl, rfl⟩
    rw [hv3]
    clear hv1 hv2 hv3
    go_wp2
    go_loopw [1, 9] (fun c h wr => ∃ (m : Nat), (m : Int) ≤ n ∧ c = .int .i64 (n - m) ∧ h = .int .i64 (hitsN x m s) ∧ SeedAt wr w.heap.size (nthSd m s) ∧ SeedAt wr (w.heap.size + 1) Sd.zero ∧ Below w.heap.size w wr) (fun c _ _ => (intOf c).toNat)
    case atStart => exact ⟨0, by omega, by simp, rfl, Hg.out, Hz.out, HB.out⟩
    case round =>
      obtain ⟨m, hm, rfl, rfl, hg', hz', hbel⟩ := hrel
      have HB' := Lib.hid hbel; clear hbel
      have Hz' := Lib.hid hz'; clear hz'
      by_cases hlt : (m : Int) < n
      · have hbd := hitsN_bd x m s
        have hsu := hitsN_succ x m s
        have Hsu := Lib.hid hsu; clear hsu
        obtain ⟨hh, hhd⟩ : ∃ hh, hh = hitsN x m s := ⟨_, rfl⟩
        rw [← hhd] at hbd Hsu ⊢
        clear hhd
        have hok := nthSd_ok Hk.out m
        have hc : 0 < n - (m : Int) := by omega
        go_wp2_with fail
        refine (specShare_any (nthSd m s) _ _ hok hg').mono ?_
        rintro e w2 ⟨u, rfl, hu, hg2, hgr2⟩
        have Hg2 := Lib.hid hg2
        have Hz2 := Lib.hid (Hz'.out.grown hgr2 (by simp))
        have HB2 := Lib.hid (HB'.out.grown hgr2 HB'.out.size (fun _ h => by cases h; exact Nat.le_refl _))
        clear hg2 hgr2 hg' hok
        have ho := order_l hu.out x
        by_cases hl : FloatKind.f32.format.order (shareOf (nthSd m s)) x = some .lt
        · rw [hl] at ho
          go_wp2
          go_round
          case rel => exact ⟨m + 1, by omega, by go_num, by rw [Hsu.out, hl]; rfl, by rw [nthSd_succ]; exact Hg2.out, Hz2.out, HB2.out⟩
          case measure => simp only [intOf]; omega
        · have ho' : (FloatKind.f32.format.order u x == some Ordering.lt) = false := by rw [ho]; simpa using hl
          clear ho
          go_wp2
          go_round
          case rel => exact ⟨m + 1, by omega, by go_num, by rw [Hsu.out, if_neg (by simpa using hl), Int.add_zero], by rw [nthSd_succ]; exact Hg2.out, Hz2.out, HB2.out⟩
          case measure => simp only [intOf]; omega
      · have e1 : n.toNat = m := by omega
        have c0 := hg'.c0
        have c1 := hg'.c1
        have c2 := hg'.c2
        have u0 := Hz'.out.c0
        have u1 := Hz'.out.c1
        have u2 := Hz'.out.c2
        have v0 := Hz'.out.fz 0
        have v1 := Hz'.out.fz 1
        have v2 := Hz'.out.fz 2
        go_wp2
        (try simp only [Exit.inBlock, Exit.then])
        refine bodyPost_ret (results_s3 rfl _ rfl (Hz'.out.set3 _ _ _)) rfl ?_
        exact gaveSNB_some (by rw [Hr.out, e1]) (below_set3 HB'.out (by omega) _ _ _)
  · have hv' : (validB s && inB n 0 256 && partB x) = false := by simpa using hv
    have Hr : Hid (hitsSeed ⟨k0, a0, b0⟩ n x = none) := by rw [← Hsd.out]; show _ = _; simp only [hitsSeed, hv']; rfl
    have u0 := Hz.out.c0
    have u1 := Hz.out.c1
    have u2 := Hz.out.c2
    have v0 := Hz.out.fz 0
    have v1 := Hz.out.fz 1
    have v2 := Hz.out.fz 2
    clear hv
    cases hv1 : validB s with
    | false =>
      go_wp2
      (try simp only [Exit.inBlock, Exit.then])
      refine bodyPost_ret (results_s3 rfl _ rfl (Hz.out.set3 0 0 0)) rfl ?_
      exact gaveSNB_none Hr.out (below_set3 HB.out (by omega) _ _ _)
    | true =>
      rw [hv1] at hv'
      go_wp2_with fail
      refine (l00In_any _ _ _ _).mono ?_
      rintro e w2 ⟨rfl, rfl⟩
      cases hv2 : inB n 0 256 with
      | false =>
        go_wp2
        (try simp only [Exit.inBlock, Exit.then])
        refine bodyPost_ret (results_s3 rfl _ rfl (Hz.out.set3 0 0 0)) rfl ?_
        exact gaveSNB_none Hr.out (below_set3 HB.out (by omega) _ _ _)
      | true =>
        rw [hv2] at hv'
        go_wp2_with fail
        refine (specPart_any _ _).mono ?_
        rintro e w2 ⟨rfl, rfl⟩
        have hv3 : partB x = false := by simpa using hv'
        rw [hv3]
        go_wp2
        (try simp only [Exit.inBlock, Exit.then])
        refine bodyPost_ret (results_s3 rfl _ rfl (Hz.out.set3 0 0 0)) rfl ?_
        exact gaveSNB_none Hr.out (below_set3 HB.out (by omega) _ _ _)
theorem implHits_any : FnSNF_SNB 14 hitsSeed := by
  intro k0 a0 b0 n x w hs hn hx
  have hz0 : ((w.alloc (.cells #[.int .i64 k0, .int .u64 a0, .int .u64 b0] 26)).alloc (.cells #[.int .i64 0, .int .u64 0, .int .u64 0] 26)).heap.size = w.heap.size + 2 := by rw [size_alloc', size_alloc']
  go_enter Try.func14, Try.ntmps14
  go_wp2_with fail
  refine (implValid_any ⟨k0, a0, b0⟩ _ hs).mono ?_
  rintro e w1 ⟨rfl, hb1⟩
  rw [hz0] at hb1
  have hB : Below w.heap.size w w1 := (((Below.refl _ _).alloc (Nat.le_refl _) _).alloc (by rw [size_alloc']; omega) _).trans (hb1.mono (by omega))
  have hg : SeedAt w1 w.heap.size ⟨k0, a0, b0⟩ := ((SeedAt.new w k0 a0 b0).alloc _).below hb1 (by omega)
  have hz : SeedAt w1 (w.heap.size + 1) ⟨0, 0, 0⟩ := (SeedAt.new1 w _ 0 0 0).below hb1 (by omega)
  clear hz0 hb1
  obtain ⟨s, hsd⟩ : ∃ s : Sd, s = ⟨k0, a0, b0⟩ := ⟨_, rfl⟩
  rw [← hsd] at hs hg ⊢
  have HB := Lib.hid hB; have Hsd := Lib.hid hsd; have Hz := Lib.hid hz; have Hg := Lib.hid hg; have Hk : Hid s.ok := hs
  clear hB hsd hz hg hs
  by_cases hv : (validB s && inB n 0 256 && partB x) = true
  · have hr : hitsSeed ⟨k0, a0, b0⟩ n x = some (nthSd n.toNat s, hitsN x n.toNat s) := by rw [← Hsd.out]; simp only [hitsSeed, hv, if_true]
    have Hr := Lib.hid hr; clear hr
    simp only [Bool.and_eq_true] at hv
    obtain ⟨⟨hv1, hv2⟩, hv3⟩ := hv
    have hnb := inB_true hv2
    rw [hv1]
    go_wp2_with fail
    refine (within_any _ _ _ _).mono ?_
    rintro e w2 ⟨rfl, rfl⟩
    rw [hv2]
    unfold partB at hv3
    simp only [Bool.and_eq_true] at hv3
    obtain ⟨hv4, hv5⟩ := hv3
    unfold ge0 at hv4
    unfold le1 at hv5
    clear hv1 hv2
    go_wp2
    clear hv4 hv5
    go_loopw [9, 30] (fun h c wr => ∃ (m : Nat), (m : Int) ≤ n ∧ c = .int .i64 m ∧ h = .int .i64 (hitsN x m s) ∧ SeedAt wr w.heap.size (nthSd m s) ∧ SeedAt wr (w.heap.size + 1) Sd.zero ∧ Below w.heap.size w wr) (fun _ c _ => (n - intOf c).toNat)
    case atStart => exact ⟨0, by omega, rfl, rfl, Hg.out, Hz.out, HB.out⟩
    case round =>
      obtain ⟨m, hm, rfl, rfl, hg', hz', hbel⟩ := hrel
      have HB' := Lib.hid hbel; clear hbel
      have Hz' := Lib.hid hz'; clear hz'
      by_cases hlt : (m : Int) < n
      · have hbd := hitsN_bd x m s
        have hsu := hitsN_succ x m s
        have Hsu := Lib.hid hsu; clear hsu
        obtain ⟨hh, hhd⟩ : ∃ hh, hh = hitsN x m s := ⟨_, rfl⟩
        rw [← hhd] at hbd Hsu ⊢
        clear hhd
        have Hok := Lib.hid (nthSd_ok Hk.out m)
        have c0 := hg'.c0
        have c1 := hg'.c1
        have c2 := hg'.c2
        go_wp2_with fail
        refine (implShare_any (nthSd m s) _ Hok.out).mono ?_
        rintro e w2 ⟨u, rfl, hu, hb2⟩
        have hg2 := hg'.below hb2 hg'.lt
        have Hz2 := Lib.hid (Hz'.out.below hb2 Hz'.out.lt)
        have HB2 := Lib.hid (HB'.out.trans (hb2.mono HB'.out.size))
        clear hb2 hg' c0 c1 c2
        obtain ⟨t, ht⟩ : ∃ t, t = nextSd (nthSd m s) := ⟨_, rfl⟩
        rw [← ht]
        have Ht := Lib.hid ht
        clear ht
        obtain ⟨k1, a1, b1⟩ := t
        unfold Sd.val
        have f0 := hg2.fz 0
        have f1 := hg2.fz 1
        have f2 := hg2.fz 2
        have x0 := hg2.c0
        have x1 := hg2.c1
        have x2 := hg2.c2
        have Hg3 := Lib.hid (hg2.set3 k1 a1 b1)
        have Hz3 := Lib.hid (Hz2.out.far3 (g' := w.heap.size) (by omega) k1 a1 b1)
        have HB3 := Lib.hid (below_set3 HB2.out (Nat.le_refl _) k1 a1 b1)
        have ho := order_l hu.out x
        by_cases hl : FloatKind.f32.format.order (shareOf (nthSd m s)) x = some .lt
        · rw [hl] at ho
          go_wp2
          go_round
          case rel => exact ⟨m + 1, by omega, by go_num, by rw [Hsu.out, hl]; rfl, by rw [nthSd_succ, ← Ht.out]; exact Hg3.out, Hz3.out, HB3.out⟩
          case measure => simp only [intOf]; omega
        · have ho' : (FloatKind.f32.format.order u x == some Ordering.lt) = false := by rw [ho]; simpa using hl
          clear ho
          go_wp2
          go_round
          case rel => exact ⟨m + 1, by omega, by go_num, by rw [Hsu.out, if_neg (by simpa using hl), Int.add_zero], by rw [nthSd_succ, ← Ht.out]; exact Hg3.out, Hz3.out, HB3.out⟩
          case measure => simp only [intOf]; omega
      · have e1 : n.toNat = m := by omega
        have c0 := hg'.c0
        have c1 := hg'.c1
        have c2 := hg'.c2
        have u0 := Hz'.out.c0
        have u1 := Hz'.out.c1
        have u2 := Hz'.out.c2
        have v0 := Hz'.out.fz 0
        have v1 := Hz'.out.fz 1
        have v2 := Hz'.out.fz 2
        go_wp2
        (try simp only [Exit.inBlock, Exit.then])
        refine bodyPost_ret (results_s3 rfl _ rfl (Hz'.out.set3 _ _ _)) rfl ?_
        exact gaveSNB_some (by rw [Hr.out, e1]) (below_set3 HB'.out (by omega) _ _ _)
  · have hv' : (validB s && inB n 0 256 && partB x) = false := by simpa using hv
    have Hr : Hid (hitsSeed ⟨k0, a0, b0⟩ n x = none) := by rw [← Hsd.out]; show _ = _; simp only [hitsSeed, hv']; rfl
    have u0 := Hz.out.c0
    have u1 := Hz.out.c1
    have u2 := Hz.out.c2
    have v0 := Hz.out.fz 0
    have v1 := Hz.out.fz 1
    have v2 := Hz.out.fz 2
    clear hv
    cases hv1 : validB s with
    | false =>
      go_wp2
      (try simp only [Exit.inBlock, Exit.then])
      refine bodyPost_ret (results_s3 rfl _ rfl (Hz.out.set3 0 0 0)) rfl ?_
      exact gaveSNB_none Hr.out (below_set3 HB.out (by omega) _ _ _)
    | true =>
      rw [hv1] at hv'
      go_wp2_with fail
      refine (within_any _ _ _ _).mono ?_
      rintro e w2 ⟨rfl, rfl⟩
      cases hv2 : inB n 0 256 with
      | false =>
        go_wp2
        (try simp only [Exit.inBlock, Exit.then])
        refine bodyPost_ret (results_s3 rfl _ rfl (Hz.out.set3 0 0 0)) rfl ?_
        exact gaveSNB_none Hr.out (below_set3 HB.out (by omega) _ _ _)
      | true =>
        rw [hv2] at hv'
        have hv3 : partB x = false := by simpa using hv'
        by_cases hge : ge0 x = true
        · have hle : le1 x = false := by simpa [partB, hge] using hv3
          unfold ge0 at hge
          unfold le1 at hle
          go_wp2
          (try simp only [Exit.inBlock, Exit.then])
          refine bodyPost_ret (results_s3 rfl _ rfl (Hz.out.set3 0 0 0)) rfl ?_
          exact gaveSNB_none Hr.out (below_set3 HB.out (by omega) _ _ _)
        · have hge' : ge0 x = false := by simpa using hge
          unfold ge0 at hge'
          clear hge
          go_wp2
          (try simp only [Exit.inBlock, Exit.then])
          refine bodyPost_ret (results_s3 rfl _ rfl (Hz.out.set3 0 0 0)) rfl ?_
          exact gaveSNB_none Hr.out (below_set3 HB.out (by omega) _ _ _)
end Go.Proofs.Ytgbehnkccgahoaa
