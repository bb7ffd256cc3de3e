/- SkipSeed. -/
import Derived.Test.YtbfofbpjdmgogaaWordsOf
namespace Go.Proofs.Ytbfofbpjdmgogaa
open Go.RowKit
theorem wmulL (a b : Int) : IntKind.u64.wrap (IntKind.u64.wrap a * b) = IntKind.u64.wrap (a * b) := by
  simp only [IntKind.wrap_u64]
  rw [Int.mul_emod, Int.emod_emod, ← Int.mul_emod]
theorem wmulR (a b : Int) : IntKind.u64.wrap (a * IntKind.u64.wrap b) = IntKind.u64.wrap (a * b) := by
  rw [Int.mul_comm, wmulL, Int.mul_comm]
theorem waddL (a b : Int) : IntKind.u64.wrap (IntKind.u64.wrap a + b) = IntKind.u64.wrap (a + b) := by
  simp only [IntKind.wrap_u64, Int.emod_add_emod]
theorem waddR (a b : Int) : IntKind.u64.wrap (a + IntKind.u64.wrap b) = IntKind.u64.wrap (a + b) := by
  simp only [IntKind.wrap_u64, Int.add_emod_emod]
/-- Where a line is after n steps: its rule made with itself again and again. -/
def skipLine (n : Nat) (mul add a : Int) : Int :=
  if _h : n = 0 then a
  else skipLine (n / 2) (IntKind.u64.wrap (mul * mul)) (IntKind.u64.wrap (IntKind.u64.wrap (mul * add) + add)) (if n % 2 = 1 then IntKind.u64.wrap (IntKind.u64.wrap (mul * a) + add) else a)
termination_by n
decreasing_by omega
theorem skip_zero (mul add a : Int) : skipLine 0 mul add a = a := by rw [skipLine]; simp
theorem skip_step {n : Nat} (h : n ≠ 0) (mul add a : Int) : skipLine n mul add a = skipLine (n / 2) (IntKind.u64.wrap (mul * mul)) (IntKind.u64.wrap (IntKind.u64.wrap (mul * add) + add)) (if n % 2 = 1 then IntKind.u64.wrap (IntKind.u64.wrap (mul * a) + add) else a) := by
  rw [skipLine]; simp [h]
/-- The two rules, one after the other. -/
theorem skip_made (a b mul add x : Int) : IntKind.u64.wrap (IntKind.u64.wrap (IntKind.u64.wrap (a * mul) * x) + IntKind.u64.wrap (IntKind.u64.wrap (b * mul) + add)) = IntKind.u64.wrap (IntKind.u64.wrap (mul * IntKind.u64.wrap (IntKind.u64.wrap (a * x) + b)) + add) := by
  simp only [wmulL, wmulR, waddL, waddR]
  congr 1
  simp only [Int.mul_add, Int.mul_comm, Int.mul_left_comm, Int.add_assoc]
def skipSd (s : Sd) (n : Int) : Sd :=
  if s.kind = 2 then ⟨s.kind, IntKind.u64.wrap (s.a + IntKind.u64.wrap (n * 11400714819323198485)), s.b⟩
  else if s.kind = 0 then ⟨s.kind, skipLine n.toNat 6364136223846793005 s.b s.a, s.b⟩ else nthSd n.toNat s
def mostSkip (s : Sd) : Int := if s.kind = 0 ∨ s.kind = 2 then 4611686018427387904 else 4096
def skipSeed (s : Sd) (n : Int) : Option Sd := if validB s && inB n 0 (mostSkip s) then some (skipSd s n) else none
set_option maxRecDepth 20000 in
theorem specSkipLine_any (a b : Int) (g : Nat) (n : Int) (w : World) (ha : 0 ≤ a ∧ a < 18446744073709551616) (hn : 0 ≤ n ∧ n ≤ 4611686018427387904) (hg : SeedAt w g ⟨0, a, b⟩) :
    Calls Try.prog 65 #[.pointer (some ⟨g, 0, none⟩), .int .i64 n] w fun e w' => e = .returned (.tuple #[]) ∧ SeedAt w' g ⟨0, skipLine n.toNat 6364136223846793005 b a, b⟩ ∧ w.grownBy w' (some g) := by
  obtain ⟨hn0, hn1⟩ := hn
  have Hg := Lib.hid hg
  have c0 := hg.c0
  have c1 := hg.c1
  have c2 := hg.c2
  have f1 := hg.fz 1
  simp only at c0 c1 c2
  clear hg
  go_enter Try.func65, Try.ntmps65
  go_wp2
  go_loop [1, 4, 5, 6, 7] (fun c m d p q => ∃ (j : Nat) (mul add x y : Int), c = .int .i64 j ∧ m = .int .u64 mul ∧ d = .int .u64 add ∧ p = .int .u64 x ∧ q = .int .u64 y ∧ (j : Int) ≤ n ∧ Hid (skipLine n.toNat 6364136223846793005 b a = skipLine j mul add (IntKind.u64.wrap (IntKind.u64.wrap (x * a) + y)))) (fun c _ _ _ _ => (intOf c).toNat)
  case atStart => exact ⟨n.toNat, _, _, 1, 0, by rw [Int.toNat_of_nonneg hn0], rfl, rfl, rfl, rfl, by omega, by show _ = _; rw [Int.one_mul, u64_id a ha, Int.add_zero, u64_id a ha]⟩
  case round =>
    obtain ⟨j, mul, add, x, y, rfl, rfl, rfl, rfl, rfl, hj, hsk⟩ := hrel
    by_cases hj0 : 0 < j
    · by_cases hodd : j % 2 = 1
      · have ho : (j : Int) % 2 = 1 := by omega
        have hst := skip_step (n := j) (by omega) mul add (IntKind.u64.wrap (IntKind.u64.wrap (x * a) + y))
        rw [if_pos hodd, ← skip_made] at hst
        have Hst := Lib.hid hst
        clear hst
        go_wp2
        go_round
        case rel => exact ⟨j / 2, _, _, _, _, congrArg (Value.int .i64) (by omega), rfl, rfl, rfl, rfl, by omega, by rw [hsk.out, Hst.out, Int.mul_comm add mul]; rfl⟩
        case measure => simp only [intOf]; omega
      · have ho : ¬ (j : Int) % 2 = 1 := by omega
        have hst := skip_step (n := j) (by omega) mul add (IntKind.u64.wrap (IntKind.u64.wrap (x * a) + y))
        rw [if_neg hodd] at hst
        have Hst := Lib.hid hst
        clear hst
        go_wp2
        go_round
        case rel => exact ⟨j / 2, _, _, _, _, congrArg (Value.int .i64) (by omega), rfl, rfl, rfl, rfl, by omega, by rw [hsk.out, Hst.out, Int.mul_comm add mul]; rfl⟩
        case measure => simp only [intOf]; omega
    · obtain rfl : j = 0 := by omega
      go_wp2
      go_end0
      have e1 := hsk.out
      rw [skip_zero] at e1
      rw [e1]
      exact ⟨rfl, Hg.out.set_a _, grown_set _ _ _ _⟩
theorem gaveSB_none {w w' : World} {r : Option Sd} (h : r = none) (hb : Below w.heap.size w w') : GaveSB w r (.returned (.tuple #[.agg #[.int .i64 0, .int .u64 0, .int .u64 0], .bool false])) w' := by
  subst h
  exact ⟨0, 0, 0, false, rfl, rfl, rfl, hb⟩
theorem gaveSB_some {w w' : World} {r : Option Sd} {s : Sd} (h : r = some s) (hb : Below w.heap.size w w') : GaveSB w r (.returned (.tuple #[.agg #[.int .i64 s.kind, .int .u64 s.a, .int .u64 s.b], .bool true])) w' := by
  subst h
  exact ⟨s.kind, s.a, s.b, true, rfl, rfl, rfl, hb⟩
theorem specSkip_0 (a b n : Int) (w : World) (hs : Sd.ok ⟨0, a, b⟩) (_hn : -9223372036854775808 ≤ n ∧ n ≤ 9223372036854775807) :
    Calls Try.prog 23 #[.agg #[.int .i64 0, .int .u64 a, .int .u64 b], .int .i64 n] w (GaveSB w (skipSeed ⟨0, a, b⟩ n)) := by
  have hm : mostSkip ⟨0, a, b⟩ = 4611686018427387904 := by simp [mostSkip]
  have hr0 : skipSeed ⟨0, a, b⟩ n = if validB ⟨0, a, b⟩ && inB n 0 4611686018427387904 then some (skipSd ⟨0, a, b⟩ n) else none := by unfold skipSeed; rw [hm]
  have Hr0 := Lib.hid hr0
  clear hr0 hm
  have ha : 0 ≤ a ∧ a < 18446744073709551616 := hs.2.1
  have hb : 0 ≤ b ∧ b < 18446744073709551616 := hs.2.2
  have hg : SeedAt ((w.alloc (.cells #[.int .i64 0, .int .u64 a, .int .u64 b] 25)).alloc (.cells #[.int .i64 0, .int .u64 0, .int .u64 0] 25)) w.heap.size ⟨0, a, b⟩ := (SeedAt.new w 0 a b).alloc _
  have hz : SeedAt ((w.alloc (.cells #[.int .i64 0, .int .u64 a, .int .u64 b] 25)).alloc (.cells #[.int .i64 0, .int .u64 0, .int .u64 0] 25)) (w.heap.size + 1) ⟨0, 0, 0⟩ := SeedAt.new1 w _ 0 0 0
  have hB : Below w.heap.size w ((w.alloc (.cells #[.int .i64 0, .int .u64 a, .int .u64 b] 25)).alloc (.cells #[.int .i64 0, .int .u64 0, .int .u64 0] 25)) := ((Below.refl _ _).alloc (Nat.le_refl _) _).alloc (by rw [size_alloc']; omega) _
  have hzs : ((w.alloc (.cells #[.int .i64 0, .int .u64 a, .int .u64 b] 25)).alloc (.cells #[.int .i64 0, .int .u64 0, .int .u64 0] 25)).heap.size = w.heap.size + 2 := by rw [size_alloc', size_alloc']
  go_enter Try.func23, Try.ntmps23
  go_wp2_with fail
  refine (specIs_any ⟨0, a, b⟩ _ _ hs hg).mono ?_
  rintro e w1 ⟨rfl, rfl⟩
  generalize (w.alloc (.cells #[.int .i64 0, .int .u64 a, .int .u64 b] 25)).alloc (.cells #[.int .i64 0, .int .u64 0, .int .u64 0] 25) = w1 at hg hz hB hzs ⊢
  have HB := Lib.hid hB; have Hz := Lib.hid hz; have Hg := Lib.hid hg; have Hk : Hid (Sd.ok ⟨0, a, b⟩) := hs
  clear hB hz hg hs hzs
  have u0 := Hz.out.c0
  have u1 := Hz.out.c1
  have u2 := Hz.out.c2
  have v0 := Hz.out.fz 0
  have v1 := Hz.out.fz 1
  have v2 := Hz.out.fz 2
  simp only at u0 u1 u2
  cases hv : validB ⟨0, a, b⟩ with
  | false =>
    go_wp2
    (try simp only [Exit.inBlock, Exit.then])
    refine bodyPost_ret (results_s2 rfl _ rfl (Hz.out.set3 0 0 0)) rfl ?_
    exact gaveSB_none (by rw [Hr0.out, hv]; rfl) (below_set3 HB.out (by omega) _ _ _)
  | true =>
    have Hv := Lib.hid hv
    clear hv
    go_wp2_with fail
    refine (l00In_any _ _ _ _).mono ?_
    rintro e w2 ⟨rfl, rfl⟩
    cases hi : inB n 0 4611686018427387904 with
    | false =>
      go_wp2
      (try simp only [Exit.inBlock, Exit.then])
      refine bodyPost_ret (results_s2 rfl _ rfl (Hz.out.set3 0 0 0)) rfl ?_
      exact gaveSB_none (by rw [Hr0.out, hi]; simp) (below_set3 HB.out (by omega) _ _ _)
    | true =>
      have hnb := inB_true hi
      have Hr : Hid (skipSeed ⟨0, a, b⟩ n = some (skipSd ⟨0, a, b⟩ n)) := by show _ = _; rw [Hr0.out, hi, Hv.out]; rfl
      clear hi Hv Hr0 _hn
      clear u0 u1 u2 v0 v1 v2
      have c0 := Hg.out.c0
      simp only at c0
      go_wp2_with fail
      refine (specSkipLine_any a b _ n _ ha hnb Hg.out).mono ?_
      rintro e w2 ⟨rfl, hg2, hgr⟩
      have hz2 := Hz.out.grown hgr (by simp)
      have hb2 := HB.out.grown hgr HB.out.size (fun _ h => by cases h; exact Nat.le_refl _)
      have c0 := hg2.c0
      have c1 := hg2.c1
      have c2 := hg2.c2
      have u0 := hz2.c0
      have u1 := hz2.c1
      have u2 := hz2.c2
      have v0 := hz2.fz 0
      have v1 := hz2.fz 1
      have v2 := hz2.fz 2
      simp only at c0 c1 c2
      go_wp2
      (try simp only [Exit.inBlock, Exit.then])
      refine bodyPost_ret (results_s2 rfl _ rfl (hz2.set3 _ _ _)) rfl ?_
      exact gaveSB_some (by rw [Hr.out]; rfl) (below_set3 hb2 (by omega) _ _ _)
theorem specSkip_2 (a b n : Int) (w : World) (hs : Sd.ok ⟨2, a, b⟩) (_hn : -9223372036854775808 ≤ n ∧ n ≤ 9223372036854775807) :
    Calls Try.prog 23 #[.agg #[.int .i64 2, .int .u64 a, .int .u64 b], .int .i64 n] w (GaveSB w (skipSeed ⟨2, a, b⟩ n)) := by
  have hm : mostSkip ⟨2, a, b⟩ = 4611686018427387904 := by simp [mostSkip]
  have hr0 : skipSeed ⟨2, a, b⟩ n = if validB ⟨2, a, b⟩ && inB n 0 4611686018427387904 then some (skipSd ⟨2, a, b⟩ n) else none := by unfold skipSeed; rw [hm]
  have Hr0 := Lib.hid hr0
  clear hr0 hm
  have ha : 0 ≤ a ∧ a < 18446744073709551616 := hs.2.1
  have hb : 0 ≤ b ∧ b < 18446744073709551616 := hs.2.2
  have hg : SeedAt ((w.alloc (.cells #[.int .i64 2, .int .u64 a, .int .u64 b] 25)).alloc (.cells #[.int .i64 0, .int .u64 0, .int .u64 0] 25)) w.heap.size ⟨2, a, b⟩ := (SeedAt.new w 2 a b).alloc _
  have hz : SeedAt ((w.alloc (.cells #[.int .i64 2, .int .u64 a, .int .u64 b] 25)).alloc (.cells #[.int .i64 0, .int .u64 0, .int .u64 0] 25)) (w.heap.size + 1) ⟨0, 0, 0⟩ := SeedAt.new1 w _ 0 0 0
  have hB : Below w.heap.size w ((w.alloc (.cells #[.int .i64 2, .int .u64 a, .int .u64 b] 25)).alloc (.cells #[.int .i64 0, .int .u64 0, .int .u64 0] 25)) := ((Below.refl _ _).alloc (Nat.le_refl _) _).alloc (by rw [size_alloc']; omega) _
  have hzs : ((w.alloc (.cells #[.int .i64 2, .int .u64 a, .int .u64 b] 25)).alloc (.cells #[.int .i64 0, .int .u64 0, .int .u64 0] 25)).heap.size = w.heap.size + 2 := by rw [size_alloc', size_alloc']
  go_enter Try.func23, Try.ntmps23
  go_wp2_with fail
  refine (specIs_any ⟨2, a, b⟩ _ _ hs hg).mono ?_
  rintro e w1 ⟨rfl, rfl⟩
  generalize (w.alloc (.cells #[.int .i64 2, .int .u64 a, .int .u64 b] 25)).alloc (.cells #[.int .i64 0, .int .u64 0, .int .u64 0] 25) = w1 at hg hz hB hzs ⊢
  have HB := Lib.hid hB; have Hz := Lib.hid hz; have Hg := Lib.hid hg; have Hk : Hid (Sd.ok ⟨2, a, b⟩) := hs
  clear hB hz hg hs hzs
  have u0 := Hz.out.c0
  have u1 := Hz.out.c1
  have u2 := Hz.out.c2
  have v0 := Hz.out.fz 0
  have v1 := Hz.out.fz 1
  have v2 := Hz.out.fz 2
  simp only at u0 u1 u2
  cases hv : validB ⟨2, a, b⟩ with
  | false =>
    go_wp2
    (try simp only [Exit.inBlock, Exit.then])
    refine bodyPost_ret (results_s2 rfl _ rfl (Hz.out.set3 0 0 0)) rfl ?_
    exact gaveSB_none (by rw [Hr0.out, hv]; rfl) (below_set3 HB.out (by omega) _ _ _)
  | true =>
    have Hv := Lib.hid hv
    clear hv
    go_wp2_with fail
    refine (l00In_any _ _ _ _).mono ?_
    rintro e w2 ⟨rfl, rfl⟩
    cases hi : inB n 0 4611686018427387904 with
    | false =>
      go_wp2
      (try simp only [Exit.inBlock, Exit.then])
      refine bodyPost_ret (results_s2 rfl _ rfl (Hz.out.set3 0 0 0)) rfl ?_
      exact gaveSB_none (by rw [Hr0.out, hi]; simp) (below_set3 HB.out (by omega) _ _ _)
    | true =>
      have hnb := inB_true hi
      have Hr : Hid (skipSeed ⟨2, a, b⟩ n = some (skipSd ⟨2, a, b⟩ n)) := by show _ = _; rw [Hr0.out, hi, Hv.out]; rfl
      clear hi Hv Hr0 _hn
      have c0 := Hg.out.c0
      have c1 := Hg.out.c1
      have c2 := Hg.out.c2
      have f1 := Hg.out.fz 1
      simp only at c0 c1 c2
      go_wp2
      have hz2 := Hz.out.far (p := ⟨w.heap.size, 1, none⟩) (by show w.heap.size + 1 ≠ w.heap.size; omega) (.int .u64 (IntKind.u64.wrap (a + IntKind.u64.wrap (11400714819323198485 * n))))
      (try simp only [Exit.inBlock, Exit.then])
      refine bodyPost_ret (results_s2 rfl _ rfl (hz2.set3 _ _ _)) rfl ?_
      exact gaveSB_some (s := ⟨2, IntKind.u64.wrap (a + IntKind.u64.wrap (11400714819323198485 * n)), b⟩) (by rw [Hr.out, Int.mul_comm 11400714819323198485 n]; rfl) (below_set3 (HB.out.setCell (Nat.le_refl _) _) (by omega) _ _ _)
theorem specSkip_x (k a b n : Int) (w : World) (h0 : ¬ k = 0) (h2 : ¬ k = 2) (hs : Sd.ok ⟨k, a, b⟩) (_hn : -9223372036854775808 ≤ n ∧ n ≤ 9223372036854775807) :
    Calls Try.prog 23 #[.agg #[.int .i64 k, .int .u64 a, .int .u64 b], .int .i64 n] w (GaveSB w (skipSeed ⟨k, a, b⟩ n)) := by
  have q0 : (k == 0) = false := by simp [h0]
  have q2 : (k == 2) = false := by simp [h2]
  have hm : mostSkip ⟨k, a, b⟩ = 4096 := by simp [mostSkip, h0, h2]
  have hsk : skipSd ⟨k, a, b⟩ n = nthSd n.toNat ⟨k, a, b⟩ := by simp [skipSd, h0, h2]
  clear h0 h2
  have hr0 : skipSeed ⟨k, a, b⟩ n = if validB ⟨k, a, b⟩ && inB n 0 4096 then some (skipSd ⟨k, a, b⟩ n) else none := by unfold skipSeed; rw [hm]
  have Hr0 := Lib.hid hr0
  clear hr0 hm
  have ha : 0 ≤ a ∧ a < 18446744073709551616 := hs.2.1
  have hb : 0 ≤ b ∧ b < 18446744073709551616 := hs.2.2
  have hg : SeedAt ((w.alloc (.cells #[.int .i64 k, .int .u64 a, .int .u64 b] 25)).alloc (.cells #[.int .i64 0, .int .u64 0, .int .u64 0] 25)) w.heap.size ⟨k, a, b⟩ := (SeedAt.new w k a b).alloc _
  have hz : SeedAt ((w.alloc (.cells #[.int .i64 k, .int .u64 a, .int .u64 b] 25)).alloc (.cells #[.int .i64 0, .int .u64 0, .int .u64 0] 25)) (w.heap.size + 1) ⟨0, 0, 0⟩ := SeedAt.new1 w _ 0 0 0
  have hB : Below w.heap.size w ((w.alloc (.cells #[.int .i64 k, .int .u64 a, .int .u64 b] 25)).alloc (.cells #[.int .i64 0, .int .u64 0, .int .u64 0] 25)) := ((Below.refl _ _).alloc (Nat.le_refl _) _).alloc (by rw [size_alloc']; omega) _
  have hzs : ((w.alloc (.cells #[.int .i64 k, .int .u64 a, .int .u64 b] 25)).alloc (.cells #[.int .i64 0, .int .u64 0, .int .u64 0] 25)).heap.size = w.heap.size + 2 := by rw [size_alloc', size_alloc']
  go_enter Try.func23, Try.ntmps23
  go_wp2_with fail
  refine (specIs_any ⟨k, a, b⟩ _ _ hs hg).mono ?_
  rintro e w1 ⟨rfl, rfl⟩
  generalize (w.alloc (.cells #[.int .i64 k, .int .u64 a, .int .u64 b] 25)).alloc (.cells #[.int .i64 0, .int .u64 0, .int .u64 0] 25) = w1 at hg hz hB hzs ⊢
  have HB := Lib.hid hB; have Hz := Lib.hid hz; have Hg := Lib.hid hg; have Hk : Hid (Sd.ok ⟨k, a, b⟩) := hs
  clear hB hz hg hs hzs
  have u0 := Hz.out.c0
  have u1 := Hz.out.c1
  have u2 := Hz.out.c2
  have v0 := Hz.out.fz 0
  have v1 := Hz.out.fz 1
  have v2 := Hz.out.fz 2
  simp only at u0 u1 u2
  cases hv : validB ⟨k, a, b⟩ with
  | false =>
    go_wp2
    (try simp only [Exit.inBlock, Exit.then])
    refine bodyPost_ret (results_s2 rfl _ rfl (Hz.out.set3 0 0 0)) rfl ?_
    exact gaveSB_none (by rw [Hr0.out, hv]; rfl) (below_set3 HB.out (by omega) _ _ _)
  | true =>
    have Hv := Lib.hid hv
    clear hv
    go_wp2_with fail
    refine (l00In_any _ _ _ _).mono ?_
    rintro e w2 ⟨rfl, rfl⟩
    cases hi : inB n 0 4096 with
    | false =>
      go_wp2
      (try simp only [Exit.inBlock, Exit.then])
      refine bodyPost_ret (results_s2 rfl _ rfl (Hz.out.set3 0 0 0)) rfl ?_
      exact gaveSB_none (by rw [Hr0.out, hi]; simp) (below_set3 HB.out (by omega) _ _ _)
    | true =>
      have hnb := inB_true hi
      have Hr : Hid (skipSeed ⟨k, a, b⟩ n = some (skipSd ⟨k, a, b⟩ n)) := by show _ = _; rw [Hr0.out, hi, Hv.out]; rfl
      clear hi Hv Hr0 _hn
      clear u0 u1 u2 v0 v1 v2
      have c0 := Hg.out.c0
      simp only at c0
      go_wp2
      go_loopw [7] (fun i wr => ∃ (m : Nat), (m : Int) ≤ n ∧ i = .int .i64 m ∧ SeedAt wr w.heap.size (nthSd m ⟨k, a, b⟩) ∧ SeedAt wr (w.heap.size + 1) Sd.zero ∧ Below w.heap.size w wr) (fun i _ => (n - intOf i).toNat)
      case atStart => exact ⟨0, by omega, rfl, Hg.out, Hz.out, HB.out⟩
      case round =>
        obtain ⟨m, hm, rfl, hg', hz', hbel⟩ := hrel
        have HB' := Lib.hid hbel; have Hz' := Lib.hid hz'
        clear hbel hz'
        by_cases hlt : (m : Int) < n
        · have Hok := Lib.hid (nthSd_ok Hk.out m)
          go_wp2_with fail
          refine (specNext_any _ _ _ Hok.out hg').mono ?_
          rintro e w2 ⟨rfl, hg2, hgr⟩
          have Hg2 := Lib.hid hg2
          have Hz2 := Lib.hid (Hz'.out.grown hgr (by simp))
          have HB2 := Lib.hid (HB'.out.grown hgr HB'.out.size (fun _ h => by cases h; exact Nat.le_refl _))
          clear hg2 hgr hg'
          go_wp2
          go_round
          case rel => exact ⟨m + 1, by omega, by go_num, by rw [nthSd_succ]; exact Hg2.out, Hz2.out, HB2.out⟩
          case measure => simp only [intOf]; omega
        · have e1 : n.toNat = m := by omega
          have c0 := hg'.c0
          have c1 := hg'.c1
          have c2 := hg'.c2
          have u0 := Hz'.out.c0
          have u1 := Hz'.out.c1
          have u2 := Hz'.out.c2
          have v0 := Hz'.out.fz 0
          have v1 := Hz'.out.fz 1
          have v2 := Hz'.out.fz 2
          have hr := Hr.out
          rw [hsk, e1] at hr
          have Hr2 := Lib.hid hr
          clear hr hsk
          go_wp2
          (try simp only [Exit.inBlock, Exit.then])
          refine bodyPost_ret (results_s2 rfl _ rfl (Hz'.out.set3 _ _ _)) rfl ?_
          exact gaveSB_some Hr2.out (below_set3 HB'.out (by omega) _ _ _)

theorem implSkip_2 (a b n : Int) (w : World) (hs : Sd.ok ⟨2, a, b⟩) (_hn : -9223372036854775808 ≤ n ∧ n ≤ 9223372036854775807) :
    Calls Try.prog 24 #[.agg #[.int .i64 2, .int .u64 a, .int .u64 b], .int .i64 n] w (GaveSB w (skipSeed ⟨2, a, b⟩ n)) := by
  have hm : mostSkip ⟨2, a, b⟩ = 4611686018427387904 := by simp [mostSkip]
  have hr0 : skipSeed ⟨2, a, b⟩ n = if validB ⟨2, a, b⟩ && inB n 0 4611686018427387904 then some (skipSd ⟨2, a, b⟩ n) else none := by unfold skipSeed; rw [hm]
  have Hr0 := Lib.hid hr0
  clear hr0 hm
  have ha : 0 ≤ a ∧ a < 18446744073709551616 := hs.2.1
  have hb : 0 ≤ b ∧ b < 18446744073709551616 := hs.2.2
  have hg : SeedAt ((w.alloc (.cells #[.int .i64 2, .int .u64 a, .int .u64 b] 25)).alloc (.cells #[.int .i64 0, .int .u64 0, .int .u64 0] 25)) w.heap.size ⟨2, a, b⟩ := (SeedAt.new w 2 a b).alloc _
  have hz : SeedAt ((w.alloc (.cells #[.int .i64 2, .int .u64 a, .int .u64 b] 25)).alloc (.cells #[.int .i64 0, .int .u64 0, .int .u64 0] 25)) (w.heap.size + 1) ⟨0, 0, 0⟩ := SeedAt.new1 w _ 0 0 0
  have hB : Below w.heap.size w ((w.alloc (.cells #[.int .i64 2, .int .u64 a, .int .u64 b] 25)).alloc (.cells #[.int .i64 0, .int .u64 0, .int .u64 0] 25)) := ((Below.refl _ _).alloc (Nat.le_refl _) _).alloc (by rw [size_alloc']; omega) _
  have hzs : ((w.alloc (.cells #[.int .i64 2, .int .u64 a, .int .u64 b] 25)).alloc (.cells #[.int .i64 0, .int .u64 0, .int .u64 0] 25)).heap.size = w.heap.size + 2 := by rw [size_alloc', size_alloc']
  go_enter Try.func24, Try.ntmps24
  go_wp2_with fail
  refine (implValid_any ⟨2, a, b⟩ _ hs).mono ?_
  rintro e w1 ⟨rfl, hb1⟩
  rw [hzs] at hb1
  replace hB := hB.trans (hb1.mono (by omega))
  replace hg := hg.below hb1 (by omega)
  replace hz := hz.below hb1 (by omega)
  clear hb1
  have HB := Lib.hid hB; have Hz := Lib.hid hz; have Hg := Lib.hid hg; have Hk : Hid (Sd.ok ⟨2, a, b⟩) := hs
  clear hB hz hg hs hzs
  have u0 := Hz.out.c0
  have u1 := Hz.out.c1
  have u2 := Hz.out.c2
  have v0 := Hz.out.fz 0
  have v1 := Hz.out.fz 1
  have v2 := Hz.out.fz 2
  simp only at u0 u1 u2
  have g0 := Hg.out.c0
  have g1 := Hg.out.c1
  have g2 := Hg.out.c2
  simp only at g0 g1 g2
  cases hv : validB ⟨2, a, b⟩ with
  | false =>
    go_wp2
    (try simp only [Exit.inBlock, Exit.then])
    refine bodyPost_ret (results_s2 rfl _ rfl (Hz.out.set3 0 0 0)) rfl ?_
    exact gaveSB_none (by rw [Hr0.out, hv]; rfl) (below_set3 HB.out (by omega) _ _ _)
  | true =>
    have Hv := Lib.hid hv
    clear hv
    go_wp2_with fail
    refine (within_any _ _ _ _).mono ?_
    rintro e w2 ⟨rfl, rfl⟩
    cases hi : inB n 0 4611686018427387904 with
    | false =>
      go_wp2
      (try simp only [Exit.inBlock, Exit.then])
      refine bodyPost_ret (results_s2 rfl _ rfl (Hz.out.set3 0 0 0)) rfl ?_
      exact gaveSB_none (by rw [Hr0.out, hi]; simp) (below_set3 HB.out (by omega) _ _ _)
    | true =>
      have hnb := inB_true hi
      have Hr : Hid (skipSeed ⟨2, a, b⟩ n = some (skipSd ⟨2, a, b⟩ n)) := by show _ = _; rw [Hr0.out, hi, Hv.out]; rfl
      clear hi Hv Hr0 _hn
      have f1 := Hg.out.fz 1
      go_wp2
      have hz2 := Hz.out.far (p := ⟨w.heap.size, 1, none⟩) (by show w.heap.size + 1 ≠ w.heap.size; omega) (.int .u64 (IntKind.u64.wrap (a + IntKind.u64.wrap (n * 11400714819323198485))))
      (try simp only [Exit.inBlock, Exit.then])
      refine bodyPost_ret (results_s2 rfl _ rfl (hz2.set3 _ _ _)) rfl ?_
      exact gaveSB_some (s := ⟨2, IntKind.u64.wrap (a + IntKind.u64.wrap (n * 11400714819323198485)), b⟩) (by rw [Hr.out]; rfl) (below_set3 (HB.out.setCell (Nat.le_refl _) _) (by omega) _ _ _)
theorem implSkip_0 (a b n : Int) (w : World) (hs : Sd.ok ⟨0, a, b⟩) (_hn : -9223372036854775808 ≤ n ∧ n ≤ 9223372036854775807) :
    Calls Try.prog 24 #[.agg #[.int .i64 0, .int .u64 a, .int .u64 b], .int .i64 n] w (GaveSB w (skipSeed ⟨0, a, b⟩ n)) := by
  have hm : mostSkip ⟨0, a, b⟩ = 4611686018427387904 := by simp [mostSkip]
  have hr0 : skipSeed ⟨0, a, b⟩ n = if validB ⟨0, a, b⟩ && inB n 0 4611686018427387904 then some (skipSd ⟨0, a, b⟩ n) else none := by unfold skipSeed; rw [hm]
  have Hr0 := Lib.hid hr0
  clear hr0 hm
  have ha : 0 ≤ a ∧ a < 18446744073709551616 := hs.2.1
  have hb : 0 ≤ b ∧ b < 18446744073709551616 := hs.2.2
  have hg : SeedAt ((w.alloc (.cells #[.int .i64 0, .int .u64 a, .int .u64 b] 25)).alloc (.cells #[.int .i64 0, .int .u64 0, .int .u64 0] 25)) w.heap.size ⟨0, a, b⟩ := (SeedAt.new w 0 a b).alloc _
  have hz : SeedAt ((w.alloc (.cells #[.int .i64 0, .int .u64 a, .int .u64 b] 25)).alloc (.cells #[.int .i64 0, .int .u64 0, .int .u64 0] 25)) (w.heap.size + 1) ⟨0, 0, 0⟩ := SeedAt.new1 w _ 0 0 0
  have hB : Below w.heap.size w ((w.alloc (.cells #[.int .i64 0, .int .u64 a, .int .u64 b] 25)).alloc (.cells #[.int .i64 0, .int .u64 0, .int .u64 0] 25)) := ((Below.refl _ _).alloc (Nat.le_refl _) _).alloc (by rw [size_alloc']; omega) _
  have hzs : ((w.alloc (.cells #[.int .i64 0, .int .u64 a, .int .u64 b] 25)).alloc (.cells #[.int .i64 0, .int .u64 0, .int .u64 0] 25)).heap.size = w.heap.size + 2 := by rw [size_alloc', size_alloc']
  go_enter Try.func24, Try.ntmps24
  go_wp2_with fail
  refine (implValid_any ⟨0, a, b⟩ _ hs).mono ?_
  rintro e w1 ⟨rfl, hb1⟩
  rw [hzs] at hb1
  replace hB := hB.trans (hb1.mono (by omega))
  replace hg := hg.below hb1 (by omega)
  replace hz := hz.below hb1 (by omega)
  clear hb1
  have HB := Lib.hid hB; have Hz := Lib.hid hz; have Hg := Lib.hid hg; have Hk : Hid (Sd.ok ⟨0, a, b⟩) := hs
  clear hB hz hg hs hzs
  have u0 := Hz.out.c0
  have u1 := Hz.out.c1
  have u2 := Hz.out.c2
  have v0 := Hz.out.fz 0
  have v1 := Hz.out.fz 1
  have v2 := Hz.out.fz 2
  simp only at u0 u1 u2
  have g0 := Hg.out.c0
  have g1 := Hg.out.c1
  have g2 := Hg.out.c2
  simp only at g0 g1 g2
  cases hv : validB ⟨0, a, b⟩ with
  | false =>
    go_wp2
    (try simp only [Exit.inBlock, Exit.then])
    refine bodyPost_ret (results_s2 rfl _ rfl (Hz.out.set3 0 0 0)) rfl ?_
    exact gaveSB_none (by rw [Hr0.out, hv]; rfl) (below_set3 HB.out (by omega) _ _ _)
  | true =>
    have Hv := Lib.hid hv
    clear hv
    go_wp2_with fail
    refine (within_any _ _ _ _).mono ?_
    rintro e w2 ⟨rfl, rfl⟩
    cases hi : inB n 0 4611686018427387904 with
    | false =>
      go_wp2
      (try simp only [Exit.inBlock, Exit.then])
      refine bodyPost_ret (results_s2 rfl _ rfl (Hz.out.set3 0 0 0)) rfl ?_
      exact gaveSB_none (by rw [Hr0.out, hi]; simp) (below_set3 HB.out (by omega) _ _ _)
    | true =>
      have hnb := inB_true hi
      have Hr : Hid (skipSeed ⟨0, a, b⟩ n = some (skipSd ⟨0, a, b⟩ n)) := by show _ = _; rw [Hr0.out, hi, Hv.out]; rfl
      clear hi Hv Hr0 _hn
      clear u0 u1 u2 v0 v1 v2
      go_wp2
      go_region
      go_wp2
      clear g0 g1 g2
      go_loopw [1, 7, 8] (fun c m d wr => ∃ (j : Nat) (mul add x : Int), c = .int .i64 j ∧ m = .int .u64 mul ∧ d = .int .u64 add ∧ (j : Int) ≤ n ∧ Hid (skipLine n.toNat 6364136223846793005 b a = skipLine j mul add x) ∧ SeedAt wr w.heap.size ⟨0, x, b⟩ ∧ SeedAt wr (w.heap.size + 1) Sd.zero ∧ Below w.heap.size w wr) (fun c _ _ _ => (intOf c).toNat)
      case atStart => exact ⟨n.toNat, _, _, a, by rw [Int.toNat_of_nonneg hnb.1], rfl, rfl, by omega, rfl, Hg.out.drew, Hz.out.drew, HB.out.drew⟩
      case round =>
        obtain ⟨j, mul, add, x, rfl, rfl, rfl, hj, hsk, hg', hz', hbel⟩ := hrel
        have HB' := Lib.hid hbel; have Hz' := Lib.hid hz'; have Hg' := Lib.hid hg'
        clear hbel hz' hg'
        by_cases hj0 : 0 < j
        · by_cases hodd : j % 2 = 1
          · have ho : (j : Int) % 2 = 1 := by omega
            have hst := skip_step (n := j) (by omega) mul add x
            rw [if_pos hodd] at hst
            have Hst := Lib.hid hst
            clear hst
            have c1 := Hg'.out.c1
            have f1 := Hg'.out.fz 1
            simp only at c1
            go_wp2
            go_round
            case rel => exact ⟨j / 2, _, _, _, congrArg (Value.int .i64) (by omega), rfl, rfl, by omega, by rw [hsk.out, Hst.out]; rfl, Hg'.out.set_a _, Hz'.out.far (by show w.heap.size + 1 ≠ w.heap.size; omega) _, HB'.out.setCell (Nat.le_refl _) _⟩
            case measure => simp only [intOf]; omega
          · have ho : ¬ (j : Int) % 2 = 1 := by omega
            have hst := skip_step (n := j) (by omega) mul add x
            rw [if_neg hodd] at hst
            have Hst := Lib.hid hst
            clear hst
            go_wp2
            go_round
            case rel => exact ⟨j / 2, _, _, x, congrArg (Value.int .i64) (by omega), rfl, rfl, by omega, by rw [hsk.out, Hst.out]; rfl, Hg'.out, Hz'.out, HB'.out⟩
            case measure => simp only [intOf]; omega
        · obtain rfl : j = 0 := by omega
          have e1 := hsk.out
          rw [skip_zero] at e1
          have E1 := Lib.hid e1
          clear e1
          have c0 := Hg'.out.c0
          have c1 := Hg'.out.c1
          have c2 := Hg'.out.c2
          have u0 := Hz'.out.c0
          have u1 := Hz'.out.c1
          have u2 := Hz'.out.c2
          have v0 := Hz'.out.fz 0
          have v1 := Hz'.out.fz 1
          have v2 := Hz'.out.fz 2
          simp only at c0 c1 c2
          go_wp2
          (try simp only [Exit.inBlock, Exit.then])
          refine bodyPost_ret (results_s2 rfl _ rfl (Hz'.out.set3 _ _ _)) rfl ?_
          exact gaveSB_some (s := ⟨0, x, b⟩) (by rw [Hr.out, ← E1.out]; rfl) (below_set3 HB'.out (by omega) _ _ _)
theorem implSkip_x (k a b n : Int) (w : World) (h0 : ¬ k = 0) (h2 : ¬ k = 2) (hs : Sd.ok ⟨k, a, b⟩) (_hn : -9223372036854775808 ≤ n ∧ n ≤ 9223372036854775807) :
    Calls Try.prog 24 #[.agg #[.int .i64 k, .int .u64 a, .int .u64 b], .int .i64 n] w (GaveSB w (skipSeed ⟨k, a, b⟩ n)) := by
  have q0 : (k == 0) = false := by simp [h0]
  have q2 : (k == 2) = false := by simp [h2]
  have hm : mostSkip ⟨k, a, b⟩ = 4096 := by simp [mostSkip, h0, h2]
  have hsk : skipSd ⟨k, a, b⟩ n = nthSd n.toNat ⟨k, a, b⟩ := by simp [skipSd, h0, h2]
  clear h0 h2
  have hr0 : skipSeed ⟨k, a, b⟩ n = if validB ⟨k, a, b⟩ && inB n 0 4096 then some (skipSd ⟨k, a, b⟩ n) else none := by unfold skipSeed; rw [hm]
  have Hr0 := Lib.hid hr0
  clear hr0 hm
  have ha : 0 ≤ a ∧ a < 18446744073709551616 := hs.2.1
  have hb : 0 ≤ b ∧ b < 18446744073709551616 := hs.2.2
  have hg : SeedAt ((w.alloc (.cells #[.int .i64 k, .int .u64 a, .int .u64 b] 25)).alloc (.cells #[.int .i64 0, .int .u64 0, .int .u64 0] 25)) w.heap.size ⟨k, a, b⟩ := (SeedAt.new w k a b).alloc _
  have hz : SeedAt ((w.alloc (.cells #[.int .i64 k, .int .u64 a, .int .u64 b] 25)).alloc (.cells #[.int .i64 0, .int .u64 0, .int .u64 0] 25)) (w.heap.size + 1) ⟨0, 0, 0⟩ := SeedAt.new1 w _ 0 0 0
  have hB : Below w.heap.size w ((w.alloc (.cells #[.int .i64 k, .int .u64 a, .int .u64 b] 25)).alloc (.cells #[.int .i64 0, .int .u64 0, .int .u64 0] 25)) := ((Below.refl _ _).alloc (Nat.le_refl _) _).alloc (by rw [size_alloc']; omega) _
  have hzs : ((w.alloc (.cells #[.int .i64 k, .int .u64 a, .int .u64 b] 25)).alloc (.cells #[.int .i64 0, .int .u64 0, .int .u64 0] 25)).heap.size = w.heap.size + 2 := by rw [size_alloc', size_alloc']
  go_enter Try.func24, Try.ntmps24
  go_wp2_with fail
  refine (implValid_any ⟨k, a, b⟩ _ hs).mono ?_
  rintro e w1 ⟨rfl, hb1⟩
  rw [hzs] at hb1
  replace hB := hB.trans (hb1.mono (by omega))
  replace hg := hg.below hb1 (by omega)
  replace hz := hz.below hb1 (by omega)
  clear hb1
  have HB := Lib.hid hB; have Hz := Lib.hid hz; have Hg := Lib.hid hg; have Hk : Hid (Sd.ok ⟨k, a, b⟩) := hs
  clear hB hz hg hs hzs
  have u0 := Hz.out.c0
  have u1 := Hz.out.c1
  have u2 := Hz.out.c2
  have v0 := Hz.out.fz 0
  have v1 := Hz.out.fz 1
  have v2 := Hz.out.fz 2
  simp only at u0 u1 u2
  have g0 := Hg.out.c0
  have g1 := Hg.out.c1
  have g2 := Hg.out.c2
  simp only at g0 g1 g2
  cases hv : validB ⟨k, a, b⟩ with
  | false =>
    go_wp2
    (try simp only [Exit.inBlock, Exit.then])
    refine bodyPost_ret (results_s2 rfl _ rfl (Hz.out.set3 0 0 0)) rfl ?_
    exact gaveSB_none (by rw [Hr0.out, hv]; rfl) (below_set3 HB.out (by omega) _ _ _)
  | true =>
    have Hv := Lib.hid hv
    clear hv
    go_wp2_with fail
    refine (within_any _ _ _ _).mono ?_
    rintro e w2 ⟨rfl, rfl⟩
    cases hi : inB n 0 4096 with
    | false =>
      go_wp2
      (try simp only [Exit.inBlock, Exit.then])
      refine bodyPost_ret (results_s2 rfl _ rfl (Hz.out.set3 0 0 0)) rfl ?_
      exact gaveSB_none (by rw [Hr0.out, hi]; simp) (below_set3 HB.out (by omega) _ _ _)
    | true =>
      have hnb := inB_true hi
      have Hr : Hid (skipSeed ⟨k, a, b⟩ n = some (skipSd ⟨k, a, b⟩ n)) := by show _ = _; rw [Hr0.out, hi, Hv.out]; rfl
      clear hi Hv Hr0 _hn
      clear u0 u1 u2 v0 v1 v2
      have hr := Hr.out
      rw [hsk] at hr
      have Hr2 := Lib.hid hr
      clear hr hsk
      go_wp2_with fail
      refine (implWords_any ⟨k, a, b⟩ n _ Hk.out (by omega)).mono ?_
      rintro e w2 ⟨v, rfl, hO, hb2⟩
      have hg2 := Hg.out.below hb2 Hg.out.lt
      have hz2 := Hz.out.below hb2 Hz.out.lt
      have HB2 := Lib.hid (HB.out.trans (hb2.mono HB.out.size))
      clear g0 g1 g2 hO hb2
      obtain ⟨t, ht⟩ : ∃ t, t = nthSd n.toNat ⟨k, a, b⟩ := ⟨_, rfl⟩
      rw [← ht]
      have Ht := Lib.hid ht
      clear ht
      obtain ⟨k1, a1, b1⟩ := t
      unfold Sd.val
      have c0 := hg2.c0
      have c1 := hg2.c1
      have c2 := hg2.c2
      have f0 := hg2.fz 0
      have f1 := hg2.fz 1
      have f2 := hg2.fz 2
      have u0 := hz2.c0
      have u1 := hz2.c1
      have u2 := hz2.c2
      have v0 := hz2.fz 0
      have v1 := hz2.fz 1
      have v2 := hz2.fz 2
      simp only at c0 c1 c2
      go_wp2
      (try simp only [Exit.inBlock, Exit.then])
      refine bodyPost_ret (results_s2 rfl _ rfl ((hz2.far3 (g' := w.heap.size) (by omega) k1 a1 b1).set3 k1 a1 b1)) rfl ?_
      exact gaveSB_some (s := ⟨k1, a1, b1⟩) (by rw [Hr2.out, Ht.out]) (below_set3 (below_set3 HB2.out (Nat.le_refl _) k1 a1 b1) (by omega) _ _ _)
theorem specSkip_any : FnSN_SB 23 skipSeed := by
  intro k a b n w hs hn
  by_cases h0 : k = 0
  · subst h0; exact specSkip_0 a b n w hs hn
  by_cases h2 : k = 2
  · subst h2; exact specSkip_2 a b n w hs hn
  exact specSkip_x k a b n w h0 h2 hs hn
theorem implSkip_any : FnSN_SB 24 skipSeed := by
  intro k a b n w hs hn
  by_cases h0 : k = 0
  · subst h0; exact implSkip_0 a b n w hs hn
  by_cases h2 : k = 2
  · subst h2; exact implSkip_2 a b n w hs hn
  exact implSkip_x k a b n w h0 h2 hs hn
end Go.Proofs.Ytbfofbpjdmgogaa
