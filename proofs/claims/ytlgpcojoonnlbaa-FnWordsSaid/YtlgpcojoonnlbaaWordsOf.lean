/- WordsOf. -/
import Derived.Test.YtlgpcojoonnlbaaWords
import Derived.Test.YtlgpcojoonnlbaaShapesS
namespace Go.Proofs.Ytlgpcojoonnlbaa
open Go.RowKit
def wordsOf (s : Sd) (n : Int) : Option (Sd × List Int) := if validB s && inB n 0 256 then some (nthSd n.toNat s, wordsN n.toNat s) else none
theorem wordsOf_short (k a b n : Int) : (((wordsOf ⟨k, a, b⟩ n).map Prod.snd).getD []).length ≤ 2000000 := by
  unfold wordsOf
  split
  · rename_i h
    simp only [Bool.and_eq_true] at h
    have := inB_true h.2
    simp only [Option.map_some, Option.getD_some, wordsN_length]
    omega
  · simp
theorem gaveSLB_none {w w' : World} {r : Option (Sd × List Int)} (h : r = none) (hb : Below w.heap.size w w') : GaveSLB w r (.returned (.tuple #[.agg #[.int .i64 0, .int .u64 0, .int .u64 0], .slice none 0 0, .bool false])) w' := by
  subst h
  exact ⟨0, 0, 0, _, false, rfl, rfl, rfl, own_none _ _ _, hb⟩
theorem gaveSLB_some {w w' : World} {r : Option (Sd × List Int)} {s : Sd} {v : Value} {xs : List Int} (h : r = some (s, xs)) (hO : Own w' w.heap.size 2 v (i64s xs)) (hb : Below w.heap.size w w') : GaveSLB w r (.returned (.tuple #[.agg #[.int .i64 s.kind, .int .u64 s.a, .int .u64 s.b], v, .bool true])) w' := by
  subst h
  exact ⟨s.kind, s.a, s.b, v, true, rfl, rfl, rfl, hO, hb⟩
-- both functions
theorem implWordsOf_any : FnSN_SLB 7 wordsOf := by
  intro k0 a0 b0 n w hs hn
  have hz0 : ((w.alloc (.cells #[.int .i64 k0, .int .u64 a0, .int .u64 b0] 26)).alloc (.cells #[.int .i64 0, .int .u64 0, .int .u64 0] 26)).heap.size = w.heap.size + 2 := by rw [size_alloc', size_alloc']
  go_enter Try.func7, Try.ntmps7
  go_wp2_with fail
  refine (implValid_any ⟨k0, a0, b0⟩ _ hs).mono ?_
  rintro e w1 ⟨rfl, hb1⟩
  rw [hz0] at hb1
  have hB : Below w.heap.size w w1 := (((Below.refl _ _).alloc (Nat.le_refl _) _).alloc (by rw [size_alloc']; omega) _).trans (hb1.mono (by omega))
  have hg : SeedAt w1 w.heap.size ⟨k0, a0, b0⟩ := ((SeedAt.new w k0 a0 b0).alloc _).below hb1 (by omega)
  have hz : SeedAt w1 (w.heap.size + 1) ⟨0, 0, 0⟩ := (SeedAt.new1 w _ 0 0 0).below hb1 (by omega)
  clear hz0 hb1
  obtain ⟨s, hsd⟩ : ∃ s : Sd, s = ⟨k0, a0, b0⟩ := ⟨_, rfl⟩
  rw [← hsd] at hs hg ⊢
  have HB := Lib.hid hB; have Hsd := Lib.hid hsd; have Hz := Lib.hid hz; have Hg := Lib.hid hg; have Hk : Hid s.ok := hs
  clear hB hsd hz hg hs
  by_cases hv : (validB s && inB n 0 256) = true
  · have Hr : Hid (wordsOf ⟨k0, a0, b0⟩ n = some (nthSd n.toNat s, wordsN n.toNat s)) := by rw [← Hsd.out]; show _ = _; simp only [wordsOf, hv, if_true]
    simp only [Bool.and_eq_true] at hv
    obtain ⟨hv1, hv2⟩ := hv
    have hnb := inB_true hv2
    rw [hv1]
    go_wp2_with fail
    refine (within_any _ _ _ _).mono ?_
    rintro e w2 ⟨rfl, rfl⟩
    rw [hv2]
    clear hv1 hv2
    have c0 := Hg.out.c0
    have c1 := Hg.out.c1
    have c2 := Hg.out.c2
    go_wp2_with fail
    refine (implWords_any s n _ Hk.out (by omega)).mono ?_
    rintro e w2 ⟨v, rfl, hO, hb2⟩
    have Hz2 := Lib.hid (Hz.out.below hb2 Hz.out.lt)
    have HB2 := Lib.hid (HB.out.trans (hb2.mono HB.out.size))
    have HO2 := Lib.hid hO
    have hl1 := Hz.out.lt
    clear hO hb2 c0 c1 c2
    obtain ⟨t, ht⟩ : ∃ t, t = nthSd n.toNat s := ⟨_, rfl⟩
    rw [← ht]
    have Ht := Lib.hid ht
    clear ht
    obtain ⟨k1, a1, b1⟩ := t
    unfold Sd.val
    have hz3 := Hz2.out.alloc (.cells #[.int .i64 k1, .int .u64 a1, .int .u64 b1] 26)
    have u0 := hz3.c0
    have u1 := hz3.c1
    have u2 := hz3.c2
    have v0 := hz3.fz 0
    have v1 := hz3.fz 1
    have v2 := hz3.fz 2
    go_wp2
    (try simp only [Exit.inBlock, Exit.then])
    refine bodyPost_ret (results_s3 rfl _ rfl (hz3.set3 _ _ _)) rfl ?_
    have hl2 := Hz2.out.lt
    have hO3 := HO2.out.below ((Below.refl w2.heap.size w2).alloc (Nat.le_refl _) (.cells #[.int .i64 k1, .int .u64 a1, .int .u64 b1] 26)) (Nat.le_refl _)
    exact gaveSLB_some (s := ⟨k1, a1, b1⟩) (by rw [Hr.out, Ht.out]) ((hO3.kept (grown_set3 _ _ _ _ _) (.inr (fun e => by have := HO2.out.lt _ e; omega))).base_le (by omega)) (below_set3 (HB2.out.alloc HB2.out.size _) (by omega) _ _ _)
  · have hv' : (validB s && inB n 0 256) = false := by simpa using hv
    have Hr : Hid (wordsOf ⟨k0, a0, b0⟩ n = none) := by rw [← Hsd.out]; show _ = _; simp only [wordsOf, hv']; rfl
    have u0 := Hz.out.c0
    have u1 := Hz.out.c1
    have u2 := Hz.out.c2
    have v0 := Hz.out.fz 0
    have v1 := Hz.out.fz 1
    have v2 := Hz.out.fz 2
    clear hv
    cases hv1 : validB s with
    | false =>
      go_wp2
      (try simp only [Exit.inBlock, Exit.then])
      refine bodyPost_ret (results_s3 rfl _ rfl (Hz.out.set3 0 0 0)) rfl ?_
      exact gaveSLB_none Hr.out (below_set3 HB.out (by omega) _ _ _)
    | true =>
      rw [hv1] at hv'
      go_wp2_with fail
      refine (within_any _ _ _ _).mono ?_
      rintro e w2 ⟨rfl, rfl⟩
      have hv2 : inB n 0 256 = false := by simpa using hv'
      rw [hv2]
      go_wp2
      (try simp only [Exit.inBlock, Exit.then])
      refine bodyPost_ret (results_s3 rfl _ rfl (Hz.out.set3 0 0 0)) rfl ?_
      exact gaveSLB_none Hr.out (below_set3 HB.out (by omega) _ _ _)
end Go.Proofs.Ytlgpcojoonnlbaa
