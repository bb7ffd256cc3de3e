/- FnWords: plain laws of its words. -/
import Derived.Test.YtlgpcojoonnlbaaWordsOf
import Derived.Test.YtlgpcojoonnlbaaZ01
import Derived.Test.YtlgpcojoonnlbaaKq
import Derived.Test.YtlgpcojoonnlbaaBitsI
namespace Go.Proofs.Ytlgpcojoonnlbaa
open Go.RowKit
theorem wordsN_all (n : Nat) (s : Sd) : allWords (wordsN n s) = true := by
  induction n with
  | zero => rfl
  | succ n ih =>
    rw [wordsN_succ]
    unfold allWords at ih ⊢
    rw [List.all_append, ih]
    have := wordOf_ok (nthSd n s)
    simp [inB_mk (show 0 ≤ wordOf (nthSd n s) ∧ wordOf (nthSd n s) ≤ 4294967295 by omega)]
theorem wordsN_are {n : Nat} (h1 : 1 ≤ n) (h2 : n ≤ 256) (s : Sd) : areWords (wordsN n s) = true := by
  unfold areWords
  rw [wordsN_all, wordsN_length, inB_mk (by omega)]
  rfl
theorem wordsOf_some {s : Sd} (hv : validB s = true) {n : Nat} (hn : n ≤ 256) : wordsOf s (n : Int) = some (nthSd n s, wordsN n s) := by
  unfold wordsOf
  rw [hv, inB_mk (by omega)]
  simp
theorem gaveSLB_got {w w' : World} {r : Option (Sd × List Int)} {e : Ending} {t : Sd} {l : List Int} {n : Nat} (h : GaveSLB w r e w') (hr : r = some (t, l)) (hn : l.length = n) :
    ∃ (A : Option Addr) (c : Nat), e = .returned (.tuple #[.agg #[.int .i64 t.kind, .int .u64 t.a, .int .u64 t.b], .slice A n c, .bool true]) ∧ (n ≤ c ∧ c ≤ maxLen) ∧ Rd w' w'.heap.size A n (i64s l) ∧ Below w.heap.size w w' := by
  obtain ⟨k, a, b, v, ok, rfl, h1, h2, ho, hb⟩ := h
  subst hr
  obtain rfl : ok = true := h1.out
  have e : (⟨k, a, b⟩ : Sd) = t := h2.out
  subst e
  obtain ⟨A, c, rfl, hc1, hc2, hrd⟩ := Own.shapeV (n := n) ho (by rw [i64s_length]; exact hn)
  exact ⟨A, c, rfl, ⟨hc1, hc2⟩, hrd, hb⟩
end Go.Proofs.Ytlgpcojoonnlbaa
