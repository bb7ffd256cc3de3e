/- WordsOf. -/
import Derived.Test.YtnaolelijifniaaWords
import Derived.Test.YtnaolelijifniaaShapesS
namespace Go.Proofs.Ytnaolelijifniaa
open Go.RowKit
def wordsOf (s : Sd) (n : Int) : Option (Sd × List Int) := if validB s && inB n 0 256 then some (nthSd n.toNat s, wordsN n.toNat s) else none
theorem wordsOf_short (k a b n : Int) : (((wordsOf ⟨k, a, b⟩ n).map Prod.snd).getD []).length ≤ 2000000 := by
  unfold wordsOf
  split
  · rename_i h
    simp only [Bool.and_eq_true] at h
    have := inB_true h.2
    simp only [Option.map_some, Option.getD_some, wordsN_length]
    omega
  · simp
theorem gaveSLB_none {w w' : World} {r : Option (Sd × List Int)} (h : r = none) (hb : Below w.heap.size w w') : GaveSLB w r (.returned (.tuple #[.agg #[.int .i64 0, .int .u64 0, .int .u64 0], .slice none 0 0, .bool false])) w' := by
  subst h
  exact ⟨0, 0, 0, _, false, rfl, rfl, rfl, own_none _ _ _, hb⟩
theorem gaveSLB_some {w w' : World} {r : Option (Sd × List Int)} {s : Sd} {v : Value} {xs : List Int} (h : r = some (s, xs)) (hO : Own w' w.heap.size 2 v (i64s xs)) (hb : Below w.heap.size w w') : GaveSLB w r (.returned (.tuple #[.agg #[.int .i64 s.kind, .int .u64 s.a, .int .u64 s.b], v, .bool true])) w' := by
  subst h
  exact ⟨s.kind, s.a, s.b, v, true, rfl, rfl, rfl, hO, hb⟩
end Go.Proofs.Ytnaolelijifniaa
