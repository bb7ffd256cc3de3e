/- Draws below a bound: the pure law and both contracts. -/
import Derived.Test.YtijafnejdibdlaaGreatDoorSeed
namespace Go.Proofs.YtijafnejdibdlaaGreatDoor
open Go.RowKit

/-- The cells of a seed's block, written anew. -/
def setSeed (w : World) (g : Nat) (k a b : Int) : World := ((w.setCell ⟨g, 0, none⟩ (.int .i64 k)).setCell ⟨g, 1, none⟩ (.int .u64 a)).setCell ⟨g, 2, none⟩ (.int .u64 b)
theorem below_set3 {B : Nat} {w0 w : World} {g : Nat} (h : Below B w0 w) (hg : B ≤ g) (k a b : Int) : Below B w0 (((w.setCell ⟨g, 0, none⟩ (.int .i64 k)).setCell ⟨g, 1, none⟩ (.int .u64 a)).setCell ⟨g, 2, none⟩ (.int .u64 b)) :=
  ((h.setCell hg _).setCell hg _).setCell hg _
theorem grown_set3 (w : World) (g : Nat) (k a b : Int) : w.grownBy (((w.setCell ⟨g, 0, none⟩ (.int .i64 k)).setCell ⟨g, 1, none⟩ (.int .u64 a)).setCell ⟨g, 2, none⟩ (.int .u64 b)) (some g) :=
  grown_trans (grown_trans (grown_set _ _ _ _) (grown_set _ _ _ _)) (grown_set _ _ _ _)

/-- What is handed back by a function that gives a seed, a number and whether there is one. -/
def GaveSNB (w : World) (r : Option (Sd × Int)) (e : Ending) (w' : World) : Prop :=
  ∃ (k a b x : Int) (ok : Bool), e = .returned (.tuple #[.agg #[.int .i64 k, .int .u64 a, .int .u64 b], .int .i64 x, .bool ok]) ∧ Hid (ok = r.isSome) ∧ Hid ((⟨k, a, b⟩ : Sd) = ((r.map Prod.fst).getD Sd.zero)) ∧ Hid (x = ((r.map Prod.snd).getD 0)) ∧ Below w.heap.size w w'

/-- A number below n out of the words of a seed, and the seed behind it; so many tries. -/
def tried (n : Int) : Nat → Sd → Option (Sd × Int)
  | 0, _ => none
  | k + 1, s => if wordOf s < 4294967296 / n * n then some (nextSd s, wordOf s % n) else tried n k (nextSd s)
def belowS (s : Sd) (n : Int) : Option (Sd × Int) := if validB s && inB n 1 4294967296 then tried n 64 s else none
theorem tried_ok {n : Int} {k : Nat} {s s' : Sd} {x : Int} (hs : s.ok) (h : tried n k s = some (s', x)) : s'.ok := by
  induction k generalizing s with
  | zero => cases h
  | succ k ih =>
    unfold tried at h
    split at h
    · simp only [Option.some.injEq, Prod.mk.injEq] at h
      exact h.1 ▸ nextSd_ok hs
    · exact ih (nextSd_ok hs) h
theorem tried_lt {n : Int} {k : Nat} {s s' : Sd} {x : Int} (hn : 0 < n) (h : tried n k s = some (s', x)) : 0 ≤ x ∧ x < n := by
  induction k generalizing s with
  | zero => cases h
  | succ k ih =>
    unfold tried at h
    split at h
    · simp only [Option.some.injEq, Prod.mk.injEq] at h
      have := wordOf_ok s
      have h2 := h.2
      exact ⟨h2 ▸ Int.emod_nonneg _ (by omega), h2 ▸ Int.emod_lt_of_pos _ hn⟩
    · exact ih h
theorem most_bd {n : Int} (h : 1 ≤ n) (h2 : n ≤ 4294967296) : 0 ≤ 4294967296 / n * n ∧ 4294967296 / n * n ≤ 4294967296 := by
  have h0 : 0 ≤ 4294967296 / n := Int.ediv_nonneg (by omega) (by omega)
  exact ⟨Int.mul_nonneg h0 (by omega), Int.ediv_mul_le _ (by omega)⟩

end Go.Proofs.YtijafnejdibdlaaGreatDoor
