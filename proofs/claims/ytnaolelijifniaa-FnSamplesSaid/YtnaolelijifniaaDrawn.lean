/- Draws of a valid seed: ValidSeed need not be asked again. -/
import Derived.Test.YtnaolelijifniaaBelowAll
import Derived.Test.YtnaolelijifniaaValid
namespace Go.Proofs.Ytnaolelijifniaa
open Go.RowKit
theorem tried_valid {n : Int} {k : Nat} {s t : Sd} {x : Int} (hs : s.ok) (h : tried n k s = some (t, x)) : validB t = validB s := by
  induction k generalizing s with
  | zero => cases h
  | succ k ih =>
    unfold tried at h
    split at h
    · simp only [Option.some.injEq, Prod.mk.injEq] at h
      rw [← h.1, validB_next hs]
    · rw [ih (nextSd_ok hs) h, validB_next hs]
theorem belowS_valid {s : Sd} {n : Int} (hv : validB s = true) (hn : 1 ≤ n ∧ n ≤ 4294967296) : belowS s n = tried n 64 s := by
  unfold belowS
  rw [hv, inB_mk hn]
  rfl
end Go.Proofs.Ytnaolelijifniaa
