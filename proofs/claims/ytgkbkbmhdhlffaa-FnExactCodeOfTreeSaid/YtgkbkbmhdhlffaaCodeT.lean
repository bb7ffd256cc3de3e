/- CodeOfTree: the code is short. -/
import Derived.Test.YtgkbkbmhdhlffaaCodeP
namespace Go.Proofs.Ytgkbkbmhdhlffaa
open Go.RowKit
theorem strip_len {n : Nat} : ∀ (k : Nat) {E : List Ed} {r : List Nat × List Ed}, strip n k E = some r → r.1.length = k
  | 0, E, r, h => by
    unfold strip at h
    injection h with h
    subst h
    rfl
  | k + 1, E, r, h => by
    obtain ⟨v, e, r', -, -, h', rfl⟩ := strip_cons h
    rw [List.length_cons, strip_len k h']
theorem codeR_short (xs : List Int) (n : Int) (_ : xs.length ≤ 1048576) : ((codeR xs n).getD []).length ≤ 2000000 := by
  by_cases h : areEdges xs n = true ∧ 2 ≤ n ∧ (xs.length : Int) = 2 * (n - 1)
  · obtain ⟨-, -, -, -, -, hn⟩ := areEdges_pairs h.1
    unfold codeR
    rw [if_pos h]
    cases hs : strip n.toNat (n.toNat - 2) (pairsOf xs) with
    | none => simp
    | some r =>
      show (natsI r.1).length ≤ _
      rw [natsI_len, strip_len _ hs]
      omega
  · rw [codeR_no h]
    simp
end Go.Proofs.Ytgkbkbmhdhlffaa
