/- Meetings of words told twice, and of words that all lie in one cell. -/
import Derived.Test.YtlgpcojoonnlbaaZ01
namespace Go.Proofs.Ytlgpcojoonnlbaa
open Go.RowKit
theorem seenN_mem (pre : List Int) (x : Int) (hx : x ∈ pre) : ∀ n : Nat, seenN pre (List.replicate n x) = n
  | 0 => rfl
  | n + 1 => by
    rw [List.replicate_succ, seenN, if_pos hx, seenN_mem (pre ++ [x]) x (by simp)]
    omega
theorem eqN_same (x : Int) (n : Nat) : eqN (List.replicate n x) = n - 1 := by
  cases n with
  | zero => rfl
  | succ n =>
    rw [eqN, List.replicate_succ, seenN, if_neg (by simp), List.nil_append, seenN_mem [x] x (by simp)]
    omega
theorem eqN_twice (x y : Int) : 2 ≤ eqN [x, y, x, y] := by
  simp only [eqN, seenN, List.nil_append, List.cons_append, List.mem_cons, List.mem_nil_iff, true_or, or_true, if_true]
  omega
theorem quotL_all {xs : List Int} (h : allWords xs = true) : quotL xs 4294967296 = List.replicate xs.length 0 := by
  rw [List.eq_replicate_iff]
  refine ⟨quotL_len _ _, fun q hq => ?_⟩
  unfold quotL at hq
  obtain ⟨x, hx, rfl⟩ := List.mem_map.1 hq
  obtain ⟨k, hk⟩ := List.mem_iff_getElem?.1 hx
  obtain ⟨h0, h1⟩ := allWords_at h hk
  omega
theorem sortedI_same (n : Nat) : sortedI (List.replicate n 0) = List.replicate n 0 := by
  rw [List.eq_replicate_iff]
  refine ⟨by rw [sortedI_len, List.length_replicate], fun q hq => ?_⟩
  exact List.eq_of_mem_replicate ((sortedI_perm' _).mem_iff.1 hq)
theorem lessL_same (n m : Nat) : lessL (List.replicate n 0) m = List.replicate (m - 1) 0 := by
  rw [List.eq_replicate_iff]
  refine ⟨lessL_len _ _, fun q hq => ?_⟩
  unfold lessL at hq
  obtain ⟨i, _, rfl⟩ := List.mem_map.1 hq
  have h : ∀ j, (List.replicate n (0 : Int)).getD j 0 = 0 := fun j => by
    rw [List.getD_eq_getElem?_getD]
    by_cases c : j < n
    · simp [c]
    · simp [c]
  rw [h, h]; rfl
theorem quotL_one (xs : List Int) : quotL xs 1 = xs := by
  unfold quotL
  rw [List.map_congr_left (fun x _ => Int.ediv_one x), List.map_id']
theorem meet_all {xs : List Int} (h : areWords xs = true) : meetR xs 4294967296 = some (((xs.length - 1 : Nat) : Int), ((xs.length - 1 - 1 : Nat) : Int)) := by
  have ha : allWords xs = true := by unfold areWords at h; simp only [Bool.and_eq_true] at h; exact h.2
  unfold meetR
  rw [h, inB_mk (by omega), quotL_all ha, sortedI_same, lessL_same, eqN_same, eqN_same]
  rfl
theorem meet_twice {x y : Int} (h : areWords [x, y, x, y] = true) : ∃ a b : Int, meetR [x, y, x, y] 1 = some (a, b) ∧ 2 ≤ a := by
  refine ⟨_, _, by unfold meetR; rw [h, inB_mk (by omega), quotL_one]; rfl, ?_⟩
  have := eqN_twice x y
  omega
end Go.Proofs.Ytlgpcojoonnlbaa
