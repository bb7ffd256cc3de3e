/- 'TreeOf' of the program and of the reference: sums of stretches of weights. -/
import Derived.Test.YtbfofbpjdmgogaaWeights
import Derived.Test.YtbfofbpjdmgogaaRange
namespace Go.Proofs.Ytbfofbpjdmgogaa
open Go.RowKit

/-- The greatest power of 2 that divides a number from 1 to 64. -/
def low (i : Nat) : Nat := if i % 2 ≠ 0 then 1 else if i % 4 ≠ 0 then 2 else if i % 8 ≠ 0 then 4 else if i % 16 ≠ 0 then 8 else if i % 32 ≠ 0 then 16 else if i % 64 ≠ 0 then 32 else 64
theorem low_all : ∀ i : Nat, i < 65 → 0 < i → (1 ≤ low i ∧ low i ≤ i) ∧ bits .and .i64 (i : Int) (-(i : Int)) = (low i : Int) := by decide
theorem low_bd {i : Nat} (h : i ≤ 64) (h0 : 0 < i) : 1 ≤ low i ∧ low i ≤ i := (low_all i (by omega) h0).1
theorem low_bits {i : Nat} (h : i ≤ 64) (h0 : 0 < i) : bits .and .i64 (i : Int) (-(i : Int)) = (low i : Int) := (low_all i (by omega) h0).2
theorem low_step' : ∀ (i : Fin 65) (j : Fin 7), i.val = 0 ∨ i.val % 2 ^ j.val ≠ 0 ∨ ((i.val % (2 * 2 ^ j.val) ≠ 0 ∨ j.val < 6) ∧ (i.val % (2 * 2 ^ j.val) = 0 ∨ 2 ^ j.val = low i.val)) := by decide
theorem low_step (i : Nat) (h : i < 65) (h0 : 0 < i) (j : Nat) (hj : j < 7) (hm : i % 2 ^ j = 0) : (i % (2 * 2 ^ j) = 0 → j < 6) ∧ (i % (2 * 2 ^ j) ≠ 0 → 2 ^ j = low i) := by
  have := low_step' ⟨i, h⟩ ⟨j, hj⟩
  simp only at this
  omega

theorem l03Low_any (i : Nat) (w : World) (h : i ≤ 64) (h0 : 0 < i) : Calls Try.prog 115 #[.int .i64 i] w fun e w' => e = .returned (.int .i64 (low i)) ∧ w = w' := by
  go_enter Try.func115, Try.ntmps115
  go_wp2
  go_loop [3] (fun d => ∃ j p : Nat, j < 7 ∧ Hid (p = 2 ^ j) ∧ d = .int .i64 p ∧ Hid (i % p = 0) ∧ 1 ≤ p ∧ p ≤ 64) (fun d => 128 - (intOf d).toNat)
  case atStart => exact ⟨0, 1, by omega, rfl, rfl, by show _ = _; omega, by omega, by omega⟩
  case round =>
    obtain ⟨j, p, hj, hp, rfl, hm, h1, h2⟩ := hrel
    have hs := low_step i (by omega) h0 j hj (by rw [← hp.out]; exact hm.out)
    rw [← hp.out] at hs
    have hmod : (i : Int) % (2 * (p : Int)) = ((i % (2 * p) : Nat) : Int) := by rw [Int.natCast_emod, Int.natCast_mul]; rfl
    by_cases hr : i % (2 * p) = 0
    · have hb : (((i : Int) % (2 * (p : Int))) == 0) = true := by rw [beq_iff_eq, hmod, hr]; rfl
      have hj6 := hs.1 hr
      have hp2 : Hid (2 * p = 2 ^ (j + 1)) := by show _ = _; rw [hp.out, Nat.pow_succ]; omega
      have hle : 2 * p ≤ 64 := by
        have h6 : (2 : Nat) ^ (j + 1) ≤ 2 ^ 6 := Nat.pow_le_pow_right (by omega) (by omega)
        have := hp2.out
        omega
      have Hr := Lib.hid hr
      clear hr hs hmod
      go_wp2
      go_round
      case rel => exact ⟨j + 1, 2 * p, by omega, hp2, by go_num, Hr, by omega, by omega⟩
      case measure => simp [intOf]; omega
    · have hb : (((i : Int) % (2 * (p : Int))) == 0) = false := by rw [beq_eq_false_iff_ne, hmod]; omega
      have hlow : Hid (p = low i) := hs.2 hr
      clear hr hs hmod
      go_wp2
      go_ret
      exact ⟨ret_int (by rw [hlow.out]), rfl⟩

/-- The sum of a list of numbers. -/
def sumI (xs : List Int) : Int := xs.foldl (fun s x => s + x) 0
theorem sumI_snoc (xs : List Int) (x : Int) : sumI (xs ++ [x]) = sumI xs + x := by simp [sumI, List.foldl_append]
/-- The stretch of numbers from a up to b. -/
def seg (xs : List Int) (a b : Nat) : List Int := (xs.take b).drop a
theorem seg_self (xs : List Int) (a : Nat) : seg xs a a = [] := by simp [seg]
theorem seg_succ {xs : List Int} {a b : Nat} {x : Int} (h : xs[b]? = some x) (hab : a ≤ b) : seg xs a (b + 1) = seg xs a b ++ [x] := by
  unfold seg
  have hb := (List.getElem?_eq_some_iff.1 h).1
  rw [take_succ_of h, List.drop_append_of_le_length (by rw [List.length_take]; omega)]
theorem seg_bd (xs : List Int) (a b : Nat) (h : allW xs = true) (n : Nat) (hn : b ≤ a + n) : 0 ≤ sumI (seg xs a b) ∧ sumI (seg xs a b) ≤ 1000000 * n := by
  have key : ∀ ys : List Int, (∀ y ∈ ys, 0 ≤ y ∧ y ≤ 1000000) → ∀ s : Int, s ≤ ys.foldl (fun s x => s + x) s ∧ ys.foldl (fun s x => s + x) s ≤ s + 1000000 * ys.length := by
    intro ys
    induction ys with
    | nil => intro _ s; simp
    | cons y ys ih =>
      intro hy s
      have h1 := hy y (by simp)
      have h2 := ih (fun z hz => hy z (by simp [hz])) (s + y)
      simp only [List.foldl_cons, List.length_cons]
      omega
  have hall : ∀ y ∈ seg xs a b, 0 ≤ y ∧ y ≤ 1000000 := by
    intro y hy
    have h1 : y ∈ xs := List.mem_of_mem_take (List.mem_of_mem_drop hy)
    rw [allW, List.all_eq_true] at h
    exact inB_true (h y h1)
  have hk := key _ hall 0
  have hlen : (seg xs a b).length ≤ n := by unfold seg; rw [List.length_drop, List.length_take]; omega
  unfold sumI
  omega
/-- The nodes of the tree of weights, as far as the k-th. -/
def nodes (xs : List Int) (k : Nat) : List Int := (List.range k).map fun j => sumI (seg xs (j + 1 - low (j + 1)) (j + 1))
theorem nodes_len (xs : List Int) (k : Nat) : (nodes xs k).length = k := by simp [nodes]
theorem nodes_succ (xs : List Int) (k : Nat) : nodes xs (k + 1) = nodes xs k ++ [sumI (seg xs (k + 1 - low (k + 1)) (k + 1))] := by simp [nodes, List.range_succ]
def treeOfL (xs : List Int) : Option (List Int) := if areW xs = true then some (nodes xs xs.length) else none
theorem treeOfL_short (xs : List Int) (h : xs.length ≤ 1048576) : ((treeOfL xs).getD []).length ≤ 2000000 := by
  unfold treeOfL
  split
  · simp [nodes_len]; omega
  · simp

theorem l03Leaf_any (n : Int) (w : World) : Calls Try.prog 116 #[.int .i64 n] w fun e w' => e = .returned (.bool (inB n 0 1000000)) ∧ w = w' := by
  go_enter Try.func116, Try.ntmps116
  go_wp2_with (go_at_call 64; refine (l00In_any _ _ _ _).mono ?_; rintro e w' ⟨rfl, rfl⟩)
  go_ret
  exact ⟨rfl, rfl⟩
end Go.Proofs.Ytbfofbpjdmgogaa
