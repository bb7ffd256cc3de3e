/- RankOfBits: plain law: the rank of rows over two elements, by taking the lead of each bit out. -/
import Derived.Test.YtlgpcojoonnlbaaSmall
namespace Go.Proofs.Ytlgpcojoonnlbaa
open Go.RowKit
/-- A row without the bit of the lead. -/
def redN (b l y : Nat) : Nat := if y.testBit b then y ^^^ l else y
/-- The rows behind the lead at k, without its bit. -/
def outN (b : Nat) (rows : List Nat) (k : Nat) : List Nat := (rows.eraseIdx k).map (redN b (rows.getD k 0))
def rankN : Nat → List Nat → Nat
  | 0, _ => 0
  | b + 1, rows => match rows.findIdx? (fun y => y.testBit b) with
    | none => rankN b rows
    | some k => rankN b (outN b rows k) + 1
theorem rankN_none {b : Nat} {rows : List Nat} (h : rows.findIdx? (fun y => y.testBit b) = none) : rankN (b + 1) rows = rankN b rows := by simp only [rankN, h]
theorem rankN_some {b k : Nat} {rows : List Nat} (h : rows.findIdx? (fun y => y.testBit b) = some k) : rankN (b + 1) rows = rankN b (outN b rows k) + 1 := by simp only [rankN, h]
theorem outN_len {b k : Nat} {rows : List Nat} (h : k < rows.length) : (outN b rows k).length = rows.length - 1 := by
  simp [outN, List.length_eraseIdx, h]
theorem idx_lt {p : Nat → Bool} {rows : List Nat} {k : Nat} (h : rows.findIdx? p = some k) : k < rows.length ∧ p (rows.getD k 0) = true := by
  rw [List.findIdx?_eq_some_iff_getElem] at h
  obtain ⟨h1, h2, _⟩ := h
  refine ⟨h1, ?_⟩
  rw [List.getD_eq_getElem?_getD, List.getElem?_eq_getElem h1]
  exact h2
theorem rankN_le : ∀ (b : Nat) (rows : List Nat), rankN b rows ≤ rows.length
  | 0, _ => Nat.zero_le _
  | b + 1, rows => by
    cases h : rows.findIdx? (fun y => y.testBit b) with
    | none => rw [rankN_none h]; exact rankN_le b rows
    | some k =>
      have hk := (idx_lt h).1
      have := rankN_le b (outN b rows k)
      rw [outN_len hk] at this
      rw [rankN_some h]
      omega
theorem rankN_zero : ∀ (b : Nat) (rows : List Nat), rankN b rows = 0 → ∀ x ∈ rows, ∀ i, i < b → x.testBit i = false
  | 0, _, _, _, _, i, hi => by omega
  | b + 1, rows, h0, x, hx, i, hi => by
    cases h : rows.findIdx? (fun y => y.testBit b) with
    | none =>
      rw [rankN_none h] at h0
      by_cases e : i = b
      · subst e
        rw [List.findIdx?_eq_none_iff] at h
        exact h x hx
      · exact rankN_zero b rows h0 x hx i (by omega)
    | some k => rw [rankN_some h] at h0; omega
theorem rankN_pos {rows : List Nat} {x : Nat} (hx : x ∈ rows) (hw : x < 2 ^ 32) (h0 : x ≠ 0) : 1 ≤ rankN 32 rows := by
  apply Nat.pos_of_ne_zero
  intro e
  apply h0
  apply Nat.eq_of_testBit_eq
  intro i
  rw [Nat.zero_testBit]
  by_cases hi : i < 32
  · exact rankN_zero 32 rows e x hx i hi
  · exact Nat.testBit_lt_two_pow (Nat.lt_of_lt_of_le hw (Nat.pow_le_pow_right (by omega) (by omega)))
/-- What sums of rows can be. -/
inductive Span (rows : List Nat) : Nat → Prop
  | zero : Span rows 0
  | add {x y : Nat} : Span rows x → y ∈ rows → Span rows (x ^^^ y)
theorem span_bit {rows : List Nat} {b : Nat} (h : ∀ y ∈ rows, y.testBit b = false) {x : Nat} (hx : Span rows x) : x.testBit b = false := by
  induction hx with
  | zero => exact Nat.zero_testBit _
  | add _ hy ih => rw [Nat.testBit_xor, ih, h _ hy]; rfl
theorem red_xor {b l : Nat} (hl : l.testBit b = true) (x y : Nat) : redN b l (x ^^^ y) = redN b l x ^^^ redN b l y := by
  unfold redN
  rw [Nat.testBit_xor]
  cases x.testBit b <;> cases y.testBit b <;> simp
  · rw [Nat.xor_assoc]
  · rw [Nat.xor_assoc, Nat.xor_assoc, Nat.xor_comm y l]
  · rw [Nat.xor_assoc, ← Nat.xor_assoc l y l, Nat.xor_comm l y, Nat.xor_assoc y l l, Nat.xor_self, Nat.xor_zero]
theorem span_red {rows : List Nat} {b k : Nat} (hk : k < rows.length) (hl : (rows.getD k 0).testBit b = true) {x : Nat} (hx : Span rows x) : Span (outN b rows k) (redN b (rows.getD k 0) x) := by
  induction hx with
  | zero =>
    have : redN b (rows.getD k 0) 0 = 0 := by simp [redN]
    rw [this]; exact .zero
  | @add x y _ hy ih =>
    rw [red_xor hl]
    obtain ⟨j, hj, rfl⟩ := List.mem_iff_getElem.1 hy
    by_cases e : j = k
    · subst e
      have : redN b (rows.getD j 0) rows[j] = 0 := by
        rw [List.getD_eq_getElem?_getD, List.getElem?_eq_getElem hk] at hl ⊢
        simp only [Option.getD_some] at hl ⊢
        simp [redN, hl]
      rw [this, Nat.xor_zero]
      exact ih
    · refine .add ih ?_
      unfold outN
      refine List.mem_map_of_mem ?_
      rw [List.mem_eraseIdx_iff_getElem]
      exact ⟨j, hj, e, rfl⟩
theorem rankN_span : ∀ (b : Nat) (rows : List Nat) (x : Nat), Span rows x → rankN b (rows ++ [x]) = rankN b rows
  | 0, _, _, _ => rfl
  | b + 1, rows, x, hx => by
    cases h : rows.findIdx? (fun y => y.testBit b) with
    | none =>
      have hb := span_bit (List.findIdx?_eq_none_iff.1 h) hx
      have h2 : (rows ++ [x]).findIdx? (fun y => y.testBit b) = none := by
        rw [List.findIdx?_eq_none_iff]
        intro y hy
        rcases List.mem_append.1 hy with hy | hy
        · exact List.findIdx?_eq_none_iff.1 h y hy
        · rw [List.mem_singleton.1 hy]; exact hb
      rw [rankN_none h, rankN_none h2]
      exact rankN_span b rows x hx
    | some k =>
      obtain ⟨hk, hl⟩ := idx_lt h
      have h2 : (rows ++ [x]).findIdx? (fun y => y.testBit b) = some k := by
        rw [List.findIdx?_append, h]; rfl
      have h3 : outN b (rows ++ [x]) k = outN b rows k ++ [redN b (rows.getD k 0) x] := by
        unfold outN
        have e1 : (rows ++ [x]).getD k 0 = rows.getD k 0 := by
          rw [List.getD_eq_getElem?_getD, List.getD_eq_getElem?_getD, List.getElem?_append_left hk]
        rw [e1, List.eraseIdx_append_of_lt_length hk, List.map_append]
        rfl
      rw [rankN_some h, rankN_some h2, h3]
      rw [rankN_span b _ _ (span_red hk hl hx)]
theorem span_two {rows : List Nat} {x y : Nat} (hx : x ∈ rows) (hy : y ∈ rows) : Span rows (x ^^^ y) := by
  have := (Span.zero.add hx).add hy
  rwa [Nat.zero_xor] at this
end Go.Proofs.Ytlgpcojoonnlbaa
