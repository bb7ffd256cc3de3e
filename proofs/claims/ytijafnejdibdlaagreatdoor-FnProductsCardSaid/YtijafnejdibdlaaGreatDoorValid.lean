/- A valid seed that moves stays valid, and one that is not stays so: plain law. -/
import Derived.Test.YtijafnejdibdlaaGreatDoorSeed
import Derived.Laws.Bits64
namespace Go.Proofs.YtijafnejdibdlaaGreatDoor
open Go.RowKit
theorem xor_eq_zero {a b : Int} (ha : 0 ≤ a ∧ a < 18446744073709551616) (hb : 0 ≤ b ∧ b < 18446744073709551616) (h : bits .xor .u64 a b = 0) : a = b := by
  obtain ⟨x, rfl⟩ := Int.eq_ofNat_of_zero_le ha.1
  obtain ⟨y, rfl⟩ := Int.eq_ofNat_of_zero_le hb.1
  rw [bits_xor_u64_nat x y (by omega) (by omega)] at h
  have h2 : x ^^^ y = 0 := by omega
  have h3 : x = y := by
    have := congrArg (· ^^^ y) h2
    simpa [Nat.xor_assoc] using this
  rw [h3]
theorem xor_self_zero {a : Int} (ha : 0 ≤ a ∧ a < 18446744073709551616) : bits .xor .u64 a a = 0 := by
  obtain ⟨x, rfl⟩ := Int.eq_ofNat_of_zero_le ha.1
  rw [bits_xor_u64_nat x x (by omega) (by omega)]
  simp
theorem sh1_zero {a : Int} (ha : 0 ≤ a ∧ a < 18446744073709551616) (h : sh1 a = 0) : a = 0 := by
  have h1 := xor_eq_zero ha ⟨u64_ge _, u64_lt _⟩ h
  rw [IntKind.wrap_u64] at h1
  omega
theorem sh2_zero {a : Int} (ha : 0 ≤ a ∧ a < 18446744073709551616) (h : sh2 a = 0) : a = 0 := by
  have h1 := xor_eq_zero ha ⟨by omega, by omega⟩ h
  omega
theorem sh3_zero {a : Int} (ha : 0 ≤ a ∧ a < 18446744073709551616) (h : sh3 a = 0) : a = 0 := by
  have h1 := xor_eq_zero ha ⟨u64_ge _, u64_lt _⟩ h
  rw [IntKind.wrap_u64] at h1
  omega
theorem shift_zero {a : Int} (ha : 0 ≤ a ∧ a < 18446744073709551616) : shiftA a = 0 ↔ a = 0 := by
  constructor
  · intro h
    exact sh1_zero ha (sh2_zero ⟨xor_ge _ _, xor_lt _ _⟩ (sh3_zero ⟨xor_ge _ _, xor_lt _ _⟩ h))
  · intro h
    subst h
    decide
theorem or_eq_zero {a b : Int} (ha : 0 ≤ a ∧ a < 18446744073709551616) (hb : 0 ≤ b ∧ b < 18446744073709551616) (h : bits .or .u64 a b = 0) : a = 0 ∧ b = 0 := by
  obtain ⟨x, rfl⟩ := Int.eq_ofNat_of_zero_le ha.1
  obtain ⟨y, rfl⟩ := Int.eq_ofNat_of_zero_le hb.1
  have h1 : (BitVec.ofInt 64 (x : Int)).toNat = x := by
    rw [BitVec.ofInt_natCast, BitVec.toNat_ofNat]; exact Nat.mod_eq_of_lt (by omega)
  have h2 : (BitVec.ofInt 64 (y : Int)).toNat = y := by
    rw [BitVec.ofInt_natCast, BitVec.toNat_ofNat]; exact Nat.mod_eq_of_lt (by omega)
  have hx : x ||| y < 2 ^ 64 := Nat.or_lt_two_pow (by omega) (by omega)
  have h3 : IntKind.u64.wrap ((BitVec.ofInt 64 (x : Int) ||| BitVec.ofInt 64 (y : Int)).toNat : Int) = 0 := h
  rw [BitVec.toNat_or, h1, h2, IntKind.wrap_u64] at h3
  have h4 : x ||| y = 0 := by omega
  have h5 : x ≤ x ||| y := Nat.left_le_or
  have h6 : y ≤ x ||| y := Nat.right_le_or
  omega
theorem rot24_zero {a : Int} (ha : 0 ≤ a ∧ a < 18446744073709551616) (h : rot24 a = 0) : a = 0 := by
  have h1 := or_eq_zero ⟨u64_ge _, u64_lt _⟩ ⟨by omega, by omega⟩ h
  rw [IntKind.wrap_u64] at h1
  omega
theorem rot37_zero {a : Int} (ha : 0 ≤ a ∧ a < 18446744073709551616) (h : rot37 a = 0) : a = 0 := by
  have h1 := or_eq_zero ⟨u64_ge _, u64_lt _⟩ ⟨by omega, by omega⟩ h
  rw [IntKind.wrap_u64] at h1
  omega
theorem validB_next {s : Sd} (hs : s.ok) : validB (nextSd s) = validB s := by
  obtain ⟨k, a, b⟩ := s
  obtain ⟨hk, ha, hb⟩ := hs
  simp only at hk ha hb
  by_cases h0 : k = 0
  · simp [validB, nextSd, h0]
  by_cases h1 : k = 1
  · simp [validB, nextSd, h1, bne, Bool.beq_eq_decide_eq, shift_zero ha]
  by_cases h2 : k = 2
  · simp [validB, nextSd, h2]
  by_cases h3 : k = 3
  · subst h3
    have key : (pairA ⟨3, a, b⟩ = 0 ∧ rot37 (pairX ⟨3, a, b⟩) = 0) ↔ (a = 0 ∧ b = 0) := by
      constructor
      · rintro ⟨p, q⟩
        have hx : pairX ⟨3, a, b⟩ = 0 := rot37_zero ⟨xor_ge _ _, xor_lt _ _⟩ q
        have hba : b = a := xor_eq_zero hb ha hx
        have e : pairA ⟨3, a, b⟩ = bits .xor .u64 (bits .xor .u64 (rot24 a) 0) (IntKind.u64.wrap (0 * 65536)) := by unfold pairA; rw [hx]
        rw [e] at p
        have hp1 := xor_eq_zero ⟨xor_ge _ _, xor_lt _ _⟩ ⟨u64_ge _, u64_lt _⟩ p
        have hp2 : IntKind.u64.wrap (0 * 65536) = 0 := by decide
        rw [hp2] at hp1
        have hp3 := xor_eq_zero (rot24_ok a) ⟨by omega, by omega⟩ hp1
        have ha0 := rot24_zero ha hp3
        exact ⟨ha0, by rw [hba, ha0]⟩
      · rintro ⟨rfl, rfl⟩
        decide
    have hn : nextSd ⟨3, a, b⟩ = ⟨3, pairA ⟨3, a, b⟩, rot37 (pairX ⟨3, a, b⟩)⟩ := rfl
    rw [hn]
    have e1 : ∀ x y : Int, validB ⟨3, x, y⟩ = !decide (x = 0 ∧ y = 0) := by
      intro x y
      by_cases hx : x = 0 <;> by_cases hy : y = 0 <;> simp [validB, hx, hy]
    rw [e1, e1, decide_eq_decide.2 key]
  · simp [validB, nextSd, h0, h1, h2, h3]
end Go.Proofs.YtijafnejdibdlaaGreatDoor
