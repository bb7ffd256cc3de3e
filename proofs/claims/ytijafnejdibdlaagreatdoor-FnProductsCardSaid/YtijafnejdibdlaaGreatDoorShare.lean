/- Shares that are drawn: the product with 2^-24 is the quotient by 2^24; both contracts. -/
import Derived.Test.YtijafnejdibdlaaGreatDoorTried
import Derived.Test.YtijafnejdibdlaaGreatDoorFloat
namespace Go.Proofs.YtijafnejdibdlaaGreatDoor
open Go.RowKit

theorem cut_zero (neg : Bool) (n : Nat) : Ieee.Toward.even.cut neg n 0 = n := by
  simp [Ieee.Toward.cut, Nat.mod_one]
theorem log2_shift {m : Nat} (h : m ≠ 0) (k : Nat) : (m * 2 ^ k).log2 = m.log2 + k := by
  have h2 : m * 2 ^ k ≠ 0 := Nat.mul_ne_zero h (by have := Nat.two_pow_pos k; omega)
  refine (Nat.log2_eq_iff h2).2 ⟨?_, ?_⟩
  · rw [Nat.pow_add]
    exact Nat.mul_le_mul_right _ (Nat.log2_self_le h)
  · have := (Nat.log2_lt h).1 (Nat.lt_succ_self m.log2)
    have e : m.log2 + k + 1 = (m.log2 + 1) + k := by omega
    rw [e, Nat.pow_add]
    exact Nat.mul_lt_mul_of_pos_right this (Nat.two_pow_pos k)
theorem cut_exact (neg : Bool) {m : Nat} (h : m ≠ 0) (k d : Nat) (hd : d ≤ k) : Ieee.Toward.even.cut neg (m * 2 ^ k) d = m * 2 ^ (k - d) := by
  have hl := log2_shift h k
  have hmin : min d ((m * 2 ^ k).log2 + 2) = d := by omega
  have e : m * 2 ^ k = m * 2 ^ (k - d) * 2 ^ d := by rw [Nat.mul_assoc, ← Nat.pow_add]; congr 2; omega
  have hp := Nat.two_pow_pos d
  have h1 : m * 2 ^ k / 2 ^ d = m * 2 ^ (k - d) := by rw [e]; exact Nat.mul_div_cancel _ hp
  have h2 : m * 2 ^ k % 2 ^ d = 0 := by rw [e]; exact Nat.mul_mod_left _ _
  unfold Ieee.Toward.cut
  simp only [hmin, Nat.shiftLeft_eq, Nat.one_mul, h1, h2]
  simp
theorem cut_scale (neg : Bool) {m : Nat} (h : m ≠ 0) (k d : Nat) : Ieee.Toward.even.cut neg (m * 2 ^ k) (d + k) = Ieee.Toward.even.cut neg m d := by
  have hl := log2_shift h k
  have hmin : min (d + k) ((m * 2 ^ k).log2 + 2) = min d (m.log2 + 2) + k := by omega
  have hp := Nat.two_pow_pos k
  unfold Ieee.Toward.cut
  simp only [hmin, Nat.shiftLeft_eq, Nat.one_mul, Nat.pow_add]
  generalize 2 ^ min d (m.log2 + 2) = g
  rw [Nat.mul_div_mul_right _ _ hp, Nat.mul_mod_mul_right]
  have e1 : (decide (g * 2 ^ k < 2 * (m % g * 2 ^ k))) = decide (g < 2 * (m % g)) := by
    rw [← Nat.mul_assoc]
    simp [Nat.mul_lt_mul_right hp]
  have e2 : (g * 2 ^ k == 2 * (m % g * 2 ^ k)) = (g == 2 * (m % g)) := by
    rw [← Nat.mul_assoc, Bool.eq_iff_iff]
    simp only [beq_iff_eq]
    exact ⟨fun h => Nat.eq_of_mul_eq_mul_right hp h, fun h => congrArg (· * 2 ^ k) h⟩
  simp only [e1, e2]
/-- The nearest word depends on the number alone. -/
theorem nearest_shift (f : Ieee.Format) (neg : Bool) (m k : Nat) (p : Int) : f.nearest neg (m * 2 ^ k) p = f.nearest neg m (p + k) := by
  by_cases h : m = 0
  · subst h; simp [Ieee.Format.nearest]
  · have h2 : m * 2 ^ k ≠ 0 := Nat.mul_ne_zero h (by have := Nat.two_pow_pos k; omega)
    unfold Ieee.Format.nearest
    rw [if_neg h, if_neg h2, log2_shift h]
    have el : p + ((m.log2 + k : Nat) : Int) - (f.fractionBits : Int) = p + (k : Int) + (m.log2 : Int) - (f.fractionBits : Int) := by omega
    simp only [el]
    generalize max (p + (k : Int) + (m.log2 : Int) - (f.fractionBits : Int)) f.leastPlace = last
    have key : Ieee.Toward.even.cut neg ((m * 2 ^ k) <<< (p - last).toNat) (last - p).toNat = Ieee.Toward.even.cut neg (m <<< (p + (k : Int) - last).toNat) (last - (p + (k : Int))).toNat := by
      by_cases h1 : last ≤ p
      · have a : (last - p).toNat = 0 := by omega
        have b : (last - (p + (k : Int))).toNat = 0 := by omega
        have c : (p + (k : Int) - last).toNat = k + (p - last).toNat := by omega
        rw [a, b, c, cut_zero, cut_zero, Nat.shiftLeft_eq, Nat.shiftLeft_eq, Nat.pow_add, Nat.mul_assoc]
      · have a : (p - last).toNat = 0 := by omega
        rw [a]
        by_cases h3 : last ≤ p + (k : Int)
        · have b : (last - (p + (k : Int))).toNat = 0 := by omega
          have c : (p + (k : Int) - last).toNat = k - (last - p).toNat := by omega
          rw [b, c, cut_zero, Nat.shiftLeft_zero, cut_exact neg h _ _ (by omega), Nat.shiftLeft_eq]
        · have b : (p + (k : Int) - last).toNat = 0 := by omega
          have c : (last - p).toNat = (last - (p + (k : Int))).toNat + k := by omega
          rw [b, c, Nat.shiftLeft_zero, Nat.shiftLeft_zero, cut_scale neg h]
    rw [key]
theorem read_small {x : Nat} {s : Bool} {m : Nat} {i : Int} (h : Ieee.single.read x = .number s m i) : m < 16777216 := by
  unfold Ieee.Format.read at h
  have hb : Ieee.single.binade = 8388608 := by decide
  simp only [hb] at h
  split at h
  · simp only [Ieee.Datum.number.injEq] at h
    omega
  · split at h
    · simp only [Ieee.Datum.number.injEq] at h
      have := Nat.mod_lt (x % Ieee.single.signWeight) (y := 8388608) (by omega)
      omega
    · split at h <;> cases h
/-- To take the product with 2^-24 is to divide by 2^24. -/
theorem mul_div24 (x : Nat) : Ieee.single.mul x 864026624 = Ieee.single.div x 1266679808 := by
  have r1 : Ieee.single.read 864026624 = .number false 8388608 (-47) := by decide
  have r2 : Ieee.single.read 1266679808 = .number false 8388608 1 := by decide
  have hfb : Ieee.single.fractionBits + 2 = 25 := by decide
  unfold Ieee.Format.mul Ieee.Format.div
  rw [r1, r2, hfb]
  cases hx : Ieee.single.read x with
  | nan s t => simp [Ieee.Datum.product, Ieee.Datum.quotient]
  | infinity s => simp [Ieee.Datum.product, Ieee.Datum.quotient]
  | number s m i =>
    have hm := read_small hx
    have hl : m.log2 < 24 := by
      by_cases h0 : m = 0
      · subst h0; decide
      · exact (Nat.log2_lt h0).2 (by omega)
    have hl8 : Nat.log2 8388608 = 23 := by decide
    have hq : (m <<< (25 + 23 - m.log2)) = m * 2 ^ (25 - m.log2) * 8388608 := by
      rw [Nat.shiftLeft_eq, Nat.mul_assoc]
      have : (8388608 : Nat) = 2 ^ 23 := by decide
      rw [this, ← Nat.pow_add]
      congr 2
      omega
    simp only [Ieee.Datum.product, Ieee.Datum.quotient, hl8, hq, Nat.mul_mod_left, Nat.mul_div_cancel _ (show 0 < 8388608 by decide), Option.map_some, Ieee.Format.write]
    simp only [show ¬ (8388608 : Nat) = 0 by decide, if_false, Option.map_some, Ieee.Format.write]
    congr 1
    have e1 : m * 8388608 = m * 2 ^ 23 := rfl
    have e2 : 2 * (m * 2 ^ (25 - m.log2)) + ((0 : Nat) != 0).toNat = m * 2 ^ (26 - m.log2) := by
      have : 26 - m.log2 = (25 - m.log2) + 1 := by omega
      rw [this, Nat.pow_succ]
      simp
      rw [Nat.mul_comm 2, Nat.mul_assoc]
    rw [e1, e2, nearest_shift, nearest_shift]
    congr 1
    omega
/-- A share that is drawn: its bits, of a NaN those of the one. -/
def shareOf (s : Sd) : Nat := fop .quo .f32 (floatOfInt .f32 (wordOf s / 256)) 1266679808
theorem shareOf_mul (s : Sd) : fop .mul .f32 (floatOfInt .f32 (wordOf s / 256)) 864026624 = shareOf s := by
  unfold shareOf fop floatBits
  show (Ieee.single.mul _ _).getD _ = (Ieee.single.div _ _).getD _
  rw [mul_div24]
theorem grown_mk_drewN {a b : World} {r : Option Nat} (h : a.grownBy b r) (n : Nat) : a.grownBy (b.drewN n) r := ⟨h.os, h.tape, h.output, h.size, h.block⟩
end Go.Proofs.YtijafnejdibdlaaGreatDoor
