/- Hexadecimal digits of a number. Plain law. -/
import Derived.Test.YtijafnejdibdlaaGreatDoorBase
namespace Go.Proofs.YtijafnejdibdlaaGreatDoor
/-- The byte of a digit. -/
def hxd (d : Nat) : Nat := if d < 10 then 48 + d else 87 + d
theorem hxd_lt {d : Nat} (h : d < 16) : hxd d < 256 := by unfold hxd; split <;> omega
def hxb (d : Nat) : UInt8 := UInt8.ofNat (hxd d)
theorem hxb_nat {d : Nat} (h : d < 16) : (hxb d).toNat = hxd d := by
  unfold hxb
  rw [UInt8.toNat_ofNat']
  exact Nat.mod_eq_of_lt (hxd_lt h)
/-- The last m digits of n. -/
def dgs : Nat → Nat → List UInt8
  | _, 0 => []
  | n, m + 1 => dgs (n / 16) m ++ [hxb (n % 16)]
theorem dgs_cons : ∀ n m, dgs n (m + 1) = hxb (n / 16 ^ m % 16) :: dgs n m
  | n, 0 => by show [] ++ [_] = _; rw [Nat.pow_zero, Nat.div_one]; rfl
  | n, m + 1 => by
    show dgs (n / 16) (m + 1) ++ [_] = _
    rw [dgs_cons (n / 16) m, Nat.div_div_eq_div_mul, Nat.pow_succ, Nat.mul_comm 16 (16 ^ m)]
    rfl
theorem dgs_length : ∀ n m, (dgs n m).length = m
  | _, 0 => rfl
  | n, m + 1 => by rw [dgs_cons, List.length_cons, dgs_length]
theorem dgs_lead {n m : Nat} (h : n < 16 ^ m) : ∀ k, dgs n (m + k) = List.replicate k 48 ++ dgs n m
  | 0 => rfl
  | k + 1 => by
    show dgs n (m + k + 1) = _
    rw [dgs_cons, dgs_lead h k, Nat.div_eq_of_lt (Nat.lt_of_lt_of_le h (Nat.pow_le_pow_right (by omega) (by omega))), List.replicate_succ]
    rfl
theorem dgs_get (n : Nat) : ∀ m k, k < m → (dgs n m)[k]? = some (hxb (n / 16 ^ (m - 1 - k) % 16))
  | 0, _, h => absurd h (by omega)
  | m + 1, 0, _ => by rw [dgs_cons]; rfl
  | m + 1, k + 1, h => by
    rw [dgs_cons, List.getElem?_cons_succ, dgs_get n m k (by omega), show m + 1 - 1 - (k + 1) = m - 1 - k by omega]
theorem step16 (n j : Nat) : n / 16 ^ j / 16 = n / 16 ^ (j + 1) := by rw [Nat.div_div_eq_div_mul, Nat.pow_succ]
theorem back16 (n j : Nat) : n / 16 ^ j = 16 * (n / 16 ^ (j + 1)) + n / 16 ^ j % 16 := by
  have := step16 n j
  omega
/-- A comma is no digit. -/
theorem hxb_ne (d : Nat) (h : d < 16) : hxb d ≠ 44 := by
  intro e
  have := congrArg UInt8.toNat e
  rw [hxb_nat h] at this
  have e2 : (44 : UInt8).toNat = 44 := rfl
  rw [e2] at this
  unfold hxd at this
  split at this <;> omega
theorem dgs_ne (n m : Nat) : ∀ c ∈ dgs n m, c ≠ 44 := by
  intro c hc
  obtain ⟨k, hk, rfl⟩ := List.getElem_of_mem hc
  rw [dgs_length] at hk
  have := dgs_get n m k hk
  rw [List.getElem?_eq_getElem (by rw [dgs_length]; exact hk)] at this
  injection this with this
  rw [this]
  exact hxb_ne _ (Nat.mod_lt _ (by omega))
end Go.Proofs.YtijafnejdibdlaaGreatDoor
