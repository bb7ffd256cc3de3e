/- A mixed number is 0 for 0 alone; the seeds that the statements draw are valid. -/
import Derived.Test.YtijafnejdibdlaaGreatDoorValid
import Derived.Test.YtijafnejdibdlaaGreatDoorSrc
import Derived.Test.YtijafnejdibdlaaGreatDoorTried
namespace Go.Proofs.YtijafnejdibdlaaGreatDoor
open Go.RowKit
theorem odd_mul_zero {v c d : Int} (hv : 0 ≤ v ∧ v < 18446744073709551616) (hcd : c * d % 18446744073709551616 = 1) (h : IntKind.u64.wrap (v * c) = 0) : v = 0 := by
  rw [IntKind.wrap_u64] at h
  have h1 : v * c % 18446744073709551616 = 0 := by simpa using h
  have h2 : v * c * d % 18446744073709551616 = 0 := by rw [Int.mul_emod, h1]; simp
  rw [Int.mul_assoc, Int.mul_emod, hcd, Int.mul_one, Int.emod_emod_of_dvd _ (Int.dvd_refl _)] at h2
  omega
theorem xsh_zero {v : Int} {k : Int} (hk : 1 < k) (hv : 0 ≤ v ∧ v < 18446744073709551616) (h : bits .xor .u64 v (v / k) = 0) : v = 0 := by
  have h0 : 0 ≤ v / k := Int.ediv_nonneg hv.1 (by omega)
  have h1 : v / k ≤ v := Int.ediv_le_self _ hv.1
  have e := xor_eq_zero hv ⟨h0, by omega⟩ h
  rcases Int.lt_or_eq_of_le hv.1 with hp | hp
  · have := Int.ediv_lt_self_of_pos_of_ne_one hp (y := k) (by omega)
    omega
  · exact hp.symm
theorem mix_zero {a : Int} (ha : 0 ≤ a ∧ a < 18446744073709551616) (h : mixI a = 0) : a = 0 := by
  unfold mixI at h
  dsimp only at h
  have h1 := xsh_zero (by decide) ⟨u64_ge _, u64_lt _⟩ h
  have h2 := odd_mul_zero (d := 3573116690164977347) ⟨xor_ge _ _, xor_lt _ _⟩ (by decide) h1
  have h3 := xsh_zero (by decide) ⟨u64_ge _, u64_lt _⟩ h2
  have h4 := odd_mul_zero (d := 10871156337175269513) ⟨xor_ge _ _, xor_lt _ _⟩ (by decide) h3
  exact xsh_zero (by decide) ha h4
theorem or_one_odd {a : Int} (ha : 0 ≤ a ∧ a < 18446744073709551616) : bits .or .u64 a 1 % 2 = 1 := by
  obtain ⟨x, rfl⟩ := Int.eq_ofNat_of_zero_le ha.1
  have e : bits .or .u64 (x : Int) 1 = ((x ||| 1 : Nat) : Int) := bits_or_u64_nat x 1 (by omega) (by omega)
  rw [e]
  have : (x ||| 1) % 2 = 1 := by
    have h := Nat.or_mod_two_pow (a := x) (b := 1) (n := 1)
    rw [show (2 : Nat) ^ 1 = 2 from rfl] at h
    rw [h]
    rcases Nat.mod_two_eq_zero_or_one x with e | e <;> rw [e] <;> decide
  omega
theorem drawn_valid {x y z : Int} (hx : 0 ≤ x ∧ x < 4) (hy : 0 ≤ y ∧ y < 1000000) : validB ⟨x, mixI (y + 1), bits .or .u64 (mixI (z + 7)) 1⟩ = true := by
  have hb : bits .or .u64 (mixI (z + 7)) 1 % 2 = 1 := or_one_odd ⟨mixI_ge _, mixI_lt _⟩
  have ha : mixI (y + 1) ≠ 0 := fun e => by have := mix_zero (a := y + 1) (by omega) e; omega
  have hb0 : bits .or .u64 (mixI (z + 7)) 1 ≠ 0 := fun e => by rw [e] at hb; cases hb
  unfold validB
  dsimp only
  split
  · rw [hb]; rfl
  split
  · simpa using ha
  split
  · simp [hb0]
  · have : x = 2 := by omega
    rw [this]; rfl
end Go.Proofs.YtijafnejdibdlaaGreatDoor
