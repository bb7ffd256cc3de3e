/- Elementary functions: doublings and halvings are exact; the logarithm, the exponential and their ranges. No program in sight. -/
import Derived.Test.YtijafnejdibdlaaGreatDoorMagF
namespace Go.Proofs.YtijafnejdibdlaaGreatDoor
open Go.RowKit Mag

/-- The word of a whole number. -/
def eF (n : Int) : Nat := FloatKind.f64.nearest n
theorem eF_not_nan (n : Int) : isNaNB .f64 (eF n) = false := write_not_nan Ieee.double (.number (n < 0) n.natAbs 0) rfl
theorem eF_cn (n : Int) : cn .f64 (eF n) = eF n := cn_of_not (eF_not_nan n)
theorem eF_down : ∀ n : Nat, n < 200 → fop .sub .f64 (eF (-(n : Int))) 4607182418800017408 = eF (-((n + 1 : Nat) : Int)) := by decide +kernel
theorem eF_up : ∀ n : Nat, n < 200 → fop .add .f64 (eF (n : Int)) 4607182418800017408 = eF ((n + 1 : Nat) : Int) := by decide +kernel
theorem eF_less : ∀ n : Nat, n < 30 → fop .sub .f64 (eF ((n + 1 : Nat) : Int)) 4607182418800017408 = eF (n : Int) := by decide +kernel
theorem eF_less2 : ∀ n : Nat, n < 30 → fop .sub .f64 (eF ((n + 2 : Nat) : Int)) 4611686018427387904 = eF (n : Int) := by decide +kernel
theorem eF_ge1 : ∀ n : Nat, n < 30 → fge .f64 (eF ((n + 1 : Nat) : Int)) 4607182418800017408 = true := by decide +kernel
theorem eF_ge0 : fge .f64 (eF 0) 4607182418800017408 = false := by decide +kernel
theorem eF_zero : eF 0 = 0 := by decide +kernel

/-- Rungs to one binade of float64. -/
abbrev Bd : Nat := 4503599627370496
theorem magM_bin {x : Nat} (h : Bd ≤ x) : magM Ieee.double (x + Bd) = magM Ieee.double x ∧ magE Ieee.double (x + Bd) = magE Ieee.double x + 1 := by
  have hb : Ieee.double.binade = Bd := rfl
  unfold magM magE
  rw [hb, if_neg (by omega), if_neg (by omega), if_neg (by omega), if_neg (by omega)]
  have e1 : (x + Bd) % Bd = x % Bd := Nat.add_mod_right x Bd
  have e2 : (x + Bd) / Bd = x / Bd + 1 := Nat.add_div_right x (by decide)
  have e3 : 1 ≤ x / Bd := (Nat.le_div_iff_mul_le (by decide)).2 (by omega)
  rw [e1, e2]
  exact ⟨rfl, by omega⟩
theorem two_mag : magM Ieee.double 4611686018427387904 = Bd ∧ magE Ieee.double 4611686018427387904 = -51 := by decide
theorem dbl_word {x : Nat} (h1 : Bd ≤ x) (h2 : x < 2046 * Bd) : fop .mul .f64 x 4611686018427387904 = x + Bd := by
  have hs : Ieee.double.signWeight = 9223372036854775808 := by decide
  have hi : Ieee.double.infRung = 2047 * Bd := by decide
  have hx : rungW Ieee.double x = x := rungW_small (by rw [hs]; simp only [Bd] at h2; omega)
  have hnx : negW Ieee.double x = false := negW_small (by rw [hs]; simp only [Bd] at h2; omega)
  have ht : rungW Ieee.double 4611686018427387904 = 4611686018427387904 := rungW_small (by rw [hs]; omega)
  have hnt : negW Ieee.double 4611686018427387904 = false := negW_small (by rw [hs]; omega)
  have hf : Fin_ Ieee.double x := by unfold Fin_; rw [hx, hi]; omega
  have hft : Fin_ Ieee.double 4611686018427387904 := by unfold Fin_; rw [ht, hi]; decide
  have hm := mul_fin hf hft
  rw [hx, hnx, ht, hnt, two_mag.1, two_mag.2] at hm
  unfold fop floatBits
  show (Ieee.double.mul x 4611686018427387904).getD _ = _
  rw [hm]
  obtain ⟨m1, m2⟩ := magM_bin h1
  have hr : rg Ieee.double (magM Ieee.double x * Bd) (magE Ieee.double x + -51) = x + Bd := by
    have hlt : x + Bd < Ieee.double.infRung := by rw [hi]; omega
    have a := rg_mag hlt
    rw [m1, m2] at a
    have e : ∀ M : Nat, M * Bd * 2 ^ (magE Ieee.double x + -51 - (magE Ieee.double x + -51)).toNat = M * 2 ^ (magE Ieee.double x + 1 - (magE Ieee.double x + -51)).toNat := by
      intro M
      have z1 : (magE Ieee.double x + -51 - (magE Ieee.double x + -51)).toNat = 0 := by omega
      have z2 : (magE Ieee.double x + 1 - (magE Ieee.double x + -51)).toNat = 52 := by omega
      rw [z1, z2]; show M * Bd * 1 = M * Bd; omega
    have u : MLe (magM Ieee.double x * Bd) (magE Ieee.double x + -51) (magM Ieee.double x) (magE Ieee.double x + 1) :=
      (mle_base (b := magE Ieee.double x + -51) (by omega) (by omega)).2 (Nat.le_of_eq (e _))
    have v : MLe (magM Ieee.double x) (magE Ieee.double x + 1) (magM Ieee.double x * Bd) (magE Ieee.double x + -51) :=
      (mle_base (b := magE Ieee.double x + -51) (by omega) (by omega)).2 (Nat.le_of_eq (e _).symm)
    have p := rg_mono Ieee.double u
    have q := rg_mono Ieee.double v
    omega
  rw [hr, Option.getD_some]
  unfold Ieee.Format.word
  rw [if_neg (by decide)]
theorem ee_aux (a b : Int) (h : a = b + 1) : a - -51 - 54 - 1 = b - 3 := by omega
theorem hlv_word {x : Nat} (h1 : 2 * Bd ≤ x) (h2 : x < 2047 * Bd) : fop .quo .f64 x 4611686018427387904 = x - Bd := by
  have hs : Ieee.double.signWeight = 9223372036854775808 := by decide
  have hi : Ieee.double.infRung = 2047 * Bd := by decide
  have hx : rungW Ieee.double x = x := rungW_small (by rw [hs]; simp only [Bd] at h2; omega)
  have hnx : negW Ieee.double x = false := negW_small (by rw [hs]; simp only [Bd] at h2; omega)
  have ht : rungW Ieee.double 4611686018427387904 = 4611686018427387904 := rungW_small (by rw [hs]; omega)
  have hnt : negW Ieee.double 4611686018427387904 = false := negW_small (by rw [hs]; omega)
  have hf : Fin_ Ieee.double x := by unfold Fin_; rw [hx, hi]; omega
  have hft : Fin_ Ieee.double 4611686018427387904 := by unfold Fin_; rw [ht, hi]; decide
  have hd : Ieee.double.div x 4611686018427387904 = some (Ieee.double.word false (rg Ieee.double (2 * (magM Ieee.double x * 2 ^ 54 / Bd) + (magM Ieee.double x * 2 ^ 54 % Bd != 0).toNat) (magE Ieee.double x - -51 - 54 - 1))) := by
    unfold Ieee.Format.div
    rw [read_fin hf, read_fin hft, hx, hnx, ht, hnt, two_mag.1, two_mag.2]
    have hb : Ieee.double.binade = Bd := rfl
    have hl : (magM Ieee.double x).log2 = 52 := by
      have hm : magM Ieee.double x = Bd + x % Bd := by unfold magM; rw [hb, if_neg (by omega)]
      have := Nat.mod_lt x (show 0 < Bd by decide)
      rw [hm]
      refine (Nat.log2_eq_iff (by omega)).2 ⟨?_, ?_⟩
      · show Bd ≤ _; omega
      · show _ < 2 * Bd; omega
    have hl2 : Bd.log2 = 52 := by decide
    unfold Ieee.Datum.quotient
    dsimp only
    have hmore : Ieee.double.fractionBits + 2 + 52 - 52 = 54 := rfl
    rw [if_neg (by decide), hl, hl2, hmore, Nat.shiftLeft_eq, Option.map_some]
    unfold Ieee.Format.write
    dsimp only
    rw [nearest_rg]
    have hff : (false ^^ false) = false := rfl
    have h54 : ((54 : Nat) : Int) = 54 := rfl
    rw [hff, h54]
  unfold fop floatBits
  show (Ieee.double.div x 4611686018427387904).getD _ = _
  rw [hd]
  have hy : Bd ≤ x - Bd := by omega
  obtain ⟨m1, m2⟩ := magM_bin hy
  have hxx : x - Bd + Bd = x := by omega
  rw [hxx] at m1 m2
  have q1 : magM Ieee.double x * 2 ^ 54 / Bd = magM Ieee.double x * 4 := by
    have : magM Ieee.double x * 2 ^ 54 = magM Ieee.double x * 4 * Bd := by rw [Nat.mul_assoc, show (2 : Nat) ^ 54 = 4 * Bd from rfl]
    rw [this]; exact Nat.mul_div_cancel _ (by decide)
  have q2 : magM Ieee.double x * 2 ^ 54 % Bd = 0 := by
    have : magM Ieee.double x * 2 ^ 54 = magM Ieee.double x * 4 * Bd := by rw [Nat.mul_assoc, show (2 : Nat) ^ 54 = 4 * Bd from rfl]
    rw [this]; exact Nat.mul_mod_left _ _
  rw [q1, q2]
  have hr : rg Ieee.double (2 * (magM Ieee.double x * 4) + (0 != 0).toNat) (magE Ieee.double x - -51 - 54 - 1) = x - Bd := by
    have hlt : x - Bd < Ieee.double.infRung := by rw [hi]; omega
    have a := rg_mag hlt
    have e8 : 2 * (magM Ieee.double x * 4) + ((0 : Nat) != 0).toNat = magM Ieee.double (x - Bd) * 8 := by
      have z0 : ((0 : Nat) != 0).toNat = 0 := rfl
      rw [m1, z0]; omega
    have ee : magE Ieee.double x - -51 - 54 - 1 = magE Ieee.double (x - Bd) - 3 := ee_aux _ _ m2
    rw [e8, ee]
    generalize magM Ieee.double (x - Bd) = M at *
    generalize magE Ieee.double (x - Bd) = E at *
    have e : M * 8 * 2 ^ (E - 3 - (E - 3)).toNat = M * 2 ^ (E - (E - 3)).toNat := by
      have z1 : (E - 3 - (E - 3)).toNat = 0 := by omega
      have z2 : (E - (E - 3)).toNat = 3 := by omega
      rw [z1, z2]; show M * 8 * 1 = M * 8; exact Nat.mul_one _
    have u : MLe (M * 8) (E - 3) M E := (mle_base (b := E - 3) (by omega) (by omega)).2 (Nat.le_of_eq e)
    have v : MLe M E (M * 8) (E - 3) := (mle_base (b := E - 3) (by omega) (by omega)).2 (Nat.le_of_eq e.symm)
    have p := rg_mono Ieee.double u
    have q := rg_mono Ieee.double v
    omega
  rw [hr, Option.getD_some]
  unfold Ieee.Format.word
  rw [if_neg (by decide)]
/-- A word without a sign bit is its own key. -/
theorem KV_nat {x : Nat} (h : x < 9223372036854775808) : KV .f64 x = x := by
  show sk Ieee.double x = x
  exact sk_small (by show x < 9223372036854775808; exact h)
theorem Fin_nat {x : Nat} (h : x < 2047 * Bd) : FinK .f64 x := by
  have hi : infK .f64 = ((2047 * Bd : Nat) : Int) := by decide
  rw [FinK_iff, KV_nat (by simp only [Bd] at h; omega), hi]
  omega
theorem nat_of_KV {x : Nat} {z : Nat} (hw : x < 18446744073709551616) (h : KV .f64 x = z) (hz : 0 < z) : x = z := by
  have hs : Ieee.double.signWeight = 9223372036854775808 := by decide
  by_cases hlt : x < 9223372036854775808
  · rw [KV_nat hlt] at h; omega
  · exfalso
    have hn : negW FloatKind.f64.format x = true := by
      show negW Ieee.double x = true
      unfold negW; rw [hs]
      have : x / 9223372036854775808 = 1 := by omega
      rw [this]; rfl
    have := (KV_sign (k := .f64) (x := x)).2 hn
    omega

/-! The logarithm of what is greater than 0 and at most 1. -/
/-- How often x is doubled till it is at least 0.75. -/
def nUp (x : Nat) : Nat := (4604930618986332160 - x + (Bd - 1)) / Bd
theorem nUp_lt {x k : Nat} (hk : k < nUp x) : x + k * Bd < 4604930618986332160 := by
  unfold nUp at hk
  have := (Nat.lt_div_iff_mul_lt (by decide : 0 < Bd)).1 hk
  simp only [Bd] at this ⊢
  omega
theorem nUp_ge (x : Nat) : 4604930618986332160 ≤ x + nUp x * Bd := by
  unfold nUp
  have h1 := Nat.div_add_mod (4604930618986332160 - x + (Bd - 1)) Bd
  have h2 := Nat.mod_lt (4604930618986332160 - x + (Bd - 1)) (by decide : 0 < Bd)
  rw [Nat.mul_comm] at h1
  generalize (4604930618986332160 - x + (Bd - 1)) / Bd = d at *
  generalize (4604930618986332160 - x + (Bd - 1)) % Bd = m at *
  simp only [Bd] at *
  omega
theorem hi_aux (x z : Nat) (h : x + z < 4604930618986332160) : x + (z + Bd) < 4609434218613702656 := by simp only [Bd]; omega
theorem nUp_hi {x : Nat} (h : x ≤ 4607182418800017408) : x + nUp x * Bd < 4609434218613702656 := by
  by_cases h0 : nUp x = 0
  · rw [h0]; omega
  · have := nUp_lt (x := x) (k := nUp x - 1) (by omega)
    have e : nUp x * Bd = (nUp x - 1) * Bd + Bd := by rw [← Nat.succ_mul]; congr 1; omega
    rw [e]
    exact hi_aux _ _ this
theorem nUp_le {x : Nat} (h : 873 * Bd ≤ x) : nUp x < 160 := by
  rcases Nat.lt_or_ge (nUp x) 160 with h' | h'
  · exact h'
  · exfalso
    have := nUp_lt (x := x) (k := 159) (by omega)
    simp only [Bd] at *
    omega
def logQ (u : Nat) : Nat → Nat
  | 0 => 0
  | n + 1 => fop .add .f64 (fop .quo .f64 4607182418800017408 (eF (25 - 2 * (n : Int)))) (fop .mul .f64 u (logQ u n))
def logS (y : Nat) : Nat := fop .quo .f64 (fop .sub .f64 y 4607182418800017408) (fop .add .f64 y 4607182418800017408)
def logEnd (s q e : Nat) : Nat := fop .add .f64 (fop .mul .f64 4611686018427387904 (fop .mul .f64 s q)) (fop .mul .f64 e 4604418534313441775)
def log64 (x : Nat) : Nat := logEnd (logS (x + nUp x * Bd)) (logQ (fop .mul .f64 (logS (x + nUp x * Bd)) (logS (x + nUp x * Bd))) 13) (eF (-(nUp x : Int)))
theorem logS_rn {y : Nat} (h1 : 4604930618986332160 ≤ y) (h2 : y < 4609434218613702656) : Rn .f64 (-(4599075939470750515 : Nat)) (4599075939470750515 : Nat) (logS y) := by
  have hy : Rn .f64 4604930618986332160 4609434218613702656 y := ⟨Fin_nat (by simp only [Bd]; omega), by rw [KV_nat (by omega)]; omega, by rw [KV_nat (by omega)]; omega⟩
  have h1' : Rn .f64 4607182418800017408 4607182418800017408 4607182418800017408 := Rn.const (by decide +kernel)
  have a : Rn .f64 (-(4602678819172646912 : Nat)) (4602678819172646912 : Nat) (fop .sub .f64 y 4607182418800017408) := hy.sub h1' (by decide +kernel)
  have b : Rn .f64 (4610560118520545280 : Nat) 4612811918334230528 (fop .add .f64 y 4607182418800017408) := hy.add h1' (by decide +kernel)
  exact a.div b (by decide +kernel)
theorem kF_rn : ∀ n : Nat, n < 13 → rnB .f64 (0 : Nat) (4607182418800017408 : Nat) (fop .quo .f64 4607182418800017408 (eF (25 - 2 * (n : Int)))) = true := by decide +kernel
theorem logQ_rn {u : Nat} (hu : Rn .f64 0 (4591870180066957722 : Nat) u) : ∀ n : Nat, n ≤ 13 → Rn .f64 (0 : Nat) (4611686018427387904 : Nat) (logQ u n)
  | 0, _ => by show Rn .f64 _ _ 0; exact Rn.const (by decide +kernel)
  | n + 1, h => by
    unfold logQ
    have a := Rn.const (kF_rn n (by omega))
    have b : Rn .f64 0 (4600877379321698714 : Nat) (fop .mul .f64 u (logQ u n)) := hu.mulP (logQ_rn hu n (by omega)) (by decide +kernel)
    exact a.add b (by decide +kernel)
theorem eF_rn : ∀ n : Nat, n < 160 → rnB .f64 (-(4639833516098453504 : Nat)) (4639833516098453504 : Nat) (eF (-(n : Int))) = true := by decide +kernel
theorem sq_rn {k : FloatKind} {p r : Nat} {x : Nat} (hx : Rn k (-p) p x) (h : chkMul k p p r = true) : Rn k 0 r (fop .mul k x x) := by
  have a := hx.mul hx h
  have a1 := KV_abs k x
  obtain ⟨_, h2⟩ := mul_fop (x := x) (y := x) (p := p) (q := p) (by have := hx.2; omega) (by have := hx.2; omega) h
  have : negW k.format (fop .mul k x x) = false := by rw [h2]; cases negW k.format x <;> rfl
  have := (KV_sign (k := k) (x := fop .mul k x x)).1 this
  exact ⟨a.1, by omega, a.2.2⟩
theorem log64_rn {x : Nat} (h1 : 873 * Bd ≤ x) (h2 : x ≤ 4607182418800017408) : Rn .f64 (-(4641240890982006784 : Nat)) (4641240890982006784 : Nat) (log64 x) := by
  have hs := logS_rn (nUp_ge x) (nUp_hi h2)
  unfold log64 logEnd
  have hu : Rn .f64 0 (4591870180066957722 : Nat) (fop .mul .f64 (logS (x + nUp x * Bd)) (logS (x + nUp x * Bd))) := sq_rn hs (by decide +kernel)
  have hq := logQ_rn hu 13 (by omega)
  have hq' : Rn .f64 (-(4611686018427387904 : Nat)) (4611686018427387904 : Nat) _ := hq.weak (by decide) (by decide)
  have he := Rn.const (eF_rn (nUp x) (nUp_le h1))
  have c2 : Rn .f64 (-(4611686018427387904 : Nat)) (4611686018427387904 : Nat) 4611686018427387904 := Rn.const (by decide +kernel)
  have cl : Rn .f64 (-(4604418534313441775 : Nat)) (4604418534313441775 : Nat) 4604418534313441775 := Rn.const (by decide +kernel)
  have a : Rn .f64 (-(4607182418800017408 : Nat)) (4607182418800017408 : Nat) _ := hs.mul hq' (by decide +kernel)
  have b : Rn .f64 (-(4611686018427387904 : Nat)) (4611686018427387904 : Nat) _ := c2.mul a (by decide +kernel)
  have c : Rn .f64 (-(4640537203540230144 : Nat)) (4640537203540230144 : Nat) _ := he.mul cl (by decide +kernel)
  exact b.add c (by decide +kernel)
/-- The logarithm of a float32 that is greater than 0 and at most 1. -/
def logF (a : Nat) : Nat := narrow (log64 (widen a))
theorem widen_01 {a : Nat} (h1 : 1 ≤ a) (h2 : a ≤ 1065353216) : 873 * Bd ≤ widen a ∧ widen a ≤ 4607182418800017408 := by
  have ka : KV .f32 a = a := sk_small (f := Ieee.single) (by show a < 2147483648; omega)
  have ha : Rn .f32 1 1065353216 a := ⟨by rw [FinK_iff, ka]; have : infK .f32 = 2139095040 := (by decide); omega, by rw [ka]; omega, by rw [ka]; omega⟩
  have hw : Rn .f64 ((873 * Bd : Nat) : Int) 4607182418800017408 (widen a) := ha.widen (by decide +kernel)
  have hlt : widen a < 18446744073709551616 := by
    rw [widen_eq ha.1]
    exact Ieee.Format.write_lt Ieee.double _
  obtain ⟨z, hz⟩ : ∃ z : Nat, KV .f64 (widen a) = z := ⟨(KV .f64 (widen a)).toNat, by have := hw.2.1; omega⟩
  have hpos : 0 < z := by have := hw.2.1; simp only [Bd] at this; omega
  have := nat_of_KV hlt hz hpos
  have l := hw.2.1; have u := hw.2.2
  rw [hz] at l u
  omega
theorem log64_fits {x : Nat} (h1 : 873 * Bd ≤ x) (h2 : x ≤ 4607182418800017408) : fitsN (log64 x) := (log64_rn h1 h2).fits (by decide +kernel)
theorem logF_rn {a : Nat} (h1 : 1 ≤ a) (h2 : a ≤ 1065353216) : Rn .f32 (-(1128792064 : Nat)) (1128792064 : Nat) (logF a) := (log64_rn (widen_01 h1 h2).1 (widen_01 h1 h2).2).narrow (by decide +kernel)
end Go.Proofs.YtijafnejdibdlaaGreatDoor
