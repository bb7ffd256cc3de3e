/- 'LogNumber' of the program and of the reference, at what is greater than 0 and at most 1. -/
import Derived.Test.YtijafnejdibdlaaGreatDoorRoot
import Derived.Test.YtijafnejdibdlaaGreatDoorFin
namespace Go.Proofs.YtijafnejdibdlaaGreatDoor
open Go.RowKit Mag
set_option maxRecDepth 100000

def bitsOf : Value → Nat
  | .float _ b => b
  | _ => 0
theorem cn_num {k : FloatKind} {r v : Nat} (h : cn k r = v) (hv : isNaNB k v = false) : r = v := by
  by_cases hr : isNaNB k r = true
  · rw [cn_of_nan hr] at h
    rw [← h, qnan_isNaN] at hv
    cases hv
  · rwa [cn_of_not (by simpa using hr)] at h
theorem self_sub {k : FloatKind} {x : Nat} (h : FinK k x) : KV k (fop .sub k x x) = 0 := by
  obtain ⟨r, e, hs⟩ := sub_sk h h
  have : fop .sub k x x = r := by unfold fop floatBits; dsimp only; rw [e]; rfl
  rw [this]
  show sk k.format r = 0
  rw [hs]
  have ht : ∀ (s : Bool) (m : Nat) (i : Int), tot s m i (!s) m i = 0 := by
    intro s m i
    unfold tot sv
    cases s <;> simp <;> omega
  rw [ht]
  unfold srg sv rg
  simp
theorem fin_of_FinK {x : Nat} (h : FinK .f32 x) : finB x = true := by
  have h0 : FinK .f32 0 := (Rn.const (k := .f32) (lo := 0) (hi := 0) (by decide +kernel)).1
  have hk := self_sub h
  have hf : FinK .f32 (fop .sub .f32 x x) := by
    rw [FinK_iff, hk]; decide
  unfold finB
  rw [feq_KV hf h0, hk]
  decide +kernel
theorem Fin_one {a : Nat} (h2 : a ≤ 1065353216) : FinK .f32 a ∧ KV .f32 a = a := by
  have hk : KV .f32 a = a := sk_small (f := Ieee.single) (by show a < 2147483648; omega)
  refine ⟨?_, hk⟩
  rw [FinK_iff, hk]
  have : infK .f32 = 2139095040 := (by decide)
  omega
def yUp (x k : Nat) : Nat := x + k * Bd
def eN (k : Nat) : Nat := eF (-(k : Int))
def kE (j : Nat) : Nat := eF (25 - 2 * (j : Int))
theorem eN_zero : (0 : Nat) = eN 0 := by decide +kernel
theorem eN_succ {k : Nat} (h : k < 160) : fop .sub .f64 (eN k) 4607182418800017408 = eN (k + 1) := eF_down k (by omega)
theorem kE_zero : (4627730092099895296 : Nat) = kE 0 := by decide +kernel
theorem kE_succ : ∀ j : Nat, j < 13 → fop .sub .f64 (kE j) 4611686018427387904 = kE (j + 1) := by decide +kernel
theorem kE_ge : ∀ j : Nat, j < 13 → (FloatKind.f64.format.order (kE j) 4607182418800017408 == some .gt || FloatKind.f64.format.order (kE j) 4607182418800017408 == some .eq) = true := by decide +kernel
theorem kE_lt : (FloatKind.f64.format.order (kE 13) 4607182418800017408 == some .gt || FloatKind.f64.format.order (kE 13) 4607182418800017408 == some .eq) = false := by decide +kernel
/-- What is left of a counter that goes down by 2. -/
def kEm (b : Nat) : Nat := (KV .f64 b + 9223372036854775808).toNat
theorem kE_meas : ∀ j : Nat, j < 13 → kEm (kE (j + 1)) < kEm (kE j) := by decide +kernel
theorem kE_nan (j : Nat) : isNaNB .f64 (kE j) = false := eF_not_nan _
theorem eN_nan (j : Nat) : isNaNB .f64 (eN j) = false := eF_not_nan _
theorem yUp_lt {x k : Nat} (h2 : x ≤ 4607182418800017408) (hk : k ≤ nUp x) : yUp x k < 4609434218613702656 := by
  have a := nUp_hi h2
  have : k * Bd ≤ nUp x * Bd := Nat.mul_le_mul_right _ hk
  exact Nat.lt_of_le_of_lt (Nat.add_le_add_left this x) a
theorem yUp_fin {x k : Nat} (h2 : x ≤ 4607182418800017408) (hk : k ≤ nUp x) : FinK .f64 (yUp x k) ∧ KV .f64 (yUp x k) = yUp x k := by
  have := yUp_lt h2 hk
  exact ⟨Fin_nat (by simp only [Bd]; omega), KV_nat (by omega)⟩
theorem c75 : FinK .f64 4604930618986332160 ∧ KV .f64 4604930618986332160 = 4604930618986332160 := ⟨Fin_nat (by decide), KV_nat (by decide)⟩
theorem c15 : FinK .f64 4609434218613702656 ∧ KV .f64 4609434218613702656 = 4609434218613702656 := ⟨Fin_nat (by decide), KV_nat (by decide)⟩
theorem yUp_yes {x k : Nat} (h2 : x ≤ 4607182418800017408) (hk : k < nUp x) : (FloatKind.f64.format.order (yUp x k) 4604930618986332160 == some .lt) = true := by
  have a := yUp_fin h2 (Nat.le_of_lt hk)
  have b := flt_KV a.1 c75.1
  unfold flt at b
  rw [b, a.2, c75.2]
  have : yUp x k < 4604930618986332160 := nUp_lt hk
  simp only [decide_eq_true_eq]
  omega
theorem yUp_no {x : Nat} (h2 : x ≤ 4607182418800017408) : (FloatKind.f64.format.order (yUp x (nUp x)) 4604930618986332160 == some .lt) = false := by
  have a := yUp_fin h2 (Nat.le_refl _)
  have b := flt_KV a.1 c75.1
  unfold flt at b
  rw [b, a.2, c75.2]
  have : 4604930618986332160 ≤ yUp x (nUp x) := nUp_ge x
  simp only [decide_eq_false_iff_not]
  omega
theorem yUp_small {x k : Nat} (h2 : x ≤ 4607182418800017408) (hk : k ≤ nUp x) : (FloatKind.f64.format.order (yUp x k) 4609434218613702656 == some .gt || FloatKind.f64.format.order (yUp x k) 4609434218613702656 == some .eq) = false := by
  have a := yUp_fin h2 hk
  have b := fge_KV a.1 c15.1
  unfold fge at b
  rw [b, a.2, c15.2]
  have := yUp_lt h2 hk
  simp only [decide_eq_false_iff_not]
  omega
theorem yUp_dbl {x k : Nat} (h1 : 873 * Bd ≤ x) (h2 : x ≤ 4607182418800017408) (hk : k < nUp x) : fop .mul .f64 (yUp x k) 4611686018427387904 = yUp x (k + 1) := by
  have a := yUp_lt h2 (Nat.le_of_lt hk)
  have b : yUp x (k + 1) = yUp x k + Bd := by unfold yUp; rw [Nat.succ_mul]; omega
  rw [b]
  refine dbl_word ?_ (by simp only [Bd]; omega)
  unfold yUp
  simp only [Bd] at *
  omega
theorem yUp_num {x k : Nat} (h2 : x ≤ 4607182418800017408) (hk : k ≤ nUp x) : isNaNB .f64 (yUp x k) = false := FinK_not_nan (yUp_fin h2 hk).1
theorem yUp_meas {x k : Nat} (h2 : x ≤ 4607182418800017408) (hk : k < nUp x) : 9223372036854775808 - yUp x (k + 1) < 9223372036854775808 - yUp x k := by
  have a := yUp_lt h2 (show k + 1 ≤ nUp x from hk)
  have b : yUp x (k + 1) = yUp x k + Bd := by unfold yUp; rw [Nat.succ_mul]; omega
  rw [b] at a ⊢
  simp only [Bd] at *
  omega

end Go.Proofs.YtijafnejdibdlaaGreatDoor
