/- Sines of turns: the plain side. No program in sight. -/
import Derived.Test.YtijafnejdibdlaaGreatDoorRoot
import Derived.Test.YtijafnejdibdlaaGreatDoorNeg
namespace Go.Proofs.YtijafnejdibdlaaGreatDoor
open Go.RowKit Mag
set_option maxRecDepth 100000
/-- At least 0 and less than 1. -/
def In01 (x : Nat) : Prop := Rn .f64 (0 : Nat) (4607182418800017407 : Nat) x
theorem magE_small {r : Nat} (h : r < 4607182418800017408) : magE Ieee.double r ≤ -53 := by
  have hb : Ieee.double.binade = Bd := rfl
  have hl : Ieee.double.leastPlace = -1074 := by decide
  unfold magE
  rw [hb, hl]
  split
  · omega
  · have : r / Bd < 1023 := (Nat.div_lt_iff_lt_mul (by decide)).2 (by simp only [Bd]; omega)
    omega
theorem magM_small (r : Nat) : magM Ieee.double r < 2 ^ 53 := by
  have := magM_lt Ieee.double r
  have hb : 2 * Ieee.double.binade = 2 ^ 53 := rfl
  omega
theorem cut_zero_small (s : Bool) {m drop : Nat} (hm : m < 2 ^ 53) (hd : 53 ≤ drop) : Ieee.Toward.zero.cut s m drop = 0 := by
  unfold Ieee.Toward.cut
  dsimp only
  have h0 : m / (1 <<< min drop (m.log2 + 2)) = 0 := by
    rw [Nat.shiftLeft_eq, Nat.one_mul]
    apply Nat.div_eq_of_lt
    rcases Nat.le_total drop (m.log2 + 2) with h | h
    · rw [Nat.min_eq_left h]
      exact Nat.lt_of_lt_of_le hm (Nat.pow_le_pow_right (by omega) hd)
    · rw [Nat.min_eq_right h]
      have := @Nat.lt_log2_self m
      exact Nat.lt_of_lt_of_le this (Nat.pow_le_pow_right (by omega) (by omega))
  rw [h0]; rfl
theorem in01_rung {x : Nat} (h : In01 x) : rungW Ieee.double x < 4607182418800017408 := by
  have a := KV_abs .f64 x
  have h2 := h.2
  have : (KV .f64 x).natAbs = rungW Ieee.double x := a
  omega
theorem integral_01 {x : Nat} (h : In01 x) : (FloatKind.f64.decode x).integral .zero = .number (negW Ieee.double x) 0 0 := by
  have hr := in01_rung h
  have hm := magM_small (rungW Ieee.double x)
  have he := magE_small hr
  rw [decode_fin h.1]
  show Ieee.Datum.number _ (Ieee.Toward.zero.cut _ (magM Ieee.double (rungW Ieee.double x) <<< (magE Ieee.double (rungW Ieee.double x)).toNat) (-(magE Ieee.double (rungW Ieee.double x))).toNat) 0 = _
  have e0 : (magE Ieee.double (rungW Ieee.double x)).toNat = 0 := by omega
  rw [e0, Nat.shiftLeft_zero, cut_zero_small _ hm (by omega)]
  rfl
def truncV (x : Nat) : Nat := FloatKind.f64.encode (.number (negW Ieee.double x) 0 0)
theorem truncV_eq (x : Nat) : (FloatKind.f64.format.order (truncV x) 0 == some .eq) = true := by
  unfold truncV
  cases negW Ieee.double x <;> decide +kernel
theorem toInt_01 {x : Nat} (h : In01 x) : floatToIntVal .f64 x .i64 = some 0 := by
  unfold floatToIntVal Ieee.Datum.toInt
  rw [integral_01 h]
  have : Ieee.signed (negW Ieee.double x) 0 0 = 0 := by cases negW Ieee.double x <;> rfl
  simp only [this]
  rfl
/-- Rounds of a quarter that are taken away. -/
def itF (t : Nat) : Nat → Nat
  | 0 => fop .sub .f64 t 0
  | n + 1 => fop .sub .f64 (itF t n) 4598175219545276416
def quarterB (x : Nat) : Bool := FloatKind.f64.format.order x 4598175219545276416 == some .gt || FloatKind.f64.format.order x 4598175219545276416 == some .eq
theorem c25 : Rn .f64 (4598175219545276416 : Nat) (4598175219545276416 : Nat) 4598175219545276416 := Rn.const (by decide +kernel)
theorem c0 : Rn .f64 (0 : Nat) (0 : Nat) 0 := Rn.const (by decide +kernel)
theorem quarterB_KV {x : Nat} (h : FinK .f64 x) : quarterB x = decide ((4598175219545276416 : Int) ≤ KV .f64 x) := by
  have := fge_KV h c25.1
  unfold fge at this
  unfold quarterB
  have e : KV .f64 4598175219545276416 = 4598175219545276416 := by decide +kernel
  rw [this, e]
theorem it0_rn {t : Nat} (h : In01 t) : Rn .f64 (0 : Nat) (4607182418800017408 : Nat) (itF t 0) := h.sub c0 (by decide +kernel)
theorem it1_rn {t : Nat} (h : In01 t) (h0 : quarterB (itF t 0) = true) : Rn .f64 (0 : Nat) (4604930618986332160 : Nat) (itF t 1) := by
  have a := it0_rn h
  have b : Rn .f64 (4598175219545276416 : Nat) (4607182418800017408 : Nat) (itF t 0) := ⟨a.1, by rw [quarterB_KV a.1] at h0; simpa using h0, a.2.2⟩
  exact b.sub c25 (by decide +kernel)
theorem it2_rn {t : Nat} (h : In01 t) (h0 : quarterB (itF t 0) = true) (h1 : quarterB (itF t 1) = true) : Rn .f64 (0 : Nat) (4602678819172646912 : Nat) (itF t 2) := by
  have a := it1_rn h h0
  have b : Rn .f64 (4598175219545276416 : Nat) (4604930618986332160 : Nat) (itF t 1) := ⟨a.1, by rw [quarterB_KV a.1] at h1; simpa using h1, a.2.2⟩
  exact b.sub c25 (by decide +kernel)
theorem it3_rn {t : Nat} (h : In01 t) (h0 : quarterB (itF t 0) = true) (h1 : quarterB (itF t 1) = true) (h2 : quarterB (itF t 2) = true) : Rn .f64 (0 : Nat) (4598175219545276416 : Nat) (itF t 3) := by
  have a := it2_rn h h0 h1
  have b : Rn .f64 (4598175219545276416 : Nat) (4602678819172646912 : Nat) (itF t 2) := ⟨a.1, by rw [quarterB_KV a.1] at h2; simpa using h2, a.2.2⟩
  exact b.sub c25 (by decide +kernel)
theorem it4_rn {t : Nat} (h : In01 t) (h0 : quarterB (itF t 0) = true) (h1 : quarterB (itF t 1) = true) (h2 : quarterB (itF t 2) = true) (h3 : quarterB (itF t 3) = true) : Rn .f64 (0 : Nat) (0 : Nat) (itF t 4) := by
  have a := it3_rn h h0 h1 h2
  have b : Rn .f64 (4598175219545276416 : Nat) (4598175219545276416 : Nat) (itF t 3) := ⟨a.1, by rw [quarterB_KV a.1] at h3; simpa using h3, a.2.2⟩
  exact b.sub c25 (by decide +kernel)
/-- How often a quarter is taken away. -/
def nT (t : Nat) : Nat := if quarterB (itF t 0) = true then (if quarterB (itF t 1) = true then (if quarterB (itF t 2) = true then (if quarterB (itF t 3) = true then 4 else 3) else 2) else 1) else 0
theorem nT_yes {t k : Nat} (hk : k < nT t) : quarterB (itF t k) = true := by
  unfold nT at hk
  split at hk
  · split at hk
    · split at hk
      · split at hk
        · rcases (by omega : k = 0 ∨ k = 1 ∨ k = 2 ∨ k = 3) with rfl | rfl | rfl | rfl <;> assumption
        · rcases (by omega : k = 0 ∨ k = 1 ∨ k = 2) with rfl | rfl | rfl <;> assumption
      · rcases (by omega : k = 0 ∨ k = 1) with rfl | rfl <;> assumption
    · rcases (by omega : k = 0) with rfl; assumption
  · omega
theorem nT_no {t : Nat} (h : In01 t) : quarterB (itF t (nT t)) = false ∧ Rn .f64 (0 : Nat) (4607182418800017408 : Nat) (itF t (nT t)) := by
  unfold nT
  split
  · rename_i h0
    split
    · rename_i h1
      split
      · rename_i h2
        split
        · rename_i h3
          have a := it4_rn h h0 h1 h2 h3
          refine ⟨?_, a.weak (by omega) (by omega)⟩
          rw [quarterB_KV a.1]
          have := a.2
          simp only [decide_eq_false_iff_not]; omega
        · rename_i h3
          exact ⟨by simpa using h3, (it3_rn h h0 h1 h2).weak (by omega) (by omega)⟩
      · rename_i h2
        exact ⟨by simpa using h2, (it2_rn h h0 h1).weak (by omega) (by omega)⟩
    · rename_i h1
      exact ⟨by simpa using h1, (it1_rn h h0).weak (by omega) (by omega)⟩
  · rename_i h0
    exact ⟨by simpa using h0, it0_rn h⟩
theorem nT_le (t : Nat) : nT t ≤ 4 := by unfold nT; repeat (first | omega | split)
/-- What is left: at least 0, less than a quarter. -/
theorem left_rn {t : Nat} (h : In01 t) : Rn .f64 (0 : Nat) (4598175219545276415 : Nat) (itF t (nT t)) := by
  obtain ⟨a, b⟩ := nT_no h
  rw [quarterB_KV b.1] at a
  simp only [decide_eq_false_iff_not] at a
  exact ⟨b.1, b.2.1, by omega⟩
theorem left_q {t : Nat} (h : In01 t) : Rn .f64 (0 : Nat) (4598175219545276416 : Nat) (itF t (nT t)) := (left_rn h).weak (by omega) (by omega)
theorem rest_q {t : Nat} (h : In01 t) : Rn .f64 (0 : Nat) (4598175219545276416 : Nat) (fop .sub .f64 4598175219545276416 (itF t (nT t))) := c25.sub (left_q h) (by decide +kernel)
/-- At least 0, at most a quarter. -/
def InQ (y : Nat) : Prop := Rn .f64 (0 : Nat) (4598175219545276416 : Nat) y
theorem InQ.in01 {y : Nat} (h : InQ y) : In01 y := h.weak (by omega) (by omega)
theorem sub0_q {y : Nat} (h : InQ y) : InQ (fop .sub .f64 y 0) := h.sub c0 (by decide +kernel)
def dK (n : Nat) : Nat := eF (2 * (8 - (n : Int)) * (2 * (8 - (n : Int)) + 1))
theorem dK_rn : ∀ n : Nat, n < 8 → rnB .f64 (4618441417868443648 : Nat) (4643492690795692032 : Nat) (dK n) = true := by decide +kernel
def sineP (u : Nat) : Nat → Nat
  | 0 => 4607182418800017408
  | n + 1 => fop .sub .f64 4607182418800017408 (fop .quo .f64 (fop .mul .f64 u (sineP u n)) (dK n))
def sineZ (y : Nat) : Nat := fop .mul .f64 (fop .sub .f64 y 0) 4618760256179416344
def sineF (y : Nat) : Nat := fop .mul .f64 (sineZ y) (sineP (fop .mul .f64 (sineZ y) (sineZ y)) 8)
theorem sineZ_rn {y : Nat} (h : InQ y) : Rn .f64 (-(4611686018427387904 : Nat)) (4611686018427387904 : Nat) (sineZ y) := by
  have a : Rn .f64 (-(4598175219545276416 : Nat)) (4598175219545276416 : Nat) (fop .sub .f64 y 0) := (sub0_q h).weak (by omega) (by omega)
  have c : Rn .f64 (-(4618760256179416344 : Nat)) (4618760256179416344 : Nat) 4618760256179416344 := Rn.const (by decide +kernel)
  exact a.mul c (by decide +kernel)
theorem sineP_rn {u : Nat} (hu : Rn .f64 (-(4616189618054758400 : Nat)) (4616189618054758400 : Nat) u) : ∀ n : Nat, n ≤ 8 → Rn .f64 (-(4616189618054758400 : Nat)) (4616189618054758400 : Nat) (sineP u n)
  | 0, _ => by show Rn .f64 _ _ 4607182418800017408; exact Rn.const (by decide +kernel)
  | n + 1, h => by
    unfold sineP
    have a : Rn .f64 (-(4625196817309499392 : Nat)) (4625196817309499392 : Nat) (fop .mul .f64 u (sineP u n)) := hu.mul (sineP_rn hu n (by omega)) (by decide +kernel)
    have b : Rn .f64 (-(4613937818241073152 : Nat)) (4613937818241073152 : Nat) (fop .quo .f64 (fop .mul .f64 u (sineP u n)) (dK n)) := a.div (Rn.const (dK_rn n (by omega))) (by decide +kernel)
    have c : Rn .f64 (4607182418800017408 : Nat) (4607182418800017408 : Nat) 4607182418800017408 := Rn.const (by decide +kernel)
    exact c.sub b (by decide +kernel)
theorem sineF_rn {y : Nat} (h : InQ y) : Rn .f64 (-(4620693217682128896 : Nat)) (4620693217682128896 : Nat) (sineF y) := by
  have hz := sineZ_rn h
  have hu : Rn .f64 (-(4616189618054758400 : Nat)) (4616189618054758400 : Nat) (fop .mul .f64 (sineZ y) (sineZ y)) := hz.mul hz (by decide +kernel)
  exact hz.mul (sineP_rn hu 8 (by omega)) (by decide +kernel)
theorem neg_rn {x : Nat} (h : Rn .f64 (-(4620693217682128896 : Nat)) (4620693217682128896 : Nat) x) : Rn .f64 (-(4620693217682128896 : Nat)) (4620693217682128896 : Nat) (fop .sub .f64 0 x) := c0.sub h (by decide +kernel)
/-- The parts of a point of the circle, in 64 bits. -/
def turnC (t : Nat) : Nat := sineF (fop .sub .f64 4598175219545276416 (itF t (nT t)))
def turnS (t : Nat) : Nat := sineF (itF t (nT t))
def turnRe (t : Nat) : Nat := if nT t = 1 then fop .sub .f64 0 (turnS t) else if nT t = 2 then fop .sub .f64 0 (turnC t) else if nT t = 3 then turnS t else turnC t
def turnIm (t : Nat) : Nat := if nT t = 1 then turnC t else if nT t = 2 then fop .sub .f64 0 (turnS t) else if nT t = 3 then fop .sub .f64 0 (turnC t) else turnS t
theorem turnC_rn {t : Nat} (h : In01 t) : Rn .f64 (-(4620693217682128896 : Nat)) (4620693217682128896 : Nat) (turnC t) := sineF_rn (rest_q h)
theorem turnS_rn {t : Nat} (h : In01 t) : Rn .f64 (-(4620693217682128896 : Nat)) (4620693217682128896 : Nat) (turnS t) := sineF_rn (left_q h)
theorem turnRe_rn {t : Nat} (h : In01 t) : Rn .f64 (-(4620693217682128896 : Nat)) (4620693217682128896 : Nat) (turnRe t) := by
  unfold turnRe
  split
  · exact neg_rn (turnS_rn h)
  · split
    · exact neg_rn (turnC_rn h)
    · split
      · exact turnS_rn h
      · exact turnC_rn h
theorem turnIm_rn {t : Nat} (h : In01 t) : Rn .f64 (-(4620693217682128896 : Nat)) (4620693217682128896 : Nat) (turnIm t) := by
  unfold turnIm
  split
  · exact turnC_rn h
  · split
    · exact neg_rn (turnS_rn h)
    · split
      · exact neg_rn (turnC_rn h)
      · exact turnS_rn h
theorem eight_fits {x : Nat} (h : Rn .f64 (-(4620693217682128896 : Nat)) (4620693217682128896 : Nat) x) : fitsN x := h.fits (by decide +kernel)
theorem eight_narrow {x : Nat} (h : Rn .f64 (-(4620693217682128896 : Nat)) (4620693217682128896 : Nat) x) : Rn .f32 (-(1090519040 : Nat)) (1090519040 : Nat) (narrow x) := h.narrow (by decide +kernel)
/-- A drawn share as a 64-bit word. -/
theorem share_neg (s : Sd) : negW Ieee.single (shareOf s) = false := by
  have hw := wordOf_ok s
  have h1 : 0 ≤ wordOf s / 256 := by omega
  have h2 : wordOf s / 256 ≤ 16777215 := by omega
  have a := floatOfInt_mono h1
  have b := floatOfInt_mono h2
  have e1 : KV .f32 (floatOfInt .f32 0) = 0 := by decide +kernel
  have e2 : KV .f32 (floatOfInt .f32 16777215) = 1266679807 := by decide +kernel
  rw [e1] at a
  rw [e2] at b
  have hn : Rn .f32 (-(1266679807 : Nat)) (1266679807 : Nat) (floatOfInt .f32 (wordOf s / 256)) := Rn.mk_ (by decide) (by omega) b (by decide)
  have hneg : negW Ieee.single (floatOfInt .f32 (wordOf s / 256)) = false := by
    show negW Ieee.single (Ieee.single.nearest _ _ _) = false
    rw [nearest_rg, negW_word _ _ (rg_le ..)]
    simp; omega
  have c : Rn .f32 (1266679808 : Nat) 1266679808 1266679808 := Rn.const (by decide +kernel)
  have hc : chkDiv .f32 1266679807 1266679808 1065353215 = true := by decide +kernel
  have hcn : negW Ieee.single 1266679808 = false := by decide
  simp only [chkDiv, Bool.and_eq_true, decide_eq_true_eq] at hc
  have a1 := KV_abs .f32 (floatOfInt .f32 (wordOf s / 256))
  have l1 : MLe (magM Ieee.single (rungW Ieee.single (floatOfInt .f32 (wordOf s / 256)))) (magE Ieee.single (rungW Ieee.single (floatOfInt .f32 (wordOf s / 256)))) (magM Ieee.single 1266679807) (magE Ieee.single 1266679807) := mag_mono (by have := hn.2; show rungW FloatKind.f32.format _ ≤ _; omega) (by decide)
  obtain ⟨z, hz, _, hs⟩ := div_le (f := Ieee.single) hn.1 c.1 hc.1.2 (by decide) (mle_trans l1 hc.2)
  have e : shareOf s = z := by
    show (Ieee.single.div _ _).getD _ = z
    rw [hz]; rfl
  rw [e, hs, hneg, hcn]; rfl
theorem share_wide (s : Sd) : widen (shareOf s) < 4607182418800017408 ∧ In01 (widen (shareOf s)) := by
  have hr := share_rn s
  have hw : Rn .f64 (0 : Nat) (4607182418800017407 : Nat) (widen (shareOf s)) := hr.widen (by decide +kernel)
  have hlt : widen (shareOf s) < 18446744073709551616 := by
    rw [widen_eq hr.1]
    exact Ieee.Format.write_lt Ieee.double _
  have hn : negW Ieee.double (widen (shareOf s)) = false := by
    rw [widen_eq hr.1, decode_fin hr.1]
    show negW Ieee.double (Ieee.double.nearest _ _ _) = false
    rw [nearest_rg, negW_word _ _ (rg_le ..)]
    exact share_neg s
  refine ⟨?_, hw⟩
  have hs : Ieee.double.signWeight = 9223372036854775808 := by decide
  by_cases hb : widen (shareOf s) < 9223372036854775808
  · have := hw.2.2
    rw [KV_nat hb] at this
    omega
  · exfalso
    unfold negW at hn
    rw [hs] at hn
    have : widen (shareOf s) / 9223372036854775808 = 1 := by omega
    rw [this] at hn
    cases hn
end Go.Proofs.YtijafnejdibdlaaGreatDoor
