/- The sign of a float turned round: keys, ranges, one NaN for all. No program in sight. -/
import Derived.Test.YtijafnejdibdlaaGreatDoorElem
namespace Go.Proofs.YtijafnejdibdlaaGreatDoor
open Go.RowKit Mag
theorem run_negF (P : Program) (k : FloatKind) (x : Nat) (w : World) : (Op.unary .neg (.float k x)).run P w = .ok (.float k (Op.negFloat k x)) w := rfl
theorem signWeight_two (k : FloatKind) : k.format.signWeight = 2 ^ (k.format.exponentBits + k.format.fractionBits) := rfl
theorem rungW_neg (k : FloatKind) (x : Nat) : rungW k.format (Op.negFloat k x) = rungW k.format x := by
  unfold rungW Op.negFloat
  rw [signWeight_two, Nat.xor_mod_two_pow, Nat.mod_self, Nat.xor_zero]
theorem negW_neg (k : FloatKind) (x : Nat) : negW k.format (Op.negFloat k x) = !negW k.format x := by
  unfold negW Op.negFloat
  rw [signWeight_two, Nat.xor_div_two_pow, Nat.div_self (Nat.two_pow_pos _)]
  have h := @Nat.xor_mod_two_pow (x / 2 ^ (k.format.exponentBits + k.format.fractionBits)) 1 1
  simp only [Nat.pow_one] at h
  rw [h]
  have h2 : x / 2 ^ (k.format.exponentBits + k.format.fractionBits) % 2 = 0 ∨ x / 2 ^ (k.format.exponentBits + k.format.fractionBits) % 2 = 1 := by omega
  rcases h2 with h2 | h2 <;> rw [h2] <;> rfl
theorem KV_neg (k : FloatKind) (x : Nat) : KV k (Op.negFloat k x) = -KV k x := by
  unfold KV sk
  rw [rungW_neg, negW_neg]
  unfold sv
  cases negW k.format x <;> simp
theorem FinK_neg {k : FloatKind} {x : Nat} (h : FinK k x) : FinK k (Op.negFloat k x) := by
  unfold FinK Fin_ at *
  rw [rungW_neg]; exact h
theorem Rn.neg {k : FloatKind} {lo hi : Int} {x : Nat} (h : Rn k lo hi x) : Rn k (-hi) (-lo) (Op.negFloat k x) := by
  have := h.2
  exact ⟨FinK_neg h.1, by rw [KV_neg]; omega, by rw [KV_neg]; omega⟩
theorem nan_rung (k : FloatKind) (x : Nat) : isNaNB k x = decide (k.format.infRung < rungW k.format x) := by
  have hb : k.format.binade ≤ k.format.infRung := by cases k <;> decide
  unfold isNaNB FloatKind.decode Ieee.Format.read
  dsimp only
  change (if rungW k.format x < k.format.binade then _ else if rungW k.format x < k.format.infRung then _ else if rungW k.format x = k.format.infRung then _ else _ : Ieee.Datum).isNaN = _
  split
  · rw [decide_eq_false (by omega)]; rfl
  · split
    · rw [decide_eq_false (by omega)]; rfl
    · split
      · rw [decide_eq_false (by omega)]; rfl
      · rw [decide_eq_true (by omega)]; rfl
theorem nan_neg (k : FloatKind) (x : Nat) : isNaNB k (Op.negFloat k x) = isNaNB k x := by rw [nan_rung, nan_rung, rungW_neg]
/-- The sign turned round, one NaN for all. -/
def negC (k : FloatKind) (x : Nat) : Nat := cn k (Op.negFloat k x)
theorem negC_cn (k : FloatKind) (x : Nat) : negC k (cn k x) = negC k x := by
  unfold negC
  by_cases h : isNaNB k x = true
  · rw [cn_of_nan (x := x) h, cn_of_nan (x := Op.negFloat k x) (by rw [nan_neg]; exact h), cn_of_nan (x := Op.negFloat k (qnan k)) (by rw [nan_neg]; exact qnan_isNaN k)]
  · rw [cn_of_not (x := x) (by simpa using h)]
theorem negC_l {k : FloatKind} {r v : Nat} (h : cn k r = v) : cn k (Op.negFloat k r) = negC k v := by rw [← h, negC_cn]; rfl
theorem negC_fin {k : FloatKind} {x : Nat} (h : FinK k x) : negC k x = Op.negFloat k x := (FinK_neg h).cn
/-- An operation whose result is told: no draw. -/
theorem run_fop_some {P : Program} {op : BinOp} (t : TypeId) (k : FloatKind) (x y v : Nat) (h : floatBits op k x y = some v) : ∀ w : World, (binOp op t (.float k x) (.float k y)).run P w = .ok (.float k v) w := fun w => run_float_arith w op t k x y v h
theorem sub_some {k : FloatKind} {x y : Nat} (hx : FinK k x) (hy : FinK k y) : floatBits .sub k x y = some (fop .sub k x y) := by
  obtain ⟨r, e, _⟩ := sub_sk hx hy
  unfold fop floatBits; dsimp only; rw [e]; rfl
theorem add_some {k : FloatKind} {x y : Nat} (hx : FinK k x) (hy : FinK k y) : floatBits .add k x y = some (fop .add k x y) := by
  obtain ⟨r, e, _⟩ := add_sk hx hy
  unfold fop floatBits; dsimp only; rw [e]; rfl
theorem mul_some {k : FloatKind} {x y : Nat} (hx : FinK k x) (hy : FinK k y) : floatBits .mul k x y = some (fop .mul k x y) := by
  have e := mul_fin hx hy
  unfold fop floatBits; dsimp only; rw [e]; rfl
theorem quo_some {k : FloatKind} {x y : Nat} (hx : FinK k x) (hy : FinK k y) (h0 : KV k y ≠ 0) : floatBits .quo k x y = some (fop .quo k x y) := by
  have hm : magM k.format (rungW k.format y) ≠ 0 := by
    intro e
    have := rg_mag (f := k.format) hy
    rw [e] at this
    have z : rungW k.format y = 0 := by rw [← this]; unfold rg; rw [if_pos rfl]
    have := KV_abs k y
    omega
  unfold fop floatBits
  dsimp only
  unfold Ieee.Format.div
  rw [read_fin hx, read_fin hy]
  unfold Ieee.Datum.quotient
  dsimp only
  rw [if_neg hm]
  rfl
end Go.Proofs.YtijafnejdibdlaaGreatDoor
