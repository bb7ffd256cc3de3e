/- 'PhasorOf' of the program and of the reference, at what is at least 0 and less than 1. -/
import Derived.Test.YtijafnejdibdlaaGreatDoorTurn
import Derived.Test.YtijafnejdibdlaaGreatDoorLog
namespace Go.Proofs.YtijafnejdibdlaaGreatDoor
open Go.RowKit Mag
set_option maxRecDepth 100000
attribute [local go_sem] run_negF
theorem run_bits (w : World) (x : Nat) : (callFunc 77 #[.float .f64 x]).run Tryz.prog w = .ok (.value (.int .u64 x)) w := by
  rw [run_callFunc_extern Tryz.func77 (by kernel_rfl) (by kernel_rfl) (by kernel_rfl) (e := Extern.MathFloatBits.float64bits) (by kernel_rfl)]
  rfl
theorem self_zero {x : Nat} (h : FinK .f64 x) : (FloatKind.f64.format.order (fop .sub .f64 x x) 0 != some .eq) = false := by
  have hk := self_sub h
  have hf : FinK .f64 (fop .sub .f64 x x) := by rw [FinK_iff, hk]; decide
  have := feq_KV hf c0.1
  unfold feq at this
  have e : KV .f64 0 = 0 := by decide +kernel
  rw [hk, e] at this
  rw [bne, this]; rfl
theorem run_trunc_entry {P : Program} (w : World) (x : Nat) (h : In01 x) : (Extern.MathFloor.toIntegral "math.archTrunc" .zero #[.float .f64 x]).run P w = .ok (.float .f64 (truncV x)) w := by
  have hi := integral_01 h
  have hd := decode_fin h.1
  change Sem.run P (match FloatKind.f64.decode x with
    | .nan s t =>
      if FloatKind.f64.format.quiet t = t then (pure (Value.float .f64 x) : Sem Value) else do
      let kept ← choose (.extern "math.Floor,Ceil,Trunc,RoundToEven.signallingNaN kept" 2)
      pure (Value.float .f64 (if kept == 1 then x else FloatKind.f64.encode (.nan s (FloatKind.f64.format.quiet t))))
    | d => pure (Value.float .f64 (FloatKind.f64.encode (d.integral .zero)))) w = _
  rw [hd] at hi ⊢
  dsimp only
  rw [hi]
  rfl
theorem sub0_01 {y : Nat} (h : In01 y) : Rn .f64 (0 : Nat) (4607182418800017408 : Nat) (fop .sub .f64 y 0) := h.sub c0 (by decide +kernel)
theorem not_lt0 {x : Nat} {hi : Int} (h : Rn .f64 (0 : Nat) hi x) : (FloatKind.f64.format.order x 0 == some .lt) = false := by
  have := flt_KV h.1 c0.1
  unfold flt at this
  have e : KV .f64 0 = 0 := by decide +kernel
  rw [this, e]
  have := h.2
  simp only [decide_eq_false_iff_not]; omega
theorem q_less {x : Nat} (h : InQ x) : (FloatKind.f64.format.order x 4602678819172646912 == some .gt || FloatKind.f64.format.order x 4602678819172646912 == some .eq) = false ∧ (FloatKind.f64.format.order x 4598175219545276416 == some .gt) = false := by
  have c5 : Rn .f64 (4602678819172646912 : Nat) (4602678819172646912 : Nat) 4602678819172646912 := Rn.const (by decide +kernel)
  have a := fge_KV h.1 c5.1
  have b := fgt_KV h.1 c25.1
  unfold fge at a
  unfold fgt at b
  have h1 := h.2; have h2 := c5.2; have h3 := c25.2
  rw [a, b]
  constructor <;> (simp only [decide_eq_false_iff_not]; omega)
def kS (j : Nat) : Nat := eF (8 - (j : Int))
theorem kS_zero : (4620693217682128896 : Nat) = kS 0 := by decide +kernel
theorem kS_succ : ∀ j : Nat, j < 8 → fop .sub .f64 (kS j) 4607182418800017408 = kS (j + 1) := by decide +kernel
theorem kS_ge : ∀ j : Nat, j < 8 → (FloatKind.f64.format.order (kS j) 4607182418800017408 == some .gt || FloatKind.f64.format.order (kS j) 4607182418800017408 == some .eq) = true := by decide +kernel
theorem kS_lt : (FloatKind.f64.format.order (kS 8) 4607182418800017408 == some .gt || FloatKind.f64.format.order (kS 8) 4607182418800017408 == some .eq) = false := by decide +kernel
theorem kS_nan (j : Nat) : isNaNB .f64 (kS j) = false := eF_not_nan _
theorem kS_meas : ∀ j : Nat, j < 8 → kEm (kS (j + 1)) < kEm (kS j) := by decide +kernel
theorem kS_div : ∀ j : Nat, j < 8 → fop .mul .f64 (fop .mul .f64 4611686018427387904 (kS j)) (fop .add .f64 (fop .mul .f64 4611686018427387904 (kS j)) 4607182418800017408) = dK j := by decide +kernel
theorem andNot_top (x : Nat) (h : x < 9223372036854775808) : bits .andNot .u64 (x : Int) 9223372036854775808 = x := by
  unfold bits
  show IntKind.u64.wrap (((BitVec.ofInt 64 (x : Int)) &&& ~~~(BitVec.ofInt 64 9223372036854775808)).toNat : Int) = x
  have e1 : (~~~(BitVec.ofInt 64 9223372036854775808)).toNat = 2 ^ 63 - 1 := by decide
  have e2 : (BitVec.ofInt 64 (x : Int)).toNat = x := by
    rw [BitVec.toNat_ofInt]
    omega
  rw [BitVec.toNat_and, e1, e2, Nat.and_two_pow_sub_one_eq_mod, Nat.mod_eq_of_lt h]
  exact IntKind.wrap_u64 _ |>.trans (by omega)
theorem it_rn {t k : Nat} (h : In01 t) (hk : k ≤ nT t) : Rn .f64 (0 : Nat) (4607182418800017408 : Nat) (itF t k) := by
  have h4 := nT_le t
  rcases (by omega : k = 0 ∨ k = 1 ∨ k = 2 ∨ k = 3 ∨ k = 4) with rfl | rfl | rfl | rfl | rfl
  · exact it0_rn h
  · exact (it1_rn h (nT_yes (by omega))).weak (by omega) (by omega)
  · exact (it2_rn h (nT_yes (by omega)) (nT_yes (by omega))).weak (by omega) (by omega)
  · exact (it3_rn h (nT_yes (by omega)) (nT_yes (by omega)) (nT_yes (by omega))).weak (by omega) (by omega)
  · exact (it4_rn h (nT_yes (by omega)) (nT_yes (by omega)) (nT_yes (by omega)) (nT_yes (by omega))).weak (by omega) (by omega)
def phRe (t : Nat) : Nat := narrow (turnRe t)
def phIm (t : Nat) : Nat := narrow (turnIm t)
theorem phRe_rn {t : Nat} (h : In01 t) : Rn .f32 (-(1090519040 : Nat)) (1090519040 : Nat) (phRe t) := eight_narrow (turnRe_rn h)
theorem phIm_rn {t : Nat} (h : In01 t) : Rn .f32 (-(1090519040 : Nat)) (1090519040 : Nat) (phIm t) := eight_narrow (turnIm_rn h)
theorem turn_sel (t : Nat) : (nT t = 1 → turnRe t = fop .sub .f64 0 (turnS t) ∧ turnIm t = turnC t) ∧ (nT t = 2 → turnRe t = fop .sub .f64 0 (turnC t) ∧ turnIm t = fop .sub .f64 0 (turnS t)) ∧ (nT t = 3 → turnRe t = turnS t ∧ turnIm t = fop .sub .f64 0 (turnC t)) ∧ (nT t = 0 ∨ nT t = 4 → turnRe t = turnC t ∧ turnIm t = turnS t) := by
  unfold turnRe turnIm
  refine ⟨?_, ?_, ?_, ?_⟩
  · intro h; simp [h]
  · intro h; simp [h]
  · intro h; simp [h]
  · intro h; rcases h with h | h <;> simp [h]
theorem wide_guards {y : Nat} (h : In01 y) : (FloatKind.f64.format.order y 4841369599423283200 == some .gt || FloatKind.f64.format.order y 4841369599423283200 == some .eq) = false ∧ (FloatKind.f64.format.order y 14064741636278059008 == some .lt || FloatKind.f64.format.order y 14064741636278059008 == some .eq) = false := by
  have a : Rn .f64 (4841369599423283200 : Nat) (4841369599423283200 : Nat) 4841369599423283200 := Rn.const (by decide +kernel)
  have b : Rn .f64 (-(4841369599423283200 : Nat)) (-(4841369599423283200 : Nat)) 14064741636278059008 := Rn.const (by decide +kernel)
  have h1 := fge_KV h.1 a.1
  have h2 := fle_KV h.1 b.1
  unfold fge at h1
  unfold fle at h2
  have k0 := h.2; have k1 := a.2; have k2 := b.2
  rw [h1, h2]
  constructor <;> (simp only [decide_eq_false_iff_not]; omega)
theorem ofInt_zero : floatOfInt .f64 0 = 0 := by decide +kernel
end Go.Proofs.YtijafnejdibdlaaGreatDoor
