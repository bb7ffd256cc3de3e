/- 'PhasorOf' of the program and of the reference, at what is at least 0 and less than 1. -/
import Derived.Test.YtgbclibemdnohaaGreatDoorTurn
import Derived.Test.YtgbclibemdnohaaGreatDoorLog
namespace Go.Proofs.YtgbclibemdnohaaGreatDoor
open Go.RowKit Mag
set_option maxRecDepth 100000
attribute [local go_sem] run_negF
theorem run_frombits (w : World) (n : Int) : (callFunc 46 #[.int .u64 n]).run Tryz.prog w = .ok (.value (.float .f64 n.toNat)) w := by
  rw [run_callFunc_extern Tryz.func46 (by kernel_rfl) (by kernel_rfl) (by kernel_rfl) (e := Extern.MathFloatBits.float64frombits) (by kernel_rfl)]
  rfl
theorem run_bits (w : World) (x : Nat) : (callFunc 47 #[.float .f64 x]).run Tryz.prog w = .ok (.value (.int .u64 x)) w := by
  rw [run_callFunc_extern Tryz.func47 (by kernel_rfl) (by kernel_rfl) (by kernel_rfl) (e := Extern.MathFloatBits.float64bits) (by kernel_rfl)]
  rfl
theorem nan_any (w : World) : Calls Tryz.prog 38 #[] w fun e w' => e = .returned (.float .f64 9221120237041090561) ∧ w = w' := by
  have hd := run_frombits
  go_enter Tryz.func38, Tryz.ntmps38
  go_wp2
  go_ret
  exact ⟨rfl, rfl⟩
theorem self_zero {x : Nat} (h : FinK .f64 x) : (FloatKind.f64.format.order (fop .sub .f64 x x) 0 != some .eq) = false := by
  have hk := self_sub h
  have hf : FinK .f64 (fop .sub .f64 x x) := by rw [FinK_iff, hk]; decide
  have := feq_KV hf c0.1
  unfold feq at this
  have e : KV .f64 0 = 0 := by decide +kernel
  rw [hk, e] at this
  rw [bne, this]; rfl
theorem run_trunc_entry {P : Program} (w : World) (x : Nat) (h : In01 x) : (Extern.MathFloor.toIntegral "math.archTrunc" .zero #[.float .f64 x]).run P w = .ok (.float .f64 (truncV x)) w := by
  have hi := integral_01 h
  have hd := decode_fin h.1
  change Sem.run P (match FloatKind.f64.decode x with
    | .nan s t =>
      if FloatKind.f64.format.quiet t = t then (pure (Value.float .f64 x) : Sem Value) else do
      let kept ← choose (.extern "math.Floor,Ceil,Trunc,RoundToEven.signallingNaN kept" 2)
      pure (Value.float .f64 (if kept == 1 then x else FloatKind.f64.encode (.nan s (FloatKind.f64.format.quiet t))))
    | d => pure (Value.float .f64 (FloatKind.f64.encode (d.integral .zero)))) w = _
  rw [hd] at hi ⊢
  dsimp only
  rw [hi]
  rfl
theorem run_trunc (x : Nat) (h : In01 x) (w : World) : (callFunc 88 #[.float .f64 x]).run Tryz.prog w = .ok (.value (.float .f64 (truncV x))) w := by
  rw [run_callFunc_extern Tryz.func88 (by kernel_rfl) (by kernel_rfl) (by kernel_rfl) (e := Extern.MathFloor.toIntegral "math.archTrunc" .zero) (by kernel_rfl), run_trunc_entry w x h]
  rfl
theorem trunc_any (x : Nat) (h : In01 x) (w : World) : Calls Tryz.prog 69 #[.float .f64 x] w fun e w' => e = .returned (.float .f64 (truncV x)) ∧ w = w' := by
  have hd := run_trunc x h
  clear h
  go_enter Tryz.func69, Tryz.ntmps69
  go_wp2
  go_ret
  exact ⟨rfl, rfl⟩
theorem sub0_01 {y : Nat} (h : In01 y) : Rn .f64 (0 : Nat) (4607182418800017408 : Nat) (fop .sub .f64 y 0) := h.sub c0 (by decide +kernel)
theorem not_lt0 {x : Nat} {hi : Int} (h : Rn .f64 (0 : Nat) hi x) : (FloatKind.f64.format.order x 0 == some .lt) = false := by
  have := flt_KV h.1 c0.1
  unfold flt at this
  have e : KV .f64 0 = 0 := by decide +kernel
  rw [this, e]
  have := h.2
  simp only [decide_eq_false_iff_not]; omega
theorem part_any (y : Nat) (h : In01 y) (w : World) : Calls Tryz.prog 57 #[.float .f64 y] w fun e w' => e = .returned (.float .f64 (fop .sub .f64 y 0)) ∧ ∃ q, w' = w.drewN q := by
  have hs := Lib.hid (sub0_01 h)
  have H := Lib.hid h
  have ht := truncV_eq y
  clear h
  go_enter Tryz.func57, Tryz.ntmps57
  go_wp2_with fail
  refine (trunc_any y H.out _).mono ?_
  rintro e w1 ⟨rfl, rfl⟩
  have t1 : True := trivial
  go_wp2_with (have := t1; clear this t1; refine wpList_fop _ rfl .sub _ _ _ _ rfl rfl .f64 _ _ rfl rfl ?_; intro r1 q1 h1; obtain rfl : r1 = fop .sub .f64 y 0 := cn_num h1.out (FinK_not_nan hs.out.1); have hlt := not_lt0 hs.out)
  go_ret
  exact ⟨rfl, _, rfl⟩
theorem q_less {x : Nat} (h : InQ x) : (FloatKind.f64.format.order x 4602678819172646912 == some .gt || FloatKind.f64.format.order x 4602678819172646912 == some .eq) = false ∧ (FloatKind.f64.format.order x 4598175219545276416 == some .gt) = false := by
  have c5 : Rn .f64 (4602678819172646912 : Nat) (4602678819172646912 : Nat) 4602678819172646912 := Rn.const (by decide +kernel)
  have a := fge_KV h.1 c5.1
  have b := fgt_KV h.1 c25.1
  unfold fge at a
  unfold fgt at b
  have h1 := h.2; have h2 := c5.2; have h3 := c25.2
  rw [a, b]
  constructor <;> (simp only [decide_eq_false_iff_not]; omega)
def kS (j : Nat) : Nat := eF (8 - (j : Int))
theorem kS_zero : (4620693217682128896 : Nat) = kS 0 := by decide +kernel
theorem kS_succ : ∀ j : Nat, j < 8 → fop .sub .f64 (kS j) 4607182418800017408 = kS (j + 1) := by decide +kernel
theorem kS_ge : ∀ j : Nat, j < 8 → (FloatKind.f64.format.order (kS j) 4607182418800017408 == some .gt || FloatKind.f64.format.order (kS j) 4607182418800017408 == some .eq) = true := by decide +kernel
theorem kS_lt : (FloatKind.f64.format.order (kS 8) 4607182418800017408 == some .gt || FloatKind.f64.format.order (kS 8) 4607182418800017408 == some .eq) = false := by decide +kernel
theorem kS_nan (j : Nat) : isNaNB .f64 (kS j) = false := eF_not_nan _
theorem kS_meas : ∀ j : Nat, j < 8 → kEm (kS (j + 1)) < kEm (kS j) := by decide +kernel
theorem kS_div : ∀ j : Nat, j < 8 → fop .mul .f64 (fop .mul .f64 4611686018427387904 (kS j)) (fop .add .f64 (fop .mul .f64 4611686018427387904 (kS j)) 4607182418800017408) = dK j := by decide +kernel
set_option maxHeartbeats 2000000 in
theorem sine_any (y : Nat) (h : InQ y) (w : World) : Calls Tryz.prog 42 #[.float .f64 y] w fun e w' => e = .returned (.float .f64 (sineF y)) ∧ ∃ q, w' = w.drewN q := by
  have H := Lib.hid h
  have hq := q_less (sub0_q h)
  obtain ⟨hq1, hq2⟩ := hq
  clear h
  go_enter Tryz.func42, Tryz.ntmps42
  go_wp2_with fail
  refine (part_any y H.out.in01 _).mono ?_
  rintro e w1 ⟨rfl, q0, rfl⟩
  dsimp only
  have t1 : True := trivial
  have t2 : True := trivial
  go_wp2_with (first
    | (have := t1; clear this t1; refine wpList_fop _ rfl .mul _ _ _ _ rfl rfl .f64 _ _ rfl rfl ?_; intro z q1 hz)
    | (have := t2; clear this t2; refine wpList_fop _ rfl .mul _ _ _ _ rfl rfl .f64 _ _ rfl rfl ?_; intro u q2 hu0))
  have hzz : Hid (cn .f64 z = sineZ y) := hz
  have hu : Hid (cn .f64 u = fop .mul .f64 (sineZ y) (sineZ y)) := by show _ = _; rw [hu0.out, fop_l hzz.out, fop_r hzz.out]
  clear hq1 hq2
  go_loopw [7, 8] (fun b j wr => ∃ k r q : Nat, k ≤ 8 ∧ j = .float .f64 (kS k) ∧ b = .float .f64 r ∧ Hid (cn .f64 r = sineP (fop .mul .f64 (sineZ y) (sineZ y)) k) ∧ wr = w.drewN q) (fun _ j _ => kEm (bitsOf j))
  case atStart => exact ⟨0, _, _, by omega, congrArg (Value.float .f64) kS_zero, rfl, by show cn .f64 4607182418800017408 = 4607182418800017408; decide +kernel, rfl⟩
  case round =>
    obtain ⟨k, r, q', hk, rfl, rfl, hr, rfl⟩ := hrel
    by_cases hlt : k < 8
    · have hge := kS_ge k hlt
      have Hlt := Lib.hid hlt
      clear hlt hk
      have t1 : True := trivial
      have t2 : True := trivial
      have t3 : True := trivial
      have t4 : True := trivial
      have t5 : True := trivial
      have t6 : True := trivial
      have t7 : True := trivial
      have t8 : True := trivial
      go_wp2_with (first
        | (have := t1; clear this t1; refine wpList_fop _ rfl .mul _ _ _ _ rfl rfl .f64 _ _ rfl rfl ?_; intro u1 p1 hu1)
        | (have := t2; clear this t2; refine wpList_fop _ rfl .mul _ _ _ _ rfl rfl .f64 _ _ rfl rfl ?_; intro u2 p2 hu2)
        | (have := t3; clear this t3; refine wpList_fop _ rfl .mul _ _ _ _ rfl rfl .f64 _ _ rfl rfl ?_; intro u3 p3 hu3)
        | (have := t4; clear this t4; refine wpList_fop _ rfl .add _ _ _ _ rfl rfl .f64 _ _ rfl rfl ?_; intro u4 p4 hu4)
        | (have := t5; clear this t5; refine wpList_fop _ rfl .mul _ _ _ _ rfl rfl .f64 _ _ rfl rfl ?_; intro u5 p5 hu5)
        | (have := t6; clear this t6; refine wpList_fop _ rfl .quo _ _ _ _ rfl rfl .f64 _ _ rfl rfl ?_; intro u6 p6 hu6)
        | (have := t7; clear this t7; refine wpList_fop _ rfl .sub _ _ _ _ rfl rfl .f64 _ _ rfl rfl ?_; intro u7 p7 hu7)
        | (have := t8; clear this t8; refine wpList_fop _ rfl .sub _ _ _ _ rfl rfl .f64 _ _ rfl rfl ?_; intro u8 p8 hu8))
      have e8 : u8 = kS (k + 1) := cn_num (hu8.out.trans (kS_succ k Hlt.out)) (kS_nan _)
      have e7 : Hid (cn .f64 u7 = sineP (fop .mul .f64 (sineZ y) (sineZ y)) (k + 1)) := by
        show _ = _
        rw [hu7.out, fop_r hu6.out, fop_l hu1.out, fop_l hu.out, fop_r hr.out, fop_r hu5.out, fop_l hu2.out, fop_r hu4.out, fop_l hu3.out, kS_div k Hlt.out]; rfl
      go_roundw
      case rel => exact ⟨k + 1, u7, _, Hlt.out, congrArg (Value.float .f64) e8, rfl, e7, rfl⟩
      case measure => rw [e8]; exact kS_meas k Hlt.out
    · obtain rfl : k = 8 := by omega
      have hge := kS_lt
      clear hlt hk
      have t1 : True := trivial
      go_wp2_with (have := t1; clear this t1; refine wpList_fop _ rfl .mul _ _ _ _ rfl rfl .f64 _ _ rfl rfl ?_; intro u1 p1 hu1)
      have e1 : u1 = sineF y := cn_num (hu1.out.trans (by rw [fop_l hzz.out, fop_r hr.out]; rfl)) (FinK_not_nan (sineF_rn H.out).1)
      subst e1
      go_ret
      exact ⟨rfl, _, rfl⟩
theorem andNot_top (x : Nat) (h : x < 9223372036854775808) : bits .andNot .u64 (x : Int) 9223372036854775808 = x := by
  unfold bits
  show IntKind.u64.wrap (((BitVec.ofInt 64 (x : Int)) &&& ~~~(BitVec.ofInt 64 9223372036854775808)).toNat : Int) = x
  have e1 : (~~~(BitVec.ofInt 64 9223372036854775808)).toNat = 2 ^ 63 - 1 := by decide
  have e2 : (BitVec.ofInt 64 (x : Int)).toNat = x := by
    rw [BitVec.toNat_ofInt]
    omega
  rw [BitVec.toNat_and, e1, e2, Nat.and_two_pow_sub_one_eq_mod, Nat.mod_eq_of_lt h]
  exact IntKind.wrap_u64 _ |>.trans (by omega)
theorem huge_any (x : Nat) (h : x < 4607182418800017408) (w : World) : Calls Tryz.prog 41 #[.float .f64 x] w fun e w' => e = .returned (.bool false) ∧ w = w' := by
  have hf : FinK .f64 x := Fin_nat (by simp only [Bd]; omega)
  have hk : KV .f64 x = x := KV_nat (by omega)
  have c : Rn .f64 (4841369599423283200 : Nat) (4841369599423283200 : Nat) 4841369599423283200 := Rn.const (by decide +kernel)
  have hge : (FloatKind.f64.format.order x 4841369599423283200 == some .gt || FloatKind.f64.format.order x 4841369599423283200 == some .eq) = false := by
    have := fge_KV hf c.1
    unfold fge at this
    have h2 := c.2
    rw [this, hk]
    simp only [decide_eq_false_iff_not]; omega
  have hb := andNot_top x (by omega)
  have hd1 := run_bits
  have hd2 := run_frombits
  clear hf hk c
  have habs : ∀ w : World, Calls Tryz.prog 36 #[.float .f64 x] w fun e w' => e = .returned (.float .f64 x) ∧ w = w' := by
    intro w
    go_enter Tryz.func36, Tryz.ntmps36
    go_wp2
    go_ret
    exact ⟨rfl, rfl⟩
  have Habs := Lib.hid habs
  clear habs hb hd1 hd2
  go_enter Tryz.func41, Tryz.ntmps41
  go_wp2_with fail
  refine (Habs.out _).mono ?_
  rintro e w1 ⟨rfl, rfl⟩
  go_wp2
  go_ret
  exact ⟨rfl, rfl⟩
theorem it_rn {t k : Nat} (h : In01 t) (hk : k ≤ nT t) : Rn .f64 (0 : Nat) (4607182418800017408 : Nat) (itF t k) := by
  have h4 := nT_le t
  rcases (by omega : k = 0 ∨ k = 1 ∨ k = 2 ∨ k = 3 ∨ k = 4) with rfl | rfl | rfl | rfl | rfl
  · exact it0_rn h
  · exact (it1_rn h (nT_yes (by omega))).weak (by omega) (by omega)
  · exact (it2_rn h (nT_yes (by omega)) (nT_yes (by omega))).weak (by omega) (by omega)
  · exact (it3_rn h (nT_yes (by omega)) (nT_yes (by omega)) (nT_yes (by omega))).weak (by omega) (by omega)
  · exact (it4_rn h (nT_yes (by omega)) (nT_yes (by omega)) (nT_yes (by omega)) (nT_yes (by omega))).weak (by omega) (by omega)
def phRe (t : Nat) : Nat := narrow (turnRe t)
def phIm (t : Nat) : Nat := narrow (turnIm t)
theorem phRe_rn {t : Nat} (h : In01 t) : Rn .f32 (-(1090519040 : Nat)) (1090519040 : Nat) (phRe t) := eight_narrow (turnRe_rn h)
theorem phIm_rn {t : Nat} (h : In01 t) : Rn .f32 (-(1090519040 : Nat)) (1090519040 : Nat) (phIm t) := eight_narrow (turnIm_rn h)
theorem turn_sel (t : Nat) : (nT t = 1 → turnRe t = fop .sub .f64 0 (turnS t) ∧ turnIm t = turnC t) ∧ (nT t = 2 → turnRe t = fop .sub .f64 0 (turnC t) ∧ turnIm t = fop .sub .f64 0 (turnS t)) ∧ (nT t = 3 → turnRe t = turnS t ∧ turnIm t = fop .sub .f64 0 (turnC t)) ∧ (nT t = 0 ∨ nT t = 4 → turnRe t = turnC t ∧ turnIm t = turnS t) := by
  unfold turnRe turnIm
  refine ⟨?_, ?_, ?_, ?_⟩
  · intro h; simp [h]
  · intro h; simp [h]
  · intro h; simp [h]
  · intro h; rcases h with h | h <;> simp [h]
theorem wide_guards {y : Nat} (h : In01 y) : (FloatKind.f64.format.order y 4841369599423283200 == some .gt || FloatKind.f64.format.order y 4841369599423283200 == some .eq) = false ∧ (FloatKind.f64.format.order y 14064741636278059008 == some .lt || FloatKind.f64.format.order y 14064741636278059008 == some .eq) = false := by
  have a : Rn .f64 (4841369599423283200 : Nat) (4841369599423283200 : Nat) 4841369599423283200 := Rn.const (by decide +kernel)
  have b : Rn .f64 (-(4841369599423283200 : Nat)) (-(4841369599423283200 : Nat)) 14064741636278059008 := Rn.const (by decide +kernel)
  have h1 := fge_KV h.1 a.1
  have h2 := fle_KV h.1 b.1
  unfold fge at h1
  unfold fle at h2
  have k0 := h.2; have k1 := a.2; have k2 := b.2
  rw [h1, h2]
  constructor <;> (simp only [decide_eq_false_iff_not]; omega)
theorem ofInt_zero : floatOfInt .f64 0 = 0 := by decide +kernel
end Go.Proofs.YtgbclibemdnohaaGreatDoor
