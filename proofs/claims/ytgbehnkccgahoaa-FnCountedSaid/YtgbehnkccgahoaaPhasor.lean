/- 'PhasorOf' of the program and of the reference, at what is at least 0 and less than 1. -/
import Derived.Test.YtgbehnkccgahoaaTurn
import Derived.Test.YtgbehnkccgahoaaLog
namespace Go.Proofs.Ytgbehnkccgahoaa
open Go.RowKit Mag
set_option maxRecDepth 100000
attribute [local go_sem] run_negF
theorem run_frombits (w : World) (n : Int) : (callFunc 66 #[.int .u64 n]).run Try.prog w = .ok (.value (.float .f64 n.toNat)) w := by
  rw [run_callFunc_extern Try.func66 (by kernel_rfl) (by kernel_rfl) (by kernel_rfl) (e := Extern.MathFloatBits.float64frombits) (by kernel_rfl)]
  rfl
theorem run_bits (w : World) (x : Nat) : (callFunc 84 #[.float .f64 x]).run Try.prog w = .ok (.value (.int .u64 x)) w := by
  rw [run_callFunc_extern Try.func84 (by kernel_rfl) (by kernel_rfl) (by kernel_rfl) (e := Extern.MathFloatBits.float64bits) (by kernel_rfl)]
  rfl
theorem nan_any (w : World) : Calls Try.prog 47 #[] w fun e w' => e = .returned (.float .f64 9221120237041090561) ∧ w = w' := by
  have hd := run_frombits
  go_enter Try.func47, Try.ntmps47
  go_wp2
  go_ret
  exact ⟨rfl, rfl⟩
theorem self_zero {x : Nat} (h : FinK .f64 x) : (FloatKind.f64.format.order (fop .sub .f64 x x) 0 != some .eq) = false := by
  have hk := self_sub h
  have hf : FinK .f64 (fop .sub .f64 x x) := by rw [FinK_iff, hk]; decide
  have := feq_KV hf c0.1
  unfold feq at this
  have e : KV .f64 0 = 0 := by decide +kernel
  rw [hk, e] at this
  rw [bne, this]; rfl
theorem run_trunc_entry {P : Program} (w : World) (x : Nat) (h : In01 x) : (Extern.MathFloor.toIntegral "math.archTrunc" .zero #[.float .f64 x]).run P w = .ok (.float .f64 (truncV x)) w := by
  have hi := integral_01 h
  have hd := decode_fin h.1
  change Sem.run P (match FloatKind.f64.decode x with
    | .nan s t =>
      if FloatKind.f64.format.quiet t = t then (pure (Value.float .f64 x) : Sem Value) else do
      let kept ← choose (.extern "math.Floor,Ceil,Trunc,RoundToEven.signallingNaN kept" 2)
      pure (Value.float .f64 (if kept == 1 then x else FloatKind.f64.encode (.nan s (FloatKind.f64.format.quiet t))))
    | d => pure (Value.float .f64 (FloatKind.f64.encode (d.integral .zero)))) w = _
  rw [hd] at hi ⊢
  dsimp only
  rw [hi]
  rfl
theorem run_trunc (x : Nat) (h : In01 x) (w : World) : (callFunc 85 #[.float .f64 x]).run Try.prog w = .ok (.value (.float .f64 (truncV x))) w := by
  rw [run_callFunc_extern Try.func85 (by kernel_rfl) (by kernel_rfl) (by kernel_rfl) (e := Extern.MathFloor.toIntegral "math.archTrunc" .zero) (by kernel_rfl), run_trunc_entry w x h]
  rfl
theorem trunc_any (x : Nat) (h : In01 x) (w : World) : Calls Try.prog 81 #[.float .f64 x] w fun e w' => e = .returned (.float .f64 (truncV x)) ∧ w = w' := by
  have hd := run_trunc x h
  clear h
  go_enter Try.func81, Try.ntmps81
  go_wp2
  go_ret
  exact ⟨rfl, rfl⟩
theorem sub0_01 {y : Nat} (h : In01 y) : Rn .f64 (0 : Nat) (4607182418800017408 : Nat) (fop .sub .f64 y 0) := h.sub c0 (by decide +kernel)
theorem not_lt0 {x : Nat} {hi : Int} (h : Rn .f64 (0 : Nat) hi x) : (FloatKind.f64.format.order x 0 == some .lt) = false := by
  have := flt_KV h.1 c0.1
  unfold flt at this
  have e : KV .f64 0 = 0 := by decide +kernel
  rw [this, e]
  have := h.2
  simp only [decide_eq_false_iff_not]; omega
theorem part_any (y : Nat) (h : In01 y) (w : World) : Calls Try.prog 76 #[.float .f64 y] w fun e w' => e = .returned (.float .f64 (fop .sub .f64 y 0)) ∧ ∃ q, w' = w.drewN q := by
  have hs := Lib.hid (sub0_01 h)
  have H := Lib.hid h
  have ht := truncV_eq y
  clear h
  go_enter Try.func76, Try.ntmps76
  go_wp2_with fail
  refine (trunc_any y H.out _).mono ?_
  rintro e w1 ⟨rfl, rfl⟩
  have t1 : True := trivial
  go_wp2_with (have := t1; clear this t1; refine wpList_fop _ rfl .sub _ _ _ _ rfl rfl .f64 _ _ rfl rfl ?_; intro r1 q1 h1; obtain rfl : r1 = fop .sub .f64 y 0 := cn_num h1.out (FinK_not_nan hs.out.1); have hlt := not_lt0 hs.out)
  go_ret
  exact ⟨rfl, _, rfl⟩
theorem q_less {x : Nat} (h : InQ x) : (FloatKind.f64.format.order x 4602678819172646912 == some .gt || FloatKind.f64.format.order x 4602678819172646912 == some .eq) = false ∧ (FloatKind.f64.format.order x 4598175219545276416 == some .gt) = false := by
  have c5 : Rn .f64 (4602678819172646912 : Nat) (4602678819172646912 : Nat) 4602678819172646912 := Rn.const (by decide +kernel)
  have a := fge_KV h.1 c5.1
  have b := fgt_KV h.1 c25.1
  unfold fge at a
  unfold fgt at b
  have h1 := h.2; have h2 := c5.2; have h3 := c25.2
  rw [a, b]
  constructor <;> (simp only [decide_eq_false_iff_not]; omega)
def kS (j : Nat) : Nat := eF (8 - (j : Int))
theorem kS_zero : (4620693217682128896 : Nat) = kS 0 := by decide +kernel
theorem kS_succ : ∀ j : Nat, j < 8 → fop .sub .f64 (kS j) 4607182418800017408 = kS (j + 1) := by decide +kernel
theorem kS_ge : ∀ j : Nat, j < 8 → (FloatKind.f64.format.order (kS j) 4607182418800017408 == some .gt || FloatKind.f64.format.order (kS j) 4607182418800017408 == some .eq) = true := by decide +kernel
theorem kS_lt : (FloatKind.f64.format.order (kS 8) 4607182418800017408 == some .gt || FloatKind.f64.format.order (kS 8) 4607182418800017408 == some .eq) = false := by decide +kernel
theorem kS_nan (j : Nat) : isNaNB .f64 (kS j) = false := eF_not_nan _
theorem kS_meas : ∀ j : Nat, j < 8 → kEm (kS (j + 1)) < kEm (kS j) := by decide +kernel
theorem kS_div : ∀ j : Nat, j < 8 → fop .mul .f64 (fop .mul .f64 4611686018427387904 (kS j)) (fop .add .f64 (fop .mul .f64 4611686018427387904 (kS j)) 4607182418800017408) = dK j := by decide +kernel
set_option maxHeartbeats 2000000 in
theorem sine_any (y : Nat) (h : InQ y) (w : World) : Calls Try.prog 77 #[.float .f64 y] w fun e w' => e = .returned (.float .f64 (sineF y)) ∧ ∃ q, w' = w.drewN q := by
  have H := Lib.hid h
  have hq := q_less (sub0_q h)
  obtain ⟨hq1, hq2⟩ := hq
  clear h
  go_enter Try.func77, Try.ntmps77
  go_wp2_with fail
  refine (part_any y H.out.in01 _).mono ?_
  rintro e w1 ⟨rfl, q0, rfl⟩
  dsimp only
  have t1 : True := trivial
  have t2 : True := trivial
  go_wp2_with (first
    | (have := t1; clear this t1; refine wpList_fop _ rfl .mul _ _ _ _ rfl rfl .f64 _ _ rfl rfl ?_; intro z q1 hz)
    | (have := t2; clear this t2; refine wpList_fop _ rfl .mul _ _ _ _ rfl rfl .f64 _ _ rfl rfl ?_; intro u q2 hu0))
  have hzz : Hid (cn .f64 z = sineZ y) := hz
  have hu : Hid (cn .f64 u = fop .mul .f64 (sineZ y) (sineZ y)) := by show _ = _; rw [hu0.out, fop_l hzz.out, fop_r hzz.out]
  clear hq1 hq2
  go_loopw [7, 8] (fun b j wr => ∃ k r q : Nat, k ≤ 8 ∧ j = .float .f64 (kS k) ∧ b = .float .f64 r ∧ Hid (cn .f64 r = sineP (fop .mul .f64 (sineZ y) (sineZ y)) k) ∧ wr = w.drewN q) (fun _ j _ => kEm (bitsOf j))
  case atStart => exact ⟨0, _, _, by omega, congrArg (Value.float .f64) kS_zero, rfl, by show cn .f64 4607182418800017408 = 4607182418800017408; decide +kernel, rfl⟩
  case round =>
    obtain ⟨k, r, q', hk, rfl, rfl, hr, rfl⟩ := hrel
    by_cases hlt : k < 8
    · have hge := kS_ge k hlt
      have Hlt := Lib.hid hlt
      clear hlt hk
      have t1 : True := trivial
      have t2 : True := trivial
      have t3 : True := trivial
      have t4 : True := trivial
      have t5 : True := trivial
      have t6 : True := trivial
      have t7 : True := trivial
      have t8 : True := trivial
      go_wp2_with (first
        | (have := t1; clear this t1; refine wpList_fop _ rfl .mul _ _ _ _ rfl rfl .f64 _ _ rfl rfl ?_; intro u1 p1 hu1)
        | (have := t2; clear this t2; refine wpList_fop _ rfl .mul _ _ _ _ rfl rfl .f64 _ _ rfl rfl ?_; intro u2 p2 hu2)
        | (have := t3; clear this t3; refine wpList_fop _ rfl .mul _ _ _ _ rfl rfl .f64 _ _ rfl rfl ?_; intro u3 p3 hu3)
        | (have := t4; clear this t4; refine wpList_fop _ rfl .add _ _ _ _ rfl rfl .f64 _ _ rfl rfl ?_; intro u4 p4 hu4)
        | (have := t5; clear this t5; refine wpList_fop _ rfl .mul _ _ _ _ rfl rfl .f64 _ _ rfl rfl ?_; intro u5 p5 hu5)
        | (have := t6; clear this t6; refine wpList_fop _ rfl .quo _ _ _ _ rfl rfl .f64 _ _ rfl rfl ?_; intro u6 p6 hu6)
        | (have := t7; clear this t7; refine wpList_fop _ rfl .sub _ _ _ _ rfl rfl .f64 _ _ rfl rfl ?_; intro u7 p7 hu7)
        | (have := t8; clear this t8; refine wpList_fop _ rfl .sub _ _ _ _ rfl rfl .f64 _ _ rfl rfl ?_; intro u8 p8 hu8))
      have e8 : u8 = kS (k + 1) := cn_num (hu8.out.trans (kS_succ k Hlt.out)) (kS_nan _)
      have e7 : Hid (cn .f64 u7 = sineP (fop .mul .f64 (sineZ y) (sineZ y)) (k + 1)) := by
        show _ = _
        rw [hu7.out, fop_r hu6.out, fop_l hu1.out, fop_l hu.out, fop_r hr.out, fop_r hu5.out, fop_l hu2.out, fop_r hu4.out, fop_l hu3.out, kS_div k Hlt.out]; rfl
      go_roundw
      case rel => exact ⟨k + 1, u7, _, Hlt.out, congrArg (Value.float .f64) e8, rfl, e7, rfl⟩
      case measure => rw [e8]; exact kS_meas k Hlt.out
    · obtain rfl : k = 8 := by omega
      have hge := kS_lt
      clear hlt hk
      have t1 : True := trivial
      go_wp2_with (have := t1; clear this t1; refine wpList_fop _ rfl .mul _ _ _ _ rfl rfl .f64 _ _ rfl rfl ?_; intro u1 p1 hu1)
      have e1 : u1 = sineF y := cn_num (hu1.out.trans (by rw [fop_l hzz.out, fop_r hr.out]; rfl)) (FinK_not_nan (sineF_rn H.out).1)
      subst e1
      go_ret
      exact ⟨rfl, _, rfl⟩
theorem andNot_top (x : Nat) (h : x < 9223372036854775808) : bits .andNot .u64 (x : Int) 9223372036854775808 = x := by
  unfold bits
  show IntKind.u64.wrap (((BitVec.ofInt 64 (x : Int)) &&& ~~~(BitVec.ofInt 64 9223372036854775808)).toNat : Int) = x
  have e1 : (~~~(BitVec.ofInt 64 9223372036854775808)).toNat = 2 ^ 63 - 1 := by decide
  have e2 : (BitVec.ofInt 64 (x : Int)).toNat = x := by
    rw [BitVec.toNat_ofInt]
    omega
  rw [BitVec.toNat_and, e1, e2, Nat.and_two_pow_sub_one_eq_mod, Nat.mod_eq_of_lt h]
  exact IntKind.wrap_u64 _ |>.trans (by omega)
theorem huge_any (x : Nat) (h : x < 4607182418800017408) (w : World) : Calls Try.prog 75 #[.float .f64 x] w fun e w' => e = .returned (.bool false) ∧ w = w' := by
  have hf : FinK .f64 x := Fin_nat (by simp only [Bd]; omega)
  have hk : KV .f64 x = x := KV_nat (by omega)
  have c : Rn .f64 (4841369599423283200 : Nat) (4841369599423283200 : Nat) 4841369599423283200 := Rn.const (by decide +kernel)
  have hge : (FloatKind.f64.format.order x 4841369599423283200 == some .gt || FloatKind.f64.format.order x 4841369599423283200 == some .eq) = false := by
    have := fge_KV hf c.1
    unfold fge at this
    have h2 := c.2
    rw [this, hk]
    simp only [decide_eq_false_iff_not]; omega
  have hb := andNot_top x (by omega)
  have hd1 := run_bits
  have hd2 := run_frombits
  clear hf hk c
  have habs : ∀ w : World, Calls Try.prog 80 #[.float .f64 x] w fun e w' => e = .returned (.float .f64 x) ∧ w = w' := by
    intro w
    go_enter Try.func80, Try.ntmps80
    go_wp2
    go_ret
    exact ⟨rfl, rfl⟩
  have Habs := Lib.hid habs
  clear habs hb hd1 hd2
  go_enter Try.func75, Try.ntmps75
  go_wp2_with fail
  refine (Habs.out _).mono ?_
  rintro e w1 ⟨rfl, rfl⟩
  go_wp2
  go_ret
  exact ⟨rfl, rfl⟩
theorem it_rn {t k : Nat} (h : In01 t) (hk : k ≤ nT t) : Rn .f64 (0 : Nat) (4607182418800017408 : Nat) (itF t k) := by
  have h4 := nT_le t
  rcases (by omega : k = 0 ∨ k = 1 ∨ k = 2 ∨ k = 3 ∨ k = 4) with rfl | rfl | rfl | rfl | rfl
  · exact it0_rn h
  · exact (it1_rn h (nT_yes (by omega))).weak (by omega) (by omega)
  · exact (it2_rn h (nT_yes (by omega)) (nT_yes (by omega))).weak (by omega) (by omega)
  · exact (it3_rn h (nT_yes (by omega)) (nT_yes (by omega)) (nT_yes (by omega))).weak (by omega) (by omega)
  · exact (it4_rn h (nT_yes (by omega)) (nT_yes (by omega)) (nT_yes (by omega)) (nT_yes (by omega))).weak (by omega) (by omega)
def phRe (t : Nat) : Nat := narrow (turnRe t)
def phIm (t : Nat) : Nat := narrow (turnIm t)
theorem phRe_rn {t : Nat} (h : In01 t) : Rn .f32 (-(1090519040 : Nat)) (1090519040 : Nat) (phRe t) := eight_narrow (turnRe_rn h)
theorem phIm_rn {t : Nat} (h : In01 t) : Rn .f32 (-(1090519040 : Nat)) (1090519040 : Nat) (phIm t) := eight_narrow (turnIm_rn h)
theorem turn_sel (t : Nat) : (nT t = 1 → turnRe t = fop .sub .f64 0 (turnS t) ∧ turnIm t = turnC t) ∧ (nT t = 2 → turnRe t = fop .sub .f64 0 (turnC t) ∧ turnIm t = fop .sub .f64 0 (turnS t)) ∧ (nT t = 3 → turnRe t = turnS t ∧ turnIm t = fop .sub .f64 0 (turnC t)) ∧ (nT t = 0 ∨ nT t = 4 → turnRe t = turnC t ∧ turnIm t = turnS t) := by
  unfold turnRe turnIm
  refine ⟨?_, ?_, ?_, ?_⟩
  · intro h; simp [h]
  · intro h; simp [h]
  · intro h; simp [h]
  · intro h; rcases h with h | h <;> simp [h]
set_option maxHeartbeats 4000000 in
theorem phasor_any (t : Nat) (hlt1 : t < 4607182418800017408) (h : In01 t) (w : World) : Calls Try.prog 63 #[.float .f64 t] w fun e w' => e = .returned (.complex .f32 (phRe t) (phIm t)) ∧ ∃ q, w' = w.drewN q := by
  have H := Lib.hid h
  have H1 := Lib.hid hlt1
  have hz := Lib.hid (self_zero h.1)
  clear h hlt1
  go_enter Try.func63, Try.ntmps63
  go_wp2_with fail
  refine (nan_any _).mono ?_
  rintro e w1 ⟨rfl, rfl⟩
  have t1 : True := trivial
  have t2 : True := trivial
  have hnf : fitsN 9221120237041090561 := fits_nan (by decide +kernel)
  go_wp2_with (first
    | (have := t1; clear this t1; refine wpList_narrow _ rfl 52 28 _ rfl rfl Try.underlying28 _ rfl hnf ?_; intro nn q1 hnn)
    | (have := t2; clear this t2; refine wpList_fop _ rfl .sub _ _ _ _ rfl rfl .f64 _ _ rfl rfl ?_; intro r2 q2 h2; have hc2 : (FloatKind.f64.format.order r2 0 != some .eq) = false := (by rw [order_l h2.out]; exact hz.out)))
  clear hnf hc2
  refine (huge_any t H1.out _).mono ?_
  rintro e w3 ⟨rfl, rfl⟩
  go_wp2_with fail
  refine (part_any t H.out _).mono ?_
  rintro e w4 ⟨rfl, q4, rfl⟩
  go_wp2
  go_loopw [4, 5] (fun a n wr => ∃ k q : Nat, k ≤ nT t ∧ a = .float .f64 (itF t k) ∧ n = .int .i64 k ∧ wr = w.drewN q) (fun _ n _ => 4 - (intOf n).toNat)
  case atStart => exact ⟨0, _, Nat.zero_le _, rfl, rfl, rfl⟩
  case round =>
    obtain ⟨k, q, hk, rfl, rfl, rfl⟩ := hrel
    have h4 := nT_le t
    by_cases hlt : k < nT t
    · have hc : (FloatKind.f64.format.order (itF t k) 4598175219545276416 == some .gt || FloatKind.f64.format.order (itF t k) 4598175219545276416 == some .eq) = true := nT_yes hlt
      have hk4 : k < 4 := by omega
      have hf : Hid (FinK .f64 (itF t (k + 1))) := (it_rn H.out (show k + 1 ≤ nT t from hlt)).1
      have Hlt := Lib.hid hlt
      clear hlt hk h4
      have t1 : True := trivial
      go_wp2_with (have := t1; clear this t1; refine wpList_fop _ rfl .sub _ _ _ _ rfl rfl .f64 _ _ rfl rfl ?_; intro r1 q1 h1)
      have e1 : r1 = itF t (k + 1) := cn_num h1.out (FinK_not_nan hf.out)
      go_roundw
      case rel => exact ⟨k + 1, _, Hlt.out, congrArg (Value.float .f64) e1, by go_num, rfl⟩
      case measure => simp only [intOf]; omega
    · have hkn : Hid (k = nT t) := by show _ = _; omega
      have hc : (FloatKind.f64.format.order (itF t k) 4598175219545276416 == some .gt || FloatKind.f64.format.order (itF t k) 4598175219545276416 == some .eq) = false := by rw [hkn.out]; exact (nT_no H.out).1
      have hk4 : k ≤ 4 := by omega
      have hql : Hid (InQ (itF t k)) := by show InQ _; rw [hkn.out]; exact left_q H.out
      have hqr : Hid (InQ (fop .sub .f64 4598175219545276416 (itF t k))) := by show InQ _; rw [hkn.out]; exact rest_q H.out
      clear hlt hk h4
      have t1 : True := trivial
      go_wp2_with (have := t1; clear this t1; refine wpList_fop _ rfl .sub _ _ _ _ rfl rfl .f64 _ _ rfl rfl ?_; intro r1 q1 h1; obtain rfl : r1 = fop .sub .f64 4598175219545276416 (itF t k) := cn_num h1.out (FinK_not_nan hqr.out.1))
      refine (sine_any _ hqr.out _).mono ?_
      rintro e w5 ⟨rfl, q5, rfl⟩
      have eC : Hid (turnC t = sineF (fop .sub .f64 4598175219545276416 (itF t k))) := by show _ = _; unfold turnC; rw [hkn.out]
      rw [← eC.out]
      go_wp2_with fail
      refine (sine_any _ hql.out _).mono ?_
      rintro e w6 ⟨rfl, q6, rfl⟩
      have eS : Hid (turnS t = sineF (itF t k)) := by show _ = _; unfold turnS; rw [hkn.out]
      rw [← eS.out]
      have fC := Lib.hid (eight_fits (turnC_rn H.out))
      have fS := Lib.hid (eight_fits (turnS_rn H.out))
      have nC := Lib.hid (neg_rn (turnC_rn H.out))
      have nS := Lib.hid (neg_rn (turnS_rn H.out))
      have gC := Lib.hid (eight_fits nC.out)
      have gS := Lib.hid (eight_fits nS.out)
      have rR := Lib.hid (phRe_rn H.out)
      have rI := Lib.hid (phIm_rn H.out)
      clear hc
      rcases (by omega : k = 0 ∨ k = 1 ∨ k = 2 ∨ k = 3 ∨ k = 4) with rfl | rfl | rfl | rfl | rfl
      · have hsel := Lib.hid ((turn_sel t).2.2.2 (.inl hkn.out.symm))
        have t1 : True := trivial
        have t2 : True := trivial
        go_wp2_with (first
          | (have := t1; clear this t1; refine wpList_narrow _ rfl 52 28 _ rfl rfl Try.underlying28 _ rfl fC.out ?_; intro x1 p1 hx1)
          | (have := t2; clear this t2; refine wpList_narrow _ rfl 52 28 _ rfl rfl Try.underlying28 _ rfl fS.out ?_; intro x2 p2 hx2))
        obtain rfl : x1 = phRe t := cn_num (hx1.out.trans (by unfold phRe; rw [hsel.out.1])) (FinK_not_nan rR.out.1)
        obtain rfl : x2 = phIm t := cn_num (hx2.out.trans (by unfold phIm; rw [hsel.out.2])) (FinK_not_nan rI.out.1)
        go_ret
        exact ⟨rfl, _, rfl⟩
      · have hsel := Lib.hid ((turn_sel t).1 hkn.out.symm)
        have t0 : True := trivial
        have t1 : True := trivial
        have t2 : True := trivial
        go_wp2_with (first
          | (have := t0; clear this t0; refine wpList_fop _ rfl .sub _ _ _ _ rfl rfl .f64 _ _ rfl rfl ?_; intro n1 p0 hn1; obtain rfl : n1 = fop .sub .f64 0 (turnS t) := cn_num hn1.out (FinK_not_nan nS.out.1))
          | (have := t1; clear this t1; refine wpList_narrow _ rfl 52 28 _ rfl rfl Try.underlying28 _ rfl gS.out ?_; intro x1 p1 hx1)
          | (have := t2; clear this t2; refine wpList_narrow _ rfl 52 28 _ rfl rfl Try.underlying28 _ rfl fC.out ?_; intro x2 p2 hx2))
        obtain rfl : x1 = phRe t := cn_num (hx1.out.trans (by unfold phRe; rw [hsel.out.1])) (FinK_not_nan rR.out.1)
        obtain rfl : x2 = phIm t := cn_num (hx2.out.trans (by unfold phIm; rw [hsel.out.2])) (FinK_not_nan rI.out.1)
        go_ret
        exact ⟨rfl, _, rfl⟩
      · have hsel := Lib.hid ((turn_sel t).2.1 hkn.out.symm)
        have t0 : True := trivial
        have t3 : True := trivial
        have t1 : True := trivial
        have t2 : True := trivial
        go_wp2_with (first
          | (have := t0; clear this t0; refine wpList_fop _ rfl .sub _ _ _ _ rfl rfl .f64 _ _ rfl rfl ?_; intro n1 p0 hn1; obtain rfl : n1 = fop .sub .f64 0 (turnC t) := cn_num hn1.out (FinK_not_nan nC.out.1))
          | (have := t3; clear this t3; refine wpList_fop _ rfl .sub _ _ _ _ rfl rfl .f64 _ _ rfl rfl ?_; intro n2 p3 hn2; obtain rfl : n2 = fop .sub .f64 0 (turnS t) := cn_num hn2.out (FinK_not_nan nS.out.1))
          | (have := t1; clear this t1; refine wpList_narrow _ rfl 52 28 _ rfl rfl Try.underlying28 _ rfl gC.out ?_; intro x1 p1 hx1)
          | (have := t2; clear this t2; refine wpList_narrow _ rfl 52 28 _ rfl rfl Try.underlying28 _ rfl gS.out ?_; intro x2 p2 hx2))
        obtain rfl : x1 = phRe t := cn_num (hx1.out.trans (by unfold phRe; rw [hsel.out.1])) (FinK_not_nan rR.out.1)
        obtain rfl : x2 = phIm t := cn_num (hx2.out.trans (by unfold phIm; rw [hsel.out.2])) (FinK_not_nan rI.out.1)
        go_ret
        exact ⟨rfl, _, rfl⟩
      · have hsel := Lib.hid ((turn_sel t).2.2.1 hkn.out.symm)
        have t0 : True := trivial
        have t1 : True := trivial
        have t2 : True := trivial
        go_wp2_with (first
          | (have := t0; clear this t0; refine wpList_fop _ rfl .sub _ _ _ _ rfl rfl .f64 _ _ rfl rfl ?_; intro n1 p0 hn1; obtain rfl : n1 = fop .sub .f64 0 (turnC t) := cn_num hn1.out (FinK_not_nan nC.out.1))
          | (have := t1; clear this t1; refine wpList_narrow _ rfl 52 28 _ rfl rfl Try.underlying28 _ rfl fS.out ?_; intro x1 p1 hx1)
          | (have := t2; clear this t2; refine wpList_narrow _ rfl 52 28 _ rfl rfl Try.underlying28 _ rfl gC.out ?_; intro x2 p2 hx2))
        obtain rfl : x1 = phRe t := cn_num (hx1.out.trans (by unfold phRe; rw [hsel.out.1])) (FinK_not_nan rR.out.1)
        obtain rfl : x2 = phIm t := cn_num (hx2.out.trans (by unfold phIm; rw [hsel.out.2])) (FinK_not_nan rI.out.1)
        go_ret
        exact ⟨rfl, _, rfl⟩
      · have hsel := Lib.hid ((turn_sel t).2.2.2 (.inr hkn.out.symm))
        have t1 : True := trivial
        have t2 : True := trivial
        go_wp2_with (first
          | (have := t1; clear this t1; refine wpList_narrow _ rfl 52 28 _ rfl rfl Try.underlying28 _ rfl fC.out ?_; intro x1 p1 hx1)
          | (have := t2; clear this t2; refine wpList_narrow _ rfl 52 28 _ rfl rfl Try.underlying28 _ rfl fS.out ?_; intro x2 p2 hx2))
        obtain rfl : x1 = phRe t := cn_num (hx1.out.trans (by unfold phRe; rw [hsel.out.1])) (FinK_not_nan rR.out.1)
        obtain rfl : x2 = phIm t := cn_num (hx2.out.trans (by unfold phIm; rw [hsel.out.2])) (FinK_not_nan rI.out.1)
        go_ret
        exact ⟨rfl, _, rfl⟩
theorem wide_guards {y : Nat} (h : In01 y) : (FloatKind.f64.format.order y 4841369599423283200 == some .gt || FloatKind.f64.format.order y 4841369599423283200 == some .eq) = false ∧ (FloatKind.f64.format.order y 14064741636278059008 == some .lt || FloatKind.f64.format.order y 14064741636278059008 == some .eq) = false := by
  have a : Rn .f64 (4841369599423283200 : Nat) (4841369599423283200 : Nat) 4841369599423283200 := Rn.const (by decide +kernel)
  have b : Rn .f64 (-(4841369599423283200 : Nat)) (-(4841369599423283200 : Nat)) 14064741636278059008 := Rn.const (by decide +kernel)
  have h1 := fge_KV h.1 a.1
  have h2 := fle_KV h.1 b.1
  unfold fge at h1
  unfold fle at h2
  have k0 := h.2; have k1 := a.2; have k2 := b.2
  rw [h1, h2]
  constructor <;> (simp only [decide_eq_false_iff_not]; omega)
theorem ofInt_zero : floatOfInt .f64 0 = 0 := by decide +kernel
set_option maxHeartbeats 2000000 in
theorem sineWide_any (y : Nat) (h : InQ y) (w : World) : Calls Try.prog 79 #[.float .f64 y] w fun e w' => e = .returned (.float .f64 (sineF y)) ∧ ∃ q, w' = w.drewN q := by
  have H := Lib.hid h
  have hz := Lib.hid (self_zero h.1)
  obtain ⟨hq1, hq2⟩ := q_less (sub0_q h)
  obtain ⟨hg1, hg2⟩ := wide_guards h.in01
  have hl0 := not_lt0 (sub0_q h)
  have hcv := fun w => run_convert_float_int (P := Try.prog) w 52 2 .f64 .i64 y 0 rfl Try.underlying2 (toInt_01 h.in01)
  have hoz := ofInt_zero
  have hfin := Lib.hid (sub0_q h).1
  clear h
  go_enter Try.func79, Try.ntmps79
  have t0 : True := trivial
  have t1 : True := trivial
  have t2 : True := trivial
  have t3 : True := trivial
  go_wp2_with (first
    | (have := t0; clear this t0; refine wpList_fop _ rfl .sub _ _ _ _ rfl rfl .f64 _ _ rfl rfl ?_; intro r0 p0 h0; have hc2 : (FloatKind.f64.format.order r0 0 != some .eq) = false := (by rw [order_l h0.out]; exact hz.out))
    | (have := t1; clear this t1; refine wpList_fop _ rfl .sub _ _ _ _ rfl rfl .f64 _ _ rfl rfl ?_; intro f q0 hf; obtain rfl : f = fop .sub .f64 y 0 := cn_num hf.out (FinK_not_nan hfin.out))
    | (have := t2; clear this t2; refine wpList_fop _ rfl .mul _ _ _ _ rfl rfl .f64 _ _ rfl rfl ?_; intro z q1 hz1)
    | (have := t3; clear this t3; refine wpList_fop _ rfl .mul _ _ _ _ rfl rfl .f64 _ _ rfl rfl ?_; intro u q2 hu0))
  have hzz : Hid (cn .f64 z = sineZ y) := hz1
  have hu : Hid (cn .f64 u = fop .mul .f64 (sineZ y) (sineZ y)) := by show _ = _; rw [hu0.out, fop_l hzz.out, fop_r hzz.out]
  clear hq1 hq2 hg1 hg2 hl0 hcv hoz hc2
  go_loopw [7, 8] (fun b j wr => ∃ k r q : Nat, k ≤ 8 ∧ j = .int .i64 (8 - (k : Int)) ∧ b = .float .f64 r ∧ Hid (cn .f64 r = sineP (fop .mul .f64 (sineZ y) (sineZ y)) k) ∧ wr = w.drewN q) (fun _ j _ => (intOf j + 1).toNat)
  case atStart => exact ⟨0, _, _, by omega, rfl, rfl, by show cn .f64 4607182418800017408 = 4607182418800017408; decide +kernel, rfl⟩
  case round =>
    obtain ⟨k, r, q', hk, rfl, rfl, hr, rfl⟩ := hrel
    by_cases hlt : k < 8
    · have hge : (1 : Int) ≤ 8 - (k : Int) := by omega
      have hge2 : (8 : Int) - (k : Int) ≤ 8 := by omega
      have hmb0 : 0 ≤ 2 * (8 - (k : Int)) * (2 * (8 - (k : Int)) + 1) := Int.mul_nonneg (by omega) (by omega)
      have hmb1 : 2 * (8 - (k : Int)) * (2 * (8 - (k : Int)) + 1) ≤ 16 * 17 := Int.mul_le_mul (by omega) (by omega) (by omega) (by omega)
      have Hlt := Lib.hid hlt
      clear hlt hk
      have t1 : True := trivial
      have t2 : True := trivial
      have t3 : True := trivial
      go_wp2_with (first
        | (have := t1; clear this t1; refine wpList_fop _ rfl .mul _ _ _ _ rfl rfl .f64 _ _ rfl rfl ?_; intro u1 p1 hu1)
        | (have := t2; clear this t2; refine wpList_fop _ rfl .quo _ _ _ _ rfl rfl .f64 _ _ rfl rfl ?_; intro u6 p6 hu6)
        | (have := t3; clear this t3; refine wpList_fop _ rfl .sub _ _ _ _ rfl rfl .f64 _ _ rfl rfl ?_; intro u7 p7 hu7))
      have e7 : Hid (cn .f64 u7 = sineP (fop .mul .f64 (sineZ y) (sineZ y)) (k + 1)) := by
        show _ = _
        rw [hu7.out, fop_r hu6.out, fop_l hu1.out, fop_l hu.out, fop_r hr.out]; rfl
      go_roundw
      case rel => exact ⟨k + 1, u7, _, Hlt.out, congrArg (Value.int .i64) (by omega), rfl, e7, rfl⟩
      case measure => simp only [intOf]; omega
    · obtain rfl : k = 8 := by omega
      clear hlt hk
      have t1 : True := trivial
      go_wp2_with (have := t1; clear this t1; refine wpList_fop _ rfl .mul _ _ _ _ rfl rfl .f64 _ _ rfl rfl ?_; intro u1 p1 hu1)
      have e1 : u1 = sineF y := cn_num (hu1.out.trans (by rw [fop_l hzz.out, fop_r hr.out]; rfl)) (FinK_not_nan (sineF_rn H.out).1)
      subst e1
      go_ret
      exact ⟨rfl, _, rfl⟩
set_option maxHeartbeats 4000000 in
theorem specPhasor_any (t : Nat) (h : In01 t) (w : World) : Calls Try.prog 68 #[.float .f64 t] w fun e w' => e = .returned (.complex .f32 (phRe t) (phIm t)) ∧ ∃ q, w' = w.drewN q := by
  have H := Lib.hid h
  have hz := Lib.hid (self_zero h.1)
  obtain ⟨hg1, hg2⟩ := wide_guards h
  have hl0 := not_lt0 (sub0_01 h)
  have hcv := fun w => run_convert_float_int (P := Try.prog) w 52 2 .f64 .i64 t 0 rfl Try.underlying2 (toInt_01 h)
  have hoz := ofInt_zero
  have hfin := Lib.hid (sub0_01 h).1
  clear h
  go_enter Try.func68, Try.ntmps68
  have t0 : True := trivial
  have t1 : True := trivial
  go_wp2_with (first
    | (have := t0; clear this t0; refine wpList_fop _ rfl .sub _ _ _ _ rfl rfl .f64 _ _ rfl rfl ?_; intro r0 p0 h0; have hc2 : (FloatKind.f64.format.order r0 0 != some .eq) = false := (by rw [order_l h0.out]; exact hz.out))
    | (have := t1; clear this t1; refine wpList_fop _ rfl .sub _ _ _ _ rfl rfl .f64 _ _ rfl rfl ?_; intro f q0 hf; obtain rfl : f = fop .sub .f64 t 0 := cn_num hf.out (FinK_not_nan hfin.out)))
  clear hg1 hg2 hl0 hcv hoz hc2
  go_loopw [3, 4] (fun a n wr => ∃ k q : Nat, k ≤ nT t ∧ a = .float .f64 (itF t k) ∧ n = .int .i64 k ∧ wr = w.drewN q) (fun _ n _ => 4 - (intOf n).toNat)
  case atStart => exact ⟨0, _, Nat.zero_le _, rfl, rfl, rfl⟩
  case round =>
    obtain ⟨k, q, hk, rfl, rfl, rfl⟩ := hrel
    have h4 := nT_le t
    by_cases hlt : k < nT t
    · have hc : (FloatKind.f64.format.order (itF t k) 4598175219545276416 == some .gt || FloatKind.f64.format.order (itF t k) 4598175219545276416 == some .eq) = true := nT_yes hlt
      have hk4 : k < 4 := by omega
      have hf : Hid (FinK .f64 (itF t (k + 1))) := (it_rn H.out (show k + 1 ≤ nT t from hlt)).1
      have Hlt := Lib.hid hlt
      clear hlt hk h4
      have t1 : True := trivial
      go_wp2_with (have := t1; clear this t1; refine wpList_fop _ rfl .sub _ _ _ _ rfl rfl .f64 _ _ rfl rfl ?_; intro r1 q1 h1)
      have e1 : r1 = itF t (k + 1) := cn_num h1.out (FinK_not_nan hf.out)
      go_roundw
      case rel => exact ⟨k + 1, _, Hlt.out, congrArg (Value.float .f64) e1, by go_num, rfl⟩
      case measure => simp only [intOf]; omega
    · have hkn : Hid (k = nT t) := by show _ = _; omega
      have hc : (FloatKind.f64.format.order (itF t k) 4598175219545276416 == some .gt || FloatKind.f64.format.order (itF t k) 4598175219545276416 == some .eq) = false := by rw [hkn.out]; exact (nT_no H.out).1
      have hk4 : k ≤ 4 := by omega
      have hql : Hid (InQ (itF t k)) := by show InQ _; rw [hkn.out]; exact left_q H.out
      have hqr : Hid (InQ (fop .sub .f64 4598175219545276416 (itF t k))) := by show InQ _; rw [hkn.out]; exact rest_q H.out
      clear hlt hk h4
      have t1 : True := trivial
      go_wp2_with (have := t1; clear this t1; refine wpList_fop _ rfl .sub _ _ _ _ rfl rfl .f64 _ _ rfl rfl ?_; intro r1 q1 h1; obtain rfl : r1 = fop .sub .f64 4598175219545276416 (itF t k) := cn_num h1.out (FinK_not_nan hqr.out.1))
      refine (sineWide_any _ hqr.out _).mono ?_
      rintro e w5 ⟨rfl, q5, rfl⟩
      have eC : Hid (turnC t = sineF (fop .sub .f64 4598175219545276416 (itF t k))) := by show _ = _; unfold turnC; rw [hkn.out]
      rw [← eC.out]
      go_wp2_with fail
      refine (sineWide_any _ hql.out _).mono ?_
      rintro e w6 ⟨rfl, q6, rfl⟩
      have eS : Hid (turnS t = sineF (itF t k)) := by show _ = _; unfold turnS; rw [hkn.out]
      rw [← eS.out]
      have fC := Lib.hid (eight_fits (turnC_rn H.out))
      have fS := Lib.hid (eight_fits (turnS_rn H.out))
      have nC := Lib.hid (neg_rn (turnC_rn H.out))
      have nS := Lib.hid (neg_rn (turnS_rn H.out))
      have gC := Lib.hid (eight_fits nC.out)
      have gS := Lib.hid (eight_fits nS.out)
      have rR := Lib.hid (phRe_rn H.out)
      have rI := Lib.hid (phIm_rn H.out)
      clear hc
      rcases (by omega : k = 0 ∨ k = 1 ∨ k = 2 ∨ k = 3 ∨ k = 4) with rfl | rfl | rfl | rfl | rfl
      · have hsel := Lib.hid ((turn_sel t).2.2.2 (.inl hkn.out.symm))
        go_wp2_with fail
        refine (l01Narrow_any _ _ fC.out).mono ?_
        rintro e w7 ⟨x1, rfl, hx1, p1, rfl⟩
        dsimp only
        go_wp2_with fail
        refine (l01Narrow_any _ _ fS.out).mono ?_
        rintro e w8 ⟨x2, rfl, hx2, p2, rfl⟩
        obtain rfl : x1 = phRe t := cn_num (hx1.out.trans (by unfold phRe; rw [hsel.out.1])) (FinK_not_nan rR.out.1)
        obtain rfl : x2 = phIm t := cn_num (hx2.out.trans (by unfold phIm; rw [hsel.out.2])) (FinK_not_nan rI.out.1)
        go_wp2
        go_ret
        exact ⟨rfl, _, rfl⟩
      · have hsel := Lib.hid ((turn_sel t).1 hkn.out.symm)
        have t0 : True := trivial
        go_wp2_with (have := t0; clear this t0; refine wpList_fop _ rfl .sub _ _ _ _ rfl rfl .f64 _ _ rfl rfl ?_; intro n1 p0 hn1; obtain rfl : n1 = fop .sub .f64 0 (turnS t) := cn_num hn1.out (FinK_not_nan nS.out.1))
        refine (l01Narrow_any _ _ gS.out).mono ?_
        rintro e w7 ⟨x1, rfl, hx1, p1, rfl⟩
        dsimp only
        go_wp2_with fail
        refine (l01Narrow_any _ _ fC.out).mono ?_
        rintro e w8 ⟨x2, rfl, hx2, p2, rfl⟩
        obtain rfl : x1 = phRe t := cn_num (hx1.out.trans (by unfold phRe; rw [hsel.out.1])) (FinK_not_nan rR.out.1)
        obtain rfl : x2 = phIm t := cn_num (hx2.out.trans (by unfold phIm; rw [hsel.out.2])) (FinK_not_nan rI.out.1)
        go_wp2
        go_ret
        exact ⟨rfl, _, rfl⟩
      · have hsel := Lib.hid ((turn_sel t).2.1 hkn.out.symm)
        have t0 : True := trivial
        go_wp2_with (have := t0; clear this t0; refine wpList_fop _ rfl .sub _ _ _ _ rfl rfl .f64 _ _ rfl rfl ?_; intro n1 p0 hn1; obtain rfl : n1 = fop .sub .f64 0 (turnC t) := cn_num hn1.out (FinK_not_nan nC.out.1))
        refine (l01Narrow_any _ _ gC.out).mono ?_
        rintro e w7 ⟨x1, rfl, hx1, p1, rfl⟩
        dsimp only
        have t3 : True := trivial
        go_wp2_with (have := t3; clear this t3; refine wpList_fop _ rfl .sub _ _ _ _ rfl rfl .f64 _ _ rfl rfl ?_; intro n2 p3 hn2; obtain rfl : n2 = fop .sub .f64 0 (turnS t) := cn_num hn2.out (FinK_not_nan nS.out.1))
        refine (l01Narrow_any _ _ gS.out).mono ?_
        rintro e w8 ⟨x2, rfl, hx2, p2, rfl⟩
        obtain rfl : x1 = phRe t := cn_num (hx1.out.trans (by unfold phRe; rw [hsel.out.1])) (FinK_not_nan rR.out.1)
        obtain rfl : x2 = phIm t := cn_num (hx2.out.trans (by unfold phIm; rw [hsel.out.2])) (FinK_not_nan rI.out.1)
        go_wp2
        go_ret
        exact ⟨rfl, _, rfl⟩
      · have hsel := Lib.hid ((turn_sel t).2.2.1 hkn.out.symm)
        go_wp2_with fail
        refine (l01Narrow_any _ _ fS.out).mono ?_
        rintro e w7 ⟨x1, rfl, hx1, p1, rfl⟩
        dsimp only
        have t3 : True := trivial
        go_wp2_with (have := t3; clear this t3; refine wpList_fop _ rfl .sub _ _ _ _ rfl rfl .f64 _ _ rfl rfl ?_; intro n2 p3 hn2; obtain rfl : n2 = fop .sub .f64 0 (turnC t) := cn_num hn2.out (FinK_not_nan nC.out.1))
        refine (l01Narrow_any _ _ gC.out).mono ?_
        rintro e w8 ⟨x2, rfl, hx2, p2, rfl⟩
        obtain rfl : x1 = phRe t := cn_num (hx1.out.trans (by unfold phRe; rw [hsel.out.1])) (FinK_not_nan rR.out.1)
        obtain rfl : x2 = phIm t := cn_num (hx2.out.trans (by unfold phIm; rw [hsel.out.2])) (FinK_not_nan rI.out.1)
        go_wp2
        go_ret
        exact ⟨rfl, _, rfl⟩
      · have hsel := Lib.hid ((turn_sel t).2.2.2 (.inr hkn.out.symm))
        go_wp2_with fail
        refine (l01Narrow_any _ _ fC.out).mono ?_
        rintro e w7 ⟨x1, rfl, hx1, p1, rfl⟩
        dsimp only
        go_wp2_with fail
        refine (l01Narrow_any _ _ fS.out).mono ?_
        rintro e w8 ⟨x2, rfl, hx2, p2, rfl⟩
        obtain rfl : x1 = phRe t := cn_num (hx1.out.trans (by unfold phRe; rw [hsel.out.1])) (FinK_not_nan rR.out.1)
        obtain rfl : x2 = phIm t := cn_num (hx2.out.trans (by unfold phIm; rw [hsel.out.2])) (FinK_not_nan rI.out.1)
        go_wp2
        go_ret
        exact ⟨rfl, _, rfl⟩
end Go.Proofs.Ytgbehnkccgahoaa
