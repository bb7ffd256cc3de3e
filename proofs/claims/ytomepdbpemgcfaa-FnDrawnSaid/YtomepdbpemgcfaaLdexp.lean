/- 'bits.LeadingZeros32' and 'math.Ldexp' where nothing is lost. -/
import Derived.Test.YtomepdbpemgcfaaPhasor
import Derived.Laws.Bits64b
namespace Go.Proofs.Ytomepdbpemgcfaa
open Go.RowKit Mag
set_option maxRecDepth 100000
theorem one_mul_word {x : Nat} (_ : Bd ≤ x) (h2 : x < 2047 * Bd) : fop .mul .f64 4607182418800017408 x = x := by
  have hs : Ieee.double.signWeight = 9223372036854775808 := by decide
  have hi : Ieee.double.infRung = 2047 * Bd := by decide
  have hx : rungW Ieee.double x = x := rungW_small (by rw [hs]; simp only [Bd] at h2; omega)
  have hnx : negW Ieee.double x = false := negW_small (by rw [hs]; simp only [Bd] at h2; omega)
  have ht : rungW Ieee.double 4607182418800017408 = 4607182418800017408 := rungW_small (by rw [hs]; omega)
  have hnt : negW Ieee.double 4607182418800017408 = false := negW_small (by rw [hs]; omega)
  have hf : Fin_ Ieee.double x := by unfold Fin_; rw [hx, hi]; omega
  have hft : Fin_ Ieee.double 4607182418800017408 := by unfold Fin_; rw [ht, hi]; decide
  have hm := mul_fin hft hf
  have e1 : magM Ieee.double 4607182418800017408 = Bd := by decide
  have e2 : magE Ieee.double 4607182418800017408 = -52 := by decide
  rw [hx, hnx, ht, hnt, e1, e2] at hm
  unfold fop floatBits
  show (Ieee.double.mul 4607182418800017408 x).getD _ = _
  rw [hm]
  have hr : rg Ieee.double (Bd * magM Ieee.double x) (-52 + magE Ieee.double x) = x := by
    have hlt : x < Ieee.double.infRung := by rw [hi]; exact h2
    have a := rg_mag hlt
    generalize magM Ieee.double x = M at *
    generalize magE Ieee.double x = E at *
    have e : Bd * M * 2 ^ (-52 + E - (-52 + E)).toNat = M * 2 ^ (E - (-52 + E)).toNat := by
      have z1 : (-52 + E - (-52 + E)).toNat = 0 := by omega
      have z2 : (E - (-52 + E)).toNat = 52 := by omega
      rw [z1, z2, Nat.pow_zero, Nat.mul_one, Nat.mul_comm]
    have u : MLe (Bd * M) (-52 + E) M E := (mle_base (b := -52 + E) (by omega) (by omega)).2 (Nat.le_of_eq e)
    have v : MLe M E (Bd * M) (-52 + E) := (mle_base (b := -52 + E) (by omega) (by omega)).2 (Nat.le_of_eq e.symm)
    have p := rg_mono Ieee.double u
    have q := rg_mono Ieee.double v
    omega
  rw [hr, Option.getD_some]
  unfold Ieee.Format.word
  rw [if_neg (by decide)]
/-- The fraction of a word. -/
theorem andNot_exp (x : Nat) (h : x < 9223372036854775808) : bits .andNot .u64 (x : Int) 9218868437227405312 = ((x % Bd : Nat) : Int) := by
  unfold bits
  show IntKind.u64.wrap (((BitVec.ofInt 64 (x : Int)) &&& ~~~(BitVec.ofInt 64 9218868437227405312)).toNat : Int) = _
  have e1 : (~~~(BitVec.ofInt 64 9218868437227405312)).toNat = 2 ^ 63 ||| (2 ^ 52 - 1) := by decide
  have e2 : (BitVec.ofInt 64 (x : Int)).toNat = x := by
    rw [BitVec.toNat_ofInt]
    omega
  have e3 : x &&& 2 ^ 63 = 0 := by
    apply Nat.eq_of_testBit_eq
    intro i
    rw [Nat.testBit_and, Nat.testBit_two_pow, Nat.zero_testBit]
    by_cases hi : 63 = i
    · subst hi; rw [Nat.testBit_lt_two_pow (by omega)]; rfl
    · simp [hi]
  rw [BitVec.toNat_and, e1, e2, Nat.and_or_distrib_left, e3, Nat.zero_or, Nat.and_two_pow_sub_one_eq_mod]
  have hb : x % 2 ^ 52 < 2 ^ 52 := Nat.mod_lt _ (by omega)
  exact IntKind.wrap_u64 _ |>.trans (by show _ = ((x % 2 ^ 52 : Nat) : Int); omega)
theorem or_exp (f e : Nat) (hf : f < Bd) (he : e < 2048) : bits .or .u64 (f : Int) ((e * Bd : Nat) : Int) = ((e * Bd + f : Nat) : Int) := by
  rw [bits_or_u64_nat f (e * Bd) (by simp only [Bd] at hf; omega) (by simp only [Bd]; omega)]
  congr 1
  have h := Nat.shiftLeft_add_eq_or_of_lt (b := f) (i := 52) hf e
  rw [Nat.shiftLeft_eq] at h
  have h2 : e * Bd = e * 2 ^ 52 := rfl
  rw [h2, h, Nat.or_comm]
theorem abs_any (x : Nat) (h : x < 9223372036854775808) (w : World) : Calls Try.prog 83 #[.float .f64 x] w fun e w' => e = .returned (.float .f64 x) ∧ w = w' := by
  have hb := andNot_top x h
  have hd1 := run_bits
  have hd2 := run_frombits
  clear h
  go_enter Try.func83, Try.ntmps83
  go_wp2
  go_ret
  exact ⟨rfl, rfl⟩
theorem isInf0_any (x : Nat) (h : x < 2047 * Bd) (w : World) : Calls Try.prog 68 #[.float .f64 x, .int .i64 0] w fun e w' => e = .returned (.bool false) ∧ w = w' := by
  have hm : FinK .f64 9218868437227405311 ∧ KV .f64 9218868437227405311 = 9218868437227405311 := ⟨Fin_nat (by decide), KV_nat (by decide)⟩
  have hx : FinK .f64 x ∧ KV .f64 x = x := ⟨Fin_nat h, KV_nat (by simp only [Bd] at h; omega)⟩
  have c4 : (FloatKind.f64.format.order x 9218868437227405311 == some .gt) = false := by
    have := fgt_KV hx.1 hm.1; unfold fgt at this; rw [this, hx.2, hm.2]; simp only [Bd] at h; simp; omega
  have ha := Lib.hid (fun w' => abs_any x (by simp only [Bd] at h; omega) w')
  clear h hm hx
  go_enter Try.func68, Try.ntmps68
  go_wp2_with (go_at_call 83; refine (ha.out _).mono ?_; rintro e w1 ⟨rfl, rfl⟩)
  go_ret
  exact ⟨rfl, rfl⟩
theorem normalize_any (x : Nat) (h1 : Bd ≤ x) (h : x < 2047 * Bd) (w : World) : Calls Try.prog 70 #[.float .f64 x] w fun e w' => e = .returned (.tuple #[.float .f64 x, .int .i64 0]) ∧ w = w' := by
  have hm : FinK .f64 4503599627370496 ∧ KV .f64 4503599627370496 = 4503599627370496 := ⟨Fin_nat (by decide), KV_nat (by decide)⟩
  have hx : FinK .f64 x ∧ KV .f64 x = x := ⟨Fin_nat h, KV_nat (by simp only [Bd] at h; omega)⟩
  have c4 : (FloatKind.f64.format.order x 4503599627370496 == some .lt) = false := by
    have := flt_KV hx.1 hm.1; unfold flt at this; rw [this, hx.2, hm.2]; simp only [Bd] at h1; simp; omega
  have ha := Lib.hid (fun w' => abs_any x (by simp only [Bd] at h; omega) w')
  clear h h1 hm hx
  go_enter Try.func70, Try.ntmps70
  go_wp2_with (go_at_call 83; refine (ha.out _).mono ?_; rintro e w1 ⟨rfl, rfl⟩)
  go_ret2
  exact ⟨rfl, rfl⟩
theorem aux_sum {q m x z : Nat} (h : q + m = x) (hz : z ≤ q) : q - z + m = x - z := by omega
theorem aux_low {q x z r b : Nat} (h : q ≤ x) (hz : z ≤ r) (hr : r + b ≤ q) : b ≤ x - z := by omega
theorem exp_sum {x d f : Nat} (hf : f = x % Bd) (h1 : 1046 * Bd ≤ x) (h2 : x < 1047 * Bd) (hd : d ≤ 200) : (1046 - d) * Bd + f = x - d * Bd := by
  have hq : x / Bd = 1046 := Nat.div_eq_of_lt_le (by omega) (by omega)
  have hdm := Nat.div_add_mod x Bd
  rw [hq, Nat.mul_comm] at hdm
  rw [Nat.sub_mul, hf]
  have hle : d * Bd ≤ 1046 * Bd := Nat.mul_le_mul_right _ (by omega)
  exact aux_sum hdm hle
theorem exp_low {x d : Nat} (h1 : 1046 * Bd ≤ x) (hd : d ≤ 200) : Bd ≤ x - d * Bd := by
  have hle : d * Bd ≤ 200 * Bd := Nat.mul_le_mul_right _ hd
  exact aux_low h1 hle (by decide)
theorem exp_cast (d : Nat) (hd : d ≤ 200) : (-(d : Int) + 23 + 1023) * 4503599627370496 = (((1046 - d) * Bd : Nat) : Int) := by
  have e : (-(d : Int) + 23 + 1023) = ((1046 - d : Nat) : Int) := by omega
  rw [e, Int.natCast_mul, show ((Bd : Nat) : Int) = 4503599627370496 from rfl]
theorem exp_join {x d f : Nat} (hf : f = x % Bd) (h1 : 1046 * Bd ≤ x) (h2 : x < 1047 * Bd) (hd : d ≤ 200) : (bits .or .u64 (f : Int) ((-(d : Int) + 23 + 1023) * 4503599627370496)).toNat = x - d * Bd := by
  rw [exp_cast d hd, or_exp f (1046 - d) (by rw [hf]; exact Nat.mod_lt _ (by decide)) (by omega), Int.toNat_natCast, exp_sum hf h1 h2 hd]
set_option maxHeartbeats 2000000 in
theorem ldexpLow_any (x d : Nat) (h1 : 1046 * Bd ≤ x) (h2 : x < 1047 * Bd) (hd1 : 1 ≤ d) (hd2 : d ≤ 200) (w : World) :
    Calls Try.prog 49 #[.float .f64 x, .int .i64 (-(d : Int))] w fun e w' => e = .returned (.float .f64 (x - d * Bd)) ∧ ∃ q, w' = w.drewN q := by
  have hx : FinK .f64 x ∧ KV .f64 x = x := ⟨Fin_nat (by simp only [Bd] at h2 ⊢; omega), KV_nat (by simp only [Bd] at h2; omega)⟩
  have hz : FinK .f64 0 ∧ KV .f64 0 = 0 := ⟨Fin_nat (by decide), KV_nat (by decide)⟩
  have c1 : (FloatKind.f64.format.order x 0 == some .eq) = false := by
    have := feq_KV hx.1 hz.1; unfold feq at this; rw [this, hx.2, hz.2]; simp only [Bd] at h1; simp; omega
  have c2 : (FloatKind.f64.format.order x x != some .eq) = false := by rw [order_self (FinK_not_nan hx.1)]; rfl
  have hinf := Lib.hid (fun w' => isInf0_any x (by simp only [Bd] at h2 ⊢; omega) w')
  have hnor := Lib.hid (fun w' => normalize_any x (by simp only [Bd] at h1 ⊢; omega) (by simp only [Bd] at h2 ⊢; omega) w')
  have hq : (x : Int) / 4503599627370496 = 1046 := by simp only [Bd] at h1 h2; omega
  have ha : bits .and .i64 1046 2047 = 1046 := by rfl
  have hf := andNot_exp x (by simp only [Bd] at h2; omega)
  obtain ⟨f, hfd⟩ : ∃ f, f = x % Bd := ⟨_, rfl⟩
  rw [← hfd] at hf
  have Hfd := Lib.hid hfd
  have H1 := Lib.hid h1
  have H2 := Lib.hid h2
  have hi1 : (1 : Int) ≤ (d : Int) := by omega
  have hi2 : (d : Int) ≤ 200 := by omega
  have hr1 := run_bits
  have hr2 := run_frombits
  have HD : Hid (d ≤ 200) := hd2
  clear hfd h1 h2 hd1 hd2 hx hz
  go_enter Try.func49, Try.ntmps49
  have t1 : True := trivial
  go_wp2_with (first
    | (go_at_call 68; refine (hinf.out _).mono ?_; rintro e w1 ⟨rfl, rfl⟩)
    | (go_at_call 69; go_in)
    | (go_at_call 70; refine (hnor.out _).mono ?_; rintro e w1 ⟨rfl, rfl⟩)
    | (have := t1; clear this t1; refine wpList_fop _ rfl .mul _ _ _ _ rfl rfl .f64 _ _ rfl rfl ?_; intro r q hr))
  have e1 : r = x - d * Bd := by
    refine cn_num (hr.out.trans ?_) (FinK_not_nan (Fin_nat (Nat.lt_of_le_of_lt (Nat.sub_le _ _) (Nat.lt_trans H2.out (by decide)))))
    rw [exp_join Hfd.out H1.out H2.out HD.out]
    exact one_mul_word (exp_low H1.out HD.out) (Nat.lt_of_le_of_lt (Nat.sub_le _ _) (Nat.lt_trans H2.out (by decide)))
  subst e1
  go_ret
  exact ⟨rfl, _, rfl⟩
theorem ldexp_any (x d : Nat) (h1 : 1046 * Bd ≤ x) (h2 : x < 1047 * Bd) (hd1 : 1 ≤ d) (hd2 : d ≤ 200) (w : World) :
    Calls Try.prog 24 #[.float .f64 x, .int .i64 (-(d : Int))] w fun e w' => e = .returned (.float .f64 (x - d * Bd)) ∧ ∃ q, w' = w.drewN q := by
  have h := Lib.hid (fun w' => ldexpLow_any x d h1 h2 hd1 hd2 w')
  clear h1 h2 hd1 hd2
  go_enter Try.func24, Try.ntmps24
  go_wp2_with (go_at_call 49; refine (h.out _).mono ?_; rintro e w1 ⟨rfl, q, rfl⟩)
  go_ret
  exact ⟨rfl, _, rfl⟩
end Go.Proofs.Ytomepdbpemgcfaa
