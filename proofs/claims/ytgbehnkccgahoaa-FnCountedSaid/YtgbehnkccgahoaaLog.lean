/- 'LogNumber' of the program and of the reference, at what is greater than 0 and at most 1. -/
import Derived.Test.YtgbehnkccgahoaaRoot
import Derived.Test.YtgbehnkccgahoaaFin
namespace Go.Proofs.Ytgbehnkccgahoaa
open Go.RowKit Mag
set_option maxRecDepth 100000

def bitsOf : Value → Nat
  | .float _ b => b
  | _ => 0
theorem cn_num {k : FloatKind} {r v : Nat} (h : cn k r = v) (hv : isNaNB k v = false) : r = v := by
  by_cases hr : isNaNB k r = true
  · rw [cn_of_nan hr] at h
    rw [← h, qnan_isNaN] at hv
    cases hv
  · rwa [cn_of_not (by simpa using hr)] at h
theorem self_sub {k : FloatKind} {x : Nat} (h : FinK k x) : KV k (fop .sub k x x) = 0 := by
  obtain ⟨r, e, hs⟩ := sub_sk h h
  have : fop .sub k x x = r := by unfold fop floatBits; dsimp only; rw [e]; rfl
  rw [this]
  show sk k.format r = 0
  rw [hs]
  have ht : ∀ (s : Bool) (m : Nat) (i : Int), tot s m i (!s) m i = 0 := by
    intro s m i
    unfold tot sv
    cases s <;> simp <;> omega
  rw [ht]
  unfold srg sv rg
  simp
theorem fin_of_FinK {x : Nat} (h : FinK .f32 x) : finB x = true := by
  have h0 : FinK .f32 0 := (Rn.const (k := .f32) (lo := 0) (hi := 0) (by decide +kernel)).1
  have hk := self_sub h
  have hf : FinK .f32 (fop .sub .f32 x x) := by
    rw [FinK_iff, hk]; decide
  unfold finB
  rw [feq_KV hf h0, hk]
  decide +kernel
theorem Fin_one {a : Nat} (h2 : a ≤ 1065353216) : FinK .f32 a ∧ KV .f32 a = a := by
  have hk : KV .f32 a = a := sk_small (f := Ieee.single) (by show a < 2147483648; omega)
  refine ⟨?_, hk⟩
  rw [FinK_iff, hk]
  have : infK .f32 = 2139095040 := (by decide)
  omega
def yUp (x k : Nat) : Nat := x + k * Bd
def eN (k : Nat) : Nat := eF (-(k : Int))
def kE (j : Nat) : Nat := eF (25 - 2 * (j : Int))
theorem eN_zero : (0 : Nat) = eN 0 := by decide +kernel
theorem eN_succ {k : Nat} (h : k < 160) : fop .sub .f64 (eN k) 4607182418800017408 = eN (k + 1) := eF_down k (by omega)
theorem kE_zero : (4627730092099895296 : Nat) = kE 0 := by decide +kernel
theorem kE_succ : ∀ j : Nat, j < 13 → fop .sub .f64 (kE j) 4611686018427387904 = kE (j + 1) := by decide +kernel
theorem kE_ge : ∀ j : Nat, j < 13 → (FloatKind.f64.format.order (kE j) 4607182418800017408 == some .gt || FloatKind.f64.format.order (kE j) 4607182418800017408 == some .eq) = true := by decide +kernel
theorem kE_lt : (FloatKind.f64.format.order (kE 13) 4607182418800017408 == some .gt || FloatKind.f64.format.order (kE 13) 4607182418800017408 == some .eq) = false := by decide +kernel
/-- What is left of a counter that goes down by 2. -/
def kEm (b : Nat) : Nat := (KV .f64 b + 9223372036854775808).toNat
theorem kE_meas : ∀ j : Nat, j < 13 → kEm (kE (j + 1)) < kEm (kE j) := by decide +kernel
theorem kE_nan (j : Nat) : isNaNB .f64 (kE j) = false := eF_not_nan _
theorem eN_nan (j : Nat) : isNaNB .f64 (eN j) = false := eF_not_nan _
theorem yUp_lt {x k : Nat} (h2 : x ≤ 4607182418800017408) (hk : k ≤ nUp x) : yUp x k < 4609434218613702656 := by
  have a := nUp_hi h2
  have : k * Bd ≤ nUp x * Bd := Nat.mul_le_mul_right _ hk
  exact Nat.lt_of_le_of_lt (Nat.add_le_add_left this x) a
theorem yUp_fin {x k : Nat} (h2 : x ≤ 4607182418800017408) (hk : k ≤ nUp x) : FinK .f64 (yUp x k) ∧ KV .f64 (yUp x k) = yUp x k := by
  have := yUp_lt h2 hk
  exact ⟨Fin_nat (by simp only [Bd]; omega), KV_nat (by omega)⟩
theorem c75 : FinK .f64 4604930618986332160 ∧ KV .f64 4604930618986332160 = 4604930618986332160 := ⟨Fin_nat (by decide), KV_nat (by decide)⟩
theorem c15 : FinK .f64 4609434218613702656 ∧ KV .f64 4609434218613702656 = 4609434218613702656 := ⟨Fin_nat (by decide), KV_nat (by decide)⟩
theorem yUp_yes {x k : Nat} (h2 : x ≤ 4607182418800017408) (hk : k < nUp x) : (FloatKind.f64.format.order (yUp x k) 4604930618986332160 == some .lt) = true := by
  have a := yUp_fin h2 (Nat.le_of_lt hk)
  have b := flt_KV a.1 c75.1
  unfold flt at b
  rw [b, a.2, c75.2]
  have : yUp x k < 4604930618986332160 := nUp_lt hk
  simp only [decide_eq_true_eq]
  omega
theorem yUp_no {x : Nat} (h2 : x ≤ 4607182418800017408) : (FloatKind.f64.format.order (yUp x (nUp x)) 4604930618986332160 == some .lt) = false := by
  have a := yUp_fin h2 (Nat.le_refl _)
  have b := flt_KV a.1 c75.1
  unfold flt at b
  rw [b, a.2, c75.2]
  have : 4604930618986332160 ≤ yUp x (nUp x) := nUp_ge x
  simp only [decide_eq_false_iff_not]
  omega
theorem yUp_small {x k : Nat} (h2 : x ≤ 4607182418800017408) (hk : k ≤ nUp x) : (FloatKind.f64.format.order (yUp x k) 4609434218613702656 == some .gt || FloatKind.f64.format.order (yUp x k) 4609434218613702656 == some .eq) = false := by
  have a := yUp_fin h2 hk
  have b := fge_KV a.1 c15.1
  unfold fge at b
  rw [b, a.2, c15.2]
  have := yUp_lt h2 hk
  simp only [decide_eq_false_iff_not]
  omega
theorem yUp_dbl {x k : Nat} (h1 : 873 * Bd ≤ x) (h2 : x ≤ 4607182418800017408) (hk : k < nUp x) : fop .mul .f64 (yUp x k) 4611686018427387904 = yUp x (k + 1) := by
  have a := yUp_lt h2 (Nat.le_of_lt hk)
  have b : yUp x (k + 1) = yUp x k + Bd := by unfold yUp; rw [Nat.succ_mul]; omega
  rw [b]
  refine dbl_word ?_ (by simp only [Bd]; omega)
  unfold yUp
  simp only [Bd] at *
  omega
theorem yUp_num {x k : Nat} (h2 : x ≤ 4607182418800017408) (hk : k ≤ nUp x) : isNaNB .f64 (yUp x k) = false := FinK_not_nan (yUp_fin h2 hk).1
theorem yUp_meas {x k : Nat} (h2 : x ≤ 4607182418800017408) (hk : k < nUp x) : 9223372036854775808 - yUp x (k + 1) < 9223372036854775808 - yUp x k := by
  have a := yUp_lt h2 (show k + 1 ≤ nUp x from hk)
  have b : yUp x (k + 1) = yUp x k + Bd := by unfold yUp; rw [Nat.succ_mul]; omega
  rw [b] at a ⊢
  simp only [Bd] at *
  omega

set_option maxHeartbeats 2000000 in
theorem logarithm_any (x : Nat) (w : World) (h1 : 873 * Bd ≤ x) (h2 : x ≤ 4607182418800017408) :
    Calls Try.prog 48 #[.float .f64 x] w fun e w' => ∃ r, e = .returned (.float .f64 r) ∧ Hid (cn .f64 r = log64 x) ∧ ∃ q, w' = w.drewN q := by
  have H1 := Lib.hid h1; have H2 := Lib.hid h2; clear h1 h2
  have hn160 := Lib.hid (nUp_le H1.out)
  go_enter Try.func48, Try.ntmps48
  go_wp2
  go_loopw [0, 3] (fun a e wr => ∃ k q : Nat, k ≤ nUp x ∧ a = .float .f64 (yUp x k) ∧ e = .float .f64 (eN k) ∧ wr = w.drewN q) (fun a _ _ => 9223372036854775808 - bitsOf a)
  case atStart => exact ⟨0, 0, Nat.zero_le _, by simp [yUp], congrArg (Value.float .f64) eN_zero, rfl⟩
  case round =>
    obtain ⟨k, q, hk, rfl, rfl, rfl⟩ := hrel
    by_cases hlt : k < nUp x
    · have hc := yUp_yes H2.out hlt
      have Hlt := Lib.hid hlt
      clear hlt hk
      go_wp2_with (first
        | (refine wpList_fop _ rfl .sub _ _ _ _ rfl rfl .f64 _ _ rfl rfl ?_; intro r1 q1 hr1)
        | (refine wpList_fop _ rfl .mul _ _ _ _ rfl rfl .f64 _ _ rfl rfl ?_; intro r2 q2 hr2))
      have e1 : r1 = eN (k + 1) := cn_num (hr1.out.trans (eN_succ (Nat.lt_trans Hlt.out hn160.out))) (eN_nan _)
      have e2 : r2 = yUp x (k + 1) := cn_num (hr2.out.trans (yUp_dbl H1.out H2.out Hlt.out)) (yUp_num H2.out Hlt.out)
      go_roundw
      case rel => exact ⟨k + 1, _, Hlt.out, congrArg (Value.float .f64) e2, congrArg (Value.float .f64) e1, rfl⟩
      case measure => rw [e2]; exact yUp_meas H2.out Hlt.out
    · obtain rfl : k = nUp x := by omega
      have hc := yUp_no H2.out
      have hg := yUp_small H2.out (Nat.le_refl _)
      clear hlt hk
      go_wp2
      go_loopw [0, 3] (fun a e wr => a = .float .f64 (yUp x (nUp x)) ∧ e = .float .f64 (eN (nUp x)) ∧ wr = w.drewN q) (fun _ _ _ => 0)
      case atStart => exact ⟨rfl, rfl, rfl⟩
      case round =>
        obtain ⟨rfl, rfl, rfl⟩ := hrel
        have t1 : True := trivial
        have t2 : True := trivial
        have t3 : True := trivial
        have t4 : True := trivial
        go_wp2_with (first
          | (have := t1; clear this t1; refine wpList_fop _ rfl .sub _ _ _ _ rfl rfl .f64 _ _ rfl rfl ?_; intro r1 q1 hr1)
          | (have := t2; clear this t2; refine wpList_fop _ rfl .add _ _ _ _ rfl rfl .f64 _ _ rfl rfl ?_; intro r2 q2 hr2)
          | (have := t3; clear this t3; refine wpList_fop _ rfl .quo _ _ _ _ rfl rfl .f64 _ _ rfl rfl ?_; intro r3 q3 hr3)
          | (have := t4; clear this t4; refine wpList_fop _ rfl .mul _ _ _ _ rfl rfl .f64 _ _ rfl rfl ?_; intro r4 q4 hr4))
        have hs : Hid (cn .f64 r3 = logS (yUp x (nUp x))) := by show _ = _; rw [hr3.out, fop_l hr1.out, fop_r hr2.out]; rfl
        have hu : Hid (cn .f64 r4 = fop .mul .f64 (logS (yUp x (nUp x))) (logS (yUp x (nUp x)))) := by show _ = _; rw [hr4.out, fop_l hs.out, fop_r hs.out]
        clear hc hg
        go_loopw [6, 7] (fun b j wr => ∃ k r q : Nat, k ≤ 13 ∧ j = .float .f64 (kE k) ∧ b = .float .f64 r ∧ Hid (cn .f64 r = logQ (fop .mul .f64 (logS (yUp x (nUp x))) (logS (yUp x (nUp x)))) k) ∧ wr = w.drewN q) (fun _ j _ => kEm (bitsOf j))
        case atStart => exact ⟨0, 0, _, by omega, congrArg (Value.float .f64) kE_zero, rfl, cn_of_not (zero_not_nan .f64), rfl⟩
        case round =>
          obtain ⟨k, r, q', hk, rfl, rfl, hr, rfl⟩ := hrel
          by_cases hlt : k < 13
          · have hge := kE_ge k hlt
            have Hlt := Lib.hid hlt
            clear hlt hk
            have t1 : True := trivial
            have t2 : True := trivial
            have t3 : True := trivial
            have t4 : True := trivial
            go_wp2_with (first
              | (have := t1; clear this t1; refine wpList_fop _ rfl .quo _ _ _ _ rfl rfl .f64 _ _ rfl rfl ?_; intro u1 p1 hu1)
              | (have := t2; clear this t2; refine wpList_fop _ rfl .mul _ _ _ _ rfl rfl .f64 _ _ rfl rfl ?_; intro u2 p2 hu2)
              | (have := t3; clear this t3; refine wpList_fop _ rfl .add _ _ _ _ rfl rfl .f64 _ _ rfl rfl ?_; intro u3 p3 hu3)
              | (have := t4; clear this t4; refine wpList_fop _ rfl .sub _ _ _ _ rfl rfl .f64 _ _ rfl rfl ?_; intro u4 p4 hu4))
            have e4 : u4 = kE (k + 1) := cn_num (hu4.out.trans (kE_succ k Hlt.out)) (kE_nan _)
            have e3 : Hid (cn .f64 u3 = logQ (fop .mul .f64 (logS (yUp x (nUp x))) (logS (yUp x (nUp x)))) (k + 1)) := by
              show _ = _
              rw [hu3.out, fop_l hu1.out, fop_r hu2.out, fop_l hu.out, fop_r hr.out]; rfl
            go_roundw
            case rel => exact ⟨k + 1, u3, _, Hlt.out, congrArg (Value.float .f64) e4, rfl, e3, rfl⟩
            case measure => rw [e4]; exact kE_meas k Hlt.out
          · obtain rfl : k = 13 := by omega
            have hge := kE_lt
            clear hlt hk
            have t1 : True := trivial
            have t2 : True := trivial
            have t3 : True := trivial
            have t4 : True := trivial
            go_wp2_with (first
              | (have := t1; clear this t1; refine wpList_fop _ rfl .mul _ _ _ _ rfl rfl .f64 _ _ rfl rfl ?_; intro u1 p1 hu1)
              | (have := t2; clear this t2; refine wpList_fop _ rfl .mul _ _ _ _ rfl rfl .f64 _ _ rfl rfl ?_; intro u2 p2 hu2)
              | (have := t3; clear this t3; refine wpList_fop _ rfl .mul _ _ _ _ rfl rfl .f64 _ _ rfl rfl ?_; intro u3 p3 hu3)
              | (have := t4; clear this t4; refine wpList_fop _ rfl .add _ _ _ _ rfl rfl .f64 _ _ rfl rfl ?_; intro u4 p4 hu4))
            go_ret
            refine ⟨u4, rfl, ?_, _, rfl⟩
            show _ = _
            rw [hu4.out, fop_l hu2.out, fop_r hu1.out, fop_l hs.out, fop_r hr.out, fop_r hu3.out]
            rfl
theorem implLog_any (a r0 : Nat) (w : World) (hr0 : cn .f32 r0 = a) (h1 : 1 ≤ a) (h2 : a ≤ 1065353216) :
    Calls Try.prog 25 #[.float .f32 r0] w fun e w' => ∃ r, e = .returned (.float .f32 r) ∧ Hid (cn .f32 r = logF a) ∧ ∃ q, w' = w.drewN q := by
  have hf := Fin_one h2
  obtain rfl : r0 = a := cn_num hr0 (FinK_not_nan hf.1)
  have h0 : FinK .f32 0 ∧ KV .f32 0 = 0 := ⟨(Rn.const (k := .f32) (lo := 0) (hi := 0) (by decide +kernel)).1, by decide +kernel⟩
  have c1 : (FloatKind.f32.format.order r0 0 == some .eq) = false := by
    have := feq_KV hf.1 h0.1; unfold feq at this; rw [this, hf.2, h0.2]; simp; omega
  have c2 : (FloatKind.f32.format.order r0 r0 != some .eq) = false := by rw [order_self (FinK_not_nan hf.1)]; rfl
  have c3 : (FloatKind.f32.format.order r0 0 == some .lt) = false := by
    have := flt_KV hf.1 h0.1; unfold flt at this; rw [this, hf.2, h0.2]; simp
  have hfin := fin_of_FinK hf.1
  have hw := widen_01 h1 h2
  have Hw1 := Lib.hid hw.1
  have Hw2 := Lib.hid hw.2
  have hcv := run_widen_num (P := Try.prog) 28 52 rfl Try.underlying52
  have hcv' := fun w => hcv w r0 (FinK_not_nan hf.1)
  clear hcv hr0 h1 h2 hf h0 hw
  go_enter Try.func25, Try.ntmps25
  go_wp2_with fail
  refine (isFin_any _ _).mono ?_
  rintro e w1 ⟨rfl, q, rfl⟩
  rw [hfin]
  go_wp2_with fail
  clear hcv' c1 c2 c3
  refine (logarithm_any _ _ Hw1.out Hw2.out).mono ?_
  rintro e w2 ⟨r2, rfl, hr2, q2, rfl⟩
  have hfits : fitsN r2 := fitsN_cn hr2.out (log64_fits Hw1.out Hw2.out)
  go_wp2_with (refine wpList_narrow _ rfl 52 28 _ rfl rfl Try.underlying28 _ rfl hfits ?_; intro r3 q3 h3)
  go_ret
  refine ⟨r3, rfl, ?_, _, rfl⟩
  show _ = _
  rw [h3.out, narrow_l hr2.out]
  rfl
theorem isInf_any (x : Nat) (w : World) (hx : (FloatKind.f64.format.order x 9218868437227405311 == some .gt) = false) : Calls Try.prog 72 #[.float .f64 x, .int .i64 1] w fun e w' => e = .returned (.bool false) ∧ w = w' := by
  go_enter Try.func72, Try.ntmps72
  go_wp2
  go_ret
  exact ⟨rfl, rfl⟩
set_option maxHeartbeats 2000000 in
theorem logWide_any (x : Nat) (w : World) (h1 : 873 * Bd ≤ x) (h2 : x ≤ 4607182418800017408) :
    Calls Try.prog 59 #[.float .f64 x] w fun e w' => ∃ r, e = .returned (.float .f64 r) ∧ Hid (cn .f64 r = log64 x) ∧ ∃ q, w' = w.drewN q := by
  have hf : FinK .f64 x := Fin_nat (by simp only [Bd]; omega)
  have hk : KV .f64 x = x := KV_nat (by omega)
  have h0 : FinK .f64 0 ∧ KV .f64 0 = 0 := ⟨Fin_nat (by decide), KV_nat (by decide)⟩
  have hm : FinK .f64 9218868437227405311 ∧ KV .f64 9218868437227405311 = 9218868437227405311 := ⟨Fin_nat (by decide), KV_nat (by decide)⟩
  have c1 : (FloatKind.f64.format.order x x != some .eq) = false := by rw [order_self (FinK_not_nan hf)]; rfl
  have c2 : (FloatKind.f64.format.order x 0 == some .lt) = false := by
    have := flt_KV hf h0.1; unfold flt at this; rw [this, hk, h0.2]; simp
  have c3 : (FloatKind.f64.format.order x 0 == some .eq) = false := by
    have := feq_KV hf h0.1; unfold feq at this; rw [this, hk, h0.2]; simp only [Bd] at h1; simp; omega
  have c4 : Hid ((FloatKind.f64.format.order x 9218868437227405311 == some .gt) = false) := by
    show _ = _
    have := fgt_KV hf hm.1; unfold fgt at this; rw [this, hk, hm.2]; simp; omega
  have c5 : (FloatKind.f64.format.order x 4609434218613702656 == some .gt || FloatKind.f64.format.order x 4609434218613702656 == some .eq) = false := by
    have := yUp_small h2 (Nat.zero_le _); rwa [show yUp x 0 = x by simp [yUp]] at this
  have H1 := Lib.hid h1; have H2 := Lib.hid h2; clear h1 h2 hf hk h0 hm
  have hn160 := nUp_le H1.out
  go_enter Try.func59, Try.ntmps59
  go_wp2_with (refine (isInf_any _ _ c4.out).mono ?_; rintro e w1 ⟨rfl, rfl⟩)
  go_loopw [0, 3] (fun a e wr => ∃ q : Nat, a = .float .f64 x ∧ e = .int .i64 0 ∧ wr = w.drewN q) (fun _ _ _ => 0)
  case atStart => exact ⟨0, rfl, rfl, rfl⟩
  case round =>
    obtain ⟨q0, rfl, rfl, rfl⟩ := hrel
    go_wp2
    clear c1 c2 c3 c5
    go_loopw [0, 3] (fun a e wr => ∃ k q : Nat, k ≤ nUp x ∧ a = .float .f64 (yUp x k) ∧ e = .int .i64 (-(k : Int)) ∧ wr = w.drewN q) (fun a _ _ => 9223372036854775808 - bitsOf a)
    case atStart => exact ⟨0, q0, Nat.zero_le _, by simp [yUp], by simp, rfl⟩
    case round =>
      obtain ⟨k, q, hk, rfl, rfl, rfl⟩ := hrel
      by_cases hlt : k < nUp x
      · have hc := yUp_yes H2.out hlt
        have hk160 : k < 160 := by omega
        have Hlt := Lib.hid hlt
        clear hlt hk
        go_wp2_with (refine wpList_fop _ rfl .mul _ _ _ _ rfl rfl .f64 _ _ rfl rfl ?_; intro r2 q2 hr2)
        have e2 : r2 = yUp x (k + 1) := cn_num (hr2.out.trans (yUp_dbl H1.out H2.out Hlt.out)) (yUp_num H2.out Hlt.out)
        go_roundw
        case rel => exact ⟨k + 1, _, Hlt.out, congrArg (Value.float .f64) e2, congrArg (Value.int .i64) (by omega), rfl⟩
        case measure => rw [e2]; exact yUp_meas H2.out Hlt.out
      · obtain rfl : k = nUp x := by omega
        have hc := yUp_no H2.out
        clear hlt hk
        have t1 : True := trivial
        have t2 : True := trivial
        have t3 : True := trivial
        have t4 : True := trivial
        go_wp2_with (first
          | (have := t1; clear this t1; refine wpList_fop _ rfl .sub _ _ _ _ rfl rfl .f64 _ _ rfl rfl ?_; intro r1 q1 hr1)
          | (have := t2; clear this t2; refine wpList_fop _ rfl .add _ _ _ _ rfl rfl .f64 _ _ rfl rfl ?_; intro r2 q2 hr2)
          | (have := t3; clear this t3; refine wpList_fop _ rfl .quo _ _ _ _ rfl rfl .f64 _ _ rfl rfl ?_; intro r3 q3 hr3)
          | (have := t4; clear this t4; refine wpList_fop _ rfl .mul _ _ _ _ rfl rfl .f64 _ _ rfl rfl ?_; intro r4 q4 hr4))
        have hs : Hid (cn .f64 r3 = logS (yUp x (nUp x))) := by show _ = _; rw [hr3.out, fop_l hr1.out, fop_r hr2.out]; rfl
        have hu : Hid (cn .f64 r4 = fop .mul .f64 (logS (yUp x (nUp x))) (logS (yUp x (nUp x)))) := by show _ = _; rw [hr4.out, fop_l hs.out, fop_r hs.out]
        clear hc
        go_loopw [6, 7] (fun b j wr => ∃ k r q : Nat, k ≤ 13 ∧ j = .int .i64 (25 - 2 * (k : Int)) ∧ b = .float .f64 r ∧ Hid (cn .f64 r = logQ (fop .mul .f64 (logS (yUp x (nUp x))) (logS (yUp x (nUp x)))) k) ∧ wr = w.drewN q) (fun _ j _ => (intOf j + 1).toNat)
        case atStart => exact ⟨0, 0, _, by omega, rfl, rfl, cn_of_not (zero_not_nan .f64), rfl⟩
        case round =>
          obtain ⟨k, r, q', hk, rfl, rfl, hr, rfl⟩ := hrel
          by_cases hlt : k < 13
          · have hge : (1 : Int) ≤ 25 - 2 * (k : Int) := by omega
            have hge2 : (25 : Int) - 2 * (k : Int) ≤ 25 := by omega
            have Hlt := Lib.hid hlt
            clear hlt hk
            have t1 : True := trivial
            have t2 : True := trivial
            have t3 : True := trivial
            go_wp2_with (first
              | (have := t1; clear this t1; refine wpList_fop _ rfl .quo _ _ _ _ rfl rfl .f64 _ _ rfl rfl ?_; intro u1 p1 hu1)
              | (have := t2; clear this t2; refine wpList_fop _ rfl .mul _ _ _ _ rfl rfl .f64 _ _ rfl rfl ?_; intro u2 p2 hu2)
              | (have := t3; clear this t3; refine wpList_fop _ rfl .add _ _ _ _ rfl rfl .f64 _ _ rfl rfl ?_; intro u3 p3 hu3))
            have e3 : Hid (cn .f64 u3 = logQ (fop .mul .f64 (logS (yUp x (nUp x))) (logS (yUp x (nUp x)))) (k + 1)) := by
              show _ = _
              rw [hu3.out, fop_l hu1.out, fop_r hu2.out, fop_l hu.out, fop_r hr.out]; rfl
            go_roundw
            case rel => exact ⟨k + 1, u3, _, Hlt.out, congrArg (Value.int .i64) (by omega), rfl, e3, rfl⟩
            case measure => simp only [intOf]; omega
          · obtain rfl : k = 13 := by omega
            clear hlt hk
            have t1 : True := trivial
            have t2 : True := trivial
            have t3 : True := trivial
            have t4 : True := trivial
            go_wp2_with (first
              | (have := t1; clear this t1; refine wpList_fop _ rfl .mul _ _ _ _ rfl rfl .f64 _ _ rfl rfl ?_; intro u1 p1 hu1)
              | (have := t2; clear this t2; refine wpList_fop _ rfl .mul _ _ _ _ rfl rfl .f64 _ _ rfl rfl ?_; intro u2 p2 hu2)
              | (have := t3; clear this t3; refine wpList_fop _ rfl .mul _ _ _ _ rfl rfl .f64 _ _ rfl rfl ?_; intro u3 p3 hu3)
              | (have := t4; clear this t4; refine wpList_fop _ rfl .add _ _ _ _ rfl rfl .f64 _ _ rfl rfl ?_; intro u4 p4 hu4))
            go_ret
            refine ⟨u4, rfl, ?_, _, rfl⟩
            show _ = _
            rw [hu4.out, fop_l hu2.out, fop_r hu1.out, fop_l hs.out, fop_r hr.out, fop_r hu3.out]
            rfl
theorem specLog_any (a r0 : Nat) (w : World) (hr0 : cn .f32 r0 = a) (h1 : 1 ≤ a) (h2 : a ≤ 1065353216) :
    Calls Try.prog 38 #[.float .f32 r0] w fun e w' => ∃ r, e = .returned (.float .f32 r) ∧ Hid (cn .f32 r = logF a) ∧ ∃ q, w' = w.drewN q := by
  have hf := Fin_one h2
  obtain rfl : r0 = a := cn_num hr0 (FinK_not_nan hf.1)
  have hw := widen_01 h1 h2
  have Hw1 := Lib.hid hw.1
  have Hw2 := Lib.hid hw.2
  have hcv := run_widen_num (P := Try.prog) 28 52 rfl Try.underlying52
  have hcv' := fun w => hcv w r0 (FinK_not_nan hf.1)
  clear hcv hr0 h1 h2 hf hw
  go_enter Try.func38, Try.ntmps38
  go_wp2_with fail
  clear hcv'
  refine (logWide_any _ _ Hw1.out Hw2.out).mono ?_
  rintro e w2 ⟨r2, rfl, hr2, q2, rfl⟩
  have hfits : fitsN r2 := fitsN_cn hr2.out (log64_fits Hw1.out Hw2.out)
  go_wp2_with fail
  refine (l01Narrow_any _ _ hfits).mono ?_
  rintro e w3 ⟨r3, rfl, h3, q3, rfl⟩
  go_wp2
  go_ret
  refine ⟨r3, rfl, ?_, _, rfl⟩
  show _ = _
  rw [h3.out, narrow_l hr2.out]
  rfl
theorem specLeft_any (s : Sd) (g : Nat) (w : World) (hs : s.ok) (hg : SeedAt w g s) :
    Calls Try.prog 37 #[.pointer (some ⟨g, 0, none⟩)] w fun e w' => ∃ r, e = .returned (.float .f32 r) ∧ Hid (cn .f32 r = logF (leftOf s)) ∧ SeedAt w' g (nextSd s) ∧ w.grownBy w' (some g) := by
  go_enter Try.func37, Try.ntmps37
  go_wp2_with fail
  refine (specShare_any s g _ hs hg).mono ?_
  rintro e w2 ⟨u, rfl, hu, hg2, hgr2⟩
  have Hg2 := Lib.hid hg2; have Hgr2 := Lib.hid hgr2; clear hg2 hgr2 hg
  go_wp2_with (refine wpList_fop _ rfl .sub _ _ _ _ rfl rfl .f32 _ _ rfl rfl ?_; intro r q hr)
  have hl : cn .f32 r = leftOf s := by rw [hr.out, fop_r hu.out]; rfl
  refine (specLog_any _ _ _ hl (leftOf_rn s).1 (leftOf_rn s).2).mono ?_
  rintro e w3 ⟨r3, rfl, h3, q3, rfl⟩
  go_wp2
  go_ret
  exact ⟨r3, rfl, h3, (Hg2.out.drewN q).drewN q3, grown_mk_drewN Hgr2.out (q + q3)⟩
end Go.Proofs.Ytgbehnkccgahoaa
