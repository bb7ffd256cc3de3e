/- The logarithm of what is greater than 1: halved till it is less than 1.5. -/
import Derived.Test.YtgbehnkccgahoaaLog
namespace Go.Proofs.Ytgbehnkccgahoaa
open Go.RowKit Mag
set_option maxRecDepth 100000
/-- How often x is halved till it is less than 1.5. -/
def nDn (x : Nat) : Nat := if x < 4609434218613702656 then 0 else (x - 4609434218613702656) / Bd + 1
def yDn (x k : Nat) : Nat := x - k * Bd
def eP (k : Nat) : Nat := eF (k : Int)
theorem eP_zero : (0 : Nat) = eP 0 := by decide +kernel
theorem eP_succ {k : Nat} (h : k < 160) : fop .add .f64 (eP k) 4607182418800017408 = eP (k + 1) := eF_up k (by omega)
theorem eP_nan (j : Nat) : isNaNB .f64 (eP j) = false := eF_not_nan _
def log64U (x : Nat) : Nat := logEnd (logS (yDn x (nDn x))) (logQ (fop .mul .f64 (logS (yDn x (nDn x))) (logS (yDn x (nDn x)))) 13) (eP (nDn x))
/-- What is greater than 1 and was a float32. -/
def InU (x : Nat) : Prop := 4607182418800017408 ≤ x ∧ x < 5183643171103440896
theorem nDn_lt {x k : Nat} (hk : k < nDn x) : 4609434218613702656 + k * Bd ≤ x := by
  unfold nDn at hk
  split at hk
  · omega
  · have h1 := Nat.div_mul_le_self (x - 4609434218613702656) Bd
    have h2 : k * Bd ≤ (x - 4609434218613702656) / Bd * Bd := Nat.mul_le_mul_right _ (by omega)
    omega
theorem nDn_le {x : Nat} (h : InU x) : nDn x < 160 := by
  rcases Nat.lt_or_ge (nDn x) 160 with h' | h'
  · exact h'
  · exfalso
    have := nDn_lt (x := x) (k := 159) (by omega)
    have := h.2
    (try simp only [Bd] at *)
    omega
theorem nDn_end {x : Nat} (h : InU x) : 4604930618986332160 ≤ yDn x (nDn x) ∧ yDn x (nDn x) < 4609434218613702656 := by
  unfold yDn nDn
  split
  · have := h.1; omega
  · rename_i hx
    have h1 := Nat.div_add_mod (x - 4609434218613702656) Bd
    have h2 := Nat.mod_lt (x - 4609434218613702656) (by decide : 0 < Bd)
    rw [Nat.mul_comm] at h1
    rw [Nat.succ_mul]
    generalize (x - 4609434218613702656) / Bd * Bd = d at *
    generalize (x - 4609434218613702656) % Bd = m at *
    (try simp only [Bd] at *)
    omega
theorem yDn_bd {x k : Nat} (h : InU x) (hk : k ≤ nDn x) : 4604930618986332160 ≤ yDn x k ∧ yDn x k < 5183643171103440896 := by
  have h1 := (nDn_end h).1
  have h2 : k * Bd ≤ nDn x * Bd := Nat.mul_le_mul_right _ hk
  exact ⟨Nat.le_trans h1 (Nat.sub_le_sub_left h2 x), Nat.lt_of_le_of_lt (Nat.sub_le _ _) h.2⟩
theorem yDn_fin {x k : Nat} (h : InU x) (hk : k ≤ nDn x) : FinK .f64 (yDn x k) ∧ KV .f64 (yDn x k) = yDn x k := by
  have := yDn_bd h hk
  exact ⟨Fin_nat (by (try simp only [Bd] at *); omega), KV_nat (by (try simp only [Bd] at *); omega)⟩
theorem yDn_num {x k : Nat} (h : InU x) (hk : k ≤ nDn x) : isNaNB .f64 (yDn x k) = false := FinK_not_nan (yDn_fin h hk).1
theorem yDn_yes {x k : Nat} (h : InU x) (hk : k < nDn x) : (FloatKind.f64.format.order (yDn x k) 4609434218613702656 == some .gt || FloatKind.f64.format.order (yDn x k) 4609434218613702656 == some .eq) = true := by
  have a := yDn_fin h (Nat.le_of_lt hk)
  have b := fge_KV a.1 c15.1
  unfold fge at b
  rw [b, a.2, c15.2]
  have := nDn_lt hk
  simp only [decide_eq_true_eq]
  unfold yDn
  omega
theorem yDn_no {x : Nat} (h : InU x) : (FloatKind.f64.format.order (yDn x (nDn x)) 4609434218613702656 == some .gt || FloatKind.f64.format.order (yDn x (nDn x)) 4609434218613702656 == some .eq) = false := by
  have a := yDn_fin h (Nat.le_refl _)
  have b := fge_KV a.1 c15.1
  unfold fge at b
  rw [b, a.2, c15.2]
  have := (nDn_end h).2
  simp only [decide_eq_false_iff_not]
  omega
theorem yDn_75 {x k : Nat} (h : InU x) (hk : k ≤ nDn x) : (FloatKind.f64.format.order (yDn x k) 4604930618986332160 == some .lt) = false := by
  have a := yDn_fin h hk
  have b := flt_KV a.1 c75.1
  unfold flt at b
  rw [b, a.2, c75.2]
  have := (yDn_bd h hk).1
  simp only [decide_eq_false_iff_not]
  omega
theorem yDn_hlv {x k : Nat} (h : InU x) (hk : k < nDn x) : fop .quo .f64 (yDn x k) 4611686018427387904 = yDn x (k + 1) := by
  have a := yDn_bd h (Nat.le_of_lt hk)
  have b : yDn x (k + 1) = yDn x k - Bd := by unfold yDn; rw [Nat.succ_mul]; omega
  rw [b]
  refine hlv_word ?_ (by (try simp only [Bd] at *); omega)
  (try simp only [Bd] at *)
  omega
theorem yDn_meas {x k : Nat} (h : InU x) (hk : k < nDn x) : yDn x (k + 1) < yDn x k := by
  have a := (yDn_bd h (Nat.le_of_lt hk)).1
  have b : yDn x (k + 1) = yDn x k - Bd := by unfold yDn; rw [Nat.succ_mul]; omega
  rw [b]
  (try simp only [Bd] at *)
  omega
theorem eP_rn : ∀ n : Nat, n < 160 → rnB .f64 (-(4639833516098453504 : Nat)) (4639833516098453504 : Nat) (eF (n : Int)) = true := by decide +kernel
theorem log64U_rn {x : Nat} (h : InU x) : Rn .f64 (-(4641240890982006784 : Nat)) (4641240890982006784 : Nat) (log64U x) := by
  have hs := logS_rn (nDn_end h).1 (nDn_end h).2
  unfold log64U logEnd
  have hu : Rn .f64 0 (4591870180066957722 : Nat) (fop .mul .f64 (logS (yDn x (nDn x))) (logS (yDn x (nDn x)))) := sq_rn hs (by decide +kernel)
  have hq := logQ_rn hu 13 (by omega)
  have hq' : Rn .f64 (-(4611686018427387904 : Nat)) (4611686018427387904 : Nat) _ := hq.weak (by decide) (by decide)
  have he := Rn.const (eP_rn (nDn x) (nDn_le h))
  have c2 : Rn .f64 (-(4611686018427387904 : Nat)) (4611686018427387904 : Nat) 4611686018427387904 := Rn.const (by decide +kernel)
  have cl : Rn .f64 (-(4604418534313441775 : Nat)) (4604418534313441775 : Nat) 4604418534313441775 := Rn.const (by decide +kernel)
  have a : Rn .f64 (-(4607182418800017408 : Nat)) (4607182418800017408 : Nat) _ := hs.mul hq' (by decide +kernel)
  have b : Rn .f64 (-(4611686018427387904 : Nat)) (4611686018427387904 : Nat) _ := c2.mul a (by decide +kernel)
  have c : Rn .f64 (-(4640537203540230144 : Nat)) (4640537203540230144 : Nat) _ := he.mul cl (by decide +kernel)
  exact b.add c (by decide +kernel)
theorem log64U_fits {x : Nat} (h : InU x) : fitsN (log64U x) := (log64U_rn h).fits (by decide +kernel)
def logFU (a : Nat) : Nat := narrow (log64U (widen a))
theorem widen_U {a : Nat} (h1 : 1065353216 ≤ a) (h2 : a < 2139095040) : InU (widen a) := by
  have ka : KV .f32 a = a := sk_small (f := Ieee.single) (by show a < 2147483648; omega)
  have ha : Rn .f32 1065353216 2139095039 a := ⟨by rw [FinK_iff, ka]; have : infK .f32 = 2139095040 := (by decide); omega, by rw [ka]; omega, by rw [ka]; omega⟩
  have hw : Rn .f64 4607182418800017408 ((5183643171103440895 : Nat) : Int) (widen a) := ha.widen (by decide +kernel)
  have hlt : widen a < 18446744073709551616 := by
    rw [widen_eq ha.1]
    exact Ieee.Format.write_lt Ieee.double _
  obtain ⟨z, hz⟩ : ∃ z : Nat, KV .f64 (widen a) = z := ⟨(KV .f64 (widen a)).toNat, by have := hw.2.1; omega⟩
  have hpos : 0 < z := by have := hw.2.1; omega
  have := nat_of_KV hlt hz hpos
  have l := hw.2.1; have u := hw.2.2
  rw [hz] at l u
  unfold InU
  (try simp only [Bd] at *)
  omega
/-- The logarithm of a finite float32 greater than 0. -/
def logFP (a : Nat) : Nat := if a ≤ 1065353216 then logF a else logFU a
theorem bitsOf_mk (k : FloatKind) (r : Nat) : bitsOf (.float k r) = r := rfl
theorem Fin_up {a : Nat} (h2 : a < 2139095040) : FinK .f32 a ∧ KV .f32 a = a := by
  have hk : KV .f32 a = a := sk_small (f := Ieee.single) (by show a < 2147483648; omega)
  refine ⟨?_, hk⟩
  rw [FinK_iff, hk]
  have : infK .f32 = 2139095040 := (by decide)
  omega
set_option maxHeartbeats 2000000 in
theorem logarithmU_any (x : Nat) (w : World) (hU : InU x) :
    Calls Try.prog 48 #[.float .f64 x] w fun e w' => ∃ r, e = .returned (.float .f64 r) ∧ Hid (cn .f64 r = log64U x) ∧ ∃ q, w' = w.drewN q := by
  have HU := Lib.hid hU; clear hU
  have hn160 := Lib.hid (nDn_le HU.out)
  go_enter Try.func48, Try.ntmps48
  go_wp2
  go_loopw [0, 3] (fun a e wr => a = .float .f64 (yDn x 0) ∧ e = .float .f64 (eP 0) ∧ wr = w.drewN 0) (fun _ _ _ => 0)
  case atStart => exact ⟨by simp [yDn], congrArg (Value.float .f64) eP_zero, rfl⟩
  case round =>
    obtain ⟨rfl, rfl, rfl⟩ := hrel
    have hc := yDn_75 HU.out (Nat.zero_le _)
    go_wp2
    clear hc
    go_loopw [0, 3] (fun a e wr' => ∃ k q : Nat, k ≤ nDn x ∧ a = .float .f64 (yDn x k) ∧ e = .float .f64 (eP k) ∧ wr' = w.drewN q) (fun a _ _ => bitsOf a)
    case atStart => exact ⟨0, 0, Nat.zero_le _, rfl, rfl, rfl⟩
    case round =>
      obtain ⟨k, q, hk, rfl, rfl, rfl⟩ := hrel
      by_cases hlt : k < nDn x
      · have hc := yDn_yes HU.out hlt
        have Hlt := Lib.hid hlt
        clear hlt hk
        go_wp2_with (first
          | (refine wpList_fop _ rfl .add _ _ _ _ rfl rfl .f64 _ _ rfl rfl ?_; intro r1 q1 hr1)
          | (refine wpList_fop _ rfl .quo _ _ _ _ rfl rfl .f64 _ _ rfl rfl ?_; intro r2 q2 hr2))
        have e1 : r1 = eP (k + 1) := cn_num (hr1.out.trans (eP_succ (Nat.lt_trans Hlt.out hn160.out))) (eP_nan _)
        have e2 : r2 = yDn x (k + 1) := cn_num (hr2.out.trans (yDn_hlv HU.out Hlt.out)) (yDn_num HU.out Hlt.out)
        go_roundw
        case rel => exact ⟨k + 1, _, Hlt.out, congrArg (Value.float .f64) e2, congrArg (Value.float .f64) e1, rfl⟩
        case measure => rw [e2, bitsOf_mk, bitsOf_mk]; exact yDn_meas HU.out Hlt.out
      · obtain rfl : k = nDn x := by omega
        have hg := yDn_no HU.out
        have hc : True := trivial
        clear hlt hk
        have t1 : True := trivial
        have t2 : True := trivial
        have t3 : True := trivial
        have t4 : True := trivial
        go_wp2_with (first
          | (have := t1; clear this t1; refine wpList_fop _ rfl .sub _ _ _ _ rfl rfl .f64 _ _ rfl rfl ?_; intro r1 q1 hr1)
          | (have := t2; clear this t2; refine wpList_fop _ rfl .add _ _ _ _ rfl rfl .f64 _ _ rfl rfl ?_; intro r2 q2 hr2)
          | (have := t3; clear this t3; refine wpList_fop _ rfl .quo _ _ _ _ rfl rfl .f64 _ _ rfl rfl ?_; intro r3 q3 hr3)
          | (have := t4; clear this t4; refine wpList_fop _ rfl .mul _ _ _ _ rfl rfl .f64 _ _ rfl rfl ?_; intro r4 q4 hr4))
        have hs : Hid (cn .f64 r3 = logS (yDn x (nDn x))) := by show _ = _; rw [hr3.out, fop_l hr1.out, fop_r hr2.out]; rfl
        have hu : Hid (cn .f64 r4 = fop .mul .f64 (logS (yDn x (nDn x))) (logS (yDn x (nDn x)))) := by show _ = _; rw [hr4.out, fop_l hs.out, fop_r hs.out]
        clear hc hg
        go_loopw [6, 7] (fun b j wr => ∃ k r q : Nat, k ≤ 13 ∧ j = .float .f64 (kE k) ∧ b = .float .f64 r ∧ Hid (cn .f64 r = logQ (fop .mul .f64 (logS (yDn x (nDn x))) (logS (yDn x (nDn x)))) k) ∧ wr = w.drewN q) (fun _ j _ => kEm (bitsOf j))
        case atStart => exact ⟨0, 0, _, by omega, congrArg (Value.float .f64) kE_zero, rfl, cn_of_not (zero_not_nan .f64), rfl⟩
        case round =>
          obtain ⟨k, r, q', hk, rfl, rfl, hr, rfl⟩ := hrel
          by_cases hlt : k < 13
          · have hge := kE_ge k hlt
            have Hlt := Lib.hid hlt
            clear hlt hk
            have t1 : True := trivial
            have t2 : True := trivial
            have t3 : True := trivial
            have t4 : True := trivial
            go_wp2_with (first
              | (have := t1; clear this t1; refine wpList_fop _ rfl .quo _ _ _ _ rfl rfl .f64 _ _ rfl rfl ?_; intro u1 p1 hu1)
              | (have := t2; clear this t2; refine wpList_fop _ rfl .mul _ _ _ _ rfl rfl .f64 _ _ rfl rfl ?_; intro u2 p2 hu2)
              | (have := t3; clear this t3; refine wpList_fop _ rfl .add _ _ _ _ rfl rfl .f64 _ _ rfl rfl ?_; intro u3 p3 hu3)
              | (have := t4; clear this t4; refine wpList_fop _ rfl .sub _ _ _ _ rfl rfl .f64 _ _ rfl rfl ?_; intro u4 p4 hu4))
            have e4 : u4 = kE (k + 1) := cn_num (hu4.out.trans (kE_succ k Hlt.out)) (kE_nan _)
            have e3 : Hid (cn .f64 u3 = logQ (fop .mul .f64 (logS (yDn x (nDn x))) (logS (yDn x (nDn x)))) (k + 1)) := by
              show _ = _
              rw [hu3.out, fop_l hu1.out, fop_r hu2.out, fop_l hu.out, fop_r hr.out]; rfl
            go_roundw
            case rel => exact ⟨k + 1, u3, _, Hlt.out, congrArg (Value.float .f64) e4, rfl, e3, rfl⟩
            case measure => rw [e4]; exact kE_meas k Hlt.out
          · obtain rfl : k = 13 := by omega
            have hge := kE_lt
            clear hlt hk
            have t1 : True := trivial
            have t2 : True := trivial
            have t3 : True := trivial
            have t4 : True := trivial
            go_wp2_with (first
              | (have := t1; clear this t1; refine wpList_fop _ rfl .mul _ _ _ _ rfl rfl .f64 _ _ rfl rfl ?_; intro u1 p1 hu1)
              | (have := t2; clear this t2; refine wpList_fop _ rfl .mul _ _ _ _ rfl rfl .f64 _ _ rfl rfl ?_; intro u2 p2 hu2)
              | (have := t3; clear this t3; refine wpList_fop _ rfl .mul _ _ _ _ rfl rfl .f64 _ _ rfl rfl ?_; intro u3 p3 hu3)
              | (have := t4; clear this t4; refine wpList_fop _ rfl .add _ _ _ _ rfl rfl .f64 _ _ rfl rfl ?_; intro u4 p4 hu4))
            go_ret
            refine ⟨u4, rfl, ?_, _, rfl⟩
            show _ = _
            rw [hu4.out, fop_l hu2.out, fop_r hu1.out, fop_l hs.out, fop_r hr.out, fop_r hu3.out]
            rfl
theorem implLogU_any (a r0 : Nat) (w : World) (hr0 : cn .f32 r0 = a) (h1 : 1065353216 ≤ a) (h2 : a < 2139095040) :
    Calls Try.prog 25 #[.float .f32 r0] w fun e w' => ∃ r, e = .returned (.float .f32 r) ∧ Hid (cn .f32 r = logFU a) ∧ ∃ q, w' = w.drewN q := by
  have hf := Fin_up h2
  obtain rfl : r0 = a := cn_num hr0 (FinK_not_nan hf.1)
  have h0 : FinK .f32 0 ∧ KV .f32 0 = 0 := ⟨(Rn.const (k := .f32) (lo := 0) (hi := 0) (by decide +kernel)).1, by decide +kernel⟩
  have c1 : (FloatKind.f32.format.order r0 0 == some .eq) = false := by
    have := feq_KV hf.1 h0.1; unfold feq at this; rw [this, hf.2, h0.2]; simp; omega
  have c2 : (FloatKind.f32.format.order r0 r0 != some .eq) = false := by rw [order_self (FinK_not_nan hf.1)]; rfl
  have c3 : (FloatKind.f32.format.order r0 0 == some .lt) = false := by
    have := flt_KV hf.1 h0.1; unfold flt at this; rw [this, hf.2, h0.2]; simp
  have hfin := fin_of_FinK hf.1
  have hw := widen_U h1 h2
  have Hw1 := Lib.hid hw
  have hcv := run_widen_num (P := Try.prog) 28 52 rfl Try.underlying52
  have hcv' := fun w => hcv w r0 (FinK_not_nan hf.1)
  clear hcv hr0 h1 h2 hf h0 hw
  go_enter Try.func25, Try.ntmps25
  go_wp2_with fail
  refine (isFin_any _ _).mono ?_
  rintro e w1 ⟨rfl, q, rfl⟩
  rw [hfin]
  go_wp2_with fail
  clear hcv' c1 c2 c3
  refine (logarithmU_any _ _ Hw1.out).mono ?_
  rintro e w2 ⟨r2, rfl, hr2, q2, rfl⟩
  have hfits : fitsN r2 := fitsN_cn hr2.out (log64U_fits Hw1.out)
  go_wp2_with (refine wpList_narrow _ rfl 52 28 _ rfl rfl Try.underlying28 _ rfl hfits ?_; intro r3 q3 h3)
  go_ret
  refine ⟨r3, rfl, ?_, _, rfl⟩
  show _ = _
  rw [h3.out, narrow_l hr2.out]
  rfl
set_option maxHeartbeats 2000000 in
theorem logWideU_any (x : Nat) (w : World) (hU : InU x) :
    Calls Try.prog 59 #[.float .f64 x] w fun e w' => ∃ r, e = .returned (.float .f64 r) ∧ Hid (cn .f64 r = log64U x) ∧ ∃ q, w' = w.drewN q := by
  have h1 := hU.1
  have h2 := hU.2
  have hf : FinK .f64 x := Fin_nat (by simp only [Bd]; omega)
  have hk : KV .f64 x = x := KV_nat (by omega)
  have h0 : FinK .f64 0 ∧ KV .f64 0 = 0 := ⟨Fin_nat (by decide), KV_nat (by decide)⟩
  have hm : FinK .f64 9218868437227405311 ∧ KV .f64 9218868437227405311 = 9218868437227405311 := ⟨Fin_nat (by decide), KV_nat (by decide)⟩
  have c1 : (FloatKind.f64.format.order x x != some .eq) = false := by rw [order_self (FinK_not_nan hf)]; rfl
  have c2 : (FloatKind.f64.format.order x 0 == some .lt) = false := by
    have := flt_KV hf h0.1; unfold flt at this; rw [this, hk, h0.2]; simp
  have c3 : (FloatKind.f64.format.order x 0 == some .eq) = false := by
    have := feq_KV hf h0.1; unfold feq at this; rw [this, hk, h0.2]; simp; omega
  have c4 : Hid ((FloatKind.f64.format.order x 9218868437227405311 == some .gt) = false) := by
    show _ = _
    have := fgt_KV hf hm.1; unfold fgt at this; rw [this, hk, hm.2]; simp; omega
  have HU := Lib.hid hU; clear h1 h2 hU hf hk h0 hm
  have hn160 := nDn_le HU.out
  go_enter Try.func59, Try.ntmps59
  go_wp2_with (refine (isInf_any _ _ c4.out).mono ?_; rintro e w1 ⟨rfl, rfl⟩)
  clear c1 c2 c3
  go_loopw [0, 3] (fun a e wr => ∃ k q : Nat, k ≤ nDn x ∧ a = .float .f64 (yDn x k) ∧ e = .int .i64 (k : Int) ∧ wr = w.drewN q) (fun a _ _ => bitsOf a)
  case atStart => exact ⟨0, 0, Nat.zero_le _, by simp [yDn], by simp, rfl⟩
  case round =>
    obtain ⟨k, q, hk, rfl, rfl, rfl⟩ := hrel
    by_cases hlt : k < nDn x
    · have hc := yDn_yes HU.out hlt
      have hk160 : k < 160 := by omega
      have Hlt := Lib.hid hlt
      clear hlt hk
      go_wp2_with (refine wpList_fop _ rfl .quo _ _ _ _ rfl rfl .f64 _ _ rfl rfl ?_; intro r2 q2 hr2)
      have e2 : r2 = yDn x (k + 1) := cn_num (hr2.out.trans (yDn_hlv HU.out Hlt.out)) (yDn_num HU.out Hlt.out)
      go_roundw
      case rel => exact ⟨k + 1, _, Hlt.out, congrArg (Value.float .f64) e2, by go_num, rfl⟩
      case measure => rw [e2, bitsOf_mk, bitsOf_mk]; exact yDn_meas HU.out Hlt.out
    · obtain rfl : k = nDn x := by omega
      have hg := yDn_no HU.out
      clear hlt hk
      go_wp2
      clear hg
      go_loopw [0, 3] (fun a e wr => a = .float .f64 (yDn x (nDn x)) ∧ e = .int .i64 (nDn x : Int) ∧ wr = w.drewN q) (fun _ _ _ => 0)
      case atStart => exact ⟨rfl, rfl, rfl⟩
      case round =>
        obtain ⟨rfl, rfl, rfl⟩ := hrel
        have hc := yDn_75 HU.out (Nat.le_refl _)
        have t1 : True := trivial
        have t2 : True := trivial
        have t3 : True := trivial
        have t4 : True := trivial
        go_wp2_with (first
          | (have := t1; clear this t1; refine wpList_fop _ rfl .sub _ _ _ _ rfl rfl .f64 _ _ rfl rfl ?_; intro r1 q1 hr1)
          | (have := t2; clear this t2; refine wpList_fop _ rfl .add _ _ _ _ rfl rfl .f64 _ _ rfl rfl ?_; intro r2 q2 hr2)
          | (have := t3; clear this t3; refine wpList_fop _ rfl .quo _ _ _ _ rfl rfl .f64 _ _ rfl rfl ?_; intro r3 q3 hr3)
          | (have := t4; clear this t4; refine wpList_fop _ rfl .mul _ _ _ _ rfl rfl .f64 _ _ rfl rfl ?_; intro r4 q4 hr4))
        have hs : Hid (cn .f64 r3 = logS (yDn x (nDn x))) := by show _ = _; rw [hr3.out, fop_l hr1.out, fop_r hr2.out]; rfl
        have hu : Hid (cn .f64 r4 = fop .mul .f64 (logS (yDn x (nDn x))) (logS (yDn x (nDn x)))) := by show _ = _; rw [hr4.out, fop_l hs.out, fop_r hs.out]
        clear hc
        go_loopw [6, 7] (fun b j wr => ∃ k r q : Nat, k ≤ 13 ∧ j = .int .i64 (25 - 2 * (k : Int)) ∧ b = .float .f64 r ∧ Hid (cn .f64 r = logQ (fop .mul .f64 (logS (yDn x (nDn x))) (logS (yDn x (nDn x)))) k) ∧ wr = w.drewN q) (fun _ j _ => (intOf j + 1).toNat)
        case atStart => exact ⟨0, 0, _, by omega, rfl, rfl, cn_of_not (zero_not_nan .f64), rfl⟩
        case round =>
          obtain ⟨k, r, q', hk, rfl, rfl, hr, rfl⟩ := hrel
          by_cases hlt : k < 13
          · have hge : (1 : Int) ≤ 25 - 2 * (k : Int) := by omega
            have hge2 : (25 : Int) - 2 * (k : Int) ≤ 25 := by omega
            have Hlt := Lib.hid hlt
            clear hlt hk
            have t1 : True := trivial
            have t2 : True := trivial
            have t3 : True := trivial
            go_wp2_with (first
              | (have := t1; clear this t1; refine wpList_fop _ rfl .quo _ _ _ _ rfl rfl .f64 _ _ rfl rfl ?_; intro u1 p1 hu1)
              | (have := t2; clear this t2; refine wpList_fop _ rfl .mul _ _ _ _ rfl rfl .f64 _ _ rfl rfl ?_; intro u2 p2 hu2)
              | (have := t3; clear this t3; refine wpList_fop _ rfl .add _ _ _ _ rfl rfl .f64 _ _ rfl rfl ?_; intro u3 p3 hu3))
            have e3 : Hid (cn .f64 u3 = logQ (fop .mul .f64 (logS (yDn x (nDn x))) (logS (yDn x (nDn x)))) (k + 1)) := by
              show _ = _
              rw [hu3.out, fop_l hu1.out, fop_r hu2.out, fop_l hu.out, fop_r hr.out]; rfl
            go_roundw
            case rel => exact ⟨k + 1, u3, _, Hlt.out, congrArg (Value.int .i64) (by omega), rfl, e3, rfl⟩
            case measure => simp only [intOf]; omega
          · obtain rfl : k = 13 := by omega
            clear hlt hk
            have t1 : True := trivial
            have t2 : True := trivial
            have t3 : True := trivial
            have t4 : True := trivial
            go_wp2_with (first
              | (have := t1; clear this t1; refine wpList_fop _ rfl .mul _ _ _ _ rfl rfl .f64 _ _ rfl rfl ?_; intro u1 p1 hu1)
              | (have := t2; clear this t2; refine wpList_fop _ rfl .mul _ _ _ _ rfl rfl .f64 _ _ rfl rfl ?_; intro u2 p2 hu2)
              | (have := t3; clear this t3; refine wpList_fop _ rfl .mul _ _ _ _ rfl rfl .f64 _ _ rfl rfl ?_; intro u3 p3 hu3)
              | (have := t4; clear this t4; refine wpList_fop _ rfl .add _ _ _ _ rfl rfl .f64 _ _ rfl rfl ?_; intro u4 p4 hu4))
            go_ret
            refine ⟨u4, rfl, ?_, _, rfl⟩
            show _ = _
            rw [hu4.out, fop_l hu2.out, fop_r hu1.out, fop_l hs.out, fop_r hr.out, fop_r hu3.out]
            rfl
theorem specLogU_any (a r0 : Nat) (w : World) (hr0 : cn .f32 r0 = a) (h1 : 1065353216 ≤ a) (h2 : a < 2139095040) :
    Calls Try.prog 38 #[.float .f32 r0] w fun e w' => ∃ r, e = .returned (.float .f32 r) ∧ Hid (cn .f32 r = logFU a) ∧ ∃ q, w' = w.drewN q := by
  have hf := Fin_up h2
  obtain rfl : r0 = a := cn_num hr0 (FinK_not_nan hf.1)
  have hw := widen_U h1 h2
  have Hw1 := Lib.hid hw
  have hcv := run_widen_num (P := Try.prog) 28 52 rfl Try.underlying52
  have hcv' := fun w => hcv w r0 (FinK_not_nan hf.1)
  clear hcv hr0 h1 h2 hf hw
  go_enter Try.func38, Try.ntmps38
  go_wp2_with fail
  clear hcv'
  refine (logWideU_any _ _ Hw1.out).mono ?_
  rintro e w2 ⟨r2, rfl, hr2, q2, rfl⟩
  have hfits : fitsN r2 := fitsN_cn hr2.out (log64U_fits Hw1.out)
  go_wp2_with fail
  refine (l01Narrow_any _ _ hfits).mono ?_
  rintro e w3 ⟨r3, rfl, h3, q3, rfl⟩
  go_wp2
  go_ret
  refine ⟨r3, rfl, ?_, _, rfl⟩
  show _ = _
  rw [h3.out, narrow_l hr2.out]
  rfl
theorem implLogP_any (a r0 : Nat) (w : World) (hr0 : cn .f32 r0 = a) (h1 : 1 ≤ a) (h2 : a < 2139095040) :
    Calls Try.prog 25 #[.float .f32 r0] w fun e w' => ∃ r, e = .returned (.float .f32 r) ∧ Hid (cn .f32 r = logFP a) ∧ ∃ q, w' = w.drewN q := by
  unfold logFP
  by_cases h : a ≤ 1065353216
  · rw [if_pos h]; exact implLog_any a r0 w hr0 h1 h
  · rw [if_neg h]; exact implLogU_any a r0 w hr0 (by omega) h2
theorem specLogP_any (a r0 : Nat) (w : World) (hr0 : cn .f32 r0 = a) (h1 : 1 ≤ a) (h2 : a < 2139095040) :
    Calls Try.prog 38 #[.float .f32 r0] w fun e w' => ∃ r, e = .returned (.float .f32 r) ∧ Hid (cn .f32 r = logFP a) ∧ ∃ q, w' = w.drewN q := by
  unfold logFP
  by_cases h : a ≤ 1065353216
  · rw [if_pos h]; exact specLog_any a r0 w hr0 h1 h
  · rw [if_neg h]; exact specLogU_any a r0 w hr0 (by omega) h2
end Go.Proofs.Ytgbehnkccgahoaa
