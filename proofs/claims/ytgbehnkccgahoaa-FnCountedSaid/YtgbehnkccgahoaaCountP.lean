/- Plain laws of counts, shapes and hits: where they lie. -/
import Derived.Test.YtgbehnkccgahoaaBeta
import Derived.Test.YtgbehnkccgahoaaCount
import Derived.Test.YtgbehnkccgahoaaFirst
import Derived.Test.YtgbehnkccgahoaaHits
namespace Go.Proofs.Ytgbehnkccgahoaa
open Go.RowKit Mag
set_option maxRecDepth 100000
def qtr (n : Int) : Nat := fop .quo .f32 (floatOfInt .f32 n) 1082130432
def shapeF (b : Nat) : Nat := qtr (1 + (b : Int))
theorem shapeF_rn : ∀ b : Nat, b < 24 → rnB .f32 (1048576000 : Nat) (1086324736 : Nat) (shapeF b) = true := by decide +kernel
theorem inf_mul {d : Nat} (h1 : 1 ≤ d) (h2 : d < 2139095040) : fop .mul .f32 d 2139095040 = 2139095040 := by
  have ht := (fin_bits h2).1
  have ht' : Fin_ Ieee.single d := ht
  have hr : rungW Ieee.single d = d := rungW_small (by have : Ieee.single.signWeight = 2147483648 := (by decide); omega)
  have hn : negW Ieee.single d = false := (fin_bits h2).2
  have hm : magM Ieee.single d ≠ 0 := by
    intro e
    have := rg_mag (f := Ieee.single) (r := d) (by have : Ieee.single.infRung = 2139095040 := (by decide); omega)
    rw [e] at this
    have z : d = 0 := by rw [← this]; unfold rg; rw [if_pos rfl]
    omega
  have hi : Ieee.single.read 2139095040 = .infinity false := by decide
  unfold fop floatBits
  dsimp only
  show (Ieee.single.mul d 2139095040).getD _ = _
  unfold Ieee.Format.mul
  rw [read_fin ht', hi, hr, hn]
  unfold Ieee.Datum.product
  dsimp only
  rw [if_neg hm]
  show Ieee.single.write (.infinity (false ^^ false)) = _
  decide
theorem inf_not_fin : finB 2139095040 = false := by decide +kernel
theorem bits_rn {x : Nat} (h : x < 2139095040) : Rn .f32 0 (2139095039 : Nat) x := by
  have hf := fin_bits h
  have hs : Ieee.single.signWeight = 2147483648 := by decide
  have e : KV .f32 x = (rungW Ieee.single x : Int) := (KV_sign (k := .f32) (x := x)).1 hf.2
  rw [rungW_small (by omega)] at e
  exact ⟨hf.1, by omega, by omega⟩
theorem rn_bits {lo hi : Int} {x : Nat} (h : Rn .f32 lo hi x) (hlo : 0 < lo) (hx : x < 4294967296) : 1 ≤ x ∧ x < 2139095040 := by
  have h0 : FinK .f32 0 ∧ KV .f32 0 = 0 := ⟨(Rn.const (k := .f32) (lo := 0) (hi := 0) (by decide +kernel)).1, by decide +kernel⟩
  have hg : fgt .f32 x 0 = true := by rw [fgt_KV h.1 h0.1, h0.2]; exact decide_eq_true (by have := h.2.1; omega)
  have hb := pos_bits hx hg
  have hne : x ≠ 2139095040 := by
    intro e
    subst e
    have : rungW Ieee.single 2139095040 < Ieee.single.infRung := h.1
    revert this
    decide
  omega
theorem gamX_rn {d c : Nat} {s : Sd} (hd : 1 ≤ d ∧ d < 2139095040) (ht : fgt .f32 (gamT c s) 0 = true) (hf : finB (gamX d c s) = true) : Rn .f32 0 (2139095039 : Nat) (gamX d c s) := by
  have hw := gamW_bits (gamT_lt c s) ht
  unfold gamX at hf ⊢
  by_cases he : gamW (gamT c s) = 2139095040
  · rw [he, inf_mul hd.1 hd.2, inf_not_fin] at hf
    cases hf
  · have hm := mul_bits hd.2 (show gamW (gamT c s) < 2139095040 by omega)
    by_cases h2 : fop .mul .f32 d (gamW (gamT c s)) = 2139095040
    · rw [h2, inf_not_fin] at hf
      cases hf
    · exact bits_rn (by omega)
theorem gamGo_rn {d c n : Nat} {s t : Sd} {y : Nat} (hd : 1 ≤ d ∧ d < 2139095040) (h : gamGo d c n s = some (t, y)) : Rn .f32 0 (2139095039 : Nat) y := by
  induction n generalizing s with
  | zero => cases h
  | succ n ih =>
    unfold gamGo at h
    split at h
    · rename_i ht
      split at h
      · split at h
        · rename_i hf
          simp only [Option.some.injEq, Prod.mk.injEq] at h
          exact h.2 ▸ gamX_rn hd ht hf
        · cases h
      · exact ih h
    · exact ih h
theorem gamD_bits {x : Nat} (h : Rn .f32 (1065353216 : Nat) (1090519040 : Nat) x) : 1 ≤ gamD x ∧ gamD x < 2139095040 := by
  have c : Rn .f32 (1051372203 : Nat) (1051372203 : Nat) 1051372203 := Rn.const (by decide +kernel)
  have a : Rn .f32 (1056964608 : Nat) (1090519040 : Nat) (fop .sub .f32 x 1051372203) := h.sub c (by decide +kernel)
  exact rn_bits a (by decide) (fop_lt _ _ _)
theorem gam_rn {x : Nat} {s t : Sd} {y : Nat} (hx : Rn .f32 (1048576000 : Nat) (1086324736 : Nat) x) (h : gam x s = some (t, y)) : Rn .f32 0 (2139095039 : Nat) y := by
  have c1 : Rn .f32 (1065353216 : Nat) (1065353216 : Nat) 1065353216 := Rn.const (by decide +kernel)
  have hb := fge_KV hx.1 c1.1
  have h2 := c1.2
  unfold gam at h
  split at h
  · rename_i hge
    rw [hb] at hge
    have hge' : KV .f32 1065353216 ≤ KV .f32 x := by simpa using hge
    exact gamGo_rn (gamD_bits ⟨hx.1, by have := hx.2; omega, by have := hx.2; omega⟩) h
  · split at h
    · cases h
    · rename_i hge _ t1 y1 hl
      split at h
      · simp only [Option.some.injEq, Prod.mk.injEq] at h
        rw [hb] at hge
        have hlt : KV .f32 x < KV .f32 1065353216 := by simpa using hge
        have hx1 : Rn .f32 (1048576000 : Nat) (1065353216 : Nat) x := ⟨hx.1, hx.2.1, by omega⟩
        have hup : Rn .f32 (1065353216 : Nat) (1090519040 : Nat) (fop .add .f32 x 1065353216) := hx1.add c1 (by decide +kernel)
        have hy1 := gamGo_rn (gamD_bits hup) hl
        have hlow := low_quo (logF_neg (leftOf_rn t1).1 (leftOf_rn t1).2) (hx.weak (lo' := ((1 : Nat) : Int)) (by decide) (Int.le_refl _))
        have he := expL_rn hlow
        have hm : Rn .f32 0 (2139095039 : Nat) (fop .mul .f32 y1 (expL (fop .quo .f32 (logF (leftOf t1)) x))) := hy1.mulP he (by decide +kernel)
        exact h.2 ▸ hm
      · cases h
theorem gamma_rn {x : Nat} {s t : Sd} {y : Nat} (hx : Rn .f32 (1048576000 : Nat) (1086324736 : Nat) x) (h : gammaSeed s x = some (t, y)) : Rn .f32 0 (2139095039 : Nat) y := by
  unfold gammaSeed at h
  split at h
  · exact gam_rn hx h
  · cases h
theorem sk_srg {f : Ieee.Format} {x : Nat} (hx : Fin_ f x) : sk f x = srg f (sv (negW f x) (magM f (rungW f x))) (magE f (rungW f x)) := by
  have hm := rg_mag (f := f) hx
  have hn : (sv (negW f x) (magM f (rungW f x))).natAbs = magM f (rungW f x) := by unfold sv; split <;> omega
  unfold sk srg
  rw [hn, hm]
  by_cases h0 : magM f (rungW f x) = 0
  · have hz : rungW f x = 0 := by rw [← hm, h0]; unfold rg; rw [if_pos rfl]
    rw [hz]
    unfold sv
    split <;> split <;> rfl
  · cases hb : negW f x with
    | false =>
      have : decide (sv false (magM f (rungW f x)) < 0) = false := decide_eq_false (by unfold sv; simp)
      rw [this]
    | true =>
      have : decide (sv true (magM f (rungW f x)) < 0) = true := decide_eq_true (by unfold sv; simp; omega)
      rw [this]
theorem sv_nn {f : Ieee.Format} {x : Nat} (h : 0 ≤ sk f x) : 0 ≤ sv (negW f x) (magM f (rungW f x)) := by
  cases hb : negW f x with
  | false => unfold sv; simp
  | true =>
    have hz : rungW f x = 0 := by
      unfold sk at h
      rw [hb] at h
      have : sv true (rungW f x) = -(rungW f x : Int) := rfl
      omega
    have : magM f (rungW f x) = 0 := by rw [hz]; unfold magM; rw [if_pos (binade_pos _)]
    rw [this]
    decide
theorem add_up {u v : Nat} (hu : Rn .f32 0 (2139095039 : Nat) u) (hv : Rn .f32 0 (2139095039 : Nat) v) : KV .f32 u ≤ KV .f32 (fop .add .f32 u v) ∧ isNaNB .f32 (fop .add .f32 u v) = false := by
  have hu' : Fin_ Ieee.single u := hu.1
  have hv' : Fin_ Ieee.single v := hv.1
  obtain ⟨r, hr, hk⟩ := add_sk hu' hv'
  have e : fop .add .f32 u v = r := by
    unfold fop floatBits
    dsimp only
    show (Ieee.single.add u v).getD _ = _
    rw [hr]; rfl
  rw [e]
  refine ⟨?_, ?_⟩
  · show sk Ieee.single u ≤ sk Ieee.single r
    rw [hk, sk_srg hu']
    refine srg_mono _ ?_
    rw [ile_base (c := min (magE Ieee.single (rungW Ieee.single u)) (magE Ieee.single (rungW Ieee.single v))) (Int.min_le_left _ _) (Int.le_refl _)]
    unfold tot
    have hn := sv_nn (f := Ieee.single) (x := v) hv.2.1
    have hp := two_pow_posI (magE Ieee.single (rungW Ieee.single v) - min (magE Ieee.single (rungW Ieee.single u)) (magE Ieee.single (rungW Ieee.single v))).toNat
    have hq := Int.mul_nonneg hn (Int.le_of_lt hp)
    have hz : (min (magE Ieee.single (rungW Ieee.single u)) (magE Ieee.single (rungW Ieee.single v)) - min (magE Ieee.single (rungW Ieee.single u)) (magE Ieee.single (rungW Ieee.single v))).toNat = 0 := by omega
    rw [hz, Int.pow_zero, Int.mul_one]
    omega
  · have : floatBits .add .f32 u v = some r := hr
    exact floatBits_not_nan this
theorem inf_bits {S : Nat} (hS : S < 4294967296) (hn : isNaNB .f32 S = false) (h0 : 0 ≤ KV .f32 S) (hf : ¬ FinK .f32 S) : S = 2139095040 := by
  rw [nan_rung] at hn
  simp only [decide_eq_false_iff_not] at hn
  have hs : Ieee.single.signWeight = 2147483648 := by decide
  have hi : Ieee.single.infRung = 2139095040 := by decide
  have h1 : ¬ Ieee.single.infRung < rungW Ieee.single S := hn
  have h2 : ¬ rungW Ieee.single S < Ieee.single.infRung := hf
  have hmod : rungW Ieee.single S = S % 2147483648 := by unfold rungW; rw [hs]
  by_cases hlt : S < 2147483648
  · omega
  · exfalso
    have : S = 4286578688 := by omega
    subst this
    revert h0
    decide
theorem quo_inf {u : Nat} (hu : Rn .f32 0 (2139095039 : Nat) u) (hb : negW Ieee.single u = false) : fop .quo .f32 u 2139095040 = 0 := by
  have hu' : Fin_ Ieee.single u := hu.1
  have hi : Ieee.single.read 2139095040 = .infinity false := by decide
  unfold fop floatBits
  dsimp only
  show (Ieee.single.div u 2139095040).getD _ = _
  unfold Ieee.Format.div
  rw [read_fin hu', hi, hb]
  unfold Ieee.Datum.quotient
  dsimp only
  show Ieee.single.write (.number (false ^^ false) 0 0) = _
  decide
theorem mle_one (m : Nat) (e : Int) : MLe m e (m * magM Ieee.single 1065353216) (e + magE Ieee.single 1065353216) := by
  have e1 : magM Ieee.single 1065353216 = 8388608 := by decide
  have e2 : magE Ieee.single 1065353216 = -23 := by decide
  rw [e1, e2, mle_base (b := e - 23) (by omega) (by omega)]
  have h1 : (e - (e - 23)).toNat = 23 := by omega
  have h2 : (e + -23 - (e - 23)).toNat = 0 := by omega
  rw [h1, h2]
  omega
theorem beta_rn {x y : Nat} {s t : Sd} {z : Nat} (hs : s.ok) (hx : Rn .f32 (1048576000 : Nat) (1086324736 : Nat) x) (hy : Rn .f32 (1048576000 : Nat) (1086324736 : Nat) y) (h : betaSeed s x y = some (t, z)) : Rn .f32 0 (1065353216 : Nat) z := by
  unfold betaSeed at h
  split at h
  · cases h
  rename_i t1 u h1
  (try dsimp only at h)
  split at h
  · cases h
  rename_i t2 v h2
  split at h
  · rename_i hf
    simp only [Option.some.injEq, Prod.mk.injEq] at h
    rw [← h.2]
    clear h
    have hu := gamma_rn hx h1
    have hv := gamma_rn hy h2
    obtain ⟨hge, hnn⟩ := add_up hu hv
    have hSlt := fop_lt .add u v
    generalize fop .add .f32 u v = S at hge hnn hSlt hf ⊢
    have hzf := FinK_of_fin hf
    by_cases hSf : FinK .f32 S
    · have hpos : 0 < KV .f32 S := by
        rcases Int.lt_or_eq_of_le (Int.le_trans hu.2.1 hge) with hp | hp
        · exact hp
        · exfalso
          have hu0 : KV .f32 u = 0 := by have := hu.2.1; omega
          have hfn : isNaNB .f32 (fop .quo .f32 u S) = true := by
            have z1 : rungW Ieee.single u = 0 := by have : (KV .f32 u).natAbs = rungW Ieee.single u := KV_abs .f32 u; omega
            have z2 : rungW Ieee.single S = 0 := by have : (KV .f32 S).natAbs = rungW Ieee.single S := KV_abs .f32 S; omega
            have hu' : Fin_ Ieee.single u := hu.1
            have hS' : Fin_ Ieee.single S := hSf
            have m0 : magM Ieee.single 0 = 0 := by decide
            unfold fop floatBits
            dsimp only
            show isNaNB .f32 ((Ieee.single.div u S).getD _) = true
            unfold Ieee.Format.div
            rw [read_fin hu', read_fin hS', z1, z2, m0]
            unfold Ieee.Datum.quotient
            dsimp only
            rw [if_pos rfl, if_pos rfl]
            exact qnan_isNaN .f32
          rw [finB_not_nan hf] at hfn
          cases hfn
      have n2 : negW Ieee.single S = false := by
        rcases hb : negW Ieee.single S with _ | _
        · rfl
        · have := (KV_sign (k := .f32) (x := S)).2 hb; omega
      have kS : KV .f32 S = (rungW Ieee.single S : Int) := (KV_sign (k := .f32) (x := S)).1 n2
      have au : (KV .f32 u).natAbs = rungW Ieee.single u := KV_abs .f32 u
      have hu0 := hu.2.1
      have hm0 : magM Ieee.single (rungW Ieee.single S) ≠ 0 := by
        intro e
        have := rg_mag (f := Ieee.single) hSf
        have this : rg Ieee.single (magM Ieee.single (rungW Ieee.single S)) (magE Ieee.single (rungW Ieee.single S)) = rungW Ieee.single S := this
        rw [e] at this
        have z : rungW Ieee.single S = 0 := by rw [← this]; unfold rg; rw [if_pos rfl]
        omega
      have l1 : MLe (magM Ieee.single (rungW Ieee.single u)) (magE Ieee.single (rungW Ieee.single u)) (magM Ieee.single (rungW Ieee.single S)) (magE Ieee.single (rungW Ieee.single S)) := mag_mono (by omega) hSf
      obtain ⟨q, hq, hqr, hqn⟩ := div_le (f := Ieee.single) (x := u) (y := S) (r := 1065353216) hu.1 hSf hm0 (by decide) (mle_trans l1 (mle_one _ _))
      have e : fop .quo .f32 u S = q := by unfold fop floatBits; dsimp only; show (Ieee.single.div u S).getD _ = _; rw [hq]; rfl
      rw [e]
      have aq : (KV .f32 q).natAbs = rungW Ieee.single q := KV_abs .f32 q
      have hqf : FinK .f32 q := by
        show rungW Ieee.single q < Ieee.single.infRung
        have hi : Ieee.single.infRung = 2139095040 := by decide
        omega
      refine ⟨hqf, ?_, by omega⟩
      by_cases hz : KV .f32 u = 0
      · have hx0 : Rn .f32 (-((0 : Nat) : Int)) 0 u := ⟨hu.1, by omega, by omega⟩
        have hS1 : Rn .f32 (1 : Nat) (2139095040 : Nat) S := ⟨hSf, by omega, by have := (FinK_iff.1 hSf).2; have e : infK .f32 = 2139095040 := (by decide); omega⟩
        have := hx0.divN hS1 (by decide) (r := 0) (by decide +kernel)
        rw [e] at this
        have := this.2
        omega
      · have n1 : negW Ieee.single u = false := by
          rcases hb : negW Ieee.single u with _ | _
          · rfl
          · have := (KV_sign (k := .f32) (x := u)).2 hb; omega
        rw [n1, n2] at hqn
        have := (KV_sign (k := .f32) (x := q)).1 hqn
        omega
    · have hS := inf_bits hSlt hnn (Int.le_trans hu.2.1 hge) hSf
      subst hS
      by_cases hz : negW Ieee.single u = false
      · rw [quo_inf hu hz]
        exact Rn.const (by decide +kernel)
      · have hz' : negW Ieee.single u = true := by simpa using hz
        have hk := (KV_sign (k := .f32) (x := u)).2 hz'
        have hu0 := hu.2.1
        have hr0 : rungW Ieee.single u = 0 := by
          have hk' : KV .f32 u = -(rungW Ieee.single u : Int) := hk
          omega
        have hi : Ieee.single.read 2139095040 = .infinity false := by decide
        have hu' : Fin_ Ieee.single u := hu.1
        have e : fop .quo .f32 u 2139095040 = 2147483648 := by
          unfold fop floatBits
          dsimp only
          show (Ieee.single.div u 2139095040).getD _ = _
          unfold Ieee.Format.div
          rw [read_fin hu', hi, hz']
          unfold Ieee.Datum.quotient
          dsimp only
          show Ieee.single.write (.number (true ^^ false) 0 0) = _
          decide
        rw [e]
        exact Rn.const (by decide +kernel)
  · cases h
theorem countFrom_nn {l f : Nat} {n0 n : Int} {s t : Sd} {p : Nat} (h0 : 0 ≤ n0) (h : countFrom l f n0 s p = some (t, n)) : 0 ≤ n := by
  induction f generalizing n0 s p with
  | zero => cases h
  | succ f ih =>
    unfold countFrom at h
    split at h
    · exact ih (by omega) h
    · simp only [Option.some.injEq, Prod.mk.injEq] at h
      omega
theorem count_nn {s t : Sd} {m : Nat} {n : Int} (h : countSeed s m = some (t, n)) : 0 ≤ n := by
  unfold countSeed at h
  split at h
  · exact countFrom_nn (by decide) h
  · cases h
theorem toInt_nn {x : Nat} {z : Int} (hf : FinK .f64 x) (h0 : 0 ≤ KV .f64 x) (h : floatToIntVal .f64 x .i64 = some z) : 0 ≤ z := by
  have hd := decode_fin hf
  have hle := cut_zero_le (negW Ieee.double x) (magM Ieee.double (rungW Ieee.double x) <<< (magE Ieee.double (rungW Ieee.double x)).toNat) (-(magE Ieee.double (rungW Ieee.double x))).toNat
  have hi : (FloatKind.f64.decode x).integral .zero = .number (negW Ieee.double x) (Ieee.Toward.zero.cut (negW Ieee.double x) (magM Ieee.double (rungW Ieee.double x) <<< (magE Ieee.double (rungW Ieee.double x)).toNat) (-(magE Ieee.double (rungW Ieee.double x))).toNat) 0 := by rw [hd]; rfl
  generalize Ieee.Toward.zero.cut (negW Ieee.double x) (magM Ieee.double (rungW Ieee.double x) <<< (magE Ieee.double (rungW Ieee.double x)).toNat) (-(magE Ieee.double (rungW Ieee.double x))).toNat = c at hle hi
  have hM := cut_mle hle
  have hs : Ieee.signed (negW Ieee.double x) c 0 = sv (negW Ieee.double x) c := by rw [signed_eq]; simp
  unfold floatToIntVal Ieee.Datum.toInt at h
  rw [hi] at h
  simp only [hs] at h
  split at h
  · simp only [Option.some.injEq] at h
    rw [← h]
    rcases hb : negW Ieee.double x with _ | _
    · unfold sv; simp
    · have hk : KV .f64 x = -(rungW Ieee.double x : Int) := (KV_sign (k := .f64) (x := x)).2 hb
      have hz : rungW Ieee.double x = 0 := by omega
      have hm0 : magM Ieee.double (rungW Ieee.double x) = 0 := by rw [hz]; unfold magM; rw [if_pos (binade_pos _)]
      rw [hm0] at hM
      unfold MLe at hM
      rw [Nat.zero_mul] at hM
      have hc : c = 0 := by
        rcases Nat.eq_zero_or_pos c with hc | hc
        · exact hc
        · have := Nat.mul_pos hc (Nat.two_pow_pos ((0 : Int) - min 0 (magE Ieee.double (rungW Ieee.double x))).toNat)
          omega
      rw [hc]
      decide
  · cases h
theorem first_nn {s t : Sd} {x : Nat} {n : Int} (h : firstSeed s x = some (t, n)) : 0 ≤ n := by
  unfold firstSeed at h
  split at h
  · rename_i hc
    simp only [Bool.and_eq_true] at hc
    split at h
    · simp only [Option.some.injEq, Prod.mk.injEq] at h
      omega
    · rename_i he
      split at h
      · rename_i hg
        simp only [Option.some.injEq, Prod.mk.injEq] at h
        have hr := rest_rn hc.2.1 hc.2.2 (by simpa using he)
        have h1 := (first_toZ s x hr hg).1
        rw [← h.2]
        simp only [Bool.and_eq_true] at hg
        rcases first_class s x hr with hn | ⟨b, hb⟩ | ⟨hf, h0⟩
        · exfalso
          have h2 := hg.1
          unfold geZ at h2
          rw [order_nan_l hn] at h2
          cases h2
        · exfalso
          obtain ⟨h2, h3⟩ := hg
          rw [hb] at h2 h3
          cases b
          · revert h3; decide +kernel
          · revert h2; decide +kernel
        · exact toInt_nn hf h0 h1
      · cases h
  · cases h
def sixF (n : Int) : Nat := fop .quo .f32 (floatOfInt .f32 n) 1098907648
theorem six_part : ∀ b : Nat, b < 17 → partB (sixF (b : Int)) = true := by decide +kernel
theorem six_rn : ∀ b : Nat, b < 17 → rnB .f32 (0 : Nat) (1065353216 : Nat) (sixF (b : Int)) = true := by decide +kernel
theorem six1_rn : ∀ b : Nat, b < 16 → rnB .f32 (0 : Nat) (1065353216 : Nat) (sixF (1 + (b : Int))) = true := by decide +kernel
def halfF (n : Int) : Nat := fop .quo .f32 (floatOfInt .f32 n) 1073741824
theorem half_rn : ∀ b : Nat, b < 33 → rnB .f32 (0 : Nat) (1098907648 : Nat) (halfF (b : Int)) = true := by decide +kernel
theorem one_part : partB 1065353216 = true := by decide +kernel
theorem hits_some {s : Sd} (hv : validB s = true) {n : Nat} (hn : n < 40) {x : Nat} (hx : partB x = true) : hitsSeed s (n : Int) x = some (nthSd n s, hitsN x n s) := by
  have hi : inB (n : Int) 0 256 = true := inB_mk ⟨by omega, by omega⟩
  unfold hitsSeed
  rw [hv, hi, hx]
  rfl
theorem share_lt (s : Sd) : (FloatKind.f32.format.order (shareOf s) 1065353216 == some .lt) = true := by
  have hu := share_rn s
  have c1 : Rn .f32 (1065353216 : Nat) (1065353216 : Nat) 1065353216 := Rn.const (by decide +kernel)
  have := flt_KV hu.1 c1.1
  unfold flt at this
  rw [this]
  have h1 := hu.2; have h2 := c1.2
  simp only [decide_eq_true_eq]; omega
theorem hits_all (n : Nat) (s : Sd) : hitsN 1065353216 n s = (n : Int) := by
  induction n generalizing s with
  | zero => rfl
  | succ n ih =>
    unfold hitsN
    rw [share_lt s, ih]
    simp
    omega
end Go.Proofs.Ytgbehnkccgahoaa
