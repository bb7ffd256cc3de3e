/- The logarithm of what is at most 1 is at most 0; square roots of what is at least 0. No program in sight. -/
import Derived.Test.YtgbehnkccgahoaaRoot
import Derived.Test.YtgbehnkccgahoaaNeg
namespace Go.Proofs.Ytgbehnkccgahoaa
open Go.RowKit Mag
set_option maxRecDepth 100000
/-- Products of two signs. -/
theorem Rn.mulN {k : FloatKind} {p q r : Nat} {x y : Nat} (hx : Rn k (-p) 0 x) (hy : Rn k 0 q y) (h : chkMul k p q r = true) : Rn k (-r) 0 (fop .mul k x y) := by
  have hm := (hx.weak (lo' := -(p : Int)) (hi' := p) (by omega) (by omega)).mul (hy.weak (lo' := -(q : Int)) (hi' := q) (by omega) (by omega)) h
  have hn := hx.neg
  have e : -(-(p : Int)) = p := by omega
  have hn' : Rn k 0 p (Op.negFloat k x) := hn.weak (by omega) (by omega)
  have hp := hn'.mulP hy h
  refine ⟨hm.1, hm.2.1, ?_⟩
  have a := mul_fin hx.1 hy.1
  have b := mul_fin (FinK_neg hx.1) hy.1
  rw [rungW_neg, negW_neg] at b
  have u1 : fop .mul k x y = k.format.word (negW k.format x ^^ negW k.format y) (rg k.format (magM k.format (rungW k.format x) * magM k.format (rungW k.format y)) (magE k.format (rungW k.format x) + magE k.format (rungW k.format y))) := by
    unfold fop floatBits; dsimp only; rw [a]; rfl
  have u2 : fop .mul k (Op.negFloat k x) y = k.format.word (!negW k.format x ^^ negW k.format y) (rg k.format (magM k.format (rungW k.format x) * magM k.format (rungW k.format y)) (magE k.format (rungW k.format x) + magE k.format (rungW k.format y))) := by
    unfold fop floatBits; dsimp only; rw [b]; rfl
  have k1 : KV k (fop .mul k x y) = sv (negW k.format x ^^ negW k.format y) (rg k.format (magM k.format (rungW k.format x) * magM k.format (rungW k.format y)) (magE k.format (rungW k.format x) + magE k.format (rungW k.format y))) := by rw [u1]; exact sk_word _ _ (rg_le ..)
  have k2 : KV k (fop .mul k (Op.negFloat k x) y) = sv (!negW k.format x ^^ negW k.format y) (rg k.format (magM k.format (rungW k.format x) * magM k.format (rungW k.format y)) (magE k.format (rungW k.format x) + magE k.format (rungW k.format y))) := by rw [u2]; exact sk_word _ _ (rg_le ..)
  have hp2 := hp.2.1
  rw [k2] at hp2
  rw [k1]
  revert hp2
  cases negW k.format x <;> cases negW k.format y <;> simp [sv] <;> omega
theorem div_neg_key {k : FloatKind} {x y : Nat} (hx : FinK k x) (hy : FinK k y) (h0 : KV k y ≠ 0) : KV k (fop .quo k (Op.negFloat k x) y) = -KV k (fop .quo k x y) := by
  have hm : magM k.format (rungW k.format y) ≠ 0 := by
    intro e
    have := rg_mag (f := k.format) hy
    rw [e] at this
    have z : rungW k.format y = 0 := by rw [← this]; unfold rg; rw [if_pos rfl]
    have := KV_abs k y
    omega
  have e : ∀ z : Nat, FinK k z → rungW k.format z = rungW k.format x → KV k (fop .quo k z y) = sv (negW k.format z ^^ negW k.format y) (rg k.format (2 * ((magM k.format (rungW k.format x)) <<< (k.format.fractionBits + 2 + (magM k.format (rungW k.format y)).log2 - (magM k.format (rungW k.format x)).log2) / (magM k.format (rungW k.format y))) + ((magM k.format (rungW k.format x)) <<< (k.format.fractionBits + 2 + (magM k.format (rungW k.format y)).log2 - (magM k.format (rungW k.format x)).log2) % (magM k.format (rungW k.format y)) != 0).toNat) (magE k.format (rungW k.format x) - magE k.format (rungW k.format y) - (k.format.fractionBits + 2 + (magM k.format (rungW k.format y)).log2 - (magM k.format (rungW k.format x)).log2 : Nat) - 1)) := by
    intro z hz hzr
    unfold fop floatBits
    dsimp only
    unfold Ieee.Format.div
    rw [read_fin hz, read_fin hy, hzr]
    unfold Ieee.Datum.quotient
    dsimp only
    rw [if_neg hm]
    show sk k.format (k.format.nearest _ _ _) = _
    rw [nearest_rg, sk_word _ _ (rg_le ..)]
  rw [e x hx rfl, e _ (FinK_neg hx) (rungW_neg k x), negW_neg]
  unfold sv
  cases negW k.format x <;> cases negW k.format y <;> simp
theorem Rn.divN {k : FloatKind} {p c r : Nat} {d : Int} {x y : Nat} (hx : Rn k (-p) 0 x) (hy : Rn k c d y) (hc : 0 < c) (h : chkDiv k p c r = true) : Rn k (-r) 0 (fop .quo k x y) := by
  have hn' : Rn k 0 p (Op.negFloat k x) := hx.neg.weak (by omega) (by omega)
  have hq := hn'.divP hy h
  have e := div_neg_key hx.1 hy.1 (by have := hy.2.1; omega)
  have hm := (hx.weak (lo' := -(p : Int)) (hi' := p) (by omega) (by omega)).div hy h
  have := hq.2.1
  exact ⟨hm.1, hm.2.1, by omega⟩
theorem kF_third : ∀ n : Nat, n < 12 → rnB .f64 (0 : Nat) (4599676419421066582 : Nat) (fop .quo .f64 4607182418800017408 (eF (25 - 2 * (n : Int)))) = true := by decide +kernel
theorem kF_last : rnB .f64 (4607182418800017408 : Nat) (4607182418800017408 : Nat) (fop .quo .f64 4607182418800017408 (eF (25 - 2 * ((12 : Nat) : Int)))) = true := by decide +kernel
theorem logQ_half {u : Nat} (hu : Rn .f64 0 (4591870180066957722 : Nat) u) : ∀ n : Nat, n ≤ 12 → Rn .f64 (0 : Nat) (4602678819172646912 : Nat) (logQ u n)
  | 0, _ => by show Rn .f64 _ _ 0; exact Rn.const (by decide +kernel)
  | n + 1, h => by
    unfold logQ
    have a := Rn.const (kF_third n (by omega))
    have b : Rn .f64 0 (4591870180066957722 : Nat) (fop .mul .f64 u (logQ u n)) := hu.mulP (logQ_half hu n (by omega)) (by decide +kernel)
    exact a.add b (by decide +kernel)
/-- 1.0625 -/
theorem logQ_tight {u : Nat} (hu : Rn .f64 0 (4591870180066957722 : Nat) u) : Rn .f64 (0 : Nat) (4607463893776728064 : Nat) (logQ u 13) := by
  show Rn .f64 _ _ (fop .add .f64 (fop .quo .f64 4607182418800017408 (eF (25 - 2 * ((12 : Nat) : Int)))) (fop .mul .f64 u (logQ u 12)))
  have a := Rn.const kF_last
  have b : Rn .f64 0 (4589168020290535424 : Nat) (fop .mul .f64 u (logQ u 12)) := hu.mulP (logQ_half hu 12 (by omega)) (by decide +kernel)
  exact a.add b (by decide +kernel)
theorem eN_neg : ∀ n : Nat, n < 160 → 0 < n → rnB .f64 (-(4639833516098453504 : Nat)) (-(4607182418800017408 : Nat)) (eF (-(n : Int))) = true := by decide +kernel
theorem Rn.mulNlo {k : FloatKind} {p q r r' : Nat} {x y : Nat} (hx : Rn k (-r) (-p) x) (hy : Rn k q r' y) {z : Nat} (h : rungW k.format (fop .mul k (wk k p) (wk k q)) = z) (hp : okK k p = true) (hq : okK k q = true) (hp0 : 0 < p) : KV k (fop .mul k x y) ≤ -(z : Int) := by
  have a1 := KV_abs k x; have a2 := KV_abs k y
  have g1 := okK_fin hp; have g2 := okK_fin hq
  have e1 := rungW_wk hp; have e2 := rungW_wk hq
  have m1 := mul_fin g1.1 g2.1
  have m2 := mul_fin hx.1 hy.1
  have l := mul_mono (f := k.format) hx.1 hy.1 (x := wk k p) (y := wk k q) (by rw [e1]; have := hx.2; omega) (by rw [e2]; have := hy.2; omega) m1 m2
  have u1 : fop .mul k (wk k p) (wk k q) = k.format.word (negW k.format (wk k p) ^^ negW k.format (wk k q)) (rg k.format (magM k.format (rungW k.format (wk k p)) * magM k.format (rungW k.format (wk k q))) (magE k.format (rungW k.format (wk k p)) + magE k.format (rungW k.format (wk k q)))) := by
    unfold fop floatBits; dsimp only; rw [m1]; rfl
  have u2 : fop .mul k x y = k.format.word (negW k.format x ^^ negW k.format y) (rg k.format (magM k.format (rungW k.format x) * magM k.format (rungW k.format y)) (magE k.format (rungW k.format x) + magE k.format (rungW k.format y))) := by
    unfold fop floatBits; dsimp only; rw [m2]; rfl
  rw [← u1, ← u2, h] at l
  have nx : negW k.format x = true := by
    rcases hb : negW k.format x with _ | _
    · have := KV_sign.1 hb; have := hx.2; omega
    · rfl
  by_cases hz : rungW k.format y = 0
  · by_cases hq0 : q = 0
    · subst hq0
      have : z = 0 := by
        rw [← h, u1, rungW_word _ _ (rg_le ..), e2]
        have hm0 : magM k.format 0 = 0 := by unfold magM; rw [if_pos (binade_pos _)]
        rw [hm0, Nat.mul_zero]
        unfold rg; rw [if_pos rfl]
      have k3 := KV_abs k (fop .mul k x y)
      have : rungW k.format (fop .mul k x y) = 0 := by
        rw [u2, rungW_word _ _ (rg_le ..), hz]
        have hm0 : magM k.format 0 = 0 := by unfold magM; rw [if_pos (binade_pos _)]
        rw [hm0, Nat.mul_zero]
        unfold rg; rw [if_pos rfl]
      omega
    · exfalso; have := hy.2; omega
  · have ny : negW k.format y = false := by
      rcases hb : negW k.format y with _ | _
      · rfl
      · have := KV_sign.2 hb; have := hy.2; omega
    have hn : negW k.format (fop .mul k x y) = true := by rw [u2, negW_word _ _ (rg_le ..), nx, ny]; rfl
    have := KV_sign.2 hn
    omega
theorem log64_neg {x : Nat} (h1 : 873 * Bd ≤ x) (h2 : x ≤ 4607182418800017408) : KV .f64 (log64 x) ≤ 0 := by
  have hy1 := nUp_ge x
  have hy2 := nUp_hi h2
  have hs := logS_rn hy1 hy2
  unfold log64 logEnd
  have hu : Rn .f64 0 (4591870180066957722 : Nat) (fop .mul .f64 (logS (x + nUp x * Bd)) (logS (x + nUp x * Bd))) := sq_rn hs (by decide +kernel)
  have hq := logQ_tight hu
  have he := Rn.const (eF_rn (nUp x) (nUp_le h1))
  have cl : Rn .f64 (4604418534313441775 : Nat) (4604418534313441775 : Nat) 4604418534313441775 := Rn.const (by decide +kernel)
  have cl' : Rn .f64 (-(4604418534313441775 : Nat)) (4604418534313441775 : Nat) 4604418534313441775 := Rn.const (by decide +kernel)
  have c2 : Rn .f64 (0 : Nat) (4611686018427387904 : Nat) 4611686018427387904 := Rn.const (by decide +kernel)
  have c2' : Rn .f64 (-(4611686018427387904 : Nat)) (4611686018427387904 : Nat) 4611686018427387904 := Rn.const (by decide +kernel)
  have hec : Rn .f64 (-(4640537203540230144 : Nat)) (4640537203540230144 : Nat) (fop .mul .f64 (eF (-(nUp x : Int))) 4604418534313441775) := he.mul cl' (by decide +kernel)
  by_cases h0 : nUp x = 0
  · have hx1 : 4604930618986332160 ≤ x := by rw [h0, Nat.zero_mul, Nat.add_zero] at hy1; exact hy1
    have ey : x + nUp x * Bd = x := by rw [h0, Nat.zero_mul, Nat.add_zero]
    rw [ey] at hq hs hu ⊢
    have hyr : Rn .f64 4604930618986332160 4607182418800017408 x := ⟨Fin_nat (by simp only [Bd]; omega), by rw [KV_nat (by omega)]; omega, by rw [KV_nat (by omega)]; omega⟩
    have o1 : Rn .f64 4607182418800017408 4607182418800017408 4607182418800017408 := Rn.const (by decide +kernel)
    have a : Rn .f64 (-(4598175219545276416 : Nat)) 0 (fop .sub .f64 x 4607182418800017408) := hyr.sub o1 (by decide +kernel)
    have b : Rn .f64 (4610560118520545280 : Nat) 4612811918334230528 (fop .add .f64 x 4607182418800017408) := hyr.add o1 (by decide +kernel)
    have hsn : Rn .f64 (-(4599075939470750515 : Nat)) 0 (logS x) := a.divN b (by decide) (by decide +kernel)
    have m1 : Rn .f64 (-(4607182418800017408 : Nat)) 0 (fop .mul .f64 (logS x) (logQ (fop .mul .f64 (logS x) (logS x)) 13)) := hsn.mulN hq (by decide +kernel)
    have m1n : Rn .f64 0 (4607182418800017408 : Nat) (Op.negFloat .f64 (fop .mul .f64 (logS x) (logQ (fop .mul .f64 (logS x) (logS x)) 13))) := m1.neg.weak (by omega) (by omega)
    have m2 : Rn .f64 (-(4611686018427387904 : Nat)) 0 (fop .mul .f64 4611686018427387904 (fop .mul .f64 (logS x) (logQ (fop .mul .f64 (logS x) (logS x)) 13))) := by
      have c := mul_fin c2.1 m1.1
      have d := mul_fin m1.1 c2.1
      have ec : fop .mul .f64 4611686018427387904 (fop .mul .f64 (logS x) (logQ (fop .mul .f64 (logS x) (logS x)) 13)) = fop .mul .f64 (fop .mul .f64 (logS x) (logQ (fop .mul .f64 (logS x) (logS x)) 13)) 4611686018427387904 := by
        unfold fop floatBits at c d ⊢
        dsimp only at c d ⊢
        rw [c, d, Nat.mul_comm, Int.add_comm, Bool.xor_comm]
      rw [ec]
      exact m1.mulN c2 (by decide +kernel)
    have hez : Rn .f64 0 0 (fop .mul .f64 (eF (-(nUp x : Int))) 4604418534313441775) := by rw [h0]; exact Rn.const (by decide +kernel)
    have hend : Rn .f64 (-(4611686018427387904 : Nat)) 0 _ := m2.add hez (by decide +kernel)
    exact hend.2.2
  · have hen := Rn.const (eN_neg (nUp x) (nUp_le h1) (by omega))
    have hec2 := Rn.mulNlo (k := .f64) (p := 4607182418800017408) (q := 4604418534313441775) (z := 4604418534313441775) hen cl (by decide +kernel) (by decide +kernel) (by decide +kernel) (by omega)
    have hec3 : Rn .f64 (-(4640537203540230144 : Nat)) (-(4604418534313441775 : Nat)) (fop .mul .f64 (eF (-(nUp x : Int))) 4604418534313441775) := ⟨hec.1, hec.2.1, hec2⟩
    have hq' : Rn .f64 (-(4607463893776728064 : Nat)) (4607463893776728064 : Nat) _ := hq.weak (by omega) (by omega)
    have m1 : Rn .f64 (-(4599436227440940155 : Nat)) (4599436227440940155 : Nat) _ := hs.mul hq' (by decide +kernel)
    have m2 : Rn .f64 (-(4603939827068310651 : Nat)) (4603939827068310651 : Nat) _ := c2'.mul m1 (by decide +kernel)
    have hend : Rn .f64 (-(4641240890982006784 : Nat)) 0 _ := m2.add hec3 (by decide +kernel)
    exact hend.2.2
/-- The logarithm of a float32 that is at most 1 is at most 0. -/
theorem logF_neg {a : Nat} (h1 : 1 ≤ a) (h2 : a ≤ 1065353216) : Rn .f32 (-(1128792064 : Nat)) 0 (logF a) := by
  have hw := widen_01 h1 h2
  have h := log64_rn hw.1 hw.2
  have hn := log64_neg hw.1 hw.2
  have h' : Rn .f64 (-(4641240890982006784 : Nat)) 0 (log64 (widen a)) := ⟨h.1, h.2.1, hn⟩
  exact h'.narrow (by decide +kernel)
/-- Square roots of what is at least 0 and at most 512. -/
theorem root_rn {x : Nat} (h : Rn .f32 0 (1140850688 : Nat) x) : Rn .f32 0 (1103101952 : Nat) (rootF x) := by
  have hw : Rn .f64 0 (4647714815446351872 : Nat) (widen x) := h.widen (by decide +kernel)
  unfold rootF
  by_cases hn : negW Ieee.double (widen x) = false
  · exact (Rn.sqrt (p := 4647714815446351872) (r := 4627448617123184640) hw.1 hw.2.2 hn (by decide +kernel)).narrow (by decide +kernel)
  · have hn' : negW Ieee.double (widen x) = true := by simpa using hn
    have hr0 : rungW Ieee.double (widen x) = 0 := by
      have := (KV_sign (k := .f64) (x := widen x)).2 hn'
      have h2 := hw.2.1
      have : KV .f64 (widen x) = -(rungW Ieee.double (widen x) : Int) := this
      omega
    have h0 : magM Ieee.double 0 = 0 := by decide
    have hs : sqrtF (widen x) = FloatKind.f64.encode (.number true 0 (magE Ieee.double 0)) := by
      unfold sqrtF Ieee.Format.sqrt
      show ((Ieee.Datum.root _ (Ieee.double.read (widen x))).map _).getD _ = _
      rw [read_fin (f := Ieee.double) hw.1, hn', hr0, h0]
      rfl
    rw [hs]
    exact Rn.const (by decide +kernel)
end Go.Proofs.Ytgbehnkccgahoaa
