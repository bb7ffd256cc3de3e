/- Exact quotients of whole numbers; square roots of the same number. Plain law. -/
import Derived.Test.YtijafnejdibdlaaGreatDoorWhole
import Derived.Test.YtijafnejdibdlaaGreatDoorLog
namespace Go.Proofs.YtijafnejdibdlaaGreatDoor.Mag
open Go.RowKit Ieee
/-- A quotient is at least a rung. -/
theorem quot_ge {f : Format} {s t : Bool} {m n : Nat} {i j : Int} {r : Nat} (hn : n ≠ 0) (hm : m ≠ 0) (hr : r < f.infRung) (h : MLe (n * magM f r) (j + magE f r) m i) :
    ∃ q p, (Datum.number s m i).quotient (f.fractionBits + 2) (.number t n j) = some (.number (s ^^ t) q p) ∧ r ≤ rg f q p := by
  unfold Datum.quotient
  dsimp only
  rw [if_neg hn]
  refine ⟨_, _, rfl, ?_⟩
  apply rg_ge_of hr
  have hM := magM_lt f r
  generalize magM f r = M at *
  generalize magE f r = E at *
  have lm : 2 ^ m.log2 ≤ m := Nat.log2_self_le hm
  have ln : n < 2 ^ (n.log2 + 1) := Nat.lt_log2_self
  obtain ⟨more, hmore⟩ : ∃ more, f.fractionBits + 2 + n.log2 - m.log2 = more := ⟨_, rfl⟩
  rw [hmore, Nat.shiftLeft_eq]
  have hD : 2 ^ (f.fractionBits + 2 + n.log2) ≤ m * 2 ^ more := by
    calc 2 ^ (f.fractionBits + 2 + n.log2) ≤ 2 ^ (m.log2 + more) := Nat.pow_le_pow_right (by omega) (by omega)
      _ = 2 ^ m.log2 * 2 ^ more := Nat.pow_add ..
      _ ≤ _ := Nat.mul_le_mul_right _ lm
  have hD2 : 2 * f.binade * n < m * 2 ^ more := by
    calc 2 * f.binade * n < 2 * f.binade * 2 ^ (n.log2 + 1) := Nat.mul_lt_mul_of_pos_left ln (by have := binade_pos f; omega)
      _ = 2 ^ (f.fractionBits + 2 + n.log2) := by unfold Format.binade; rw [← Nat.pow_succ', ← Nat.pow_add]; congr 1; omega
      _ ≤ _ := hD
  have hq : M ≤ m * 2 ^ more / n := by
    rw [Nat.le_div_iff_mul_le (by omega)]
    have : M * n ≤ 2 * f.binade * n := Nat.mul_le_mul_right _ (by omega)
    omega
  have b1 : min E (i - j - more - 1) ≤ E := by omega
  have b2 : min E (i - j - more - 1) ≤ i - j - more - 1 := by omega
  have key : ∀ q : Nat, 2 * (m * 2 ^ more / n) ≤ q → MLe M E q (i - j - more - 1) := by
    intro q hq2
    rcases Int.lt_or_le E (i - j - more) with hc | hc
    · refine (mle_base (b := E) (Int.le_refl _) (by omega)).2 ?_
      rw [Int.sub_self, Int.toNat_zero, Nat.pow_zero, Nat.mul_one]
      have : q ≤ q * 2 ^ (i - j - more - 1 - E).toNat := Nat.le_mul_of_pos_right _ (Nat.two_pow_pos _)
      omega
    · refine (mle_base (b := i - j - more - 1) (by omega) (Int.le_refl _)).2 ?_
      rw [Int.sub_self, Int.toNat_zero, Nat.pow_zero, Nat.mul_one]
      have c1 : i - more ≤ j + E := by omega
      have c2 : i - more ≤ i := by omega
      rw [mle_base c1 c2] at h
      have y1 : (i - (i - (more : Int))).toNat = more := by omega
      have y2 : (j + E - (i - (more : Int))).toNat = (E - (i - j - more)).toNat := by omega
      have y3 : (E - (i - j - (more : Int) - 1)).toNat = (E - (i - j - more)).toNat + 1 := by omega
      rw [y1, y2] at h
      rw [y3, Nat.pow_succ, ← Nat.mul_assoc]
      have : M * 2 ^ (E - (i - j - more)).toNat ≤ m * 2 ^ more / n := by
        rw [Nat.le_div_iff_mul_le (by omega)]
        calc M * 2 ^ (E - (i - j - more)).toNat * n = n * M * 2 ^ (E - (i - j - more)).toNat := by rw [Nat.mul_comm _ n, Nat.mul_assoc]
          _ ≤ _ := h
      omega
  exact key _ (by omega)
theorem div_ge {f : Format} {x y r : Nat} (hx : Fin_ f x) (hy : Fin_ f y) (h0 : magM f (rungW f y) ≠ 0) (hm : magM f (rungW f x) ≠ 0) (hr : r < f.infRung) (h : MLe (magM f (rungW f y) * magM f r) (magE f (rungW f y) + magE f r) (magM f (rungW f x)) (magE f (rungW f x))) :
    ∃ z, f.div x y = some z ∧ r ≤ rungW f z := by
  unfold Format.div
  rw [read_fin hx, read_fin hy]
  obtain ⟨q, p, he, hle⟩ := quot_ge (s := negW f x) (t := negW f y) (i := magE f (rungW f x)) h0 hm hr h
  rw [he]
  refine ⟨_, rfl, ?_⟩
  unfold Format.write; dsimp only; rw [nearest_rg, rungW_word f _ (rg_le ..)]; exact hle
end Go.Proofs.YtijafnejdibdlaaGreatDoor.Mag
namespace Go.Proofs.YtijafnejdibdlaaGreatDoor
open Go.RowKit Mag
theorem mag_ne {k : FloatKind} {x : Nat} {a : Int} (h : Vl k x a) (ha : a ≠ 0) : magM k.format (rungW k.format x) ≠ 0 := by
  intro e
  have h2 := h.2
  unfold negV at h2
  rw [e] at h2
  have e0 : sv (negW k.format x) 0 = 0 := by unfold sv; simp
  rw [e0, Int.zero_mul] at h2
  rcases Int.mul_eq_zero.1 h2.symm with h3 | h3
  · exact ha h3
  · have := two_pow_posI (0 - min (magE k.format (rungW k.format x)) 0).toNat; omega
/-- An exact quotient. -/
theorem Vl.quo {k : FloatKind} {x y : Nat} {a c : Int} (hx : Vl k x (a * c)) (hy : Vl k y c) (hc : c ≠ 0) (hs : a.natAbs < smK k) : Vl k (fop .quo k x y) a := by
  obtain ⟨s1, s2, s3⟩ := small_ok hs
  obtain ⟨r1, r2, r3⟩ := rg_same k.format s1 s2 s3
  obtain ⟨x1, x2, x3, x4⟩ := hx.parts
  obtain ⟨y1, y2, y3, y4⟩ := hy.parts
  have hM := mag_ne hy hc
  have up : MLe (magM k.format (rungW k.format x)) (magE k.format (rungW k.format x)) (magM k.format (rungW k.format y) * magM k.format (rg k.format a.natAbs 0)) (magE k.format (rungW k.format y) + magE k.format (rg k.format a.natAbs 0)) := by
    refine mle_trans x1 ?_
    have := mle_mul y2 r2
    rw [← Int.natAbs_mul, Int.mul_comm c a] at this
    exact this
  obtain ⟨z, hz, hz1, hz2⟩ := div_le hx.1 hy.1 hM r1 up
  have e2 : fop .quo k x y = z := by unfold fop floatBits; dsimp only; rw [hz]; rfl
  rw [e2]
  refine Vl.of ?_ hs
  have ks := KV_sign (k := k) (x := z)
  unfold srg
  by_cases ha : a = 0
  · have h0 : rg k.format a.natAbs 0 = 0 := by rw [ha]; show rg _ 0 0 = 0; unfold rg; rw [if_pos rfl]
    rw [h0] at hz1 ⊢
    have h1 := KV_abs k z
    unfold sv; simp; omega
  · have hac : a * c ≠ 0 := fun e => by rcases Int.mul_eq_zero.1 e with h | h; exact ha h; exact hc h
    have down : MLe (magM k.format (rungW k.format y) * magM k.format (rg k.format a.natAbs 0)) (magE k.format (rungW k.format y) + magE k.format (rg k.format a.natAbs 0)) (magM k.format (rungW k.format x)) (magE k.format (rungW k.format x)) := by
      refine mle_trans ?_ x2
      have := mle_mul y1 r3
      rw [← Int.natAbs_mul, Int.mul_comm c a] at this
      exact this
    obtain ⟨z', hz', hz3⟩ := div_ge hx.1 hy.1 hM (mag_ne hx hac) r1 down
    obtain rfl : z = z' := by rw [hz] at hz'; injection hz'
    have er : rg k.format a.natAbs 0 = rungW k.format z := by omega
    rw [er]
    have es : negW k.format z = decide (a < 0) := by
      rw [hz2]
      rcases Int.lt_or_lt_of_ne ha with h1 | h1 <;> rcases Int.lt_or_lt_of_ne hc with h2 | h2
      · rw [x4 (Int.mul_pos_of_neg_of_neg h1 h2), y3 h2, decide_eq_true h1]; rfl
      · rw [x3 (Int.mul_neg_of_neg_of_pos h1 h2), y4 h2, decide_eq_true h1]; rfl
      · rw [x3 (Int.mul_neg_of_pos_of_neg h1 h2), y3 h2, decide_eq_false (by omega)]; rfl
      · rw [x4 (Int.mul_pos h1 h2), y4 h2, decide_eq_false (by omega)]; rfl
    rw [← es]
    cases hb : negW k.format z with
    | true => rw [ks.2 hb]; rfl
    | false => rw [ks.1 hb]; rfl
/-- Words that read alike have the same square root. -/
theorem sqrt_same {x y : Nat} (hx : FinK .f64 x) (hy : FinK .f64 y) (h1 : rungW FloatKind.f64.format x = rungW FloatKind.f64.format y) (h2 : negW FloatKind.f64.format x = negW FloatKind.f64.format y) : sqrtF x = sqrtF y := by
  unfold sqrtF Ieee.Format.sqrt
  rw [read_fin (f := FloatKind.f64.format) hx, read_fin (f := FloatKind.f64.format) hy, h1, h2]
/-- Two words of the same number above 0. -/
theorem Vl.sqrt {x y : Nat} {a : Int} (hx : Vl .f64 x a) (hy : Vl .f64 y a) (h0 : 0 < a) (hs : a.natAbs < smK .f64) : sqrtF x = sqrtF y := by
  have e1 := hx.key hs
  have e2 := hy.key hs
  have k1 := KV_abs .f64 x
  have k2 := KV_abs .f64 y
  refine sqrt_same hx.1 hy.1 ?_ ?_
  · rw [e1] at k1; rw [e2] at k2; omega
  · rw [hx.parts.2.2.2 h0, hy.parts.2.2.2 h0]
end Go.Proofs.YtijafnejdibdlaaGreatDoor
