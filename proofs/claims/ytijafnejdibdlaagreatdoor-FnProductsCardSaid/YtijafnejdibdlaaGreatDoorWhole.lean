/- Whole numbers in floats: sums, differences, products, quotients, wider and narrower words, exact. Plain law. -/
import Derived.Test.YtijafnejdibdlaaGreatDoorExact
namespace Go.Proofs.YtijafnejdibdlaaGreatDoor
open Go.RowKit Mag
/-- The value of a finite word is the whole number 'a' (zero of either sign is 0). -/
def Vl (k : FloatKind) (x : Nat) (a : Int) : Prop :=
  FinK k x ∧ negV k.format x * 2 ^ (magE k.format (rungW k.format x) - min (magE k.format (rungW k.format x)) 0).toNat = a * 2 ^ (0 - min (magE k.format (rungW k.format x)) 0).toNat
def smK : FloatKind → Nat
  | .f32 => 16777216
  | .f64 => 9007199254740992
theorem sv_int (a : Int) : sv (decide (a < 0)) a.natAbs = a := by
  unfold sv
  by_cases h : a < 0
  · simp only [h, decide_true, if_true]; omega
  · simp only [h, decide_false, Bool.false_eq_true, if_false]; omega
theorem sv_natAbs (s : Bool) (m : Nat) : (sv s m).natAbs = m := by unfold sv; split <;> omega
theorem small_ok {k : FloatKind} {m : Nat} (h : m < smK k) : m.log2 ≤ k.format.fractionBits ∧ k.format.leastPlace ≤ 0 ∧ (lastPl k.format m 0 - k.format.leastPlace).toNat * k.format.binade + 2 * k.format.binade ≤ k.format.infRung := by
  cases k with
  | f32 =>
    have h1 : m.log2 ≤ 23 := log_lt (by simpa [smK] using h)
    have e1 : FloatKind.f32.format.fractionBits = 23 := rfl
    have e2 : FloatKind.f32.format.leastPlace = -149 := rfl
    have e3 : FloatKind.f32.format.binade = 8388608 := rfl
    have e4 : FloatKind.f32.format.infRung = 2139095040 := rfl
    unfold lastPl
    rw [e1, e2, e3, e4]
    refine ⟨h1, by omega, ?_⟩
    have : (max ((0 : Int) + (m.log2 : Int) - (23 : Nat)) (-149) - -149).toNat ≤ 149 := by omega
    omega
  | f64 =>
    have h1 : m.log2 ≤ 52 := log_lt (by simpa [smK] using h)
    have e1 : FloatKind.f64.format.fractionBits = 52 := rfl
    have e2 : FloatKind.f64.format.leastPlace = -1074 := rfl
    have e3 : FloatKind.f64.format.binade = 4503599627370496 := rfl
    have e4 : FloatKind.f64.format.infRung = 9218868437227405312 := rfl
    unfold lastPl
    rw [e1, e2, e3, e4]
    refine ⟨h1, by omega, ?_⟩
    have : (max ((0 : Int) + (m.log2 : Int) - (52 : Nat)) (-1074) - -1074).toNat ≤ 1074 := by omega
    omega
/-- What a value says of magnitude and sign. -/
theorem Vl.parts {k : FloatKind} {x : Nat} {a : Int} (h : Vl k x a) :
    MLe (magM k.format (rungW k.format x)) (magE k.format (rungW k.format x)) a.natAbs 0 ∧ MLe a.natAbs 0 (magM k.format (rungW k.format x)) (magE k.format (rungW k.format x)) ∧ (a < 0 → negW k.format x = true) ∧ (0 < a → negW k.format x = false) := by
  have h2 := h.2
  have hn := congrArg Int.natAbs h2
  unfold negV at h2 hn
  rw [Int.natAbs_mul, Int.natAbs_mul, sv_natAbs, Int.natAbs_pow, Int.natAbs_pow] at hn
  generalize magE k.format (rungW k.format x) = e at *
  generalize magM k.format (rungW k.format x) = m at *
  have hn2 : m * 2 ^ (e - min e 0).toNat = a.natAbs * 2 ^ (0 - min e 0).toNat := hn
  refine ⟨?_, ?_, fun ha => ?_, fun ha => ?_⟩
  · unfold MLe; exact Nat.le_of_eq hn2
  · unfold MLe; rw [Int.min_comm 0 e]; exact Nat.le_of_eq hn2.symm
  · cases hb : negW k.format x with
    | true => rfl
    | false =>
      rw [hb] at h2
      have p1 : (0 : Int) ≤ sv false m * 2 ^ (e - min e 0).toNat := Int.mul_nonneg (by unfold sv; simp) (Int.le_of_lt (two_pow_posI _))
      have p2 : a * 2 ^ (0 - min e 0).toNat < 0 := Int.mul_neg_of_neg_of_pos ha (two_pow_posI _)
      omega
  · cases hb : negW k.format x with
    | false => rfl
    | true =>
      rw [hb] at h2
      have p1 : sv true m * 2 ^ (e - min e 0).toNat ≤ 0 := Int.mul_nonpos_of_nonpos_of_nonneg (by unfold sv; simp) (Int.le_of_lt (two_pow_posI _))
      have p2 : 0 < a * 2 ^ (0 - min e 0).toNat := Int.mul_pos ha (two_pow_posI _)
      omega
theorem Vl.le {k : FloatKind} {x : Nat} {a : Int} (h : Vl k x a) : ILe (sv (negW k.format x) (magM k.format (rungW k.format x))) (magE k.format (rungW k.format x)) a 0 := by
  unfold ILe; exact Int.le_of_eq h.2
theorem Vl.ge {k : FloatKind} {x : Nat} {a : Int} (h : Vl k x a) : ILe a 0 (sv (negW k.format x) (magM k.format (rungW k.format x))) (magE k.format (rungW k.format x)) := by
  unfold ILe; rw [Int.min_comm 0]; exact Int.le_of_eq h.2.symm
theorem Vl.le_ {k : FloatKind} {x : Nat} {a : Int} (h : Vl k x a) : ILe (sv (negW k.format x) (magM k.format (rungW k.format x))) (magE k.format (rungW k.format x)) (sv (decide (a < 0)) a.natAbs) 0 := by rw [sv_int]; exact h.le
theorem Vl.ge_ {k : FloatKind} {x : Nat} {a : Int} (h : Vl k x a) : ILe (sv (decide (a < 0)) a.natAbs) 0 (sv (negW k.format x) (magM k.format (rungW k.format x))) (magE k.format (rungW k.format x)) := by rw [sv_int]; exact h.ge
/-- The other way: out of the key. -/
theorem Vl.of {k : FloatKind} {x : Nat} {a : Int} (h : KV k x = srg k.format a 0) (hs : a.natAbs < smK k) : Vl k x a := by
  obtain ⟨s1, s2, s3⟩ := small_ok hs
  obtain ⟨r1, r2, r3⟩ := rg_same k.format s1 s2 s3
  unfold srg at h
  have hr := KV_abs k x
  rw [h, sv_natAbs] at hr
  have hf : FinK k x := by show rungW k.format x < _; rw [← hr]; exact r1
  refine ⟨hf, ?_⟩
  rw [hr] at r2 r3
  have ks := KV_sign (k := k) (x := x)
  have hm0 : rungW k.format x = 0 → magM k.format (rungW k.format x) = 0 := fun e => by rw [e]; unfold magM; rw [if_pos (binade_pos _)]
  have hE : magM k.format (rungW k.format x) * 2 ^ (magE k.format (rungW k.format x) - min (magE k.format (rungW k.format x)) 0).toNat = a.natAbs * 2 ^ (0 - min (magE k.format (rungW k.format x)) 0).toNat := by
    unfold MLe at r2 r3
    rw [Int.min_comm 0] at r2
    omega
  rw [hr] at h
  unfold negV
  generalize magE k.format (rungW k.format x) = e at *
  generalize magM k.format (rungW k.format x) = m at *
  generalize rungW k.format x = r at *
  have hE2 : (m : Int) * 2 ^ (e - min e 0).toNat = (a.natAbs : Int) * 2 ^ (0 - min e 0).toNat := by exact_mod_cast hE
  by_cases ha : a < 0
  · have hs2 : negW k.format x = true := by
      cases hb : negW k.format x with
      | true => rfl
      | false =>
        exfalso
        have h1 := ks.1 hb
        rw [h1, decide_eq_true ha] at h
        have h2 : r = 0 := by unfold sv at h; simp at h; omega
        rw [hm0 h2, Nat.zero_mul] at hE
        have h3 : 0 < a.natAbs * 2 ^ (0 - min e 0).toNat := Nat.mul_pos (by omega) (Nat.two_pow_pos _)
        omega
    rw [hs2]
    have e1 : sv true m = -(m : Int) := rfl
    have e2 : (a.natAbs : Int) = -a := by omega
    rw [e1, Int.neg_mul, hE2, e2, Int.neg_mul, Int.neg_neg]
  · have e1 : sv (negW k.format x) m = (m : Int) := by
      cases hb : negW k.format x with
      | false => rfl
      | true =>
        have h1 := ks.2 hb
        rw [h1, decide_eq_false ha] at h
        have h2 : r = 0 := by unfold sv at h; simp at h; omega
        rw [hm0 h2]; rfl
    have e2 : (a.natAbs : Int) = a := by omega
    rw [e1, hE2, e2]
theorem ile_int (a : Int) : sv (decide (a < 0)) a.natAbs = a := sv_int a
/-- The key of a whole number. -/
theorem Vl.key {k : FloatKind} {x : Nat} {a : Int} (h : Vl k x a) (hs : a.natAbs < smK k) : KV k x = srg k.format a 0 := by
  obtain ⟨p1, p2, p3, p4⟩ := h.parts
  have e1 : rg k.format (magM k.format (rungW k.format x)) (magE k.format (rungW k.format x)) = rungW k.format x := rg_mag h.1
  have e2 : rg k.format a.natAbs 0 = rungW k.format x := by
    rw [← e1]
    exact Nat.le_antisymm (rg_mono _ p2) (rg_mono _ p1)
  unfold srg
  rw [e2]
  have ks := KV_sign (k := k) (x := x)
  by_cases ha : a < 0
  · rw [decide_eq_true ha, ks.2 (p3 ha)]; rfl
  · rw [decide_eq_false ha]
    by_cases h0 : 0 < a
    · rw [ks.1 (p4 h0)]; rfl
    · have : a = 0 := by omega
      subst this
      have hz : rungW k.format x = 0 := by rw [← e2]; show rg _ 0 0 = 0; unfold rg; rw [if_pos rfl]
      have := KV_abs k x
      rw [hz] at this ⊢
      unfold sv; simp; omega
theorem Vl.add {k : FloatKind} {x y : Nat} {a b : Int} (hx : Vl k x a) (hy : Vl k y b) (hs : (a + b).natAbs < smK k) : Vl k (fop .add k x y) (a + b) := by
  obtain ⟨r, e, hr⟩ := add_sk hx.1 hy.1
  have e2 : fop .add k x y = r := by unfold fop floatBits; dsimp only; rw [e]; rfl
  rw [e2]
  refine Vl.of ?_ hs
  show sk k.format r = _
  rw [hr]
  have t : tot (decide (a < 0)) a.natAbs 0 (decide (b < 0)) b.natAbs 0 = a + b := by unfold tot; rw [sv_int, sv_int]; simp
  have m1 := tot_mono hx.le_ hy.le_
  have m2 := tot_mono hx.ge_ hy.ge_
  rw [t] at m1 m2
  exact Int.le_antisymm (srg_mono _ m1) (srg_mono _ m2)
theorem Vl.sub {k : FloatKind} {x y : Nat} {a b : Int} (hx : Vl k x a) (hy : Vl k y b) (hs : (a - b).natAbs < smK k) : Vl k (fop .sub k x y) (a - b) := by
  obtain ⟨r, e, hr⟩ := sub_sk hx.1 hy.1
  have e2 : fop .sub k x y = r := by unfold fop floatBits; dsimp only; rw [e]; rfl
  rw [e2]
  refine Vl.of ?_ hs
  show sk k.format r = _
  rw [hr]
  have t : tot (decide (a < 0)) a.natAbs 0 (!decide (b < 0)) b.natAbs 0 = a - b := by
    have hn : sv (!decide (b < 0)) b.natAbs = -b := by
      have := sv_int b
      have e : ∀ (s : Bool) (m : Nat), sv (!s) m = - sv s m := by intro s m; cases s <;> simp [sv]
      rw [e, this]
    unfold tot; rw [sv_int, hn]; simp; omega
  have m1 := tot_mono hx.le_ (ile_neg hy.ge_)
  have m2 := tot_mono hx.ge_ (ile_neg hy.le_)
  rw [t] at m1 m2
  exact Int.le_antisymm (srg_mono _ m1) (srg_mono _ m2)
theorem Vl.mul {k : FloatKind} {x y : Nat} {a b : Int} (hx : Vl k x a) (hy : Vl k y b) (hs : (a * b).natAbs < smK k) : Vl k (fop .mul k x y) (a * b) := by
  have e := mul_fin hx.1 hy.1
  have e2 : fop .mul k x y = k.format.word (negW k.format x ^^ negW k.format y) (rg k.format (magM k.format (rungW k.format x) * magM k.format (rungW k.format y)) (magE k.format (rungW k.format x) + magE k.format (rungW k.format y))) := by unfold fop floatBits; dsimp only; rw [e]; rfl
  rw [e2]
  refine Vl.of ?_ hs
  show sk k.format _ = _
  rw [sk_word _ _ (rg_le ..)]
  obtain ⟨x1, x2, x3, x4⟩ := hx.parts
  obtain ⟨y1, y2, y3, y4⟩ := hy.parts
  have m1 := mle_mul x1 y1
  have m2 := mle_mul x2 y2
  rw [← Int.natAbs_mul] at m1 m2
  have er : rg k.format (magM k.format (rungW k.format x) * magM k.format (rungW k.format y)) (magE k.format (rungW k.format x) + magE k.format (rungW k.format y)) = rg k.format (a * b).natAbs 0 := Nat.le_antisymm (rg_mono _ m1) (rg_mono _ m2)
  rw [er]
  unfold srg
  by_cases h0 : a * b = 0
  · rw [h0]
    have : rg k.format (0 : Int).natAbs 0 = 0 := by show rg _ 0 0 = 0; unfold rg; rw [if_pos rfl]
    rw [this]
    unfold sv; simp
  · have ha : a ≠ 0 := fun e => h0 (by rw [e, Int.zero_mul])
    have hb : b ≠ 0 := fun e => h0 (by rw [e, Int.mul_zero])
    have es : (negW k.format x ^^ negW k.format y) = decide (a * b < 0) := by
      rcases Int.lt_or_lt_of_ne ha with h1 | h1 <;> rcases Int.lt_or_lt_of_ne hb with h2 | h2
      · rw [x3 h1, y3 h2, decide_eq_false (by have := Int.mul_pos_of_neg_of_neg h1 h2; omega)]; rfl
      · rw [x3 h1, y4 h2, decide_eq_true (Int.mul_neg_of_neg_of_pos h1 h2)]; rfl
      · rw [x4 h1, y3 h2, decide_eq_true (Int.mul_neg_of_pos_of_neg h1 h2)]; rfl
      · rw [x4 h1, y4 h2, decide_eq_false (by have := Int.mul_pos h1 h2; omega)]; rfl
    rw [es]
theorem Vl.neg {k : FloatKind} {x : Nat} {a : Int} (h : Vl k x a) : Vl k (Op.negFloat k x) (-a) := by
  refine ⟨FinK_neg h.1, ?_⟩
  have h2 := h.2
  unfold negV at h2 ⊢
  rw [rungW_neg, negW_neg]
  have e : ∀ (s : Bool) (m : Nat), sv (!s) m = - sv s m := by intro s m; cases s <;> simp [sv]
  rw [e, Int.neg_mul, h2, Int.neg_mul]
/-- A value in another format. -/
theorem Vl.conv {k k' : FloatKind} {x : Nat} {a : Int} (h : Vl k x a) (hs : a.natAbs < smK k') : Vl k' (k'.encode (k.decode x)) a := by
  refine Vl.of ?_ hs
  rw [decode_fin h.1, KV_encode]
  exact Int.le_antisymm (srg_mono _ h.le) (srg_mono _ h.ge)
theorem Vl.widen {x : Nat} {a : Int} (h : Vl .f32 x a) (hs : a.natAbs < smK .f64) : Vl .f64 (widen x) a := by rw [widen_eq h.1]; exact h.conv hs
theorem Vl.narrow {x : Nat} {a : Int} (h : Vl .f64 x a) (hs : a.natAbs < smK .f32) : Vl .f32 (narrow x) a := by rw [narrow_eq h.1]; exact h.conv hs
theorem Vl.fits {x : Nat} {a : Int} (h : Vl .f64 x a) (hs : a.natAbs < smK .f32) : fitsN x := by
  intro s m e hd
  have hf := (h.conv (k' := .f32) hs).1
  rw [hd] at hf
  exact fin_not_inf hf
theorem Vl.int {k : FloatKind} {a : Int} (hs : a.natAbs < smK k) : Vl k (k.nearest a) a := by
  refine Vl.of ?_ hs
  unfold FloatKind.nearest
  rw [KV_encode, sv_int]
theorem Vl.eq {k : FloatKind} {x y : Nat} {a b : Int} (hx : Vl k x a) (hy : Vl k y b) (ha : a.natAbs < smK k) (hb : b.natAbs < smK k) : feq k x y = decide (a = b) := by
  rw [feq_KV hx.1 hy.1]
  by_cases h : a = b
  · subst h
    rw [hx.key ha, hy.key hb, decide_eq_true rfl, decide_eq_true rfl]
  · rw [decide_eq_false h]
    apply decide_eq_false
    intro e
    have r : rungW k.format x = rungW k.format y := by have a1 := KV_abs k x; have a2 := KV_abs k y; rw [e] at a1; omega
    obtain ⟨x1, x2, x3, x4⟩ := hx.parts
    obtain ⟨y1, y2, y3, y4⟩ := hy.parts
    rw [r] at x1 x2
    have l1 := mle_trans x2 y1
    have l2 := mle_trans y2 x1
    unfold MLe at l1 l2
    simp at l1 l2
    have kx := KV_sign (k := k) (x := x)
    have ky := KV_sign (k := k) (x := y)
    have hz : rungW k.format y = 0 → a = 0 := by
      intro h0
      have hm : magM k.format (rungW k.format y) = 0 := by rw [h0]; unfold magM; rw [if_pos (binade_pos _)]
      unfold MLe at x2
      rw [hm, Nat.zero_mul] at x2
      have := Nat.two_pow_pos (0 - min 0 (magE k.format (rungW k.format y))).toNat
      rcases Nat.eq_zero_or_pos a.natAbs with h | h
      · omega
      · have := Nat.mul_pos h this; omega
    rcases Int.lt_trichotomy a 0 with h1 | h1 | h1
    · have g1 := kx.2 (x3 h1)
      by_cases h2 : 0 < b
      · have g2 := ky.1 (y4 h2)
        have := hz (by omega)
        omega
      · omega
    · omega
    · have g1 := kx.1 (x4 h1)
      by_cases h2 : b < 0
      · have g2 := ky.2 (y3 h2)
        have := hz (by omega)
        omega
      · omega
end Go.Proofs.YtijafnejdibdlaaGreatDoor
