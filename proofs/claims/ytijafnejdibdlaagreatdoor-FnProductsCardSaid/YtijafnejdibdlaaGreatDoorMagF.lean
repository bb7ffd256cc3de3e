/- Ranges of floats: a word as a whole number that grows with what it stands for, and what the operations make of ranges. No program in sight. -/
import Derived.Test.YtijafnejdibdlaaGreatDoorFin
import Derived.Test.YtijafnejdibdlaaGreatDoorMag
namespace Go.Proofs.YtijafnejdibdlaaGreatDoor
open Go.RowKit Mag

def KV (k : FloatKind) (x : Nat) : Int := sk k.format x
def FinK (k : FloatKind) (x : Nat) : Prop := Fin_ k.format x
def infK (k : FloatKind) : Int := k.format.infRung
/-- The word of a key. -/
def wk (k : FloatKind) (z : Int) : Nat := k.format.word (decide (z < 0)) z.natAbs
theorem KV_abs (k : FloatKind) (x : Nat) : (KV k x).natAbs = rungW k.format x := by unfold KV sk sv; split <;> omega
theorem KV_wk {k : FloatKind} {z : Int} (h1 : -infK k ≤ z) (h2 : z ≤ infK k) : KV k (wk k z) = z := by
  unfold KV wk
  unfold infK at h1 h2
  rw [sk_word _ _ (by omega)]
  unfold sv
  by_cases h : z < 0
  · simp only [h, decide_true, if_true]; omega
  · simp only [h, decide_false, Bool.false_eq_true, if_false]; omega
theorem FinK_iff {k : FloatKind} {x : Nat} : FinK k x ↔ -infK k < KV k x ∧ KV k x < infK k := by
  have := KV_abs k x
  unfold FinK Fin_ infK
  omega
theorem FinK_wk {k : FloatKind} {z : Int} (h1 : -infK k < z) (h2 : z < infK k) : FinK k (wk k z) := by
  rw [FinK_iff, KV_wk (by omega) (by omega)]; exact ⟨h1, h2⟩
theorem FinK_not_nan {k : FloatKind} {x : Nat} (h : FinK k x) : isNaNB k x = false := by
  unfold isNaNB FloatKind.decode
  rw [read_fin h]; rfl
theorem FinK.cn {k : FloatKind} {x : Nat} (h : FinK k x) : cn k x = x := cn_of_not (FinK_not_nan h)
theorem order_KV {k : FloatKind} {x y : Nat} (hx : FinK k x) (hy : FinK k y) : k.format.order x y = some (compare (KV k x) (KV k y)) := order_sk hx hy
theorem cmp_lt {a b : Int} : (some (compare a b) == some Ordering.lt) = decide (a < b) := by
  show (some (compareOfLessAndEq a b) == _) = _
  unfold compareOfLessAndEq
  by_cases h : a < b
  · simp [h]
  · by_cases h2 : a = b
    · simp [h2]
    · simp [h, h2]
theorem cmp_eq {a b : Int} : (some (compare a b) == some Ordering.eq) = decide (a = b) := by
  show (some (compareOfLessAndEq a b) == _) = _
  unfold compareOfLessAndEq
  by_cases h : a < b
  · have : ¬ a = b := by omega
    simp [h, this]
  · by_cases h2 : a = b
    · simp [h2]
    · simp [h, h2]
theorem cmp_gt {a b : Int} : (some (compare a b) == some Ordering.gt) = decide (b < a) := by
  show (some (compareOfLessAndEq a b) == _) = _
  unfold compareOfLessAndEq
  by_cases h : a < b
  · have : ¬ b < a := by omega
    simp [h, this]
  · by_cases h2 : a = b
    · simp [h2]
    · have : b < a := by omega
      simp [h, h2, this]
theorem flt_KV {k : FloatKind} {x y : Nat} (hx : FinK k x) (hy : FinK k y) : flt k x y = decide (KV k x < KV k y) := by unfold flt; rw [order_KV hx hy, cmp_lt]
theorem fgt_KV {k : FloatKind} {x y : Nat} (hx : FinK k x) (hy : FinK k y) : fgt k x y = decide (KV k y < KV k x) := by unfold fgt; rw [order_KV hx hy, cmp_gt]
theorem feq_KV {k : FloatKind} {x y : Nat} (hx : FinK k x) (hy : FinK k y) : feq k x y = decide (KV k x = KV k y) := by unfold feq; rw [order_KV hx hy, cmp_eq]
theorem fle_KV {k : FloatKind} {x y : Nat} (hx : FinK k x) (hy : FinK k y) : fle k x y = decide (KV k x ≤ KV k y) := by
  unfold fle; rw [order_KV hx hy, cmp_lt, cmp_eq]
  by_cases h : KV k x < KV k y
  · have : KV k x ≤ KV k y := by omega
    simp [h, this]
  · by_cases h2 : KV k x = KV k y
    · simp [h2]
    · have : ¬ KV k x ≤ KV k y := by omega
      simp [h, h2, this]
theorem fge_KV {k : FloatKind} {x y : Nat} (hx : FinK k x) (hy : FinK k y) : fge k x y = decide (KV k y ≤ KV k x) := by
  unfold fge; rw [order_KV hx hy, cmp_gt, cmp_eq]
  by_cases h : KV k y < KV k x
  · have : KV k y ≤ KV k x := by omega
    simp [h, this]
  · by_cases h2 : KV k x = KV k y
    · simp [h2]
    · have : ¬ KV k y ≤ KV k x := by omega
      simp [h, h2, this]

/-- x is finite and lies between two keys. -/
def Rn (k : FloatKind) (lo hi : Int) (x : Nat) : Prop := FinK k x ∧ lo ≤ KV k x ∧ KV k x ≤ hi
theorem Rn.fin {k : FloatKind} {lo hi : Int} {x : Nat} (h : Rn k lo hi x) : FinK k x := h.1
theorem Rn.weak {k : FloatKind} {lo hi lo' hi' : Int} {x : Nat} (h : Rn k lo hi x) (h1 : lo' ≤ lo) (h2 : hi ≤ hi') : Rn k lo' hi' x := ⟨h.1, by have := h.2.1; omega, by have := h.2.2; omega⟩
theorem Rn.mk_ {k : FloatKind} {lo hi : Int} {x : Nat} (h0 : -infK k < lo) (h1 : lo ≤ KV k x) (h2 : KV k x ≤ hi) (h3 : hi < infK k) : Rn k lo hi x := ⟨FinK_iff.2 ⟨by omega, by omega⟩, h1, h2⟩
theorem Rn.cn {k : FloatKind} {lo hi : Int} {x : Nat} (h : Rn k lo hi x) : cn k x = x := h.1.cn
def rnB (k : FloatKind) (lo hi : Int) (x : Nat) : Bool := decide (-infK k < lo) && decide (lo ≤ KV k x) && decide (KV k x ≤ hi) && decide (hi < infK k)
/-- A word that is given. -/
theorem Rn.const {k : FloatKind} {lo hi : Int} {x : Nat} (h : rnB k lo hi x = true) : Rn k lo hi x := by
  simp only [rnB, Bool.and_eq_true, decide_eq_true_eq] at h
  exact Rn.mk_ h.1.1.1 h.1.1.2 h.1.2 h.2
def okK (k : FloatKind) (z : Int) : Bool := decide (-infK k < z) && decide (z < infK k)
theorem okK_fin {k : FloatKind} {z : Int} (h : okK k z = true) : FinK k (wk k z) ∧ KV k (wk k z) = z := by
  simp only [okK, Bool.and_eq_true, decide_eq_true_eq] at h
  exact ⟨FinK_wk h.1 h.2, KV_wk (by omega) (by omega)⟩
def opK (op : BinOp) (k : FloatKind) (a b : Int) : Int := KV k (fop op k (wk k a) (wk k b))
def chkAdd (k : FloatKind) (a b c d lo hi : Int) : Bool := okK k a && okK k b && okK k c && okK k d && okK k lo && okK k hi && decide (lo ≤ opK .add k a c) && decide (opK .add k b d ≤ hi)
def chkSub (k : FloatKind) (a b c d lo hi : Int) : Bool := okK k a && okK k b && okK k c && okK k d && okK k lo && okK k hi && decide (lo ≤ opK .sub k a d) && decide (opK .sub k b c ≤ hi)
theorem ok_lt {k : FloatKind} {z : Int} (h : okK k z = true) : -infK k < z ∧ z < infK k := by simpa [okK] using h
theorem add_key {k : FloatKind} {x y x' y' : Nat} (hx : FinK k x) (hy : FinK k y) (hx' : FinK k x') (hy' : FinK k y') (h1 : KV k x ≤ KV k x') (h2 : KV k y ≤ KV k y') : KV k (fop .add k x y) ≤ KV k (fop .add k x' y') := by
  obtain ⟨r, e, _⟩ := add_sk hx hy
  obtain ⟨r', e', _⟩ := add_sk hx' hy'
  have := add_mono hx hy hx' hy' h1 h2 e e'
  unfold fop floatBits
  dsimp only
  rw [e, e']
  exact this
theorem sub_key {k : FloatKind} {x y x' y' : Nat} (hx : FinK k x) (hy : FinK k y) (hx' : FinK k x') (hy' : FinK k y') (h1 : KV k x ≤ KV k x') (h2 : KV k y' ≤ KV k y) : KV k (fop .sub k x y) ≤ KV k (fop .sub k x' y') := by
  obtain ⟨r, e, _⟩ := sub_sk hx hy
  obtain ⟨r', e', _⟩ := sub_sk hx' hy'
  have := sub_mono hx hy hx' hy' h1 h2 e e'
  unfold fop floatBits
  dsimp only
  rw [e, e']
  exact this
theorem Rn.add {k : FloatKind} {a b c d lo hi : Int} {x y : Nat} (hx : Rn k a b x) (hy : Rn k c d y) (h : chkAdd k a b c d lo hi = true) : Rn k lo hi (fop .add k x y) := by
  simp only [chkAdd, Bool.and_eq_true, decide_eq_true_eq] at h
  obtain ⟨⟨⟨⟨⟨⟨⟨h1, h2⟩, h3⟩, h4⟩, h5⟩, h6⟩, h7⟩, h8⟩ := h
  have g1 := okK_fin h1; have g2 := okK_fin h2; have g3 := okK_fin h3; have g4 := okK_fin h4
  have l := add_key g1.1 g3.1 hx.1 hy.1 (by rw [g1.2]; exact hx.2.1) (by rw [g3.2]; exact hy.2.1)
  have u := add_key hx.1 hy.1 g2.1 g4.1 (by rw [g2.2]; exact hx.2.2) (by rw [g4.2]; exact hy.2.2)
  exact Rn.mk_ (ok_lt h5).1 (Int.le_trans h7 l) (Int.le_trans u h8) (ok_lt h6).2
theorem Rn.sub {k : FloatKind} {a b c d lo hi : Int} {x y : Nat} (hx : Rn k a b x) (hy : Rn k c d y) (h : chkSub k a b c d lo hi = true) : Rn k lo hi (fop .sub k x y) := by
  simp only [chkSub, Bool.and_eq_true, decide_eq_true_eq] at h
  obtain ⟨⟨⟨⟨⟨⟨⟨h1, h2⟩, h3⟩, h4⟩, h5⟩, h6⟩, h7⟩, h8⟩ := h
  have g1 := okK_fin h1; have g2 := okK_fin h2; have g3 := okK_fin h3; have g4 := okK_fin h4
  have l := sub_key g1.1 g4.1 hx.1 hy.1 (by rw [g1.2]; exact hx.2.1) (by rw [g4.2]; exact hy.2.2)
  have u := sub_key hx.1 hy.1 g2.1 g3.1 (by rw [g2.2]; exact hx.2.2) (by rw [g3.2]; exact hy.2.1)
  exact Rn.mk_ (ok_lt h5).1 (Int.le_trans h7 l) (Int.le_trans u h8) (ok_lt h6).2
/-- Products: by magnitudes 'p' and 'q' (rungs). -/
def chkMul (k : FloatKind) (p q r : Nat) : Bool := okK k p && okK k q && okK k r && decide (opK .mul k p q ≤ r)
theorem rungW_wk {k : FloatKind} {p : Nat} (h : okK k p = true) : rungW k.format (wk k p) = p := by
  have := KV_abs k (wk k p)
  rw [(okK_fin h).2] at this
  omega
theorem mul_fop {k : FloatKind} {x y p q r : Nat} (hx : rungW k.format x ≤ p) (hy : rungW k.format y ≤ q) (h : chkMul k p q r = true) :
    rungW k.format (fop .mul k x y) ≤ r ∧ negW k.format (fop .mul k x y) = (negW k.format x ^^ negW k.format y) := by
  simp only [chkMul, Bool.and_eq_true, decide_eq_true_eq] at h
  obtain ⟨⟨⟨h1, h2⟩, h3⟩, h4⟩ := h
  have g1 := okK_fin h1; have g2 := okK_fin h2
  have e1 := rungW_wk h1; have e2 := rungW_wk h2
  have hfx : Fin_ k.format x := by have := g1.1; unfold FinK Fin_ at this; unfold Fin_; omega
  have hfy : Fin_ k.format y := by have := g2.1; unfold FinK Fin_ at this; unfold Fin_; omega
  have m1 := mul_fin hfx hfy
  have m2 := mul_fin g1.1 g2.1
  obtain ⟨l, n⟩ := mul_mono g1.1 g2.1 (by rw [e1]; exact hx) (by rw [e2]; exact hy) m1 m2
  have u1 : fop .mul k x y = k.format.word (negW k.format x ^^ negW k.format y) (rg k.format (magM k.format (rungW k.format x) * magM k.format (rungW k.format y)) (magE k.format (rungW k.format x) + magE k.format (rungW k.format y))) := by
    unfold fop floatBits; dsimp only; rw [m1]; rfl
  have u2 : fop .mul k (wk k p) (wk k q) = k.format.word (negW k.format (wk k p) ^^ negW k.format (wk k q)) (rg k.format (magM k.format (rungW k.format (wk k p)) * magM k.format (rungW k.format (wk k q))) (magE k.format (rungW k.format (wk k p)) + magE k.format (rungW k.format (wk k q)))) := by
    unfold fop floatBits; dsimp only; rw [m2]; rfl
  rw [← u1] at l n
  rw [← u2] at l
  refine ⟨?_, n⟩
  have hk := KV_abs k (fop .mul k (wk k p) (wk k q))
  have hn : negW k.format (fop .mul k (wk k p) (wk k q)) = false := by
    rw [u2, negW_word _ _ (rg_le ..)]
    have w1 : ∀ {z : Nat}, okK k z = true → negW k.format (wk k z) = false := by
      intro z hz
      unfold wk
      have hz' := ok_lt hz
      unfold infK at hz'
      rw [negW_word _ _ (by omega)]
      simp
    rw [w1 h1, w1 h2]; rfl
  have hpos : 0 ≤ KV k (fop .mul k (wk k p) (wk k q)) := by unfold KV sk sv; rw [hn]; simp
  have : KV k (fop .mul k (wk k p) (wk k q)) ≤ r := h4
  omega
theorem KV_sign {k : FloatKind} {x : Nat} : (negW k.format x = false → KV k x = rungW k.format x) ∧ (negW k.format x = true → KV k x = -(rungW k.format x : Int)) := by
  unfold KV sk sv
  constructor <;> intro h <;> rw [h] <;> rfl
theorem Rn.mul {k : FloatKind} {p q r : Nat} {x y : Nat} (hx : Rn k (-p) p x) (hy : Rn k (-q) q y) (h : chkMul k p q r = true) : Rn k (-r) r (fop .mul k x y) := by
  have a1 := KV_abs k x; have a2 := KV_abs k y
  obtain ⟨h1, _⟩ := mul_fop (x := x) (y := y) (p := p) (q := q) (by have := hx.2; omega) (by have := hy.2; omega) h
  have a3 := KV_abs k (fop .mul k x y)
  simp only [chkMul, Bool.and_eq_true] at h
  have := ok_lt h.1.2
  exact Rn.mk_ (by omega) (by omega) (by omega) (by omega)
theorem Rn.mulP {k : FloatKind} {p q r : Nat} {x y : Nat} (hx : Rn k 0 p x) (hy : Rn k 0 q y) (h : chkMul k p q r = true) : Rn k 0 r (fop .mul k x y) := by
  have a1 := KV_abs k x; have a2 := KV_abs k y
  obtain ⟨h1, h2⟩ := mul_fop (x := x) (y := y) (p := p) (q := q) (by have := hx.2; omega) (by have := hy.2; omega) h
  have a3 := KV_abs k (fop .mul k x y)
  have hz : 0 ≤ KV k (fop .mul k x y) := by
    by_cases z1 : rungW k.format x = 0
    · have hc : chkMul k 0 q 0 = true := by
        simp only [chkMul, Bool.and_eq_true, decide_eq_true_eq] at h ⊢
        have o0 : okK k (0 : Nat) = true := by cases k <;> rfl
        refine ⟨⟨⟨o0, h.1.1.2⟩, o0⟩, ?_⟩
        have g1 := okK_fin o0; have g2 := okK_fin h.1.1.2
        unfold opK
        have m2 := mul_fin g1.1 g2.1
        unfold fop floatBits; dsimp only; rw [m2]
        show sk _ _ ≤ _
        rw [Option.getD_some, sk_word _ _ (rg_le ..), rungW_wk o0]
        have : magM k.format 0 = 0 := by unfold magM; rw [if_pos (binade_pos _)]
        rw [this, Nat.zero_mul]
        unfold rg sv
        rw [if_pos rfl]
        split <;> simp
      have := (mul_fop (x := x) (y := y) (p := 0) (q := q) (by omega) (by have := hy.2; omega) hc).1
      omega
    by_cases z2 : rungW k.format y = 0
    · have hc : chkMul k p 0 0 = true := by
        simp only [chkMul, Bool.and_eq_true, decide_eq_true_eq] at h ⊢
        have o0 : okK k (0 : Nat) = true := by cases k <;> rfl
        refine ⟨⟨⟨h.1.1.1, o0⟩, o0⟩, ?_⟩
        have g1 := okK_fin h.1.1.1; have g2 := okK_fin o0
        unfold opK
        have m2 := mul_fin g1.1 g2.1
        unfold fop floatBits; dsimp only; rw [m2]
        show sk _ _ ≤ _
        rw [Option.getD_some, sk_word _ _ (rg_le ..), rungW_wk o0]
        have : magM k.format 0 = 0 := by unfold magM; rw [if_pos (binade_pos _)]
        rw [this, Nat.mul_zero]
        unfold rg sv
        rw [if_pos rfl]
        split <;> simp
      have := (mul_fop (x := x) (y := y) (p := p) (q := 0) (by have := hx.2; omega) (by omega) hc).1
      omega
    · have n1 : negW k.format x = false := by
        rcases hb : negW k.format x with _ | _
        · rfl
        · have := KV_sign.2 hb; have := hx.2.1; omega
      have n2 : negW k.format y = false := by
        rcases hb : negW k.format y with _ | _
        · rfl
        · have := KV_sign.2 hb; have := hy.2.1; omega
      rw [n1, n2] at h2
      have := KV_sign.1 h2
      omega
  simp only [chkMul, Bool.and_eq_true] at h
  have := ok_lt h.1.2
  have h0 : -infK k < 0 := by cases k <;> decide
  exact Rn.mk_ h0 hz (by omega) (by omega)
/-- Quotients by what is at least 'c'. -/
def chkDiv (k : FloatKind) (p c r : Nat) : Bool := okK k p && okK k c && okK k r && decide (magM k.format c ≠ 0) && decide (MLe (magM k.format p) (magE k.format p) (magM k.format c * magM k.format r) (magE k.format c + magE k.format r))
theorem Rn.div {k : FloatKind} {p c r : Nat} {d : Int} {x y : Nat} (hx : Rn k (-p) p x) (hy : Rn k c d y) (h : chkDiv k p c r = true) : Rn k (-r) r (fop .quo k x y) := by
  simp only [chkDiv, Bool.and_eq_true, decide_eq_true_eq] at h
  obtain ⟨⟨⟨⟨h1, h2⟩, h3⟩, h4⟩, h5⟩ := h
  have a1 := KV_abs k x; have a2 := KV_abs k y
  have o1 := ok_lt h1; have o2 := ok_lt h2; have o3 := ok_lt h3
  unfold infK at o1 o2 o3
  have l1 : MLe (magM k.format (rungW k.format x)) (magE k.format (rungW k.format x)) (magM k.format p) (magE k.format p) := mag_mono (by have := hx.2; omega) (by omega)
  have l2 : MLe (magM k.format c) (magE k.format c) (magM k.format (rungW k.format y)) (magE k.format (rungW k.format y)) := mag_mono (by have := hy.2; omega) hy.1
  have h0 : magM k.format (rungW k.format y) ≠ 0 := by
    intro e
    rw [e] at l2
    unfold MLe at l2
    rw [Nat.zero_mul] at l2
    have := Nat.mul_pos (Nat.pos_of_ne_zero h4) (Nat.two_pow_pos (magE k.format c - min (magE k.format c) (magE k.format (rungW k.format y))).toNat)
    omega
  have l3 := mle_trans l1 (mle_trans h5 (mle_mul l2 (mle_refl (magM k.format r) (magE k.format r))))
  obtain ⟨z, hz, hzr, _⟩ := div_le hx.1 hy.1 h0 (by omega) l3
  have e : fop .quo k x y = z := by unfold fop floatBits; dsimp only; rw [hz]; rfl
  rw [e]
  have a3 := KV_abs k z
  unfold Rn
  refine ⟨?_, by omega, by omega⟩
  unfold FinK Fin_
  omega

/-- 'float32(x)' of a float64 that does not leave float32's range. -/
def narrow (x : Nat) : Nat :=
  match FloatKind.f64.decode x with
  | .nan .. => qnan .f32
  | d => FloatKind.f32.encode d
/-- The narrowing is told by the language: a NaN, an infinity, or a number within float32's range. -/
def fitsN (x : Nat) : Prop := ∀ s m e, FloatKind.f64.decode x = .number s m e → (FloatKind.f32.decode (FloatKind.f32.encode (.number s m e))).isInfinity = false
theorem cn_narrow (x : Nat) : cn .f32 (narrow x) = narrow x := by
  unfold narrow
  cases hx : FloatKind.f64.decode x with
  | number s m e => exact cn_of_not (write_not_nan _ _ rfl)
  | infinity s => exact cn_of_not (write_not_nan _ _ rfl)
  | nan s f => exact cn_of_nan (qnan_isNaN .f32)
theorem narrow_nan {x : Nat} (h : isNaNB .f64 x = true) : narrow x = qnan .f32 := by
  have h' : (FloatKind.f64.decode x).isNaN = true := h
  unfold narrow
  cases hd : FloatKind.f64.decode x with
  | number s m e => rw [hd] at h'; cases h'
  | infinity s => rw [hd] at h'; cases h'
  | nan s f => rfl
theorem narrow_cn (x : Nat) : narrow (cn .f64 x) = narrow x := by
  by_cases hx : isNaNB .f64 x = true
  · rw [cn_of_nan hx, narrow_nan hx, narrow_nan (qnan_isNaN .f64)]
  · rw [cn_of_not (by simpa using hx)]
theorem fitsN_cn {x y : Nat} (h : cn .f64 x = y) (hf : fitsN y) : fitsN x := by
  by_cases hx : isNaNB .f64 x = true
  · intro s m e hd
    have h' : (FloatKind.f64.decode x).isNaN = true := hx
    rw [hd] at h'; cases h'
  · rw [cn_of_not (by simpa using hx)] at h
    rw [h]; exact hf
theorem narrow_l {x y : Nat} (h : cn .f64 x = y) : narrow x = narrow y := by rw [← h, narrow_cn]
theorem decode_fin {k : FloatKind} {x : Nat} (h : FinK k x) : k.decode x = .number (negW k.format x) (magM k.format (rungW k.format x)) (magE k.format (rungW k.format x)) := read_fin h
theorem KV_encode (k' : FloatKind) (s : Bool) (m : Nat) (e : Int) : KV k' (k'.encode (.number s m e)) = srg k'.format (sv s m) e := by
  unfold KV FloatKind.encode Ieee.Format.write
  dsimp only
  rw [nearest_rg, sk_word _ _ (rg_le ..)]
  unfold srg
  have hn : (sv s m).natAbs = m := by unfold sv; split <;> omega
  rw [hn]
  by_cases h0 : m = 0
  · have : rg k'.format m e = 0 := by unfold rg; rw [if_pos h0]
    rw [this]
    unfold sv
    cases s <;> simp
  · have : decide (sv s m < 0) = s := by unfold sv; cases s <;> simp <;> omega
    rw [this]
def nrK (k k' : FloatKind) (z : Int) : Int := KV k' (k'.encode (k.decode (wk k z)))
theorem conv_mono {k k' : FloatKind} {x y : Nat} (hx : FinK k x) (hy : FinK k y) (h : KV k x ≤ KV k y) : KV k' (k'.encode (k.decode x)) ≤ KV k' (k'.encode (k.decode y)) := by
  rw [decode_fin hx, decode_fin hy, KV_encode, KV_encode]
  exact srg_mono _ (sk_ile h hx hy)
def chkConv (k k' : FloatKind) (a b lo hi : Int) : Bool := okK k a && okK k b && okK k' lo && okK k' hi && decide (lo ≤ nrK k k' a) && decide (nrK k k' b ≤ hi)
theorem Rn.conv {k k' : FloatKind} {a b lo hi : Int} {x : Nat} (hx : Rn k a b x) (h : chkConv k k' a b lo hi = true) : Rn k' lo hi (k'.encode (k.decode x)) := by
  simp only [chkConv, Bool.and_eq_true, decide_eq_true_eq] at h
  obtain ⟨⟨⟨⟨⟨h1, h2⟩, h3⟩, h4⟩, h5⟩, h6⟩ := h
  have g1 := okK_fin h1; have g2 := okK_fin h2
  have l := conv_mono (k' := k') g1.1 hx.1 (by rw [g1.2]; exact hx.2.1)
  have u := conv_mono (k' := k') hx.1 g2.1 (by rw [g2.2]; exact hx.2.2)
  exact Rn.mk_ (ok_lt h3).1 (Int.le_trans h5 l) (Int.le_trans u h6) (ok_lt h4).2
theorem narrow_eq {x : Nat} (hx : FinK .f64 x) : narrow x = FloatKind.f32.encode (FloatKind.f64.decode x) := by unfold narrow; rw [decode_fin hx]
theorem widen_eq {x : Nat} (hx : FinK .f32 x) : widen x = FloatKind.f64.encode (FloatKind.f32.decode x) := by unfold widen; rw [decode_fin hx]
theorem Rn.narrow {a b lo hi : Int} {x : Nat} (hx : Rn .f64 a b x) (h : chkConv .f64 .f32 a b lo hi = true) : Rn .f32 lo hi (narrow x) := by rw [narrow_eq hx.1]; exact hx.conv h
theorem Rn.widen {a b lo hi : Int} {x : Nat} (hx : Rn .f32 a b x) (h : chkConv .f32 .f64 a b lo hi = true) : Rn .f64 lo hi (widen x) := by rw [widen_eq hx.1]; exact hx.conv h
theorem fin_not_inf {k : FloatKind} {x : Nat} (h : FinK k x) : (k.decode x).isInfinity = false := by rw [decode_fin h]; rfl
theorem Rn.fits {a b : Int} {x : Nat} (hx : Rn .f64 a b x) (h : chkConv .f64 .f32 a b (1 - infK .f32) (infK .f32 - 1) = true) : fitsN x := by
  intro s m e hd
  rw [← hd]
  exact fin_not_inf (hx.conv h).1
theorem fits_nan {x : Nat} (h : isNaNB .f64 x = true) : fitsN x := by
  intro s m e hd
  have h' : (FloatKind.f64.decode x).isNaN = true := h
  rw [hd] at h'; cases h'
theorem fits_inf {x : Nat} {s : Bool} (h : FloatKind.f64.decode x = .infinity s) : fitsN x := by
  intro s m e hd
  rw [h] at hd; cases hd

/-- The square root. -/
def sqrtF (x : Nat) : Nat := (FloatKind.f64.format.sqrt x).getD (qnan .f64)
theorem root_not_nan {n : Nat} {a d : Ieee.Datum} (h : a.root n = some d) : d.isNaN = false := by
  cases a with
  | nan s f => cases h
  | infinity s =>
    simp only [Ieee.Datum.root] at h
    split at h
    · cases h
    · injection h with h; subst h; rfl
  | number s m i =>
    simp only [Ieee.Datum.root] at h
    split at h
    · injection h with h; subst h; rfl
    · split at h
      · cases h
      · injection h with h; subst h; rfl
theorem sqrt_not_nan {x r : Nat} (h : FloatKind.f64.format.sqrt x = some r) : isNaNB .f64 r = false := by
  unfold Ieee.Format.sqrt at h
  obtain ⟨d, hd, rfl⟩ := Option.map_eq_some_iff.1 h
  exact write_not_nan _ _ (root_not_nan hd)
theorem sqrt_nan {x : Nat} (h : isNaNB .f64 x = true) : FloatKind.f64.format.sqrt x = none := by
  have h' : (FloatKind.f64.format.read x).isNaN = true := h
  unfold Ieee.Format.sqrt
  cases hd : FloatKind.f64.format.read x <;> rw [hd] at h' <;> simp [Ieee.Datum.isNaN] at h'
  rfl
theorem cn_sqrtF (x : Nat) : cn .f64 (sqrtF x) = sqrtF x := by
  unfold sqrtF
  cases h : FloatKind.f64.format.sqrt x with
  | none => exact cn_of_nan (qnan_isNaN .f64)
  | some r => exact cn_of_not (sqrt_not_nan h)
theorem sqrtF_cn (x : Nat) : sqrtF (cn .f64 x) = sqrtF x := by
  by_cases hx : isNaNB .f64 x = true
  · unfold sqrtF; rw [cn_of_nan hx, sqrt_nan hx, sqrt_nan (qnan_isNaN .f64)]
  · rw [cn_of_not (by simpa using hx)]
theorem sqrtF_l {x y : Nat} (h : cn .f64 x = y) : sqrtF x = sqrtF y := by rw [← h, sqrtF_cn]
def chkSqrt (p r : Nat) : Bool := okK .f64 p && okK .f64 r && decide (MLe (magM Ieee.double p) (magE Ieee.double p) (magM Ieee.double r * magM Ieee.double r) (magE Ieee.double r + magE Ieee.double r))
theorem Rn.sqrt {p r : Nat} {x : Nat} (hx : FinK .f64 x) (hp : KV .f64 x ≤ p) (hn : negW Ieee.double x = false) (h : chkSqrt p r = true) : Rn .f64 0 r (sqrtF x) := by
  simp only [chkSqrt, Bool.and_eq_true, decide_eq_true_eq] at h
  obtain ⟨⟨h1, h2⟩, h5⟩ := h
  have o1 := ok_lt h1; have o2 := ok_lt h2
  have a1 := KV_abs .f64 x
  have hk : KV .f64 x = rungW Ieee.double x := KV_sign.1 hn
  have l1 : MLe (magM Ieee.double (rungW Ieee.double x)) (magE Ieee.double (rungW Ieee.double x)) (magM Ieee.double p) (magE Ieee.double p) := mag_mono (by omega) (by unfold infK at o1; have := o1.2; show p < (FloatKind.f64.format).infRung; omega)
  obtain ⟨q, e, hq, hle⟩ := root_le (f := Ieee.double) (i := magE Ieee.double (rungW Ieee.double x)) (m := magM Ieee.double (rungW Ieee.double x)) (r := r) (by have := o2.2; unfold infK at this; show r < (FloatKind.f64.format).infRung; omega) (mle_trans l1 h5)
  have hs : sqrtF x = Ieee.double.word false (rg Ieee.double q e) := by
    unfold sqrtF Ieee.Format.sqrt
    show ((Ieee.Datum.root _ (Ieee.double.read x)).map _).getD _ = _
    rw [read_fin (f := Ieee.double) hx, hn]
    show ((Ieee.Datum.root (Ieee.double.fractionBits + 2) _).map _).getD _ = _
    rw [hq]
    show Ieee.Format.nearest _ _ _ _ = _
    rw [nearest_rg]; rfl
  rw [hs]
  have hkv : KV .f64 (Ieee.double.word false (rg Ieee.double q e)) = rg Ieee.double q e := by
    show sk Ieee.double _ = _
    rw [sk_word _ _ (rg_le ..)]; rfl
  exact Rn.mk_ (by decide) (by rw [hkv]; omega) (by rw [hkv]; omega) o2.2
end Go.Proofs.YtijafnejdibdlaaGreatDoor
