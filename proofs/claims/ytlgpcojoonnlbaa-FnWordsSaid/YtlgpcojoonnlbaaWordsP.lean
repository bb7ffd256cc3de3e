/- Plain laws of words: changes of bits, kinds of hands, cells of pairs, periods, lattices. -/
import Derived.Test.YtlgpcojoonnlbaaSmall
namespace Go.Proofs.Ytlgpcojoonnlbaa
open Go.RowKit
/-- How many runs a list of bits has. -/
def chgN : List Bool → Nat
  | [] => 0
  | b :: t => (if t.head? = some b then 0 else 1) + chgN t
theorem chgN_at {xs : List Bool} {k : Nat} {b : Bool} (h : xs[k]? = some b) : chgN (xs.drop k) = (if xs[k + 1]? = some b then 0 else 1) + chgN (xs.drop (k + 1)) := by
  have hk : k < xs.length := by
    rcases Nat.lt_or_ge k xs.length with h' | h'
    · exact h'
    · rw [List.getElem?_eq_none h'] at h; cases h
  have e : xs[k] = b := by rw [List.getElem?_eq_getElem hk] at h; exact Option.some.inj h
  rw [List.drop_eq_getElem_cons hk, chgN, List.head?_drop, e]
theorem chgN_end {xs : List Bool} {k : Nat} (h : xs.length ≤ k) : chgN (xs.drop k) = 0 := by rw [List.drop_eq_nil_of_le h]; rfl
/-- A cell of a pair. -/
theorem cell_in {w d : Int} (hw : 0 ≤ w ∧ w ≤ 4294967295) (hd : 1 ≤ d) : 0 ≤ w * d / 4294967296 ∧ w * d / 4294967296 ≤ d - 1 := by
  obtain ⟨h0, h1⟩ := hw
  have hm : 0 ≤ w * d := Int.mul_nonneg h0 (by omega)
  have hle : w * d ≤ 4294967295 * d := Int.mul_le_mul_of_nonneg_right h1 (by omega)
  omega
theorem cells_in {a b d : Int} (ha : 0 ≤ a ∧ a ≤ d - 1) (hb : 0 ≤ b ∧ b ≤ d - 1) : 0 ≤ a * d + b ∧ a * d + b ≤ d * d - 1 := by
  obtain ⟨a0, a1⟩ := ha
  obtain ⟨b0, b1⟩ := hb
  have h0 : 0 ≤ a * d := Int.mul_nonneg a0 (by omega)
  have h1 : a * d ≤ (d - 1) * d := Int.mul_le_mul_of_nonneg_right a1 (by omega)
  rw [Int.sub_mul, Int.one_mul] at h1
  omega
/-- How many of a hand lie below a digit. -/
def belN (xs : List Int) (d : Int) : Nat := xs.countP fun x => decide (0 ≤ x ∧ x < d)
theorem belN_succ (xs : List Int) {d : Int} (hd : 0 ≤ d) : belN xs (d + 1) = belN xs d + xs.countP (fun x => decide (x = d)) := by
  induction xs with
  | nil => rfl
  | cons x t ih =>
    unfold belN at ih ⊢
    rw [List.countP_cons, List.countP_cons, List.countP_cons, ih]
    simp only [decide_eq_true_eq]
    by_cases h3 : x = d
    · rw [if_pos (show 0 ≤ x ∧ x < d + 1 by omega), if_neg (show ¬ (0 ≤ x ∧ x < d) by omega), if_pos h3]; omega
    · by_cases h2 : 0 ≤ x ∧ x < d
      · rw [if_pos (show 0 ≤ x ∧ x < d + 1 by omega), if_pos h2, if_neg h3]; omega
      · rw [if_neg (show ¬ (0 ≤ x ∧ x < d + 1) by omega), if_neg h2, if_neg h3]; omega
theorem belN_le (xs : List Int) (d : Int) : belN xs d ≤ xs.length := List.countP_le_length
/-- What pairs and the greatest of a hand keep. -/
def handK (t pairs most : Int) : Prop := 0 ≤ pairs ∧ 0 ≤ most ∧ most ≤ t ∧ 2 * pairs ≤ t ∧ (3 ≤ most → 2 * pairs + most ≤ t)
theorem handK_step {t pairs most m : Int} (h : handK t pairs most) (hm : 0 ≤ m) : handK (t + m) (if m = 2 then pairs + 1 else pairs) (if most < m then m else most) := by
  obtain ⟨h1, h2, h3, h4, h5⟩ := h
  unfold handK
  by_cases e : m = 2 <;> by_cases g : most < m <;> simp only [e, g, if_true, if_false] <;> first | omega | (subst e; simp only [g, if_true, if_false]; omega)
theorem handK_in {t pairs most : Int} (h : handK t pairs most) (ht : t ≤ 5) : (most = 3 → 0 ≤ 3 + pairs ∧ 3 + pairs ≤ 6) ∧ (3 < most → 0 ≤ most + 1 ∧ most + 1 ≤ 6) ∧ 0 ≤ pairs ∧ pairs ≤ 6 := by
  obtain ⟨h1, h2, h3, h4, h5⟩ := h
  omega
/-- Powers below eleven. -/
def perX (a x : Nat) : Nat → Nat
  | 0 => x
  | n + 1 => (a * perX a x n) % 11
theorem per_law : ∀ a : Nat, a < 11 → ∀ x : Nat, x < 11 → 1 ≤ a → 1 ≤ x → ∃ n : Nat, 1 ≤ n ∧ n ≤ 10 ∧ 10 % n = 0 ∧ perX a x n = x ∧ ∀ i j : Nat, i < n → j < n → perX a x i = perX a x j → i = j := by
  have h : ∀ a : Fin 11, ∀ x : Fin 11, 1 ≤ a.val → 1 ≤ x.val → ∃ n : Fin 11, 1 ≤ n.val ∧ 10 % n.val = 0 ∧ perX a.val x.val n.val = x.val ∧ ∀ i : Fin 11, i.val < n.val → ∀ j : Fin 11, j.val < n.val → perX a.val x.val i.val = perX a.val x.val j.val → i.val = j.val := by decide +kernel
  intro a ha x hx h1 h2
  obtain ⟨n, g1, g2, g3, g4⟩ := h ⟨a, ha⟩ ⟨x, hx⟩ h1 h2
  exact ⟨n.val, g1, by omega, g2, g3, fun i j hi hj => g4 ⟨i, by omega⟩ hi ⟨j, by omega⟩ hj⟩
/-- The least norm so far. -/
def latU (m a v : Int) : Int := if a * v % m ≤ m - a * v % m then a * v % m else m - a * v % m
def latN (m a v : Int) : Int := latU m a v * latU m a v + v * v
/-- What the least norm keeps behind the first v rows: not below any row's, one of them or the start. -/
def latK (m a v least best : Int) : Prop := least ≤ m * m ∧ (∀ u : Int, 1 ≤ u → u < v → least ≤ latN m a u) ∧ ((least = m * m ∧ best = 0) ∨ (1 ≤ best ∧ least = latN m a best))
theorem latK_zero (m a : Int) : latK m a 1 (m * m) 0 := ⟨Int.le_refl _, fun u h1 h2 => by omega, .inl ⟨rfl, rfl⟩⟩
theorem latK_step {m a v least best : Int} (h : latK m a v least best) (hv : 1 ≤ v) : latK m a (v + 1) (if latN m a v < least then latN m a v else least) (if latN m a v < least then v else best) := by
  obtain ⟨h1, h2, h3⟩ := h
  by_cases c : latN m a v < least
  · rw [if_pos c, if_pos c]
    refine ⟨by omega, fun u g1 g2 => ?_, .inr ⟨hv, rfl⟩⟩
    by_cases e : u = v
    · subst e; exact Int.le_refl _
    · have := h2 u g1 (by omega); omega
  · rw [if_neg c, if_neg c]
    refine ⟨h1, fun u g1 g2 => ?_, h3⟩
    by_cases e : u = v
    · subst e; omega
    · exact h2 u g1 (by omega)
theorem sq_nonneg' (x : Int) : 0 ≤ x * x := by
  rcases Int.le_total 0 x with h | h
  · exact Int.mul_nonneg h h
  · exact Int.mul_nonneg_of_nonpos_of_nonpos h h
theorem sq_mono {x y : Int} (hx : 0 ≤ x) (h : x ≤ y) : x * x ≤ y * y := Int.mul_le_mul h h hx (by omega)
theorem sq_lt {x y : Int} (hy : 0 ≤ y) (h : x * x < y * y) : x < y := by
  rcases Int.lt_or_le x y with g | g
  · exact g
  · have := sq_mono hy g; omega
/-- The least norm at the end: below each row's, at least 1. -/
theorem latK_end {m a v least best : Int} (h : latK m a v least best) (hm : 1 ≤ m) (hv : 1 ≤ v) (he : least < v * v) :
    1 ≤ least ∧ least ≤ m * m ∧ 0 ≤ best ∧ best * best ≤ least ∧ (∀ u : Int, 1 ≤ u → least ≤ latN m a u) ∧ ((least = m * m ∧ best = 0) ∨ (1 ≤ best ∧ least = latN m a best)) := by
  obtain ⟨h1, h2, h3⟩ := h
  have hb : 0 ≤ best ∧ best * best ≤ least ∧ 1 ≤ least := by
    rcases h3 with ⟨e1, e2⟩ | ⟨e1, e2⟩
    · have := sq_mono (x := 1) (by omega) hm
      subst e2
      refine ⟨by omega, ?_, by omega⟩
      omega
    · have g1 := sq_nonneg' (latU m a best)
      have g2 := sq_mono (x := 1) (by omega) e1
      have e3 : least = latU m a best * latU m a best + best * best := e2
      omega
  refine ⟨hb.2.2, h1, hb.1, hb.2.1, fun u hu => ?_, h3⟩
  by_cases c : u < v
  · exact h2 u hu c
  · have g1 := sq_nonneg' (latU m a u)
    have g2 := sq_mono (x := v) (by omega) (show v ≤ u by omega)
    have e3 : latN m a u = latU m a u * latU m a u + u * u := rfl
    omega
end Go.Proofs.Ytlgpcojoonnlbaa
