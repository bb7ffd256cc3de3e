/- AliasOf: plain law: the lists of an alias, step by step, and that its shares lie between 0 and 1. -/
import Derived.Test.YtgemcjcghnpmdaaMagF
import Derived.Test.YtgemcjcghnpmdaaPicks
import Derived.Test.YtgemcjcghnpmdaaPart
namespace Go.Proofs.Ytgemcjcghnpmdaa
open Go.RowKit Mag
theorem nan_rung' (k : FloatKind) (x : Nat) : isNaNB k x = decide (k.format.infRung < rungW k.format x) := by
  have hb : k.format.binade ≤ k.format.infRung := by cases k <;> decide
  unfold isNaNB FloatKind.decode Ieee.Format.read
  dsimp only
  change (if rungW k.format x < k.format.binade then _ else if rungW k.format x < k.format.infRung then _ else if rungW k.format x = k.format.infRung then _ else _ : Ieee.Datum).isNaN = _
  split
  · rw [decide_eq_false (by omega)]; rfl
  · split
    · rw [decide_eq_false (by omega)]; rfl
    · split
      · rw [decide_eq_false (by omega)]; rfl
      · rw [decide_eq_true (by omega)]; rfl
/-- A word whose rung is that of infinity. -/
theorem read_inf' {x : Nat} (he : rungW Ieee.single x = Ieee.single.infRung) : FloatKind.f32.format.read x = .infinity (negW Ieee.single x) := by
  show Ieee.single.read x = _
  unfold Ieee.Format.read
  dsimp only
  change (if rungW Ieee.single x < Ieee.single.binade then _ else if rungW Ieee.single x < Ieee.single.infRung then _ else if rungW Ieee.single x = Ieee.single.infRung then _ else _ : Ieee.Datum) = _
  rw [he, if_neg (by decide), if_neg (by decide), if_pos rfl]
  rfl
theorem FinK_of_fin' {x : Nat} (h : finB x = true) : FinK .f32 x := by
  have hn := finB_not_nan h
  rw [nan_rung'] at hn
  simp only [decide_eq_false_iff_not] at hn
  rcases Nat.lt_or_ge (rungW FloatKind.f32.format x) FloatKind.f32.format.infRung with hl | hg
  · exact hl
  · exfalso
    have he : rungW Ieee.single x = Ieee.single.infRung := by
      show rungW FloatKind.f32.format x = FloatKind.f32.format.infRung
      omega
    have hr := read_inf' he
    have hq : fop .sub .f32 x x = qnan .f32 := by
      unfold fop floatBits
      dsimp only
      unfold Ieee.Format.sub
      rw [hr]
      cases negW Ieee.single x <;> rfl
    unfold finB feq at h
    rw [hq, order_nan_l (qnan_isNaN .f32)] at h
    cases h
theorem zero_KV : FinK .f32 0 ∧ KV .f32 0 = 0 := ⟨(Rn.const (k := .f32) (lo := 0) (hi := 0) (by decide +kernel)).1, by decide +kernel⟩
theorem one_KV : FinK .f32 1065353216 ∧ KV .f32 1065353216 = 1065353216 := ⟨(Rn.const (k := .f32) (lo := 1065353216) (hi := 1065353216) (by decide +kernel)).1, by decide +kernel⟩
theorem pos_KV' {x : Nat} (h : posB x = true) : FinK .f32 x ∧ 0 < KV .f32 x := by
  unfold posB at h
  simp only [Bool.and_eq_true] at h
  have hf := FinK_of_fin' h.1
  have := fgt_KV hf zero_KV.1
  rw [h.2, zero_KV.2] at this
  exact ⟨hf, by simpa using this.symm⟩
theorem nonneg_KV' {x : Nat} (h : nonnegB x = true) : FinK .f32 x ∧ 0 ≤ KV .f32 x := by
  unfold nonnegB at h
  simp only [Bool.and_eq_true] at h
  have hf := FinK_of_fin' h.1
  have := fge_KV hf zero_KV.1
  rw [h.2, zero_KV.2] at this
  exact ⟨hf, by simpa using this.symm⟩
/-- Finite and at least 0, or the greatest word of all: infinity. -/
def okQ (x : Nat) : Prop := Rn .f32 0 2139095039 x ∨ rungW Ieee.single x = Ieee.single.infRung ∧ negW Ieee.single x = false
theorem okQ.not_nan {x : Nat} (h : okQ x) : isNaNB .f32 x = false := by
  rcases h with h | ⟨h, _⟩
  · exact FinK_not_nan h.1
  · rw [nan_rung', decide_eq_false_iff_not]
    show ¬ Ieee.single.infRung < rungW Ieee.single x
    omega
theorem okQ.cn {x : Nat} (h : okQ x) : cn .f32 x = x := cn_of_not h.not_nan
/-- A word made of a sign and a rung. -/
theorem okQ_word (neg : Bool) (r : Nat) (hr : r ≤ Ieee.single.infRung) (h : neg = false ∨ r = 0) : okQ (Ieee.single.word neg r) := by
  have h1 := rungW_word Ieee.single neg hr
  have h2 := negW_word Ieee.single neg hr
  have hs : KV .f32 (Ieee.single.word neg r) = sv neg r := by show sk Ieee.single _ = _; exact sk_word Ieee.single neg hr
  have hk : KV .f32 (Ieee.single.word neg r) = r := by
    rw [hs]
    rcases h with h | h
    · rw [h]; rfl
    · rw [h]; unfold sv; cases neg <;> rfl
  by_cases e : r = Ieee.single.infRung
  · refine .inr ⟨h1.trans e, ?_⟩
    rw [h2]
    rcases h with h | h
    · exact h
    · rw [h] at e; exact absurd e (by decide)
  · have hi : Ieee.single.infRung = 2139095040 := by decide
    refine .inl ⟨?_, by rw [hk]; omega, by rw [hk]; omega⟩
    show rungW Ieee.single _ < Ieee.single.infRung
    rw [h1]; omega
theorem KV_neg {x : Nat} (h : 0 ≤ KV .f32 x) : negW Ieee.single x = false ∨ rungW Ieee.single x = 0 := by
  cases hb : negW Ieee.single x with
  | false => exact .inl rfl
  | true =>
    have := KV_sign (k := .f32) (x := x)
    have h2 : KV .f32 x = -(rungW Ieee.single x : Int) := this.2 hb
    exact .inr (by omega)
theorem okQ_mul {x y : Nat} (hx : FinK .f32 x) (h0 : 0 ≤ KV .f32 x) (hy : FinK .f32 y) (hy0 : negW Ieee.single y = false) : okQ (fop .mul .f32 x y) := by
  have u1 : fop .mul .f32 x y = Ieee.single.word (negW Ieee.single x ^^ negW Ieee.single y) (rg Ieee.single (magM Ieee.single (rungW Ieee.single x) * magM Ieee.single (rungW Ieee.single y)) (magE Ieee.single (rungW Ieee.single x) + magE Ieee.single (rungW Ieee.single y))) := by
    unfold fop floatBits; dsimp only; rw [mul_fin hx hy]; rfl
  rw [u1]
  refine okQ_word _ _ (rg_le ..) ?_
  rw [hy0, Bool.xor_false]
  rcases KV_neg h0 with h | h
  · exact .inl h
  · right
    have : magM Ieee.single 0 = 0 := by unfold magM; rw [if_pos (binade_pos _)]
    rw [h, this, Nat.zero_mul]
    unfold rg
    rw [if_pos rfl]
theorem quot_some {s t : Bool} {m n d : Nat} {i j : Int} (hn : n ≠ 0) : ∃ (q : Nat) (p : Int), (Ieee.Datum.number s m i).quotient d (.number t n j) = some (.number (s ^^ t) q p) := by
  unfold Ieee.Datum.quotient
  dsimp only
  rw [if_neg hn]
  exact ⟨_, _, rfl⟩
theorem quot_inf (d m : Nat) (j : Int) : (Ieee.Datum.infinity false).quotient d (.number false m j) = some (.infinity false) := rfl
theorem sum_inf (s : Bool) (m : Nat) (j : Int) : (Ieee.Datum.infinity false).sum (Ieee.Datum.number s m j).opposite = some (.infinity false) := rfl
theorem okQ_inf : okQ (Ieee.single.write (.infinity false)) := by right; decide +kernel
theorem okQ_quo {x y : Nat} (hx : okQ x) (hy : FinK .f32 y) (hy0 : 0 < KV .f32 y) : okQ (fop .quo .f32 x y) := by
  have hny : negW Ieee.single y = false := by
    rcases KV_neg (Int.le_of_lt hy0) with h | h
    · exact h
    · have := KV_abs .f32 y
      have h' : rungW FloatKind.f32.format y = 0 := h
      omega
  rcases hx with hx | ⟨hx, hxn⟩
  · -- a finite numerator
    by_cases hz : rungW Ieee.single x = 0
    · have hk := KV_abs .f32 x
      have hz' : rungW FloatKind.f32.format x = 0 := hz
      have hr : Rn .f32 (-(0 : Nat)) (0 : Nat) x := ⟨hx.1, by omega, by omega⟩
      have hy1 : Rn .f32 (1 : Nat) (KV .f32 y) y := ⟨hy, by omega, Int.le_refl _⟩
      have := Rn.div (r := 0) hr hy1 (by decide +kernel)
      exact .inl ⟨this.1, by have := this.2.1; omega, by have := this.2.2; omega⟩
    · have hnx : negW Ieee.single x = false := by
        rcases KV_neg hx.2.1 with h | h
        · exact h
        · exact absurd h hz
      have h0 : magM Ieee.single (rungW Ieee.single y) ≠ 0 := by
        have hk := KV_abs .f32 y
        have hy' : 1 ≤ rungW Ieee.single y := by show 1 ≤ rungW FloatKind.f32.format y; omega
        unfold magM
        split
        · omega
        · have := binade_pos Ieee.single; omega
      have e : ∃ (m : Nat) (p : Int), fop .quo .f32 x y = Ieee.single.word false (rg Ieee.single m p) := by
        unfold fop floatBits
        dsimp only
        unfold Ieee.Format.div
        have rx : FloatKind.f32.format.read x = .number (negW Ieee.single x) (magM Ieee.single (rungW Ieee.single x)) (magE Ieee.single (rungW Ieee.single x)) := read_fin hx.1
        have ry : FloatKind.f32.format.read y = .number (negW Ieee.single y) (magM Ieee.single (rungW Ieee.single y)) (magE Ieee.single (rungW Ieee.single y)) := read_fin hy
        rw [rx, ry, hnx, hny]
        obtain ⟨q, p, hq⟩ := quot_some (s := false) (t := false) (m := magM Ieee.single (rungW Ieee.single x)) (d := FloatKind.f32.format.fractionBits + 2) (i := magE Ieee.single (rungW Ieee.single x)) (j := magE Ieee.single (rungW Ieee.single y)) h0
        rw [hq]
        refine ⟨q, p, ?_⟩
        show Ieee.single.nearest false _ _ = _
        exact nearest_rg _ _ _ _
      obtain ⟨m, p, e⟩ := e
      rw [e]
      exact okQ_word _ _ (rg_le ..) (.inl rfl)
  · have e : fop .quo .f32 x y = Ieee.single.write (.infinity false) := by
      unfold fop floatBits
      dsimp only
      unfold Ieee.Format.div
      have ry : FloatKind.f32.format.read y = .number (negW Ieee.single y) (magM Ieee.single (rungW Ieee.single y)) (magE Ieee.single (rungW Ieee.single y)) := read_fin hy
      rw [read_inf' hx, ry, hxn, hny, quot_inf, Option.map_some, Option.getD_some]
      rfl
    rw [e]
    exact okQ_inf
/-- One of the small ones. -/
def ltOne (x : Nat) : Bool := flt .f32 x 1065353216
theorem order_inf {x : Nat} (hx : rungW Ieee.single x = Ieee.single.infRung) (hn : negW Ieee.single x = false) : ltOne x = false := by
  unfold ltOne flt Ieee.Format.order
  rw [read_inf' hx, hn]
  decide +kernel
theorem small_rn {x : Nat} (h : okQ x) (hl : ltOne x = true) : Rn .f32 0 1065353215 x := by
  rcases h with h | ⟨h, hn⟩
  · unfold ltOne at hl
    rw [flt_KV h.1 one_KV.1, one_KV.2] at hl
    have := of_decide_eq_true hl
    exact ⟨h.1, h.2.1, by omega⟩
  · rw [order_inf h hn] at hl; cases hl
theorem okQ_sub {a b : Nat} (ha : okQ a) (hl : ltOne a = true) (hb : okQ b) (hg : ltOne b = false) : okQ (fop .sub .f32 b (fop .sub .f32 1065353216 a)) := by
  have h1 := small_rn ha hl
  have hone : Rn .f32 1065353216 1065353216 1065353216 := Rn.const (by decide +kernel)
  have h2 : Rn .f32 0 1065353216 (fop .sub .f32 1065353216 a) := Rn.sub hone h1 (by decide +kernel)
  rcases hb with hb | ⟨hb, hbn⟩
  · unfold ltOne at hg
    rw [flt_KV hb.1 one_KV.1, one_KV.2] at hg
    have := of_decide_eq_false hg
    have hb' : Rn .f32 1065353216 2139095039 b := ⟨hb.1, by omega, hb.2.2⟩
    exact .inl (Rn.sub hb' h2 (by decide +kernel))
  · have e : fop .sub .f32 b (fop .sub .f32 1065353216 a) = Ieee.single.write (.infinity false) := by
      generalize fop .sub .f32 1065353216 a = c at h2
      unfold fop floatBits
      dsimp only
      unfold Ieee.Format.sub
      have rc : FloatKind.f32.format.read c = .number (negW Ieee.single c) (magM Ieee.single (rungW Ieee.single c)) (magE Ieee.single (rungW Ieee.single c)) := read_fin h2.1
      rw [read_inf' hb, rc, hbn, sum_inf, Option.map_some, Option.getD_some]
      rfl
    rw [e]
    exact okQ_inf
theorem part_of_rn {x : Nat} (h : Rn .f32 0 1065353216 x) : partB x = true := by
  have h1 := fge_KV h.1 zero_KV.1
  have h2 := fle_KV h.1 one_KV.1
  rw [zero_KV.2, decide_eq_true h.2.1] at h1
  rw [one_KV.2, decide_eq_true h.2.2] at h2
  unfold partB ge0 le1
  unfold fge at h1
  unfold fle at h2
  rw [h1, h2]
  rfl
end Go.Proofs.Ytgemcjcghnpmdaa
