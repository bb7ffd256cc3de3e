/- Parts, lists of parts in order, quotients of small whole numbers. Plain law. -/
import Derived.Test.YtmhhjegceibjoaaSrt
import Derived.Test.YtmhhjegceibjoaaPart
import Derived.Test.YtmhhjegceibjoaaMagF
namespace Go.Proofs.Ytmhhjegceibjoaa
open Go.RowKit Mag
theorem zero_KV2 : FinK .f32 0 ∧ KV .f32 0 = 0 := ⟨(Rn.const (k := .f32) (lo := 0) (hi := 0) (by decide +kernel)).1, by decide +kernel⟩
theorem one_KV2 : FinK .f32 1065353216 ∧ KV .f32 1065353216 = 1065353216 := ⟨(Rn.const (k := .f32) (lo := 1065353216) (hi := 1065353216) (by decide +kernel)).1, by decide +kernel⟩
theorem part_num {x : Nat} (h : partB x = true) : isNaNB .f32 x = false := by
  cases hn : isNaNB .f32 x with
  | false => rfl
  | true =>
    unfold partB ge0 at h
    rw [order_nan_l hn] at h
    simp at h
/-- A part is a number from 0 to 1. -/
theorem part_Rn {x : Nat} (h : partB x = true) : Rn .f32 0 1065353216 x := by
  have hn := part_num h
  unfold partB ge0 le1 at h
  rw [Bool.and_eq_true] at h
  have hf : FinK .f32 x := by
    show rungW FloatKind.f32.format x < FloatKind.f32.format.infRung
    rcases Nat.lt_or_ge (rungW FloatKind.f32.format x) FloatKind.f32.format.infRung with hl | hg
    · exact hl
    · exfalso
      -- an infinity lies at neither end
      have hb : ∀ k : FloatKind, k.format.binade ≤ k.format.infRung := fun k => by cases k <;> decide
      have he : rungW FloatKind.f32.format x = FloatKind.f32.format.infRung := by
        rcases Nat.lt_or_ge FloatKind.f32.format.infRung (rungW FloatKind.f32.format x) with hgt | hle
        · exfalso
          have : isNaNB .f32 x = true := by
            unfold isNaNB FloatKind.decode Ieee.Format.read
            dsimp only
            change (if rungW FloatKind.f32.format x < FloatKind.f32.format.binade then _ else if rungW FloatKind.f32.format x < FloatKind.f32.format.infRung then _ else if rungW FloatKind.f32.format x = FloatKind.f32.format.infRung then _ else _ : Ieee.Datum).isNaN = _
            have := hb .f32
            rw [if_neg (by omega), if_neg (by omega), if_neg (by omega)]
            rfl
          rw [this] at hn; cases hn
        · omega
      have hr : FloatKind.f32.format.read x = .infinity (negW FloatKind.f32.format x) := by
        unfold Ieee.Format.read
        dsimp only
        change (if rungW FloatKind.f32.format x < FloatKind.f32.format.binade then _ else if rungW FloatKind.f32.format x < FloatKind.f32.format.infRung then _ else if rungW FloatKind.f32.format x = FloatKind.f32.format.infRung then _ else _ : Ieee.Datum) = _
        have := hb .f32
        rw [he, if_neg (by omega), if_neg (by omega), if_pos rfl]
        rfl
      have h0 : FloatKind.f32.format.read 0 = .number false 0 (-149) := by decide +kernel
      have h1 : FloatKind.f32.format.read 1065353216 = .number false 8388608 (-23) := by decide +kernel
      cases hs : negW FloatKind.f32.format x with
      | true =>
        rw [hs] at hr
        have : FloatKind.f32.format.order x 0 = some .lt := by unfold Ieee.Format.order; rw [hr, h0]; rfl
        rw [this] at h
        simp at h
      | false =>
        rw [hs] at hr
        have : FloatKind.f32.format.order x 1065353216 = some .gt := by unfold Ieee.Format.order; rw [hr, h1]; rfl
        rw [this] at h
        simp at h
  refine ⟨hf, ?_, ?_⟩
  · have h1 := h.1
    have e : fge .f32 x 0 = true := h1
    rw [fge_KV hf zero_KV2.1, zero_KV2.2] at e
    exact of_decide_eq_true e
  · have h1 := h.2
    have e : fle .f32 x 1065353216 = true := h1
    rw [fle_KV hf one_KV2.1, one_KV2.2] at e
    exact of_decide_eq_true e

/-! The lists. -/
def AllP (xs : List Nat) : Prop := ∀ x ∈ xs, Rn .f32 0 1065353216 x
theorem AllP.fin {xs : List Nat} (h : AllP xs) : AllF xs := fun x hx => (h x hx).1
/-- Two lists in order, of the same numbers, have the same keys. -/
theorem srt_keys {n : Nat} {ys zs : List Nat} (hp : ys.Perm zs) (hy : ys.length = n) (h1 : Srt 0 n ys) (h2 : Srt 0 n zs) : ∀ i, i < n → kA ys i = kA zs i := by
  have hz : zs.length = n := by rw [← hp.length_eq]; exact hy
  have pw : ∀ {l : List Nat}, l.length = n → Srt 0 n l → (l.map (KV .f32)).Pairwise (fun a b => a ≤ b) := by
    intro l hl hs
    rw [List.pairwise_iff_getElem]
    intro i j hi hj hij
    rw [List.length_map] at hi hj
    have := hs i j (by omega) (by omega) (by omega)
    unfold kA at this
    rw [List.getD_eq_getElem?_getD, List.getElem?_eq_getElem hi, List.getD_eq_getElem?_getD, List.getElem?_eq_getElem hj] at this
    simpa using this
  have e : ys.map (KV .f32) = zs.map (KV .f32) := List.Perm.eq_of_pairwise (le := fun a b => a ≤ b) (fun a b _ _ h1 h2 => by have h1' : a ≤ b := h1; have h2' : b ≤ a := h2; omega) (pw hy h1) (pw hz h2) (hp.map _)
  intro i hi
  have e1 : (ys.map (KV .f32))[i]? = (zs.map (KV .f32))[i]? := by rw [e]
  rw [List.getElem?_map, List.getElem?_map, getD_in (by omega), getD_in (by omega)] at e1
  injection e1

/-! The gaps. -/
def quoN (i n : Nat) : Nat := fop .quo .f32 (floatOfInt .f32 (i : Int)) (floatOfInt .f32 (n : Int))
def quoOk (i n : Nat) : Bool := rnB .f32 0 1065353216 (quoN i n)
theorem fl_all : (List.range 257).all (fun i => rnB .f32 0 1132462080 (floatOfInt .f32 (i : Int))) = true := by decide +kernel
theorem fl_pos : (List.range 257).all (fun n => n == 0 || decide (1065353216 ≤ KV .f32 (floatOfInt .f32 (n : Int)))) = true := by decide +kernel
theorem fl_mono : (List.range 256).all (fun n => decide (KV .f32 (floatOfInt .f32 (n : Int)) ≤ KV .f32 (floatOfInt .f32 ((n + 1 : Nat) : Int)))) = true := by decide +kernel
theorem fl_Rn {i : Nat} (h : i < 257) : Rn .f32 0 1132462080 (floatOfInt .f32 (i : Int)) := Rn.const (List.all_eq_true.1 fl_all i (List.mem_range.2 h))
theorem fl_le {i n : Nat} (h : i ≤ n) (hn : n < 257) : KV .f32 (floatOfInt .f32 (i : Int)) ≤ KV .f32 (floatOfInt .f32 (n : Int)) := by
  induction n with
  | zero => rw [show i = 0 by omega]; exact Int.le_refl _
  | succ n ih =>
    by_cases e : i = n + 1
    · rw [e]; exact Int.le_refl _
    · exact Int.le_trans (ih (by omega) (by omega)) (of_decide_eq_true (List.all_eq_true.1 fl_mono n (List.mem_range.2 (by omega))))
theorem fl_one {n : Nat} (h1 : 1 ≤ n) (h : n < 257) : 1065353216 ≤ KV .f32 (floatOfInt .f32 (n : Int)) := by
  have := List.all_eq_true.1 fl_pos n (List.mem_range.2 h)
  rw [Bool.or_eq_true] at this
  rcases this with h2 | h2
  · have : n = 0 := by simpa using h2
    omega
  · exact of_decide_eq_true h2
theorem quo_last : (List.range 257).all (fun n => n == 0 || (rnB .f32 1065353216 1065353216 (quoN n n) && decide (KV .f32 (quoN (n - 1) n) ≤ 1065353215))) = true := by decide +kernel
end Go.Proofs.Ytmhhjegceibjoaa
