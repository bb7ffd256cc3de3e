/- The greatest gap of points, told by keys. Plain law. -/
import Derived.Test.YtmhhjegceibjoaaGapT
namespace Go.Proofs.Ytmhhjegceibjoaa
open Go.RowKit Mag
theorem quo_Rn {i n : Nat} (hi : i ≤ 256) (h1 : 1 ≤ n) (hn : n ≤ 256) : Rn .f32 (-1132462080) 1132462080 (quoN i n) :=
  Rn.div (p := 1132462080) (c := 1065353216) (d := 1132462080) (r := 1132462080) ((fl_Rn (show i < 257 by omega)).weak (by omega) (by omega)) ⟨(fl_Rn (show n < 257 by omega)).1, fl_one h1 (by omega), (fl_Rn (show n < 257 by omega)).2.2⟩ (by decide +kernel)
theorem quo_end {n : Nat} (h1 : 1 ≤ n) (hn : n ≤ 256) : KV .f32 (quoN n n) = 1065353216 ∧ KV .f32 (quoN (n - 1) n) ≤ 1065353215 := by
  have := List.all_eq_true.1 quo_last n (List.mem_range.2 (by omega))
  rw [Bool.or_eq_true, Bool.and_eq_true] at this
  rcases this with h | ⟨h, h'⟩
  · have : n = 0 := by simpa using h
    omega
  · have := Rn.const h
    exact ⟨by have := this.2; omega, of_decide_eq_true h'⟩
theorem subU_Rn {i n x : Nat} (hi : i ≤ 256) (h1 : 1 ≤ n) (hn : n ≤ 256) (hx : Rn .f32 0 1065353216 x) : Rn .f32 (-1140850688) 1140850688 (fop .sub .f32 (quoN i n) x) := Rn.sub (quo_Rn hi h1 hn) hx (by decide +kernel)
theorem subL_Rn {i n x : Nat} (hi : i ≤ 256) (h1 : 1 ≤ n) (hn : n ≤ 256) (hx : Rn .f32 0 1065353216 x) : Rn .f32 (-1140850688) 1140850688 (fop .sub .f32 x (quoN i n)) := Rn.sub hx (quo_Rn hi h1 hn) (by decide +kernel)
/-- A word whose key tells it, if it is greater than 0. -/
def Wd (x : Nat) : Prop := KV .f32 x ≤ 0 ∨ x = wk .f32 (KV .f32 x)
theorem sub_Wd {x y : Nat} (hx : FinK .f32 x) (hy : FinK .f32 y) : Wd (fop .sub .f32 x y) := by
  unfold Wd
  have e : ∃ (neg : Bool) (m : Nat) (e : Int), fop .sub .f32 x y = FloatKind.f32.format.word neg (rg FloatKind.f32.format m e) := by
    unfold fop floatBits
    dsimp only
    unfold Ieee.Format.sub
    rw [opposite_word hy, read_fin hx]
    obtain ⟨neg, he, _⟩ := sum_number (negW FloatKind.f32.format x) (magM FloatKind.f32.format (rungW FloatKind.f32.format x)) (magE FloatKind.f32.format (rungW FloatKind.f32.format x)) (!negW FloatKind.f32.format y) (magM FloatKind.f32.format (rungW FloatKind.f32.format y)) (magE FloatKind.f32.format (rungW FloatKind.f32.format y))
    rw [he]
    exact ⟨neg, _, _, nearest_rg _ _ _ _⟩
  obtain ⟨neg, m, ee, e⟩ := e
  obtain ⟨r, hr0⟩ : ∃ r, rg FloatKind.f32.format m ee = r := ⟨_, rfl⟩
  have hr : r ≤ FloatKind.f32.format.infRung := by rw [← hr0]; exact rg_le _ _ _
  rw [hr0] at e
  rw [e]
  have hk : KV .f32 (FloatKind.f32.format.word neg r) = sv neg r := by show sk _ _ = _; exact sk_word _ _ hr
  rw [hk]
  cases neg with
  | true => left; unfold sv; simp
  | false =>
    right
    show _ = FloatKind.f32.format.word (decide ((r : Int) < 0)) (Int.natAbs (r : Int))
    have h0 : ¬ (r : Int) < 0 := by omega
    rw [decide_eq_false h0, Int.natAbs_natCast]
def maxF (x y : Nat) : Nat := match FloatKind.f32.format.order x y with
  | some .lt => y
  | some .gt => x
  | some .eq => if (FloatKind.f32.decode x).neg then y else x
  | none => x
theorem maxF_or (x y : Nat) : maxF x y = x ∨ maxF x y = y := by
  unfold maxF
  split
  · exact .inr rfl
  · exact .inl rfl
  · split
    · exact .inr rfl
    · exact .inl rfl
  · exact .inl rfl
theorem maxF_KV {x y : Nat} (hx : FinK .f32 x) (hy : FinK .f32 y) : KV .f32 (maxF x y) = max (KV .f32 x) (KV .f32 y) := by
  have ho := order_KV hx hy
  rcases Int.lt_trichotomy (KV .f32 x) (KV .f32 y) with h | h | h
  · have e : maxF x y = y := by
      unfold maxF; rw [ho, show compare (KV .f32 x) (KV .f32 y) = .lt from Int.compare_eq_lt.2 h]
    rw [e, Int.max_eq_right (Int.le_of_lt h)]
  · have e := maxF_or x y
    rcases e with e | e <;> rw [e, h, Int.max_self]
  · have e : maxF x y = x := by
      unfold maxF; rw [ho, show compare (KV .f32 x) (KV .f32 y) = .gt from Int.compare_eq_gt.2 h]
    rw [e, Int.max_eq_left (Int.le_of_lt h)]
theorem maxF_fin {x y : Nat} (hx : FinK .f32 x) (hy : FinK .f32 y) : FinK .f32 (maxF x y) := by rcases maxF_or x y with h | h <;> rw [h] <;> assumption
theorem maxF_Wd {x y : Nat} (hx : Wd x) (hy : Wd y) : Wd (maxF x y) := by rcases maxF_or x y with h | h <;> rw [h] <;> assumption
/-- The greatest key of the first k gaps, from s on. -/
def mxI (s : Int) (ys : List Nat) (n : Nat) : Nat → Int
  | 0 => s
  | k + 1 => max (max (mxI s ys n k) (KV .f32 (fop .sub .f32 (quoN (k + 1) n) (ys.getD k 0)))) (KV .f32 (fop .sub .f32 (ys.getD k 0) (quoN k n)))
theorem mxI_succ (s : Int) (ys : List Nat) (n k : Nat) : mxI s ys n (k + 1) = max (max (mxI s ys n k) (KV .f32 (fop .sub .f32 (quoN (k + 1) n) (ys.getD k 0)))) (KV .f32 (fop .sub .f32 (ys.getD k 0) (quoN k n))) := rfl
theorem sub_cong {a b c d : Nat} (ha : FinK .f32 a) (hb : FinK .f32 b) (hc : FinK .f32 c) (hd : FinK .f32 d) (h1 : KV .f32 a = KV .f32 c) (h2 : KV .f32 b = KV .f32 d) : KV .f32 (fop .sub .f32 a b) = KV .f32 (fop .sub .f32 c d) :=
  Int.le_antisymm (sub_key ha hb hc hd (Int.le_of_eq h1) (Int.le_of_eq h2.symm)) (sub_key hc hd ha hb (Int.le_of_eq h1.symm) (Int.le_of_eq h2))
theorem mxI_same {s : Int} {ys zs : List Nat} {n : Nat} (h1 : 1 ≤ n) (hn : n ≤ 256) (hy : AllP ys) (hz : AllP zs) (hyl : ys.length = n) (hzl : zs.length = n) (hk : ∀ i, i < n → kA ys i = kA zs i) : ∀ k, k ≤ n → mxI s ys n k = mxI s zs n k
  | 0, _ => rfl
  | k + 1, h => by
    have f1 := (hy _ (getD_mem (xs := ys) (i := k) (by omega))).1
    have f2 := (hz _ (getD_mem (xs := zs) (i := k) (by omega))).1
    have e : KV .f32 (ys.getD k 0) = KV .f32 (zs.getD k 0) := hk k (by omega)
    have q1 := (quo_Rn (i := k + 1) (by omega) h1 hn).1
    have q2 := (quo_Rn (i := k) (by omega) h1 hn).1
    rw [mxI_succ, mxI_succ, mxI_same h1 hn hy hz hyl hzl hk k (by omega), sub_cong q1 f1 q1 f2 rfl e, sub_cong f1 q2 f2 q2 e rfl]
theorem mxI_from {s t : Int} (h : s ≤ t) (ys : List Nat) (n : Nat) : ∀ k, mxI t ys n k = max t (mxI s ys n k)
  | 0 => (Int.max_eq_left h).symm
  | k + 1 => by
    rw [mxI_succ, mxI_succ, mxI_from h ys n k]
    generalize KV .f32 (fop .sub .f32 (quoN (k + 1) n) (ys.getD k 0)) = a
    generalize KV .f32 (fop .sub .f32 (ys.getD k 0) (quoN k n)) = b
    omega
theorem gap_pos : Rn .f32 1 1065353216 (fop .sub .f32 1065353216 1065353215) := Rn.const (by decide +kernel)
theorem pre_one : Rn .f32 1065353215 1065353215 1065353215 := Rn.const (by decide +kernel)
theorem sub_pos {a b : Nat} (ha : FinK .f32 a) (hb : FinK .f32 b) (h1 : 1065353216 ≤ KV .f32 a) (h2 : KV .f32 b ≤ 1065353215) : 0 < KV .f32 (fop .sub .f32 a b) := by
  have hp := pre_one
  have g := sub_key one_KV2.1 hp.1 ha hb (by rw [one_KV2.2]; exact h1) (Int.le_trans h2 hp.2.1)
  exact Int.lt_of_lt_of_le (Int.lt_of_lt_of_le (by decide) gap_pos.2.1) g
theorem mxI_pos {s : Int} {ys : List Nat} {n : Nat} (h1 : 1 ≤ n) (hn : n ≤ 256) (hy : AllP ys) (hyl : ys.length = n) : 0 < mxI s ys n n := by
  obtain ⟨k, rfl⟩ : ∃ k, n = k + 1 := ⟨n - 1, by omega⟩
  have f1 := hy _ (getD_mem (xs := ys) (i := k) (by omega))
  have q1 := (quo_Rn (i := k + 1) (n := k + 1) (by omega) h1 hn).1
  have q2 := (quo_Rn (i := k) (n := k + 1) (by omega) h1 hn).1
  have he := quo_end h1 hn
  rw [Nat.add_sub_cancel] at he
  rw [mxI_succ]
  rcases Int.lt_or_le 1065353215 (KV .f32 (ys.getD k 0)) with hx | hx
  · have := sub_pos f1.1 q2 hx he.2
    exact Int.lt_of_lt_of_le this (Int.le_max_right _ _)
  · have := sub_pos q1 f1.1 (Int.le_of_eq he.1.symm) hx
    exact Int.lt_of_lt_of_le (Int.lt_of_lt_of_le this (Int.le_max_right _ _)) (Int.le_max_left _ _)
end Go.Proofs.Ytmhhjegceibjoaa
