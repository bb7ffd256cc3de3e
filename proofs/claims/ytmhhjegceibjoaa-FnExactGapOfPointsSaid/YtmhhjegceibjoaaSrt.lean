/- Lists of words of finite float32 that are put in order by exchanges. Plain law. -/
import Derived.Test.YtmhhjegceibjoaaMagF
namespace Go.Proofs.Ytmhhjegceibjoaa
open Go.RowKit Mag
def kA (xs : List Nat) (i : Nat) : Int := KV .f32 (xs.getD i 0)
def AllF (xs : List Nat) : Prop := ∀ x ∈ xs, FinK .f32 x
theorem getD_put (l : List Nat) {k : Nat} (i x d : Nat) (hk : k < l.length) : (l.set k x).getD i d = if i = k then x else l.getD i d := by
  rw [List.getD_eq_getElem?_getD, List.getElem?_set, List.getD_eq_getElem?_getD]
  by_cases e : k = i
  · rw [if_pos e, if_pos hk, if_pos e.symm]; rfl
  · rw [if_neg e, if_neg (fun e' => e e'.symm)]
theorem getD_in {xs : List Nat} {i : Nat} (h : i < xs.length) : xs[i]? = some (xs.getD i 0) := by
  rw [List.getD_eq_getElem?_getD, List.getElem?_eq_getElem h]; rfl
theorem getD_mem {xs : List Nat} {i : Nat} (h : i < xs.length) : xs.getD i 0 ∈ xs := List.mem_of_getElem? (getD_in h)
theorem AllF.at {xs : List Nat} (h : AllF xs) {i : Nat} (hi : i < xs.length) : FinK .f32 (xs.getD i 0) := h _ (getD_mem hi)
def swapL (xs : List Nat) (i j : Nat) : List Nat := (xs.set i (xs.getD j 0)).set j (xs.getD i 0)
theorem swapL_len (xs : List Nat) (i j : Nat) : (swapL xs i j).length = xs.length := by simp [swapL]
theorem swapL_at {xs : List Nat} {i j : Nat} (hi : i < xs.length) (hj : j < xs.length) (k : Nat) : (swapL xs i j).getD k 0 = if k = j then xs.getD i 0 else if k = i then xs.getD j 0 else xs.getD k 0 := by
  unfold swapL
  rw [getD_put _ _ _ _ (by rw [List.length_set]; exact hj), getD_put _ _ _ _ hi]
theorem swapL_perm {xs : List Nat} {i j : Nat} (hi : i < xs.length) (hj : j < xs.length) : (swapL xs i j).Perm xs := by
  have e1 : xs.getD i 0 = xs[i] := by rw [List.getD_eq_getElem?_getD, List.getElem?_eq_getElem hi]; rfl
  have e2 : xs.getD j 0 = xs[j] := by rw [List.getD_eq_getElem?_getD, List.getElem?_eq_getElem hj]; rfl
  unfold swapL
  rw [e1, e2]
  exact List.set_set_perm hi hj
/-- ys is xs with the places from a up to b in another order. -/
structure Sw (a b : Nat) (xs ys : List Nat) : Prop where
  len : ys.length = xs.length
  perm : ys.Perm xs
  out : ∀ i, i < a ∨ b ≤ i → ys.getD i 0 = xs.getD i 0
theorem Sw.refl (a b : Nat) (xs : List Nat) : Sw a b xs xs := ⟨rfl, List.Perm.refl _, fun _ _ => rfl⟩
theorem Sw.trans {a b : Nat} {xs ys zs : List Nat} (h : Sw a b xs ys) (k : Sw a b ys zs) : Sw a b xs zs := ⟨k.len.trans h.len, k.perm.trans h.perm, fun i hi => (k.out i hi).trans (h.out i hi)⟩
theorem Sw.weak {a b a' b' : Nat} {xs ys : List Nat} (h : Sw a b xs ys) (ha : a' ≤ a) (hb : b ≤ b') : Sw a' b' xs ys := ⟨h.len, h.perm, fun i hi => h.out i (by omega)⟩
theorem Sw.swap {a b : Nat} {xs : List Nat} {i j : Nat} (hi : a ≤ i ∧ i < b) (hj : a ≤ j ∧ j < b) (hb : b ≤ xs.length) : Sw a b xs (swapL xs i j) :=
  ⟨swapL_len xs i j, swapL_perm (by omega) (by omega), fun k hk => by rw [swapL_at (by omega) (by omega), if_neg (by omega), if_neg (by omega)]⟩
theorem Sw.allF {a b : Nat} {xs ys : List Nat} (h : Sw a b xs ys) (hf : AllF xs) : AllF ys := fun x hx => hf x (h.perm.mem_iff.1 hx)
theorem Sw.mid {a b : Nat} {xs ys : List Nat} (h : Sw a b xs ys) (hab : a ≤ b) (hb : b ≤ xs.length) : ((ys.take b).drop a).Perm ((xs.take b).drop a) := by
  have hl := h.len
  have key : ∀ i, i < a ∨ b ≤ i → ys[i]? = xs[i]? := fun i hi => by
    by_cases hlt : i < xs.length
    · rw [getD_in hlt, getD_in (by omega), h.out i hi]
    · rw [List.getElem?_eq_none (by omega), List.getElem?_eq_none (by omega)]
  have e1 : ys.take a = xs.take a := by
    apply List.ext_getElem?
    intro i
    rw [List.getElem?_take, List.getElem?_take]
    split
    · exact key i (by omega)
    · rfl
  have e2 : ys.drop b = xs.drop b := by
    apply List.ext_getElem?
    intro i
    rw [List.getElem?_drop, List.getElem?_drop]
    exact key _ (by omega)
  have d : ∀ zs : List Nat, zs = zs.take a ++ ((zs.take b).drop a ++ zs.drop b) := fun zs => by
    rw [← List.append_assoc]
    have : zs.take a ++ (zs.take b).drop a = zs.take b := by
      have := List.take_append_drop a (zs.take b)
      rw [List.take_take, Nat.min_eq_left hab] at this
      exact this
    rw [this, List.take_append_drop]
  have hp := h.perm
  rw [d ys, d xs, e1, e2] at hp
  exact (List.perm_append_right_iff _).1 ((List.perm_append_left_iff _).1 hp)
theorem Sw.from_ {a b : Nat} {xs ys : List Nat} (h : Sw a b xs ys) (hb : b ≤ xs.length) {i : Nat} (h1 : a ≤ i) (h2 : i < b) : ∃ j, a ≤ j ∧ j < b ∧ ys.getD i 0 = xs.getD j 0 := by
  have hl := h.len
  have hm := (h.mid (by omega) hb).mem_iff (a := ys.getD i 0)
  have hin : ys.getD i 0 ∈ (ys.take b).drop a := by
    apply List.mem_of_getElem? (i := i - a)
    rw [List.getElem?_drop, List.getElem?_take, if_pos (by omega), show a + (i - a) = i by omega, getD_in (by omega)]
  obtain ⟨j, hj⟩ := List.getElem?_of_mem (hm.1 hin)
  rw [List.getElem?_drop, List.getElem?_take] at hj
  split at hj
  · exact ⟨a + j, by omega, by assumption, by rw [List.getD_eq_getElem?_getD (l := xs), hj]; rfl⟩
  · cases hj
theorem Sw.all {a b : Nat} {xs ys : List Nat} (h : Sw a b xs ys) (hb : b ≤ xs.length) {P : Nat → Prop} (hP : ∀ i, a ≤ i → i < b → P (xs.getD i 0)) : ∀ i, a ≤ i → i < b → P (ys.getD i 0) := fun i h1 h2 => by
  obtain ⟨j, j1, j2, e⟩ := h.from_ hb h1 h2
  rw [e]; exact hP j j1 j2
def Srt (a b : Nat) (xs : List Nat) : Prop := ∀ i j, a ≤ i → i ≤ j → j < b → kA xs i ≤ kA xs j
/-- Each number from a on is at least the number ahead of a. -/
def Lb (a b : Nat) (xs : List Nat) : Prop := ∀ i, 0 < a → a ≤ i → i < b → kA xs (a - 1) ≤ kA xs i
theorem kA_swap {xs : List Nat} {i j : Nat} (hi : i < xs.length) (hj : j < xs.length) (k : Nat) : kA (swapL xs i j) k = if k = j then kA xs i else if k = i then kA xs j else kA xs k := by
  unfold kA
  rw [swapL_at hi hj]
  split
  · rfl
  · split <;> rfl
theorem Lb.sw {a b : Nat} {xs ys : List Nat} (h : Lb a b xs) (hs : Sw a b xs ys) (hb : b ≤ xs.length) : Lb a b ys := fun i h0 h1 h2 => by
  have := hs.all hb (P := fun x => kA xs (a - 1) ≤ KV .f32 x) (fun j j1 j2 => h j h0 j1 j2) i h1 h2
  show KV .f32 (ys.getD (a - 1) 0) ≤ _
  rw [hs.out (a - 1) (by omega)]
  exact this

/-! Insertion. -/
/-- All but place j are in order, and what stands at j is at most what follows. -/
structure Ins (a i j : Nat) (xs : List Nat) : Prop where
  rest : ∀ p q, a ≤ p → p ≤ q → q ≤ i → p ≠ j → q ≠ j → kA xs p ≤ kA xs q
  low : ∀ q, j < q → q ≤ i → kA xs j ≤ kA xs q
theorem Ins.start {a i : Nat} {xs : List Nat} (h : Srt a i xs) : Ins a i i xs := ⟨fun p q h1 h2 h3 _ h5 => h p q h1 h2 (by omega), fun q h1 h2 => by omega⟩
theorem Ins.step {a i j : Nat} {xs : List Nat} (h : Ins a i j xs) (hj : a < j) (hji : j ≤ i) (hi : i < xs.length) (hlt : kA xs j < kA xs (j - 1)) : Ins a i (j - 1) (swapL xs j (j - 1)) := by
  have e := kA_swap (xs := xs) (i := j) (j := j - 1) (by omega) (by omega)
  refine ⟨fun p q h1 h2 h3 h4 h5 => ?_, fun q h1 h2 => ?_⟩
  · rw [e p, e q, if_neg h4, if_neg h5]
    by_cases hp : p = j
    · rw [if_pos hp]
      by_cases hq : q = j
      · rw [if_pos hq]; exact Int.le_refl _
      · rw [if_neg hq]; exact h.rest (j - 1) q (by omega) (by omega) h3 (by omega) hq
    · rw [if_neg hp]
      by_cases hq : q = j
      · rw [if_pos hq]; exact h.rest p (j - 1) h1 (by omega) (by omega) hp (by omega)
      · rw [if_neg hq]; exact h.rest p q h1 h2 h3 hp hq
  · rw [e (j - 1), e q, if_pos rfl, if_neg (by omega)]
    by_cases hq : q = j
    · rw [if_pos hq]; omega
    · rw [if_neg hq]; exact h.low q (by omega) h2
theorem Ins.stop {a i j : Nat} {xs : List Nat} (h : Ins a i j xs) (hj : a ≤ j) (hend : a < j → kA xs (j - 1) ≤ kA xs j) : Srt a (i + 1) xs := fun p q h1 h2 h3 => by
  by_cases hp : p = j
  · by_cases hq : q = j
    · rw [hp, hq]; exact Int.le_refl _
    · rw [hp]; exact h.low q (by omega) (by omega)
  · by_cases hq : q = j
    · have hl := hend (by omega)
      have := h.rest p (j - 1) h1 (by omega) (by omega) hp (by omega)
      rw [hq]; omega
    · exact h.rest p q h1 h2 (by omega) hp hq
theorem Srt.empty (a : Nat) (xs : List Nat) {b : Nat} (h : b ≤ a + 1) : Srt a b xs := fun i j h1 h2 h3 => by
  have : i = j := by omega
  rw [this]; exact Int.le_refl _

/-! The heap. Places are told from 'first' on. -/
def hp (f : Nat) (xs : List Nat) (i : Nat) : Int := kA xs (f + i)
/-- The heap's order holds for each child whose parent stands at lo or behind. -/
def Heap (f lo hi : Nat) (xs : List Nat) : Prop := ∀ c, 0 < c → c < hi → lo ≤ (c - 1) / 2 → hp f xs c ≤ hp f xs ((c - 1) / 2)
/-- On its way down: all but the children of r; these are at most r's parent. -/
structure Sift (f lo hi r : Nat) (xs : List Nat) : Prop where
  other : ∀ c, 0 < c → c < hi → lo ≤ (c - 1) / 2 → (c - 1) / 2 ≠ r → hp f xs c ≤ hp f xs ((c - 1) / 2)
  up : ∀ c, 0 < c → c < hi → (c - 1) / 2 = r → 0 < r → lo ≤ (r - 1) / 2 → hp f xs c ≤ hp f xs ((r - 1) / 2)
theorem Sift.start {f lo hi : Nat} {xs : List Nat} (h : Heap f (lo + 1) hi xs) : Sift f lo hi lo xs :=
  ⟨fun c h0 h1 h2 h3 => h c h0 h1 (by omega), fun c h0 h1 h2 h3 h4 => by omega⟩
theorem Sift.done {f lo hi r : Nat} {xs : List Nat} (h : Sift f lo hi r xs) (hc : ∀ c, 0 < c → c < hi → (c - 1) / 2 = r → hp f xs c ≤ hp f xs r) : Heap f lo hi xs := fun c h0 h1 h2 => by
  by_cases e : (c - 1) / 2 = r
  · rw [e]; exact hc c h0 h1 e
  · exact h.other c h0 h1 h2 e
theorem hp_swap {f : Nat} {xs : List Nat} {i j : Nat} (hi : f + i < xs.length) (hj : f + j < xs.length) (k : Nat) : hp f (swapL xs (f + i) (f + j)) k = if k = j then hp f xs i else if k = i then hp f xs j else hp f xs k := by
  unfold hp
  rw [kA_swap hi hj]
  by_cases e : k = j
  · rw [if_pos (by omega), if_pos e]
  · rw [if_neg (by omega), if_neg e]
    by_cases e2 : k = i
    · rw [if_pos (by omega), if_pos e2]
    · rw [if_neg (by omega), if_neg e2]
theorem Sift.step {f lo hi r m : Nat} {xs : List Nat} (h : Sift f lo hi r xs) (hlo : lo ≤ r) (hm : m = 2 * r + 1 ∨ m = 2 * r + 2) (hmh : m < hi) (hf : f + hi ≤ xs.length)
    (hbig : ∀ c, c < hi → c = 2 * r + 1 ∨ c = 2 * r + 2 → hp f xs c ≤ hp f xs m) (hlt : hp f xs r < hp f xs m) : Sift f lo hi m (swapL xs (f + r) (f + m)) := by
  have e := hp_swap (f := f) (xs := xs) (i := r) (j := m) (by omega) (by omega)
  refine ⟨fun c h0 h1 h2 h3 => ?_, fun c h0 h1 h2 h3 h4 => ?_⟩
  · rw [e c, e ((c - 1) / 2), if_neg h3]
    by_cases hr : (c - 1) / 2 = r
    · rw [if_pos hr]
      by_cases hcm : c = m
      · rw [if_pos hcm]; omega
      · rw [if_neg hcm, if_neg (by omega)]
        exact hbig c h1 (by omega)
    · rw [if_neg hr]
      by_cases hcm : c = m
      · exfalso; omega
      · rw [if_neg hcm]
        by_cases hcr : c = r
        · rw [if_pos hcr, hcr]
          exact h.up m (by omega) hmh (by omega) (by omega) (by rw [← hcr]; exact h2)
        · rw [if_neg hcr]; exact h.other c h0 h1 h2 hr
  · have hpm : (m - 1) / 2 = r := by omega
    rw [e c, e ((m - 1) / 2), hpm, if_neg (by omega), if_neg (by omega), if_neg (by omega), if_pos rfl]
    have := h.other c h0 h1 (by omega) (by omega)
    rw [h2] at this
    exact this
theorem Heap.top {f hi : Nat} {xs : List Nat} (h : Heap f 0 hi xs) : ∀ c, c < hi → hp f xs c ≤ hp f xs 0 := by
  intro c
  induction c using Nat.strongRecOn with
  | _ c ih =>
    intro hc
    by_cases h0 : c = 0
    · rw [h0]; exact Int.le_refl _
    · exact Int.le_trans (h c (by omega) hc (by omega)) (ih ((c - 1) / 2) (by omega) (by omega))
theorem Heap.small {f lo hi : Nat} {xs : List Nat} (h : hi ≤ 2 * lo + 1) : Heap f lo hi xs := fun c h0 h1 h2 => by omega
/-- Popped: places up to m are a heap, those from m on are in order and at least the others. -/
structure Pop (f hi m : Nat) (xs : List Nat) : Prop where
  heap : Heap f 0 m xs
  srt : ∀ i j, m ≤ i → i ≤ j → j < hi → hp f xs i ≤ hp f xs j
  cut : ∀ i j, i < m → m ≤ j → j < hi → hp f xs i ≤ hp f xs j
theorem Pop.start {f hi : Nat} {xs : List Nat} (h : Heap f 0 hi xs) : Pop f hi hi xs := ⟨h, fun i j h1 h2 h3 => by omega, fun i j h1 h2 h3 => by omega⟩
theorem Pop.swapped {f hi m : Nat} {xs : List Nat} (h : Pop f hi (m + 1) xs) (hm : m < hi) (hf : f + hi ≤ xs.length) :
    Heap f 1 m (swapL xs f (f + m)) ∧ (∀ i j, m ≤ i → i ≤ j → j < hi → hp f (swapL xs f (f + m)) i ≤ hp f (swapL xs f (f + m)) j) ∧ (∀ i j, i < m → m ≤ j → j < hi → hp f (swapL xs f (f + m)) i ≤ hp f (swapL xs f (f + m)) j) := by
  have e : ∀ k, hp f (swapL xs f (f + m)) k = if k = m then hp f xs 0 else if k = 0 then hp f xs m else hp f xs k := fun k => by
    have := hp_swap (f := f) (xs := xs) (i := 0) (j := m) (by omega) (by omega) k
    rwa [Nat.add_zero] at this
  have top := h.heap.top
  refine ⟨fun c h0 h1 h2 => ?_, fun i j h1 h2 h3 => ?_, fun i j h1 h2 h3 => ?_⟩
  · rw [e c, e ((c - 1) / 2), if_neg (by omega), if_neg (by omega), if_neg (by omega), if_neg (by omega)]
    exact h.heap c h0 (by omega) (by omega)
  · rw [e i, e j]
    by_cases hi' : i = m
    · rw [if_pos hi']
      by_cases hj' : j = m
      · rw [if_pos hj']; exact Int.le_refl _
      · rw [if_neg hj', if_neg (by omega)]; exact h.cut 0 j (by omega) (by omega) h3
    · rw [if_neg hi', if_neg (by omega), if_neg (by omega), if_neg (by omega)]
      exact h.srt i j (by omega) h2 h3
  · rw [e i, e j, if_neg (by omega)]
    by_cases hj' : j = m
    · rw [if_pos hj']
      by_cases h0 : i = 0
      · rw [if_pos h0]; exact top m (by omega)
      · rw [if_neg h0]; exact top i (by omega)
    · rw [if_neg hj', if_neg (show ¬ j = 0 by omega)]
      by_cases h0 : i = 0
      · rw [if_pos h0]; exact h.cut m j (by omega) (by omega) h3
      · rw [if_neg h0]; exact h.cut i j (by omega) (by omega) h3
theorem Pop.sifted {f hi m : Nat} {xs ys : List Nat} (hf : f + hi ≤ xs.length) (hm : m ≤ hi) (hs : Sw f (f + m) xs ys) (hh : Heap f 0 m ys)
    (h2 : ∀ i j, m ≤ i → i ≤ j → j < hi → hp f xs i ≤ hp f xs j) (h3 : ∀ i j, i < m → m ≤ j → j < hi → hp f xs i ≤ hp f xs j) : Pop f hi m ys := by
  have e : ∀ j, m ≤ j → hp f ys j = hp f xs j := fun j hj => by unfold hp kA; rw [hs.out (f + j) (by omega)]
  refine ⟨hh, fun i j g1 g2 g3 => by rw [e i g1, e j (by omega)]; exact h2 i j g1 g2 g3, fun i j g1 g2 g3 => ?_⟩
  rw [e j g2]
  have := hs.all (by omega) (P := fun x => KV .f32 x ≤ hp f xs j) (fun p p1 p2 => by
    have := h3 (p - f) j (by omega) g2 g3
    unfold hp at this
    rw [show f + (p - f) = p by omega] at this
    exact this) (f + i) (by omega) (by omega)
  exact this
theorem Pop.end_ {f hi : Nat} {xs : List Nat} (h : Pop f hi 0 xs) : Srt f (f + hi) xs := fun i j h1 h2 h3 => by
  have := h.srt (i - f) (j - f) (by omega) (by omega) (by omega)
  unfold hp at this
  rwa [show f + (i - f) = i by omega, show f + (j - f) = j by omega] at this
end Go.Proofs.Ytmhhjegceibjoaa
