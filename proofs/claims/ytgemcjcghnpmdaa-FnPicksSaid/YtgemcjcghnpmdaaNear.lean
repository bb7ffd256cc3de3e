/- An alias of few weights of quarters: its shares and others make the weights, nearly. Plain law. -/
import Derived.Test.YtgemcjcghnpmdaaAliasA
import Derived.Test.YtgemcjcghnpmdaaGrid
namespace Go.Proofs.Ytgemcjcghnpmdaa
open Go.RowKit Mag

def sumTo : Nat → (Nat → Int) → Int
  | 0, _ => 0
  | n + 1, f => sumTo n f + f n
theorem sumTo_congr {f g : Nat → Int} : ∀ {n : Nat}, (∀ j, j < n → f j = g j) → sumTo n f = sumTo n g
  | 0, _ => rfl
  | n + 1, h => by unfold sumTo; rw [sumTo_congr (n := n) (fun j hj => h j (by omega)), h n (by omega)]
theorem sumTo_one {f g : Nat → Int} {i : Nat} : ∀ {n : Nat}, i < n → (∀ j, j < n → j ≠ i → f j = g j) → sumTo n f = sumTo n g + (f i - g i)
  | 0, hi, _ => absurd hi (by omega)
  | n + 1, hi, h => by
    unfold sumTo
    by_cases e : i = n
    · subst e
      rw [sumTo_congr (n := i) (fun j hj => h j (by omega) (by omega))]; omega
    · rw [sumTo_one (n := n) (by omega) (fun j hj => h j (by omega)), h n (by omega) (fun e' => e e'.symm)]; omega
theorem sumTo_le {f g : Nat → Int} : ∀ {n : Nat}, (∀ j, j < n → f j ≤ g j) → sumTo n f ≤ sumTo n g
  | 0, _ => Int.le_refl _
  | n + 1, h => by unfold sumTo; have := sumTo_le (n := n) (fun j hj => h j (by omega)); have := h n (by omega); omega
theorem sumTo_const (c : Int) : ∀ n : Nat, sumTo n (fun _ => c) = n * c
  | 0 => by simp [sumTo]
  | n + 1 => by unfold sumTo; rw [sumTo_const c n]; push_cast; rw [Int.add_mul]; omega
theorem sumTo_add (f g : Nat → Int) : ∀ n : Nat, sumTo n (fun j => f j + g j) = sumTo n f + sumTo n g
  | 0 => rfl
  | n + 1 => by unfold sumTo; rw [sumTo_add f g n]; show sumTo n f + sumTo n g + (f n + g n) = _; omega
theorem sumTo_mul (f : Nat → Int) (c : Int) : ∀ n : Nat, sumTo n (fun j => f j * c) = sumTo n f * c
  | 0 => by simp [sumTo]
  | n + 1 => by unfold sumTo; rw [sumTo_mul f c n, Int.add_mul]
theorem sumTo_idx (a : Nat → Int) {i n : Nat} (hi : i < n) : sumTo n (fun j => if j = i then a j else 0) = a i := by
  rw [sumTo_one (g := fun _ => 0) hi (fun j _ h => if_neg h), sumTo_const, if_pos rfl]; simp
theorem sumTo_up {f : Nat → Int} {n i : Nat} {c : Int} (hi : i < n) (h : ∀ j, j < n → -c ≤ f j) (hc : 0 ≤ c) : f i ≤ sumTo n f + n * c := by
  have h1 : sumTo n (fun j => if j = i then f i else -c) ≤ sumTo n f := sumTo_le fun j hj => by
    by_cases e : j = i
    · rw [if_pos e, e]; exact Int.le_refl _
    · rw [if_neg e]; exact h j hj
  rw [sumTo_one (g := fun _ => -c) hi (fun j _ e => if_neg e), sumTo_const, if_pos rfl, Int.mul_neg] at h1
  omega
theorem sumTo_down {f : Nat → Int} {n i : Nat} (hi : i < n) (h : ∀ j, j < n → f j ≤ 0) : sumTo n f ≤ f i := by
  have h1 : sumTo n f ≤ sumTo n (fun j => if j = i then f i else 0) := sumTo_le fun j hj => by
    by_cases e : j = i
    · rw [if_pos e, e]; exact Int.le_refl _
    · rw [if_neg e]; exact h j hj
  rw [sumTo_idx (fun _ => f i) hi] at h1
  exact h1
theorem getD_set {α : Type} (l : List α) {k : Nat} (i : Nat) (x d : α) (hk : k < l.length) : (l.set k x).getD i d = if i = k then x else l.getD i d := by
  rw [List.getD_eq_getElem?_getD, List.getElem?_set, List.getD_eq_getElem?_getD]
  by_cases e : k = i
  · rw [if_pos e, if_pos hk, if_pos e.symm]; rfl
  · rw [if_neg e, if_neg (fun e' => e e'.symm)]
theorem one_In : In .f32 262144 262144 1065353216 := In.const (by decide +kernel)

/-- What number i has in all: its own estimate, and what it takes over of those that are settled. -/
def takeN (n : Nat) (s : AS) (u : Nat → Int) (i : Nat) : Int := sumTo n (fun j => if s.st.getD j true = true ∧ s.ot.getD j 0 = (i : Int) then 262144 - u j else 0)
def restN (n : Nat) (s : AS) (u : Nat → Int) : Int := sumTo n (fun j => if s.st.getD j true = true then 0 else u j - 262144)
/-- The lists of an alias on their way, told in units. -/
structure Nr (n : Nat) (u0 : Nat → Int) (c0 : Int) (m : Nat) (s : AS) (u : Nat → Int) : Prop where
  q : s.q.length = n
  st : s.st.length = n
  sh : s.sh.length = n
  ot : s.ot.length = n
  inq : ∀ i, i < n → In .f32 (u i) (u i + 1) (s.q.getD i 0)
  rng : ∀ i, i < n → -(m : Int) ≤ u i ∧ u i ≤ 4000000 + m
  own : ∀ i, i < n → s.st.getD i true = true → s.sh.getD i 0 = s.q.getD i 0
  self : ∀ i, i < n → s.st.getD i true = false → s.ot.getD i 0 = (i : Int)
  pot : ∀ i, i < n → u0 i ≤ u i + takeN n s u i ∧ u i + takeN n s u i ≤ u0 i + m
  rest : c0 ≤ restN n s u ∧ restN n s u ≤ c0 + m
  small : ∀ i, i < n → s.st.getD i true = true → u i ≤ 262144
theorem Nr.step {n : Nat} {u0 : Nat → Int} {c0 : Int} {m : Nat} {s : AS} {u : Nat → Int} (h : Nr n u0 c0 m s u) (hm : m ≤ 1000) {i k : Nat} (h1 : firstS s.q s.st true = some i) (h2 : firstS s.q s.st false = some k) :
    ∃ u', Nr n u0 c0 (m + 1) (stepS s i k) u' := by
  have g1 := firstS_get h1
  have g2 := firstS_get h2
  have p1 := pick_st (h.st.trans h.q.symm) g1.1 g1.2
  have p2 := pick_st (h.st.trans h.q.symm) g2.1 g2.2
  have hi : i < n := by rw [← h.q]; exact g1.1
  have hk : k < n := by rw [← h.q]; exact g2.1
  have hik : i ≠ k := fun e => by rw [e, p2.2] at p1; cases p1.2
  have sti : s.st.getD i true = false := getD_get p1.1
  have stk : s.st.getD k true = false := getD_get p2.1
  have qi := h.inq i hi
  have qk := h.inq k hk
  have ri := h.rng i hi
  have rk := h.rng k hk
  have hui : u i ≤ 262144 := by
    have hl := p1.2
    unfold ltOne at hl
    rw [flt_KV qi.1 one_In.1] at hl
    exact (qi.of_key_le one_In (Int.le_of_lt (of_decide_eq_true hl))).le
  have huk : 262144 ≤ u k + 1 := by
    have hl := p2.2
    unfold ltOne at hl
    rw [flt_KV qk.1 one_In.1] at hl
    exact (qk.of_key_ge one_In (by have := of_decide_eq_false hl; omega)).le
  have d1 := one_In.sub qi (by unfold lim; omega) (by unfold lim; omega)
  have d2 := qk.sub d1 (by unfold lim; omega) (by unfold lim; omega)
  obtain ⟨v, v1, v2, v3⟩ := d2.floor (by omega)
  refine ⟨fun j => if j = k then v else u j, ?_⟩
  have iq : i < s.q.length := g1.1
  have kq : k < s.q.length := g2.1
  have ist : i < s.st.length := by rw [h.st]; exact hi
  have ish : i < s.sh.length := by rw [h.sh]; exact hi
  have iot : i < s.ot.length := by rw [h.ot]; exact hi
  have est : ∀ j, (stepS s i k).st.getD j true = if j = i then true else s.st.getD j true := fun j => getD_set _ _ _ _ ist
  have eot : ∀ j, (stepS s i k).ot.getD j 0 = if j = i then (k : Int) else s.ot.getD j 0 := fun j => getD_set _ _ _ _ iot
  have esh : ∀ j, (stepS s i k).sh.getD j 0 = if j = i then s.q.getD i 0 else s.sh.getD j 0 := fun j => getD_set _ _ _ _ ish
  have eq_ : ∀ j, (stepS s i k).q.getD j 0 = if j = k then fop .sub .f32 (s.q.getD k 0) (fop .sub .f32 1065353216 (s.q.getD i 0)) else s.q.getD j 0 := fun j => getD_set _ _ _ _ kq
  have htake : ∀ idx : Nat, takeN n (stepS s i k) (fun j => if j = k then v else u j) idx = takeN n s u idx + (if k = idx then 262144 - u i else 0) := by
    intro idx
    unfold takeN
    rw [sumTo_one (g := fun j => if s.st.getD j true = true ∧ s.ot.getD j 0 = (idx : Int) then 262144 - u j else 0) hi ?_]
    · simp only [est, eot, sti, Bool.false_eq_true, false_and, if_false, if_true, true_and]
      rw [if_neg hik]
      by_cases e : k = idx
      · rw [if_pos e, if_pos (by omega)]; omega
      · rw [if_neg e, if_neg (by omega)]; omega
    · intro j hj hji
      simp only [est, eot, if_neg hji]
      by_cases e : j = k
      · rw [e, stk]; simp
      · rw [if_neg e]
  have hrest : restN n (stepS s i k) (fun j => if j = k then v else u j) = restN n s u - (u i - 262144) + (v - u k) := by
    unfold restN
    rw [sumTo_one (g := fun j => if s.st.getD j true = true then 0 else (if j = k then v else u j) - 262144) hi ?_, sumTo_one (f := fun j => if s.st.getD j true = true then 0 else (if j = k then v else u j) - 262144) (g := fun j => if s.st.getD j true = true then 0 else u j - 262144) hk ?_]
    · simp only [est, sti, stk, Bool.false_eq_true, if_false, if_true]
      rw [if_neg hik]; omega
    · intro j hj hjk
      simp only [if_neg hjk]
    · intro j hj hji
      simp only [est, if_neg hji]
  exact {
    q := by show (s.q.set k _).length = n; rw [List.length_set]; exact h.q
    st := by show (s.st.set i _).length = n; rw [List.length_set]; exact h.st
    sh := by show (s.sh.set i _).length = n; rw [List.length_set]; exact h.sh
    ot := by show (s.ot.set i _).length = n; rw [List.length_set]; exact h.ot
    inq := fun j hj => by
      rw [eq_]
      by_cases e : j = k
      · simp only [if_pos e]; exact v3
      · simp only [if_neg e]; exact h.inq j hj
    rng := fun j hj => by
      by_cases e : j = k
      · simp only [if_pos e]; push_cast; omega
      · simp only [if_neg e]; have := h.rng j hj; push_cast; omega
    own := fun j hj hs => by
      rw [esh, eq_]
      by_cases e : j = i
      · subst e; rw [if_pos rfl, if_neg hik]
      · rw [est, if_neg e] at hs
        rw [if_neg e]
        by_cases e2 : j = k
        · subst e2; rw [stk] at hs; cases hs
        · rw [if_neg e2]; exact h.own j hj hs
    self := fun j hj hs => by
      rw [est] at hs
      by_cases e : j = i
      · rw [if_pos e] at hs; cases hs
      · rw [if_neg e] at hs
        rw [eot, if_neg e]; exact h.self j hj hs
    pot := fun j hj => by
      rw [htake j]
      have := h.pot j hj
      by_cases e : j = k
      · subst e; simp only [if_true]; push_cast; omega
      · simp only [if_neg e]; rw [if_neg (fun e' => e e'.symm)]; push_cast; omega
    rest := by rw [hrest]; have := h.rest; push_cast; omega
    small := fun j hj hs => by
      rw [est] at hs
      by_cases e : j = i
      · subst e; simp only [if_neg hik]; exact hui
      · rw [if_neg e] at hs
        have hjk : j ≠ k := fun e2 => by subst e2; rw [stk] at hs; cases hs
        simp only [if_neg hjk]; exact h.small j hj hs }
theorem all_settled {S : List Bool} (h : openN S = 0) (j : Nat) : S.getD j true = true := by
  rw [List.getD_eq_getElem?_getD]
  cases hj : S[j]? with
  | none => rfl
  | some b =>
    cases b with
    | true => rfl
    | false => have := openN_set hj; omega
theorem Nr.run {n : Nat} {u0 : Nat → Int} {c0 : Int} : ∀ (f : Nat) {m : Nat} {s : AS} {u : Nat → Int}, Nr n u0 c0 m s u → m + f ≤ 1000 → openN s.st ≤ f →
    ∃ m' u', m' ≤ m + f ∧ Nr n u0 c0 m' (runS f s) u' ∧ (firstS (runS f s).q (runS f s).st true = none ∨ firstS (runS f s).q (runS f s).st false = none)
  | 0, m, s, u, h, _, ho => ⟨m, u, Nat.le_refl _, h, .inl (firstS_none fun j _ => by unfold pickB; rw [show (runS 0 s).st.getD j true = true from all_settled (by show openN s.st = 0; omega) j]; rfl)⟩
  | f + 1, m, s, u, h, hm, ho => by
    cases h1 : firstS s.q s.st true with
    | none => rw [runS_stop (.inl h1)]; exact ⟨m, u, by omega, h, .inl h1⟩
    | some i =>
      cases h2 : firstS s.q s.st false with
      | none => rw [runS_stop (.inr h2)]; exact ⟨m, u, by omega, h, .inr h2⟩
      | some k =>
        rw [runS_go h1 h2]
        have g1 := firstS_get h1
        have p1 := pick_st (h.st.trans h.q.symm) g1.1 g1.2
        obtain ⟨u', hu'⟩ := h.step (by omega) h1 h2
        obtain ⟨m', u'', a, b, c⟩ := Nr.run f hu' (by omega) (by have := openN_set p1.1; show openN (s.st.set i true) ≤ f; omega)
        exact ⟨m', u'', by omega, b, c⟩
theorem lastSh_get (s : AS) (hl : s.st.length = s.sh.length) (i : Nat) : ∀ k, k ≤ s.sh.length → (lastSh s k).getD i 0 = if i < k ∧ s.st.getD i true = false then 1065353216 else s.sh.getD i 0
  | 0, _ => by rw [if_neg (by omega)]; rfl
  | k + 1, hk => by
    unfold lastSh
    have ih := lastSh_get s hl i k (by omega)
    have hlast : i ≠ k → (if i < k ∧ s.st.getD i true = false then 1065353216 else s.sh.getD i 0) = if i < k + 1 ∧ s.st.getD i true = false then 1065353216 else s.sh.getD i 0 := fun e => by
      by_cases c : i < k ∧ s.st.getD i true = false
      · rw [if_pos c, if_pos ⟨by omega, c.2⟩]
      · rw [if_neg c, if_neg (fun c' => c ⟨by omega, c'.2⟩)]
    by_cases hs : s.st.getD k true = true
    · rw [if_pos hs, ih]
      by_cases e : i = k
      · subst e; rw [if_neg (by omega), if_neg (by rw [hs]; simp)]
      · exact hlast e
    · rw [if_neg hs, getD_set _ _ _ _ (by rw [lastSh_len]; omega), ih]
      have hs' : s.st.getD k true = false := by simpa using hs
      by_cases e : i = k
      · subst e; rw [if_pos rfl, if_pos ⟨by omega, hs'⟩]
      · rw [if_neg e]; exact hlast e

/-! The end. -/
/-- Bounds of the shares, and what number i gets of the first m of them. -/
def chLo (lo hi : Nat → Int) (ot : Nat → Int) (m : Nat) (i : Nat) : Int := sumTo m (fun j => (if j = i then lo j else 0) + (if ot j = (i : Int) then 262144 - hi j else 0))
theorem chLo_step (lo hi ot : Nat → Int) (m i : Nat) : chLo lo hi ot (m + 1) i = chLo lo hi ot m i + ((if m = i then lo m else 0) + (if ot m = (i : Int) then 262144 - hi m else 0)) := rfl
theorem chLo_bd {f g ot : Nat → Int} {n : Nat} (hf : ∀ j, j < n → -1000 ≤ f j ∧ f j ≤ 262145) (hg : ∀ j, j < n → -1000 ≤ g j ∧ g j ≤ 262145) (i : Nat) : ∀ m, m ≤ n → -(2000 * (m : Int)) ≤ chLo f g ot m i ∧ chLo f g ot m i ≤ 530000 * (m : Int)
  | 0, _ => by simp [chLo, sumTo]
  | m + 1, h => by
    rw [chLo_step]
    have := chLo_bd (ot := ot) hf hg i m (by omega)
    have := hf m (by omega)
    have := hg m (by omega)
    push_cast
    split <;> split <;> omega
theorem Nr.end_ {n : Nat} {u0 : Nat → Int} {c0 : Int} {m : Nat} {s : AS} {u : Nat → Int} (h : Nr n u0 c0 m s u) (hm : m ≤ n) (hn : n ≤ 12) (hc : -(n : Int) ≤ c0 ∧ c0 ≤ 0) (he : firstS s.q s.st true = none ∨ firstS s.q s.st false = none) :
    ∃ lo hi : Nat → Int, (∀ j, j < n → In .f32 (lo j) (hi j) ((lastSh s n).getD j 0) ∧ -1000 ≤ lo j ∧ hi j ≤ 262145 ∧ lo j ≤ hi j)
      ∧ (∀ i, i < n → u0 i - 40 ≤ chLo lo hi (fun j => s.ot.getD j 0) n i ∧ chLo hi lo (fun j => s.ot.getD j 0) n i ≤ u0 i + 40) := by
  have hl : ∀ j, j < n → (lastSh s n).getD j 0 = if s.st.getD j true = false then 1065353216 else s.q.getD j 0 := fun j hj => by
    rw [lastSh_get s (h.st.trans h.sh.symm) j n (by rw [h.sh]; exact Nat.le_refl _)]
    by_cases e : s.st.getD j true = false
    · rw [if_pos ⟨hj, e⟩, if_pos e]
    · rw [if_neg (fun c => e c.2), if_neg e]
      exact h.own j hj (by simpa using e)
  have hδ : ∀ i, i < n → s.st.getD i true = false → -(n : Int) ≤ u i - 262144 ∧ u i - 262144 ≤ 2 * (n : Int) := by
    intro i hi hsi
    have hr := h.rest
    unfold restN at hr
    have hval : (if s.st.getD i true = true then 0 else u i - 262144) = u i - 262144 := by rw [if_neg (by rw [hsi]; simp)]
    rcases he with he | he
    · have hall : ∀ j, j < n → -1 ≤ (if s.st.getD j true = true then 0 else u j - 262144) := fun j hj => by
        by_cases e : s.st.getD j true = true
        · rw [if_pos e]; omega
        · rw [if_neg e]
          have hnp : pickB s.q s.st true j = false := by
            unfold firstS at he
            have := List.find?_eq_none.1 he j (List.mem_range.2 (by rw [h.q]; exact hj))
            simpa using this
          unfold pickB at hnp
          have e' : s.st.getD j true = false := by simpa using e
          rw [e'] at hnp
          have hl' : ltOne (s.q.getD j 0) = false := by simpa using hnp
          unfold ltOne at hl'
          rw [flt_KV (h.inq j hj).1 one_In.1] at hl'
          have := ((h.inq j hj).of_key_ge one_In (by have := of_decide_eq_false hl'; omega)).le
          omega
      have up := sumTo_up (c := 1) hi hall (by omega)
      have lw := hall i hi
      rw [hval] at up lw
      omega
    · have hall : ∀ j, j < n → (if s.st.getD j true = true then 0 else u j - 262144) ≤ 0 := fun j hj => by
        by_cases e : s.st.getD j true = true
        · rw [if_pos e]; omega
        · rw [if_neg e]
          have hnp : pickB s.q s.st false j = false := by
            unfold firstS at he
            have := List.find?_eq_none.1 he j (List.mem_range.2 (by rw [h.q]; exact hj))
            simpa using this
          unfold pickB at hnp
          have e' : s.st.getD j true = false := by simpa using e
          rw [e'] at hnp
          have hl' : ltOne (s.q.getD j 0) = true := by simpa using hnp
          unfold ltOne at hl'
          rw [flt_KV (h.inq j hj).1 one_In.1] at hl'
          have := ((h.inq j hj).of_key_le one_In (Int.le_of_lt (of_decide_eq_true hl'))).le
          omega
      have lw := sumTo_down hi hall
      have up := hall i hi
      rw [hval] at up lw
      omega
  refine ⟨fun j => if s.st.getD j true = false then 262144 else u j, fun j => if s.st.getD j true = false then 262144 else u j + 1, ?_, ?_⟩
  · intro j hj
    rw [hl j hj]
    by_cases e : s.st.getD j true = false
    · simp only [if_pos e]; exact ⟨one_In, by omega, by omega, by omega⟩
    · simp only [if_neg e]; have := h.rng j hj; have := h.small j hj (by simpa using e); exact ⟨h.inq j hj, by omega, by omega, by omega⟩
  · intro i hi
    have hp := h.pot i hi
    unfold chLo
    rw [sumTo_add, sumTo_add, sumTo_idx _ hi, sumTo_idx _ hi]
    have hlo : takeN n s u i - n ≤ sumTo n (fun j => if s.ot.getD j 0 = (i : Int) then 262144 - (if s.st.getD j true = false then 262144 else u j + 1) else 0) := by
      have := sumTo_le (n := n) (f := fun j => (if s.st.getD j true = true ∧ s.ot.getD j 0 = (i : Int) then 262144 - u j else 0) + -1) (g := fun j => if s.ot.getD j 0 = (i : Int) then 262144 - (if s.st.getD j true = false then 262144 else u j + 1) else 0) (fun j _ => by
        by_cases e : s.st.getD j true = true
        · by_cases e2 : s.ot.getD j 0 = (i : Int)
          · rw [if_pos ⟨e, e2⟩, if_pos e2, if_neg (by rw [e]; simp)]; omega
          · rw [if_neg (fun c => e2 c.2), if_neg e2]; omega
        · rw [if_neg (fun c => e c.1), if_pos (show s.st.getD j true = false by simpa using e)]
          split <;> omega)
      rw [sumTo_add, sumTo_const] at this
      unfold takeN
      omega
    have hhi : sumTo n (fun j => if s.ot.getD j 0 = (i : Int) then 262144 - (if s.st.getD j true = false then 262144 else u j) else 0) = takeN n s u i := by
      unfold takeN
      refine sumTo_congr fun j _ => ?_
      by_cases e : s.st.getD j true = true
      · have e' : ¬ s.st.getD j true = false := by rw [e]; simp
        by_cases e2 : s.ot.getD j 0 = (i : Int)
        · rw [if_pos e2, if_neg e', if_pos (show s.st.getD j true = true ∧ s.ot.getD j 0 = (i : Int) from ⟨e, e2⟩)]
        · rw [if_neg e2, if_neg (fun c => e2 c.2)]
      · have e' : s.st.getD j true = false := by simpa using e
        rw [if_neg (show ¬ (s.st.getD j true = true ∧ s.ot.getD j 0 = (i : Int)) from fun c => e c.1), if_pos e']
        split <;> omega
    rw [hhi]
    by_cases e : s.st.getD i true = false
    · have := hδ i hi e
      simp only [if_pos e]; omega
    · simp only [if_neg e]; omega

/-! The beginning. -/
/-- A weight of k quarters. -/
def wtF (k : Nat) : Nat := fop .quo .f32 (floatOfInt .f32 (k : Int)) 1082130432
theorem wt_all : (List.range 17).all (fun k => inB_ .f32 (65536 * k) (65536 * k) (wtF k)) = true := by decide +kernel
theorem wt_mul_all : (List.range 17).all (fun k => (List.range 13).all fun n => inB_ .f32 (65536 * (k * n)) (65536 * (k * n)) (fop .mul .f32 (wtF k) (floatOfInt .f32 (n : Int)))) = true := by decide +kernel
theorem wt_In {k : Nat} (hk : k < 17) : In .f32 (65536 * k) (65536 * k) (wtF k) := In.const (List.all_eq_true.1 wt_all k (List.mem_range.2 hk))
theorem wt_mul {k n : Nat} (hk : k < 17) (hn : n < 13) : In .f32 (65536 * (k * n)) (65536 * (k * n)) (fop .mul .f32 (wtF k) (floatOfInt .f32 (n : Int))) :=
  In.const (List.all_eq_true.1 (List.all_eq_true.1 wt_mul_all k (List.mem_range.2 hk)) n (List.mem_range.2 hn))
def sumL (ks : List Nat) : Nat := ks.foldl (· + ·) 0
theorem sumF_In : ∀ (ks : List Nat) (x a : Nat), In .f32 (65536 * a) (65536 * a) x → (∀ k ∈ ks, k < 17) → a + 16 * ks.length ≤ 192 → ∃ b : Nat, b = ks.foldl (· + ·) a ∧ b ≤ a + 16 * ks.length ∧ In .f32 (65536 * b) (65536 * b) ((ks.map wtF).foldl (fun s x => fop .add .f32 s x) x)
  | [], x, a, h, _, _ => ⟨a, rfl, by simp, h⟩
  | k :: ks, x, a, h, hk, hb => by
    have hk0 := hk k (by simp)
    rw [List.length_cons] at hb
    have := h.add (wt_In hk0) (by unfold lim; omega) (by unfold lim; omega)
    have e : (65536 * (a : Int) + 65536 * (k : Int)) = 65536 * ((a + k : Nat) : Int) := by push_cast; omega
    rw [e] at this
    obtain ⟨b, b1, b2, b3⟩ := sumF_In ks _ (a + k) this (fun j hj => hk j (by simp [hj])) (by omega)
    exact ⟨b, b1, by rw [List.length_cons]; omega, b3⟩
theorem foldl_acc : ∀ (ks : List Nat) (a : Nat), ks.foldl (· + ·) a = a + ks.foldl (· + ·) 0
  | [], a => by simp
  | k :: ks, a => by rw [List.foldl_cons, List.foldl_cons, foldl_acc ks (a + k), foldl_acc ks (0 + k)]; omega
theorem sumTo_head (f : Nat → Int) : ∀ n : Nat, sumTo (n + 1) f = f 0 + sumTo n (fun j => f (j + 1))
  | 0 => by simp [sumTo]
  | n + 1 => by
    show sumTo (n + 1) f + f (n + 1) = f 0 + (sumTo n (fun j => f (j + 1)) + f (n + 1))
    rw [sumTo_head f n]; omega
theorem sumL_to : ∀ (ks : List Nat), (sumL ks : Int) = sumTo ks.length (fun j => (ks.getD j 0 : Int))
  | [] => rfl
  | k :: ks => by
    have e : sumL (k :: ks) = k + sumL ks := by unfold sumL; rw [List.foldl_cons, foldl_acc ks (0 + k)]; omega
    rw [List.length_cons, sumTo_head, e]
    have ih := sumL_to ks
    have e2 : (fun j => (((k :: ks).getD (j + 1) 0 : Nat) : Int)) = fun j => ((ks.getD j 0 : Nat) : Int) := by funext j; simp
    rw [e2, ← ih]
    simp
theorem openN_rep (n : Nat) : openN (List.replicate n false) ≤ n := by have := openN_le (List.replicate n false); rwa [List.length_replicate] at this
/-- The shares and others of an alias of weights of quarters. -/
theorem alias_near {ks : List Nat} (h1 : 1 ≤ ks.length) (h12 : ks.length ≤ 12) (hk : ∀ k ∈ ks, 1 ≤ k ∧ k < 17) :
    ∃ (lo hi : Nat → Int) (u0 : Nat → Int), (∀ j, j < ks.length → In .f32 (lo j) (hi j) ((lastSh (doneS (ks.map wtF)) ks.length).getD j 0) ∧ -1000 ≤ lo j ∧ hi j ≤ 262145 ∧ lo j ≤ hi j)
      ∧ (∀ i, i < ks.length → u0 i - 40 ≤ chLo lo hi (fun j => (doneS (ks.map wtF)).ot.getD j 0) ks.length i ∧ chLo hi lo (fun j => (doneS (ks.map wtF)).ot.getD j 0) ks.length i ≤ u0 i + 40)
      ∧ (∀ i, i < ks.length → u0 i * (sumL ks : Int) ≤ (ks.getD i 0 : Int) * ks.length * 262144 ∧ (ks.getD i 0 : Int) * ks.length * 262144 < (u0 i + 1) * (sumL ks : Int)) := by
  obtain ⟨n, hn⟩ : ∃ n, ks.length = n := ⟨_, rfl⟩
  rw [hn] at h1 h12 ⊢
  obtain ⟨S, hS⟩ : ∃ S, sumL ks = S := ⟨_, rfl⟩
  obtain ⟨b, b1, b2, b3⟩ := sumF_In ks 0 0 (In.const (by decide +kernel)) (fun k hk' => (hk k hk').2) (by omega)
  have hbS : b = S := by rw [b1, ← hS]; rfl
  subst hbS
  have hsum : In .f32 (65536 * (b : Int)) (65536 * (b : Int)) (sumF (ks.map wtF)) := b3
  have hkj : ∀ j, j < n → 1 ≤ ks.getD j 0 ∧ ks.getD j 0 < 17 := fun j hj => by
    have e : ks[j]? = some (ks[j]'(by omega)) := List.getElem?_eq_getElem _
    rw [getD_get e]
    exact hk _ (List.getElem_mem _)
  have hpos : ∀ j, j < n → (ks.getD j 0 : Int) ≤ b := fun j hj => by
    have := sumL_to ks
    rw [hS, hn] at this
    rw [this]
    have := sumTo_up (f := fun j => (ks.getD j 0 : Int)) (c := 0) hj (fun j _ => by omega) (by omega)
    simpa using this
  have hb1 : 1 ≤ b := by have := hpos 0 (by omega); have := (hkj 0 (by omega)).1; omega
  obtain ⟨u0, hu0⟩ : ∃ u0 : Nat → Int, u0 = fun i => ((ks.getD i 0 : Int) * n * 262144) / b := ⟨_, rfl⟩
  have hfl : ∀ i, u0 i * (b : Int) ≤ (ks.getD i 0 : Int) * n * 262144 ∧ (ks.getD i 0 : Int) * n * 262144 < (u0 i + 1) * (b : Int) := fun i => by
    rw [hu0]
    exact ⟨Int.ediv_mul_le _ (by omega), Int.lt_ediv_add_one_mul_self _ (by omega)⟩
  have hr0 : ∀ i, i < n → 0 ≤ u0 i ∧ u0 i ≤ 3145728 := fun i hi => by
    have hki := hkj i hi
    have hkb := hpos i hi
    refine ⟨?_, ?_⟩
    · rw [hu0]; exact Int.ediv_nonneg (Int.mul_nonneg (Int.mul_nonneg (by omega) (by omega)) (by omega)) (by omega)
    · have h1 := (hfl i).1
      have h2 : (ks.getD i 0 : Int) * n * 262144 ≤ 3145728 * b := by
        calc (ks.getD i 0 : Int) * n * 262144 ≤ (b : Int) * 12 * 262144 := Int.mul_le_mul_of_nonneg_right (Int.mul_le_mul hkb (by omega) (by omega) (by omega)) (by omega)
          _ = 3145728 * b := by omega
      exact Int.le_of_mul_le_mul_right (Int.le_trans h1 h2) (by omega)
  have hq : ∀ i, i < n → In .f32 (u0 i) (u0 i + 1) (((ks.map wtF).map (qOf (ks.map wtF))).getD i 0) := fun i hi => by
    have hki := hkj i hi
    have e : ks[i]? = some (ks[i]'(by omega)) := List.getElem?_eq_getElem _
    have e2 : ks.getD i 0 = ks[i]'(by omega) := getD_get e
    have e1 : ((ks.map wtF).map (qOf (ks.map wtF))).getD i 0 = qOf (ks.map wtF) (wtF (ks.getD i 0)) := by
      rw [List.getD_eq_getElem?_getD, List.getElem?_map, List.getElem?_map, e, e2]; rfl
    rw [e1]
    unfold qOf
    rw [List.length_map, hn]
    have hr := hr0 i hi
    have hf := hfl i
    have hp : (0 : Int) < 65536 * ((ks.getD i 0 : Int) * n) := by
      have := Int.mul_pos (show (0 : Int) < (ks.getD i 0 : Int) by omega) (show (0 : Int) < (n : Int) by omega)
      omega
    refine (wt_mul hki.2 (by omega)).quo hsum hp (by omega) hr.1 (by omega) ?_ ?_
    · have : u0 i * (65536 * (b : Int)) = 65536 * (u0 i * b) := by rw [← Int.mul_assoc, Int.mul_comm (u0 i) 65536, Int.mul_assoc]
      rw [this]
      omega
    · have : (u0 i + 1) * (65536 * (b : Int)) = 65536 * ((u0 i + 1) * b) := by rw [← Int.mul_assoc, Int.mul_comm (u0 i + 1) 65536, Int.mul_assoc]
      rw [this]
      omega
  have hstart : Nr n u0 (sumTo n (fun j => u0 j - 262144)) 0 (startS (ks.map wtF)) u0 := {
    q := by simp [startS, hn]
    st := by simp [startS, hn]
    sh := by simp [startS, hn]
    ot := by simp [startS, upFrom_len, hn]
    inq := hq
    rng := fun i hi => by have := hr0 i hi; omega
    own := fun i hi hs => by
      exfalso
      simp [startS, List.getD_eq_getElem?_getD, hn, hi] at hs
    self := fun i hi _ => by
      simp [startS, upFrom, List.getD_eq_getElem?_getD, hn, hi]
    pot := fun i hi => by
      have : takeN n (startS (ks.map wtF)) u0 i = 0 := by
        unfold takeN
        rw [sumTo_congr (g := fun _ => 0) (fun j hj => by
          have : (startS (ks.map wtF)).st.getD j true = false := by simp [startS, List.getD_eq_getElem?_getD, hn, hj]
          rw [this]; simp), sumTo_const]; simp
      rw [this]; simp
    rest := by
      have : restN n (startS (ks.map wtF)) u0 = sumTo n (fun j => u0 j - 262144) := by
        unfold restN
        refine sumTo_congr fun j hj => ?_
        have : (startS (ks.map wtF)).st.getD j true = false := by simp [startS, List.getD_eq_getElem?_getD, hn, hj]
        rw [this]; simp
      rw [this]; simp
    small := fun i hi hs => by
      exfalso
      simp [startS, List.getD_eq_getElem?_getD, hn, hi] at hs }
  obtain ⟨m, u, hm, hN, he⟩ := hstart.run n (by omega) (by show openN (List.replicate _ false) ≤ n; rw [List.length_map, hn]; exact openN_rep n)
  have hc : -(n : Int) ≤ sumTo n (fun j => u0 j - 262144) ∧ sumTo n (fun j => u0 j - 262144) ≤ 0 := by
    have e : sumTo n (fun j => u0 j - 262144) = sumTo n u0 - n * 262144 := by
      have := sumTo_add u0 (fun _ => -262144) n
      rw [sumTo_const] at this
      rw [show (fun j => u0 j - 262144) = (fun j => u0 j + -262144) from rfl, this]; omega
    have hks : sumTo n (fun j => (ks.getD j 0 : Int) * n * 262144) = b * n * 262144 := by
      rw [sumTo_mul (fun j => (ks.getD j 0 : Int) * n) 262144, sumTo_mul (fun j => (ks.getD j 0 : Int)) n]
      have := sumL_to ks
      rw [hS, hn] at this
      rw [← this]
    have l1 := sumTo_le (n := n) (f := fun j => u0 j * (b : Int)) (g := fun j => (ks.getD j 0 : Int) * n * 262144) (fun j _ => (hfl j).1)
    have l2 := sumTo_le (n := n) (f := fun j => (ks.getD j 0 : Int) * n * 262144) (g := fun j => (u0 j + 1) * (b : Int)) (fun j _ => Int.le_of_lt (hfl j).2)
    rw [hks, sumTo_mul] at l1
    rw [hks, sumTo_mul, sumTo_add, sumTo_const] at l2
    have c1 : sumTo n u0 ≤ n * 262144 := by
      have : sumTo n u0 * b ≤ (n * 262144) * b := by
        calc sumTo n u0 * b ≤ b * n * 262144 := l1
          _ = (n * 262144) * b := by rw [Int.mul_assoc, Int.mul_comm]
      exact Int.le_of_mul_le_mul_right this (by omega)
    have c2 : (n : Int) * 262144 ≤ sumTo n u0 + n * 1 := by
      have : (n * 262144) * (b : Int) ≤ (sumTo n u0 + n * 1) * b := by
        calc (n * 262144) * (b : Int) = b * n * 262144 := by rw [Int.mul_assoc (b : Int), Int.mul_comm (b : Int)]
          _ ≤ _ := l2
      exact Int.le_of_mul_le_mul_right this (by omega)
    omega
  obtain ⟨lo, hi, hlh, hch⟩ := hN.end_ (by omega) h12 hc he
  refine ⟨lo, hi, u0, ?_, ?_, fun i _ => by have := hfl i; rw [hS]; exact this⟩
  · have : doneS (ks.map wtF) = runS n (startS (ks.map wtF)) := by unfold doneS; rw [List.length_map, hn]
    rw [this]; exact hlh
  · have : doneS (ks.map wtF) = runS n (startS (ks.map wtF)) := by unfold doneS; rw [List.length_map, hn]
    rw [this]; exact hch
end Go.Proofs.Ytgemcjcghnpmdaa
