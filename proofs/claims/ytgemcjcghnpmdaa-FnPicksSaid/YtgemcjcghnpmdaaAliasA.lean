/- AliasOf: plain law: the lists of an alias, step by step. -/
import Derived.Test.YtgemcjcghnpmdaaAliasP
import Derived.Test.YtgemcjcghnpmdaaAlias
import Derived.Test.YtgemcjcghnpmdaaRange
namespace Go.Proofs.Ytgemcjcghnpmdaa
open Go.RowKit Mag
structure AS where
  q : List Nat
  st : List Bool
  sh : List Nat
  ot : List Int
/-- Whether number i is not settled and is small, or is not. -/
def pickB (q : List Nat) (st : List Bool) (small : Bool) (i : Nat) : Bool := !st.getD i true && (ltOne (q.getD i 0) == small)
def firstS (q : List Nat) (st : List Bool) (small : Bool) : Option Nat := (List.range q.length).find? (pickB q st small)
theorem firstS_some {q : List Nat} {st : List Bool} {small : Bool} {i : Nat} (hi : i < q.length) (h : pickB q st small i = true) (hb : ∀ j, j < i → pickB q st small j = false) : firstS q st small = some i := by
  unfold firstS
  rw [List.find?_range_eq_some]
  exact ⟨h, List.mem_range.2 hi, fun j hj => by rw [hb j hj]; rfl⟩
theorem firstS_none {q : List Nat} {st : List Bool} {small : Bool} (hb : ∀ j, j < q.length → pickB q st small j = false) : firstS q st small = none := by
  unfold firstS
  rw [List.find?_eq_none]
  intro j hj
  rw [hb j (List.mem_range.1 hj)]
  simp
theorem firstS_get {q : List Nat} {st : List Bool} {small : Bool} {i : Nat} (h : firstS q st small = some i) : i < q.length ∧ pickB q st small i = true := by
  unfold firstS at h
  rw [List.find?_range_eq_some] at h
  exact ⟨List.mem_range.1 h.2.1, h.1⟩
def idxI : Option Nat → Int
  | some i => i
  | none => -1
def stepS (s : AS) (i k : Nat) : AS :=
  ⟨s.q.set k (fop .sub .f32 (s.q.getD k 0) (fop .sub .f32 1065353216 (s.q.getD i 0))), s.st.set i true, s.sh.set i (s.q.getD i 0), s.ot.set i k⟩
def runS : Nat → AS → AS
  | 0, s => s
  | f + 1, s => match firstS s.q s.st true, firstS s.q s.st false with
    | some i, some k => runS f (stepS s i k)
    | _, _ => s
theorem runS_stop {f : Nat} {s : AS} (h : firstS s.q s.st true = none ∨ firstS s.q s.st false = none) : runS f s = s := by
  cases f with
  | zero => rfl
  | succ f =>
    unfold runS
    rcases h with h | h
    · rw [h]
    · rw [h]
      cases firstS s.q s.st true <;> rfl
theorem runS_go {f : Nat} {s : AS} {i k : Nat} (h1 : firstS s.q s.st true = some i) (h2 : firstS s.q s.st false = some k) : runS (f + 1) s = runS f (stepS s i k) := by
  conv => lhs; unfold runS
  rw [h1, h2]
def openN (S : List Bool) : Nat := S.countP (fun b => !b)
theorem openN_le (S : List Bool) : openN S ≤ S.length := List.countP_le_length
theorem openN_set {S : List Bool} {i : Nat} (h : S[i]? = some false) : openN (S.set i true) + 1 = openN S := by
  induction S generalizing i with
  | nil => simp at h
  | cons b S ih =>
    cases i with
    | zero =>
      simp only [List.getElem?_cons_zero, Option.some.injEq] at h
      subst h
      simp [openN]
    | succ i =>
      rw [List.getElem?_cons_succ] at h
      have := ih h
      unfold openN at this ⊢
      rw [List.set_cons_succ, List.countP_cons, List.countP_cons]
      omega
theorem pick_st {q : List Nat} {st : List Bool} {small : Bool} {i : Nat} (hl : st.length = q.length) (hi : i < q.length) (h : pickB q st small i = true) : st[i]? = some false ∧ ltOne (q.getD i 0) = small := by
  unfold pickB at h
  rw [Bool.and_eq_true] at h
  have e : st[i]? = some (st[i]'(by omega)) := List.getElem?_eq_getElem _
  have h1 := h.1
  rw [List.getD_eq_getElem?_getD, e, Option.getD_some] at h1
  refine ⟨by rw [e]; simpa using h1, by simpa using h.2⟩
/-- What holds of the lists all along. -/
structure ASok (n : Nat) (s : AS) : Prop where
  q : s.q.length = n
  st : s.st.length = n
  sh : s.sh.length = n
  ot : s.ot.length = n
  okq : ∀ (i x : Nat), s.q[i]? = some x → okQ x
  oks : ∀ (i x : Nat), s.st[i]? = some true → s.sh[i]? = some x → partB x = true
  oko : ∀ (i : Nat) (y : Int), s.ot[i]? = some y → 0 ≤ y ∧ y < (n : Int)
theorem getD_get {α : Type} {xs : List α} {i : Nat} {x d : α} (h : xs[i]? = some x) : xs.getD i d = x := by rw [List.getD_eq_getElem?_getD, h]; rfl
theorem ASok.step {n : Nat} {s : AS} (h : ASok n s) {i k : Nat} (hi : i < n) (hk : k < n) (h1 : ltOne (s.q.getD i 0) = true) (h2 : ltOne (s.q.getD k 0) = false) : ASok n (stepS s i k) := by
  have hqi : s.q[i]? = some (s.q.getD i 0) := by
    have e : s.q[i]? = some (s.q[i]'(by rw [h.q]; exact hi)) := List.getElem?_eq_getElem _
    rw [e, getD_get e]
  have hqk : s.q[k]? = some (s.q.getD k 0) := by
    have e : s.q[k]? = some (s.q[k]'(by rw [h.q]; exact hk)) := List.getElem?_eq_getElem _
    rw [e, getD_get e]
  have oi := h.okq i _ hqi
  have ok := h.okq k _ hqk
  refine ⟨by simp [stepS, h.q], by simp [stepS, h.st], by simp [stepS, h.sh], by simp [stepS, h.ot], ?_, ?_, ?_⟩
  · intro j x hx
    simp only [stepS, List.getElem?_set] at hx
    by_cases e : k = j
    · rw [if_pos e, if_pos (by rw [h.q]; omega)] at hx
      injection hx with hx
      rw [← hx]
      exact okQ_sub oi h1 ok h2
    · rw [if_neg e] at hx; exact h.okq j x hx
  · intro j x hs hx
    simp only [stepS, List.getElem?_set] at hs hx
    by_cases e : i = j
    · rw [if_pos e, if_pos (by rw [h.sh]; omega)] at hx
      injection hx with hx
      rw [← hx]
      have := small_rn oi h1
      exact part_of_rn (this.weak (Int.le_refl _) (by omega))
    · rw [if_neg e] at hs hx; exact h.oks j x hs hx
  · intro j y hy
    simp only [stepS, List.getElem?_set] at hy
    by_cases e : i = j
    · rw [if_pos e, if_pos (by rw [h.ot]; omega)] at hy
      injection hy with hy
      omega
    · rw [if_neg e] at hy; exact h.oko j y hy
theorem ASok.run {n : Nat} : ∀ (f : Nat) {s : AS}, ASok n s → ASok n (runS f s)
  | 0, _, h => h
  | f + 1, s, h => by
    cases h1 : firstS s.q s.st true with
    | none => rw [runS_stop (.inl h1)]; exact h
    | some i =>
      cases h2 : firstS s.q s.st false with
      | none => rw [runS_stop (.inr h2)]; exact h
      | some k =>
        rw [runS_go h1 h2]
        have g1 := firstS_get h1
        have g2 := firstS_get h2
        have p1 := pick_st (h.st.trans h.q.symm) g1.1 g1.2
        have p2 := pick_st (h.st.trans h.q.symm) g2.1 g2.2
        exact ASok.run f (h.step (by rw [← h.q]; exact g1.1) (by rw [← h.q]; exact g2.1) p1.2 p2.2)
/-- The first estimate of a share. -/
def qOf (xs : List Nat) (x : Nat) : Nat := fop .quo .f32 (fop .mul .f32 x (floatOfInt .f32 xs.length)) (sumF xs)
theorem len_float : ∀ n : Nat, n < 65 → (decide (rungW Ieee.single (floatOfInt .f32 n) < Ieee.single.infRung) && !negW Ieee.single (floatOfInt .f32 n)) = true := by
  decide +kernel
theorem qOf_ok {xs : List Nat} (h : picksB xs = true) {x : Nat} (hx : x ∈ xs) : okQ (qOf xs x) := by
  unfold picksB at h
  simp only [Bool.and_eq_true] at h
  obtain ⟨h1, h2, h3⟩ := h
  have hn := inB_true h1
  unfold allP at h2
  rw [List.all_eq_true] at h2
  obtain ⟨x1, x2⟩ := nonneg_KV' (h2 x hx)
  obtain ⟨s1, s2⟩ := pos_KV' h3
  have hl := len_float xs.length (by omega)
  simp only [Bool.and_eq_true, decide_eq_true_eq, Bool.not_eq_true'] at hl
  exact okQ_quo (okQ_mul x1 x2 hl.1 hl.2) s1 s2
def startS (xs : List Nat) : AS := ⟨xs.map (qOf xs), List.replicate xs.length false, List.replicate xs.length 0, upFrom 0 xs.length⟩
theorem startS_ok {xs : List Nat} (h : picksB xs = true) : ASok xs.length (startS xs) := by
  refine ⟨by simp [startS], by simp [startS], by simp [startS], by simp [startS, upFrom_len], ?_, ?_, ?_⟩
  · intro i x hx
    have := List.mem_of_getElem? hx
    simp only [startS, List.mem_map] at this
    obtain ⟨y, hy, rfl⟩ := this
    exact qOf_ok h hy
  · intro i x hs
    have := List.mem_of_getElem? hs
    simp [startS] at this
  · intro i y hy
    have := List.mem_of_getElem? hy
    simp only [startS, upFrom, List.mem_map, List.mem_range] at this
    obtain ⟨j, hj, rfl⟩ := this
    omega
/-- Those that are not settled have all of it. -/
def lastSh (s : AS) : Nat → List Nat
  | 0 => s.sh
  | k + 1 => if s.st.getD k true then lastSh s k else (lastSh s k).set k 1065353216
theorem lastSh_len (s : AS) : ∀ k, (lastSh s k).length = s.sh.length
  | 0 => rfl
  | k + 1 => by unfold lastSh; split <;> simp [lastSh_len s k]
theorem lastSh_part {n : Nat} {s : AS} (h : ASok n s) : ∀ k, k ≤ n → ∀ (i x : Nat), (i < k ∨ s.st[i]? = some true) → (lastSh s k)[i]? = some x → partB x = true
  | 0, _, i, x, hi, hx => by
    rcases hi with hi | hi
    · omega
    · exact h.oks i x hi hx
  | k + 1, hk, i, x, hi, hx => by
    have e : s.st[k]? = some (s.st[k]'(by rw [h.st]; omega)) := List.getElem?_eq_getElem _
    unfold lastSh at hx
    rw [getD_get e] at hx
    by_cases hs : (s.st[k]'(by rw [h.st]; omega)) = true
    · rw [if_pos hs] at hx
      refine lastSh_part h k (by omega) i x ?_ hx
      rcases hi with hi | hi
      · by_cases e2 : i = k
        · subst e2; right; rw [e, hs]
        · left; omega
      · exact .inr hi
    · rw [if_neg hs, List.getElem?_set] at hx
      by_cases e2 : k = i
      · rw [if_pos e2, if_pos (by rw [lastSh_len, h.sh]; omega)] at hx
        injection hx with hx
        rw [← hx]
        decide +kernel
      · rw [if_neg e2] at hx
        refine lastSh_part h k (by omega) i x ?_ hx
        rcases hi with hi | hi
        · left; omega
        · exact .inr hi
def doneS (xs : List Nat) : AS := runS xs.length (startS xs)
def aliasR (xs : List Nat) : Option (List Nat × List Int) := if picksB xs then some (lastSh (doneS xs) xs.length, (doneS xs).ot) else none
theorem aliasR_valid {xs : List Nat} (h : picksB xs = true) : aliasB (lastSh (doneS xs) xs.length) (doneS xs).ot = true := by
  have hd := (startS_ok h).run xs.length
  have hl : (lastSh (doneS xs) xs.length).length = xs.length := (lastSh_len _ _).trans hd.sh
  have hp := h
  unfold picksB at hp
  simp only [Bool.and_eq_true] at hp
  refine aliasB_true (by rw [hl]; exact hp.1) (by rw [hl]; exact hd.ot) ?_ ?_
  · intro j x hx
    exact lastSh_part hd xs.length (Nat.le_refl _) j x (.inl (by rw [← hl]; exact (List.getElem?_eq_some_iff.1 hx).1)) hx
  · intro j y hy
    rw [hl]
    have := hd.oko j y hy
    exact inB_mk (by omega)
end Go.Proofs.Ytgemcjcghnpmdaa
