/- CodeOfTree: plain law: leaves taken away one by one from the edges of a tree, and the tree of a code. No program in sight. -/
import Derived.Test.YtgkbkbmhdhlffaaBase
namespace Go.Proofs.Ytgkbkbmhdhlffaa
abbrev Ed := Nat × Nat
def touch (v : Nat) (e : Ed) : Bool := e.1 == v || e.2 == v
def deg (E : List Ed) (v : Nat) : Nat := E.countP (touch v)
def other (v : Nat) (e : Ed) : Nat := if e.1 = v then e.2 else e.1
def leafOf (E : List Ed) (n : Nat) : Option Nat := (List.range n).find? fun v => deg E v == 1
def without (E : List Ed) (v : Nat) : List Ed := E.filter fun e => !touch v e
/-- k leaves are taken away: the numbers on which they hang, and what is left. -/
def strip (n : Nat) : Nat → List Ed → Option (List Nat × List Ed)
  | 0, E => some ([], E)
  | k + 1, E => match leafOf E n with
    | none => none
    | some v => match E.find? (touch v) with
      | none => none
      | some e => (strip n k (without E v)).map fun r => (other v e :: r.1, r.2)
/-- Whatever is the same at both ends of each edge is the same at all numbers. -/
def Conn (E : List Ed) (V : List Nat) : Prop := ∀ P : Nat → Bool, (∀ e ∈ E, P e.1 = P e.2) → ∀ u ∈ V, ∀ v ∈ V, P u = P v
/-- Edges between different ones of the numbers V. -/
structure Gr (E : List Ed) (V : List Nat) (n : Nat) : Prop where
  nd : V.Nodup
  lt : ∀ v ∈ V, v < n
  ends : ∀ e ∈ E, e.1 ∈ V ∧ e.2 ∈ V ∧ e.1 ≠ e.2
theorem touch_1 (e : Ed) : touch e.1 e = true := by simp [touch]
theorem touch_2 (e : Ed) : touch e.2 e = true := by simp [touch]
theorem touch_iff {v : Nat} {e : Ed} : touch v e = true ↔ e.1 = v ∨ e.2 = v := by simp [touch]
theorem deg_out {E : List Ed} {V : List Nat} {n v : Nat} (h : Gr E V n) (hv : v ∉ V) : deg E v = 0 := by
  unfold deg
  rw [List.countP_eq_zero]
  intro e he
  have := h.ends e he
  rw [touch_iff]
  rintro (e1 | e1)
  · rw [e1] at this; exact hv this.1
  · rw [e1] at this; exact hv this.2.1
theorem deg_without {E : List Ed} {v u : Nat} {e : Ed} (hd : deg E v = 1) (he : E.find? (touch v) = some e) : deg E u = deg (without E v) u + (if touch u e then 1 else 0) := by
  unfold deg without at *
  induction E with
  | nil => cases he
  | cons x E ih =>
    rw [List.find?_cons] at he
    cases hx : touch v x with
    | true =>
      rw [hx] at he
      injection he with he
      subst he
      rw [List.countP_cons_of_pos hx] at hd
      have h0 : E.countP (touch v) = 0 := by omega
      have hf : E.filter (fun e => !touch v e) = E := by
        rw [List.filter_eq_self]
        intro a ha
        rw [List.countP_eq_zero] at h0
        have := h0 a ha
        simpa using this
      rw [List.filter_cons_of_neg (by simp [hx]), hf, List.countP_cons]
    | false =>
      rw [hx] at he
      rw [List.countP_cons_of_neg (by simp [hx])] at hd
      have ih' := ih hd he
      rw [List.filter_cons_of_pos (by simp [hx]), List.countP_cons, List.countP_cons, ih']
      omega
theorem len_without {E : List Ed} {v : Nat} (hd : deg E v = 1) : (without E v).length + 1 = E.length := by
  unfold deg without at *
  have := List.length_eq_countP_add_countP (p := touch v) (l := E)
  rw [hd] at this
  rw [← List.countP_eq_length_filter]
  have e : E.countP (fun e => !touch v e) = E.countP (fun a => decide (¬touch v a = true)) := by
    apply List.countP_congr
    intro a _
    cases touch v a <;> simp
  rw [e]
  omega
theorem leaf_get {E : List Ed} {n v : Nat} (h : leafOf E n = some v) : v < n ∧ deg E v = 1 ∧ ∀ u, u < v → deg E u ≠ 1 := by
  unfold leafOf at h
  rw [List.find?_range_eq_some] at h
  refine ⟨List.mem_range.1 h.2.1, by simpa using h.1, fun u hu => ?_⟩
  have := h.2.2 u hu
  simpa using this
theorem leaf_some {E : List Ed} {n v : Nat} (hv : v < n) (h : deg E v = 1) (hb : ∀ u, u < v → deg E u ≠ 1) : leafOf E n = some v := by
  unfold leafOf
  rw [List.find?_range_eq_some]
  exact ⟨by simpa using h, List.mem_range.2 hv, fun u hu => by simpa using hb u hu⟩
theorem leaf_ex {E : List Ed} {n v : Nat} (hv : v < n) (h : deg E v = 1) : ∃ u, leafOf E n = some u := by
  cases hl : leafOf E n with
  | some u => exact ⟨u, rfl⟩
  | none =>
    unfold leafOf at hl
    rw [List.find?_eq_none] at hl
    have := hl v (List.mem_range.2 hv)
    simp [h] at this
theorem edge_ex {E : List Ed} {v : Nat} (h : deg E v = 1) : ∃ e, E.find? (touch v) = some e := by
  cases hf : E.find? (touch v) with
  | some e => exact ⟨e, rfl⟩
  | none =>
    rw [List.find?_eq_none] at hf
    have : deg E v = 0 := by unfold deg; rw [List.countP_eq_zero]; exact hf
    omega
theorem find_mem {E : List Ed} {v : Nat} {e : Ed} (h : E.find? (touch v) = some e) : e ∈ E ∧ touch v e = true := ⟨List.mem_of_find?_eq_some h, List.find?_some h⟩
/-- The only edge at a leaf. -/
theorem only_edge {E : List Ed} {v : Nat} {e x : Ed} (hd : deg E v = 1) (he : E.find? (touch v) = some e) (hx : x ∈ E) (ht : touch v x = true) : x = e := by
  induction E with
  | nil => cases he
  | cons y E ih =>
    rw [List.find?_cons] at he
    unfold deg at hd ih
    cases hy : touch v y with
    | true =>
      rw [hy] at he
      injection he with he
      subst he
      rw [List.countP_cons_of_pos hy] at hd
      have h0 : E.countP (touch v) = 0 := by omega
      rw [List.countP_eq_zero] at h0
      rcases List.mem_cons.1 hx with h | h
      · exact h
      · exact absurd ht (h0 x h)
    | false =>
      rw [hy] at he
      rw [List.countP_cons_of_neg (by simp [hy])] at hd
      rcases List.mem_cons.1 hx with h | h
      · rw [h, hy] at ht; cases ht
      · exact ih hd he h
theorem other_ne {V : List Nat} {E : List Ed} {n v : Nat} {e : Ed} (h : Gr E V n) (he : e ∈ E) (ht : touch v e = true) : other v e ∈ V ∧ other v e ≠ v ∧ v ∈ V := by
  have h1 := h.ends e he
  unfold other
  rcases touch_iff.1 ht with e1 | e1
  · rw [if_pos e1]
    exact ⟨h1.2.1, fun e2 => h1.2.2 (by rw [e1, e2]), e1 ▸ h1.1⟩
  · have : e.1 ≠ v := fun e2 => h1.2.2 (by rw [e2, e1])
    rw [if_neg this]
    exact ⟨h1.1, this, e1 ▸ h1.2.1⟩
theorem Gr.step {E : List Ed} {V : List Nat} {n v : Nat} (h : Gr E V n) : Gr (without E v) (V.erase v) n where
  nd := h.nd.erase v
  lt := fun u hu => h.lt u (List.mem_of_mem_erase hu)
  ends := fun e he => by
    unfold without at he
    rw [List.mem_filter] at he
    have h1 := h.ends e he.1
    have h2 : touch v e = false := by simpa using he.2
    have n1 : e.1 ≠ v := fun e1 => by rw [← e1, touch_1] at h2; cases h2
    have n2 : e.2 ≠ v := fun e1 => by rw [← e1, touch_2] at h2; cases h2
    exact ⟨(List.mem_erase_of_ne n1).2 h1.1, (List.mem_erase_of_ne n2).2 h1.2.1, h1.2.2⟩
theorem len_erase {V : List Nat} {v : Nat} (h : v ∈ V) : (V.erase v).length + 1 = V.length := by
  have := List.length_erase_of_mem h
  have := List.length_pos_of_mem h
  omega
/-- A leaf's going leaves the rest joined. -/
theorem Conn.step {E : List Ed} {V : List Nat} {n v : Nat} {e : Ed} (hg : Gr E V n) (hd : deg E v = 1) (he : E.find? (touch v) = some e) (h : Conn E V) : Conn (without E v) (V.erase v) := by
  intro P hP u hu w hw
  have hm := find_mem he
  have ho := other_ne hg hm.1 hm.2
  have hnu : u ≠ v := fun e1 => by rw [e1] at hu; exact hg.nd.not_mem_erase hu
  have hnw : w ≠ v := fun e1 => by rw [e1] at hw; exact hg.nd.not_mem_erase hw
  have := h (fun x => if x = v then P (other v e) else P x) ?_ u (List.mem_of_mem_erase hu) w (List.mem_of_mem_erase hw)
  · simpa [hnu, hnw] using this
  · intro x hx
    cases ht : touch v x with
    | true =>
      have := only_edge hd he hx ht
      subst this
      have h1 := hg.ends x hx
      rcases touch_iff.1 ht with e1 | e1
      · have n2 : x.2 ≠ v := fun e2 => h1.2.2 (by rw [e1, e2])
        simp only [e1, if_true, if_neg n2]
        unfold other; rw [if_pos e1]
      · have n1 : x.1 ≠ v := fun e2 => h1.2.2 (by rw [e2, e1])
        simp only [e1, if_true, if_neg n1]
        unfold other; rw [if_neg n1]
    | false =>
      have n1 : x.1 ≠ v := fun e1 => by rw [← e1, touch_1] at ht; cases ht
      have n2 : x.2 ≠ v := fun e1 => by rw [← e1, touch_2] at ht; cases ht
      simp only [if_neg n1, if_neg n2]
      exact hP x (by unfold without; rw [List.mem_filter]; exact ⟨hx, by simp [ht]⟩)
/-- A leaf hung on joins. -/
theorem Conn.back {E : List Ed} {V : List Nat} {n v : Nat} {e : Ed} (hg : Gr E V n) (he : E.find? (touch v) = some e) (h : Conn (without E v) (V.erase v)) : Conn E V := by
  intro P hP
  have hm := find_mem he
  have ho := other_ne hg hm.1 hm.2
  have hc := h P (fun x hx => hP x (by unfold without at hx; exact (List.mem_filter.1 hx).1))
  have hov : other v e ∈ V.erase v := (List.mem_erase_of_ne ho.2.1).2 ho.1
  have hpv : P v = P (other v e) := by
    have := hP e hm.1
    unfold other
    rcases touch_iff.1 hm.2 with e1 | e1
    · rw [if_pos e1, ← e1]; exact this
    · have n1 : e.1 ≠ v := fun e2 => (hg.ends e hm.1).2.2 (by rw [e2, e1])
      rw [if_neg n1, ← e1]; exact this.symm
  have key : ∀ u ∈ V, P u = P (other v e) := fun u hu => by
    by_cases e1 : u = v
    · rw [e1]; exact hpv
    · exact hc u ((List.mem_erase_of_ne e1).2 hu) _ hov
  intro u hu w hw
  rw [key u hu, key w hw]
/-- The sum of the numbers of edges. -/
def sumDeg (E : List Ed) (V : List Nat) : Nat := (V.map (deg E)).sum
theorem sum_touch {V : List Nat} (hn : V.Nodup) {a : Nat} : (V.map fun v => if a = v then 1 else 0).sum = if a ∈ V then 1 else 0 := by
  induction V with
  | nil => rfl
  | cons x V ih =>
    rw [List.nodup_cons] at hn
    rw [List.map_cons, List.sum_cons, ih hn.2]
    by_cases e : a = x
    · subst e
      simp [hn.1]
    · simp [e]
theorem handshake {E : List Ed} {V : List Nat} {n : Nat} (h : Gr E V n) : sumDeg E V = 2 * E.length := by
  unfold sumDeg
  have hnd := h.nd
  have hends := h.ends
  clear h
  induction E with
  | nil =>
    have : ∀ V : List Nat, (V.map (deg [])).sum = 0 := by
      intro V
      induction V with
      | nil => rfl
      | cons x V ih => rw [List.map_cons, List.sum_cons, ih]; rfl
    rw [this]; rfl
  | cons e E ih =>
    have ih' := ih (fun x hx => hends x (List.mem_cons_of_mem _ hx))
    have he := hends e (List.mem_cons_self ..)
    have hs : ∀ V : List Nat, (V.map (deg (e :: E))).sum = (V.map (deg E)).sum + ((V.map fun v => if e.1 = v then 1 else 0).sum + (V.map fun v => if e.2 = v then 1 else 0).sum) := by
      intro V
      induction V with
      | nil => rfl
      | cons x V ihV =>
        simp only [List.map_cons, List.sum_cons, ihV]
        have : deg (e :: E) x = deg E x + ((if e.1 = x then 1 else 0) + (if e.2 = x then 1 else 0)) := by
          unfold deg
          rw [List.countP_cons]
          by_cases h1 : e.1 = x
          · have h2 : e.2 ≠ x := fun h2 => he.2.2 (by rw [h1, h2])
            simp [touch, h1, h2]
          · by_cases h2 : e.2 = x
            · simp [touch, h1, h2]
            · simp [touch, h1, h2]
        omega
    rw [hs, ih', sum_touch hnd, sum_touch hnd, if_pos he.1, if_pos he.2.1, List.length_cons]
    omega
theorem sum_ge {V : List Nat} {f : Nat → Nat} {m : Nat} (h : ∀ v ∈ V, m ≤ f v) : m * V.length ≤ (V.map f).sum := by
  induction V with
  | nil => simp
  | cons x V ih =>
    rw [List.map_cons, List.sum_cons, List.length_cons, Nat.mul_succ]
    have := h x (List.mem_cons_self ..)
    have := ih (fun v hv => h v (List.mem_cons_of_mem _ hv))
    omega
/-- Joined numbers, two or more, with one edge less than numbers: one of them is a leaf. -/
theorem has_leaf {E : List Ed} {V : List Nat} {n : Nat} (h : Gr E V n) (hc : Conn E V) (h2 : 2 ≤ V.length) (hl : E.length + 1 = V.length) : ∃ v ∈ V, deg E v = 1 := by
  have h1 : ∀ v ∈ V, 1 ≤ deg E v := by
    intro v hv
    rcases Nat.eq_zero_or_pos (deg E v) with h0 | h0
    · exfalso
      unfold deg at h0
      rw [List.countP_eq_zero] at h0
      have hall := hc (fun x => x == v) (fun e he => by
        have := h0 e he
        rw [touch_iff, not_or] at this
        show (e.1 == v) = (e.2 == v)
        rw [beq_eq_false_iff_ne.2 this.1, beq_eq_false_iff_ne.2 this.2])
      have : ∀ u ∈ V, u = v := fun u hu => by have := hall u hu v hv; simpa using this
      have hlen : V.length ≤ 1 := by
        have hnd := h.nd
        cases V with
        | nil => simp
        | cons a V =>
          cases V with
          | nil => simp
          | cons b V =>
            have ea := this a (by simp)
            have eb := this b (by simp)
            rw [ea, eb] at hnd
            rw [List.nodup_cons] at hnd
            exact absurd (List.mem_cons_self ..) hnd.1
      omega
    · exact h0
  by_cases hex : ∃ v ∈ V, deg E v = 1
  · exact hex
  · exfalso
    have h22 : ∀ v ∈ V, 2 ≤ deg E v := fun v hv => by
      have := h1 v hv
      have : deg E v ≠ 1 := fun e => hex ⟨v, hv, e⟩
      omega
    have := sum_ge h22
    have hs := handshake h
    unfold sumDeg at hs
    omega
/-- From joined numbers as many leaves can be taken as are wanted. -/
theorem strip_ok {n : Nat} : ∀ (k : Nat) {E : List Ed} {V : List Nat}, Gr E V n → Conn E V → V.length = k + 2 → E.length = k + 1 → ∃ r, strip n k E = some r
  | 0, E, V, _, _, _, _ => ⟨_, rfl⟩
  | k + 1, E, V, hg, hc, hV, hE => by
    obtain ⟨v0, hv0, hd0⟩ := has_leaf hg hc (by omega) (by omega)
    obtain ⟨v, hv⟩ := leaf_ex (hg.lt v0 hv0) hd0
    obtain ⟨_, hd, _⟩ := leaf_get hv
    obtain ⟨e, he⟩ := edge_ex hd
    have hm := find_mem he
    have ho := other_ne hg hm.1 hm.2
    have h1 := len_without hd
    have h2 := len_erase ho.2.2
    obtain ⟨r, hr⟩ := strip_ok k (hg.step (v := v)) (hc.step hg hd he) (by omega) (by omega)
    refine ⟨(other v e :: r.1, r.2), ?_⟩
    unfold strip
    rw [hv]
    dsimp only
    rw [he]
    dsimp only
    rw [hr]
    rfl
end Go.Proofs.Ytgkbkbmhdhlffaa
