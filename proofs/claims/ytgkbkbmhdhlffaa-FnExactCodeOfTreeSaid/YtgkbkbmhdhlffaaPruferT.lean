/- CodeOfTree: plain law: the tree of the code is the tree. No program in sight. -/
import Derived.Test.YtgkbkbmhdhlffaaPrufer
namespace Go.Proofs.Ytgkbkbmhdhlffaa
theorem two_ends {V : List Nat} {e : Ed} (hV : V.length = 2) (h1 : e.1 ∈ V) (h2 : e.2 ∈ V) (hne : e.1 ≠ e.2) : ∀ u, u ∈ V ↔ u = e.1 ∨ u = e.2 := by
  match V, hV with
  | [a, b], _ =>
    simp only [List.mem_cons, List.not_mem_nil, or_false] at h1 h2 ⊢
    intro u
    rcases h1 with h1 | h1 <;> rcases h2 with h2 | h2
    · exact absurd (h1.trans h2.symm) hne
    · rw [h1, h2]
    · rw [h1, h2]; exact Or.comm
    · exact absurd (h1.trans h2.symm) hne
theorem strip_cons {n k : Nat} {E : List Ed} {r : List Nat × List Ed} (h : strip n (k + 1) E = some r) : ∃ v e r', leafOf E n = some v ∧ E.find? (touch v) = some e ∧ strip n k (without E v) = some r' ∧ r = (other v e :: r'.1, r'.2) := by
  unfold strip at h
  cases hv : leafOf E n with
  | none => rw [hv] at h; cases h
  | some v =>
    rw [hv] at h
    dsimp only at h
    cases he : E.find? (touch v) with
    | none => rw [he] at h; cases h
    | some e =>
      rw [he] at h
      dsimp only at h
      cases hr : strip n k (without E v) with
      | none => rw [hr] at h; cases h
      | some r' =>
        rw [hr] at h
        simp only [Option.map_some, Option.some.injEq] at h
        exact ⟨v, e, r', rfl, he, hr, h.symm⟩
theorem one_edge {E : List Ed} (h : E.length = 1) : ∃ e, E = [e] := List.length_eq_one_iff.1 h
/-- Where so many leaves could be taken the numbers are joined. -/
theorem strip_conn {n : Nat} : ∀ (k : Nat) {E : List Ed} {V : List Nat} {r : List Nat × List Ed}, Gr E V n → V.length = k + 2 → E.length = k + 1 → strip n k E = some r → Conn E V
  | 0, E, V, r, hg, hV, hE, _ => by
    obtain ⟨e, rfl⟩ := one_edge hE
    have h1 := hg.ends e (List.mem_cons_self ..)
    have h2 := two_ends hV h1.1 h1.2.1 h1.2.2
    intro P hP
    have he := hP e (List.mem_cons_self ..)
    have key : ∀ u ∈ V, P u = P e.1 := fun u hu => by
      rcases (h2 u).1 hu with h | h
      · rw [h]
      · rw [h]; exact he.symm
    intro u hu w hw
    rw [key u hu, key w hw]
  | k + 1, E, V, r, hg, hV, hE, h => by
    obtain ⟨v, e, r', hv, he, hr, _⟩ := strip_cons h
    obtain ⟨_, hd, _⟩ := leaf_get hv
    have hm := find_mem he
    have ho := other_ne hg hm.1 hm.2
    have h1 := len_without hd
    have h2 := len_erase ho.2.2
    exact (strip_conn k (hg.step (v := v)) (by omega) (by omega) hr).back hg he
/-- The degrees told by the code. -/
theorem strip_deg {n : Nat} : ∀ (k : Nat) {E : List Ed} {V : List Nat} {r : List Nat × List Ed}, Gr E V n → V.length = k + 2 → E.length = k + 1 → strip n k E = some r → (∀ c ∈ r.1, c ∈ V) ∧ r.1.length = k ∧ ∀ u, deg E u = (if u ∈ V then 1 else 0) + r.1.count u
  | 0, E, V, r, hg, hV, hE, h => by
    unfold strip at h
    injection h with h
    subst h
    obtain ⟨e, rfl⟩ := one_edge hE
    have h1 := hg.ends e (List.mem_cons_self ..)
    have h2 := two_ends hV h1.1 h1.2.1 h1.2.2
    refine ⟨by simp, rfl, fun u => ?_⟩
    unfold deg
    rw [List.countP_cons, List.countP_nil, List.count_nil]
    by_cases hu : u ∈ V
    · rw [if_pos hu, if_pos]
      rw [touch_iff]
      rcases (h2 u).1 hu with e1 | e1
      · exact .inl e1.symm
      · exact .inr e1.symm
    · rw [if_neg hu, if_neg]
      rw [touch_iff]
      rintro (e1 | e1)
      · exact hu ((h2 u).2 (.inl e1.symm))
      · exact hu ((h2 u).2 (.inr e1.symm))
  | k + 1, E, V, r, hg, hV, hE, h => by
    obtain ⟨v, e, r', hv, he, hr, rfl⟩ := strip_cons h
    obtain ⟨_, hd, _⟩ := leaf_get hv
    have hm := find_mem he
    have ho := other_ne hg hm.1 hm.2
    have h1 := len_without hd
    have h2 := len_erase ho.2.2
    obtain ⟨i1, i2, i3⟩ := strip_deg k (hg.step (v := v)) (by omega) (by omega) hr
    refine ⟨?_, by simp [i2], fun u => ?_⟩
    · intro c hc
      rcases List.mem_cons.1 hc with h | h
      · rw [h]; exact ho.1
      · exact List.mem_of_mem_erase (i1 c h)
    · rw [deg_without hd he, i3, List.count_cons]
      by_cases huv : u = v
      · subst huv
        have hnot : u ∉ V.erase u := hg.nd.not_mem_erase
        have hc0 : r'.1.count u = 0 := List.count_eq_zero.2 fun hc => hnot (i1 u hc)
        have hcu : ¬ ((other u e == u) = true) := by rw [beq_iff_eq]; exact ho.2.1
        rw [if_neg hnot, hc0, if_pos hm.2, if_pos ho.2.2, if_neg hcu]
      · have hmem : u ∈ V.erase v ↔ u ∈ V := List.mem_erase_of_ne huv
        by_cases huo : u = other v e
        · have ht : touch u e = true := by
            rw [huo, touch_iff]
            unfold other
            by_cases e1 : e.1 = v
            · rw [if_pos e1]; exact .inr rfl
            · rw [if_neg e1]; exact .inl rfl
          have hin : u ∈ V := by rw [huo]; exact ho.1
          rw [if_pos (hmem.2 hin), if_pos hin, if_pos ht, if_pos (by simp [huo])]
          omega
        · have ht : ¬ touch u e = true := by
            rw [touch_iff]
            intro h
            apply huo
            unfold other
            rcases touch_iff.1 hm.2 with e1 | e1
            · rw [if_pos e1]
              rcases h with h | h
              · exact absurd (h.symm.trans e1) huv
              · exact h.symm
            · by_cases e2 : e.1 = v
              · exact absurd (e2.trans e1.symm) (hg.ends e hm.1).2.2
              · rw [if_neg e2]
                rcases h with h | h
                · exact h.symm
                · exact absurd (h.symm.trans e1) huv
          have hcu : ¬ ((other v e == u) = true) := by rw [beq_iff_eq]; exact fun e1 => huo e1.symm
          rw [if_neg ht, if_neg hcu]
          by_cases hin : u ∈ V
          · rw [if_pos hin, if_pos (hmem.2 hin)]; omega
          · rw [if_neg hin, if_neg (fun e => hin (hmem.1 e))]; omega
/-- The leaves with what they hang on, and the last edge. -/
def stripP (n : Nat) : Nat → List Ed → List Ed
  | 0, E => E
  | k + 1, E => match leafOf E n with
    | none => []
    | some v => match E.find? (touch v) with
      | none => []
      | some e => (v, other v e) :: stripP n k (without E v)
def norm (p : Ed) : Ed := (min p.1 p.2, max p.1 p.2)
theorem norm_self {e : Ed} (h : e.1 < e.2) : norm e = e := by
  unfold norm
  rw [Nat.min_eq_left (Nat.le_of_lt h), Nat.max_eq_right (Nat.le_of_lt h)]
theorem norm_other {v : Nat} {e : Ed} (h : e.1 < e.2) (ht : touch v e = true) : norm (v, other v e) = e := by
  unfold norm other
  rcases touch_iff.1 ht with e1 | e1
  · subst e1
    simp only [if_true]
    rw [Nat.min_eq_left (Nat.le_of_lt h), Nat.max_eq_right (Nat.le_of_lt h)]
  · subst e1
    have : e.1 ≠ e.2 := by omega
    simp only [if_neg this]
    rw [Nat.min_eq_right (Nat.le_of_lt h), Nat.max_eq_left (Nat.le_of_lt h)]
theorem perm_without {E : List Ed} {v : Nat} {e : Ed} (hd : deg E v = 1) (he : E.find? (touch v) = some e) : (e :: without E v).Perm E := by
  have h1 : (E.filter (touch v) ++ without E v).Perm E := List.filter_append_perm _ _
  have h2 : E.filter (touch v) = [e] := by
    have hl : (E.filter (touch v)).length = 1 := by rw [← List.countP_eq_length_filter]; exact hd
    obtain ⟨x, hx⟩ := one_edge hl
    have hxm : x ∈ E.filter (touch v) := by rw [hx]; exact List.mem_cons_self ..
    rw [List.mem_filter] at hxm
    rw [hx, only_edge hd he hxm.1 hxm.2]
  rw [h2] at h1
  exact h1
theorem stripP_perm {n : Nat} : ∀ (k : Nat) {E : List Ed} {V : List Nat} {r : List Nat × List Ed}, Gr E V n → (∀ e ∈ E, e.1 < e.2) → V.length = k + 2 → E.length = k + 1 → strip n k E = some r → ((stripP n k E).map norm).Perm E
  | 0, E, V, r, _, hlt, _, _, _ => by
    unfold stripP
    have he : E.map norm = E.map id := List.map_congr_left (fun e he => norm_self (hlt e he))
    rw [he, List.map_id]
  | k + 1, E, V, r, hg, hlt, hV, hE, h => by
    obtain ⟨v, e, r', hv, he, hr, rfl⟩ := strip_cons h
    obtain ⟨_, hd, _⟩ := leaf_get hv
    have hm := find_mem he
    have ho := other_ne hg hm.1 hm.2
    have h1 := len_without hd
    have h2 := len_erase ho.2.2
    have ih := stripP_perm k (hg.step (v := v)) (fun x hx => hlt x (by unfold without at hx; exact (List.mem_filter.1 hx).1)) (by omega) (by omega) hr
    unfold stripP
    rw [hv]
    dsimp only
    rw [he]
    dsimp only
    rw [List.map_cons, norm_other (hlt e hm.1) hm.2]
    exact (ih.cons e).trans (perm_without hd he)
def updN (D : Nat → Nat) (i x : Nat) : Nat → Nat := fun k => if k = i then x else D k
/-- The tree of a code, as the reference finds it: pairs one after another, not yet in order. -/
def treeD (n : Nat) : List Nat → (Nat → Nat) → List Nat
  | [], D => (List.range n).filter fun v => D v == 1
  | c :: cs, D => match (List.range n).find? (fun v => D v == 1) with
    | none => []
    | some l => l :: c :: treeD n cs (updN (updN D l 0) c (updN D l 0 c - 1))
def flatE (ps : List Ed) : List Nat := ps.flatMap fun p => [p.1, p.2]
theorem filter_two {n a b : Nat} (ha : a < b) (hb : b < n) : (List.range n).filter (fun v => v == a || v == b) = [a, b] := by
  have hs : ((List.range n).filter (fun v => v == a || v == b)).Pairwise (fun x y => x < y) := List.pairwise_lt_range.filter _
  have hp : [a, b].Perm ((List.range n).filter (fun v => v == a || v == b)) := by
    rw [List.perm_ext_iff_of_nodup]
    · intro x
      rw [List.mem_filter, List.mem_range]
      simp only [List.mem_cons, List.not_mem_nil, or_false, Bool.or_eq_true, beq_iff_eq]
      constructor
      · rintro (rfl | rfl)
        · exact ⟨by omega, .inl rfl⟩
        · exact ⟨by omega, .inr rfl⟩
      · exact fun h => h.2
    · simp; omega
    · exact List.nodup_range.filter _
  refine List.Perm.eq_of_pairwise (le := fun x y : Nat => x ≤ y) (fun x y _ _ h1 h2 => by omega) (hs.imp (by intro a b h; omega)) ?_ hp.symm
  simp; omega
/-- The tree of the code of a tree is the tree. -/
theorem treeD_strip {n : Nat} : ∀ (k : Nat) {E : List Ed} {V : List Nat} {r : List Nat × List Ed} {D : Nat → Nat}, Gr E V n → (∀ e ∈ E, e.1 < e.2) → V.length = k + 2 → E.length = k + 1 → strip n k E = some r → (∀ v, v < n → D v = deg E v) → treeD n r.1 D = flatE (stripP n k E)
  | 0, E, V, r, D, hg, hlt, hV, hE, h, hD => by
    unfold strip at h
    injection h with h
    subst h
    obtain ⟨e, rfl⟩ := one_edge hE
    have h1 := hg.ends e (List.mem_cons_self ..)
    have hl := hlt e (List.mem_cons_self ..)
    unfold treeD stripP flatE
    have hc : (List.range n).filter (fun v => D v == 1) = (List.range n).filter (fun v => v == e.1 || v == e.2) := by
      apply List.filter_congr
      intro v hv
      rw [hD v (List.mem_range.1 hv)]
      unfold deg
      rw [List.countP_cons, List.countP_nil]
      unfold touch
      by_cases e1 : e.1 = v
      · simp [e1]
      · by_cases e2 : e.2 = v
        · simp [e2]
        · simp [e1, e2, fun h => e1 (Eq.symm h), fun h => e2 (Eq.symm h)]
          exact ⟨fun h => e1 h.symm, fun h => e2 h.symm⟩
    rw [hc, filter_two hl (hg.lt _ h1.2.1)]
    rfl
  | k + 1, E, V, r, D, hg, hlt, hV, hE, h, hD => by
    obtain ⟨v, e, r', hv, he, hr, rfl⟩ := strip_cons h
    obtain ⟨hvn, hd, hb⟩ := leaf_get hv
    have hm := find_mem he
    have ho := other_ne hg hm.1 hm.2
    have h1 := len_without hd
    have h2 := len_erase ho.2.2
    have hleaf : (List.range n).find? (fun v => D v == 1) = some v := by
      rw [List.find?_range_eq_some]
      refine ⟨by rw [hD v hvn, hd]; rfl, List.mem_range.2 hvn, fun u hu => ?_⟩
      rw [hD u (by omega)]
      simpa using hb u hu
    have hD' : ∀ u, u < n → updN (updN D v 0) (other v e) (updN D v 0 (other v e) - 1) u = deg (without E v) u := by
      intro u hu
      have hdw := deg_without (u := u) hd he
      have hDu := hD u hu
      unfold updN
      by_cases huo : u = other v e
      · have ht : touch u e = true := by
          rw [huo, touch_iff]
          unfold other
          by_cases e1 : e.1 = v
          · rw [if_pos e1]; exact .inr rfl
          · rw [if_neg e1]; exact .inl rfl
        rw [if_pos ht] at hdw
        rw [if_pos huo, ← huo, if_neg (by rw [huo]; exact ho.2.1)]
        omega
      · rw [if_neg huo]
        by_cases huv : u = v
        · subst huv
          rw [if_pos hm.2] at hdw
          rw [if_pos rfl]
          omega
        · rw [if_neg huv]
          have ht : ¬ touch u e = true := by
            rw [touch_iff]
            intro h
            apply huo
            unfold other
            rcases touch_iff.1 hm.2 with e1 | e1
            · rw [if_pos e1]
              rcases h with h | h
              · exact absurd (h.symm.trans e1) huv
              · exact h.symm
            · by_cases e2 : e.1 = v
              · exact absurd (e2.trans e1.symm) (hg.ends e hm.1).2.2
              · rw [if_neg e2]
                rcases h with h | h
                · exact h.symm
                · exact absurd (h.symm.trans e1) huv
          rw [if_neg ht] at hdw
          omega
    have ih := treeD_strip k (hg.step (v := v)) (fun x hx => hlt x (by unfold without at hx; exact (List.mem_filter.1 hx).1)) (by omega) (by omega) hr hD'
    unfold treeD stripP
    rw [hleaf, hv]
    dsimp only
    rw [he]
    dsimp only
    rw [ih]
    rfl
end Go.Proofs.Ytgkbkbmhdhlffaa
