/- spec.l04Tree: the tree of the code of a tree. -/
import Derived.Test.YtgkbkbmhdhlffaaSortE
import Derived.Test.YtgkbkbmhdhlffaaCodeP
namespace Go.Proofs.Ytgkbkbmhdhlffaa
open Go.RowKit
def rowOf (n : Nat) (D : Nat → Nat) : List Int := (List.range n).map fun v : Nat => ((D v : Nat) : Int)
theorem rowOf_len (n : Nat) (D : Nat → Nat) : (rowOf n D).length = n := by simp [rowOf]
theorem rowOf_at {n v : Nat} (D : Nat → Nat) (h : v < n) : (rowOf n D)[v]? = some ((D v : Nat) : Int) := by
  unfold rowOf
  rw [List.getElem?_map, List.getElem?_range h]
  rfl
theorem rowOf_ext {n : Nat} {D D' : Nat → Nat} (h : ∀ v, v < n → D v = D' v) : rowOf n D = rowOf n D' := by
  unfold rowOf
  exact List.map_congr_left fun v hv => by rw [h v (List.mem_range.1 hv)]
theorem rowOf_set (n v x : Nat) (D : Nat → Nat) : (rowOf n D).set v ((x : Nat) : Int) = rowOf n (updN D v x) := by
  apply List.ext_getElem?
  intro i
  by_cases hi : i < n
  · rw [rowOf_at _ hi, List.getElem?_set]
    unfold updN
    by_cases he : v = i
    · rw [if_pos he, if_pos (by rw [rowOf_len]; omega), if_pos he.symm]
    · rw [if_neg he, rowOf_at _ hi, if_neg (fun e => he e.symm)]
  · rw [List.getElem?_eq_none (by rw [List.length_set, rowOf_len]; omega), List.getElem?_eq_none (by rw [rowOf_len]; omega)]
/-- What stands behind some rounds. -/
structure Back (E F : List Ed) (V : List Nat) (n K k i : Nat) (C : List Nat) (P : List Ed) (D : Nat → Nat) : Prop where
  gr : Gr F V n
  lt : ∀ e ∈ F, e.1 < e.2
  vl : V.length = k + 2
  fl : F.length = k + 1
  st : ∃ r, strip n k F = some r ∧ r.1 = C.drop i
  pp : P ++ stripP n k F = stripP n K E
  dg : ∀ v, v < n → D v = deg F v
  ik : i + k = K
  pl : P.length = i
theorem drop_cons {α : Type} {C t : List α} {x : α} {i : Nat} (h : x :: t = C.drop i) : C[i]? = some x ∧ t = C.drop (i + 1) := by
  have hi : i < C.length := by
    have := congrArg List.length h
    rw [List.length_cons, List.length_drop] at this
    omega
  rw [List.drop_eq_getElem_cons hi] at h
  injection h with h1 h2
  exact ⟨by rw [List.getElem?_eq_getElem hi, h1], h2⟩
theorem Back.step {E F : List Ed} {V C : List Nat} {n K k i : Nat} {P : List Ed} {D : Nat → Nat} (h : Back E F V n K (k + 1) i C P D) :
    ∃ v c, v < n ∧ c < n ∧ c ≠ v ∧ D v = 1 ∧ (∀ u, u < v → D u ≠ 1) ∧ 1 ≤ D c ∧ C[i]? = some c ∧ ∃ F' V', Back E F' V' n K k (i + 1) C (P ++ [(v, c)]) (updN (updN D v 0) c (D c - 1)) := by
  obtain ⟨r, hr, hC⟩ := h.st
  obtain ⟨v, e, r', hv, he, hr', rfl⟩ := strip_cons hr
  obtain ⟨h1, h2, h3⟩ := leaf_get hv
  have hm := find_mem he
  obtain ⟨o1, o2, o3⟩ := other_ne h.gr hm.1 hm.2
  have hcn := h.gr.lt _ o1
  obtain ⟨hc1, hc2⟩ := drop_cons hC
  have htc : touch (other v e) e = true := touch_iff.2 (by unfold other; split <;> simp_all)
  have hdc := deg_without (u := other v e) h2 he
  rw [if_pos htc] at hdc
  refine ⟨v, other v e, h1, hcn, o2, by rw [h.dg v h1, h2], fun u hu => by rw [h.dg u (by omega)]; exact h3 u hu, by rw [h.dg _ hcn]; omega, hc1, without F v, V.erase v, ?_⟩
  refine ⟨h.gr.step, fun x hx => h.lt x (by unfold without at hx; exact (List.mem_filter.1 hx).1), ?_, ?_, ⟨r', hr', hc2⟩, ?_, ?_, by have := h.ik; omega, by rw [List.length_append, h.pl]; rfl⟩
  · have := len_erase o3; have := h.vl; omega
  · have := len_without h2; have := h.fl; omega
  · rw [← h.pp]
    conv => rhs; rw [stripP, hv]
    simp only
    rw [he]
    simp
  · intro u hu
    have hdu := deg_without (u := u) h2 he
    unfold updN
    by_cases e1 : u = other v e
    · rw [if_pos e1, h.dg _ hcn, e1, hdc]; omega
    · rw [if_neg e1]
      by_cases e2 : u = v
      · rw [if_pos e2]
        rw [if_pos (by rw [e2]; exact hm.2), e2, h2] at hdu
        rw [e2]; omega
      · rw [if_neg e2, h.dg u hu, hdu, if_neg, Nat.add_zero]
        intro ht
        rcases touch_iff.1 ht with e3 | e3
        · rcases touch_iff.1 hm.2 with e4 | e4
          · exact e2 (e3.symm.trans e4)
          · exact e1 (by unfold other; rw [if_neg (fun e5 => e2 (e3.symm.trans e5)), e3])
        · rcases touch_iff.1 hm.2 with e4 | e4
          · exact e1 (by unfold other; rw [if_pos e4, e3])
          · exact e2 (e3.symm.trans e4)
theorem Back.last {E F : List Ed} {V C : List Nat} {n K i : Nat} {P : List Ed} {D : Nat → Nat} (h : Back E F V n K 0 i C P D) :
    ∃ e : Ed, stripP n K E = P ++ [e] ∧ (List.range n).filter (fun v => D v == 1) = [e.1, e.2] := by
  obtain ⟨e, rfl⟩ := one_edge h.fl
  have hl := h.lt e (List.mem_cons_self ..)
  have h2 := h.gr.lt _ (h.gr.ends e (List.mem_cons_self ..)).2.1
  refine ⟨e, by rw [← h.pp]; rfl, ?_⟩
  rw [← filter_two hl h2]
  apply List.filter_congr
  intro v hv
  rw [h.dg v (List.mem_range.1 hv)]
  unfold deg touch
  simp only [List.countP_cons, List.countP_nil]
  by_cases h1 : e.1 = v
  · simp [h1]
  · by_cases h3 : e.2 = v
    · simp [h3]
    · have a1 : ¬ v = e.1 := fun x => h1 x.symm
      have a2 : ¬ v = e.2 := fun x => h3 x.symm
      simp [h1, h3, a1, a2]
theorem Back.start {E : List Ed} {k : Nat} {r : List Nat × List Ed} (h : EdOk E (k + 2)) (hl : E.length = k + 1) (hr : strip (k + 2) k E = some r) :
    r.1.length = k ∧ (∀ c ∈ r.1, c < k + 2) ∧ Back E E (List.range (k + 2)) (k + 2) k k 0 r.1 [] (fun v => 1 + r.1.count v) := by
  obtain ⟨h1, h2, h3⟩ := strip_deg k h.gr List.length_range hl hr
  refine ⟨h2, fun c hc => List.mem_range.1 (h1 c hc), h.gr, fun e he => (h.lt e he).1, List.length_range, hl, ⟨r, hr, rfl⟩, rfl, fun v hv => ?_, Nat.zero_add _, rfl⟩
  rw [h3 v, if_pos (List.mem_range.2 hv)]
end Go.Proofs.Ytgkbkbmhdhlffaa
