/- CodeOfTree: the reference's marks; plain law. -/
import Derived.Test.YtgkbkbmhdhlffaaTreeE
import Derived.Test.YtgkbkbmhdhlffaaOrder
import Derived.Test.YtgkbkbmhdhlffaaCodeI
namespace Go.Proofs.Ytgkbkbmhdhlffaa
open Go.RowKit
def goneL (E F : List Ed) : List Bool := (List.range (2 * E.length)).map fun i => decide (E.getD (i / 2) (0, 0) ∉ F)
theorem goneL_len (E F : List Ed) : (goneL E F).length = 2 * E.length := by simp [goneL]
theorem goneL_at {E F : List Ed} {i : Nat} {e : Ed} (he : E[i / 2]? = some e) (hi : i < 2 * E.length) : (goneL E F)[i]? = some (decide (e ∉ F)) := by
  unfold goneL
  rw [List.getElem?_map, List.getElem?_range hi, Option.map_some, List.getD_eq_getElem?_getD, he, Option.getD_some]
theorem goneL_0 (E : List Ed) : goneL E E = List.replicate (2 * E.length) false := by
  apply List.ext_getElem?
  intro i
  by_cases hi : i < 2 * E.length
  · have he : E[i / 2]? = some (E[i / 2]'(by omega)) := List.getElem?_eq_getElem _
    rw [goneL_at he hi]
    simp [List.getElem?_replicate, hi]
  · rw [List.getElem?_eq_none (by rw [goneL_len]; omega), List.getElem?_eq_none (by simp; omega)]
theorem EdOk.inj {E : List Ed} {m a b : Nat} {e : Ed} (h : EdOk E m) (ha : E[a]? = some e) (hb : E[b]? = some e) : a = b := by
  obtain ⟨ha1, ha2⟩ := List.getElem?_eq_some_iff.1 ha
  obtain ⟨hb1, hb2⟩ := List.getElem?_eq_some_iff.1 hb
  have hp := List.pairwise_iff_getElem.1 h.ord
  rcases Nat.lt_trichotomy a b with h1 | h1 | h1
  · have := hp a b ha1 hb1 h1
    rw [ha2, hb2] at this
    unfold lexlt at this
    omega
  · exact h1
  · have := hp b a hb1 ha1 h1
    rw [ha2, hb2] at this
    unfold lexlt at this
    omega
theorem flip_half (i : Nat) : flipN i / 2 = i / 2 := by unfold flipN; split <;> omega
theorem flip_two {i j : Nat} (h : j / 2 = i / 2) : j = i ∨ j = flipN i := by unfold flipN; split <;> omega
theorem goneL_set {E F : List Ed} {m i v : Nat} {e : Ed} (hE : EdOk E m) (he : E[i / 2]? = some e) (hi : i < 2 * E.length) (hd : deg F v = 1) (hf : F.find? (touch v) = some e) : ((goneL E F).set i true).set (flipN i) true = goneL E (without F v) := by
  have hm := find_mem hf
  have hno : e ∉ without F v := fun h => by
    unfold without at h
    have := (List.mem_filter.1 h).2
    rw [hm.2] at this
    cases this
  have hfl := flip_lt hi
  apply List.ext_getElem?
  intro p
  by_cases hp : p < 2 * E.length
  · have hep : E[p / 2]? = some (E[p / 2]'(by omega)) := List.getElem?_eq_getElem _
    by_cases hpi : p / 2 = i / 2
    · have : E[p / 2]? = some e := by rw [hpi]; exact he
      rw [goneL_at this hp, decide_eq_true hno, List.getElem?_set, List.getElem?_set, List.length_set, goneL_len]
      rcases flip_two hpi with rfl | rfl
      · by_cases h2 : flipN p = p
        · rw [if_pos h2, if_pos hfl]
        · rw [if_neg h2, if_pos rfl, if_pos hp]
      · rw [if_pos rfl, if_pos hfl]
    · have h1 : ¬ i = p := fun e => hpi (by rw [e])
      have h2 : ¬ flipN i = p := fun e => hpi (by rw [← e, flip_half])
      rw [List.getElem?_set, if_neg h2, List.getElem?_set, if_neg h1, goneL_at hep hp, goneL_at hep hp]
      congr 1
      rw [decide_eq_decide]
      generalize hx : E[p / 2]'(by omega) = x at *
      apply not_congr
      unfold without
      rw [List.mem_filter]
      constructor
      · intro h
        refine ⟨h, ?_⟩
        cases ht : touch v x with
        | false => rfl
        | true =>
          have := only_edge hd hf h ht
          subst this
          exact absurd (hE.inj hep he) hpi
      · exact fun h => h.1
  · rw [List.getElem?_eq_none (by rw [List.length_set, List.length_set, goneL_len]; omega), List.getElem?_eq_none (by rw [goneL_len]; omega)]
theorem flat_touch {E : List Ed} {i v : Nat} {e : Ed} (he : E[i / 2]? = some e) (hv : (flatI E)[i]? = some (v : Int)) : touch v e = true := by
  have h0 := flatI_0 he
  have h1 := flatI_1 he
  rcases Nat.mod_two_eq_zero_or_one i with h | h
  · rw [show 2 * (i / 2) = i by omega, hv] at h0
    have := Option.some.inj h0
    exact touch_iff.2 (.inl (by omega))
  · rw [show 2 * (i / 2) + 1 = i by omega, hv] at h1
    have := Option.some.inj h1
    exact touch_iff.2 (.inr (by omega))
theorem leaf_place {E F : List Ed} {m v : Nat} (hE : EdOk E m) (hsub : ∀ e ∈ F, e ∈ E) (hd : deg F v = 1) :
    ∃ i e, i < 2 * E.length ∧ E[i / 2]? = some e ∧ e ∈ F ∧ F.find? (touch v) = some e ∧ (flatI E)[i]? = some (v : Int) ∧ (flatI E)[flipN i]? = some ((other v e : Nat) : Int) ∧ other v e ≠ v ∧
      (∀ i' e', i' ≠ i → E[i' / 2]? = some e' → (flatI E)[i']? = some (v : Int) → e' ∉ F) ∧ (∀ i' e', E[i' / 2]? = some e' → (flatI E)[i']? = some (v : Int) → e' ∉ without F v) := by
  obtain ⟨e, hf⟩ := edge_ex hd
  have hm := find_mem hf
  have hlt := (hE.lt e (hsub e hm.1)).1
  obtain ⟨j, hj⟩ := List.mem_iff_getElem?.1 (hsub e hm.1)
  have hjl := (List.getElem?_eq_some_iff.1 hj).1
  have h0 := flatI_0 hj
  have h1 := flatI_1 hj
  have hov : other v e ≠ v := by
    unfold other
    rcases touch_iff.1 hm.2 with h | h
    · rw [if_pos h]; omega
    · split <;> omega
  have hw : ∀ i' e', E[i' / 2]? = some e' → (flatI E)[i']? = some (v : Int) → e' ∉ without F v := fun i' e' he' hv' h => by
    unfold without at h
    have := (List.mem_filter.1 h).2
    rw [flat_touch he' hv'] at this
    cases this
  have main : ∀ i, i / 2 = j → (flatI E)[i]? = some (v : Int) → (flatI E)[flipN i]? = some ((other v e : Nat) : Int) → ∀ i' e', i' ≠ i → E[i' / 2]? = some e' → (flatI E)[i']? = some (v : Int) → e' ∉ F := by
    intro i hij hi hfl i' e' hne he' hv' hF
    have := only_edge hd hf hF (flat_touch he' hv')
    subst this
    have h2 := hE.inj he' hj
    rcases flip_two (i := i) (j := i') (by omega) with h3 | h3
    · exact hne h3
    · rw [h3, hfl] at hv'
      have := Option.some.inj hv'
      exact hov (by omega)
  rcases touch_iff.1 hm.2 with h | h
  · have a1 : (flatI E)[2 * j]? = some (v : Int) := by rw [h0, h]
    have a2 : (flatI E)[flipN (2 * j)]? = some ((other v e : Nat) : Int) := by
      rw [show flipN (2 * j) = 2 * j + 1 by unfold flipN; rw [if_pos (by omega)], h1]
      unfold other
      rw [if_pos h]
    exact ⟨2 * j, e, by omega, by rw [show 2 * j / 2 = j by omega]; exact hj, hm.1, hf, a1, a2, hov, main (2 * j) (by omega) a1 a2, hw⟩
  · have a1 : (flatI E)[2 * j + 1]? = some (v : Int) := by rw [h1, h]
    have a2 : (flatI E)[flipN (2 * j + 1)]? = some ((other v e : Nat) : Int) := by
      rw [show flipN (2 * j + 1) = 2 * j by unfold flipN; rw [if_neg (by omega)]; omega, h0]
      unfold other
      rw [if_neg (by omega)]
    exact ⟨2 * j + 1, e, by omega, by rw [show (2 * j + 1) / 2 = j by omega]; exact hj, hm.1, hf, a1, a2, hov, main (2 * j + 1) (by omega) a1 a2, hw⟩
theorem deg_step {F : List Ed} {v u : Nat} {e : Ed} (hd : deg F v = 1) (hf : F.find? (touch v) = some e) (hov : other v e ≠ v) : updN (updN (deg F) v 0) (other v e) (deg F (other v e) - 1) u = deg (without F v) u := by
  have hm := find_mem hf
  have hdu := deg_without (u := u) hd hf
  unfold updN
  by_cases e1 : u = other v e
  · rw [if_pos e1]
    rw [if_pos (by rw [e1]; exact touch_iff.2 (by unfold other; split <;> simp_all)), e1] at hdu
    rw [e1]; omega
  · rw [if_neg e1]
    by_cases e2 : u = v
    · rw [if_pos e2]
      rw [if_pos (by rw [e2]; exact hm.2), e2, hd] at hdu
      rw [e2]; omega
    · rw [if_neg e2]
      rw [if_neg, Nat.add_zero] at hdu
      · exact hdu
      · intro ht
        rcases touch_iff.1 ht with e3 | e3
        · rcases touch_iff.1 hm.2 with e4 | e4
          · exact e2 (e3.symm.trans e4)
          · exact e1 (by unfold other; rw [if_neg (fun e5 => e2 (e3.symm.trans e5)), e3])
        · rcases touch_iff.1 hm.2 with e4 | e4
          · exact e1 (by unfold other; rw [if_pos e4, e3])
          · exact e2 (e3.symm.trans e4)
/-- What stands behind some rounds of the reference. -/
structure Mid3 (E F : List Ed) (V C : List Nat) (m K k : Nat) : Prop where
  ok : EdOk F m
  gr : Gr F V m
  vl : V.length = k + 2
  fl : F.length = k + 1
  cl : C.length + k = K
  st : strip m K E = (strip m k F).map fun r => (C ++ r.1, r.2)
  sub : ∀ e ∈ F, e ∈ E
theorem Mid3.start {E : List Ed} {K : Nat} (h : EdOk E (K + 2)) (hl : E.length = K + 1) : Mid3 E E (List.range (K + 2)) [] (K + 2) K K where
  ok := h
  gr := h.gr
  vl := List.length_range
  fl := hl
  cl := by simp
  st := by cases strip (K + 2) K E <;> simp
  sub := fun _ h => h
theorem Mid3.step {E F : List Ed} {V C : List Nat} {m K k v : Nat} {e : Ed} (h : Mid3 E F V C m K (k + 1)) (hv : leafOf F m = some v) (he : F.find? (touch v) = some e) : Mid3 E (without F v) (V.erase v) (C ++ [other v e]) m K k := by
  obtain ⟨h1, h2, h3⟩ := leaf_get hv
  have hx := find_mem he
  have ho := other_ne h.gr hx.1 hx.2
  refine ⟨h.ok.sub List.filter_sublist, h.gr.step, ?_, ?_, ?_, ?_, fun x hx => h.sub x (List.mem_filter.1 hx).1⟩
  · have := len_erase ho.2.2; have := h.vl; omega
  · have := len_without h2; have := h.fl; omega
  · have := h.cl; rw [List.length_append, List.length_singleton]; omega
  · rw [h.st, strip_step hv he]
    cases strip m k (without F v) <;> simp
theorem Mid3.none {E F : List Ed} {V C : List Nat} {m K k : Nat} (h : Mid3 E F V C m K (k + 1)) (hv : leafOf F m = none) : strip m K E = none := by
  rw [h.st, strip, hv]
  rfl
theorem Mid3.last {E F : List Ed} {V C : List Nat} {m K : Nat} (h : Mid3 E F V C m K 0) : strip m K E = some (C, F) := by
  rw [h.st]
  simp [strip]
theorem leaf_not {F : List Ed} {m : Nat} (h : leafOf F m = none) : ∀ u, u < m → deg F u ≠ 1 := by
  intro u hu hd
  unfold leafOf at h
  rw [List.find?_eq_none] at h
  exact h u (List.mem_range.2 hu) (by simp [hd])
end Go.Proofs.Ytgkbkbmhdhlffaa
