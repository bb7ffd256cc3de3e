/- CodeOfTree: numbers that are reached along edges; plain law. -/
import Derived.Test.YtgkbkbmhdhlffaaTreeEd
namespace Go.Proofs.Ytgkbkbmhdhlffaa
open Go.RowKit
def flipN (i : Nat) : Nat := if i % 2 = 0 then i + 1 else i - 1
theorem xor1 : ∀ i : Nat, i < 1024 → bits .xor .i64 (i : Int) 1 = ((flipN i : Nat) : Int) := by decide +kernel
theorem andn1 : ∀ i : Nat, i < 1024 → bits .andNot .i64 (i : Int) 1 = ((i / 2 * 2 : Nat) : Int) := by decide +kernel
theorem flip_lt {i m : Nat} (h : i < 2 * m) : flipN i < 2 * m := by unfold flipN; split <;> omega
theorem flat_flip {E : List Ed} {i : Nat} {x o : Int} (hx : (flatI E)[i]? = some x) (ho : (flatI E)[flipN i]? = some o) : ∃ e, E[i / 2]? = some e ∧ ((i % 2 = 0 ∧ x = e.1 ∧ o = e.2) ∨ (i % 2 = 1 ∧ x = e.2 ∧ o = e.1)) := by
  have hi := (List.getElem?_eq_some_iff.1 hx).1
  rw [flatI_len] at hi
  have he : E[i / 2]? = some (E[i / 2]'(by omega)) := List.getElem?_eq_getElem _
  refine ⟨_, he, ?_⟩
  have h0 := flatI_0 he
  have h1 := flatI_1 he
  unfold flipN at ho
  by_cases hm : i % 2 = 0
  · rw [if_pos hm] at ho
    rw [show 2 * (i / 2) = i by omega] at h0
    rw [show 2 * (i / 2) + 1 = i + 1 by omega] at h1
    rw [h0] at hx; rw [h1] at ho
    exact .inl ⟨hm, (Option.some.inj hx).symm, (Option.some.inj ho).symm⟩
  · rw [if_neg hm] at ho
    rw [show 2 * (i / 2) = i - 1 by omega] at h0
    rw [show 2 * (i / 2) + 1 = i by omega] at h1
    rw [h1] at hx; rw [h0] at ho
    exact .inr ⟨by omega, (Option.some.inj hx).symm, (Option.some.inj ho).symm⟩
theorem nodup_sub : ∀ {L M : List Int}, L.Nodup → (∀ x ∈ L, x ∈ M) → L.length ≤ M.length
  | [], _, _, _ => Nat.zero_le _
  | x :: L, M, hn, hs => by
    have hx : x ∈ M := hs x (List.mem_cons_self ..)
    rw [List.nodup_cons] at hn
    have := nodup_sub (M := M.erase x) hn.2 fun y hy => (List.mem_erase_of_ne (show y ≠ x from fun e => hn.1 (e ▸ hy))).2 (hs y (List.mem_cons_of_mem _ hy))
    have hl := List.length_erase_of_mem hx
    have : 0 < M.length := List.length_pos_of_mem hx
    rw [List.length_cons]; omega
structure Reach (E : List Ed) (n : Nat) (L : List Int) : Prop where
  nd : L.Nodup
  inn : ∀ x ∈ L, 0 ≤ x ∧ x < (n : Int)
  zero : (0 : Int) ∈ L
  same : ∀ P : Nat → Bool, (∀ e ∈ E, P e.1 = P e.2) → ∀ x ∈ L, P x.toNat = P 0
/-- From x, along the first i numbers of the list, nothing new is reached. -/
def Shut (E : List Ed) (L : List Int) (x : Int) (i : Nat) : Prop := ∀ j, j < i → (flatI E)[j]? = some x → ∀ o, (flatI E)[flipN j]? = some o → o ∈ L
theorem Shut.more {E : List Ed} {L L' : List Int} {x : Int} {i : Nat} (h : Shut E L x i) (hs : ∀ y ∈ L, y ∈ L') : Shut E L' x i := fun j hj hx o ho => hs o (h j hj hx o ho)
theorem Shut.next {E : List Ed} {L : List Int} {x : Int} {i : Nat} (h : Shut E L x i) (hi : (flatI E)[i]? = some x → ∀ o, (flatI E)[flipN i]? = some o → o ∈ L) : Shut E L x (i + 1) := by
  intro j hj hx o ho
  rcases Nat.lt_succ_iff_lt_or_eq.1 hj with h1 | rfl
  · exact h j h1 hx o ho
  · exact hi hx o ho
theorem rangeI_in {n : Nat} {x : Int} (h : 0 ≤ x ∧ x < (n : Int)) : x ∈ (List.range n).map fun i : Nat => (i : Int) := by
  rw [List.mem_map]
  exact ⟨x.toNat, List.mem_range.2 (by omega), by omega⟩
theorem Reach.len {E : List Ed} {n : Nat} {L : List Int} (h : Reach E n L) : L.length ≤ n := by
  have := nodup_sub (M := (List.range n).map fun i : Nat => (i : Int)) h.nd fun x hx => rangeI_in (h.inn x hx)
  simpa using this
theorem reach_0 {E : List Ed} {n : Nat} (h : 1 ≤ n) : Reach E n [0] where
  nd := by simp
  inn := fun x hx => by simp at hx; omega
  zero := by simp
  same := fun P _ x hx => by simp at hx; subst hx; rfl
theorem Reach.step {E : List Ed} {n i : Nat} {L : List Int} {x o : Int} (h : Reach E n L) (hE : EdOk E n) (hx : (flatI E)[i]? = some x) (ho : (flatI E)[flipN i]? = some o) (hm : x ∈ L) (hno : o ∉ L) : Reach E n (L ++ [o]) where
  nd := by
    rw [List.nodup_append]
    refine ⟨h.nd, by simp, fun a ha b hb => ?_⟩
    simp at hb
    subst hb
    exact fun e => hno (e ▸ ha)
  inn := fun y hy => by
    rcases List.mem_append.1 hy with h1 | h1
    · exact h.inn y h1
    · simp at h1
      subst h1
      exact flat_in hE _ (List.mem_iff_getElem?.2 ⟨_, ho⟩)
  zero := List.mem_append_left _ h.zero
  same := fun P hP y hy => by
    rcases List.mem_append.1 hy with h1 | h1
    · exact h.same P hP y h1
    · simp at h1
      subst h1
      rw [← h.same P hP x hm]
      obtain ⟨e, he, h2⟩ := flat_flip hx ho
      have := hP e (List.mem_iff_getElem?.2 ⟨_, he⟩)
      rcases h2 with ⟨-, rfl, rfl⟩ | ⟨-, rfl, rfl⟩
      · rw [Int.toNat_natCast, Int.toNat_natCast, this]
      · rw [Int.toNat_natCast, Int.toNat_natCast, this]
/-- All numbers are reached just if the edges join them. -/
theorem Reach.conn {E : List Ed} {n : Nat} {L : List Int} (h : Reach E n L) (hE : EdOk E n) (h1 : 1 ≤ n) (hs : ∀ x ∈ L, Shut E L x (flatI E).length) : L.length = n ↔ Conn E (List.range n) := by
  constructor
  · intro hl P hP
    have hall : ∀ u : Nat, u < n → P u = P 0 := by
      intro u hu
      by_cases hm : (u : Int) ∈ L
      · have := h.same P hP _ hm
        rwa [Int.toNat_natCast] at this
      · exfalso
        have := nodup_sub (M := ((List.range n).map fun i : Nat => (i : Int)).erase (u : Int)) h.nd fun x hx => (List.mem_erase_of_ne (show x ≠ (u : Int) from fun e => hm (e ▸ hx))).2 (rangeI_in (h.inn x hx))
        rw [List.length_erase_of_mem (rangeI_in (by omega))] at this
        simp at this
        omega
    intro u hu v hv
    rw [hall u (List.mem_range.1 hu), hall v (List.mem_range.1 hv)]
  · intro hc
    have hall : ∀ u : Nat, u < n → (u : Int) ∈ L := by
      intro u hu
      have := hc (fun v => decide ((v : Int) ∈ L)) (fun e he => ?_) 0 (List.mem_range.2 h1) u (List.mem_range.2 hu)
      · have h0 : decide (((0 : Nat) : Int) ∈ L) = true := decide_eq_true h.zero
        rw [h0] at this
        exact of_decide_eq_true this.symm
      · obtain ⟨j, hj⟩ := List.mem_iff_getElem?.1 he
        have hjl := (List.getElem?_eq_some_iff.1 hj).1
        have a := flatI_0 hj
        have b := flatI_1 hj
        have f0 : flipN (2 * j) = 2 * j + 1 := by unfold flipN; rw [if_pos (by omega)]
        have f1 : flipN (2 * j + 1) = 2 * j := by unfold flipN; rw [if_neg (by omega)]; omega
        have c0 : (e.1 : Int) ∈ L → (e.2 : Int) ∈ L := fun hm => hs _ hm (2 * j) (by rw [flatI_len]; omega) a _ (by rw [f0]; exact b)
        have c1 : (e.2 : Int) ∈ L → (e.1 : Int) ∈ L := fun hm => hs _ hm (2 * j + 1) (by rw [flatI_len]; omega) b _ (by rw [f1]; exact a)
        simp only [decide_eq_decide]
        exact ⟨c0, c1⟩
    have hle := h.len
    have := nodup_sub (L := (List.range n).map fun i : Nat => (i : Int)) (M := L) (by
      rw [List.nodup_iff_pairwise_ne, List.pairwise_map]
      exact List.nodup_range.imp fun hab e => hab (by omega)) (fun x hx => by
      obtain ⟨u, hu, rfl⟩ := List.mem_map.1 hx
      exact hall u (List.mem_range.1 hu))
    simp at this
    omega
end Go.Proofs.Ytgkbkbmhdhlffaa
