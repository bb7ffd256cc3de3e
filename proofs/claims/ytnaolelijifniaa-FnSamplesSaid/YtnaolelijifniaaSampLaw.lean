/- Plain laws of the draws: cards come once each, samples rise, a stream keeps different ones. -/
import Derived.Test.YtnaolelijifniaaSampleW
import Derived.Test.YtnaolelijifniaaReturn
namespace Go.Proofs.Ytnaolelijifniaa
open Go.RowKit
theorem nodup_get {l : List Int} : l.Nodup ↔ ∀ (i j : Nat) (x : Int), l[i]? = some x → l[j]? = some x → i = j := by
  rw [List.nodup_iff_pairwise_ne, List.pairwise_iff_getElem]
  constructor
  · intro h i j x hi hj
    obtain ⟨hi1, hi2⟩ := List.getElem?_eq_some_iff.1 hi
    obtain ⟨hj1, hj2⟩ := List.getElem?_eq_some_iff.1 hj
    rcases Nat.lt_trichotomy i j with hlt | he | hlt
    · exact absurd (hi2.trans hj2.symm) (h i j hi1 hj1 hlt)
    · exact he
    · exact absurd (hj2.trans hi2.symm) (h j i hj1 hi1 hlt)
  · intro h i j hi hj hlt e
    have := h i j l[j] (by rw [List.getElem?_eq_getElem hi, e]) (by rw [List.getElem?_eq_getElem hj])
    omega
theorem swapAt_get {l : List Int} {i j : Nat} (hi : i < l.length) (hj : j < l.length) (k : Nat) : (swapAt l i j)[k]? = l[if k = j then i else if k = i then j else k]? := by
  unfold swapAt
  rw [List.getD, List.getD, List.getElem?_eq_getElem hi, List.getElem?_eq_getElem hj]
  simp only [Option.getD_some]
  rw [List.getElem?_set]
  by_cases h1 : j = k
  · subst h1
    rw [if_pos rfl, if_pos (by rw [List.length_set]; exact hj), if_pos rfl, List.getElem?_eq_getElem hi]
  · rw [if_neg h1, if_neg (fun e => h1 e.symm), List.getElem?_set]
    by_cases h2 : i = k
    · subst h2
      rw [if_pos rfl, if_pos hi, if_pos rfl, List.getElem?_eq_getElem hj]
    · rw [if_neg h2, if_neg (fun e => h2 e.symm)]
theorem swapAt_nodup {l : List Int} {i j : Nat} (hi : i < l.length) (hj : j < l.length) (h : l.Nodup) : (swapAt l i j).Nodup := by
  rw [nodup_get] at h ⊢
  intro a b x ha hb
  rw [swapAt_get hi hj] at ha hb
  have := h _ _ x ha hb
  split at this <;> split at this <;> (try split at this) <;> (try split at this) <;> omega
theorem swapAt_mem {l : List Int} {i j : Nat} (hi : i < l.length) (hj : j < l.length) {x : Int} (h : x ∈ swapAt l i j) : x ∈ l := by
  obtain ⟨k, hk⟩ := List.mem_iff_getElem?.1 h
  rw [swapAt_get hi hj] at hk
  exact List.mem_of_getElem? hk
theorem cardsGo_good {m : Nat} {s t : Sd} {out l : List Int} (h : cardsGo m s out = some (t, l)) (hl : m < out.length) (hn : out.Nodup) : l.Nodup ∧ ∀ x ∈ l, x ∈ out := by
  induction m generalizing s out with
  | zero => simp only [cardsGo, Option.some.injEq, Prod.mk.injEq] at h; rw [← h.2]; exact ⟨hn, fun _ h => h⟩
  | succ m ih =>
    unfold cardsGo at h
    split at h
    · cases h
    · rename_i t1 p ht
      have hp := tried_lt (by omega) ht
      have h1 := ih h (by rw [swapAt_len]; omega) (swapAt_nodup hl (by omega) hn)
      exact ⟨h1.1, fun x hx => swapAt_mem hl (by omega) (h1.2 x hx)⟩
theorem nodup_upFrom (lo : Int) (k : Nat) : (upFrom lo k).Nodup := by
  rw [List.nodup_iff_pairwise_ne]
  exact (upFrom_strict lo k).imp (by intro a b h; omega)
theorem cards_good {s : Sd} {n : Int} : (((cardsSeed s n).map Prod.snd).getD []).Nodup ∧ ∀ x ∈ ((cardsSeed s n).map Prod.snd).getD [], 0 ≤ x ∧ x < n := by
  unfold cardsSeed
  split
  · rename_i hc
    simp only [Bool.and_eq_true] at hc
    have h2 := inB_true hc.2
    cases hr : cardsGo (n - 1).toNat s (upFrom 0 n.toNat) with
    | none => simp
    | some r =>
      have h1 := cardsGo_good (t := r.1) (l := r.2) hr (by rw [upFrom_len]; omega) (nodup_upFrom _ _)
      simp only [Option.map_some, Option.getD_some]
      exact ⟨h1.1, fun x hx => by have := memI_upFrom.1 (h1.2 x hx); omega⟩
  · simp
theorem sampleGo_good {ls : List Int} {s t : Sd} {out xs : List Int} {lo : Int} {k : Nat} (he : ls = upFrom lo k) (h0 : 1 ≤ lo) (h : sampleGo ls s out = some (t, xs)) (hn : out.Nodup) (hb : ∀ x ∈ out, 0 ≤ x ∧ x < lo - 1) :
    xs.Nodup ∧ ∀ x ∈ xs, 0 ≤ x ∧ x < lo - 1 + k := by
  induction k generalizing ls s out lo with
  | zero =>
    subst he
    simp only [upFrom, List.range_zero, List.map_nil, sampleGo, Option.some.injEq, Prod.mk.injEq] at h
    rw [← h.2]
    exact ⟨hn, fun x hx => by have := hb x hx; omega⟩
  | succ k ih =>
    rw [upFrom_cons] at he
    subst he
    unfold sampleGo at h
    split at h
    · cases h
    · rename_i t1 p ht
      have hp := tried_lt (by omega) ht
      have hk := sample_keep hn hb h0 hp
      have h1 := ih rfl (by omega) h hk.1 (fun x hx => by have := hk.2 x hx; omega)
      exact ⟨h1.1, fun x hx => by have := h1.2 x hx; omega⟩
theorem sample_good {s : Sd} {n k : Int} : (((sampleSeed s n k).map Prod.snd).getD []).Pairwise (fun a b => a < b) ∧ ∀ x ∈ ((sampleSeed s n k).map Prod.snd).getD [], 0 ≤ x ∧ x < n := by
  unfold sampleSeed
  split
  · rename_i hc
    simp only [Bool.and_eq_true] at hc
    have h1 := inB_true hc.1.2
    have h2 := inB_true hc.2
    cases hr : sampleGo (upFrom (n - k + 1) k.toNat) s [] with
    | none => simp
    | some r =>
      have hg := sampleGo_good (t := r.1) (xs := r.2) rfl (by omega) hr (by simp) (by simp)
      simp only [Option.map_some, Option.getD_some]
      refine ⟨sortedI_strict hg.1, fun x hx => ?_⟩
      have hm : x ∈ r.2 := (List.mergeSort_perm r.2 _).mem_iff.1 hx
      have := hg.2 x hm
      omega
  · simp
theorem drawAll_rep {n : Int} {k : Nat} {s t : Sd} {xs : List Int} (h : drawAll (List.replicate k n) s = some (t, xs)) : ∀ x ∈ xs, 0 ≤ x ∧ x < n := by
  intro x hx
  obtain ⟨i, hi⟩ := List.mem_iff_getElem?.1 hx
  have hlen := drawAll_length h
  have hi1 := (List.getElem?_eq_some_iff.1 hi).1
  rw [hlen, List.length_replicate] at hi1
  exact drawAll_lt h i n x (by rw [List.getElem?_replicate, if_pos hi1]) hi
theorem return_good {s : Sd} {n k : Int} : ∀ x ∈ ((returnSeed s n k).map Prod.snd).getD [], 0 ≤ x ∧ x < n := by
  unfold returnSeed
  split
  · cases hr : drawAll (List.replicate k.toNat n) s with
    | none => simp
    | some r =>
      simp only [Option.map_some, Option.getD_some]
      exact drawAll_rep (t := r.1) (xs := r.2) hr
  · simp
theorem nodup_split {a b : List Int} : (a ++ b).Nodup ↔ a.Nodup ∧ b.Nodup ∧ ∀ x ∈ a, x ∉ b := by
  rw [List.nodup_append]
  constructor
  · rintro ⟨h1, h2, h3⟩; exact ⟨h1, h2, fun x hx hb => h3 x hx x hb rfl⟩
  · rintro ⟨h1, h2, h3⟩; exact ⟨h1, h2, fun x hx y hy e => h3 x hx (e ▸ hy)⟩
theorem mem_set_cases {l : List Int} {p : Nat} {x y : Int} (h : y ∈ l.set p x) : y = x ∨ y ∈ l := by
  rcases List.mem_or_eq_of_mem_set h with h | h
  · exact .inr h
  · exact .inl h
theorem set_nodup {l : List Int} {p : Nat} {x : Int} (h : l.Nodup) (hx : x ∉ l) : (l.set p x).Nodup := by
  rw [nodup_get] at h ⊢
  intro i j y hi hj
  rw [List.getElem?_set] at hi hj
  by_cases h1 : p = i
  · by_cases h2 : p = j
    · omega
    · rw [if_pos h1] at hi
      rw [if_neg h2] at hj
      split at hi
      · cases hi; exact absurd (List.mem_of_getElem? hj) hx
      · cases hi
  · rw [if_neg h1] at hi
    by_cases h2 : p = j
    · rw [if_pos h2] at hj
      split at hj
      · cases hj; exact absurd (List.mem_of_getElem? hi) hx
      · cases hj
    · rw [if_neg h2] at hj
      exact h i j y hi hj
theorem streamGo_good {k : Int} {xs : List Int} {i : Nat} {s t : Sd} {out l : List Int} (h : streamGo k xs i s out = some (t, l)) (hn : (out ++ xs).Nodup) (hk : out.length = min i k.toNat) (hk1 : 1 ≤ k) :
    l.Nodup ∧ (∀ x ∈ l, x ∈ out ++ xs) ∧ l.length = min (i + xs.length) k.toNat := by
  induction xs generalizing i s out with
  | nil =>
    simp only [streamGo, Option.some.injEq, Prod.mk.injEq] at h
    rw [← h.2]
    rw [List.append_nil] at hn
    exact ⟨hn, fun x hx => by simpa using hx, by simpa using hk⟩
  | cons x xs ih =>
    have hns := nodup_split.1 hn
    have hxx := List.nodup_cons.1 hns.2.1
    unfold streamGo at h
    split at h
    · rename_i hlt
      have h1 := ih h (by rw [List.append_assoc]; exact hn) (by rw [List.length_append, List.length_singleton]; omega)
      refine ⟨h1.1, fun y hy => ?_, ?_⟩
      · have := h1.2.1 y hy
        simpa using this
      · rw [h1.2.2, List.length_cons]; omega
    · rename_i hge
      split at h
      · cases h
      · rename_i t1 p ht
        have hxo : x ∉ out := fun h => hns.2.2 x h (by simp)
        by_cases hp : p < k
        · rw [if_pos hp] at h
          have h1 := ih h (nodup_split.2 ⟨set_nodup hns.1 hxo, hxx.2, fun y hy hyx => by
            rcases mem_set_cases hy with e | e
            · subst e; exact hxx.1 hyx
            · exact hns.2.2 y e (by simp [hyx])⟩) (by rw [List.length_set]; omega)
          refine ⟨h1.1, fun y hy => ?_, ?_⟩
          · rcases List.mem_append.1 (h1.2.1 y hy) with e | e
            · rcases mem_set_cases e with e | e
              · simp [e]
              · simp [e]
            · simp [e]
          · rw [h1.2.2, List.length_cons]; omega
        · rw [if_neg hp] at h
          have h1 := ih h (nodup_split.2 ⟨hns.1, hxx.2, fun y hy hyx => hns.2.2 y hy (by simp [hyx])⟩) (by omega)
          refine ⟨h1.1, fun y hy => ?_, ?_⟩
          · rcases List.mem_append.1 (h1.2.1 y hy) with e | e
            · simp [e]
            · simp [e]
          · rw [h1.2.2, List.length_cons]; omega
/-- The list of the law: 7 i - 3. -/
def sevens (n : Nat) : List Int := (List.range n).map fun (i : Nat) => 7 * (i : Int) - 3
theorem sevens_len (n : Nat) : (sevens n).length = n := by simp [sevens]
theorem sevens_succ (n : Nat) : sevens (n + 1) = sevens n ++ [7 * (n : Int) - 3] := by simp [sevens, List.range_succ]
theorem sevens_mem {n : Nat} {x : Int} (h : x ∈ sevens n) : ∃ i : Nat, i < n ∧ x = 7 * (i : Int) - 3 := by
  unfold sevens at h
  obtain ⟨i, hi, rfl⟩ := List.mem_map.1 h
  exact ⟨i, List.mem_range.1 hi, rfl⟩
theorem sevens_nodup (n : Nat) : (sevens n).Nodup := by
  rw [List.nodup_iff_pairwise_ne]
  unfold sevens
  rw [List.pairwise_map]
  exact (List.pairwise_lt_range (n := n)).imp (by intro a b h; omega)
theorem sevens_fit {n : Nat} (h : n ≤ 1000) : Fit (sevens n) := by
  intro x hx
  obtain ⟨i, hi, rfl⟩ := sevens_mem hx
  omega
theorem stream_good {s : Sd} {n : Nat} {k : Int} : (((streamSeed s (sevens n) k).map Prod.snd).getD []).Nodup ∧ (∀ x ∈ ((streamSeed s (sevens n) k).map Prod.snd).getD [], ∃ i : Nat, i < n ∧ x = 7 * (i : Int) - 3) ∧
    ((streamSeed s (sevens n) k).isSome = true → (((streamSeed s (sevens n) k).map Prod.snd).getD []).length = min n k.toNat) := by
  unfold streamSeed
  split
  · rename_i hc
    simp only [Bool.and_eq_true] at hc
    have h2 := inB_true hc.2
    cases hr : streamGo k (sevens n) 0 s [] with
    | none => simp
    | some r =>
      have h1 := streamGo_good (t := r.1) (l := r.2) hr (by simpa using sevens_nodup n) (by simp) (by omega)
      simp only [Option.map_some, Option.getD_some]
      refine ⟨h1.1, fun x hx => sevens_mem (by simpa using h1.2.1 x hx), fun _ => ?_⟩
      rw [h1.2.2, sevens_len]
      omega
  · simp
end Go.Proofs.Ytnaolelijifniaa
