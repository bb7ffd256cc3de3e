/- SampleSeed: different numbers, drawn: plain law and the reference. -/
import Derived.Test.YtnaolelijifniaaCards
import Derived.Test.YtnaolelijifniaaSortI
namespace Go.Proofs.Ytnaolelijifniaa
open Go.RowKit
def sampleGo : List Int → Sd → List Int → Option (Sd × List Int)
  | [], s, out => some (s, out)
  | l :: ls, s, out => match tried l 64 s with
    | none => none
    | some (t, p) => sampleGo ls t (out ++ [if p ∈ out then l - 1 else p])
def sampleSeed (s : Sd) (n k : Int) : Option (Sd × List Int) :=
  if validB s && inB n 1 64 && inB k 0 n then (sampleGo (upFrom (n - k + 1) k.toNat) s []).map fun r => (r.1, sortedI r.2) else none
def sampleP : List Int → List Int → List Int → List Int
  | l :: ls, p :: ps, out => sampleP ls ps (out ++ [if p ∈ out then l - 1 else p])
  | _, _, out => out
theorem sampleGo_len {ls : List Int} {s t : Sd} {out xs : List Int} (h : sampleGo ls s out = some (t, xs)) : xs.length = out.length + ls.length := by
  induction ls generalizing s out with
  | nil => simp only [sampleGo, Option.some.injEq, Prod.mk.injEq] at h; rw [← h.2]; rfl
  | cons l ls ih =>
    unfold sampleGo at h
    split at h
    · cases h
    · rw [ih h]
      simp
      omega
theorem sample_short (k a b : Int) (n m : Int) : (((sampleSeed ⟨k, a, b⟩ n m).map Prod.snd).getD []).length ≤ 2000000 := by
  unfold sampleSeed
  split
  · rename_i h
    simp only [Bool.and_eq_true] at h
    have h1 := inB_true h.1.2
    have h2 := inB_true h.2
    cases hr : sampleGo (upFrom (n - m + 1) m.toNat) ⟨k, a, b⟩ [] with
    | none => simp
    | some r =>
      have := sampleGo_len (t := r.1) (xs := r.2) hr
      simp only [Option.map_some, Option.getD_some, sortedI_len]
      rw [this, upFrom_len]
      simp
      omega
  · simp
theorem draw_sample {ls : List Int} {s : Sd} {out : List Int} (hs : s.ok) (hv : validB s = true) (hl : ∀ l ∈ ls, 1 ≤ l ∧ l ≤ 4294967296) :
    (drawAll ls s).map (fun r => (r.1, sampleP ls r.2 out)) = sampleGo ls s out := by
  induction ls generalizing s out with
  | nil => simp [drawAll, sampleGo, sampleP]
  | cons l ls ih =>
    unfold drawAll sampleGo
    rw [belowS_valid hv (hl l (by simp))]
    cases ht : tried l 64 s with
    | none => rfl
    | some r =>
      obtain ⟨t, p⟩ := r
      have := ih (s := t) (out := out ++ [if p ∈ out then l - 1 else p]) (tried_ok hs ht) ((tried_valid hs ht).trans hv) (fun x hx => hl x (by simp [hx]))
      simp only
      rw [← this, Option.map_map]
      rfl
theorem sampleGo_none {l : Int} {ls : List Int} {s : Sd} {out : List Int} (h : tried l 64 s = none) : sampleGo (l :: ls) s out = none := by rw [sampleGo, h]
theorem sampleGo_some {l p : Int} {ls : List Int} {s t : Sd} {out : List Int} (h : tried l 64 s = some (t, p)) : sampleGo (l :: ls) s out = sampleGo ls t (out ++ [if p ∈ out then l - 1 else p]) := by rw [sampleGo, h]
theorem sampleP_step {ls ps out : List Int} {k : Nat} {l p : Int} (hl : ls[k]? = some l) (hp : ps[k]? = some p) : sampleP (ls.drop k) (ps.drop k) out = sampleP (ls.drop (k + 1)) (ps.drop (k + 1)) (out ++ [if p ∈ out then l - 1 else p]) := by
  rw [drop_cons hl, drop_cons hp, sampleP]
theorem sampleP_end {ls ps out : List Int} {k : Nat} (h : ps.length ≤ k) : sampleP (ls.drop k) (ps.drop k) out = out := by
  rw [List.drop_eq_nil_of_le h]
  cases ls.drop k <;> rfl
/-- Two ascending lists of the same numbers are one. -/
theorem strict_ext {xs ys : List Int} (hx : xs.Pairwise (fun a b => a < b)) (hy : ys.Pairwise (fun a b => a < b)) (h : ∀ a, a ∈ xs ↔ a ∈ ys) : xs = ys := by
  induction xs generalizing ys with
  | nil =>
    cases ys with
    | nil => rfl
    | cons y ys => exact absurd ((h y).2 (by simp)) (by simp)
  | cons x xs ih =>
    cases ys with
    | nil => exact absurd ((h x).1 (by simp)) (by simp)
    | cons y ys =>
      rw [List.pairwise_cons] at hx hy
      have hxy : x = y := by
        have h1 := (h x).1 (by simp)
        have h2 := (h y).2 (by simp)
        rcases List.mem_cons.1 h1 with e | h1
        · exact e
        · rcases List.mem_cons.1 h2 with e | h2
          · exact e.symm
          · have := hy.1 x h1
            have := hx.1 y h2
            omega
      subst hxy
      congr 1
      refine ih hx.2 hy.2 (fun a => ⟨fun ha => ?_, fun ha => ?_⟩)
      · rcases List.mem_cons.1 ((h a).1 (by simp [ha])) with e | h1
        · subst e
          have := hx.1 a ha
          omega
        · exact h1
      · rcases List.mem_cons.1 ((h a).2 (by simp [ha])) with e | h1
        · subst e
          have := hy.1 a ha
          omega
        · exact h1
theorem sortedI_strict {xs : List Int} (hn : xs.Nodup) : (sortedI xs).Pairwise (fun a b => a < b) := by
  have hp : (sortedI xs).Perm xs := List.mergeSort_perm _ _
  have hss : (sortedI xs).Pairwise (fun a b => a ≤ b) := by
    have := List.pairwise_mergeSort (le := fun x y : Int => decide (x ≤ y)) (by intro a b c h1 h2; simp only [decide_eq_true_eq] at h1 h2 ⊢; omega) (by intro a b; simp only [Bool.or_eq_true, decide_eq_true_eq]; omega) xs
    exact this.imp (by intro a b h; simpa using h)
  refine (hss.and (List.nodup_iff_pairwise_ne.1 (hp.nodup_iff.2 hn))).imp ?_
  rintro a b ⟨h1, h2⟩
  omega
theorem upFrom_strict (lo : Int) (k : Nat) : (upFrom lo k).Pairwise (fun a b => a < b) := by
  unfold upFrom
  rw [List.pairwise_map]
  exact (List.pairwise_lt_range (n := k)).imp (by intro a b h; omega)
theorem memI_upFrom {lo x : Int} {k : Nat} : x ∈ upFrom lo k ↔ lo ≤ x ∧ x < lo + k := by
  unfold upFrom
  rw [List.mem_map]
  constructor
  · rintro ⟨i, hi, rfl⟩
    have := List.mem_range.1 hi
    omega
  · intro h
    exact ⟨(x - lo).toNat, List.mem_range.2 (by omega), by omega⟩
/-- The numbers of a list that are less than n, ascending. -/
def inOrd (out : List Int) (n : Nat) : List Int := (upFrom 0 n).filter fun x => decide (x ∈ out)
theorem inOrd_sorted {out : List Int} {n : Nat} (hn : out.Nodup) (hb : ∀ x ∈ out, 0 ≤ x ∧ x < (n : Int)) : inOrd out n = sortedI out := by
  refine strict_ext ((upFrom_strict 0 n).filter _) (sortedI_strict hn) (fun a => ?_)
  unfold inOrd
  rw [List.mem_filter, memI_upFrom, (List.mergeSort_perm out _).mem_iff (a := a) |> (fun h => (h : a ∈ sortedI out ↔ a ∈ out))]
  constructor
  · rintro ⟨_, h⟩; simpa using h
  · intro h; have := hb a h; exact ⟨by omega, by simpa using h⟩
theorem inOrd_succ (out : List Int) (k : Nat) : inOrd out (k + 1) = inOrd out k ++ (if (k : Int) ∈ out then [(k : Int)] else []) := by
  unfold inOrd
  rw [upFrom_succ, List.filter_append, Int.zero_add]
  congr 1
  by_cases h : (k : Int) ∈ out <;> simp [h]
theorem inOrd_len (out : List Int) (k : Nat) : (inOrd out k).length ≤ k := by
  have := List.length_filter_le (fun x => decide (x ∈ out)) (upFrom 0 k)
  rw [upFrom_len] at this
  exact this
/-- One number more: none comes twice, all lie below the limit. -/
theorem sample_keep {out : List Int} {l p : Int} (hn : out.Nodup) (hb : ∀ x ∈ out, 0 ≤ x ∧ x < l - 1) (hl : 1 ≤ l) (hp : 0 ≤ p ∧ p < l) :
    (out ++ [if p ∈ out then l - 1 else p]).Nodup ∧ ∀ x ∈ out ++ [if p ∈ out then l - 1 else p], 0 ≤ x ∧ x < l := by
  have hnew : (if p ∈ out then l - 1 else p) ∉ out := by
    split
    · intro h; have := hb _ h; omega
    · assumption
  refine ⟨?_, fun x hx => ?_⟩
  · rw [List.nodup_append]
    refine ⟨hn, by simp, ?_⟩
    intro a ha b hb2 e
    rw [List.mem_singleton] at hb2
    subst hb2
    subst e
    exact hnew ha
  · rcases List.mem_append.1 hx with h | h
    · have := hb x h; omega
    · rw [List.mem_singleton] at h
      subst h
      split
      · omega
      · exact hp
theorem sample_join (s : Sd) (n k : Int) (hs : s.ok) (h1 : inB n 1 64 = true) (h2 : inB k 0 n = true) :
    sampleSeed s n k = (belowAllS s (upFrom (n - k + 1) k.toNat)).map fun r => (r.1, sortedI (sampleP (upFrom (n - k + 1) k.toNat) r.2 [])) := by
  have hn := inB_true h1
  have hk := inB_true h2
  unfold sampleSeed belowAllS
  rw [h1, h2]
  cases hv : validB s with
  | false => rfl
  | true =>
    simp only [Bool.and_self, if_true]
    rw [← draw_sample hs hv (fun l hl => by have := memI_upFrom.1 hl; omega), Option.map_map]
    rfl
theorem info_boolS : (Try.prog.info? 4).map (fun i => (i.zero, i.size, i.bytes)) = some (some (.bool false), 1, 1) := by kernel_rfl
def boolsS (l : List Bool) : List Value := l.map Value.bool
def memL (out : List Int) (n : Nat) : List Bool := (List.range n).map fun (j : Nat) => decide ((j : Int) ∈ out)
theorem memL_get {out : List Int} {n j : Nat} (h : j < n) : (boolsS (memL out n))[j]? = some (.bool (decide ((j : Int) ∈ out))) := by
  simp [boolsS, memL, h]
theorem memL_nil (n : Nat) : boolsS (memL [] n) = List.replicate n (.bool false) := by
  apply List.ext_getElem
  · simp [boolsS, memL]
  · intro i h1 h2
    simp [boolsS, memL]
theorem memL_set {out : List Int} {n j : Nat} : (boolsS (memL out n)).set j (.bool true) = boolsS (memL (out ++ [(j : Int)]) n) := by
  apply List.ext_getElem
  · simp [boolsS, memL]
  · intro i h1 h2
    rw [List.getElem_set]
    simp only [boolsS, memL, List.getElem_map, List.getElem_range]
    by_cases e : j = i
    · subst e
      simp
    · rw [if_neg e]
      have e2 : ¬ (i : Int) = (j : Int) := by omega
      simp [e2]
end Go.Proofs.Ytnaolelijifniaa
