/- Plain laws of draws in a row: streams and cards; no program in sight. -/
import Derived.Test.YtnaolelijifniaaDrawn
import Derived.Test.YtnaolelijifniaaRange
namespace Go.Proofs.Ytnaolelijifniaa
open Go.RowKit
theorem upFrom_cons (lo : Int) (k : Nat) : upFrom lo (k + 1) = lo :: upFrom (lo + 1) k := by
  unfold upFrom
  rw [List.range_succ_eq_map, List.map_cons, List.map_map]
  congr 1
  · simp
  · apply List.map_congr_left
    intro a _
    simp only [Function.comp, Nat.succ_eq_add_one]
    omega
theorem upFrom_get (lo : Int) (k i : Nat) (h : i < k) : (upFrom lo k)[i]? = some (lo + i) := by
  simp [upFrom, h]
theorem tried_some_ok {n : Int} {s t : Sd} {x : Int} (hs : s.ok) (h : tried n 64 s = some (t, x)) : t.ok := tried_ok hs h
/-- What comes into a stream of k from the k-th on. -/
def streamFrom (k : Int) : List Int → Nat → Sd → List Int → Option (Sd × List Int)
  | [], _, s, out => some (s, out)
  | x :: xs, i, s, out => match tried ((i : Int) + 1) 64 s with
    | none => none
    | some (t, p) => streamFrom k xs (i + 1) t (if p < k then out.set p.toNat x else out)
def streamGo (k : Int) : List Int → Nat → Sd → List Int → Option (Sd × List Int)
  | [], _, s, out => some (s, out)
  | x :: xs, i, s, out =>
    if (i : Int) < k then streamGo k xs (i + 1) s (out ++ [x])
    else match tried ((i : Int) + 1) 64 s with
      | none => none
      | some (t, p) => streamGo k xs (i + 1) t (if p < k then out.set p.toNat x else out)
theorem streamGo_from (k : Int) (xs : List Int) (i : Nat) (s : Sd) (out : List Int) (h : k ≤ i) : streamGo k xs i s out = streamFrom k xs i s out := by
  induction xs generalizing i s out with
  | nil => rfl
  | cons x xs ih =>
    unfold streamGo streamFrom
    rw [if_neg (by omega)]
    cases tried ((i : Int) + 1) 64 s with
    | none => rfl
    | some r => exact ih _ _ _ (by omega)
theorem streamGo_take (k : Int) (xs : List Int) (i : Nat) (s : Sd) (out : List Int) (hk : (i : Int) ≤ k) : streamGo k xs i s out = streamFrom k (xs.drop (k.toNat - i)) k.toNat s (out ++ xs.take (k.toNat - i)) := by
  induction xs generalizing i out with
  | nil => simp [streamGo, streamFrom]
  | cons x xs ih =>
    by_cases h : (i : Int) < k
    · unfold streamGo
      rw [if_pos h, ih (i + 1) (out ++ [x]) (by omega)]
      have e : k.toNat - i = (k.toNat - (i + 1)) + 1 := by omega
      rw [e]
      simp
    · have e : k.toNat - i = 0 := by omega
      have e2 : k.toNat = i := by omega
      rw [streamGo_from _ _ _ _ _ (by omega), e, e2]
      simp
def streamSeed (s : Sd) (xs : List Int) (k : Int) : Option (Sd × List Int) :=
  if validB s && inB xs.length 0 256 && inB k 1 64 then streamGo k xs 0 s [] else none
theorem streamFrom_len (k : Int) (xs : List Int) (i : Nat) (s t : Sd) (out l : List Int) (h : streamFrom k xs i s out = some (t, l)) : l.length = out.length := by
  induction xs generalizing i s out with
  | nil => simp only [streamFrom, Option.some.injEq, Prod.mk.injEq] at h; rw [← h.2]
  | cons x xs ih =>
    unfold streamFrom at h
    split at h
    · cases h
    · rw [ih _ _ _ h]
      split <;> simp
theorem streamSeed_short (s : Sd) (xs : List Int) (k : Int) : (((streamSeed s xs k).map Prod.snd).getD []).length ≤ 2000000 := by
  unfold streamSeed
  split
  · rename_i h
    simp only [Bool.and_eq_true] at h
    have h1 := inB_true h.1.2
    have h2 := inB_true h.2
    rw [streamGo_take k xs 0 s [] (by omega)]
    cases hr : streamFrom k (xs.drop (k.toNat - 0)) k.toNat s ([] ++ xs.take (k.toNat - 0)) with
    | none => simp
    | some r =>
      have := streamFrom_len _ _ _ _ r.1 _ r.2 hr
      simp only [Option.map_some, Option.getD_some]
      rw [this]
      simp
      omega
  · simp
/-- The picks put into a list. -/
def placeP (k : Int) : List Int → List Int → List Int → List Int
  | p :: ps, x :: xs, out => placeP k ps xs (if p < k then out.set p.toNat x else out)
  | _, _, out => out
theorem draw_stream (k : Int) (xs : List Int) (i : Nat) (s : Sd) (out : List Int) (hs : s.ok) (hv : validB s = true) (hi : i + xs.length ≤ 4294967296) :
    (drawAll (upFrom ((i : Int) + 1) xs.length) s).map (fun r => (r.1, placeP k r.2 xs out)) = streamFrom k xs i s out := by
  induction xs generalizing i s out with
  | nil => simp [upFrom, drawAll, streamFrom, placeP]
  | cons x xs ih =>
    rw [List.length_cons] at hi
    rw [List.length_cons, upFrom_cons]
    unfold drawAll streamFrom
    rw [belowS_valid hv (by omega)]
    cases ht : tried ((i : Int) + 1) 64 s with
    | none => rfl
    | some r =>
      obtain ⟨t, p⟩ := r
      have hto := tried_ok hs ht
      have htv := (tried_valid hs ht).trans hv
      have := ih (i + 1) t (if p < k then out.set p.toNat x else out) hto htv (by omega)
      simp only
      rw [← this]
      have e : ((i + 1 : Nat) : Int) + 1 = (i : Int) + 1 + 1 := by omega
      rw [e, Option.map_map]
      rfl
/-- Two numbers of a list change places. -/
def swapAt (l : List Int) (i j : Nat) : List Int := (l.set i (l.getD j 0)).set j (l.getD i 0)
theorem swapAt_len (l : List Int) (i j : Nat) : (swapAt l i j).length = l.length := by simp [swapAt]
/-- Cards from the m-th down to the first. -/
def cardsGo : Nat → Sd → List Int → Option (Sd × List Int)
  | 0, s, out => some (s, out)
  | m + 1, s, out => match tried ((m : Int) + 2) 64 s with
    | none => none
    | some (t, p) => cardsGo m t (swapAt out (m + 1) p.toNat)
theorem cardsGo_len (m : Nat) (s t : Sd) (out l : List Int) (h : cardsGo m s out = some (t, l)) : l.length = out.length := by
  induction m generalizing s out with
  | zero => simp only [cardsGo, Option.some.injEq, Prod.mk.injEq] at h; rw [← h.2]
  | succ m ih =>
    unfold cardsGo at h
    split at h
    · cases h
    · rw [ih _ _ h, swapAt_len]
def cardsSeed (s : Sd) (n : Int) : Option (Sd × List Int) :=
  if validB s && inB n 1 64 then cardsGo (n - 1).toNat s (upFrom 0 n.toNat) else none
theorem cardsSeed_short (s : Sd) (n : Int) : (((cardsSeed s n).map Prod.snd).getD []).length ≤ 2000000 := by
  unfold cardsSeed
  split
  · rename_i h
    simp only [Bool.and_eq_true] at h
    have h2 := inB_true h.2
    cases hr : cardsGo (n - 1).toNat s (upFrom 0 n.toNat) with
    | none => simp
    | some r =>
      have := cardsGo_len _ _ r.1 _ r.2 hr
      simp only [Option.map_some, Option.getD_some]
      rw [this, upFrom_len]
      omega
  · simp
def downTo : Nat → List Int
  | 0 => []
  | m + 1 => ((m : Int) + 2) :: downTo m
theorem downTo_len (m : Nat) : (downTo m).length = m := by
  induction m with
  | zero => rfl
  | succ m ih => rw [downTo, List.length_cons, ih]
theorem downTo_rev (m : Nat) : (upFrom 2 m).reverse = downTo m := by
  induction m with
  | zero => rfl
  | succ m ih => rw [upFrom_succ, List.reverse_append, ih, downTo, Int.add_comm]; rfl
def swaps : List Int → List Int → List Int → List Int
  | l :: ls, p :: ps, out => swaps ls ps (swapAt out (l - 1).toNat p.toNat)
  | _, _, out => out
theorem draw_cards (m : Nat) (s : Sd) (out : List Int) (hs : s.ok) (hv : validB s = true) (hm : (m : Int) + 1 ≤ 4294967296) :
    (drawAll (downTo m) s).map (fun r => (r.1, swaps (downTo m) r.2 out)) = cardsGo m s out := by
  induction m generalizing s out with
  | zero => simp [downTo, drawAll, cardsGo, swaps]
  | succ m ih =>
    unfold cardsGo
    rw [downTo]
    unfold drawAll
    rw [belowS_valid hv (by omega)]
    cases ht : tried ((m : Int) + 2) 64 s with
    | none => rfl
    | some r =>
      obtain ⟨t, p⟩ := r
      have hto := tried_ok hs ht
      have htv := (tried_valid hs ht).trans hv
      have e2 : ((m : Int) + 2 - 1).toNat = m + 1 := by omega
      have := ih t (swapAt out (m + 1) p.toNat) hto htv (by omega)
      simp only
      rw [← this, Option.map_map]
      congr 1
      funext r
      simp only [Function.comp, swaps, e2]
/-- Draws below one bound. -/
def returnSeed (s : Sd) (n k : Int) : Option (Sd × List Int) :=
  if validB s && inB n 1 64 && inB k 0 64 then drawAll (List.replicate k.toNat n) s else none
theorem returnSeed_short (s : Sd) (n k : Int) : (((returnSeed s n k).map Prod.snd).getD []).length ≤ 2000000 := by
  unfold returnSeed
  split
  · rename_i h
    simp only [Bool.and_eq_true] at h
    have h2 := inB_true h.2
    cases hr : drawAll (List.replicate k.toNat n) s with
    | none => simp
    | some r =>
      have := drawAll_length (t := r.1) (xs := r.2) hr
      simp only [Option.map_some, Option.getD_some]
      rw [this, List.length_replicate]
      omega
  · simp
theorem drawAll_nonneg {ls : List Int} {s t : Sd} {xs : List Int} (h : drawAll ls s = some (t, xs)) : ∀ x ∈ xs, 0 ≤ x := by
  induction ls generalizing s t xs with
  | nil => simp only [drawAll, Option.some.injEq, Prod.mk.injEq] at h; rw [← h.2]; intro x hx; cases hx
  | cons l ls ih =>
    unfold drawAll at h
    split at h
    · cases h
    · rename_i t1 y hb
      cases hd : drawAll ls t1 with
      | none => rw [hd] at h; cases h
      | some r =>
        rw [hd] at h
        simp only [Option.map_some, Option.some.injEq, Prod.mk.injEq] at h
        rw [← h.2]
        intro x hx
        rcases List.mem_cons.1 hx with rfl | hx
        · unfold belowS at hb
          split at hb
          · rename_i hc
            simp only [Bool.and_eq_true] at hc
            have h1 := inB_true hc.2
            exact (tried_lt (by omega) hb).1
          · cases hb
        · exact ih (t := r.1) (xs := r.2) (by rw [hd]) x hx
theorem belowAllS_some {s t : Sd} {ls xs : List Int} (h : belowAllS s ls = some (t, xs)) : validB s = true ∧ drawAll ls s = some (t, xs) := by
  unfold belowAllS at h
  split at h
  · exact ⟨by assumption, h⟩
  · cases h
theorem stream_join (s : Sd) (xs : List Int) (m : Int) (hs : s.ok) (h1 : xs.length ≤ 256) (h2 : inB m 1 64 = true) :
    streamSeed s xs m = (belowAllS s (upFrom (m + 1) (xs.length - m.toNat))).map fun r => (r.1, placeP m r.2 (xs.drop m.toNat) (xs.take m.toNat)) := by
  have hm := inB_true h2
  unfold streamSeed belowAllS
  rw [h2, inB_mk (n := (xs.length : Int)) (lo := 0) (hi := 256) (by omega)]
  cases hv : validB s with
  | false => rfl
  | true =>
    simp only [Bool.and_self, if_true]
    rw [streamGo_take m xs 0 s [] (by omega), Nat.sub_zero, List.nil_append]
    have := draw_stream m (xs.drop m.toNat) m.toNat s (xs.take m.toNat) hs hv (by rw [List.length_drop]; omega)
    rw [← this, List.length_drop]
    have e : ((m.toNat : Nat) : Int) + 1 = m + 1 := by omega
    rw [e]
theorem cards_join (s : Sd) (n : Int) (hs : s.ok) (h2 : inB n 1 64 = true) :
    cardsSeed s n = (belowAllS s (upFrom 2 (n - 1).toNat).reverse).map fun r => (r.1, swaps (downTo (n - 1).toNat) r.2 (upFrom 0 n.toNat)) := by
  have hn := inB_true h2
  unfold cardsSeed belowAllS
  rw [h2, downTo_rev]
  cases hv : validB s with
  | false => rfl
  | true =>
    simp only [Bool.and_self, if_true]
    exact (draw_cards (n - 1).toNat s (upFrom 0 n.toNat) hs hv (by omega)).symm
end Go.Proofs.Ytnaolelijifniaa
