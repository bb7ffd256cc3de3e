/- CodeOfTree: the function as such; plain law. -/
import Derived.Test.YtgkbkbmhdhlffaaJoinP
import Derived.Test.YtgkbkbmhdhlffaaIndex
namespace Go.Proofs.Ytgkbkbmhdhlffaa
open Go.RowKit
def pairsOf (xs : List Int) : List Ed := (List.range (xs.length / 2)).map fun i => ((xs.getD (2 * i) 0).toNat, (xs.getD (2 * i + 1) 0).toNat)
theorem pairs_flat (E : List Ed) : pairsOf (flatI E) = E := by
  apply List.ext_getElem?
  intro i
  unfold pairsOf
  rw [flatI_len, show 2 * E.length / 2 = E.length by omega]
  by_cases hi : i < E.length
  · have he : E[i]? = some E[i] := List.getElem?_eq_getElem hi
    have h0 := flatI_0 he
    have h1 := flatI_1 he
    rw [List.getElem?_map, List.getElem?_range hi, he]
    simp [List.getD_eq_getElem?_getD, h0, h1]
  · rw [List.getElem?_eq_none (by simpa using hi), List.getElem?_eq_none (by omega)]
def natsI (L : List Nat) : List Int := L.map fun v : Nat => (v : Int)
theorem natsI_len (L : List Nat) : (natsI L).length = L.length := by simp [natsI]
def codeR (xs : List Int) (n : Int) : Option (List Int) :=
  if areEdges xs n = true ∧ 2 ≤ n ∧ (xs.length : Int) = 2 * (n - 1) then (strip n.toNat (n.toNat - 2) (pairsOf xs)).map fun r => natsI r.1 else none
theorem codeR_no {xs : List Int} {n : Int} (h : ¬ (areEdges xs n = true ∧ 2 ≤ n ∧ (xs.length : Int) = 2 * (n - 1))) : codeR xs n = none := if_neg h
theorem codeR_flat {E : List Ed} {k : Nat} (h : EdOk E (k + 2)) (hl : E.length = k + 1) (hk : k ≤ 62) : codeR (flatI E) ((k + 2 : Nat) : Int) = (strip (k + 2) k E).map fun r => natsI r.1 := by
  unfold codeR
  rw [if_pos ⟨areEdges_flat h (by omega) (by omega) (by omega), by omega, by rw [flatI_len]; omega⟩, pairs_flat, Int.toNat_natCast]
  rfl
theorem flat_take : ∀ (E : List Ed) (j : Nat), flatI (E.take j) = (flatI E).take (2 * j)
  | [], j => by simp [flatI]
  | e :: E, 0 => by simp [flatI]
  | e :: E, j + 1 => by
    rw [List.take_succ_cons, flatI_cons, flatI_cons, flat_take E j, show 2 * (j + 1) = 2 * j + 1 + 1 by omega, List.take_succ_cons, List.take_succ_cons]
theorem flat_drop : ∀ (E : List Ed) (j : Nat), flatI (E.drop j) = (flatI E).drop (2 * j)
  | [], j => by simp [flatI]
  | e :: E, 0 => by simp
  | e :: E, j + 1 => by
    rw [List.drop_succ_cons, flatI_cons, flat_drop E j, show 2 * (j + 1) = 2 * j + 1 + 1 by omega, List.drop_succ_cons, List.drop_succ_cons]
theorem without_idx {F : List Ed} {j v : Nat} {e : Ed} (hd : deg F v = 1) (he : F[j]? = some e) (ht : touch v e = true) : without F v = F.eraseIdx j := by
  obtain ⟨hj, rfl⟩ := List.getElem?_eq_some_iff.1 he
  have hF : F = F.take j ++ F[j] :: F.drop (j + 1) := by rw [← List.drop_eq_getElem_cons hj, List.take_append_drop]
  generalize F[j] = x at *
  have hc : (F.take j).countP (touch v) = 0 ∧ (F.drop (j + 1)).countP (touch v) = 0 := by
    unfold deg at hd
    rw [hF, List.countP_append, List.countP_cons, if_pos ht] at hd
    omega
  have k1 : ∀ y ∈ F.take j, ¬ touch v y = true := List.countP_eq_zero.1 hc.1
  have k2 : ∀ y ∈ F.drop (j + 1), ¬ touch v y = true := List.countP_eq_zero.1 hc.2
  rw [List.eraseIdx_eq_take_drop_succ]
  unfold without
  conv => lhs; rw [hF]
  rw [List.filter_append, List.filter_cons, if_neg (by simp [ht]), List.filter_eq_self.2 fun y hy => by simpa using k1 y hy, List.filter_eq_self.2 fun y hy => by simpa using k2 y hy]
theorem find_idx {F : List Ed} {j v : Nat} {e : Ed} (hd : deg F v = 1) (he : F[j]? = some e) (ht : touch v e = true) : F.find? (touch v) = some e := by
  obtain ⟨x, hx⟩ := edge_ex hd
  have := only_edge hd hx (List.mem_iff_getElem?.2 ⟨j, he⟩) ht
  rw [hx, this]
/-- One leaf is taken away. -/
theorem code_step {F : List Ed} {m v i : Nat} (hE : EdOk F m) (hd : deg F v = 1) (hi : (flatI F)[i]? = some (v : Int)) :
    ∃ e, i < 2 * F.length ∧ F.find? (touch v) = some e ∧ (flatI F)[flipN i]? = some ((other v e : Nat) : Int) ∧ (flatI F).take (i / 2 * 2) ++ (flatI F).drop (i / 2 * 2 + 2) = flatI (without F v) := by
  have hlt := (List.getElem?_eq_some_iff.1 hi).1
  rw [flatI_len] at hlt
  have hfl : (flatI F)[flipN i]? = some ((flatI F)[flipN i]'(by rw [flatI_len]; exact flip_lt hlt)) := List.getElem?_eq_getElem _
  generalize (flatI F)[flipN i]'(by rw [flatI_len]; exact flip_lt hlt) = o at hfl
  obtain ⟨e, he, hc⟩ := flat_flip hi hfl
  have ht : touch v e = true := touch_iff.2 (by rcases hc with ⟨-, h, -⟩ | ⟨-, h, -⟩ <;> omega)
  have hlt2 := (hE.lt e (List.mem_iff_getElem?.2 ⟨_, he⟩)).1
  refine ⟨e, hlt, find_idx hd he ht, ?_, ?_⟩
  · rw [hfl]
    congr 1
    unfold other
    rcases hc with ⟨-, h, h2⟩ | ⟨-, h, h2⟩
    · rw [if_pos (by omega), h2]
    · rw [if_neg (by omega), h2]
  · rw [without_idx hd he ht, List.eraseIdx_eq_take_drop_succ, flatI_append, flat_take, flat_drop, show 2 * (i / 2 + 1) = i / 2 * 2 + 2 by omega, show 2 * (i / 2) = i / 2 * 2 by omega]
theorem degRow_at {F : List Ed} {m u : Nat} (hE : EdOk F m) (hu : u < m) : (degRow m (flatI F))[u]? = some ((deg F u : Nat) : Int) := by
  have h := degRow_flat hE u hu
  have hl : u < (degRow m (flatI F)).length := by rw [degRow_len]; exact hu
  rw [List.getD_eq_getElem?_getD, List.getElem?_eq_getElem hl] at h
  rw [List.getElem?_eq_getElem hl]
  exact congrArg some h
theorem leaf_idx {F : List Ed} {m v : Nat} {k : Int} (hE : EdOk F m) (hv : leafOf F m = some v) (hk : IdxI (degRow m (flatI F)) 1 k) : k = v := by
  obtain ⟨h1, h2, h3⟩ := leaf_get hv
  have hv1 := degRow_at hE h1
  rw [h2] at hv1
  rcases hk with ⟨-, hno⟩ | ⟨j, rfl, hj, hb⟩
  · exact absurd (List.mem_iff_getElem?.2 ⟨v, hv1⟩) hno
  · have hjm := (List.getElem?_eq_some_iff.1 hj).1
    rw [degRow_len] at hjm
    have hj1 := degRow_at hE hjm
    rw [hj] at hj1
    have : deg F j = 1 := by have := Option.some.inj hj1; omega
    rcases Nat.lt_trichotomy j v with h | h | h
    · exact absurd this (h3 j h)
    · omega
    · exact absurd hv1 (hb v h)
theorem strip_step {F : List Ed} {m k v : Nat} {e : Ed} (hv : leafOf F m = some v) (he : F.find? (touch v) = some e) : strip m (k + 1) F = (strip m k (without F v)).map fun r => (other v e :: r.1, r.2) := by
  rw [strip, hv]
  simp only
  rw [he]
theorem leaf_there {F : List Ed} {V : List Nat} {n : Nat} (h : Gr F V n) (hc : Conn F V) (h2 : 2 ≤ V.length) (hl : F.length + 1 = V.length) : ∃ v, leafOf F n = some v := by
  obtain ⟨v, hv, hd⟩ := has_leaf h hc h2 hl
  exact leaf_ex (h.lt v hv) hd
end Go.Proofs.Ytgkbkbmhdhlffaa
