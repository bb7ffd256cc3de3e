/- slices.Index and slices.Contains on a list of int64; 'slices.Delete' of two numbers. -/
import Derived.Test.YtgkbkbmhdhlffaaRange
import Derived.Test.YtgkbkbmhdhlffaaShapes
import Derived.Test.YtgkbkbmhdhlffaaDelete
namespace Go.Proofs.Ytgkbkbmhdhlffaa
open Go.RowKit
/-- k is the first place of x, or -1 where there is none. -/
def IdxI (xs : List Int) (x k : Int) : Prop := (k = -1 ∧ x ∉ xs) ∨ ∃ j : Nat, k = j ∧ xs[j]? = some x ∧ ∀ i, i < j → xs[i]? ≠ some x
theorem IdxI.neg {xs : List Int} {x k : Int} (h : IdxI xs x k) : decide (0 ≤ k) = decide (x ∈ xs) := by
  rcases h with ⟨rfl, h⟩ | ⟨j, rfl, h, -⟩
  · simp [h]
  · have : x ∈ xs := List.mem_iff_getElem?.2 ⟨j, h⟩
    simp [this]
theorem index_any (A : Option Addr) (n c B : Nat) (xs : List Int) (x : Int) (w : World) (h : Rd w B A n (i64s xs)) (hn : n ≤ 2000000) :
    Calls Try.prog 33 #[.slice A n c, .int .i64 x] w fun e w' => ∃ k : Int, e = .returned (.int .i64 k) ∧ w' = w ∧ IdxI xs x k := by
  have hl := h.lenI
  obtain rfl : xs.length = n := hl.out
  have HR := Lib.hid h
  clear h hl
  go_enter Try.func33, Try.ntmps33
  go_wp2
  go_loopw [8] (fun i wr => ∃ k : Nat, k ≤ xs.length ∧ i = .int .i64 k ∧ wr = w ∧ ∀ j, j < k → xs[j]? ≠ some x) (fun i _ => xs.length - (intOf i).toNat)
  case atStart => exact ⟨0, Nat.zero_le _, rfl, rfl, fun j hj => by omega⟩
  case round =>
    obtain ⟨k, hk, rfl, rfl, hno⟩ := hrel
    have Hno := Lib.hid hno
    clear hno
    by_cases hlt : k < xs.length
    · have hlt' : (k : Int) < (xs.length : Int) := by omega
      obtain ⟨b, off, y, rfl, hbB, hy, hcy⟩ := HR.out.atI (k := k) hlt
      by_cases he : x = y
      · have Hy : Hid (xs[k]? = some x) := by show _ = _; rw [he]; exact hy.out
        subst he
        go_wp2
        go_ret
        exact ⟨_, rfl, rfl, .inr ⟨k, rfl, Hy.out, Hno.out⟩⟩
      · have Hy : Hid (xs[k]? ≠ some x) := fun e => he (by have := e.symm.trans hy.out; injection this)
        have hb : (x == y) = false := by rw [beq_eq_false_iff_ne]; exact he
        clear he
        go_wp2
        go_roundw
        case rel =>
          refine ⟨k + 1, by omega, by go_num, trivial, fun j hj => ?_⟩
          rcases Nat.lt_succ_iff_lt_or_eq.1 hj with h | rfl
          · exact Hno.out j h
          · exact Hy.out
        case measure => simp only [intOf]; omega
    · obtain rfl : k = xs.length := by omega
      go_wp2
      go_ret
      refine ⟨_, rfl, rfl, .inl ⟨rfl, fun hm => ?_⟩⟩
      obtain ⟨j, hj⟩ := List.mem_iff_getElem?.1 hm
      exact Hno.out j (List.getElem?_eq_some_iff.1 hj).1 hj
theorem contains_any (A : Option Addr) (n c B : Nat) (xs : List Int) (x : Int) (w : World) (h : Rd w B A n (i64s xs)) (hn : n ≤ 2000000) :
    Calls Try.prog 48 #[.slice A n c, .int .i64 x] w fun e w' => e = .returned (.bool (decide (x ∈ xs))) ∧ w' = w := by
  have HR := Lib.hid h
  clear h
  go_enter Try.func48, Try.ntmps48
  go_wp2_with fail
  refine (index_any A n c B xs x _ HR.out hn).mono ?_
  rintro e w1 ⟨k, rfl, rfl, hk⟩
  have Hk := Lib.hid hk.neg
  clear hk
  go_wp2
  go_ret
  exact ⟨by rw [← Hk.out]; rfl, rfl⟩
set_option maxHeartbeats 1000000 in
theorem delete2_any (A : Option Addr) (n cap base i : Nat) (xs : List Int) (w : World) (h : Own w base 2 (.slice A n cap) (i64s xs)) (hi : i + 2 ≤ n) (_hn : n ≤ 1000000) :
    Calls Try.prog 35 #[.slice A n cap, .int .i64 i, .int .i64 ((i : Int) + 2)] w fun e w' => ∃ v, e = .returned v ∧ Own w' base 2 v (i64s (xs.take i ++ xs.drop (i + 2))) ∧ w.grownBy w' (Value.ownBlock (.slice A n cap)) ∧ v.ownBlock = Value.ownBlock (.slice A n cap) := by
  have hl : n = xs.length := by have := h.rd.1; rwa [i64s_length] at this
  have hown : w.ownsRow base 2 1 (.slice A n cap) n (i64s xs) := by unfold Own at h; rwa [i64s_length, ← hl] at h
  clear h
  obtain ⟨g, hA, hcap, hmx⟩ : ∃ g, A = some ⟨g, 0, none⟩ ∧ n ≤ cap ∧ cap ≤ maxLen := by
    rcases hown.2 with ⟨_, h0⟩ | ⟨g, cap', cur, hv, _, _, h1, h2, _⟩
    · omega
    · simp only [Value.slice.injEq] at hv; obtain ⟨a, b, c⟩ := hv; subst c; exact ⟨g, a, h1, h2⟩
  subst hA
  unfold maxLen at hmx
  obtain ⟨i0, hi0, hz0, hz1, hz2⟩ := info_parts info_i64'
  have hb : ((i : Int) == (i : Int) + 2) = false := by rw [beq_eq_false_iff_ne]; omega
  have Hl := Lib.hid hl
  clear hl
  have hp0 : (0 : Int) ≤ (i : Int) + 2 := by omega
  have hp1 : (i : Int) + 2 ≤ (n : Int) := by omega
  have hp2 : ((i : Int) + 2).toNat = i + 2 := by omega
  have hp3 : (i : Int) ≤ (i : Int) + 2 := by omega
  go_enter Try.func35, Try.ntmps35
  obtain ⟨A', hA', hor⟩ : ∃ A', (if cap = i + 2 then some (⟨g, 0, none⟩ : Addr) else some ⟨g, i + 2, none⟩) = A' ∧ Hid (A' = some ⟨g, i + 2, none⟩ ∨ A' = some ⟨g, 0, none⟩ ∧ n ≤ i + 2) := by
    by_cases h : cap = i + 2
    · exact ⟨_, rfl, .inr ⟨by simp [h], by omega⟩⟩
    · exact ⟨_, rfl, .inl (by simp [h])⟩
  have HO := Lib.hid hown
  clear hown
  have hone : Hid (∀ u ∈ i64s xs, u.oneCell' = true) := ints_oneCell _ _
  go_wp2_with fail
  have hic : i ≤ cap := by omega
  go_region_law (refine step_append_cut rfl (.tmp 22) (.tmp 25) 22 rfl base 2 i0 Try.underlying22 hi0 hz1 g n cap i (i + 2) (cap - (i + 2)) (i64s xs) HO.out (by simp [Act.eval, Act.put]) A' (by simp [Act.eval, Act.put]) hor.out hone.out (by omega) (by omega) ?_; intro w1 hown1 hgrow1)
  have HO1 := Lib.hid hown1; have HG1 := Lib.hid hgrow1
  clear hown1 hgrow1
  have hlt : i + (n - (i + 2)) < n := by omega
  go_wp2_with (refine wpList_clear_tail _ rfl (.tmp 31) 22 rfl base 2 (.int .i64 0) Try.underlying22 zero_i64 rfl rfl g (i + (n - (i + 2))) _ cap _ _ HO1.out rfl ?c1 ?c2 ?_)
  case c1 => omega
  case c2 => omega
  intro w2 hown2 hgrow2
  have HO2 := Lib.hid hown2; have HG2 := Lib.hid hgrow2
  clear hown2 hgrow2
  go_wp2
  go_ret
  refine ⟨_, rfl, ?_, ?_, rfl⟩
  · have e : List.take i (i64s xs) ++ List.drop (i + 2) (i64s xs) = i64s (xs.take i ++ xs.drop (i + 2)) := by simp [i64s]
    have h3 := HO2.out
    rw [e] at h3
    unfold Own
    have hle : (i64s (xs.take i ++ xs.drop (i + 2))).length = i + (n - (i + 2)) := by simpa using h3.1
    rw [hle]
    exact h3
  · exact grown_trans' (grown_trans' (World.grownBy.refl w _) (by simpa [Value.ownBlock] using (⟨HG1.out.os, HG1.out.tape, HG1.out.output, HG1.out.size, HG1.out.block⟩ : w.grownBy w1 (some g)))) (by simpa [Value.ownBlock] using HG2.out)
end Go.Proofs.Ytgkbkbmhdhlffaa
