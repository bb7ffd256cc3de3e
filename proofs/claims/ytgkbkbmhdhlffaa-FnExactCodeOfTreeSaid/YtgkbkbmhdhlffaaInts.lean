/- The helpers of the statements on lists of int64: what each computes and what it leaves of memory. -/
import Derived.Test.YtgkbkbmhdhlffaaBase
import Derived.Test.YtgkbkbmhdhlffaaProg
namespace Go.Proofs.Ytgkbkbmhdhlffaa
open Go.RowKit

theorem info_i64 : (Try.prog.info? 2).map (fun i => (i.zero, i.size, i.bytes)) = some (some (.int .i64 0), 1, 8) := by kernel_rfl

/-- 'eqInt64S': whether two lists are equal; nothing is written. -/
theorem eqI_any (A A' : Option Addr) (n n' c c' B : Nat) (xs ys : List Int) (w : World) (h : Rd w B A n (i64s xs)) (h' : Rd w B A' n' (i64s ys)) (hn : n ≤ maxLen) :
    Calls Try.prog 9 #[.slice A n c, .slice A' n' c'] w fun e w' => e = .returned (.bool (decide (xs = ys))) ∧ ∃ k, w' = w.drewN k := by
  have hl := h.lenI; have hl' := h'.lenI
  unfold maxLen at hn
  by_cases hne : n = n'
  · subst hne
    have hb : ((n : Int) != (n : Int)) = false := by simp
    go_enter Try.func9, Try.ntmps9
    go_wp2
    go_loopw [4, 5] (fun r i wr => ∃ k q : Nat, k ≤ n ∧ i = .int .i64 k ∧ wr = w.drewN q ∧ Hid (xs.take k = ys.take k)) (fun _ i _ => n - (intOf i).toNat)
    case atStart => exact ⟨0, 0, Nat.zero_le _, rfl, rfl, rfl⟩
    case round =>
      obtain ⟨k, q, hk, rfl, rfl, heq⟩ := hrel
      by_cases hlt : k < n
      · obtain ⟨b, off, x, rfl, _, hx, hc⟩ := h.atI hlt
        obtain ⟨b', off', y, rfl, _, hy, hc'⟩ := h'.atI hlt
        have hlt' : (k : Int) < (n : Int) := by omega
        have h0 : (0 : Int) ≤ (k : Int) := by omega
        clear h h'
        by_cases hxy : x = y
        · subst hxy
          have hb2 : (x != x) = false := by simp
          go_wp2
          go_quiet (fail)
          go_wp2
          go_roundw
          case rel => exact ⟨k + 1, q + nq, by omega, by go_num, rfl, by show _ = _; rw [take_succ_of hx.out, take_succ_of hy.out, heq.out]⟩
          case measure => simp [intOf]; omega
        · have hb2 : (x != y) = true := by simp [hxy]
          have hfin : Hid (decide (xs = ys) = false) := by
            show _ = _
            rw [decide_eq_false_iff_not]
            intro e
            subst e
            have h1 := hx.out; have h2 := hy.out
            rw [h1] at h2
            exact hxy (by injection h2)
          have Hxy := Lib.hid hxy; clear hxy
          go_wp2
          go_quiet (fail)
          go_wp2
          go_ret
          exact ⟨ret_bool hfin.out.symm, _, World.drewN_drewN _ _ _⟩
      · go_wp2
        go_ret
        refine ⟨ret_bool ?_, q, rfl⟩
        have h1 := heq.out
        have h2 := hl.out
        have h3 := hl'.out
        rw [List.take_of_length_le (by omega), List.take_of_length_le (by omega)] at h1
        simp [h1]
  · have hb : ((n : Int) != (n' : Int)) = true := by rw [bne_iff_ne]; omega
    have hfin : Hid (decide (xs = ys) = false) := by
      show _ = _
      rw [decide_eq_false_iff_not]
      intro e
      subst e
      exact hne (hl.out.symm.trans hl'.out)
    have Hne := Lib.hid hne; clear hne
    go_enter Try.func9, Try.ntmps9
    go_wp2
    go_ret
    exact ⟨ret_bool hfin.out.symm, 0, rfl⟩

/-- 'toInt64S': a new list with the same numbers. -/
theorem toI_any (A : Option Addr) (n c B : Nat) (xs : List Int) (w : World) (h : Rd w B A n (i64s xs)) (hB : B ≤ w.heap.size) (hn : n ≤ 1048576) :
    Calls Try.prog 7 #[.slice A n c] w fun e w' => ∃ v, e = .returned v ∧ Own w' w.heap.size 2 v (i64s xs) ∧ Below w.heap.size w w' := by
  have hl := h.lenI
  obtain ⟨i0, hi, hz0, hz1, hz2⟩ := info_parts info_i64
  go_enter Try.func7, Try.ntmps7
  go_wp2_with (at_make; refine wpList_make_full _ rfl _ _ 22 rfl w.heap.size 2 i0 (.int .i64 0) 1 Try.underlying22 hi hz0 hz1 _ _ _ _ n rfl rfl rfl rfl ?c1 ?c2 ?c3 ?_)
  case c1 => rw [hz2]; omega
  case c2 => unfold maxLen; omega
  case c3 => exact Nat.le_refl _
  intro w1 hown hgrow
  clear hi hz0 hz1 hz2
  go_wp2
  go_loopw [4] (fun i wr => ∃ k : Nat, k ≤ n ∧ i = .int .i64 k ∧ wr.ownsRow w.heap.size 2 1 (.slice (some ⟨w.heap.size, 0, none⟩) n n) n (filled (.int .i64 0) (i64s xs) k n) ∧ Below w.heap.size w wr) (fun i _ => n - (intOf i).toNat)
  case atStart => exact ⟨0, Nat.zero_le _, rfl, by rw [filled_zero, ← madeCells_one]; simpa using hown, (Below.refl _ _).grown hgrow (Nat.le_refl _) (by simp)⟩
  case round =>
    obtain ⟨k, hk, rfl, hown, hbel⟩ := hrel
    by_cases hlt : k < n
    · obtain ⟨b, off, x, rfl, hbB, hx, hc⟩ := h.atI hlt
      have hc1 := (hbel.cell (p := ⟨b, off + k, none⟩) (by show b < _; omega)).trans hc
      obtain ⟨u, hu⟩ := filled_at (.int .i64 0) (i64s xs) k n hlt (by rw [i64s_length]; exact hl.out)
      have hc2 := (hown.cellAt k (by omega)).trans hu
      have hf2 := hown.frozenAt k
      have HO := Lib.hid hown; have HB := Lib.hid hbel; have HC := Lib.hid hc
      clear h hown hbel hc hgrow hu
      go_wp2
      go_roundw
      case rel =>
        refine ⟨k + 1, by omega, by go_num, ?_, HB.out.setCell (Nat.le_refl _) _⟩
        have := (HO.out.stored k (.int .i64 x)).1
        rwa [filled_set _ _ _ _ _ (by simp [i64s, hx.out]) (by rw [i64s_length]; exact hl.out)] at this
      case measure => simp [intOf]; omega
    · obtain rfl : k = n := by omega
      rw [filled_all _ _ _ (by rw [i64s_length]; exact hl.out)] at hown
      have HO := Lib.hid hown; have HB := Lib.hid hbel
      clear h hown hbel hgrow
      go_wp2
      go_ret
      refine ⟨_, rfl, ?_, HB.out⟩
      unfold Own
      rw [i64s_length, hl.out]
      exact HO.out

/-- The marks that 'markInt64S' lays. -/
def marks (k n : Nat) : List Int := (List.range n).map fun i => ((k + i : Nat) : Int)
theorem marks_len (k n : Nat) : (marks k n).length = n := by simp [marks]
theorem marks_get (k n i : Nat) (h : i < n) : (marks k n)[i]? = some ((k + i : Nat) : Int) := by simp [marks, h]

/-- 'markInt64S': each cell of an owned list is overwritten by its own mark. -/
theorem markI_any (A : Option Addr) (n c base k0 : Nat) (xs : List Int) (w : World) (h : Own w base 2 (.slice A n c) (i64s xs)) (hn : n ≤ 2000000) (hk0 : k0 ≤ 2000000) :
    Calls Try.prog 12 #[.slice A n c, .int .i64 k0] w fun e w' => e = .returned (.int .i64 ((k0 + n : Nat) : Int)) ∧ Own w' base 2 (.slice A n c) (i64s (marks k0 n)) ∧ w.grownBy w' (Value.ownBlock (.slice A n c)) := by
  have hl : n = xs.length := by have := h.rd.1; rwa [i64s_length] at this
  have hown : w.ownsRow base 2 1 (.slice A n c) n (i64s xs) := by unfold Own at h; rwa [i64s_length, ← hl] at h
  clear h
  have Hl := Lib.hid hl; clear hl
  go_enter Try.func12, Try.ntmps12
  go_wp2
  go_loopw [1, 5] (fun q i wr => ∃ k : Nat, k ≤ n ∧ i = .int .i64 k ∧ q = .int .i64 ((k0 + k : Nat) : Int) ∧ wr.ownsRow base 2 1 (.slice A n c) n (i64s ((marks k0 n).take k ++ xs.drop k)) ∧ w.grownBy wr (Value.ownBlock (.slice A n c))) (fun _ i _ => n - (intOf i).toNat)
  case atStart => exact ⟨0, Nat.zero_le _, rfl, rfl, by simpa using hown, World.grownBy.refl _ _⟩
  case round =>
    obtain ⟨k, hk, rfl, rfl, hown, hgr⟩ := hrel
    by_cases hlt : k < n
    · have hlx : k < xs.length := by rw [← Hl.out]; exact hlt
      obtain ⟨g, cap, hA⟩ : ∃ g cap, (A = some ⟨g, 0, none⟩ ∧ c = cap) := by
        rcases hown.2 with ⟨_, h0⟩ | ⟨g, cap, cur, hv, _⟩
        · omega
        · simp only [Value.slice.injEq] at hv; exact ⟨g, cap, hv.1, hv.2.2⟩
      obtain ⟨rfl, rfl⟩ := hA
      have hu : (i64s ((marks k0 n).take k ++ xs.drop k))[k]? = some (.int .i64 (xs[k]'hlx)) := by
        rw [i64s, List.getElem?_map, List.getElem?_append_right (by simp [marks_len]; omega)]
        simp [marks_len, show min k n = k by omega, hlx]
      have hc2 := (hown.cellAt k (by omega)).trans hu
      obtain ⟨u, hu'⟩ : ∃ u, u = Value.int .i64 (xs[k]'hlx) := ⟨_, rfl⟩
      rw [← hu'] at hc2
      clear hu hu'
      have hf2 := hown.frozenAt k
      have HO := Lib.hid hown; have HG := Lib.hid hgr
      clear hown hgr
      go_wp2
      go_roundw
      case rel =>
        have hs := HO.out.stored k (.int .i64 ((k0 + k : Nat) : Int))
        refine ⟨k + 1, by omega, by go_num, by go_num, ?_, grown_trans' HG.out (by simpa [Value.ownBlock] using hs.2)⟩
        have e : (i64s ((marks k0 n).take k ++ xs.drop k)).set k (.int .i64 ((k0 + k : Nat) : Int)) = i64s ((marks k0 n).take (k + 1) ++ xs.drop (k + 1)) := by
          rw [take_succ_of (marks_get k0 n k hlt), List.drop_eq_getElem_cons hlx]
          simp only [i64s, List.map_append, List.map_cons, List.append_assoc, List.cons_append, List.nil_append]
          rw [set_append_here _ _ _ _ _ (by simp [marks_len]; omega)]
        rw [e] at hs
        exact hs.1
      case measure => simp [intOf]; omega
    · obtain rfl : k = n := by omega
      have HO := Lib.hid hown; have HG := Lib.hid hgr
      clear hown hgr
      go_wp2
      go_ret
      refine ⟨rfl, ?_, HG.out⟩
      have := HO.out
      rw [List.take_of_length_le (by rw [marks_len]; exact Nat.le_refl _), List.drop_eq_nil_of_le (by rw [← Hl.out]; exact Nat.le_refl _), List.append_nil] at this
      unfold Own
      rw [i64s_length, marks_len]
      exact this

/-- 'heldInt64S' at a list that still bears its marks. -/
theorem heldI_any (A : Option Addr) (n c B k0 : Nat) (w : World) (h : Rd w B A n (i64s (marks k0 n))) (hn : n ≤ 2000000) (hk0 : k0 ≤ 2000000) :
    Calls Try.prog 13 #[.slice A n c, .int .i64 k0] w fun e w' => e = .returned (.int .i64 ((k0 + n : Nat) : Int)) ∧ ∃ q, w' = w.drewN q := by
  go_enter Try.func13, Try.ntmps13
  go_wp2
  go_loopw [1, 5] (fun q i wr => ∃ k d : Nat, k ≤ n ∧ i = .int .i64 k ∧ q = .int .i64 ((k0 + k : Nat) : Int) ∧ wr = w.drewN d) (fun _ i _ => n - (intOf i).toNat)
  case atStart => exact ⟨0, 0, Nat.zero_le _, rfl, rfl, rfl⟩
  case round =>
    obtain ⟨k, d, hk, rfl, rfl, rfl⟩ := hrel
    by_cases hlt : k < n
    · obtain ⟨b, off, x, rfl, hbB, hx, hc⟩ := h.atI hlt
      have hx' := hx.out
      rw [marks_get k0 n k hlt] at hx'
      obtain rfl : ((k0 + k : Nat) : Int) = x := by injection hx'
      have hb2 : (((k0 + k : Nat) : Int) != ((k0 + k : Nat) : Int)) = false := by simp
      have hb3 : (((k0 : Int) + (k : Int)) != ((k0 : Int) + (k : Int))) = false := by simp
      clear h hx' hx
      go_wp2
      go_roundw
      case rel => exact ⟨k + 1, d, by omega, by go_num, by go_num, rfl⟩
      case measure => simp [intOf]; omega
    · obtain rfl : k = n := by omega
      clear h
      go_wp2
      go_ret
      exact ⟨rfl, d, rfl⟩
end Go.Proofs.Ytgkbkbmhdhlffaa
