/- 'slices.Delete' on a list of the call's own; the laws on append and clear within one row. -/
import Derived.Test.YtlgpcojoonnlbaaRange
import Derived.Deep.RegionLaw
import Derived.StillTailTactics
namespace Go.Proofs.Ytlgpcojoonnlbaa
open Go.RowKit

theorem zero_i64 : ∀ w : World, (zeroValue 2).run Try.prog w = .ok (.int .i64 0) w := fun _ => by kernel_rfl

theorem own_prefix {w : World} {base : Nat} {e : TypeId} {A : Option Addr} {n cap i : Nat} {xs : List Value} (h : w.ownsRow base e 1 (.slice A n cap) n xs) (hi : i ≤ n) : w.ownsRow base e 1 (.slice A i cap) i (xs.take i) := by
  refine ⟨by rw [List.length_take, h.1]; omega, ?_⟩
  rcases h.2 with ⟨h', h0⟩ | ⟨g, cap', cur, hv, hb, hg, hle, hm, hs, ht⟩
  · simp only [Value.slice.injEq] at h'
    obtain ⟨rfl, rfl, rfl⟩ := h'
    exact .inl ⟨by simp only [Value.slice.injEq]; exact ⟨trivial, by omega, trivial⟩, by omega⟩
  · simp only [Value.slice.injEq] at hv
    obtain ⟨rfl, -, rfl⟩ := hv
    refine .inr ⟨g, cap, cur, rfl, hb, hg, by omega, hm, hs, ?_⟩
    rw [← ht, List.take_take]
    congr 1
    omega

/-- append within one row: what stands ahead of i, then what stood from j on. -/
theorem wp_append_cut {P : Program} {o : Oper} {a : Act} {w : World} {K : Act → World → Prop} {Q : Exit → Act → World → Prop}
    (s x : Operand) (t : TypeId) (hop : o.op = Op.call { callee := Callee.builtin Builtin.append, args := #[s, x], argTypes := #[t, t] })
    (base : Nat) (e : TypeId) (i0 : TypeInfo) (h1 : P.underlying t = some (.slice e)) (h2 : P.info? e = some i0) (h4 : i0.size = 1)
    (g n cap i j c : Nat) (xs : List Value) (hown : w.ownsRow base e 1 (.slice (some ⟨g, 0, none⟩) n cap) n xs) (hs : a.eval s = .slice (some ⟨g, 0, none⟩) i cap)
    (A : Option Addr) (hx : a.eval x = .slice A (n - j) c) (hA : A = some ⟨g, j, none⟩ ∨ A = some ⟨g, 0, none⟩ ∧ n ≤ j) (hone : ∀ u ∈ xs, u.oneCell' = true) (hij : i ≤ j) (hjn : j ≤ n)
    (hK : ∀ w', w'.ownsRow base e 1 (.slice (some ⟨g, 0, none⟩) (i + (n - j)) cap) (i + (n - j)) (xs.take i ++ xs.drop j) → w.grownBy w' (some g) → K (a.put o.dst (.slice (some ⟨g, 0, none⟩) (i + (n - j)) cap)) w') :
    Oper.wp P o a w K Q := by
  have hl : xs.length = n := by simpa using hown.1
  have hcap : n ≤ cap := by
    rcases hown.2 with ⟨h', _⟩ | ⟨g', cap', cur, hv, hb, hgg, hle, hm, hsz, ht⟩
    · simp at h'
    · simp only [Value.slice.injEq] at hv
      omega
  obtain ⟨ad, hA', hcells⟩ : ∃ ad, A = some ad ∧ ∀ k u, (xs.drop j)[k]? = some u → w.cell? (ad.add k) = some u := by
    rcases hA with rfl | ⟨rfl, hj⟩
    · refine ⟨_, rfl, fun k u hu => ?_⟩
      rw [List.getElem?_drop] at hu
      have hlt : j + k < n := by have := (List.getElem?_eq_some_iff.1 hu).1; omega
      rw [Addr.add_lit]
      exact (hown.cellAt (j + k) (by omega)).trans hu
    · refine ⟨_, rfl, fun k u hu => ?_⟩
      rw [List.drop_eq_nil_of_le (by omega)] at hu
      simp at hu
  obtain ⟨w', hrun, r1, r2⟩ := run_append_fits (P := P) w base t o.type e i0 1 h1 h2 h4 g i cap (xs.take i) (own_prefix hown (by omega)) ad (n - j) c (xs.drop j) (by simp; omega) hcells (fun u hu => hone u (List.mem_of_mem_drop hu)) (by omega)
  unfold Oper.wp
  simp [execOp, hop, resolve, invoke, builtin, hs, hx, hA', hrun, Result.andThen]
  exact hK w' r1 r2
theorem step_append_cut {P : Program} {ops : Array Oper} {o : Oper} {a : Act} {w : World} {K : Act → World → Prop} {Q : Exit → Act → World → Prop} {E : Prop}
    (hg : o.guard = none) (s x : Operand) (t : TypeId) (hop : o.op = Op.call { callee := Callee.builtin Builtin.append, args := #[s, x], argTypes := #[t, t] })
    (base : Nat) (e : TypeId) (i0 : TypeInfo) (h1 : P.underlying t = some (.slice e)) (h2 : P.info? e = some i0) (h4 : i0.size = 1)
    (g n cap i j c : Nat) (xs : List Value) (hown : w.ownsRow base e 1 (.slice (some ⟨g, 0, none⟩) n cap) n xs) (hs : a.eval s = .slice (some ⟨g, 0, none⟩) i cap)
    (A : Option Addr) (hx : a.eval x = .slice A (n - j) c) (hA : A = some ⟨g, j, none⟩ ∨ A = some ⟨g, 0, none⟩ ∧ n ≤ j) (hone : ∀ u ∈ xs, u.oneCell' = true) (hij : i ≤ j) (hjn : j ≤ n)
    (hK : ∀ w', w'.ownsRow base e 1 (.slice (some ⟨g, 0, none⟩) (i + (n - j)) cap) (i + (n - j)) (xs.take i ++ xs.drop j) → w.grownBy w' (some g) → K (a.put o.dst (.slice (some ⟨g, 0, none⟩) (i + (n - j)) cap)) w') :
    if Region.wanted o (yielded ops a.tmps) = true then Oper.wp P o a w K Q else E := by
  have hw : Region.wanted o (yielded ops a.tmps) = true := by simp [Region.wanted, hg]
  rw [if_pos hw]
  exact wp_append_cut s x t hop base e i0 h1 h2 h4 g n cap i j c xs hown hs A hx hA hone hij hjn hK
theorem wpList_append_cut {P : Program} (w : World) {ops : Array Oper} {rest : List Oper} {o : Oper} {a : Act} {Q : Exit → Act → World → Prop}
    (hg : o.guard = none) (s x : Operand) (t : TypeId) (hop : o.op = Op.call { callee := Callee.builtin Builtin.append, args := #[s, x], argTypes := #[t, t] })
    (base : Nat) (e : TypeId) (i0 : TypeInfo) (h1 : P.underlying t = some (.slice e)) (h2 : P.info? e = some i0) (h4 : i0.size = 1)
    (g n cap i j c : Nat) (xs : List Value) (hown : w.ownsRow base e 1 (.slice (some ⟨g, 0, none⟩) n cap) n xs) (hs : a.eval s = .slice (some ⟨g, 0, none⟩) i cap)
    (A : Option Addr) (hx : a.eval x = .slice A (n - j) c) (hA : A = some ⟨g, j, none⟩ ∨ A = some ⟨g, 0, none⟩ ∧ n ≤ j) (hone : ∀ u ∈ xs, u.oneCell' = true) (hij : i ≤ j) (hjn : j ≤ n)
    (h : ∀ w', w'.ownsRow base e 1 (.slice (some ⟨g, 0, none⟩) (i + (n - j)) cap) (i + (n - j)) (xs.take i ++ xs.drop j) → w.grownBy w' (some g) → wpList P ops Q rest (a.put o.dst (.slice (some ⟨g, 0, none⟩) (i + (n - j)) cap)) w') :
    wpList P ops Q (o :: rest) a w :=
  wpList_plain hg fun _ hK => wp_append_cut s x t hop base e i0 h1 h2 h4 g n cap i j c xs hown hs A hx hA hone hij hjn fun w' h2 h3 => hK _ _ (h w' h2 h3)

/-- clear behind the length of an owned row. -/
theorem wpList_clear_tail {P : Program} (w : World) {ops : Array Oper} {rest : List Oper} {o : Oper} {a : Act} {Q : Exit → Act → World → Prop}
    (hg : o.guard = none) (x : Operand) (t : TypeId) (hop : o.op = Op.call { callee := Callee.builtin Builtin.clear, args := #[x], argTypes := #[t] })
    (base : Nat) (e : TypeId) (z : Value) (h1 : P.underlying t = some (.slice e)) (hv : ∀ w, (zeroValue e).run P w = .ok z w) (hz : z.cells = #[z]) (hone : z.oneCell' = true)
    (g k m cap c : Nat) (ys : List Value) (hown : w.ownsRow base e 1 (.slice (some ⟨g, 0, none⟩) k cap) k ys) (hx : a.eval x = .slice (some ⟨g, k, none⟩) m c) (hm : 0 < m) (hkm : k + m ≤ cap)
    (hK : ∀ w', w'.ownsRow base e 1 (.slice (some ⟨g, 0, none⟩) k cap) k ys → w.grownBy w' (some g) → wpList P ops Q rest (a.put o.dst (.tuple #[])) w') :
    wpList P ops Q (o :: rest) a w := by
  refine wpList_plain hg fun K hK' => ?_
  rcases hown.2 with ⟨h', _⟩ | ⟨g', cap', cur, hvv, hb, hgg, hle, hmx, hsz, ht⟩
  · simp at h'
  · simp only [Value.slice.injEq, Option.some.injEq, Addr.mk.injEq, and_true, true_and] at hvv
    obtain ⟨rfl, rfl⟩ := hvv
    have hzc : (Builtin.zeroCells z.cells m).toList = List.replicate m z := by
      rw [hz]
      simp [Builtin.zeroCells]
      apply List.ext_getElem
      · simp
      · intro i h1 h2
        simp [Nat.mod_one]
    have hst := run_storeCells_at P g k e (List.replicate m z) 0 cur w hgg (by simp; omega) (by intro v hv'; rw [List.eq_of_mem_replicate hv']; exact hone)
    simp only [Nat.add_zero] at hst
    obtain ⟨m', rfl⟩ : ∃ m', m = m' + 1 := ⟨m - 1, by omega⟩
    have hrun : (Builtin.clear_ #[t] o.type #[.slice (some ⟨g, k, none⟩) (m' + 1) c]).run P w = .ok (.tuple #[]) (w.setRow g (cur.toList.take k ++ List.replicate (m' + 1) z ++ cur.toList.drop (k + (List.replicate (m' + 1) z).length)).toArray) := by
      simp only [Builtin.clear_]
      simp [run_underlying h1, hv, hzc]
      simp only [List.append_assoc, List.length_replicate] at hst ⊢
      simp [hst, Result.andThen]
    unfold Oper.wp
    simp [execOp, hop, resolve, invoke, builtin, hx, hrun, Result.andThen]
    refine hK' _ _ (hK _ ⟨hown.1, .inr ⟨g, cap, _, rfl, hb, setRow_heap w g cur _ e _ hgg, hle, hmx, by simp; omega, ?_⟩⟩ ⟨rfl, rfl, rfl, by simp, fun q _ hq => setRow_other w g q _ (fun e => hq (by simp [e]))⟩)
    rw [← ht]
    simp
    rw [List.take_append_of_le_length (by simp; omega), List.take_take]
    congr 1
    omega

set_option maxHeartbeats 1000000 in
theorem deleteI_any (A : Option Addr) (n cap base i : Nat) (xs : List Int) (w : World) (h : Own w base 2 (.slice A n cap) (i64s xs)) (hi : i < n) (_hn : n ≤ 1000000) :
    Calls Try.prog 29 #[.slice A n cap, .int .i64 i, .int .i64 ((i : Int) + 1)] w fun e w' => ∃ v, e = .returned v ∧ Own w' base 2 v (i64s (xs.eraseIdx i)) ∧ w.grownBy w' (Value.ownBlock (.slice A n cap)) ∧ v.ownBlock = Value.ownBlock (.slice A n cap) := by
  have hl : n = xs.length := by have := h.rd.1; rwa [i64s_length] at this
  have hown : w.ownsRow base 2 1 (.slice A n cap) n (i64s xs) := by unfold Own at h; rwa [i64s_length, ← hl] at h
  clear h
  obtain ⟨g, hA, hcap, hmx⟩ : ∃ g, A = some ⟨g, 0, none⟩ ∧ n ≤ cap ∧ cap ≤ maxLen := by
    rcases hown.2 with ⟨_, h0⟩ | ⟨g, cap', cur, hv, _, _, h1, h2, _⟩
    · omega
    · simp only [Value.slice.injEq] at hv; obtain ⟨a, b, c⟩ := hv; subst c; exact ⟨g, a, h1, h2⟩
  subst hA
  unfold maxLen at hmx
  obtain ⟨i0, hi0, hz0, hz1, hz2⟩ := info_parts info_i64'
  have hb : ((i : Int) == (i : Int) + 1) = false := by rw [beq_eq_false_iff_ne]; omega
  have Hl := Lib.hid hl
  clear hl
  have hp0 : (0 : Int) ≤ (i : Int) + 1 := by omega
  have hp1 : (i : Int) + 1 ≤ (n : Int) := by omega
  have hp2 : ((i : Int) + 1).toNat = i + 1 := by omega
  go_enter Try.func29, Try.ntmps29
  obtain ⟨A', hA', hor⟩ : ∃ A', (if cap = i + 1 then some (⟨g, 0, none⟩ : Addr) else some ⟨g, i + 1, none⟩) = A' ∧ Hid (A' = some ⟨g, i + 1, none⟩ ∨ A' = some ⟨g, 0, none⟩ ∧ n ≤ i + 1) := by
    by_cases h : cap = i + 1
    · exact ⟨_, rfl, .inr ⟨by simp [h], by omega⟩⟩
    · exact ⟨_, rfl, .inl (by simp [h])⟩
  have HO := Lib.hid hown
  clear hown
  have hone : Hid (∀ u ∈ i64s xs, u.oneCell' = true) := ints_oneCell _ _
  go_wp2_with fail
  have hic : i ≤ cap := by omega
  go_region_law (refine step_append_cut rfl (.tmp 22) (.tmp 25) 29 rfl base 2 i0 Try.underlying29 hi0 hz1 g n cap i (i + 1) (cap - (i + 1)) (i64s xs) HO.out (by simp [Act.eval, Act.put]) A' (by simp [Act.eval, Act.put]) hor.out hone.out (by omega) (by omega) ?_; intro w1 hown1 hgrow1)
  have HO1 := Lib.hid hown1; have HG1 := Lib.hid hgrow1
  clear hown1 hgrow1
  have hlt : i + (n - (i + 1)) < n := by omega
  go_wp2_with (refine wpList_clear_tail _ rfl (.tmp 31) 29 rfl base 2 (.int .i64 0) Try.underlying29 zero_i64 rfl rfl g (i + (n - (i + 1))) _ cap _ _ HO1.out rfl ?c1 ?c2 ?_)
  case c1 => omega
  case c2 => omega
  intro w2 hown2 hgrow2
  have HO2 := Lib.hid hown2; have HG2 := Lib.hid hgrow2
  clear hown2 hgrow2
  go_wp2
  go_ret
  refine ⟨_, rfl, ?_, ?_, rfl⟩
  · have e : List.take i (i64s xs) ++ List.drop (i + 1) (i64s xs) = i64s (xs.eraseIdx i) := by
      rw [List.eraseIdx_eq_take_drop_succ]; simp [i64s]
    have h3 := HO2.out
    rw [e] at h3
    unfold Own
    have hle : (i64s (xs.eraseIdx i)).length = i + (n - (i + 1)) := by simpa using h3.1
    rw [hle]
    exact h3
  · exact grown_trans' (grown_trans' (World.grownBy.refl w _) (by simpa [Value.ownBlock] using (⟨HG1.out.os, HG1.out.tape, HG1.out.output, HG1.out.size, HG1.out.block⟩ : w.grownBy w1 (some g)))) (by simpa [Value.ownBlock] using HG2.out)
end Go.Proofs.Ytlgpcojoonnlbaa
