/- AliasOf: the memory of its walk: four lists in four blocks; elements appended and stored. -/
import Derived.Test.YtgemcjcghnpmdaaAliasA
import Derived.Test.YtgemcjcghnpmdaaNest
import Derived.Test.YtgemcjcghnpmdaaFloats
namespace Go.Proofs.Ytgemcjcghnpmdaa
open Go.RowKit
/-- One number more behind an owned list of float32. -/
theorem emitF (w0 : World) {ops : Array Oper} {rest : List Oper} {o : Oper} {a : Act} {Q : Exit → Act → World → Prop} (hgd : o.guard = none) (s x : Operand)
    (ho : o.op = .call { callee := .builtin .append, args := #[s, x], argTypes := #[29, 29] })
    (base : Nat) (v : Value) (xs : List Nat) (hs : a.eval s = v) (hown : Own w0 base 40 v (f32s xs)) (u : Nat) (hx : a.eval x = .slice (some ⟨w0.heap.size, 0, none⟩) 1 1)
    (h63 : xs.length ≤ 2000000) (hbase : base ≤ w0.heap.size)
    (h : ∀ v' w', Own w' base 40 v' (f32s (xs ++ [u])) → w0.grownBy w' v.ownBlock → (v'.ownBlock = v.ownBlock ∨ ∃ k, v'.ownBlock = some k ∧ w0.heap.size ≤ k) → wpList Try.prog ops Q rest (a.put o.dst v') w') : wpList Try.prog ops Q (o :: rest) a (w0.alloc (.cells #[.float .f32 u] 40)) := by
  obtain ⟨i0, hi0, hz0, hz1, hz2⟩ := info_parts info_f32
  have hown' : w0.ownsRow base 40 1 v xs.length (f32s xs) := by have := hown; unfold Own at this; rwa [f32s_length] at this
  obtain ⟨v', w', hrun, h2, h3, _, h5⟩ := run_append_own_at (P := Try.prog) (w0.alloc (.cells #[.float .f32 u] 40)) base 29 o.type 40 i0 (.float .f32 0) 1 4 Try.underlying29 hi0 hz0 hz1 hz2 rfl (by decide) v xs.length (f32s xs) (hown'.alloc _) ⟨w0.heap.size, 0, none⟩ 1 1 [.float .f32 u] rfl (one_cell _ _ _) (one_one _ rfl) (by unfold maxLen; omega) (by omega) (by simp; omega)
  refine wpList_plain hgd fun _ hK => ?_
  unfold Oper.wp execOp
  simp only [ho, resolve, invoke, builtin, Sem.run_bind, Sem.run_pure, Result.andThen_ok, List.map_toArray, List.map_cons, List.map_nil, hs, hx, hrun]
  refine hK _ _ (h v' w' ?_ (grown_trans' (World.grownBy_alloc w0 _ _) h3) ?_)
  · unfold Own
    rw [f32s_snoc, List.length_append, f32s_length]
    exact h2
  · rcases h5 with h5 | h5
    · exact .inl h5
    · exact .inr ⟨_, h5, by simp⟩
def bools' (l : List Bool) : List Value := l.map Value.bool
theorem bools'_get {S : List Bool} {j : Nat} {b : Bool} (h : S[j]? = some b) : (bools' S)[j]? = some (.bool b) := by simp [bools', h]
theorem bools'_set (S : List Bool) (j : Nat) (b : Bool) : (bools' S).set j (.bool b) = bools' (S.set j b) := by simp [bools', List.map_set]
theorem f32s_set (xs : List Nat) (j x : Nat) : (f32s xs).set j (.float .f32 x) = f32s (xs.set j x) := by simp [f32s, List.map_set]
theorem i64s_set (xs : List Int) (j : Nat) (x : Int) : (i64s xs).set j (.int .i64 x) = i64s (xs.set j x) := by simp [i64s, List.map_set]
theorem f32s_get {xs : List Nat} {j x : Nat} (h : xs[j]? = some x) : (f32s xs)[j]? = some (.float .f32 x) := by simp [f32s, h]
theorem i64s_get' {xs : List Int} {j : Nat} {x : Int} (h : xs[j]? = some x) : (i64s xs)[j]? = some (.int .i64 x) := by simp [i64s, h]
/-- The four blocks. -/
structure Fb (gq gv go gs : Nat) : Prop where
  qv : gq ≠ gv
  qo : gq ≠ go
  qs : gq ≠ gs
  vo : gv ≠ go
  vs : gv ≠ gs
  os : go ≠ gs
/-- Four lists of n elements lie in the four blocks; nothing else has changed since world w1. -/
structure Ph (w1 : World) (base n gq gv go gs cq cv co cs : Nat) (wr : World) (s : AS) : Prop where
  q : wr.ownsRow base 40 1 (.slice (some ⟨gq, 0, none⟩) n cq) n (f32s s.q)
  sh : wr.ownsRow base 40 1 (.slice (some ⟨gv, 0, none⟩) n cv) n (f32s s.sh)
  ot : wr.ownsRow base 2 1 (.slice (some ⟨go, 0, none⟩) n co) n (i64s s.ot)
  st : wr.ownsRow base 4 1 (.slice (some ⟨gs, 0, none⟩) n cs) n (bools' s.st)
  chg : Chg (fun k => k = gq ∨ k = gv ∨ k = go ∨ k = gs) w1 wr
section
variable {w1 wr : World} {base n gq gv go gs cq cv co cs : Nat} {s : AS}
theorem Ph.drewN (h : Ph w1 base n gq gv go gs cq cv co cs wr s) (m : Nat) : Ph w1 base n gq gv go gs cq cv co cs (wr.drewN m) s :=
  ⟨h.q, h.sh, h.ot, h.st, h.chg.trans (Chg.of_drewN m)⟩
theorem Ph.drew (h : Ph w1 base n gq gv go gs cq cv co cs wr s) : Ph w1 base n gq gv go gs cq cv co cs wr.drew s := h.drewN 1
theorem own_ne {b : Nat} {e : TypeId} {k : Nat} {xs : List Value} {w w' : World} {g g' : Nat} {c m : Nat} (h : w.ownsRow b e 1 (.slice (some ⟨g, 0, none⟩) m c) k xs) (hg : w.grownBy w' (some g')) (hne : g ≠ g') : w'.ownsRow b e 1 (.slice (some ⟨g, 0, none⟩) m c) k xs :=
  World.ownsRow.kept h hg (.inr (fun e => by injection e with e; exact hne e))
theorem Ph.setQ (h : Ph w1 base n gq gv go gs cq cv co cs wr s) (hf : Fb gq gv go gs) (j x : Nat) : Ph w1 base n gq gv go gs cq cv co cs (wr.setCell ⟨gq, j, none⟩ (.float .f32 x)) { s with q := s.q.set j x } := by
  have hst := h.q.stored j (.float .f32 x)
  rw [f32s_set] at hst
  exact ⟨hst.1, own_ne h.sh hst.2 hf.qv.symm, own_ne h.ot hst.2 hf.qo.symm, own_ne h.st hst.2 hf.qs.symm, h.chg.trans (Chg.of_grown hst.2 (fun k hk => by injection hk with hk; exact .inl hk.symm))⟩
theorem Ph.setSh (h : Ph w1 base n gq gv go gs cq cv co cs wr s) (hf : Fb gq gv go gs) (j x : Nat) : Ph w1 base n gq gv go gs cq cv co cs (wr.setCell ⟨gv, j, none⟩ (.float .f32 x)) { s with sh := s.sh.set j x } := by
  have hst := h.sh.stored j (.float .f32 x)
  rw [f32s_set] at hst
  exact ⟨own_ne h.q hst.2 hf.qv, hst.1, own_ne h.ot hst.2 hf.vo.symm, own_ne h.st hst.2 hf.vs.symm, h.chg.trans (Chg.of_grown hst.2 (fun k hk => by injection hk with hk; exact .inr (.inl hk.symm)))⟩
theorem Ph.setOt (h : Ph w1 base n gq gv go gs cq cv co cs wr s) (hf : Fb gq gv go gs) (j : Nat) (x : Int) : Ph w1 base n gq gv go gs cq cv co cs (wr.setCell ⟨go, j, none⟩ (.int .i64 x)) { s with ot := s.ot.set j x } := by
  have hst := h.ot.stored j (.int .i64 x)
  rw [i64s_set] at hst
  exact ⟨own_ne h.q hst.2 hf.qo, own_ne h.sh hst.2 hf.vo, hst.1, own_ne h.st hst.2 hf.os.symm, h.chg.trans (Chg.of_grown hst.2 (fun k hk => by injection hk with hk; exact .inr (.inr (.inl hk.symm))))⟩
theorem Ph.setSt (h : Ph w1 base n gq gv go gs cq cv co cs wr s) (hf : Fb gq gv go gs) (j : Nat) (x : Bool) : Ph w1 base n gq gv go gs cq cv co cs (wr.setCell ⟨gs, j, none⟩ (.bool x)) { s with st := s.st.set j x } := by
  have hst := h.st.stored j (.bool x)
  rw [bools'_set] at hst
  exact ⟨own_ne h.q hst.2 hf.qs, own_ne h.sh hst.2 hf.vs, own_ne h.ot hst.2 hf.os, hst.1, h.chg.trans (Chg.of_grown hst.2 (fun k hk => by injection hk with hk; exact .inr (.inr (.inr hk.symm))))⟩
theorem Ph.cellQ {i x : Nat} (h : Ph w1 base n gq gv go gs cq cv co cs wr s) (hx : s.q[i]? = some x) (hi : i < n) : wr.cell? ⟨gq, i, none⟩ = some (.float .f32 x) ∧ wr.frozen? ⟨gq, i, none⟩ = false :=
  ⟨(h.q.cellAt i (by omega)).trans (f32s_get hx), h.q.frozenAt i⟩
theorem Ph.cellSh {i x : Nat} (h : Ph w1 base n gq gv go gs cq cv co cs wr s) (hx : s.sh[i]? = some x) (hi : i < n) : wr.cell? ⟨gv, i, none⟩ = some (.float .f32 x) ∧ wr.frozen? ⟨gv, i, none⟩ = false :=
  ⟨(h.sh.cellAt i (by omega)).trans (f32s_get hx), h.sh.frozenAt i⟩
theorem Ph.cellOt {i : Nat} {x : Int} (h : Ph w1 base n gq gv go gs cq cv co cs wr s) (hx : s.ot[i]? = some x) (hi : i < n) : wr.cell? ⟨go, i, none⟩ = some (.int .i64 x) ∧ wr.frozen? ⟨go, i, none⟩ = false :=
  ⟨(h.ot.cellAt i (by omega)).trans (i64s_get' hx), h.ot.frozenAt i⟩
theorem Ph.cellSt {i : Nat} {x : Bool} (h : Ph w1 base n gq gv go gs cq cv co cs wr s) (hx : s.st[i]? = some x) (hi : i < n) : wr.cell? ⟨gs, i, none⟩ = some (.bool x) ∧ wr.frozen? ⟨gs, i, none⟩ = false :=
  ⟨(h.st.cellAt i (by omega)).trans (bools'_get hx), h.st.frozenAt i⟩
end
theorem AlAt.chg {w w' : World} {g : Nat} {T : TypeId} {v v' : Value} {P : Nat → Prop} (h : AlAt w g T v v') (hc : Chg P w w') (hP : ¬ P g) : AlAt w' g T v v' := (hc.block g h.lt hP).trans h
/-- The first among k. -/
def firstTo (q : List Nat) (st : List Bool) (small : Bool) (k : Nat) : Option Nat := (List.range k).find? (pickB q st small)
theorem firstTo_zero (q : List Nat) (st : List Bool) (small : Bool) : firstTo q st small 0 = none := rfl
theorem firstTo_all (q : List Nat) (st : List Bool) (small : Bool) : firstTo q st small q.length = firstS q st small := rfl
theorem firstTo_some {q : List Nat} {st : List Bool} {small : Bool} {k i : Nat} (h : firstTo q st small k = some i) : firstTo q st small (k + 1) = some i := by
  unfold firstTo at h ⊢
  rw [List.range_succ, List.find?_append, h]; rfl
theorem firstTo_no {q : List Nat} {st : List Bool} {small : Bool} {k : Nat} (h : pickB q st small k = false) : firstTo q st small (k + 1) = firstTo q st small k := by
  unfold firstTo
  rw [List.range_succ, List.find?_append]
  simp [h]
theorem firstTo_yes {q : List Nat} {st : List Bool} {small : Bool} {k : Nat} (h0 : firstTo q st small k = none) (h : pickB q st small k = true) : firstTo q st small (k + 1) = some k := by
  unfold firstTo at h0 ⊢
  rw [List.range_succ, List.find?_append, h0]
  simp [h]
theorem firstTo_lt {q : List Nat} {st : List Bool} {small : Bool} {k i : Nat} (h : firstTo q st small k = some i) : i < k := by
  unfold firstTo at h
  rw [List.find?_range_eq_some] at h
  exact List.mem_range.1 h.2.1
theorem pickB_at {q : List Nat} {st : List Bool} {small b : Bool} {i x : Nat} (hq : q[i]? = some x) (hs : st[i]? = some b) : pickB q st small i = (!b && (ltOne x == small)) := by
  unfold pickB; rw [getD_get hq, getD_get hs]
end Go.Proofs.Ytgemcjcghnpmdaa
