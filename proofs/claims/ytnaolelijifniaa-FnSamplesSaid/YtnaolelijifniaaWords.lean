/- Words of a seed, one after another: both functions. -/
import Derived.Test.YtnaolelijifniaaTried
import Derived.Test.YtnaolelijifniaaRange
import Derived.Deep.RegionLaw
namespace Go.Proofs.Ytnaolelijifniaa
open Go.RowKit
theorem grown_own {w w2 w3 : World} {r : Option Nat} {base : Nat} {e : TypeId} {v : Value} {xs : List Value} (h : w.grownBy w2 r) (hO : Own w2 base e v xs) (hb : w.heap.size ≤ base) (hg : w2.grownBy w3 v.ownBlock) : w.grownBy w3 r :=
  ⟨hg.os.trans h.os, hg.tape.trans h.tape, hg.output.trans h.output, Nat.le_trans h.size hg.size, fun i hi hn => (hg.block i (Nat.lt_of_lt_of_le hi h.size) (fun e => by have := hO.lt _ e.symm; omega)).trans (h.block i hi hn)⟩
/-- An element appended, as one step of a region that draws its order: the slice is the call's own, the world has moved at one block besides since. -/
theorem step_emitI {w0 w : World} {ops : Array Oper} {o : Oper} {a : Act} {K : Act → World → Prop} {Q : Exit → Act → World → Prop} {E : Prop} (hgd : o.guard = none) (s x : Operand)
    (ho : o.op = .call { callee := .builtin .append, args := #[s, x], argTypes := #[29, 29] })
    (base : Nat) (v : Value) (xs : List Int) (hs : a.eval s = v) (hown : Own w0 base 2 v (i64s xs)) (gs : Nat) (hne : v.ownBlock ≠ some gs) (hgr : w0.grownBy w (some gs)) (u : Int) (h : Nat) (hx : a.eval x = .slice (some ⟨h, 0, none⟩) 1 1) (hc : w.cell? ⟨h, 0, none⟩ = some (.int .i64 u))
    (h63 : xs.length ≤ 2000000) (hbase : base ≤ w0.heap.size)
    (hK : ∀ v' w', Own w' base 2 v' (i64s (xs ++ [u])) → w.grownBy w' v.ownBlock → (v'.ownBlock = v.ownBlock ∨ ∃ k, v'.ownBlock = some k ∧ w.heap.size ≤ k) → K (a.put o.dst v') w') :
    if Region.wanted o (yielded ops a.tmps) = true then Oper.wp Try.prog o a w K Q else E := by
  have hw : Region.wanted o (yielded ops a.tmps) = true := by simp [Region.wanted, hgd]
  rw [if_pos hw]
  obtain ⟨i0, hi0, hz0, hz1, hz2⟩ := info_parts info_i64'
  have hown1 : Own w base 2 v (i64s xs) := hown.kept hgr (.inr hne)
  have hown' : w.ownsRow base 2 1 v xs.length (i64s xs) := by have := hown1; unfold Own at this; rwa [i64s_length] at this
  obtain ⟨v', w', hrun, h2, h3, _, h5⟩ := run_append_own_at (P := Try.prog) w base 29 o.type 2 i0 (.int .i64 0) 1 8 Try.underlying29 hi0 hz0 hz1 hz2 rfl (by decide) v xs.length (i64s xs) hown' ⟨h, 0, none⟩ 1 1 [.int .i64 u] rfl (fun j u' hu => by
    cases j with
    | zero => simp only [List.getElem?_cons_zero, Option.some.injEq] at hu; subst hu; simpa [Addr.add] using hc
    | succ j => simp at hu) (one_one _ rfl) (by unfold maxLen; omega) (by omega) (Nat.le_trans hbase hgr.size)
  unfold Oper.wp
  simp only [execOp, ho, resolve, invoke, builtin, Sem.run_bind, Sem.run_pure, Result.andThen_ok, List.map_toArray, List.map_cons, List.map_nil, hs, hx, hrun]
  refine hK v' w' ?_ h3 ?_
  · unfold Own
    rw [i64s_snoc, List.length_append, i64s_length]
    exact h2
  · rcases h5 with h5 | h5
    · exact .inl h5
    · exact .inr ⟨_, h5, Nat.le_refl _⟩
end Go.Proofs.Ytnaolelijifniaa
