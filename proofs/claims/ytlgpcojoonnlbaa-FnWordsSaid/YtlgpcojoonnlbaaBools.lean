/- Lists of truth values: reads, owned lists. -/
import Derived.Test.YtlgpcojoonnlbaaRange
namespace Go.Proofs.Ytlgpcojoonnlbaa
open Go.RowKit
theorem info_bool' : (Try.prog.info? 4).map (fun i => (i.zero, i.size, i.bytes)) = some (some (.bool false), 1, 1) := by kernel_rfl
def bolS (xs : List Bool) : List Value := xs.map Value.bool
@[simp] theorem bolS_length (xs : List Bool) : (bolS xs).length = xs.length := by simp [bolS]
theorem bolS_snoc (xs : List Bool) (x : Bool) : bolS (xs ++ [x]) = bolS xs ++ [.bool x] := by simp [bolS]
theorem bolS_get? {xs : List Bool} {k : Nat} {u : Value} (h : (bolS xs)[k]? = some u) : ∃ x, u = .bool x ∧ xs[k]? = some x := by
  simp only [bolS, List.getElem?_map, Option.map_eq_some_iff] at h
  obtain ⟨x, hx, rfl⟩ := h
  exact ⟨x, rfl, hx⟩
theorem Rd.atT {w : World} {B n k : Nat} {A : Option Addr} {xs : List Bool} (h : Rd w B A n (bolS xs)) (hk : k < n) :
    ∃ (b off : Nat) (x : Bool), A = some ⟨b, off, none⟩ ∧ b < B ∧ Hid (xs[k]? = some x) ∧ w.cell? ⟨b, off + k, none⟩ = some (.bool x) := by
  obtain ⟨b, off, u, hA, hb, hu, hc⟩ := h.at_ hk
  obtain ⟨x, rfl, hx⟩ := bolS_get? hu
  exact ⟨b, off, x, hA, hb, hx, hc⟩
theorem Rd.lenT {w : World} {B n : Nat} {A : Option Addr} {xs : List Bool} (h : Rd w B A n (bolS xs)) : Hid (xs.length = n) := by
  have := h.len; rw [bolS_length] at this; exact this
theorem own_newT (w : World) {base : Nat} (hb : base ≤ w.heap.size) : Own (w.alloc (.cells #[] 4)) base 4 (.slice (some ⟨w.heap.size, 0, none⟩) 0 0) (bolS []) := own_new w _ hb
/-- One truth value more behind an owned list. -/
theorem emitT (w0 : World) {ops : Array Oper} {rest : List Oper} {o : Oper} {a : Act} {Q : Exit → Act → World → Prop} (hgd : o.guard = none) (s x : Operand)
    (ho : o.op = .call { callee := .builtin .append, args := #[s, x], argTypes := #[32, 32] })
    (base : Nat) (v : Value) (xs : List Bool) (hs : a.eval s = v) (hown : Own w0 base 4 v (bolS xs)) (u : Bool) (hx : a.eval x = .slice (some ⟨w0.heap.size, 0, none⟩) 1 1)
    (h63 : xs.length ≤ 2000000) (hbase : base ≤ w0.heap.size)
    (h : ∀ v' w', Own w' base 4 v' (bolS (xs ++ [u])) → w0.grownBy w' v.ownBlock → (v'.ownBlock = v.ownBlock ∨ ∃ k, v'.ownBlock = some k ∧ w0.heap.size ≤ k) → wpList Try.prog ops Q rest (a.put o.dst v') w') : wpList Try.prog ops Q (o :: rest) a (w0.alloc (.cells #[.bool u] 4)) := by
  obtain ⟨i0, hi0, hz0, hz1, hz2⟩ := info_parts info_bool'
  have hown' : w0.ownsRow base 4 1 v xs.length (bolS xs) := by have := hown; unfold Own at this; rwa [bolS_length] at this
  obtain ⟨v', w', hrun, h2, h3, _, h5⟩ := run_append_own_at (P := Try.prog) (w0.alloc (.cells #[.bool u] 4)) base 32 o.type 4 i0 (.bool false) 1 1 Try.underlying32 hi0 hz0 hz1 hz2 rfl (by decide) v xs.length (bolS xs) (hown'.alloc _) ⟨w0.heap.size, 0, none⟩ 1 1 [.bool u] rfl (one_cell _ _ _) (one_one _ rfl) (by unfold maxLen; omega) (by omega) (by simp; omega)
  refine wpList_plain hgd fun _ hK => ?_
  unfold Oper.wp execOp
  simp only [ho, resolve, invoke, builtin, Sem.run_bind, Sem.run_pure, Result.andThen_ok, List.map_toArray, List.map_cons, List.map_nil, hs, hx, hrun]
  refine hK _ _ (h v' w' ?_ (grown_trans' (World.grownBy_alloc w0 _ _) h3) ?_)
  · unfold Own
    rw [bolS_snoc, List.length_append, bolS_length]
    exact h2
  · rcases h5 with h5 | h5
    · exact .inl h5
    · exact .inr ⟨_, h5, by simp⟩

end Go.Proofs.Ytlgpcojoonnlbaa
