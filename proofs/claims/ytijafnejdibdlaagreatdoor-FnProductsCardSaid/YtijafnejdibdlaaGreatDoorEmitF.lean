/- One number more behind an owned list of float32; a float operation whose result is no NaN. -/
import Derived.Test.YtijafnejdibdlaaGreatDoorFloats
import Derived.Test.YtijafnejdibdlaaGreatDoorFin
namespace Go.Proofs.YtijafnejdibdlaaGreatDoor
open Go.RowKit
/-- One number more behind an owned list of float32. -/
theorem emitF2 (w0 : World) {ops : Array Oper} {rest : List Oper} {o : Oper} {a : Act} {Q : Exit → Act → World → Prop} (hgd : o.guard = none) (s x : Operand)
    (ho : o.op = .call { callee := .builtin .append, args := #[s, x], argTypes := #[90, 90] })
    (base : Nat) (v : Value) (xs : List Nat) (hs : a.eval s = v) (hown : Own w0 base 28 v (f32s xs)) (u : Nat) (hx : a.eval x = .slice (some ⟨w0.heap.size, 0, none⟩) 1 1)
    (h63 : xs.length ≤ 2000000) (hbase : base ≤ w0.heap.size)
    (h : ∀ v' w', Own w' base 28 v' (f32s (xs ++ [u])) → w0.grownBy w' v.ownBlock → (v'.ownBlock = v.ownBlock ∨ ∃ k, v'.ownBlock = some k ∧ w0.heap.size ≤ k) → wpList Tryz.prog ops Q rest (a.put o.dst v') w') : wpList Tryz.prog ops Q (o :: rest) a (w0.alloc (.cells #[.float .f32 u] 28)) := by
  obtain ⟨i0, hi0, hz0, hz1, hz2⟩ := info_parts info_f32
  have hown' : w0.ownsRow base 28 1 v xs.length (f32s xs) := by have := hown; unfold Own at this; rwa [f32s_length] at this
  obtain ⟨v', w', hrun, h2, h3, _, h5⟩ := run_append_own_at (P := Tryz.prog) (w0.alloc (.cells #[.float .f32 u] 28)) base 90 o.type 28 i0 (.float .f32 0) 1 4 Tryz.underlying90 hi0 hz0 hz1 hz2 rfl (by decide) v xs.length (f32s xs) (hown'.alloc _) ⟨w0.heap.size, 0, none⟩ 1 1 [.float .f32 u] rfl (one_cell _ _ _) (one_one _ rfl) (by unfold maxLen; omega) (by omega) (by simp; omega)
  refine wpList_plain hgd fun _ hK => ?_
  unfold Oper.wp execOp
  simp only [ho, resolve, invoke, builtin, Sem.run_bind, Sem.run_pure, Result.andThen_ok, List.map_toArray, List.map_cons, List.map_nil, hs, hx, hrun]
  refine hK _ _ (h v' w' ?_ (grown_trans' (World.grownBy_alloc w0 _ _) h3) ?_)
  · unfold Own
    rw [f32s_snoc, List.length_append, f32s_length]
    exact h2
  · rcases h5 with h5 | h5
    · exact .inl h5
    · exact .inr ⟨_, h5, by simp⟩
theorem run_fop_num2 {P : Program} {op : BinOp} {k : FloatKind} {x y z : Nat} (hz : fop op k x y = z) (hn : isNaNB k z = false) (t : TypeId) (w : World) :
    (binOp op t (.float k x) (.float k y)).run P w = .ok (.float k z) w := by
  cases h : floatBits op k x y with
  | some r =>
    have : r = z := by rw [← hz]; unfold fop; rw [h]; rfl
    rw [← this]
    exact run_float_arith w op t k x y r h
  | none =>
    exfalso
    have : z = qnan k := by rw [← hz]; unfold fop; rw [h]; rfl
    rw [this, qnan_isNaN] at hn
    cases hn
end Go.Proofs.YtijafnejdibdlaaGreatDoor
