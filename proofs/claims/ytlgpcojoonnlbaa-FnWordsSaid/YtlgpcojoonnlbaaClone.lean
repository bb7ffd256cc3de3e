/- slices.Clone of a list of int64: a new list with the same numbers. -/
import Derived.Test.YtlgpcojoonnlbaaRange
import Derived.Test.YtlgpcojoonnlbaaShapes
import Derived.Lib.SliceRun
namespace Go.Proofs.Ytlgpcojoonnlbaa
open Go.RowKit
/-- All elements of a slice appended to a slice of the call's own. -/
theorem emitAllI {w0 : World} {ops : Array Oper} {rest : List Oper} {o : Oper} {a : Act} {Q : Exit → Act → World → Prop} (hgd : o.guard = none) (s x : Operand)
    (ho : o.op = .call { callee := .builtin .append, args := #[s, x], argTypes := #[29, 29] })
    (base : Nat) (v : Value) (xs : List Int) (hs : a.eval s = v) (hown : Own w0 base 2 v (i64s xs)) (ad : Addr) (m c : Nat) (ys : List Int) (hx : a.eval x = .slice (some ad) m c) (hm : ys.length = m)
    (hc : ∀ (j : Nat) (u : Value), (i64s ys)[j]? = some u → w0.cell? (ad.add j) = some u)
    (h63 : xs.length + m ≤ 2000000) (hbase : base ≤ w0.heap.size)
    (h : ∀ v' w', Own w' base 2 v' (i64s (xs ++ ys)) → w0.grownBy w' v.ownBlock → wpList Try.prog ops Q rest (a.put o.dst v') w') : wpList Try.prog ops Q (o :: rest) a w0 := by
  obtain ⟨i0, hi0, hz0, hz1, hz2⟩ := info_parts info_i64'
  have hown' : w0.ownsRow base 2 1 v xs.length (i64s xs) := by have := hown; unfold Own at this; rwa [i64s_length] at this
  obtain ⟨v', w', hrun, h2, h3, _, _⟩ := run_append_own_at (P := Try.prog) w0 base 29 o.type 2 i0 (.int .i64 0) 1 8 Try.underlying29 hi0 hz0 hz1 hz2 rfl (by decide) v xs.length (i64s xs) hown' ad m c (i64s ys) (by rw [i64s_length]; omega) hc (ints_oneCell _ _) (by unfold maxLen; omega) (by omega) hbase
  refine wpList_plain hgd fun _ hK => ?_
  unfold Oper.wp execOp
  simp only [ho, resolve, invoke, builtin, Sem.run_bind, Sem.run_pure, Result.andThen_ok, List.map_toArray, List.map_cons, List.map_nil, hs, hx, hrun]
  refine hK _ _ (h v' w' ?_ h3)
  have e : i64s xs ++ i64s ys = i64s (xs ++ ys) := by simp [i64s]
  unfold Own
  rw [i64s_length, List.length_append, hm, ← e]
  exact h2
set_option maxRecDepth 20000 in
theorem cloneI_any (A : Option Addr) (n c B : Nat) (xs : List Int) (w : World) (h : Rd w B A n (i64s xs)) (hB : B ≤ w.heap.size) (hn : xs.length ≤ 1048576) :
    Calls Try.prog 26 #[.slice A n c] w fun e w' => ∃ v, e = .returned v ∧ Own w' w.heap.size 2 v (i64s xs) ∧ Below w.heap.size w w' := by
  have hl := h.lenI
  obtain rfl : xs.length = n := hl.out
  clear hl
  have heq := fun (w' : World) => Go.Lib.run_eql_slice_nil (P := Try.prog) w' 29 2 A xs.length c 0 0 Try.underlying29
  cases A with
  | none =>
    have h0 : xs = [] := by
      cases xs with
      | nil => rfl
      | cons x xs => obtain ⟨b, off, e, _⟩ := h.2 (by simp); cases e
    subst h0
    have heq2 := fun (w' : World) => Go.Lib.run_eql_slice_nil (P := Try.prog) w' 29 2 none 0 c 0 0 Try.underlying29
    clear heq
    go_enter Try.func26, Try.ntmps26
    go_wp2
    go_ret
    exact ⟨_, rfl, ⟨by simp, .inl ⟨rfl, rfl⟩⟩, Below.refl _ _⟩
  | some ad =>
    have hc : ∀ (j : Nat) (u : Value), (i64s xs)[j]? = some u → (w.alloc (.cells #[] 2)).cell? (ad.add j) = some u := by
      intro j u hu
      have hj : j < xs.length := by have := (List.getElem?_eq_some_iff.1 hu).1; rwa [i64s_length] at this
      obtain ⟨b, off, e, hb, hcc⟩ := h.2 (by omega)
      cases e
      rw [Addr.add_lit]
      exact (World.cell?_alloc_lt w _ _ (by show b < _; omega)).trans (hcc j u hu)
    have Hc := Lib.hid hc
    have Ho := Lib.hid (own_newI w (Nat.le_refl _))
    clear hc h
    go_enter Try.func26, Try.ntmps26
    go_wp2_with (at_builtin; go_must (refine emitAllI rfl _ _ rfl w.heap.size (.slice (some ⟨w.heap.size, 0, none⟩) 0 0) [] rfl Ho.out ad xs.length c xs rfl rfl Hc.out ?c1 ?c2 ?_))
    case c1 => simp; omega
    case c2 => show w.heap.size ≤ (w.heap.push _).size; simp
    intro v' w3 hO' hg
    have HO' := Lib.hid hO'
    have HB := Lib.hid (below_ownGrown ((Below.refl _ _).alloc (Nat.le_refl _) _) Ho.out hg (Nat.le_refl _) (Nat.le_refl _))
    clear hO' hg
    go_wp2
    go_ret
    exact ⟨v', rfl, HO'.out, HB.out⟩
end Go.Proofs.Ytlgpcojoonnlbaa
