/- slices.Clone, slices.Sort of float32; whether all numbers are parts. -/
import Derived.Test.YtmhhjegceibjoaaPdqI
import Derived.Test.YtmhhjegceibjoaaPart
import Derived.Test.YtmhhjegceibjoaaShapesF
namespace Go.Proofs.Ytmhhjegceibjoaa
open Go.RowKit
theorem emitAllF {w0 : World} {ops : Array Oper} {rest : List Oper} {o : Oper} {a : Act} {Q : Exit → Act → World → Prop} (hgd : o.guard = none) (s x : Operand)
    (ho : o.op = .call { callee := .builtin .append, args := #[s, x], argTypes := #[22, 22] })
    (base : Nat) (v : Value) (xs : List Nat) (hs : a.eval s = v) (hown : Own w0 base 23 v (f32s xs)) (ad : Addr) (m c : Nat) (ys : List Nat) (hx : a.eval x = .slice (some ad) m c) (hm : ys.length = m)
    (hc : ∀ (j : Nat) (u : Value), (f32s ys)[j]? = some u → w0.cell? (ad.add j) = some u)
    (h63 : xs.length + m ≤ 2000000) (hbase : base ≤ w0.heap.size)
    (h : ∀ v' w', Own w' base 23 v' (f32s (xs ++ ys)) → w0.grownBy w' v.ownBlock → wpList Try.prog ops Q rest (a.put o.dst v') w') : wpList Try.prog ops Q (o :: rest) a w0 := by
  obtain ⟨i0, hi0, hz0, hz1, hz2⟩ := info_parts info_f32
  have hown' : w0.ownsRow base 23 1 v xs.length (f32s xs) := by have := hown; unfold Own at this; rwa [f32s_length] at this
  obtain ⟨v', w', hrun, h2, h3, _, _⟩ := run_append_own_at (P := Try.prog) w0 base 22 o.type 23 i0 (.float .f32 0) 1 4 Try.underlying22 hi0 hz0 hz1 hz2 rfl (by decide) v xs.length (f32s xs) hown' ad m c (f32s ys) (by rw [f32s_length]; omega) hc (by intro u hu; simp only [f32s, List.mem_map] at hu; obtain ⟨_, _, rfl⟩ := hu; rfl) (by unfold maxLen; omega) (by omega) hbase
  refine wpList_plain hgd fun _ hK => ?_
  unfold Oper.wp execOp
  simp only [ho, resolve, invoke, builtin, Sem.run_bind, Sem.run_pure, Result.andThen_ok, List.map_toArray, List.map_cons, List.map_nil, hs, hx, hrun]
  refine hK _ _ (h v' w' ?_ h3)
  have e : f32s xs ++ f32s ys = f32s (xs ++ ys) := by simp [f32s]
  unfold Own
  rw [f32s_length, List.length_append, hm, ← e]
  exact h2
set_option maxRecDepth 20000 in
theorem cloneF_any (A : Option Addr) (n c B : Nat) (xs : List Nat) (w : World) (h : Rd w B A n (f32s xs)) (hB : B ≤ w.heap.size) (hn : xs.length ≤ 1048576) :
    Calls Try.prog 13 #[.slice A n c] w fun e w' => ∃ v, e = .returned v ∧ Own w' w.heap.size 23 v (f32s xs) ∧ Below w.heap.size w w' := by
  have hl := h.lenF
  obtain rfl : xs.length = n := hl.out
  clear hl
  have heq := fun (w' : World) => Go.Lib.run_eql_slice_nil (P := Try.prog) w' 22 23 A xs.length c 0 0 Try.underlying22
  cases A with
  | none =>
    have h0 : xs = [] := by
      cases xs with
      | nil => rfl
      | cons x xs => obtain ⟨b, off, e, _⟩ := h.2 (by simp); cases e
    subst h0
    have heq2 := fun (w' : World) => Go.Lib.run_eql_slice_nil (P := Try.prog) w' 22 23 none 0 c 0 0 Try.underlying22
    clear heq
    go_enter Try.func13, Try.ntmps13
    go_wp2
    go_ret
    exact ⟨_, rfl, ⟨by simp, .inl ⟨rfl, rfl⟩⟩, Below.refl _ _⟩
  | some ad =>
    have hc : ∀ (j : Nat) (u : Value), (f32s xs)[j]? = some u → (w.alloc (.cells #[] 23)).cell? (ad.add j) = some u := by
      intro j u hu
      have hj : j < xs.length := by have := (List.getElem?_eq_some_iff.1 hu).1; rwa [f32s_length] at this
      obtain ⟨b, off, e, hb, hcc⟩ := h.2 (by omega)
      cases e
      rw [Addr.add_lit]
      exact (World.cell?_alloc_lt w _ _ (by show b < _; omega)).trans (hcc j u hu)
    have Hc := Lib.hid hc
    have Ho := Lib.hid ((own_new w 23 (Nat.le_refl _) : Own _ w.heap.size 23 _ (f32s [])))
    clear hc h
    go_enter Try.func13, Try.ntmps13
    go_wp2_with (at_builtin; go_must (refine emitAllF rfl _ _ rfl w.heap.size (.slice (some ⟨w.heap.size, 0, none⟩) 0 0) [] rfl Ho.out ad xs.length c xs rfl rfl Hc.out ?c1 ?c2 ?_))
    case c1 => simp; omega
    case c2 => show w.heap.size ≤ (w.heap.push _).size; simp
    intro v' w3 hO' hg
    have HO' := Lib.hid hO'
    have HB := Lib.hid (below_ownGrown ((Below.refl _ _).alloc (Nat.le_refl _) _) Ho.out hg (Nat.le_refl _) (Nat.le_refl _))
    clear hO' hg
    go_wp2
    go_ret
    exact ⟨v', rfl, HO'.out, HB.out⟩
set_option maxHeartbeats 1000000 in
theorem sortF_any (g n c : Nat) (xs : List Nat) (w : World) (h : Dt w g n c xs) (h1 : 1 ≤ n) (hn : n ≤ 256) :
    Calls Try.prog 14 #[.slice (some ⟨g, 0, none⟩) n c] w fun e w' => e = .returned (.tuple #[]) ∧ Fx w g n c 0 n xs (Srt 0 n) w' := by
  have H := Lib.hid h
  clear h
  have hb : Lib.bitLen n ≤ 64 := by
    have := Lib.bitLen_le n 64 (by omega) (by omega)
    exact this
  obtain ⟨m, hm⟩ : ∃ m : Nat, Lib.bitLen n = m := ⟨_, rfl⟩
  rw [hm] at hb
  have Hm := Lib.hid hm
  clear hm
  go_enter Try.func14, Try.ntmps14
  go_wp2_with fail
  refine (len_any (n : Int) _ (by omega) (by omega)).mono ?_
  rintro e w1 ⟨rfl, rfl⟩
  rw [Int.toNat_natCast, Hm.out]
  go_wp2_with fail
  refine (pdq_any n g n c 0 n (m : Int) xs _ (by omega) H.out (by omega) (Nat.le_refl _) hn (by omega) (by omega) (fun i h0 _ _ => by omega)).mono ?_
  rintro e w2 ⟨rfl, hx⟩
  go_wp2_with fail
  go_end0
  exact ⟨rfl, hx⟩
end Go.Proofs.Ytmhhjegceibjoaa
