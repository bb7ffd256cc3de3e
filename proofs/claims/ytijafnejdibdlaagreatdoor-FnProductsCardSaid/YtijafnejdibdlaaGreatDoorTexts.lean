/- Lists of numbers as texts, and back. -/
import Derived.Test.YtijafnejdibdlaaGreatDoorHexR
import Derived.Test.YtijafnejdibdlaaGreatDoorTextP
import Derived.Test.YtijafnejdibdlaaGreatDoorDraws
namespace Go.Proofs.YtijafnejdibdlaaGreatDoor
open Go.RowKit
set_option maxRecDepth 100000
def strs (xs : List ByteArray) : List Value := xs.map Value.string
@[simp] theorem strs_length (xs : List ByteArray) : (strs xs).length = xs.length := by simp [strs]
theorem strs_snoc (xs : List ByteArray) (x : ByteArray) : strs (xs ++ [x]) = strs xs ++ [.string x] := by simp [strs]
theorem strs_get {xs : List ByteArray} {j : Nat} {x : ByteArray} (h : xs[j]? = some x) : (strs xs)[j]? = some (.string x) := by
  simp [strs, List.getElem?_map, h]
theorem info_str : (Tryz.prog.info? 9).map (fun i => (i.zero, i.size, i.bytes)) = some (some (.string ByteArray.empty), 1, 16) := by kernel_rfl
/-- One string more behind an owned list of strings. -/
theorem emitS (w0 : World) {ops : Array Oper} {rest : List Oper} {o : Oper} {a : Act} {Q : Exit → Act → World → Prop} (hgd : o.guard = none) (s x : Operand)
    (ho : o.op = .call { callee := .builtin .append, args := #[s, x], argTypes := #[60, 60] })
    (base : Nat) (v : Value) (xs : List ByteArray) (hs : a.eval s = v) (hown : Own w0 base 9 v (strs xs)) (u : ByteArray) (hx : a.eval x = .slice (some ⟨w0.heap.size, 0, none⟩) 1 1)
    (h63 : xs.length ≤ 2000000) (hbase : base ≤ w0.heap.size)
    (h : ∀ v' w', Own w' base 9 v' (strs (xs ++ [u])) → w0.grownBy w' v.ownBlock → (v'.ownBlock = v.ownBlock ∨ ∃ k, v'.ownBlock = some k ∧ w0.heap.size ≤ k) → wpList Tryz.prog ops Q rest (a.put o.dst v') w') : wpList Tryz.prog ops Q (o :: rest) a (w0.alloc (.cells #[.string u] 9)) := by
  obtain ⟨i0, hi0, hz0, hz1, hz2⟩ := info_parts info_str
  have hown' : w0.ownsRow base 9 1 v xs.length (strs xs) := by have := hown; unfold Own at this; rwa [strs_length] at this
  obtain ⟨v', w', hrun, h2, h3, _, h5⟩ := run_append_own_at (P := Tryz.prog) (w0.alloc (.cells #[.string u] 9)) base 60 o.type 9 i0 (.string ByteArray.empty) 1 16 Tryz.underlying60 hi0 hz0 hz1 hz2 rfl (by decide) v xs.length (strs xs) (hown'.alloc _) ⟨w0.heap.size, 0, none⟩ 1 1 [.string u] rfl (one_cell _ _ _) (one_one _ rfl) (by unfold maxLen; omega) (by omega) (by simp; omega)
  refine wpList_plain hgd fun _ hK => ?_
  unfold Oper.wp execOp
  simp only [ho, resolve, invoke, builtin, Sem.run_bind, Sem.run_pure, Result.andThen_ok, List.map_toArray, List.map_cons, List.map_nil, hs, hx, hrun]
  refine hK _ _ (h v' w' ?_ (grown_trans' (World.grownBy_alloc w0 _ _) h3) ?_)
  · unfold Own
    rw [strs_snoc, List.length_append, strs_length]
    exact h2
  · rcases h5 with h5 | h5
    · exact .inl h5
    · exact .inr ⟨_, h5, by simp⟩
/-- The text of a list of texts. -/
def textB (xs : List ByteArray) : ByteArray := if xs = [] then bs [110, 111, 110, 101] else bs (Lib.join (xs.map (·.data.toList)) [44])
theorem listNone_any (A : Option Addr) (n c B : Nat) (xs : List ByteArray) (w : World) (h : Rd w B A n (strs xs)) (hB : B ≤ w.heap.size) (hc : n ≤ c) (hn : n ≤ 1000) (hlen : (Lib.join (xs.map (·.data.toList)) [44]).length ≤ 1000000) :
    Calls Tryz.prog 36 #[.slice A n c] w fun e w' => e = .returned (.string (textB xs)) ∧ Below w.heap.size w w' := by
  have hl : xs.length = n := by have := h.len; rwa [strs_length] at this
  by_cases h0 : n = 0
  · have hx : xs = [] := List.eq_nil_of_length_eq_zero (by omega)
    have e : textB xs = bs [110, 111, 110, 101] := by unfold textB; rw [if_pos hx]
    rw [e]
    subst h0
    clear hl h
    go_enter Tryz.func36, Tryz.ntmps36
    go_wp2_with fail
    go_ret
    exact ⟨rfl, Below.refl _ _⟩
  · have hx : xs ≠ [] := fun e => h0 (by rw [← hl, e]; rfl)
    have e : textB xs = bs (Lib.join (xs.map (·.data.toList)) [44]) := by unfold textB; rw [if_neg hx]
    have e' := Lib.hid e
    obtain ⟨b, off, rfl, hb, hcell⟩ := h.2 (by omega)
    have hJ := Any.strings_Join Tryz.mJoin Tryz.xJoin b off c xs ⟨#[44]⟩ w (fun j x hj => hcell j _ (strs_get hj)) (by omega) (by omega) (by omega) (by show (Lib.join _ [44]).length ≤ _; omega)
    rw [hl] at hJ
    have HJ := Lib.hid hJ
    have h0' : ¬ (n : Int) = 0 := by omega
    clear hJ hcell h hl e
    go_enter Tryz.func36, Tryz.ntmps36
    go_wp2_with fail
    refine HJ.out.mono ?_
    rintro e2 w1 ⟨rfl, hb1⟩
    go_wp2_with fail
    go_ret
    exact ⟨by rw [e'.out]; rfl, hb1⟩
/-- The text of a list of numbers. -/
def numT (xs : List Nat) : ByteArray := textB (xs.map hexS)
theorem hexS_len (x : Nat) : (hexS x).data.toList.length = 8 := dgs_length _ _
theorem num_join_len (xs : List Nat) (hn : xs.length ≤ 256) : (Lib.join ((xs.map hexS).map (·.data.toList)) [44]).length ≤ 1000000 := by
  by_cases h : xs = []
  · subst h; decide
  · rw [join_len (n := 8) (by simpa using h) (fun l hl => by
      rw [List.map_map] at hl
      obtain ⟨x, _, rfl⟩ := List.mem_map.1 hl
      exact hexS_len x)]
    simp only [List.length_map]
    omega
end Go.Proofs.YtijafnejdibdlaaGreatDoor
