/- From the form's reading of an alias to the walk's. -/
import Derived.Test.YtbfofbpjdmgogaaRowKit
import Derived.Test.YtbfofbpjdmgogaaAlias
import Derived.Lib.SmallJoins
namespace Go.Proofs.Ytbfofbpjdmgogaa
open Go.ChangeShapes Go.WideShapes Go.ChangeAt Go.RowKit

set_option maxRecDepth 100000
section
variable {H : Type} {enc : TypeId × Value → H} {W : World} {base : Nat} {spare : Nat → Bool} {held : Bool}
theorem open_Lt {v : Value} {y : DataW H × List MemPlace} {fuel : Nat} (hf : DataW.trod enc Try.prog W base (fun _ => true) held fuel 26 [v] = some y) :
    ∃ (A : Option Addr) (n c : Nat) (xs : List Int), v = .slice A n c ∧ Rd W W.heap.size A n (i64s xs) ∧ n ≤ maxLen ∧ Fit xs := by
  rcases open_ints Try.underlying26 Try.underlying2 (by kernel_rfl) hf with ⟨hcs, _⟩ | ⟨x, l, c, zs, hcs, _, hl, hm, hz, _, hcell, hwz⟩
  · obtain rfl : v = .slice none 0 0 := by injection hcs
    exact ⟨none, 0, 0, [], rfl, Rd.nil_, by unfold maxLen; omega, fun x hx => by cases hx⟩
  · obtain rfl : v = .slice (some x) l c := by injection hcs
    have hz' : zs.length = c := by simpa using hz
    exact ⟨_, _, _, zs.take l, rfl, rd_of_cells hl hz' hcell, by omega, fun y hy => fit_of_wf (hwz y (List.mem_of_mem_take hy))⟩
theorem open_FLt {v : Value} {y : DataW H × List MemPlace} {fuel : Nat} (hf : DataW.trod enc Try.prog W base (fun _ => true) held fuel 51 [v] = some y) :
    ∃ (A : Option Addr) (n c : Nat) (xs : List Nat), v = .slice A n c ∧ Rd W W.heap.size A n (f32s xs) ∧ n ≤ maxLen := by
  rcases Go.Deep.open_slice Try.underlying51 hf with ⟨hcs, _⟩ | ⟨a, l, c, m, n, D, Pl, hcs, hb, hl, hm, hmm, hx, hi⟩
  · obtain rfl : v = .slice none 0 0 := by injection hcs
    exact ⟨none, 0, 0, [], rfl, Rd.nil_, by unfold maxLen; omega⟩
  · obtain rfl : v = .slice (some a) l c := by injection hcs
    have hm' : m = c := by simpa using hmm
    subst hm'
    have hC : Try.prog.cellsOf 36 = 1 := by kernel_rfl
    have hcell : ∀ i, i < m → ∃ x : Nat, W.cell? (a.add i) = some (.float .f32 x) := by
      intro i him
      obtain ⟨cs', hc, ht⟩ := hi i him
      rw [hC] at hc
      rw [Nat.mul_one] at hc
      obtain ⟨_, hcl, hat⟩ := World.cells?_some hc
      have hlen : cs'.length = 1 := by simpa using hcl
      match cs', hlen with
      | [u], _ =>
        have h1 := hat 0 (by omega)
        cases n with
        | zero => simp [DataW.trod] at ht
        | succ n =>
          cases u with
          | float k x =>
            cases k with
            | f32 => exact ⟨x, by simpa [Addr.add] using h1⟩
            | f64 => simp [DataW.trod, Try.underlying36] at ht
          | _ => simp [DataW.trod, Try.underlying36] at ht
    have hch : ∃ xs : List Nat, xs.length = m ∧ ∀ i, i < m → W.cell? (a.add i) = some (.float .f32 (xs.getD i 0)) := by
      have key : ∀ k, k ≤ m → ∃ xs : List Nat, xs.length = k ∧ ∀ i, i < k → W.cell? (a.add i) = some (.float .f32 (xs.getD i 0)) := by
        intro k
        induction k with
        | zero => intro _; exact ⟨[], rfl, fun i hi => absurd hi (by omega)⟩
        | succ k ih =>
          intro hk
          obtain ⟨xs, hxl, hxs⟩ := ih (by omega)
          obtain ⟨x, hx⟩ := hcell k (by omega)
          refine ⟨xs ++ [x], by simp [hxl], fun i hi => ?_⟩
          by_cases hik : i < k
          · rw [hxs i hik, List.getD, List.getD, List.getElem?_append_left (by omega)]
          · obtain rfl : i = k := by omega
            rw [hx, List.getD, List.getElem?_append_right (by omega), hxl, Nat.sub_self]
            rfl
      exact key m (Nat.le_refl _)
    obtain ⟨xs, hxl, hxs⟩ := hch
    refine ⟨_, _, _, xs.take l, rfl, ?_, by omega⟩
    refine ⟨by rw [f32s_length, List.length_take]; omega, fun hn => ?_⟩
    obtain ⟨b, off, spot⟩ := a
    have hc0 := hxs 0 (by omega)
    have hspot : spot = none := by simpa [Addr.add] using World.cell?_spot hc0
    subst hspot
    have hlt : b < W.heap.size := by
      have := World.block_lt_of_cell? W _ hc0
      simpa [Addr.add] using this
    refine ⟨b, off, rfl, hlt, fun j u hu => ?_⟩
    obtain ⟨y, rfl, hy⟩ := f32s_get? hu
    have hj : j < l := by
      have := (List.getElem?_eq_some_iff.1 hy).1
      rw [List.length_take] at this
      omega
    have := hxs j (by omega)
    rw [Addr.add_lit] at this
    rw [this]
    rw [List.getElem?_take, if_pos hj] at hy
    simp [List.getD, hy]
/-- An alias that came in. -/
theorem open_AL {v : Value} {d : DataW H} {p : List MemPlace} {r : Reach} {b0 : Nat} (hval : Value.okWide Try.prog W r b0 64 v) (h0 : DataW.Trod enc Try.prog W base (fun _ => true) held 64 v d p) :
    ∃ (A : Option Addr) (n c : Nat) (xs : List Nat) (A' : Option Addr) (n' c' : Nat) (ys : List Int), v = .agg #[.slice A n c, .slice A' n' c'] ∧ Rd W W.heap.size A n (f32s xs) ∧ n ≤ maxLen ∧ Rd W W.heap.size A' n' (i64s ys) ∧ n' ≤ maxLen ∧ Fit ys := by
  obtain ⟨v0, v1, y0, y1, n, rfl, _, _, h1, h2⟩ := Go.Joins.open_agg2 Try.underlying64 (by kernel_rfl) (by kernel_rfl) hval h0
  obtain ⟨A, n, c, xs, rfl, hr, hm⟩ := open_FLt h1
  obtain ⟨A', n', c', ys, rfl, hr', hm', hf⟩ := open_Lt h2
  exact ⟨A, n, c, xs, A', n', c', ys, rfl, hr, hm, hr', hm', hf⟩
end
end Go.Proofs.Ytbfofbpjdmgogaa
