/- From the form's reading of an argument to the walk's: lists of numbers. -/
import Derived.Test.YtijafnejdibdlaaGreatDoorRows
import Derived.Test.YtijafnejdibdlaaGreatDoorShapes
import Derived.Test.YtijafnejdibdlaaGreatDoorFloat
import Derived.ProofKit
import Derived.OpenShut
import Derived.ShutString
import Derived.ChangeOld
import Derived.Deep.Slices
namespace Go.Proofs.YtijafnejdibdlaaGreatDoor
open Go.ChangeShapes Go.WideShapes Go.ChangeAt Go.RowKit

set_option maxRecDepth 100000
theorem row_own : ownKnob Tryz.prog.godebug = none := by kernel_rfl
theorem row_laidOut : laidOutB Tryz.prog = true := by kernel_rfl

theorem fit_of_wf {n : Int} (h : (Lit.int .i64 n).wf = true) : -9223372036854775808 ≤ n ∧ n ≤ 9223372036854775807 := by
  have h' : decide (IntKind.i64.min ≤ n ∧ n ≤ IntKind.i64.max) = true := by simpa [Lit.wf] using h
  have := of_decide_eq_true h'
  have e1 : IntKind.i64.min = -9223372036854775808 := by decide
  have e2 : IntKind.i64.max = 9223372036854775807 := by decide
  omega

theorem rd_of_cells {W : World} {x : Addr} {l c : Nat} {zs : List Int} (hl : l ≤ c) (hz : zs.length = c) (hcell : ∀ i, i < zs.length → W.cell? (x.add i) = some (.int .i64 (zs.getD i 0))) :
    Rd W W.heap.size (some x) l (i64s (zs.take l)) := by
  refine ⟨by rw [i64s_length, List.length_take]; omega, fun hn => ?_⟩
  obtain ⟨b, off, spot⟩ := x
  have hc0 := hcell 0 (by omega)
  have hspot : spot = none := by simpa [Addr.add] using World.cell?_spot hc0
  subst hspot
  have hlt : b < W.heap.size := by
    have := World.block_lt_of_cell? W _ hc0
    simpa [Addr.add] using this
  refine ⟨b, off, rfl, hlt, fun j u hu => ?_⟩
  obtain ⟨y, rfl, hy⟩ := i64s_get? hu
  have hj : j < l := by
    have := (List.getElem?_eq_some_iff.1 hy).1
    rw [List.length_take] at this
    omega
  have := hcell j (by omega)
  rw [Addr.add_lit] at this
  rw [this]
  rw [List.getElem?_take, if_pos hj] at hy
  simp [List.getD, hy]

section
variable {H : Type} {enc : TypeId × Value → H} {W : World} {base : Nat} {spare : Nat → Bool} {held : Bool}
/-- A list of int64 that came in. -/
theorem open_L {v : Value} {d : DataW H} {p : List MemPlace} {r : Reach} {b0 : Nat} (hval : Value.okWide Tryz.prog W r b0 88 v) (h0 : DataW.Trod enc Tryz.prog W base (fun _ => true) held 88 v d p) :
    ∃ (A : Option Addr) (n c : Nat) (xs : List Int), v = .slice A n c ∧ Rd W W.heap.size A n (i64s xs) ∧ n ≤ maxLen ∧ Fit xs := by
  obtain ⟨a0, len0, cap0, rfl⟩ := okWide_slice Tryz.underlying88 hval
  obtain ⟨fuel, hf⟩ := h0
  rcases open_ints Tryz.underlying88 Tryz.underlying2 (by kernel_rfl) hf with ⟨hcs, _⟩ | ⟨x, l, c, zs, hcs, _, hl, hm, hz, _, hcell, hwz⟩
  · simp [Value.cells] at hcs
    obtain ⟨rfl, rfl, rfl⟩ := hcs
    exact ⟨none, 0, 0, [], rfl, Rd.nil_, by unfold maxLen; omega, fun x hx => by cases hx⟩
  · simp [Value.cells] at hcs
    obtain ⟨rfl, rfl, rfl⟩ := hcs
    have hz' : zs.length = cap0 := by simpa using hz
    exact ⟨_, _, _, zs.take len0, rfl, rd_of_cells hl hz' hcell, by omega, fun y hy => fit_of_wf (hwz y (List.mem_of_mem_take hy))⟩
/-- A list of float32 that came in. -/
theorem open_FL {v : Value} {d : DataW H} {p : List MemPlace} {r : Reach} {b0 : Nat} (hval : Value.okWide Tryz.prog W r b0 90 v) (h0 : DataW.Trod enc Tryz.prog W base (fun _ => true) held 90 v d p) :
    ∃ (A : Option Addr) (n c : Nat) (xs : List Nat), v = .slice A n c ∧ Rd W W.heap.size A n (f32s xs) ∧ n ≤ maxLen := by
  obtain ⟨a0, len0, cap0, rfl⟩ := okWide_slice Tryz.underlying90 hval
  obtain ⟨fuel, hf⟩ := h0
  rcases Go.Deep.open_slice Tryz.underlying90 hf with ⟨hcs, _⟩ | ⟨a, l, c, m, n, D, Pl, hcs, hb, hl, hm, hmm, hx, hi⟩
  · simp [Value.cells] at hcs
    obtain ⟨rfl, rfl, rfl⟩ := hcs
    exact ⟨none, 0, 0, [], rfl, Rd.nil_, by unfold maxLen; omega⟩
  · simp [Value.cells] at hcs
    obtain ⟨rfl, rfl, rfl⟩ := hcs
    have hm' : m = cap0 := by simpa using hmm
    subst hm'
    have hC : Tryz.prog.cellsOf 28 = 1 := by kernel_rfl
    have hcell : ∀ i, i < m → ∃ x : Nat, W.cell? (a.add i) = some (.float .f32 x) := by
      intro i him
      obtain ⟨cs', hc, ht⟩ := hi i him
      rw [hC] at hc
      rw [Nat.mul_one] at hc
      obtain ⟨_, hcl, hat⟩ := World.cells?_some hc
      have hlen : cs'.length = 1 := by simpa using hcl
      match cs', hlen with
      | [u], _ =>
        have h1 := hat 0 (by omega)
        cases n with
        | zero => simp [DataW.trod] at ht
        | succ n =>
          cases u with
          | float k x =>
            cases k with
            | f32 => exact ⟨x, by simpa [Addr.add] using h1⟩
            | f64 => simp [DataW.trod, Tryz.underlying28] at ht
          | _ => simp [DataW.trod, Tryz.underlying28] at ht
    have hch : ∃ xs : List Nat, xs.length = m ∧ ∀ i, i < m → W.cell? (a.add i) = some (.float .f32 (xs.getD i 0)) := by
      have key : ∀ k, k ≤ m → ∃ xs : List Nat, xs.length = k ∧ ∀ i, i < k → W.cell? (a.add i) = some (.float .f32 (xs.getD i 0)) := by
        intro k
        induction k with
        | zero => intro _; exact ⟨[], rfl, fun i hi => absurd hi (by omega)⟩
        | succ k ih =>
          intro hk
          obtain ⟨xs, hxl, hxs⟩ := ih (by omega)
          obtain ⟨x, hx⟩ := hcell k (by omega)
          refine ⟨xs ++ [x], by simp [hxl], fun i hi => ?_⟩
          by_cases hik : i < k
          · rw [hxs i hik, List.getD, List.getD, List.getElem?_append_left (by omega)]
          · obtain rfl : i = k := by omega
            rw [hx, List.getD, List.getElem?_append_right (by omega), hxl, Nat.sub_self]
            rfl
      exact key m (Nat.le_refl _)
    obtain ⟨xs, hxl, hxs⟩ := hch
    refine ⟨_, _, _, xs.take len0, rfl, ?_, by omega⟩
    refine ⟨by rw [f32s_length, List.length_take]; omega, fun hn => ?_⟩
    obtain ⟨b, off, spot⟩ := a
    have hc0 := hxs 0 (by omega)
    have hspot : spot = none := by simpa [Addr.add] using World.cell?_spot hc0
    subst hspot
    have hlt : b < W.heap.size := by
      have := World.block_lt_of_cell? W _ hc0
      simpa [Addr.add] using this
    refine ⟨b, off, rfl, hlt, fun j u hu => ?_⟩
    obtain ⟨y, rfl, hy⟩ := f32s_get? hu
    have hj : j < len0 := by
      have := (List.getElem?_eq_some_iff.1 hy).1
      rw [List.length_take] at this
      omega
    have := hxs j (by omega)
    rw [Addr.add_lit] at this
    rw [this]
    rw [List.getElem?_take, if_pos hj] at hy
    simp [List.getD, hy]
end
end Go.Proofs.YtijafnejdibdlaaGreatDoor
