/- AliasOf: seven blocks are made in whatever order, three are stored to: what holds all along. Printed by a program of mine. -/
import Derived.Test.YtgemcjcghnpmdaaAliasT
import Derived.Test.YtgemcjcghnpmdaaBox
namespace Go.Proofs.Ytgemcjcghnpmdaa
open Go.RowKit
set_option maxRecDepth 100000
/-- A region in whatever order, by an invariant. -/
def openA (l : Array Bool) : Nat := l.toList.countP (fun b => !b)
theorem openA_set {l : Array Bool} {i : Nat} (hi : i < l.size) (h : l.getD i true = false) : openA (l.setIfInBounds i true) + 1 = openA l := by
  have hl : l.toList[i]? = some false := by
    rw [Array.getElem?_toList, Array.getElem?_eq_getElem hi]
    rw [Array.getD, dif_pos hi] at h
    exact congrArg some h
  have := openN_set hl
  unfold openA
  unfold openN at this
  rw [Array.toList_setIfInBounds]
  exact this
theorem wpAny_inv {P : Program} {ops : Array Oper} {Q : Exit → Act → World → Prop} {md : Region.Mode} (Inv : Array Bool → Act → World → Prop)
    (hstep : ∀ listed a w, listed.size = ops.size → Inv listed a w → ∀ i ∈ Region.ready md ops listed, wpOp P ops Q i (fun a' w' => Inv (listed.setIfInBounds i true) a' w') a w)
    (hend : ∀ listed a w, listed.size = ops.size → Inv listed a w → Region.ready md ops listed = [] → Q .normal a w) :
    ∀ fuel listed a w, openA listed ≤ fuel → listed.size = ops.size → Inv listed a w → wpAny P md ops Q fuel listed a w
  | 0, listed, a, w, hf, hs, hI => by
    have hr : Region.ready md ops listed = [] := by
      unfold Region.ready
      rw [List.filter_eq_nil_iff]
      intro i hi
      have hil : i < listed.size := by rw [hs]; exact List.mem_range.1 hi
      have : listed.getD i true = true := by
        cases hb : listed.getD i true with
        | true => rfl
        | false => have := openA_set hil hb; omega
      rw [this]
      simp
    exact ⟨hr, hend listed a w hs hI hr⟩
  | fuel + 1, listed, a, w, hf, hs, hI => by
    refine ⟨fun hr => hend listed a w hs hI hr, fun i hi => ?_⟩
    have hm := List.mem_filter.1 hi
    have hil : i < listed.size := by rw [hs]; exact List.mem_range.1 hm.1
    have hb : listed.getD i true = false := by
      have := hm.2
      rw [Bool.and_eq_true] at this
      simpa using this.1
    have hc := openA_set hil hb
    exact wpOp_mono (fun a' w' h => wpAny_inv Inv hstep hend fuel _ a' w' (by omega) (by rw [Array.size_setIfInBounds]; exact hs) h) (hstep listed a w hs hI i hi)
def upd {α : Type} (f : Nat → α) (i : Nat) (v : α) : Nat → α := fun k => if k = i then v else f k
def blkOf : Value → Nat
  | .slice (some q) _ _ => q.block
  | .pointer (some q) => q.block
  | _ => 0
/-- The frame of 'AliasOf' about that region. -/
def fr4 (X : Value) (g2 n nf sm : Nat) (f : Nat → Value) : Act :=
  ⟨#[X, undef, .pointer (some ⟨g2, 0, none⟩), .bool false, .float .f32 nf, .float .f32 sm, f 6, f 7, f 8, undef, undef, undef, undef, undef, undef, X, .bool true, .bool false, undef, X, .int .i64 n, .float .f32 nf, X, .float .f32 sm, f 24, f 25, f 26, f 27, f 28, f 29, f 30, f 31, f 32, f 33, f 34, f 35,
    undef, undef, undef, undef, undef, undef, undef, undef, undef, undef, undef, undef, undef, undef, undef, undef, undef, undef, undef, undef, undef, undef, undef, undef, undef, undef, undef, undef, undef, undef, undef, undef, undef, undef, undef, undef, undef, undef, undef, undef, undef, undef, undef, undef, undef, undef, undef, undef, undef, undef, undef, undef, undef, undef, undef, undef, undef, undef, undef, undef, undef, undef, undef, undef, undef, undef, undef, undef, undef], []⟩
def nilS : Value := .slice none 0 0
/-- The blocks that are made. -/
def mk4 (i : Nat) : Bool := i == 2 || i == 6 || i == 8 || i == 11 || i == 12 || i == 13 || i == 14
def dst4 : Nat → Nat
  | 2 => 26 | 6 => 30 | 8 => 32 | 11 => 35 | 12 => 6 | 13 => 7 | 14 => 8 | _ => 0
/-- What holds all along: L: which steps are done; f: the values laid so far. -/
structure Iv (X : Value) (b n : Nat) (w0 : World) (L : Nat → Bool) (f : Nat → Value) (w : World) : Prop where
  bl : Below w0.heap.size w0 w
  p0 : L 0 = true → f 24 = X
  p1 : L 1 = true → f 25 = .int .i64 n
  p2 : L 2 = true → ∃ g, f 26 = .slice (some ⟨g, 0, none⟩) n n ∧ w.ownsRow b 40 1 (f 26) n (f32s (List.replicate n 0))
  p3 : L 3 = true → f 27 = X
  p4 : L 4 = true → f 28 = .int .i64 n
  p5 : L 5 = true → f 29 = .int .i64 ((n : Int) - 1)
  p6 : L 6 = true → ∃ g c, f 30 = .slice (some ⟨g, 0, none⟩) n c ∧ w.ownsRow b 2 1 (f 30) n (i64s (upFrom 0 n))
  p7 : L 7 = true → f 31 = .agg #[f 26, f 30]
  p8 : L 8 = true → ∃ g, f 32 = .slice (some ⟨g, 0, none⟩) 0 0 ∧ w.ownsRow b 40 1 (f 32) 0 []
  p9 : L 9 = true → f 33 = X
  p10 : L 10 = true → f 34 = .int .i64 n
  p11 : L 11 = true → ∃ g, f 35 = .slice (some ⟨g, 0, none⟩) n n ∧ w.ownsRow b 4 1 (f 35) n (bools' (List.replicate n false))
  p12 : L 12 = true → ∃ g, f 6 = .pointer (some ⟨g, 0, none⟩) ∧ b ≤ g ∧ AlAt w g 33 (if L 15 then f 26 else nilS) (if L 15 then f 30 else nilS)
  p13 : L 13 = true → ∃ g, f 7 = .pointer (some ⟨g, 0, none⟩) ∧ b ≤ g ∧ BoxV w g 29 (if L 16 then f 32 else nilS)
  p14 : L 14 = true → ∃ g, f 8 = .pointer (some ⟨g, 0, none⟩) ∧ b ≤ g ∧ BoxV w g 60 (if L 17 then f 35 else nilS)
  q7 : L 7 = true → L 2 = true ∧ L 6 = true
  q15 : L 15 = true → L 2 = true ∧ L 6 = true ∧ L 12 = true
  q16 : L 16 = true → L 8 = true ∧ L 13 = true
  q17 : L 17 = true → L 11 = true ∧ L 14 = true
  lt : ∀ i, mk4 i = true → L i = true → w0.heap.size ≤ blkOf (f (dst4 i)) ∧ blkOf (f (dst4 i)) < w.heap.size
  dj : ∀ i j, mk4 i = true → mk4 j = true → i ≠ j → L i = true → L j = true → blkOf (f (dst4 i)) ≠ blkOf (f (dst4 j))
section
variable {X : Value} {b n : Nat} {w0 w w' : World} {L : Nat → Bool} {f : Nat → Value}
theorem Iv.world (h : Iv X b n w0 L f w) (hb : Below w.heap.size w w') : Iv X b n w0 L f w' where
  bl := h.bl.trans (hb.mono h.bl.size)
  p0 := h.p0
  p1 := h.p1
  p2 := fun e => by obtain ⟨g, e1, e2⟩ := h.p2 e; exact ⟨g, e1, World.ownsRow.kept e2 (row := none) ⟨hb.os, hb.tape, hb.output, hb.size, fun k hk _ => hb.block k hk⟩ (.inr (fun e => by rw [e1] at e; cases e))⟩
  p3 := h.p3
  p4 := h.p4
  p5 := h.p5
  p6 := fun e => by obtain ⟨g, c, e1, e2⟩ := h.p6 e; exact ⟨g, c, e1, World.ownsRow.kept e2 (row := none) ⟨hb.os, hb.tape, hb.output, hb.size, fun k hk _ => hb.block k hk⟩ (.inr (fun e => by rw [e1] at e; cases e))⟩
  p7 := h.p7
  p8 := fun e => by obtain ⟨g, e1, e2⟩ := h.p8 e; exact ⟨g, e1, World.ownsRow.kept e2 (row := none) ⟨hb.os, hb.tape, hb.output, hb.size, fun k hk _ => hb.block k hk⟩ (.inr (fun e => by rw [e1] at e; cases e))⟩
  p9 := h.p9
  p10 := h.p10
  p11 := fun e => by obtain ⟨g, e1, e2⟩ := h.p11 e; exact ⟨g, e1, World.ownsRow.kept e2 (row := none) ⟨hb.os, hb.tape, hb.output, hb.size, fun k hk _ => hb.block k hk⟩ (.inr (fun e => by rw [e1] at e; cases e))⟩
  p12 := fun e => by obtain ⟨g, e1, e0, e2⟩ := h.p12 e; exact ⟨g, e1, e0, e2.below hb e2.lt⟩
  p13 := fun e => by obtain ⟨g, e1, e0, e2⟩ := h.p13 e; exact ⟨g, e1, e0, e2.below hb e2.lt⟩
  p14 := fun e => by obtain ⟨g, e1, e0, e2⟩ := h.p14 e; exact ⟨g, e1, e0, e2.below hb e2.lt⟩
  q7 := h.q7
  q15 := h.q15
  q16 := h.q16
  q17 := h.q17
  lt := fun i hi hl => ⟨(h.lt i hi hl).1, Nat.lt_of_lt_of_le (h.lt i hi hl).2 hb.size⟩
  dj := h.dj
theorem dst4_ne {i : Nat} (hi : mk4 i = true) (d : Nat) (hd : (d != 26 && d != 30 && d != 32 && d != 35 && d != 6 && d != 7 && d != 8) = true) : dst4 i ≠ d := by
  simp only [mk4, Bool.or_eq_true, beq_iff_eq] at hi
  simp only [Bool.and_eq_true, bne_iff_ne] at hd
  rcases hi with (((((rfl | rfl) | rfl) | rfl) | rfl) | rfl) | rfl <;> simp only [dst4] <;> omega
theorem dst4_inj {i : Nat} (hi : mk4 i = true) {j d : Nat} (hj : (mk4 j && dst4 j == d) = true) (h : i ≠ j) : dst4 i ≠ d := by
  simp only [mk4, Bool.or_eq_true, Bool.and_eq_true, beq_iff_eq] at hi hj
  obtain ⟨hj, rfl⟩ := hj
  rcases hi with (((((rfl | rfl) | rfl) | rfl) | rfl) | rfl) | rfl <;> rcases hj with (((((rfl | rfl) | rfl) | rfl) | rfl) | rfl) | rfl <;> first | exact absurd rfl h | (simp only [dst4]; omega)
theorem Iv.s0 (h : Iv X b n w0 L f w) : Iv X b n w0 (upd L 0 true) (upd f 24 (X)) w where
  bl := h.bl
  p0 := fun _ => by simp [upd]
  p1 := fun e => by
    have e' : L 1 = true := by simpa [upd] using e
    have := h.p1 e'; simpa [upd] using this
  p2 := fun e => by
    have e' : L 2 = true := by simpa [upd] using e
    have := h.p2 e'; simpa [upd] using this
  p3 := fun e => by
    have e' : L 3 = true := by simpa [upd] using e
    have := h.p3 e'; simpa [upd] using this
  p4 := fun e => by
    have e' : L 4 = true := by simpa [upd] using e
    have := h.p4 e'; simpa [upd] using this
  p5 := fun e => by
    have e' : L 5 = true := by simpa [upd] using e
    have := h.p5 e'; simpa [upd] using this
  p6 := fun e => by
    have e' : L 6 = true := by simpa [upd] using e
    have := h.p6 e'; simpa [upd] using this
  p7 := fun e => by
    have e' : L 7 = true := by simpa [upd] using e
    have := h.p7 e'; simpa [upd] using this
  p8 := fun e => by
    have e' : L 8 = true := by simpa [upd] using e
    have := h.p8 e'; simpa [upd] using this
  p9 := fun e => by
    have e' : L 9 = true := by simpa [upd] using e
    have := h.p9 e'; simpa [upd] using this
  p10 := fun e => by
    have e' : L 10 = true := by simpa [upd] using e
    have := h.p10 e'; simpa [upd] using this
  p11 := fun e => by
    have e' : L 11 = true := by simpa [upd] using e
    have := h.p11 e'; simpa [upd] using this
  p12 := fun e => by
    have e' : L 12 = true := by simpa [upd] using e
    have := h.p12 e'; simpa [upd] using this
  p13 := fun e => by
    have e' : L 13 = true := by simpa [upd] using e
    have := h.p13 e'; simpa [upd] using this
  p14 := fun e => by
    have e' : L 14 = true := by simpa [upd] using e
    have := h.p14 e'; simpa [upd] using this
  q7 := fun e => by
    have e' : L 7 = true := by simpa [upd] using e
    have := h.q7 e'; simpa [upd] using this
  q15 := fun e => by
    have e' : L 15 = true := by simpa [upd] using e
    have := h.q15 e'; simpa [upd] using this
  q16 := fun e => by
    have e' : L 16 = true := by simpa [upd] using e
    have := h.q16 e'; simpa [upd] using this
  q17 := fun e => by
    have e' : L 17 = true := by simpa [upd] using e
    have := h.q17 e'; simpa [upd] using this
  lt := fun i hi hl => by
    have e : i ≠ 0 := fun e => by subst e; cases hi
    have e2 : dst4 i ≠ 24 := dst4_ne hi _ (by decide)
    simp only [upd, if_neg e, if_neg e2] at hl ⊢
    exact h.lt i hi hl
  dj := fun i j hi hj hij hl hl' => by
    have e : i ≠ 0 := fun e => by subst e; cases hi
    have e' : j ≠ 0 := fun e => by subst e; cases hj
    have e2 : dst4 i ≠ 24 := dst4_ne hi _ (by decide)
    have e2' : dst4 j ≠ 24 := dst4_ne hj _ (by decide)
    simp only [upd, if_neg e, if_neg e', if_neg e2, if_neg e2'] at hl hl' ⊢
    exact h.dj i j hi hj hij hl hl'
theorem Iv.s3 (h : Iv X b n w0 L f w) : Iv X b n w0 (upd L 3 true) (upd f 27 (X)) w where
  bl := h.bl
  p0 := fun e => by
    have e' : L 0 = true := by simpa [upd] using e
    have := h.p0 e'; simpa [upd] using this
  p1 := fun e => by
    have e' : L 1 = true := by simpa [upd] using e
    have := h.p1 e'; simpa [upd] using this
  p2 := fun e => by
    have e' : L 2 = true := by simpa [upd] using e
    have := h.p2 e'; simpa [upd] using this
  p3 := fun _ => by simp [upd]
  p4 := fun e => by
    have e' : L 4 = true := by simpa [upd] using e
    have := h.p4 e'; simpa [upd] using this
  p5 := fun e => by
    have e' : L 5 = true := by simpa [upd] using e
    have := h.p5 e'; simpa [upd] using this
  p6 := fun e => by
    have e' : L 6 = true := by simpa [upd] using e
    have := h.p6 e'; simpa [upd] using this
  p7 := fun e => by
    have e' : L 7 = true := by simpa [upd] using e
    have := h.p7 e'; simpa [upd] using this
  p8 := fun e => by
    have e' : L 8 = true := by simpa [upd] using e
    have := h.p8 e'; simpa [upd] using this
  p9 := fun e => by
    have e' : L 9 = true := by simpa [upd] using e
    have := h.p9 e'; simpa [upd] using this
  p10 := fun e => by
    have e' : L 10 = true := by simpa [upd] using e
    have := h.p10 e'; simpa [upd] using this
  p11 := fun e => by
    have e' : L 11 = true := by simpa [upd] using e
    have := h.p11 e'; simpa [upd] using this
  p12 := fun e => by
    have e' : L 12 = true := by simpa [upd] using e
    have := h.p12 e'; simpa [upd] using this
  p13 := fun e => by
    have e' : L 13 = true := by simpa [upd] using e
    have := h.p13 e'; simpa [upd] using this
  p14 := fun e => by
    have e' : L 14 = true := by simpa [upd] using e
    have := h.p14 e'; simpa [upd] using this
  q7 := fun e => by
    have e' : L 7 = true := by simpa [upd] using e
    have := h.q7 e'; simpa [upd] using this
  q15 := fun e => by
    have e' : L 15 = true := by simpa [upd] using e
    have := h.q15 e'; simpa [upd] using this
  q16 := fun e => by
    have e' : L 16 = true := by simpa [upd] using e
    have := h.q16 e'; simpa [upd] using this
  q17 := fun e => by
    have e' : L 17 = true := by simpa [upd] using e
    have := h.q17 e'; simpa [upd] using this
  lt := fun i hi hl => by
    have e : i ≠ 3 := fun e => by subst e; cases hi
    have e2 : dst4 i ≠ 27 := dst4_ne hi _ (by decide)
    simp only [upd, if_neg e, if_neg e2] at hl ⊢
    exact h.lt i hi hl
  dj := fun i j hi hj hij hl hl' => by
    have e : i ≠ 3 := fun e => by subst e; cases hi
    have e' : j ≠ 3 := fun e => by subst e; cases hj
    have e2 : dst4 i ≠ 27 := dst4_ne hi _ (by decide)
    have e2' : dst4 j ≠ 27 := dst4_ne hj _ (by decide)
    simp only [upd, if_neg e, if_neg e', if_neg e2, if_neg e2'] at hl hl' ⊢
    exact h.dj i j hi hj hij hl hl'
theorem Iv.s9 (h : Iv X b n w0 L f w) : Iv X b n w0 (upd L 9 true) (upd f 33 (X)) w where
  bl := h.bl
  p0 := fun e => by
    have e' : L 0 = true := by simpa [upd] using e
    have := h.p0 e'; simpa [upd] using this
  p1 := fun e => by
    have e' : L 1 = true := by simpa [upd] using e
    have := h.p1 e'; simpa [upd] using this
  p2 := fun e => by
    have e' : L 2 = true := by simpa [upd] using e
    have := h.p2 e'; simpa [upd] using this
  p3 := fun e => by
    have e' : L 3 = true := by simpa [upd] using e
    have := h.p3 e'; simpa [upd] using this
  p4 := fun e => by
    have e' : L 4 = true := by simpa [upd] using e
    have := h.p4 e'; simpa [upd] using this
  p5 := fun e => by
    have e' : L 5 = true := by simpa [upd] using e
    have := h.p5 e'; simpa [upd] using this
  p6 := fun e => by
    have e' : L 6 = true := by simpa [upd] using e
    have := h.p6 e'; simpa [upd] using this
  p7 := fun e => by
    have e' : L 7 = true := by simpa [upd] using e
    have := h.p7 e'; simpa [upd] using this
  p8 := fun e => by
    have e' : L 8 = true := by simpa [upd] using e
    have := h.p8 e'; simpa [upd] using this
  p9 := fun _ => by simp [upd]
  p10 := fun e => by
    have e' : L 10 = true := by simpa [upd] using e
    have := h.p10 e'; simpa [upd] using this
  p11 := fun e => by
    have e' : L 11 = true := by simpa [upd] using e
    have := h.p11 e'; simpa [upd] using this
  p12 := fun e => by
    have e' : L 12 = true := by simpa [upd] using e
    have := h.p12 e'; simpa [upd] using this
  p13 := fun e => by
    have e' : L 13 = true := by simpa [upd] using e
    have := h.p13 e'; simpa [upd] using this
  p14 := fun e => by
    have e' : L 14 = true := by simpa [upd] using e
    have := h.p14 e'; simpa [upd] using this
  q7 := fun e => by
    have e' : L 7 = true := by simpa [upd] using e
    have := h.q7 e'; simpa [upd] using this
  q15 := fun e => by
    have e' : L 15 = true := by simpa [upd] using e
    have := h.q15 e'; simpa [upd] using this
  q16 := fun e => by
    have e' : L 16 = true := by simpa [upd] using e
    have := h.q16 e'; simpa [upd] using this
  q17 := fun e => by
    have e' : L 17 = true := by simpa [upd] using e
    have := h.q17 e'; simpa [upd] using this
  lt := fun i hi hl => by
    have e : i ≠ 9 := fun e => by subst e; cases hi
    have e2 : dst4 i ≠ 33 := dst4_ne hi _ (by decide)
    simp only [upd, if_neg e, if_neg e2] at hl ⊢
    exact h.lt i hi hl
  dj := fun i j hi hj hij hl hl' => by
    have e : i ≠ 9 := fun e => by subst e; cases hi
    have e' : j ≠ 9 := fun e => by subst e; cases hj
    have e2 : dst4 i ≠ 33 := dst4_ne hi _ (by decide)
    have e2' : dst4 j ≠ 33 := dst4_ne hj _ (by decide)
    simp only [upd, if_neg e, if_neg e', if_neg e2, if_neg e2'] at hl hl' ⊢
    exact h.dj i j hi hj hij hl hl'
theorem Iv.s1 (h : Iv X b n w0 L f w) : Iv X b n w0 (upd L 1 true) (upd f 25 (.int .i64 n)) w where
  bl := h.bl
  p0 := fun e => by
    have e' : L 0 = true := by simpa [upd] using e
    have := h.p0 e'; simpa [upd] using this
  p1 := fun _ => by simp [upd]
  p2 := fun e => by
    have e' : L 2 = true := by simpa [upd] using e
    have := h.p2 e'; simpa [upd] using this
  p3 := fun e => by
    have e' : L 3 = true := by simpa [upd] using e
    have := h.p3 e'; simpa [upd] using this
  p4 := fun e => by
    have e' : L 4 = true := by simpa [upd] using e
    have := h.p4 e'; simpa [upd] using this
  p5 := fun e => by
    have e' : L 5 = true := by simpa [upd] using e
    have := h.p5 e'; simpa [upd] using this
  p6 := fun e => by
    have e' : L 6 = true := by simpa [upd] using e
    have := h.p6 e'; simpa [upd] using this
  p7 := fun e => by
    have e' : L 7 = true := by simpa [upd] using e
    have := h.p7 e'; simpa [upd] using this
  p8 := fun e => by
    have e' : L 8 = true := by simpa [upd] using e
    have := h.p8 e'; simpa [upd] using this
  p9 := fun e => by
    have e' : L 9 = true := by simpa [upd] using e
    have := h.p9 e'; simpa [upd] using this
  p10 := fun e => by
    have e' : L 10 = true := by simpa [upd] using e
    have := h.p10 e'; simpa [upd] using this
  p11 := fun e => by
    have e' : L 11 = true := by simpa [upd] using e
    have := h.p11 e'; simpa [upd] using this
  p12 := fun e => by
    have e' : L 12 = true := by simpa [upd] using e
    have := h.p12 e'; simpa [upd] using this
  p13 := fun e => by
    have e' : L 13 = true := by simpa [upd] using e
    have := h.p13 e'; simpa [upd] using this
  p14 := fun e => by
    have e' : L 14 = true := by simpa [upd] using e
    have := h.p14 e'; simpa [upd] using this
  q7 := fun e => by
    have e' : L 7 = true := by simpa [upd] using e
    have := h.q7 e'; simpa [upd] using this
  q15 := fun e => by
    have e' : L 15 = true := by simpa [upd] using e
    have := h.q15 e'; simpa [upd] using this
  q16 := fun e => by
    have e' : L 16 = true := by simpa [upd] using e
    have := h.q16 e'; simpa [upd] using this
  q17 := fun e => by
    have e' : L 17 = true := by simpa [upd] using e
    have := h.q17 e'; simpa [upd] using this
  lt := fun i hi hl => by
    have e : i ≠ 1 := fun e => by subst e; cases hi
    have e2 : dst4 i ≠ 25 := dst4_ne hi _ (by decide)
    simp only [upd, if_neg e, if_neg e2] at hl ⊢
    exact h.lt i hi hl
  dj := fun i j hi hj hij hl hl' => by
    have e : i ≠ 1 := fun e => by subst e; cases hi
    have e' : j ≠ 1 := fun e => by subst e; cases hj
    have e2 : dst4 i ≠ 25 := dst4_ne hi _ (by decide)
    have e2' : dst4 j ≠ 25 := dst4_ne hj _ (by decide)
    simp only [upd, if_neg e, if_neg e', if_neg e2, if_neg e2'] at hl hl' ⊢
    exact h.dj i j hi hj hij hl hl'
theorem Iv.s4 (h : Iv X b n w0 L f w) : Iv X b n w0 (upd L 4 true) (upd f 28 (.int .i64 n)) w where
  bl := h.bl
  p0 := fun e => by
    have e' : L 0 = true := by simpa [upd] using e
    have := h.p0 e'; simpa [upd] using this
  p1 := fun e => by
    have e' : L 1 = true := by simpa [upd] using e
    have := h.p1 e'; simpa [upd] using this
  p2 := fun e => by
    have e' : L 2 = true := by simpa [upd] using e
    have := h.p2 e'; simpa [upd] using this
  p3 := fun e => by
    have e' : L 3 = true := by simpa [upd] using e
    have := h.p3 e'; simpa [upd] using this
  p4 := fun _ => by simp [upd]
  p5 := fun e => by
    have e' : L 5 = true := by simpa [upd] using e
    have := h.p5 e'; simpa [upd] using this
  p6 := fun e => by
    have e' : L 6 = true := by simpa [upd] using e
    have := h.p6 e'; simpa [upd] using this
  p7 := fun e => by
    have e' : L 7 = true := by simpa [upd] using e
    have := h.p7 e'; simpa [upd] using this
  p8 := fun e => by
    have e' : L 8 = true := by simpa [upd] using e
    have := h.p8 e'; simpa [upd] using this
  p9 := fun e => by
    have e' : L 9 = true := by simpa [upd] using e
    have := h.p9 e'; simpa [upd] using this
  p10 := fun e => by
    have e' : L 10 = true := by simpa [upd] using e
    have := h.p10 e'; simpa [upd] using this
  p11 := fun e => by
    have e' : L 11 = true := by simpa [upd] using e
    have := h.p11 e'; simpa [upd] using this
  p12 := fun e => by
    have e' : L 12 = true := by simpa [upd] using e
    have := h.p12 e'; simpa [upd] using this
  p13 := fun e => by
    have e' : L 13 = true := by simpa [upd] using e
    have := h.p13 e'; simpa [upd] using this
  p14 := fun e => by
    have e' : L 14 = true := by simpa [upd] using e
    have := h.p14 e'; simpa [upd] using this
  q7 := fun e => by
    have e' : L 7 = true := by simpa [upd] using e
    have := h.q7 e'; simpa [upd] using this
  q15 := fun e => by
    have e' : L 15 = true := by simpa [upd] using e
    have := h.q15 e'; simpa [upd] using this
  q16 := fun e => by
    have e' : L 16 = true := by simpa [upd] using e
    have := h.q16 e'; simpa [upd] using this
  q17 := fun e => by
    have e' : L 17 = true := by simpa [upd] using e
    have := h.q17 e'; simpa [upd] using this
  lt := fun i hi hl => by
    have e : i ≠ 4 := fun e => by subst e; cases hi
    have e2 : dst4 i ≠ 28 := dst4_ne hi _ (by decide)
    simp only [upd, if_neg e, if_neg e2] at hl ⊢
    exact h.lt i hi hl
  dj := fun i j hi hj hij hl hl' => by
    have e : i ≠ 4 := fun e => by subst e; cases hi
    have e' : j ≠ 4 := fun e => by subst e; cases hj
    have e2 : dst4 i ≠ 28 := dst4_ne hi _ (by decide)
    have e2' : dst4 j ≠ 28 := dst4_ne hj _ (by decide)
    simp only [upd, if_neg e, if_neg e', if_neg e2, if_neg e2'] at hl hl' ⊢
    exact h.dj i j hi hj hij hl hl'
theorem Iv.s10 (h : Iv X b n w0 L f w) : Iv X b n w0 (upd L 10 true) (upd f 34 (.int .i64 n)) w where
  bl := h.bl
  p0 := fun e => by
    have e' : L 0 = true := by simpa [upd] using e
    have := h.p0 e'; simpa [upd] using this
  p1 := fun e => by
    have e' : L 1 = true := by simpa [upd] using e
    have := h.p1 e'; simpa [upd] using this
  p2 := fun e => by
    have e' : L 2 = true := by simpa [upd] using e
    have := h.p2 e'; simpa [upd] using this
  p3 := fun e => by
    have e' : L 3 = true := by simpa [upd] using e
    have := h.p3 e'; simpa [upd] using this
  p4 := fun e => by
    have e' : L 4 = true := by simpa [upd] using e
    have := h.p4 e'; simpa [upd] using this
  p5 := fun e => by
    have e' : L 5 = true := by simpa [upd] using e
    have := h.p5 e'; simpa [upd] using this
  p6 := fun e => by
    have e' : L 6 = true := by simpa [upd] using e
    have := h.p6 e'; simpa [upd] using this
  p7 := fun e => by
    have e' : L 7 = true := by simpa [upd] using e
    have := h.p7 e'; simpa [upd] using this
  p8 := fun e => by
    have e' : L 8 = true := by simpa [upd] using e
    have := h.p8 e'; simpa [upd] using this
  p9 := fun e => by
    have e' : L 9 = true := by simpa [upd] using e
    have := h.p9 e'; simpa [upd] using this
  p10 := fun _ => by simp [upd]
  p11 := fun e => by
    have e' : L 11 = true := by simpa [upd] using e
    have := h.p11 e'; simpa [upd] using this
  p12 := fun e => by
    have e' : L 12 = true := by simpa [upd] using e
    have := h.p12 e'; simpa [upd] using this
  p13 := fun e => by
    have e' : L 13 = true := by simpa [upd] using e
    have := h.p13 e'; simpa [upd] using this
  p14 := fun e => by
    have e' : L 14 = true := by simpa [upd] using e
    have := h.p14 e'; simpa [upd] using this
  q7 := fun e => by
    have e' : L 7 = true := by simpa [upd] using e
    have := h.q7 e'; simpa [upd] using this
  q15 := fun e => by
    have e' : L 15 = true := by simpa [upd] using e
    have := h.q15 e'; simpa [upd] using this
  q16 := fun e => by
    have e' : L 16 = true := by simpa [upd] using e
    have := h.q16 e'; simpa [upd] using this
  q17 := fun e => by
    have e' : L 17 = true := by simpa [upd] using e
    have := h.q17 e'; simpa [upd] using this
  lt := fun i hi hl => by
    have e : i ≠ 10 := fun e => by subst e; cases hi
    have e2 : dst4 i ≠ 34 := dst4_ne hi _ (by decide)
    simp only [upd, if_neg e, if_neg e2] at hl ⊢
    exact h.lt i hi hl
  dj := fun i j hi hj hij hl hl' => by
    have e : i ≠ 10 := fun e => by subst e; cases hi
    have e' : j ≠ 10 := fun e => by subst e; cases hj
    have e2 : dst4 i ≠ 34 := dst4_ne hi _ (by decide)
    have e2' : dst4 j ≠ 34 := dst4_ne hj _ (by decide)
    simp only [upd, if_neg e, if_neg e', if_neg e2, if_neg e2'] at hl hl' ⊢
    exact h.dj i j hi hj hij hl hl'
theorem Iv.s5 (h : Iv X b n w0 L f w) : Iv X b n w0 (upd L 5 true) (upd f 29 (.int .i64 ((n : Int) - 1))) w where
  bl := h.bl
  p0 := fun e => by
    have e' : L 0 = true := by simpa [upd] using e
    have := h.p0 e'; simpa [upd] using this
  p1 := fun e => by
    have e' : L 1 = true := by simpa [upd] using e
    have := h.p1 e'; simpa [upd] using this
  p2 := fun e => by
    have e' : L 2 = true := by simpa [upd] using e
    have := h.p2 e'; simpa [upd] using this
  p3 := fun e => by
    have e' : L 3 = true := by simpa [upd] using e
    have := h.p3 e'; simpa [upd] using this
  p4 := fun e => by
    have e' : L 4 = true := by simpa [upd] using e
    have := h.p4 e'; simpa [upd] using this
  p5 := fun _ => by simp [upd]
  p6 := fun e => by
    have e' : L 6 = true := by simpa [upd] using e
    have := h.p6 e'; simpa [upd] using this
  p7 := fun e => by
    have e' : L 7 = true := by simpa [upd] using e
    have := h.p7 e'; simpa [upd] using this
  p8 := fun e => by
    have e' : L 8 = true := by simpa [upd] using e
    have := h.p8 e'; simpa [upd] using this
  p9 := fun e => by
    have e' : L 9 = true := by simpa [upd] using e
    have := h.p9 e'; simpa [upd] using this
  p10 := fun e => by
    have e' : L 10 = true := by simpa [upd] using e
    have := h.p10 e'; simpa [upd] using this
  p11 := fun e => by
    have e' : L 11 = true := by simpa [upd] using e
    have := h.p11 e'; simpa [upd] using this
  p12 := fun e => by
    have e' : L 12 = true := by simpa [upd] using e
    have := h.p12 e'; simpa [upd] using this
  p13 := fun e => by
    have e' : L 13 = true := by simpa [upd] using e
    have := h.p13 e'; simpa [upd] using this
  p14 := fun e => by
    have e' : L 14 = true := by simpa [upd] using e
    have := h.p14 e'; simpa [upd] using this
  q7 := fun e => by
    have e' : L 7 = true := by simpa [upd] using e
    have := h.q7 e'; simpa [upd] using this
  q15 := fun e => by
    have e' : L 15 = true := by simpa [upd] using e
    have := h.q15 e'; simpa [upd] using this
  q16 := fun e => by
    have e' : L 16 = true := by simpa [upd] using e
    have := h.q16 e'; simpa [upd] using this
  q17 := fun e => by
    have e' : L 17 = true := by simpa [upd] using e
    have := h.q17 e'; simpa [upd] using this
  lt := fun i hi hl => by
    have e : i ≠ 5 := fun e => by subst e; cases hi
    have e2 : dst4 i ≠ 29 := dst4_ne hi _ (by decide)
    simp only [upd, if_neg e, if_neg e2] at hl ⊢
    exact h.lt i hi hl
  dj := fun i j hi hj hij hl hl' => by
    have e : i ≠ 5 := fun e => by subst e; cases hi
    have e' : j ≠ 5 := fun e => by subst e; cases hj
    have e2 : dst4 i ≠ 29 := dst4_ne hi _ (by decide)
    have e2' : dst4 j ≠ 29 := dst4_ne hj _ (by decide)
    simp only [upd, if_neg e, if_neg e', if_neg e2, if_neg e2'] at hl hl' ⊢
    exact h.dj i j hi hj hij hl hl'
theorem Iv.s7 (h : Iv X b n w0 L f w) (h2 : L 2 = true) (h6 : L 6 = true) : Iv X b n w0 (upd L 7 true) (upd f 31 (.agg #[f 26, f 30])) w where
  bl := h.bl
  p0 := fun e => by
    have e' : L 0 = true := by simpa [upd] using e
    have := h.p0 e'; simpa [upd] using this
  p1 := fun e => by
    have e' : L 1 = true := by simpa [upd] using e
    have := h.p1 e'; simpa [upd] using this
  p2 := fun e => by
    have e' : L 2 = true := by simpa [upd] using e
    have := h.p2 e'; simpa [upd] using this
  p3 := fun e => by
    have e' : L 3 = true := by simpa [upd] using e
    have := h.p3 e'; simpa [upd] using this
  p4 := fun e => by
    have e' : L 4 = true := by simpa [upd] using e
    have := h.p4 e'; simpa [upd] using this
  p5 := fun e => by
    have e' : L 5 = true := by simpa [upd] using e
    have := h.p5 e'; simpa [upd] using this
  p6 := fun e => by
    have e' : L 6 = true := by simpa [upd] using e
    have := h.p6 e'; simpa [upd] using this
  p7 := fun _ => by simp [upd]
  p8 := fun e => by
    have e' : L 8 = true := by simpa [upd] using e
    have := h.p8 e'; simpa [upd] using this
  p9 := fun e => by
    have e' : L 9 = true := by simpa [upd] using e
    have := h.p9 e'; simpa [upd] using this
  p10 := fun e => by
    have e' : L 10 = true := by simpa [upd] using e
    have := h.p10 e'; simpa [upd] using this
  p11 := fun e => by
    have e' : L 11 = true := by simpa [upd] using e
    have := h.p11 e'; simpa [upd] using this
  p12 := fun e => by
    have e' : L 12 = true := by simpa [upd] using e
    have := h.p12 e'; simpa [upd] using this
  p13 := fun e => by
    have e' : L 13 = true := by simpa [upd] using e
    have := h.p13 e'; simpa [upd] using this
  p14 := fun e => by
    have e' : L 14 = true := by simpa [upd] using e
    have := h.p14 e'; simpa [upd] using this
  q7 := fun _ => by simp [upd, h2, h6]
  q15 := fun e => by
    have e' : L 15 = true := by simpa [upd] using e
    have := h.q15 e'; simpa [upd] using this
  q16 := fun e => by
    have e' : L 16 = true := by simpa [upd] using e
    have := h.q16 e'; simpa [upd] using this
  q17 := fun e => by
    have e' : L 17 = true := by simpa [upd] using e
    have := h.q17 e'; simpa [upd] using this
  lt := fun i hi hl => by
    have e : i ≠ 7 := fun e => by subst e; cases hi
    have e2 : dst4 i ≠ 31 := dst4_ne hi _ (by decide)
    simp only [upd, if_neg e, if_neg e2] at hl ⊢
    exact h.lt i hi hl
  dj := fun i j hi hj hij hl hl' => by
    have e : i ≠ 7 := fun e => by subst e; cases hi
    have e' : j ≠ 7 := fun e => by subst e; cases hj
    have e2 : dst4 i ≠ 31 := dst4_ne hi _ (by decide)
    have e2' : dst4 j ≠ 31 := dst4_ne hj _ (by decide)
    simp only [upd, if_neg e, if_neg e', if_neg e2, if_neg e2'] at hl hl' ⊢
    exact h.dj i j hi hj hij hl hl'
theorem Iv.s2 (h : Iv X b n w0 L f w) (hL : L 2 = false) {v : Value} (hs : ∃ g, v = .slice (some ⟨g, 0, none⟩) n n ∧ w.ownsRow b 40 1 v n (f32s (List.replicate n 0))) (hv : w0.heap.size ≤ blkOf v ∧ blkOf v < w.heap.size) (hnew : ∀ j, mk4 j = true → L j = true → blkOf (f (dst4 j)) ≠ blkOf v) : Iv X b n w0 (upd L 2 true) (upd f 26 v) w where
  bl := h.bl
  p0 := fun e => by
    have e' : L 0 = true := by simpa [upd] using e
    have := h.p0 e'; simpa [upd] using this
  p1 := fun e => by
    have e' : L 1 = true := by simpa [upd] using e
    have := h.p1 e'; simpa [upd] using this
  p2 := fun _ => by simpa [upd] using hs
  p3 := fun e => by
    have e' : L 3 = true := by simpa [upd] using e
    have := h.p3 e'; simpa [upd] using this
  p4 := fun e => by
    have e' : L 4 = true := by simpa [upd] using e
    have := h.p4 e'; simpa [upd] using this
  p5 := fun e => by
    have e' : L 5 = true := by simpa [upd] using e
    have := h.p5 e'; simpa [upd] using this
  p6 := fun e => by
    have e' : L 6 = true := by simpa [upd] using e
    have := h.p6 e'; simpa [upd] using this
  p7 := fun e => by
    have e' : L 7 = true := by simpa [upd] using e
    have := h.q7 e'; rw [hL] at this; simp at this
  p8 := fun e => by
    have e' : L 8 = true := by simpa [upd] using e
    have := h.p8 e'; simpa [upd] using this
  p9 := fun e => by
    have e' : L 9 = true := by simpa [upd] using e
    have := h.p9 e'; simpa [upd] using this
  p10 := fun e => by
    have e' : L 10 = true := by simpa [upd] using e
    have := h.p10 e'; simpa [upd] using this
  p11 := fun e => by
    have e' : L 11 = true := by simpa [upd] using e
    have := h.p11 e'; simpa [upd] using this
  p12 := fun e => by
    have e' : L 12 = true := by simpa [upd] using e
    have h15 : L 15 = false := by
      cases hb : L 15 with
      | false => rfl
      | true => have := h.q15 hb; rw [hL] at this; simp at this
    have := h.p12 e'; rw [h15] at this; simpa [upd, h15] using this
  p13 := fun e => by
    have e' : L 13 = true := by simpa [upd] using e
    have := h.p13 e'; simpa [upd] using this
  p14 := fun e => by
    have e' : L 14 = true := by simpa [upd] using e
    have := h.p14 e'; simpa [upd] using this
  q7 := fun e => by
    have e' : L 7 = true := by simpa [upd] using e
    have := h.q7 e'; rw [hL] at this; simp at this
  q15 := fun e => by
    have e' : L 15 = true := by simpa [upd] using e
    have := h.q15 e'; rw [hL] at this; simp at this
  q16 := fun e => by
    have e' : L 16 = true := by simpa [upd] using e
    have := h.q16 e'; simpa [upd] using this
  q17 := fun e => by
    have e' : L 17 = true := by simpa [upd] using e
    have := h.q17 e'; simpa [upd] using this
  lt := fun j hj hl => by
    by_cases e : j = 2
    · subst e; simp only [upd, dst4, if_true]; exact hv
    · have e2 : dst4 j ≠ 26 := dst4_inj hj (by decide) e
      simp only [upd, if_neg e, if_neg e2] at hl ⊢
      exact h.lt j hj hl
  dj := fun i j hi hj hij hl hl' => by
    by_cases e : i = 2
    · subst e
      have e' : j ≠ 2 := fun e => hij e.symm
      have e2' : dst4 j ≠ 26 := dst4_inj hj (by decide) e'
      simp only [upd, if_neg e', if_neg e2'] at hl' ⊢
      simp only [dst4, if_true]
      exact fun e => hnew j hj hl' e.symm
    · by_cases e' : j = 2
      · subst e'
        have e2 : dst4 i ≠ 26 := dst4_inj hi (by decide) e
        simp only [upd, if_neg e, if_neg e2] at hl ⊢
        simp only [dst4, if_true]
        exact hnew i hi hl
      · have e2 : dst4 i ≠ 26 := dst4_inj hi (by decide) e
        have e2' : dst4 j ≠ 26 := dst4_inj hj (by decide) e'
        simp only [upd, if_neg e, if_neg e', if_neg e2, if_neg e2'] at hl hl' ⊢
        exact h.dj i j hi hj hij hl hl'
theorem Iv.s6 (h : Iv X b n w0 L f w) (hL : L 6 = false) {v : Value} (hs : ∃ g c, v = .slice (some ⟨g, 0, none⟩) n c ∧ w.ownsRow b 2 1 v n (i64s (upFrom 0 n))) (hv : w0.heap.size ≤ blkOf v ∧ blkOf v < w.heap.size) (hnew : ∀ j, mk4 j = true → L j = true → blkOf (f (dst4 j)) ≠ blkOf v) : Iv X b n w0 (upd L 6 true) (upd f 30 v) w where
  bl := h.bl
  p0 := fun e => by
    have e' : L 0 = true := by simpa [upd] using e
    have := h.p0 e'; simpa [upd] using this
  p1 := fun e => by
    have e' : L 1 = true := by simpa [upd] using e
    have := h.p1 e'; simpa [upd] using this
  p2 := fun e => by
    have e' : L 2 = true := by simpa [upd] using e
    have := h.p2 e'; simpa [upd] using this
  p3 := fun e => by
    have e' : L 3 = true := by simpa [upd] using e
    have := h.p3 e'; simpa [upd] using this
  p4 := fun e => by
    have e' : L 4 = true := by simpa [upd] using e
    have := h.p4 e'; simpa [upd] using this
  p5 := fun e => by
    have e' : L 5 = true := by simpa [upd] using e
    have := h.p5 e'; simpa [upd] using this
  p6 := fun _ => by simpa [upd] using hs
  p7 := fun e => by
    have e' : L 7 = true := by simpa [upd] using e
    have := h.q7 e'; rw [hL] at this; simp at this
  p8 := fun e => by
    have e' : L 8 = true := by simpa [upd] using e
    have := h.p8 e'; simpa [upd] using this
  p9 := fun e => by
    have e' : L 9 = true := by simpa [upd] using e
    have := h.p9 e'; simpa [upd] using this
  p10 := fun e => by
    have e' : L 10 = true := by simpa [upd] using e
    have := h.p10 e'; simpa [upd] using this
  p11 := fun e => by
    have e' : L 11 = true := by simpa [upd] using e
    have := h.p11 e'; simpa [upd] using this
  p12 := fun e => by
    have e' : L 12 = true := by simpa [upd] using e
    have h15 : L 15 = false := by
      cases hb : L 15 with
      | false => rfl
      | true => have := h.q15 hb; rw [hL] at this; simp at this
    have := h.p12 e'; rw [h15] at this; simpa [upd, h15] using this
  p13 := fun e => by
    have e' : L 13 = true := by simpa [upd] using e
    have := h.p13 e'; simpa [upd] using this
  p14 := fun e => by
    have e' : L 14 = true := by simpa [upd] using e
    have := h.p14 e'; simpa [upd] using this
  q7 := fun e => by
    have e' : L 7 = true := by simpa [upd] using e
    have := h.q7 e'; rw [hL] at this; simp at this
  q15 := fun e => by
    have e' : L 15 = true := by simpa [upd] using e
    have := h.q15 e'; rw [hL] at this; simp at this
  q16 := fun e => by
    have e' : L 16 = true := by simpa [upd] using e
    have := h.q16 e'; simpa [upd] using this
  q17 := fun e => by
    have e' : L 17 = true := by simpa [upd] using e
    have := h.q17 e'; simpa [upd] using this
  lt := fun j hj hl => by
    by_cases e : j = 6
    · subst e; simp only [upd, dst4, if_true]; exact hv
    · have e2 : dst4 j ≠ 30 := dst4_inj hj (by decide) e
      simp only [upd, if_neg e, if_neg e2] at hl ⊢
      exact h.lt j hj hl
  dj := fun i j hi hj hij hl hl' => by
    by_cases e : i = 6
    · subst e
      have e' : j ≠ 6 := fun e => hij e.symm
      have e2' : dst4 j ≠ 30 := dst4_inj hj (by decide) e'
      simp only [upd, if_neg e', if_neg e2'] at hl' ⊢
      simp only [dst4, if_true]
      exact fun e => hnew j hj hl' e.symm
    · by_cases e' : j = 6
      · subst e'
        have e2 : dst4 i ≠ 30 := dst4_inj hi (by decide) e
        simp only [upd, if_neg e, if_neg e2] at hl ⊢
        simp only [dst4, if_true]
        exact hnew i hi hl
      · have e2 : dst4 i ≠ 30 := dst4_inj hi (by decide) e
        have e2' : dst4 j ≠ 30 := dst4_inj hj (by decide) e'
        simp only [upd, if_neg e, if_neg e', if_neg e2, if_neg e2'] at hl hl' ⊢
        exact h.dj i j hi hj hij hl hl'
theorem Iv.s8 (h : Iv X b n w0 L f w) (hL : L 8 = false) {v : Value} (hs : ∃ g, v = .slice (some ⟨g, 0, none⟩) 0 0 ∧ w.ownsRow b 40 1 v 0 []) (hv : w0.heap.size ≤ blkOf v ∧ blkOf v < w.heap.size) (hnew : ∀ j, mk4 j = true → L j = true → blkOf (f (dst4 j)) ≠ blkOf v) : Iv X b n w0 (upd L 8 true) (upd f 32 v) w where
  bl := h.bl
  p0 := fun e => by
    have e' : L 0 = true := by simpa [upd] using e
    have := h.p0 e'; simpa [upd] using this
  p1 := fun e => by
    have e' : L 1 = true := by simpa [upd] using e
    have := h.p1 e'; simpa [upd] using this
  p2 := fun e => by
    have e' : L 2 = true := by simpa [upd] using e
    have := h.p2 e'; simpa [upd] using this
  p3 := fun e => by
    have e' : L 3 = true := by simpa [upd] using e
    have := h.p3 e'; simpa [upd] using this
  p4 := fun e => by
    have e' : L 4 = true := by simpa [upd] using e
    have := h.p4 e'; simpa [upd] using this
  p5 := fun e => by
    have e' : L 5 = true := by simpa [upd] using e
    have := h.p5 e'; simpa [upd] using this
  p6 := fun e => by
    have e' : L 6 = true := by simpa [upd] using e
    have := h.p6 e'; simpa [upd] using this
  p7 := fun e => by
    have e' : L 7 = true := by simpa [upd] using e
    have := h.p7 e'; simpa [upd] using this
  p8 := fun _ => by simpa [upd] using hs
  p9 := fun e => by
    have e' : L 9 = true := by simpa [upd] using e
    have := h.p9 e'; simpa [upd] using this
  p10 := fun e => by
    have e' : L 10 = true := by simpa [upd] using e
    have := h.p10 e'; simpa [upd] using this
  p11 := fun e => by
    have e' : L 11 = true := by simpa [upd] using e
    have := h.p11 e'; simpa [upd] using this
  p12 := fun e => by
    have e' : L 12 = true := by simpa [upd] using e
    have := h.p12 e'; simpa [upd] using this
  p13 := fun e => by
    have e' : L 13 = true := by simpa [upd] using e
    have h16 : L 16 = false := by
      cases hb : L 16 with
      | false => rfl
      | true => have := h.q16 hb; rw [hL] at this; simp at this
    have := h.p13 e'; rw [h16] at this; simpa [upd, h16] using this
  p14 := fun e => by
    have e' : L 14 = true := by simpa [upd] using e
    have := h.p14 e'; simpa [upd] using this
  q7 := fun e => by
    have e' : L 7 = true := by simpa [upd] using e
    have := h.q7 e'; simpa [upd] using this
  q15 := fun e => by
    have e' : L 15 = true := by simpa [upd] using e
    have := h.q15 e'; simpa [upd] using this
  q16 := fun e => by
    have e' : L 16 = true := by simpa [upd] using e
    have := h.q16 e'; rw [hL] at this; simp at this
  q17 := fun e => by
    have e' : L 17 = true := by simpa [upd] using e
    have := h.q17 e'; simpa [upd] using this
  lt := fun j hj hl => by
    by_cases e : j = 8
    · subst e; simp only [upd, dst4, if_true]; exact hv
    · have e2 : dst4 j ≠ 32 := dst4_inj hj (by decide) e
      simp only [upd, if_neg e, if_neg e2] at hl ⊢
      exact h.lt j hj hl
  dj := fun i j hi hj hij hl hl' => by
    by_cases e : i = 8
    · subst e
      have e' : j ≠ 8 := fun e => hij e.symm
      have e2' : dst4 j ≠ 32 := dst4_inj hj (by decide) e'
      simp only [upd, if_neg e', if_neg e2'] at hl' ⊢
      simp only [dst4, if_true]
      exact fun e => hnew j hj hl' e.symm
    · by_cases e' : j = 8
      · subst e'
        have e2 : dst4 i ≠ 32 := dst4_inj hi (by decide) e
        simp only [upd, if_neg e, if_neg e2] at hl ⊢
        simp only [dst4, if_true]
        exact hnew i hi hl
      · have e2 : dst4 i ≠ 32 := dst4_inj hi (by decide) e
        have e2' : dst4 j ≠ 32 := dst4_inj hj (by decide) e'
        simp only [upd, if_neg e, if_neg e', if_neg e2, if_neg e2'] at hl hl' ⊢
        exact h.dj i j hi hj hij hl hl'
theorem Iv.s11 (h : Iv X b n w0 L f w) (hL : L 11 = false) {v : Value} (hs : ∃ g, v = .slice (some ⟨g, 0, none⟩) n n ∧ w.ownsRow b 4 1 v n (bools' (List.replicate n false))) (hv : w0.heap.size ≤ blkOf v ∧ blkOf v < w.heap.size) (hnew : ∀ j, mk4 j = true → L j = true → blkOf (f (dst4 j)) ≠ blkOf v) : Iv X b n w0 (upd L 11 true) (upd f 35 v) w where
  bl := h.bl
  p0 := fun e => by
    have e' : L 0 = true := by simpa [upd] using e
    have := h.p0 e'; simpa [upd] using this
  p1 := fun e => by
    have e' : L 1 = true := by simpa [upd] using e
    have := h.p1 e'; simpa [upd] using this
  p2 := fun e => by
    have e' : L 2 = true := by simpa [upd] using e
    have := h.p2 e'; simpa [upd] using this
  p3 := fun e => by
    have e' : L 3 = true := by simpa [upd] using e
    have := h.p3 e'; simpa [upd] using this
  p4 := fun e => by
    have e' : L 4 = true := by simpa [upd] using e
    have := h.p4 e'; simpa [upd] using this
  p5 := fun e => by
    have e' : L 5 = true := by simpa [upd] using e
    have := h.p5 e'; simpa [upd] using this
  p6 := fun e => by
    have e' : L 6 = true := by simpa [upd] using e
    have := h.p6 e'; simpa [upd] using this
  p7 := fun e => by
    have e' : L 7 = true := by simpa [upd] using e
    have := h.p7 e'; simpa [upd] using this
  p8 := fun e => by
    have e' : L 8 = true := by simpa [upd] using e
    have := h.p8 e'; simpa [upd] using this
  p9 := fun e => by
    have e' : L 9 = true := by simpa [upd] using e
    have := h.p9 e'; simpa [upd] using this
  p10 := fun e => by
    have e' : L 10 = true := by simpa [upd] using e
    have := h.p10 e'; simpa [upd] using this
  p11 := fun _ => by simpa [upd] using hs
  p12 := fun e => by
    have e' : L 12 = true := by simpa [upd] using e
    have := h.p12 e'; simpa [upd] using this
  p13 := fun e => by
    have e' : L 13 = true := by simpa [upd] using e
    have := h.p13 e'; simpa [upd] using this
  p14 := fun e => by
    have e' : L 14 = true := by simpa [upd] using e
    have h17 : L 17 = false := by
      cases hb : L 17 with
      | false => rfl
      | true => have := h.q17 hb; rw [hL] at this; simp at this
    have := h.p14 e'; rw [h17] at this; simpa [upd, h17] using this
  q7 := fun e => by
    have e' : L 7 = true := by simpa [upd] using e
    have := h.q7 e'; simpa [upd] using this
  q15 := fun e => by
    have e' : L 15 = true := by simpa [upd] using e
    have := h.q15 e'; simpa [upd] using this
  q16 := fun e => by
    have e' : L 16 = true := by simpa [upd] using e
    have := h.q16 e'; simpa [upd] using this
  q17 := fun e => by
    have e' : L 17 = true := by simpa [upd] using e
    have := h.q17 e'; rw [hL] at this; simp at this
  lt := fun j hj hl => by
    by_cases e : j = 11
    · subst e; simp only [upd, dst4, if_true]; exact hv
    · have e2 : dst4 j ≠ 35 := dst4_inj hj (by decide) e
      simp only [upd, if_neg e, if_neg e2] at hl ⊢
      exact h.lt j hj hl
  dj := fun i j hi hj hij hl hl' => by
    by_cases e : i = 11
    · subst e
      have e' : j ≠ 11 := fun e => hij e.symm
      have e2' : dst4 j ≠ 35 := dst4_inj hj (by decide) e'
      simp only [upd, if_neg e', if_neg e2'] at hl' ⊢
      simp only [dst4, if_true]
      exact fun e => hnew j hj hl' e.symm
    · by_cases e' : j = 11
      · subst e'
        have e2 : dst4 i ≠ 35 := dst4_inj hi (by decide) e
        simp only [upd, if_neg e, if_neg e2] at hl ⊢
        simp only [dst4, if_true]
        exact hnew i hi hl
      · have e2 : dst4 i ≠ 35 := dst4_inj hi (by decide) e
        have e2' : dst4 j ≠ 35 := dst4_inj hj (by decide) e'
        simp only [upd, if_neg e, if_neg e', if_neg e2, if_neg e2'] at hl hl' ⊢
        exact h.dj i j hi hj hij hl hl'
theorem Iv.s12 (h : Iv X b n w0 L f w) (hL : L 12 = false) {v : Value} (hs : ∃ g, v = .pointer (some ⟨g, 0, none⟩) ∧ b ≤ g ∧ AlAt w g 33 nilS nilS) (hv : w0.heap.size ≤ blkOf v ∧ blkOf v < w.heap.size) (hnew : ∀ j, mk4 j = true → L j = true → blkOf (f (dst4 j)) ≠ blkOf v) : Iv X b n w0 (upd L 12 true) (upd f 6 v) w where
  bl := h.bl
  p0 := fun e => by
    have e' : L 0 = true := by simpa [upd] using e
    have := h.p0 e'; simpa [upd] using this
  p1 := fun e => by
    have e' : L 1 = true := by simpa [upd] using e
    have := h.p1 e'; simpa [upd] using this
  p2 := fun e => by
    have e' : L 2 = true := by simpa [upd] using e
    have := h.p2 e'; simpa [upd] using this
  p3 := fun e => by
    have e' : L 3 = true := by simpa [upd] using e
    have := h.p3 e'; simpa [upd] using this
  p4 := fun e => by
    have e' : L 4 = true := by simpa [upd] using e
    have := h.p4 e'; simpa [upd] using this
  p5 := fun e => by
    have e' : L 5 = true := by simpa [upd] using e
    have := h.p5 e'; simpa [upd] using this
  p6 := fun e => by
    have e' : L 6 = true := by simpa [upd] using e
    have := h.p6 e'; simpa [upd] using this
  p7 := fun e => by
    have e' : L 7 = true := by simpa [upd] using e
    have := h.p7 e'; simpa [upd] using this
  p8 := fun e => by
    have e' : L 8 = true := by simpa [upd] using e
    have := h.p8 e'; simpa [upd] using this
  p9 := fun e => by
    have e' : L 9 = true := by simpa [upd] using e
    have := h.p9 e'; simpa [upd] using this
  p10 := fun e => by
    have e' : L 10 = true := by simpa [upd] using e
    have := h.p10 e'; simpa [upd] using this
  p11 := fun e => by
    have e' : L 11 = true := by simpa [upd] using e
    have := h.p11 e'; simpa [upd] using this
  p12 := fun _ => by
    have hq : L 15 = false := by
      cases hb : L 15 with
      | false => rfl
      | true => have := h.q15 hb; rw [hL] at this; simp at this
    simpa [upd, hq] using hs
  p13 := fun e => by
    have e' : L 13 = true := by simpa [upd] using e
    have := h.p13 e'; simpa [upd] using this
  p14 := fun e => by
    have e' : L 14 = true := by simpa [upd] using e
    have := h.p14 e'; simpa [upd] using this
  q7 := fun e => by
    have e' : L 7 = true := by simpa [upd] using e
    have := h.q7 e'; simpa [upd] using this
  q15 := fun e => by
    have e' : L 15 = true := by simpa [upd] using e
    have := h.q15 e'; rw [hL] at this; simp at this
  q16 := fun e => by
    have e' : L 16 = true := by simpa [upd] using e
    have := h.q16 e'; simpa [upd] using this
  q17 := fun e => by
    have e' : L 17 = true := by simpa [upd] using e
    have := h.q17 e'; simpa [upd] using this
  lt := fun j hj hl => by
    by_cases e : j = 12
    · subst e; simp only [upd, dst4, if_true]; exact hv
    · have e2 : dst4 j ≠ 6 := dst4_inj hj (by decide) e
      simp only [upd, if_neg e, if_neg e2] at hl ⊢
      exact h.lt j hj hl
  dj := fun i j hi hj hij hl hl' => by
    by_cases e : i = 12
    · subst e
      have e' : j ≠ 12 := fun e => hij e.symm
      have e2' : dst4 j ≠ 6 := dst4_inj hj (by decide) e'
      simp only [upd, if_neg e', if_neg e2'] at hl' ⊢
      simp only [dst4, if_true]
      exact fun e => hnew j hj hl' e.symm
    · by_cases e' : j = 12
      · subst e'
        have e2 : dst4 i ≠ 6 := dst4_inj hi (by decide) e
        simp only [upd, if_neg e, if_neg e2] at hl ⊢
        simp only [dst4, if_true]
        exact hnew i hi hl
      · have e2 : dst4 i ≠ 6 := dst4_inj hi (by decide) e
        have e2' : dst4 j ≠ 6 := dst4_inj hj (by decide) e'
        simp only [upd, if_neg e, if_neg e', if_neg e2, if_neg e2'] at hl hl' ⊢
        exact h.dj i j hi hj hij hl hl'
theorem Iv.s13 (h : Iv X b n w0 L f w) (hL : L 13 = false) {v : Value} (hs : ∃ g, v = .pointer (some ⟨g, 0, none⟩) ∧ b ≤ g ∧ BoxV w g 29 nilS) (hv : w0.heap.size ≤ blkOf v ∧ blkOf v < w.heap.size) (hnew : ∀ j, mk4 j = true → L j = true → blkOf (f (dst4 j)) ≠ blkOf v) : Iv X b n w0 (upd L 13 true) (upd f 7 v) w where
  bl := h.bl
  p0 := fun e => by
    have e' : L 0 = true := by simpa [upd] using e
    have := h.p0 e'; simpa [upd] using this
  p1 := fun e => by
    have e' : L 1 = true := by simpa [upd] using e
    have := h.p1 e'; simpa [upd] using this
  p2 := fun e => by
    have e' : L 2 = true := by simpa [upd] using e
    have := h.p2 e'; simpa [upd] using this
  p3 := fun e => by
    have e' : L 3 = true := by simpa [upd] using e
    have := h.p3 e'; simpa [upd] using this
  p4 := fun e => by
    have e' : L 4 = true := by simpa [upd] using e
    have := h.p4 e'; simpa [upd] using this
  p5 := fun e => by
    have e' : L 5 = true := by simpa [upd] using e
    have := h.p5 e'; simpa [upd] using this
  p6 := fun e => by
    have e' : L 6 = true := by simpa [upd] using e
    have := h.p6 e'; simpa [upd] using this
  p7 := fun e => by
    have e' : L 7 = true := by simpa [upd] using e
    have := h.p7 e'; simpa [upd] using this
  p8 := fun e => by
    have e' : L 8 = true := by simpa [upd] using e
    have := h.p8 e'; simpa [upd] using this
  p9 := fun e => by
    have e' : L 9 = true := by simpa [upd] using e
    have := h.p9 e'; simpa [upd] using this
  p10 := fun e => by
    have e' : L 10 = true := by simpa [upd] using e
    have := h.p10 e'; simpa [upd] using this
  p11 := fun e => by
    have e' : L 11 = true := by simpa [upd] using e
    have := h.p11 e'; simpa [upd] using this
  p12 := fun e => by
    have e' : L 12 = true := by simpa [upd] using e
    have := h.p12 e'; simpa [upd] using this
  p13 := fun _ => by
    have hq : L 16 = false := by
      cases hb : L 16 with
      | false => rfl
      | true => have := h.q16 hb; rw [hL] at this; simp at this
    simpa [upd, hq] using hs
  p14 := fun e => by
    have e' : L 14 = true := by simpa [upd] using e
    have := h.p14 e'; simpa [upd] using this
  q7 := fun e => by
    have e' : L 7 = true := by simpa [upd] using e
    have := h.q7 e'; simpa [upd] using this
  q15 := fun e => by
    have e' : L 15 = true := by simpa [upd] using e
    have := h.q15 e'; simpa [upd] using this
  q16 := fun e => by
    have e' : L 16 = true := by simpa [upd] using e
    have := h.q16 e'; rw [hL] at this; simp at this
  q17 := fun e => by
    have e' : L 17 = true := by simpa [upd] using e
    have := h.q17 e'; simpa [upd] using this
  lt := fun j hj hl => by
    by_cases e : j = 13
    · subst e; simp only [upd, dst4, if_true]; exact hv
    · have e2 : dst4 j ≠ 7 := dst4_inj hj (by decide) e
      simp only [upd, if_neg e, if_neg e2] at hl ⊢
      exact h.lt j hj hl
  dj := fun i j hi hj hij hl hl' => by
    by_cases e : i = 13
    · subst e
      have e' : j ≠ 13 := fun e => hij e.symm
      have e2' : dst4 j ≠ 7 := dst4_inj hj (by decide) e'
      simp only [upd, if_neg e', if_neg e2'] at hl' ⊢
      simp only [dst4, if_true]
      exact fun e => hnew j hj hl' e.symm
    · by_cases e' : j = 13
      · subst e'
        have e2 : dst4 i ≠ 7 := dst4_inj hi (by decide) e
        simp only [upd, if_neg e, if_neg e2] at hl ⊢
        simp only [dst4, if_true]
        exact hnew i hi hl
      · have e2 : dst4 i ≠ 7 := dst4_inj hi (by decide) e
        have e2' : dst4 j ≠ 7 := dst4_inj hj (by decide) e'
        simp only [upd, if_neg e, if_neg e', if_neg e2, if_neg e2'] at hl hl' ⊢
        exact h.dj i j hi hj hij hl hl'
theorem Iv.s14 (h : Iv X b n w0 L f w) (hL : L 14 = false) {v : Value} (hs : ∃ g, v = .pointer (some ⟨g, 0, none⟩) ∧ b ≤ g ∧ BoxV w g 60 nilS) (hv : w0.heap.size ≤ blkOf v ∧ blkOf v < w.heap.size) (hnew : ∀ j, mk4 j = true → L j = true → blkOf (f (dst4 j)) ≠ blkOf v) : Iv X b n w0 (upd L 14 true) (upd f 8 v) w where
  bl := h.bl
  p0 := fun e => by
    have e' : L 0 = true := by simpa [upd] using e
    have := h.p0 e'; simpa [upd] using this
  p1 := fun e => by
    have e' : L 1 = true := by simpa [upd] using e
    have := h.p1 e'; simpa [upd] using this
  p2 := fun e => by
    have e' : L 2 = true := by simpa [upd] using e
    have := h.p2 e'; simpa [upd] using this
  p3 := fun e => by
    have e' : L 3 = true := by simpa [upd] using e
    have := h.p3 e'; simpa [upd] using this
  p4 := fun e => by
    have e' : L 4 = true := by simpa [upd] using e
    have := h.p4 e'; simpa [upd] using this
  p5 := fun e => by
    have e' : L 5 = true := by simpa [upd] using e
    have := h.p5 e'; simpa [upd] using this
  p6 := fun e => by
    have e' : L 6 = true := by simpa [upd] using e
    have := h.p6 e'; simpa [upd] using this
  p7 := fun e => by
    have e' : L 7 = true := by simpa [upd] using e
    have := h.p7 e'; simpa [upd] using this
  p8 := fun e => by
    have e' : L 8 = true := by simpa [upd] using e
    have := h.p8 e'; simpa [upd] using this
  p9 := fun e => by
    have e' : L 9 = true := by simpa [upd] using e
    have := h.p9 e'; simpa [upd] using this
  p10 := fun e => by
    have e' : L 10 = true := by simpa [upd] using e
    have := h.p10 e'; simpa [upd] using this
  p11 := fun e => by
    have e' : L 11 = true := by simpa [upd] using e
    have := h.p11 e'; simpa [upd] using this
  p12 := fun e => by
    have e' : L 12 = true := by simpa [upd] using e
    have := h.p12 e'; simpa [upd] using this
  p13 := fun e => by
    have e' : L 13 = true := by simpa [upd] using e
    have := h.p13 e'; simpa [upd] using this
  p14 := fun _ => by
    have hq : L 17 = false := by
      cases hb : L 17 with
      | false => rfl
      | true => have := h.q17 hb; rw [hL] at this; simp at this
    simpa [upd, hq] using hs
  q7 := fun e => by
    have e' : L 7 = true := by simpa [upd] using e
    have := h.q7 e'; simpa [upd] using this
  q15 := fun e => by
    have e' : L 15 = true := by simpa [upd] using e
    have := h.q15 e'; simpa [upd] using this
  q16 := fun e => by
    have e' : L 16 = true := by simpa [upd] using e
    have := h.q16 e'; simpa [upd] using this
  q17 := fun e => by
    have e' : L 17 = true := by simpa [upd] using e
    have := h.q17 e'; rw [hL] at this; simp at this
  lt := fun j hj hl => by
    by_cases e : j = 14
    · subst e; simp only [upd, dst4, if_true]; exact hv
    · have e2 : dst4 j ≠ 8 := dst4_inj hj (by decide) e
      simp only [upd, if_neg e, if_neg e2] at hl ⊢
      exact h.lt j hj hl
  dj := fun i j hi hj hij hl hl' => by
    by_cases e : i = 14
    · subst e
      have e' : j ≠ 14 := fun e => hij e.symm
      have e2' : dst4 j ≠ 8 := dst4_inj hj (by decide) e'
      simp only [upd, if_neg e', if_neg e2'] at hl' ⊢
      simp only [dst4, if_true]
      exact fun e => hnew j hj hl' e.symm
    · by_cases e' : j = 14
      · subst e'
        have e2 : dst4 i ≠ 8 := dst4_inj hi (by decide) e
        simp only [upd, if_neg e, if_neg e2] at hl ⊢
        simp only [dst4, if_true]
        exact hnew i hi hl
      · have e2 : dst4 i ≠ 8 := dst4_inj hi (by decide) e
        have e2' : dst4 j ≠ 8 := dst4_inj hj (by decide) e'
        simp only [upd, if_neg e, if_neg e', if_neg e2, if_neg e2'] at hl hl' ⊢
        exact h.dj i j hi hj hij hl hl'
theorem Iv.s15 (h : Iv X b n w0 L f w) (h2 : L 2 = true) (h6 : L 6 = true) (h12 : L 12 = true) {g : Nat} (hg : f 6 = .pointer (some ⟨g, 0, none⟩)) : Iv X b n w0 (upd L 15 true) f ((w.setCell ⟨g, 0, none⟩ (f 26)).setCell ⟨g, 1, none⟩ (f 30)) :=
  have hgr : w.grownBy ((w.setCell ⟨g, 0, none⟩ (f 26)).setCell ⟨g, 1, none⟩ (f 30)) (some g) := (grown_trans' (grown_set1 w g 0 (f 26)) (grown_set1 _ g 1 (f 30)))
  have hme : w0.heap.size ≤ g ∧ g < w.heap.size := by have := h.lt 12 rfl h12; simp only [dst4, hg, blkOf] at this; exact this
  have hne : ∀ (i : Nat), mk4 i = true → i ≠ 12 → L i = true → blkOf (f (dst4 i)) ≠ g := fun i hi hn hl => by have := h.dj i 12 hi rfl hn hl h12; simp only [dst4, hg, blkOf] at this; exact this
  { bl := h.bl.grown hgr h.bl.size (fun q hq => by injection hq with hq; rw [← hq]; exact hme.1)
    p0 := fun e => by
      have e' : L 0 = true := by simpa [upd] using e
      have := h.p0 e'
      simpa [upd] using this
    p1 := fun e => by
      have e' : L 1 = true := by simpa [upd] using e
      have := h.p1 e'
      simpa [upd] using this
    p2 := fun e => by
      have e' : L 2 = true := by simpa [upd] using e
      obtain ⟨q, e1, e2⟩ := h.p2 e'
      have hq := hne 2 rfl (by decide) e'
      simp only [dst4, e1, blkOf] at hq
      exact ⟨q, e1, World.ownsRow.kept e2 hgr (.inr (fun e => by rw [e1] at e; injection e with e; exact hq e))⟩
    p3 := fun e => by
      have e' : L 3 = true := by simpa [upd] using e
      have := h.p3 e'
      simpa [upd] using this
    p4 := fun e => by
      have e' : L 4 = true := by simpa [upd] using e
      have := h.p4 e'
      simpa [upd] using this
    p5 := fun e => by
      have e' : L 5 = true := by simpa [upd] using e
      have := h.p5 e'
      simpa [upd] using this
    p6 := fun e => by
      have e' : L 6 = true := by simpa [upd] using e
      obtain ⟨q, c, e1, e2⟩ := h.p6 e'
      have hq := hne 6 rfl (by decide) e'
      simp only [dst4, e1, blkOf] at hq
      exact ⟨q, c, e1, World.ownsRow.kept e2 hgr (.inr (fun e => by rw [e1] at e; injection e with e; exact hq e))⟩
    p7 := fun e => by
      have e' : L 7 = true := by simpa [upd] using e
      have := h.p7 e'
      simpa [upd] using this
    p8 := fun e => by
      have e' : L 8 = true := by simpa [upd] using e
      obtain ⟨q, e1, e2⟩ := h.p8 e'
      have hq := hne 8 rfl (by decide) e'
      simp only [dst4, e1, blkOf] at hq
      exact ⟨q, e1, World.ownsRow.kept e2 hgr (.inr (fun e => by rw [e1] at e; injection e with e; exact hq e))⟩
    p9 := fun e => by
      have e' : L 9 = true := by simpa [upd] using e
      have := h.p9 e'
      simpa [upd] using this
    p10 := fun e => by
      have e' : L 10 = true := by simpa [upd] using e
      have := h.p10 e'
      simpa [upd] using this
    p11 := fun e => by
      have e' : L 11 = true := by simpa [upd] using e
      obtain ⟨q, e1, e2⟩ := h.p11 e'
      have hq := hne 11 rfl (by decide) e'
      simp only [dst4, e1, blkOf] at hq
      exact ⟨q, e1, World.ownsRow.kept e2 hgr (.inr (fun e => by rw [e1] at e; injection e with e; exact hq e))⟩
    p12 := fun _ => by
      obtain ⟨q, e1, e0, e2⟩ := h.p12 h12
      have : q = g := by rw [hg] at e1; injection e1 with e1; injection e1 with e1; injection e1 with e1; exact e1.symm
      subst this
      refine ⟨q, e1, e0, ?_⟩
      simp only [upd, if_true]
      exact (e2.set0 (f 26)).set1 (f 30)
    p13 := fun e => by
      have e' : L 13 = true := by simpa [upd] using e
      obtain ⟨q, e1, e0, e2⟩ := h.p13 e'
      have hq := hne 13 rfl (by decide) e'
      simp only [dst4, e1, blkOf] at hq
      refine ⟨q, e1, e0, ?_⟩
      have e3 := e2.grown hgr (fun e => by injection e with e; exact hq e)
      simpa [upd] using e3
    p14 := fun e => by
      have e' : L 14 = true := by simpa [upd] using e
      obtain ⟨q, e1, e0, e2⟩ := h.p14 e'
      have hq := hne 14 rfl (by decide) e'
      simp only [dst4, e1, blkOf] at hq
      refine ⟨q, e1, e0, ?_⟩
      have e3 := e2.grown hgr (fun e => by injection e with e; exact hq e)
      simpa [upd] using e3
    q7 := fun e => by
      have e' : L 7 = true := by simpa [upd] using e
      have := h.q7 e'
      simpa [upd] using this
    q15 := fun _ => by simp [upd, h2, h6, h12]
    q16 := fun e => by
      have e' : L 16 = true := by simpa [upd] using e
      have := h.q16 e'
      simpa [upd] using this
    q17 := fun e => by
      have e' : L 17 = true := by simpa [upd] using e
      have := h.q17 e'
      simpa [upd] using this
    lt := fun j hj hl => by
      have e : j ≠ 15 := fun e => by subst e; cases hj
      simp only [upd, if_neg e] at hl
      exact ⟨(h.lt j hj hl).1, Nat.lt_of_lt_of_le (h.lt j hj hl).2 hgr.size⟩
    dj := fun i j hi hj hij hl hl' => by
      have e : i ≠ 15 := fun e => by subst e; cases hi
      have e' : j ≠ 15 := fun e => by subst e; cases hj
      simp only [upd, if_neg e] at hl
      simp only [upd, if_neg e'] at hl'
      exact h.dj i j hi hj hij hl hl' }
theorem Iv.s16 (h : Iv X b n w0 L f w) (h8 : L 8 = true) (h13 : L 13 = true) {g : Nat} (hg : f 7 = .pointer (some ⟨g, 0, none⟩)) : Iv X b n w0 (upd L 16 true) f (w.setCell ⟨g, 0, none⟩ (f 32)) :=
  have hgr : w.grownBy (w.setCell ⟨g, 0, none⟩ (f 32)) (some g) := (grown_set1 w g 0 (f 32))
  have hme : w0.heap.size ≤ g ∧ g < w.heap.size := by have := h.lt 13 rfl h13; simp only [dst4, hg, blkOf] at this; exact this
  have hne : ∀ (i : Nat), mk4 i = true → i ≠ 13 → L i = true → blkOf (f (dst4 i)) ≠ g := fun i hi hn hl => by have := h.dj i 13 hi rfl hn hl h13; simp only [dst4, hg, blkOf] at this; exact this
  { bl := h.bl.grown hgr h.bl.size (fun q hq => by injection hq with hq; rw [← hq]; exact hme.1)
    p0 := fun e => by
      have e' : L 0 = true := by simpa [upd] using e
      have := h.p0 e'
      simpa [upd] using this
    p1 := fun e => by
      have e' : L 1 = true := by simpa [upd] using e
      have := h.p1 e'
      simpa [upd] using this
    p2 := fun e => by
      have e' : L 2 = true := by simpa [upd] using e
      obtain ⟨q, e1, e2⟩ := h.p2 e'
      have hq := hne 2 rfl (by decide) e'
      simp only [dst4, e1, blkOf] at hq
      exact ⟨q, e1, World.ownsRow.kept e2 hgr (.inr (fun e => by rw [e1] at e; injection e with e; exact hq e))⟩
    p3 := fun e => by
      have e' : L 3 = true := by simpa [upd] using e
      have := h.p3 e'
      simpa [upd] using this
    p4 := fun e => by
      have e' : L 4 = true := by simpa [upd] using e
      have := h.p4 e'
      simpa [upd] using this
    p5 := fun e => by
      have e' : L 5 = true := by simpa [upd] using e
      have := h.p5 e'
      simpa [upd] using this
    p6 := fun e => by
      have e' : L 6 = true := by simpa [upd] using e
      obtain ⟨q, c, e1, e2⟩ := h.p6 e'
      have hq := hne 6 rfl (by decide) e'
      simp only [dst4, e1, blkOf] at hq
      exact ⟨q, c, e1, World.ownsRow.kept e2 hgr (.inr (fun e => by rw [e1] at e; injection e with e; exact hq e))⟩
    p7 := fun e => by
      have e' : L 7 = true := by simpa [upd] using e
      have := h.p7 e'
      simpa [upd] using this
    p8 := fun e => by
      have e' : L 8 = true := by simpa [upd] using e
      obtain ⟨q, e1, e2⟩ := h.p8 e'
      have hq := hne 8 rfl (by decide) e'
      simp only [dst4, e1, blkOf] at hq
      exact ⟨q, e1, World.ownsRow.kept e2 hgr (.inr (fun e => by rw [e1] at e; injection e with e; exact hq e))⟩
    p9 := fun e => by
      have e' : L 9 = true := by simpa [upd] using e
      have := h.p9 e'
      simpa [upd] using this
    p10 := fun e => by
      have e' : L 10 = true := by simpa [upd] using e
      have := h.p10 e'
      simpa [upd] using this
    p11 := fun e => by
      have e' : L 11 = true := by simpa [upd] using e
      obtain ⟨q, e1, e2⟩ := h.p11 e'
      have hq := hne 11 rfl (by decide) e'
      simp only [dst4, e1, blkOf] at hq
      exact ⟨q, e1, World.ownsRow.kept e2 hgr (.inr (fun e => by rw [e1] at e; injection e with e; exact hq e))⟩
    p12 := fun e => by
      have e' : L 12 = true := by simpa [upd] using e
      obtain ⟨q, e1, e0, e2⟩ := h.p12 e'
      have hq := hne 12 rfl (by decide) e'
      simp only [dst4, e1, blkOf] at hq
      refine ⟨q, e1, e0, ?_⟩
      have e3 := e2.grown hgr (fun e => by injection e with e; exact hq e)
      simpa [upd] using e3
    p13 := fun _ => by
      obtain ⟨q, e1, e0, e2⟩ := h.p13 h13
      have : q = g := by rw [hg] at e1; injection e1 with e1; injection e1 with e1; injection e1 with e1; exact e1.symm
      subst this
      refine ⟨q, e1, e0, ?_⟩
      simp only [upd, if_true]
      exact e2.set (f 32)
    p14 := fun e => by
      have e' : L 14 = true := by simpa [upd] using e
      obtain ⟨q, e1, e0, e2⟩ := h.p14 e'
      have hq := hne 14 rfl (by decide) e'
      simp only [dst4, e1, blkOf] at hq
      refine ⟨q, e1, e0, ?_⟩
      have e3 := e2.grown hgr (fun e => by injection e with e; exact hq e)
      simpa [upd] using e3
    q7 := fun e => by
      have e' : L 7 = true := by simpa [upd] using e
      have := h.q7 e'
      simpa [upd] using this
    q15 := fun e => by
      have e' : L 15 = true := by simpa [upd] using e
      have := h.q15 e'
      simpa [upd] using this
    q16 := fun _ => by simp [upd, h8, h13]
    q17 := fun e => by
      have e' : L 17 = true := by simpa [upd] using e
      have := h.q17 e'
      simpa [upd] using this
    lt := fun j hj hl => by
      have e : j ≠ 16 := fun e => by subst e; cases hj
      simp only [upd, if_neg e] at hl
      exact ⟨(h.lt j hj hl).1, Nat.lt_of_lt_of_le (h.lt j hj hl).2 hgr.size⟩
    dj := fun i j hi hj hij hl hl' => by
      have e : i ≠ 16 := fun e => by subst e; cases hi
      have e' : j ≠ 16 := fun e => by subst e; cases hj
      simp only [upd, if_neg e] at hl
      simp only [upd, if_neg e'] at hl'
      exact h.dj i j hi hj hij hl hl' }
theorem Iv.s17 (h : Iv X b n w0 L f w) (h11 : L 11 = true) (h14 : L 14 = true) {g : Nat} (hg : f 8 = .pointer (some ⟨g, 0, none⟩)) : Iv X b n w0 (upd L 17 true) f (w.setCell ⟨g, 0, none⟩ (f 35)) :=
  have hgr : w.grownBy (w.setCell ⟨g, 0, none⟩ (f 35)) (some g) := (grown_set1 w g 0 (f 35))
  have hme : w0.heap.size ≤ g ∧ g < w.heap.size := by have := h.lt 14 rfl h14; simp only [dst4, hg, blkOf] at this; exact this
  have hne : ∀ (i : Nat), mk4 i = true → i ≠ 14 → L i = true → blkOf (f (dst4 i)) ≠ g := fun i hi hn hl => by have := h.dj i 14 hi rfl hn hl h14; simp only [dst4, hg, blkOf] at this; exact this
  { bl := h.bl.grown hgr h.bl.size (fun q hq => by injection hq with hq; rw [← hq]; exact hme.1)
    p0 := fun e => by
      have e' : L 0 = true := by simpa [upd] using e
      have := h.p0 e'
      simpa [upd] using this
    p1 := fun e => by
      have e' : L 1 = true := by simpa [upd] using e
      have := h.p1 e'
      simpa [upd] using this
    p2 := fun e => by
      have e' : L 2 = true := by simpa [upd] using e
      obtain ⟨q, e1, e2⟩ := h.p2 e'
      have hq := hne 2 rfl (by decide) e'
      simp only [dst4, e1, blkOf] at hq
      exact ⟨q, e1, World.ownsRow.kept e2 hgr (.inr (fun e => by rw [e1] at e; injection e with e; exact hq e))⟩
    p3 := fun e => by
      have e' : L 3 = true := by simpa [upd] using e
      have := h.p3 e'
      simpa [upd] using this
    p4 := fun e => by
      have e' : L 4 = true := by simpa [upd] using e
      have := h.p4 e'
      simpa [upd] using this
    p5 := fun e => by
      have e' : L 5 = true := by simpa [upd] using e
      have := h.p5 e'
      simpa [upd] using this
    p6 := fun e => by
      have e' : L 6 = true := by simpa [upd] using e
      obtain ⟨q, c, e1, e2⟩ := h.p6 e'
      have hq := hne 6 rfl (by decide) e'
      simp only [dst4, e1, blkOf] at hq
      exact ⟨q, c, e1, World.ownsRow.kept e2 hgr (.inr (fun e => by rw [e1] at e; injection e with e; exact hq e))⟩
    p7 := fun e => by
      have e' : L 7 = true := by simpa [upd] using e
      have := h.p7 e'
      simpa [upd] using this
    p8 := fun e => by
      have e' : L 8 = true := by simpa [upd] using e
      obtain ⟨q, e1, e2⟩ := h.p8 e'
      have hq := hne 8 rfl (by decide) e'
      simp only [dst4, e1, blkOf] at hq
      exact ⟨q, e1, World.ownsRow.kept e2 hgr (.inr (fun e => by rw [e1] at e; injection e with e; exact hq e))⟩
    p9 := fun e => by
      have e' : L 9 = true := by simpa [upd] using e
      have := h.p9 e'
      simpa [upd] using this
    p10 := fun e => by
      have e' : L 10 = true := by simpa [upd] using e
      have := h.p10 e'
      simpa [upd] using this
    p11 := fun e => by
      have e' : L 11 = true := by simpa [upd] using e
      obtain ⟨q, e1, e2⟩ := h.p11 e'
      have hq := hne 11 rfl (by decide) e'
      simp only [dst4, e1, blkOf] at hq
      exact ⟨q, e1, World.ownsRow.kept e2 hgr (.inr (fun e => by rw [e1] at e; injection e with e; exact hq e))⟩
    p12 := fun e => by
      have e' : L 12 = true := by simpa [upd] using e
      obtain ⟨q, e1, e0, e2⟩ := h.p12 e'
      have hq := hne 12 rfl (by decide) e'
      simp only [dst4, e1, blkOf] at hq
      refine ⟨q, e1, e0, ?_⟩
      have e3 := e2.grown hgr (fun e => by injection e with e; exact hq e)
      simpa [upd] using e3
    p13 := fun e => by
      have e' : L 13 = true := by simpa [upd] using e
      obtain ⟨q, e1, e0, e2⟩ := h.p13 e'
      have hq := hne 13 rfl (by decide) e'
      simp only [dst4, e1, blkOf] at hq
      refine ⟨q, e1, e0, ?_⟩
      have e3 := e2.grown hgr (fun e => by injection e with e; exact hq e)
      simpa [upd] using e3
    p14 := fun _ => by
      obtain ⟨q, e1, e0, e2⟩ := h.p14 h14
      have : q = g := by rw [hg] at e1; injection e1 with e1; injection e1 with e1; injection e1 with e1; exact e1.symm
      subst this
      refine ⟨q, e1, e0, ?_⟩
      simp only [upd, if_true]
      exact e2.set (f 35)
    q7 := fun e => by
      have e' : L 7 = true := by simpa [upd] using e
      have := h.q7 e'
      simpa [upd] using this
    q15 := fun e => by
      have e' : L 15 = true := by simpa [upd] using e
      have := h.q15 e'
      simpa [upd] using this
    q16 := fun e => by
      have e' : L 16 = true := by simpa [upd] using e
      have := h.q16 e'
      simpa [upd] using this
    q17 := fun _ => by simp [upd, h11, h14]
    lt := fun j hj hl => by
      have e : j ≠ 17 := fun e => by subst e; cases hj
      simp only [upd, if_neg e] at hl
      exact ⟨(h.lt j hj hl).1, Nat.lt_of_lt_of_le (h.lt j hj hl).2 hgr.size⟩
    dj := fun i j hi hj hij hl hl' => by
      have e : i ≠ 17 := fun e => by subst e; cases hi
      have e' : j ≠ 17 := fun e => by subst e; cases hj
      simp only [upd, if_neg e] at hl
      simp only [upd, if_neg e'] at hl'
      exact h.dj i j hi hj hij hl hl' }
end
end Go.Proofs.Ytgemcjcghnpmdaa
