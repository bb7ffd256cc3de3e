/- What a long statement keeps on its way: blocks, and lists of whatever kind. -/
import Derived.Test.YtijafnejdibdlaaGreatDoorShapes
namespace Go.Proofs.YtijafnejdibdlaaGreatDoor
open Go.RowKit
structure Kx (w0 w : World) (bs : List (Nat × Obj)) (rs : List (Option Addr × Nat × List Value)) : Prop where
  below : Below w0.heap.size w0 w
  blk : ∀ b ∈ bs, w.heap[b.1]? = some b.2
  row : ∀ r ∈ rs, Rd w w.heap.size r.1 r.2.1 r.2.2
section
variable {w0 w w' : World} {bs : List (Nat × Obj)} {rs : List (Option Addr × Nat × List Value)}
theorem Kx.refl (w : World) : Kx w w [] [] := ⟨Below.refl _ _, by simp, by simp⟩
theorem Kx.next (h : Kx w0 w bs rs) (hb : Below w.heap.size w w') : Kx w0 w' bs rs :=
  ⟨h.below.trans (hb.mono h.below.size), fun b hm => (hb.block b.1 (Array.getElem?_eq_some_iff.1 (h.blk b hm)).1).trans (h.blk b hm), fun r hm => ((h.row r hm).below hb (Nat.le_refl _)).more hb.size⟩
theorem Kx.alloc (h : Kx w0 w bs rs) (o : Obj) : Kx w0 (w.alloc o) bs rs := h.next ((Below.refl _ _).alloc (Nat.le_refl _) _)
theorem Kx.drewN (h : Kx w0 w bs rs) (q : Nat) : Kx w0 (w.drewN q) bs rs := h.next (below_drewN' q)
theorem Kx.push (h : Kx w0 w bs rs) (o : Obj) : Kx w0 (w.alloc o) ((w.heap.size, o) :: bs) rs := by
  have k := h.alloc o
  refine ⟨k.below, fun b hm => ?_, k.row⟩
  rcases List.mem_cons.1 hm with rfl | hm
  · exact heap_alloc_new w o
  · exact k.blk b hm
theorem Kx.add (h : Kx w0 w bs rs) {A : Option Addr} {n : Nat} {xs : List Value} (hr : Rd w w.heap.size A n xs) : Kx w0 w bs ((A, n, xs) :: rs) :=
  ⟨h.below, h.blk, fun r hm => by rcases List.mem_cons.1 hm with rfl | hm; exact hr; exact h.row r hm⟩
theorem Kx.le (h : Kx w0 w bs rs) : w0.heap.size ≤ w.heap.size := h.below.size
end
theorem Own.shapeV {w : World} {base : Nat} {e : TypeId} {v : Value} {xs : List Value} {n : Nat} (h : Own w base e v xs) (hn : xs.length = n) : ∃ A c, v = .slice A n c ∧ n ≤ c ∧ c ≤ maxLen ∧ Rd w w.heap.size A n xs := by
  subst hn
  obtain ⟨A, c, rfl, h1, h2⟩ := h.shape
  exact ⟨A, c, rfl, h1, h2, h.rd.2⟩
end Go.Proofs.YtijafnejdibdlaaGreatDoor
