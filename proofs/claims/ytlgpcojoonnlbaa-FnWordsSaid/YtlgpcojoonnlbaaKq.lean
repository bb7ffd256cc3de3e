/- What a long statement keeps on its way: lists of whatever kind. -/
import Derived.Test.YtlgpcojoonnlbaaShapes
namespace Go.Proofs.Ytlgpcojoonnlbaa
open Go.RowKit
structure Kq (w0 w : World) (rs : List (Option Addr × Nat × List Value)) : Prop where
  below : Below w0.heap.size w0 w
  row : ∀ r ∈ rs, Rd w w.heap.size r.1 r.2.1 r.2.2
section
variable {w0 w w' : World} {rs : List (Option Addr × Nat × List Value)}
theorem Kq.refl (w : World) : Kq w w [] := ⟨Below.refl _ _, by simp⟩
theorem Kq.next (h : Kq w0 w rs) (hb : Below w.heap.size w w') : Kq w0 w' rs :=
  ⟨h.below.trans (hb.mono h.below.size), fun r hm => ((h.row r hm).below hb (Nat.le_refl _)).more hb.size⟩
theorem Kq.alloc (h : Kq w0 w rs) (o : Obj) : Kq w0 (w.alloc o) rs := h.next ((Below.refl _ _).alloc (Nat.le_refl _) _)
theorem Kq.drewN (h : Kq w0 w rs) (q : Nat) : Kq w0 (w.drewN q) rs := h.next (below_drewN' q)
theorem Kq.add (h : Kq w0 w rs) {A : Option Addr} {n : Nat} {xs : List Value} (hr : Rd w w.heap.size A n xs) : Kq w0 w ((A, n, xs) :: rs) :=
  ⟨h.below, fun r hm => by rcases List.mem_cons.1 hm with rfl | hm; exact hr; exact h.row r hm⟩
theorem Kq.le (h : Kq w0 w rs) : w0.heap.size ≤ w.heap.size := h.below.size
end
theorem Own.shapeV {w : World} {base : Nat} {e : TypeId} {v : Value} {xs : List Value} {n : Nat} (h : Own w base e v xs) (hn : xs.length = n) : ∃ A c, v = .slice A n c ∧ n ≤ c ∧ c ≤ maxLen ∧ Rd w w.heap.size A n xs := by
  subst hn
  obtain ⟨A, c, rfl, h1, h2⟩ := h.shape
  exact ⟨A, c, rfl, h1, h2, h.rd.2⟩
theorem Rd.take {w : World} {B n m : Nat} {A : Option Addr} {xs : List Value} (h : Rd w B A n xs) (hm : m ≤ n) : Rd w B A m (xs.take m) := by
  refine ⟨by rw [List.length_take]; have := h.1; omega, fun hn => ?_⟩
  obtain ⟨b, off, e, hb, hc⟩ := h.2 (by omega)
  refine ⟨b, off, e, hb, fun j u hu => hc j u ?_⟩
  rw [List.getElem?_take] at hu
  split at hu
  · exact hu
  · cases hu
end Go.Proofs.Ytlgpcojoonnlbaa
