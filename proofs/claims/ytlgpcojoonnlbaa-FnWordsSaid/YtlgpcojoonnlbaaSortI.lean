/- slices.Sort of an owned list of int64: from the shelf's contract. -/
import Derived.Test.YtlgpcojoonnlbaaSortLayYtlgpcojoonnlbaa
import Derived.Test.YtlgpcojoonnlbaaRange
import Derived.Test.YtlgpcojoonnlbaaShapes
import Derived.Sort.OwnSortedInts
namespace Go.Proofs.Ytlgpcojoonnlbaa
open Go.RowKit Go.Sort
def sortedI (xs : List Int) : List Int := xs.mergeSort fun x y => decide (x ≤ y)
theorem sortedI_len (xs : List Int) : (sortedI xs).length = xs.length := by simp [sortedI]
theorem sortI_any (A : Option Addr) (n c base : Nat) (xs : List Int) (w : World) (h : Own w base 2 (.slice A n c) (i64s xs)) (hn : xs.length ≤ 1048576) :
    Calls Try.prog 30 #[.slice A n c] w fun e w' => e = .returned (.tuple #[]) ∧ Own w' base 2 (.slice A n c) (i64s (sortedI xs)) ∧ w.grownBy w' (Value.ownBlock (.slice A n c)) := by
  have hl : n = xs.length := by have := h.rd.1; rwa [i64s_length] at this
  subst hl
  have h' := h
  unfold Own at h'
  rw [i64s_length] at h'
  rcases h'.2 with ⟨hv, h0⟩ | ⟨g, cap, cur, hv, hbase, hb, h1, h2, h3, h4⟩
  · simp only [Value.slice.injEq] at hv
    obtain ⟨rfl, hx, rfl⟩ := hv
    have hnil : xs = [] := List.length_eq_zero_iff.1 (by omega)
    subst hnil
    refine (Go.Proofs.AnyM.slices_Sort_int_none Try.mSort none 0 w).mono ?_
    rintro e w' ⟨rfl, rfl⟩
    exact ⟨rfl, by have e : sortedI [] = [] := by simp [sortedI]
                   rw [e]; exact h, World.grownBy.refl _ _⟩
  · simp only [Value.slice.injEq] at hv
    obtain ⟨rfl, -, rfl⟩ := hv
    have hlt : g < w.heap.size := (Array.getElem?_eq_some_iff.1 hb).1
    rw [Nat.mul_one] at h4
    have hH := Go.holds_of_blockI hb (ss := xs) h4
    refine (Go.Proofs.AnyM.slices_Sort_int Try.mSort g 0 c xs w hH hlt (by omega)).mono ?_
    rintro e w' ⟨rfl, n, os, rfl⟩
    refine ⟨rfl, ?_, ?_⟩
    · have := Go.ownsRow_sortedI (n := n) (os := os) (ts := sortedI xs) (ss := xs) (sortedI_len xs) hbase hb h1 h2 h3
      unfold Own
      rw [i64s_length, sortedI_len]
      exact this
    · exact Go.grownBy_sortedI _
end Go.Proofs.Ytlgpcojoonnlbaa
