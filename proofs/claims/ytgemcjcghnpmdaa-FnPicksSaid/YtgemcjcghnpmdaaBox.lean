/- A block that holds one value. -/
import Derived.Test.YtgemcjcghnpmdaaNest
namespace Go.Proofs.Ytgemcjcghnpmdaa
open Go.RowKit
/-- Block g holds one value. -/
def BoxV (w : World) (g : Nat) (T : TypeId) (v : Value) : Prop := w.heap[g]? = some (.cells #[v] T (0, 0))
section
variable {w w' : World} {g : Nat} {T : TypeId} {v : Value}
theorem BoxV.lt (h : BoxV w g T v) : g < w.heap.size := (Array.getElem?_eq_some_iff.1 h).1
theorem BoxV.c0 (h : BoxV w g T v) : w.cell? ⟨g, 0, none⟩ = some v := cell_of_row w g 0 _ T (0, 0) h
theorem BoxV.fz (h : BoxV w g T v) (i : Nat) : w.frozen? ⟨g, i, none⟩ = false := by
  unfold BoxV at h
  simp [World.frozen?, h]
theorem BoxV.below {B : Nat} (h : BoxV w g T v) (hb : Below B w w') (hg : g < B) : BoxV w' g T v := (hb.block g hg).trans h
theorem BoxV.grown {row : Option Nat} (h : BoxV w g T v) (hb : w.grownBy w' row) (hg : some g ≠ row) : BoxV w' g T v := (hb.block g h.lt hg).trans h
theorem BoxV.chg {P : Nat → Prop} (h : BoxV w g T v) (hc : Chg P w w') (hP : ¬ P g) : BoxV w' g T v := (hc.block g h.lt hP).trans h
theorem BoxV.drewN (h : BoxV w g T v) (n : Nat) : BoxV (w.drewN n) g T v := h
theorem BoxV.alloc (h : BoxV w g T v) (o : Obj) : BoxV (w.alloc o) g T v := (Below.heap_alloc w o g h.lt).trans h
theorem BoxV.new (w : World) (T : TypeId) (v : Value) : BoxV (w.alloc (.cells #[v] T)) w.heap.size T v := heap_alloc_new w _
theorem BoxV.far (h : BoxV w g T v) {p : Addr} (hp : g ≠ p.block) (u : Value) : BoxV (w.setCell p u) g T v := (Below.heap_setCell w p u g hp).trans h
theorem BoxV.set (h : BoxV w g T v) (u : Value) : BoxV (w.setCell ⟨g, 0, none⟩ u) g T u := by
  unfold BoxV at h ⊢
  simp [World.setCell, Array.getElem?_modify, h]
end
end Go.Proofs.Ytgemcjcghnpmdaa
