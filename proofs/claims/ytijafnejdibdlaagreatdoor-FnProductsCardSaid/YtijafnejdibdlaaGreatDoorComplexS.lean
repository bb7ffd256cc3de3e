/- Lists of complex64: the helpers of the statements. -/
import Derived.Test.YtijafnejdibdlaaGreatDoorComplex
import Derived.Test.YtijafnejdibdlaaGreatDoorShapes
namespace Go.Proofs.YtijafnejdibdlaaGreatDoor
open Go.RowKit
set_option maxRecDepth 100000
def c64s (xs : List (Nat × Nat)) : List Value := xs.map fun p => Value.complex .f32 p.1 p.2
@[simp] theorem c64s_length (xs : List (Nat × Nat)) : (c64s xs).length = xs.length := by simp [c64s]
theorem c64s_snoc (xs : List (Nat × Nat)) (x : Nat × Nat) : c64s (xs ++ [x]) = c64s xs ++ [.complex .f32 x.1 x.2] := by simp [c64s]
theorem c64s_get? {xs : List (Nat × Nat)} {k : Nat} {u : Value} (h : (c64s xs)[k]? = some u) : ∃ x y, u = .complex .f32 x y ∧ xs[k]? = some (x, y) := by
  simp only [c64s, List.getElem?_map, Option.map_eq_some_iff] at h
  obtain ⟨x, hx, rfl⟩ := h
  exact ⟨x.1, x.2, rfl, hx⟩
theorem info_c64 : (Tryz.prog.info? 24).map (fun i => (i.zero, i.size, i.bytes)) = some (some (.complex .f32 0 0), 1, 8) := by kernel_rfl
theorem Rd.atC {w : World} {B n k : Nat} {A : Option Addr} {xs : List (Nat × Nat)} (h : Rd w B A n (c64s xs)) (hk : k < n) :
    ∃ (b off x y : Nat), A = some ⟨b, off, none⟩ ∧ b < B ∧ Hid (xs[k]? = some (x, y)) ∧ w.cell? ⟨b, off + k, none⟩ = some (.complex .f32 x y) := by
  obtain ⟨b, off, u, hA, hb, hu, hc⟩ := h.at_ hk
  obtain ⟨x, y, rfl, hx⟩ := c64s_get? hu
  exact ⟨b, off, x, y, hA, hb, hx, hc⟩
theorem Rd.lenC {w : World} {B n : Nat} {A : Option Addr} {xs : List (Nat × Nat)} (h : Rd w B A n (c64s xs)) : Hid (xs.length = n) := by
  have := h.len; rw [c64s_length] at this; exact this
theorem Own.shapeC {w : World} {base : Nat} {e : TypeId} {v : Value} {xs : List (Nat × Nat)} (h : Own w base e v (c64s xs)) : ∃ A c, v = .slice A xs.length c ∧ Hid (xs.length ≤ c ∧ c ≤ maxLen) := by
  obtain ⟨A, c, rfl, h1, h2⟩ := h.shape
  exact ⟨A, c, by rw [c64s_length], by rw [c64s_length] at h1; exact ⟨h1, h2⟩⟩
theorem Own.rdC {w : World} {base : Nat} {e : TypeId} {A : Option Addr} {n c : Nat} {xs : List (Nat × Nat)} (h : Own w base e (.slice A n c) (c64s xs)) : Rd w w.heap.size A xs.length (c64s xs) := by
  have := h.rd.2
  rwa [c64s_length] at this
/-- Both parts, one NaN for all. -/
def cn2 (p : Nat × Nat) : Nat × Nat := (cn .f32 p.1, cn .f32 p.2)
/-- The k-th mark. -/
def markC (k : Nat) : Nat := (floatToFloatBits .f64 (floatOfInt .f64 (k : Int)) .f32).getD 0
theorem mark_run : ∀ k : Nat, k < 300 → floatToFloatBits .f64 (floatOfInt .f64 (k : Int)) .f32 = some (markC k) := by decide +kernel
theorem mark_num : ∀ k : Nat, k < 300 → isNaNB .f32 (markC k) = false := by decide +kernel
theorem one_run : floatToFloatBits .f64 4607182418800017408 .f32 = some 1065353216 := by decide +kernel
def marksC (k n : Nat) : List (Nat × Nat) := (List.range n).map fun i => (markC (k + i), 1065353216)
theorem marksC_len (k n : Nat) : (marksC k n).length = n := by simp [marksC]
theorem marksC_get (k n i : Nat) (h : i < n) : (marksC k n)[i]? = some (markC (k + i), 1065353216) := by simp [marksC, h]
theorem run_mark {P : Program} (src dst : TypeId) (hs : (P.underlying src).isSome = true) (hd : P.underlying dst = some (.complex .f32)) (w : World) (k : Nat) (hk : k < 300) :
    (convert src dst (.complex .f64 (floatOfInt .f64 (k : Int)) 4607182418800017408)).run P w = .ok (.complex .f32 (markC k) 1065353216) w :=
  run_convert_complex w src dst .f64 .f32 _ _ _ _ hs hd (by unfold cConvBits; rw [mark_run k hk, one_run]; rfl)
end Go.Proofs.YtijafnejdibdlaaGreatDoor
