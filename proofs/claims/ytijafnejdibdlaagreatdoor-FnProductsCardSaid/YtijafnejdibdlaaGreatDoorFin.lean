/- Tests on float32: finite, greater than 0, at least 0. -/
import Derived.Test.YtijafnejdibdlaaGreatDoorFloat
import Derived.Test.YtijafnejdibdlaaGreatDoorProg
namespace Go.Proofs.YtijafnejdibdlaaGreatDoor
open Go.RowKit

/-- Comparisons, by the bits. -/
def flt (k : FloatKind) (x y : Nat) : Bool := k.format.order x y == some .lt
def fgt (k : FloatKind) (x y : Nat) : Bool := k.format.order x y == some .gt
def feq (k : FloatKind) (x y : Nat) : Bool := k.format.order x y == some .eq
def fle (k : FloatKind) (x y : Nat) : Bool := k.format.order x y == some .lt || k.format.order x y == some .eq
def fge (k : FloatKind) (x y : Nat) : Bool := k.format.order x y == some .gt || k.format.order x y == some .eq
/-- Whether a float32 is finite. -/
def finB (x : Nat) : Bool := feq .f32 (fop .sub .f32 x x) 0
theorem finB_cn (x : Nat) : finB (cn .f32 x) = finB x := by unfold finB; rw [fop_cn]
theorem finB_congr {x y : Nat} (h : cn .f32 x = cn .f32 y) : finB x = finB y := by rw [← finB_cn, h, finB_cn]
theorem finB_not_nan {x : Nat} (h : finB x = true) : isNaNB .f32 x = false := by
  rcases hx : isNaNB .f32 x with _ | _
  · rfl
  · exfalso
    unfold finB feq fop at h
    rw [floatBits_nan_l hx, order_nan_l (by exact qnan_isNaN .f32)] at h
    cases h
theorem order_some {k : FloatKind} {x y : Nat} (hx : isNaNB k x = false) (hy : isNaNB k y = false) : ∃ o, k.format.order x y = some o := by
  have hx' : (k.format.read x).isNaN = false := hx
  have hy' : (k.format.read y).isNaN = false := hy
  unfold Ieee.Format.order
  cases h1 : k.format.read x <;> rw [h1] at hx' <;> simp [Ieee.Datum.isNaN] at hx' <;> cases h2 : k.format.read y <;> rw [h2] at hy' <;> simp [Ieee.Datum.isNaN] at hy' <;> simp [Ieee.Datum.order]
theorem zero_not_nan (k : FloatKind) : isNaNB k 0 = false := by cases k <;> decide
/-- Finite and greater than 0. -/
def posB (x : Nat) : Bool := finB x && fgt .f32 x 0
/-- Finite and at least 0. -/
def nonnegB (x : Nat) : Bool := finB x && fge .f32 x 0
theorem posB_congr {x y : Nat} (h : cn .f32 x = cn .f32 y) : posB x = posB y := by unfold posB fgt; rw [finB_congr h, order_congr h rfl]
theorem nonnegB_congr {x y : Nat} (h : cn .f32 x = cn .f32 y) : nonnegB x = nonnegB y := by unfold nonnegB fge; rw [finB_congr h, order_congr h rfl]
theorem posB_not_le {x : Nat} (h : finB x = true) : fle .f32 x 0 = !fgt .f32 x 0 := by
  obtain ⟨o, ho⟩ := order_some (finB_not_nan h) (zero_not_nan .f32)
  unfold fle fgt
  rw [ho]
  cases o <;> rfl
theorem nonnegB_not_lt {x : Nat} (h : finB x = true) : flt .f32 x 0 = !fge .f32 x 0 := by
  obtain ⟨o, ho⟩ := order_some (finB_not_nan h) (zero_not_nan .f32)
  unfold flt fge
  rw [ho]
  cases o <;> rfl

theorem quiet_refl (w : World) : ∃ q, w = w.drewN q := ⟨0, rfl⟩

theorem isFin_any (x : Nat) (w : World) : Calls Tryz.prog 66 #[.float .f32 x] w fun e w' => e = .returned (.bool (finB x)) ∧ ∃ q, w' = w.drewN q := by
  go_enter Tryz.func66, Tryz.ntmps66
  go_wp2_with (refine wpList_fop _ rfl .sub _ _ _ _ rfl rfl .f32 _ _ rfl rfl ?_; intro r q hr)
  go_ret
  refine ⟨ret_bool ?_, _, rfl⟩
  unfold finB feq
  rw [order_l hr.out]
theorem l01Fin_any (x : Nat) (w : World) : Calls Tryz.prog 50 #[.float .f32 x] w fun e w' => e = .returned (.bool (finB x)) ∧ ∃ q, w' = w.drewN q := by
  go_enter Tryz.func50, Tryz.ntmps50
  go_wp2_with (refine wpList_fop _ rfl .sub _ _ _ _ rfl rfl .f32 _ _ rfl rfl ?_; intro r q hr)
  go_ret
  refine ⟨ret_bool ?_, _, rfl⟩
  unfold finB feq
  rw [order_l hr.out]
theorem notFin_any (x : Nat) (w : World) : Calls Tryz.prog 65 #[.float .f32 x] w fun e w' => e = .returned (.bool (!finB x)) ∧ ∃ q, w' = w.drewN q := by
  go_enter Tryz.func65, Tryz.ntmps65
  go_wp2_with fail
  refine (isFin_any _ _).mono ?_
  rintro e w1 ⟨rfl, q, rfl⟩
  go_wp2
  go_ret
  exact ⟨rfl, _, rfl⟩
end Go.Proofs.YtijafnejdibdlaaGreatDoor
