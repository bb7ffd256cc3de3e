/- Texts that stand side by side: Fin, Floats, ShapesF. -/
import Derived.Test.YtlgpcojoonnlbaaFloat
import Derived.Test.YtlgpcojoonnlbaaProg
import Derived.Deep.RegionWith
import Derived.BigRegion
import Derived.Deep.RegionHeld3
import Derived.Test.YtlgpcojoonnlbaaShapes
section
/- Tests on float32: finite, greater than 0, at least 0. -/
namespace Go.Proofs.Ytlgpcojoonnlbaa
open Go.RowKit

/-- Comparisons, by the bits. -/
def flt (k : FloatKind) (x y : Nat) : Bool := k.format.order x y == some .lt
def fgt (k : FloatKind) (x y : Nat) : Bool := k.format.order x y == some .gt
def feq (k : FloatKind) (x y : Nat) : Bool := k.format.order x y == some .eq
def fle (k : FloatKind) (x y : Nat) : Bool := k.format.order x y == some .lt || k.format.order x y == some .eq
def fge (k : FloatKind) (x y : Nat) : Bool := k.format.order x y == some .gt || k.format.order x y == some .eq
/-- Whether a float32 is finite. -/
def finB (x : Nat) : Bool := feq .f32 (fop .sub .f32 x x) 0
theorem finB_cn (x : Nat) : finB (cn .f32 x) = finB x := by unfold finB; rw [fop_cn]
theorem finB_congr {x y : Nat} (h : cn .f32 x = cn .f32 y) : finB x = finB y := by rw [← finB_cn, h, finB_cn]
theorem finB_not_nan {x : Nat} (h : finB x = true) : isNaNB .f32 x = false := by
  rcases hx : isNaNB .f32 x with _ | _
  · rfl
  · exfalso
    unfold finB feq fop at h
    rw [floatBits_nan_l hx, order_nan_l (by exact qnan_isNaN .f32)] at h
    cases h
theorem order_some {k : FloatKind} {x y : Nat} (hx : isNaNB k x = false) (hy : isNaNB k y = false) : ∃ o, k.format.order x y = some o := by
  have hx' : (k.format.read x).isNaN = false := hx
  have hy' : (k.format.read y).isNaN = false := hy
  unfold Ieee.Format.order
  cases h1 : k.format.read x <;> rw [h1] at hx' <;> simp [Ieee.Datum.isNaN] at hx' <;> cases h2 : k.format.read y <;> rw [h2] at hy' <;> simp [Ieee.Datum.isNaN] at hy' <;> simp [Ieee.Datum.order]
theorem zero_not_nan (k : FloatKind) : isNaNB k 0 = false := by cases k <;> decide
/-- Finite and greater than 0. -/
def posB (x : Nat) : Bool := finB x && fgt .f32 x 0
/-- Finite and at least 0. -/
def nonnegB (x : Nat) : Bool := finB x && fge .f32 x 0
theorem posB_congr {x y : Nat} (h : cn .f32 x = cn .f32 y) : posB x = posB y := by unfold posB fgt; rw [finB_congr h, order_congr h rfl]
theorem nonnegB_congr {x y : Nat} (h : cn .f32 x = cn .f32 y) : nonnegB x = nonnegB y := by unfold nonnegB fge; rw [finB_congr h, order_congr h rfl]
theorem posB_not_le {x : Nat} (h : finB x = true) : fle .f32 x 0 = !fgt .f32 x 0 := by
  obtain ⟨o, ho⟩ := order_some (finB_not_nan h) (zero_not_nan .f32)
  unfold fle fgt
  rw [ho]
  cases o <;> rfl
theorem nonnegB_not_lt {x : Nat} (h : finB x = true) : flt .f32 x 0 = !fge .f32 x 0 := by
  obtain ⟨o, ho⟩ := order_some (finB_not_nan h) (zero_not_nan .f32)
  unfold flt fge
  rw [ho]
  cases o <;> rfl

theorem quiet_refl (w : World) : ∃ q, w = w.drewN q := ⟨0, rfl⟩

theorem isFin_any (x : Nat) (w : World) : Calls Try.prog 45 #[.float .f32 x] w fun e w' => e = .returned (.bool (finB x)) ∧ ∃ q, w' = w.drewN q := by
  go_enter Try.func45, Try.ntmps45
  go_wp2_with (refine wpList_fop _ rfl .sub _ _ _ _ rfl rfl .f32 _ _ rfl rfl ?_; intro r q hr)
  go_ret
  refine ⟨ret_bool ?_, _, rfl⟩
  unfold finB feq
  rw [order_l hr.out]
theorem notPos_any (x : Nat) (w : World) : Calls Try.prog 44 #[.float .f32 x] w fun e w' => e = .returned (.bool (!posB x)) ∧ ∃ q, w' = w.drewN q := by
  by_cases hf : finB x = true
  · have hfin : Hid ((!posB x) = fle .f32 x 0) := by show _ = _; unfold posB; rw [posB_not_le hf, hf]; rfl
    go_enter Try.func44, Try.ntmps44
    go_wp2_with fail
    refine (isFin_any _ _).mono ?_
    rintro e w1 ⟨rfl, q, rfl⟩
    rw [hf]
    go_wp2
    go_ret
    exact ⟨ret_bool (by rw [hfin.out]; rfl), _, rfl⟩
  · have hf' : finB x = false := by simpa using hf
    have hfin : Hid ((!posB x) = true) := by show _ = _; unfold posB; rw [hf']; rfl
    clear hf
    go_enter Try.func44, Try.ntmps44
    go_wp2_with fail
    refine (isFin_any _ _).mono ?_
    rintro e w1 ⟨rfl, q, rfl⟩
    rw [hf']
    go_wp2
    go_ret
    exact ⟨ret_bool hfin.out.symm, _, rfl⟩
theorem notFin_any (x : Nat) (w : World) : Calls Try.prog 46 #[.float .f32 x] w fun e w' => e = .returned (.bool (!finB x)) ∧ ∃ q, w' = w.drewN q := by
  go_enter Try.func46, Try.ntmps46
  go_wp2_with fail
  refine (isFin_any _ _).mono ?_
  rintro e w1 ⟨rfl, q, rfl⟩
  go_wp2
  go_ret
  exact ⟨rfl, _, rfl⟩
end Go.Proofs.Ytlgpcojoonnlbaa
end
section
/- The helpers of the statements on float32 and lists of it. -/
namespace Go.Proofs.Ytlgpcojoonnlbaa
open Go.RowKit
set_option maxRecDepth 100000
attribute [local go_sem] run_store_float'

theorem info_f32 : (Try.prog.info? 45).map (fun i => (i.zero, i.size, i.bytes)) = some (some (.float .f32 0), 1, 4) := by kernel_rfl

end Go.Proofs.Ytlgpcojoonnlbaa
end
section
/- The frames of the statements on float32. -/
namespace Go.Proofs.Ytlgpcojoonnlbaa
open Go.RowKit
def FnFl_B (f : Nat) (r : List Nat → Bool) : Prop :=
  ∀ (A : Option Addr) (n c B : Nat) (xs : List Nat) (w : World), Rd w B A n (f32s xs) → B ≤ w.heap.size → xs.length ≤ 1048576 → n ≤ c ∧ c ≤ maxLen → Calls Try.prog f #[.slice A n c] w (GaveB w (r xs))
def GaveFB (w : World) (r : Option Nat) (e : Ending) (w' : World) : Prop :=
  ∃ (x : Nat) (ok : Bool), e = .returned (.tuple #[.float .f32 x, .bool ok]) ∧ Hid (ok = r.isSome) ∧ Hid (cn .f32 x = r.getD 0) ∧ Below w.heap.size w w'
def FnLFl_FB (f : Nat) (r : List Int → List Nat → Option Nat) : Prop :=
  ∀ (A : Option Addr) (n c B : Nat) (xs : List Int) (A' : Option Addr) (n' c' B' : Nat) (ys : List Nat) (w : World), Rd w B A n (i64s xs) → B ≤ w.heap.size → xs.length ≤ 1048576 → Fit xs → n ≤ c ∧ c ≤ maxLen →
    Rd w B' A' n' (f32s ys) → B' ≤ w.heap.size → ys.length ≤ 1048576 → n' ≤ c' ∧ c' ≤ maxLen → Calls Try.prog f #[.slice A n c, .slice A' n' c'] w (GaveFB w (r xs ys))
def FnNNL_FB (f : Nat) (r : Int → Int → List Int → Option Nat) : Prop :=
  ∀ (a b : Int) (A : Option Addr) (n c B : Nat) (xs : List Int) (w : World), (-9223372036854775808 ≤ a ∧ a ≤ 9223372036854775807) → (-9223372036854775808 ≤ b ∧ b ≤ 9223372036854775807) → Rd w B A n (i64s xs) → B ≤ w.heap.size → xs.length ≤ 1048576 → Fit xs → n ≤ c ∧ c ≤ maxLen → Calls Try.prog f #[.int .i64 a, .int .i64 b, .slice A n c] w (GaveFB w (r a b xs))
end Go.Proofs.Ytlgpcojoonnlbaa
end
