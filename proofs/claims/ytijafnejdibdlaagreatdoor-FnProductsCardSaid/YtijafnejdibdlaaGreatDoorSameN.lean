/- 'SameNumber' and 'SameComplex' of the reference, at what is the same. -/
import Derived.Test.YtijafnejdibdlaaGreatDoorFin
namespace Go.Proofs.YtijafnejdibdlaaGreatDoor
open Go.RowKit
set_option maxRecDepth 100000
theorem run_bits32 (w : World) (x : Nat) : (callFunc 44 #[.float .f32 x]).run Tryz.prog w = .ok (.value (.int .u32 x)) w := by
  rw [run_callFunc_extern Tryz.func44 (by kernel_rfl) (by kernel_rfl) (by kernel_rfl) (e := Extern.MathFloatBits.float32bits) (by kernel_rfl)]
  rfl
def sb (x : Nat) : Int := if isNaNB .f32 x then 2143289344 else wrap64 (x : Int)
theorem l01Bits_any (x : Nat) (w : World) : Calls Tryz.prog 52 #[.float .f32 x] w fun e w' => e = .returned (.int .i64 (sb x)) ∧ w' = w := by
  have hd := run_bits32
  unfold sb
  go_enter Tryz.func52, Tryz.ntmps52
  cases hn : isNaNB .f32 x with
  | true =>
    have h1 : (FloatKind.f32.format.order x x != some .eq) = true := by rw [order_nan_l hn]; rfl
    go_wp2
    go_ret
    exact ⟨rfl, rfl⟩
  | false =>
    have h1 : (FloatKind.f32.format.order x x != some .eq) = false := by rw [order_self hn]; rfl
    go_wp2
    go_ret
    exact ⟨rfl, rfl⟩
theorem sb_same {x y : Nat} (h : cn .f32 x = cn .f32 y) : sb x = sb y := by
  rcases cn_eq h with h | ⟨hx, hy⟩
  · exact congrArg sb h
  · unfold sb; rw [hx, hy, if_pos rfl, if_pos rfl]
theorem l01Same_any (x y : Nat) (w : World) (h : cn .f32 x = cn .f32 y) : Calls Tryz.prog 31 #[.float .f32 x, .float .f32 y] w fun e w' => e = .returned (.bool true) ∧ w' = w := by
  have Hb := Lib.hid (sb_same h)
  clear h
  go_enter Tryz.func31, Tryz.ntmps31
  go_wp2_with fail
  refine (l01Bits_any _ _).mono ?_
  rintro e w1 ⟨rfl, rfl⟩
  go_wp2_with fail
  refine (l01Bits_any _ _).mono ?_
  rintro e w2 ⟨rfl, rfl⟩
  rw [Hb.out]
  have hs : (sb y == sb y) = true := by simp
  go_wp2
  go_ret
  exact ⟨rfl, rfl⟩
theorem sameN_any (x y : Nat) (w : World) (h : cn .f32 x = cn .f32 y) : Calls Tryz.prog 9 #[.float .f32 x, .float .f32 y] w fun e w' => e = .returned (.bool true) ∧ w' = w := by
  have H := Lib.hid h
  clear h
  go_enter Tryz.func9, Tryz.ntmps9
  go_wp2_with fail
  refine (l01Same_any _ _ _ H.out).mono ?_
  rintro e w1 ⟨rfl, rfl⟩
  go_wp2
  go_ret
  exact ⟨rfl, rfl⟩
theorem l01CSame_any (x y u v : Nat) (w : World) (h : cn .f32 x = cn .f32 u) (h2 : cn .f32 y = cn .f32 v) : Calls Tryz.prog 62 #[.complex .f32 x y, .complex .f32 u v] w fun e w' => e = .returned (.bool true) ∧ w' = w := by
  have H := Lib.hid h; have H2 := Lib.hid h2
  clear h h2
  go_enter Tryz.func62, Tryz.ntmps62
  go_wp2_with fail
  refine (l01Same_any _ _ _ H.out).mono ?_
  rintro e w1 ⟨rfl, rfl⟩
  go_wp2_with fail
  refine (l01Same_any _ _ _ H2.out).mono ?_
  rintro e w1 ⟨rfl, rfl⟩
  go_wp2
  go_ret
  exact ⟨rfl, rfl⟩
theorem sameC_any (x y u v : Nat) (w : World) (h : cn .f32 x = cn .f32 u) (h2 : cn .f32 y = cn .f32 v) : Calls Tryz.prog 47 #[.complex .f32 x y, .complex .f32 u v] w fun e w' => e = .returned (.bool true) ∧ w' = w := by
  have H := Lib.hid h; have H2 := Lib.hid h2
  clear h h2
  go_enter Tryz.func47, Tryz.ntmps47
  go_wp2_with fail
  refine (l01CSame_any _ _ _ _ _ H.out H2.out).mono ?_
  rintro e w1 ⟨rfl, rfl⟩
  go_wp2
  go_ret
  exact ⟨rfl, rfl⟩
end Go.Proofs.YtijafnejdibdlaaGreatDoor
