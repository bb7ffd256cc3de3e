/- Whether a number lies from 0 to 1. -/
import Derived.Test.YtmhhjegceibjoaaSmall
import Derived.Test.YtmhhjegceibjoaaFloat
namespace Go.Proofs.Ytmhhjegceibjoaa
open Go.RowKit
def ge0 (x : Nat) : Bool := FloatKind.f32.format.order x 0 == some Ordering.gt || FloatKind.f32.format.order x 0 == some Ordering.eq
def le1 (x : Nat) : Bool := FloatKind.f32.format.order x 1065353216 == some Ordering.lt || FloatKind.f32.format.order x 1065353216 == some Ordering.eq
def partB (x : Nat) : Bool := ge0 x && le1 x
theorem specPart_any (x : Nat) (w : World) : Calls Try.prog 9 #[.float .f32 x] w fun e w' => e = .returned (.bool (partB x)) ∧ w = w' := by
  by_cases h : (FloatKind.f32.format.order x 0 = some Ordering.gt ∨ FloatKind.f32.format.order x 0 = some Ordering.eq)
  · go_enter Try.func9, Try.ntmps9
    go_wp2
    go_ret
    exact ⟨rfl, rfl⟩
  · have e : partB x = false := by
      have : ge0 x = false := by
        have h1 : ¬ FloatKind.f32.format.order x 0 = some Ordering.gt := fun e => h (.inl e)
        have h2 : ¬ FloatKind.f32.format.order x 0 = some Ordering.eq := fun e => h (.inr e)
        simp [ge0, h1, h2]
      simp [partB, this]
    rw [e]
    go_enter Try.func9, Try.ntmps9
    go_wp2
    go_ret
    exact ⟨rfl, rfl⟩
end Go.Proofs.Ytmhhjegceibjoaa
