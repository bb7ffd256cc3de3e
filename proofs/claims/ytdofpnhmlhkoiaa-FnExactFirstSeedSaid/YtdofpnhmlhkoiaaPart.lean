/- Whether a number lies from 0 to 1. -/
import Derived.Test.YtdofpnhmlhkoiaaSmall
import Derived.Test.YtdofpnhmlhkoiaaFloat
namespace Go.Proofs.Ytdofpnhmlhkoiaa
open Go.RowKit
def ge0 (x : Nat) : Bool := FloatKind.f32.format.order x 0 == some Ordering.gt || FloatKind.f32.format.order x 0 == some Ordering.eq
def le1 (x : Nat) : Bool := FloatKind.f32.format.order x 1065353216 == some Ordering.lt || FloatKind.f32.format.order x 1065353216 == some Ordering.eq
def partB (x : Nat) : Bool := ge0 x && le1 x
end Go.Proofs.Ytdofpnhmlhkoiaa
