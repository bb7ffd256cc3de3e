/- The frames of the statements on float32. -/
import Derived.Test.YtijafnejdibdlaaGreatDoorShapes
import Derived.Test.YtijafnejdibdlaaGreatDoorFloats
namespace Go.Proofs.YtijafnejdibdlaaGreatDoor
open Go.RowKit
def FnFl_B (f : Nat) (r : List Nat → Bool) : Prop :=
  ∀ (A : Option Addr) (n c B : Nat) (xs : List Nat) (w : World), Rd w B A n (f32s xs) → B ≤ w.heap.size → xs.length ≤ 1048576 → n ≤ c ∧ c ≤ maxLen → Calls Tryz.prog f #[.slice A n c] w (GaveB w (r xs))
def GaveFB (w : World) (r : Option Nat) (e : Ending) (w' : World) : Prop :=
  ∃ (x : Nat) (ok : Bool), e = .returned (.tuple #[.float .f32 x, .bool ok]) ∧ Hid (ok = r.isSome) ∧ Hid (cn .f32 x = r.getD 0) ∧ Below w.heap.size w w'
def FnLFl_FB (f : Nat) (r : List Int → List Nat → Option Nat) : Prop :=
  ∀ (A : Option Addr) (n c B : Nat) (xs : List Int) (A' : Option Addr) (n' c' B' : Nat) (ys : List Nat) (w : World), Rd w B A n (i64s xs) → B ≤ w.heap.size → xs.length ≤ 1048576 → Fit xs → n ≤ c ∧ c ≤ maxLen →
    Rd w B' A' n' (f32s ys) → B' ≤ w.heap.size → ys.length ≤ 1048576 → n' ≤ c' ∧ c' ≤ maxLen → Calls Tryz.prog f #[.slice A n c, .slice A' n' c'] w (GaveFB w (r xs ys))
def FnNNL_FB (f : Nat) (r : Int → Int → List Int → Option Nat) : Prop :=
  ∀ (a b : Int) (A : Option Addr) (n c B : Nat) (xs : List Int) (w : World), (-9223372036854775808 ≤ a ∧ a ≤ 9223372036854775807) → (-9223372036854775808 ≤ b ∧ b ≤ 9223372036854775807) → Rd w B A n (i64s xs) → B ≤ w.heap.size → xs.length ≤ 1048576 → Fit xs → n ≤ c ∧ c ≤ maxLen → Calls Tryz.prog f #[.int .i64 a, .int .i64 b, .slice A n c] w (GaveFB w (r a b xs))
end Go.Proofs.YtijafnejdibdlaaGreatDoor
