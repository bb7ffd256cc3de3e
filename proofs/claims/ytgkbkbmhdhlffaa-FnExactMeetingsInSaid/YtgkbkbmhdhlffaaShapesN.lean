/- The frame of a statement whose functions give two numbers and whether there are such. -/
import Derived.Test.YtgkbkbmhdhlffaaShapes
namespace Go.Proofs.Ytgkbkbmhdhlffaa
open Go.RowKit
def GaveNNB (w : World) (r : Option (Int × Int)) (e : Ending) (w' : World) : Prop :=
  ∃ (x y : Int) (ok : Bool), e = .returned (.tuple #[.int .i64 x, .int .i64 y, .bool ok]) ∧ Hid (ok = r.isSome) ∧ Hid (x = (r.map Prod.fst).getD 0) ∧ Hid (y = (r.map Prod.snd).getD 0) ∧ Below w.heap.size w w'
def FnLN_NNB (f : Nat) (r : List Int → Int → Option (Int × Int)) : Prop :=
  ∀ (A : Option Addr) (n c B : Nat) (xs : List Int) (k : Int) (w : World), Rd w B A n (i64s xs) → B ≤ w.heap.size → xs.length ≤ 1048576 → Fit xs → n ≤ c ∧ c ≤ maxLen → (-9223372036854775808 ≤ k ∧ k ≤ 9223372036854775807) → Calls Try.prog f #[.slice A n c, .int .i64 k] w (GaveNNB w (r xs k))
end Go.Proofs.Ytgkbkbmhdhlffaa
