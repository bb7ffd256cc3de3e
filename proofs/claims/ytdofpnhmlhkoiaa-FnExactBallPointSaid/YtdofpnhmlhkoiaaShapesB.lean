/- The frame of a function that gives a seed, a new list of float32 and whether there is one. -/
import Derived.Test.YtdofpnhmlhkoiaaShapesS
import Derived.Test.YtdofpnhmlhkoiaaShapesF
namespace Go.Proofs.Ytdofpnhmlhkoiaa
open Go.RowKit
def GaveSFlB (w : World) (r : Option (Sd × List Nat)) (e : Ending) (w' : World) : Prop :=
  ∃ (k a b : Int) (v : Value) (xs : List Nat) (ok : Bool), e = .returned (.tuple #[.agg #[.int .i64 k, .int .u64 a, .int .u64 b], v, .bool ok]) ∧ Hid (ok = r.isSome) ∧ Hid ((⟨k, a, b⟩ : Sd) = ((r.map Prod.fst).getD Sd.zero)) ∧ Hid (xs.map (cn .f32) = (r.map Prod.snd).getD []) ∧ Own w' w.heap.size 25 v (f32s xs) ∧ Below w.heap.size w w'
theorem gaveSFlB_none {w w' : World} {r : Option (Sd × List Nat)} (h : r = none) (hb : Below w.heap.size w w') : GaveSFlB w r (.returned (.tuple #[.agg #[.int .i64 0, .int .u64 0, .int .u64 0], .slice none 0 0, .bool false])) w' := by
  subst h
  exact ⟨0, 0, 0, _, [], false, rfl, rfl, rfl, rfl, ⟨rfl, .inl ⟨rfl, rfl⟩⟩, hb⟩
theorem gaveSFlB_some {w w' : World} {r : Option (Sd × List Nat)} {s : Sd} {v : Value} {xs ys : List Nat} (h : r = some (s, ys)) (hx : xs.map (cn .f32) = ys) (ho : Own w' w.heap.size 25 v (f32s xs)) (hb : Below w.heap.size w w') : GaveSFlB w r (.returned (.tuple #[.agg #[.int .i64 s.kind, .int .u64 s.a, .int .u64 s.b], v, .bool true])) w' := by
  subst h
  exact ⟨s.kind, s.a, s.b, v, xs, true, rfl, rfl, rfl, hx, ho, hb⟩
def FnS_SFlB (f : Nat) (r : Sd → Option (Sd × List Nat)) : Prop :=
  ∀ (k a b : Int) (w : World), Sd.ok ⟨k, a, b⟩ → Calls Try.prog f #[.agg #[.int .i64 k, .int .u64 a, .int .u64 b]] w (GaveSFlB w (r ⟨k, a, b⟩))
end Go.Proofs.Ytdofpnhmlhkoiaa
