/- The frames of the statements with a seed and a float32 or a complex64. -/
import Derived.Test.YtgbehnkccgahoaaShapesS
import Derived.Test.YtgbehnkccgahoaaShapesF
import Derived.Test.YtgbehnkccgahoaaComplex
import Derived.Test.YtgbehnkccgahoaaFin
namespace Go.Proofs.Ytgbehnkccgahoaa
open Go.RowKit
/-- A seed, a number and whether there is one. -/
def GaveSFB (w : World) (r : Option (Sd × Nat)) (e : Ending) (w' : World) : Prop :=
  ∃ (k a b : Int) (x : Nat) (ok : Bool), e = .returned (.tuple #[.agg #[.int .i64 k, .int .u64 a, .int .u64 b], .float .f32 x, .bool ok]) ∧ Hid (ok = r.isSome) ∧ Hid ((⟨k, a, b⟩ : Sd) = ((r.map Prod.fst).getD Sd.zero)) ∧ Hid (cn .f32 x = (r.map Prod.snd).getD 0) ∧ Below w.heap.size w w'
theorem gaveSFB_none {w w' : World} {r : Option (Sd × Nat)} (h : r = none) (hb : Below w.heap.size w w') : GaveSFB w r (.returned (.tuple #[.agg #[.int .i64 0, .int .u64 0, .int .u64 0], .float .f32 0, .bool false])) w' := by
  subst h
  exact ⟨0, 0, 0, 0, false, rfl, rfl, rfl, cn_of_not (zero_not_nan .f32), hb⟩
theorem gaveSFB_some {w w' : World} {r : Option (Sd × Nat)} {s : Sd} {x y : Nat} (h : r = some (s, y)) (hx : cn .f32 x = y) (hb : Below w.heap.size w w') : GaveSFB w r (.returned (.tuple #[.agg #[.int .i64 s.kind, .int .u64 s.a, .int .u64 s.b], .float .f32 x, .bool true])) w' := by
  subst h
  exact ⟨s.kind, s.a, s.b, x, true, rfl, rfl, rfl, hx, hb⟩
/-- A seed, a complex number and whether there is one. -/
def GaveSCB (w : World) (r : Option (Sd × Nat × Nat)) (e : Ending) (w' : World) : Prop :=
  ∃ (k a b : Int) (x y : Nat) (ok : Bool), e = .returned (.tuple #[.agg #[.int .i64 k, .int .u64 a, .int .u64 b], .complex .f32 x y, .bool ok]) ∧ Hid (ok = r.isSome) ∧ Hid ((⟨k, a, b⟩ : Sd) = ((r.map Prod.fst).getD Sd.zero)) ∧ Hid (cn .f32 x = (r.map fun p => p.2.1).getD 0) ∧ Hid (cn .f32 y = (r.map fun p => p.2.2).getD 0) ∧ Below w.heap.size w w'
theorem gaveSCB_none {w w' : World} {r : Option (Sd × Nat × Nat)} (h : r = none) (hb : Below w.heap.size w w') : GaveSCB w r (.returned (.tuple #[.agg #[.int .i64 0, .int .u64 0, .int .u64 0], .complex .f32 0 0, .bool false])) w' := by
  subst h
  exact ⟨0, 0, 0, 0, 0, false, rfl, rfl, rfl, cn_of_not (zero_not_nan .f32), cn_of_not (zero_not_nan .f32), hb⟩
theorem gaveSCB_some {w w' : World} {r : Option (Sd × Nat × Nat)} {s : Sd} {x y u v : Nat} (h : r = some (s, u, v)) (hx : cn .f32 x = u) (hy : cn .f32 y = v) (hb : Below w.heap.size w w') : GaveSCB w r (.returned (.tuple #[.agg #[.int .i64 s.kind, .int .u64 s.a, .int .u64 s.b], .complex .f32 x y, .bool true])) w' := by
  subst h
  exact ⟨s.kind, s.a, s.b, x, y, true, rfl, rfl, rfl, hx, hy, hb⟩
def FnSFF_SFB (f : Nat) (r : Sd → Nat → Nat → Option (Sd × Nat)) : Prop :=
  ∀ (k a b : Int) (x y : Nat) (w : World), Sd.ok ⟨k, a, b⟩ → x < 2 ^ 32 → y < 2 ^ 32 → Calls Try.prog f #[.agg #[.int .i64 k, .int .u64 a, .int .u64 b], .float .f32 x, .float .f32 y] w (GaveSFB w (r ⟨k, a, b⟩ x y))
def FnSF_SFB (f : Nat) (r : Sd → Nat → Option (Sd × Nat)) : Prop :=
  ∀ (k a b : Int) (x : Nat) (w : World), Sd.ok ⟨k, a, b⟩ → x < 2 ^ 32 → Calls Try.prog f #[.agg #[.int .i64 k, .int .u64 a, .int .u64 b], .float .f32 x] w (GaveSFB w (r ⟨k, a, b⟩ x))
def FnS_SFB (f : Nat) (r : Sd → Option (Sd × Nat)) : Prop :=
  ∀ (k a b : Int) (w : World), Sd.ok ⟨k, a, b⟩ → Calls Try.prog f #[.agg #[.int .i64 k, .int .u64 a, .int .u64 b]] w (GaveSFB w (r ⟨k, a, b⟩))
def FnS_SCB (f : Nat) (r : Sd → Option (Sd × Nat × Nat)) : Prop :=
  ∀ (k a b : Int) (w : World), Sd.ok ⟨k, a, b⟩ → Calls Try.prog f #[.agg #[.int .i64 k, .int .u64 a, .int .u64 b]] w (GaveSCB w (r ⟨k, a, b⟩))
end Go.Proofs.Ytgbehnkccgahoaa
