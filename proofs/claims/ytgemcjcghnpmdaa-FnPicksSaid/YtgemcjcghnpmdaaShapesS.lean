/- The frames of the statements with a seed. -/
import Derived.Test.YtgemcjcghnpmdaaShapes
import Derived.Test.YtgemcjcghnpmdaaTried
import Derived.Test.YtgemcjcghnpmdaaFloat
namespace Go.Proofs.Ytgemcjcghnpmdaa
open Go.RowKit


theorem gaveSNB_none {w w' : World} {r : Option (Sd × Int)} (h : r = none) (hb : Below w.heap.size w w') : GaveSNB w r (.returned (.tuple #[.agg #[.int .i64 0, .int .u64 0, .int .u64 0], .int .i64 0, .bool false])) w' := by
  subst h
  exact ⟨0, 0, 0, 0, false, rfl, rfl, rfl, rfl, hb⟩
theorem gaveSNB_some {w w' : World} {r : Option (Sd × Int)} {s : Sd} {x : Int} (h : r = some (s, x)) (hb : Below w.heap.size w w') : GaveSNB w r (.returned (.tuple #[.agg #[.int .i64 s.kind, .int .u64 s.a, .int .u64 s.b], .int .i64 x, .bool true])) w' := by
  subst h
  exact ⟨s.kind, s.a, s.b, x, true, rfl, rfl, rfl, rfl, hb⟩
/-- What is handed back by a function that gives a seed, a new list and whether there is one. -/
def GaveSLB (w : World) (r : Option (Sd × List Int)) (e : Ending) (w' : World) : Prop :=
  ∃ (k a b : Int) (v : Value) (ok : Bool), e = .returned (.tuple #[.agg #[.int .i64 k, .int .u64 a, .int .u64 b], v, .bool ok]) ∧ Hid (ok = r.isSome) ∧ Hid ((⟨k, a, b⟩ : Sd) = ((r.map Prod.fst).getD Sd.zero)) ∧ Own w' w.heap.size 2 v (i64s ((r.map Prod.snd).getD [])) ∧ Below w.heap.size w w'
/-- A seed and whether there is one. -/
def GaveSB (w : World) (r : Option Sd) (e : Ending) (w' : World) : Prop :=
  ∃ (k a b : Int) (ok : Bool), e = .returned (.tuple #[.agg #[.int .i64 k, .int .u64 a, .int .u64 b], .bool ok]) ∧ Hid (ok = r.isSome) ∧ Hid ((⟨k, a, b⟩ : Sd) = (r.getD Sd.zero)) ∧ Below w.heap.size w w'
def FitN (n : Int) : Prop := -9223372036854775808 ≤ n ∧ n ≤ 9223372036854775807
def FnSNF_SNB (f : Nat) (r : Sd → Int → Nat → Option (Sd × Int)) : Prop :=
  ∀ (k a b : Int) (n : Int) (x : Nat) (w : World), Sd.ok ⟨k, a, b⟩ → (-9223372036854775808 ≤ n ∧ n ≤ 9223372036854775807) → x < 2 ^ 32 → Calls Try.prog f #[.agg #[.int .i64 k, .int .u64 a, .int .u64 b], .int .i64 n, .float .f32 x] w (GaveSNB w (r ⟨k, a, b⟩ n x))
def FnSFl_SNB (f : Nat) (r : Sd → List Nat → Option (Sd × Int)) : Prop :=
  ∀ (k a b : Int) (A : Option Addr) (n c B : Nat) (xs : List Nat) (w : World), Sd.ok ⟨k, a, b⟩ → Rd w B A n (f32s xs) → B ≤ w.heap.size → xs.length ≤ 1048576 → n ≤ c ∧ c ≤ maxLen → Calls Try.prog f #[.agg #[.int .i64 k, .int .u64 a, .int .u64 b], .slice A n c] w (GaveSNB w (r ⟨k, a, b⟩ xs))
def FnSL_SNB (f : Nat) (r : Sd → List Int → Option (Sd × Int)) : Prop :=
  ∀ (k a b : Int) (A : Option Addr) (n c B : Nat) (xs : List Int) (w : World), Sd.ok ⟨k, a, b⟩ → Rd w B A n (i64s xs) → B ≤ w.heap.size → xs.length ≤ 1048576 → Fit xs → n ≤ c ∧ c ≤ maxLen → Calls Try.prog f #[.agg #[.int .i64 k, .int .u64 a, .int .u64 b], .slice A n c] w (GaveSNB w (r ⟨k, a, b⟩ xs))
def FnSN_SLB (f : Nat) (r : Sd → Int → Option (Sd × List Int)) : Prop :=
  ∀ (k a b : Int) (n : Int) (w : World), Sd.ok ⟨k, a, b⟩ → (-9223372036854775808 ≤ n ∧ n ≤ 9223372036854775807) → Calls Try.prog f #[.agg #[.int .i64 k, .int .u64 a, .int .u64 b], .int .i64 n] w (GaveSLB w (r ⟨k, a, b⟩ n))
def FnSN_SB (f : Nat) (r : Sd → Int → Option Sd) : Prop :=
  ∀ (k a b : Int) (n : Int) (w : World), Sd.ok ⟨k, a, b⟩ → (-9223372036854775808 ≤ n ∧ n ≤ 9223372036854775807) → Calls Try.prog f #[.agg #[.int .i64 k, .int .u64 a, .int .u64 b], .int .i64 n] w (GaveSB w (r ⟨k, a, b⟩ n))
def FnSNN_SLB (f : Nat) (r : Sd → Int → Int → Option (Sd × List Int)) : Prop :=
  ∀ (k a b : Int) (n m : Int) (w : World), Sd.ok ⟨k, a, b⟩ → (-9223372036854775808 ≤ n ∧ n ≤ 9223372036854775807) → (-9223372036854775808 ≤ m ∧ m ≤ 9223372036854775807) → Calls Try.prog f #[.agg #[.int .i64 k, .int .u64 a, .int .u64 b], .int .i64 n, .int .i64 m] w (GaveSLB w (r ⟨k, a, b⟩ n m))
def FnSLN_SLB (f : Nat) (r : Sd → List Int → Int → Option (Sd × List Int)) : Prop :=
  ∀ (k a b : Int) (A : Option Addr) (n c B : Nat) (xs : List Int) (m : Int) (w : World), Sd.ok ⟨k, a, b⟩ → Rd w B A n (i64s xs) → B ≤ w.heap.size → xs.length ≤ 1048576 → Fit xs → n ≤ c ∧ c ≤ maxLen → (-9223372036854775808 ≤ m ∧ m ≤ 9223372036854775807) → Calls Try.prog f #[.agg #[.int .i64 k, .int .u64 a, .int .u64 b], .slice A n c, .int .i64 m] w (GaveSLB w (r ⟨k, a, b⟩ xs m))
end Go.Proofs.Ytgemcjcghnpmdaa
