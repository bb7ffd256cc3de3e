/- The frames of the statements with a seed. -/
import Derived.Test.YtahimjdfkmhknaaShapes
import Derived.Test.YtahimjdfkmhknaaTried
import Derived.Test.YtahimjdfkmhknaaFloat
namespace Go.Proofs.Ytahimjdfkmhknaa
open Go.RowKit

/-- The box of a seed that came in. -/
def BoxAt (w : World) (g : Nat) (k a b : Int) : Prop := w.heap[g]? = some (.cells #[.int .i64 k, .int .u64 a, .int .u64 b] 24 (0, 0))
section
variable {w w' : World} {g : Nat} {k a b : Int}
theorem BoxAt.lt (h : BoxAt w g k a b) : g < w.heap.size := (Array.getElem?_eq_some_iff.1 h).1
theorem BoxAt.c0 (h : BoxAt w g k a b) : w.cell? ⟨g, 0, none⟩ = some (.int .i64 k) := cell_of_row w g 0 _ 24 (0, 0) h
theorem BoxAt.c1 (h : BoxAt w g k a b) : w.cell? ⟨g, 1, none⟩ = some (.int .u64 a) := cell_of_row w g 1 _ 24 (0, 0) h
theorem BoxAt.c2 (h : BoxAt w g k a b) : w.cell? ⟨g, 2, none⟩ = some (.int .u64 b) := cell_of_row w g 2 _ 24 (0, 0) h
theorem BoxAt.below {B : Nat} (h : BoxAt w g k a b) (hb : Below B w w') (hg : g < B) : BoxAt w' g k a b := (hb.block g hg).trans h
theorem BoxAt.alloc (h : BoxAt w g k a b) (o : Obj) : BoxAt (w.alloc o) g k a b := (Below.heap_alloc w o g h.lt).trans h
theorem BoxAt.grown {row : Option Nat} (h : BoxAt w g k a b) (hb : w.grownBy w' row) (hg : some g ≠ row) : BoxAt w' g k a b := (hb.block g h.lt hg).trans h
theorem BoxAt.new (w : World) (k a b : Int) : BoxAt (w.alloc (.cells #[.int .i64 k, .int .u64 a, .int .u64 b] 24)) w.heap.size k a b := heap_alloc_new w _
end

theorem toSeed_any (k a b : Int) (w : World) : Calls Try.prog 6 #[.agg #[.int .i64 k, .int .u64 a, .int .u64 b]] w fun e w' => e = .returned (.agg #[.int .i64 k, .int .u64 a, .int .u64 b]) ∧ Below w.heap.size w w' := by
  go_enter Try.func6, Try.ntmps6
  go_wp2
  (try simp only [Exit.inBlock, Exit.then])
  refine bodyPost_ret (results_s1 rfl _ rfl ((SeedAt.new1 w _ k a b).alloc _)) rfl ?_
  exact ⟨rfl, (((Below.refl _ _).alloc (Nat.le_refl _) _).alloc (by rw [size_alloc']; omega) _).alloc (by rw [size_alloc', size_alloc']; omega) _⟩
theorem eqSeed_same (k a b : Int) (w : World) : Calls Try.prog 8 #[.agg #[.int .i64 k, .int .u64 a, .int .u64 b], .agg #[.int .i64 k, .int .u64 a, .int .u64 b]] w fun e w' => e = .returned (.bool true) ∧ Below w.heap.size w w' := by
  have h0 : (k != k) = false := by simp
  have h1 : (a != a) = false := by simp
  have h2 : (b != b) = false := by simp
  go_enter Try.func8, Try.ntmps8
  go_wp2
  go_ret
  exact ⟨rfl, ((Below.refl _ _).alloc (Nat.le_refl _) _).alloc (by rw [size_alloc']; omega) _⟩

theorem gaveSNB_none {w w' : World} {r : Option (Sd × Int)} (h : r = none) (hb : Below w.heap.size w w') : GaveSNB w r (.returned (.tuple #[.agg #[.int .i64 0, .int .u64 0, .int .u64 0], .int .i64 0, .bool false])) w' := by
  subst h
  exact ⟨0, 0, 0, 0, false, rfl, rfl, rfl, rfl, hb⟩
theorem gaveSNB_some {w w' : World} {r : Option (Sd × Int)} {s : Sd} {x : Int} (h : r = some (s, x)) (hb : Below w.heap.size w w') : GaveSNB w r (.returned (.tuple #[.agg #[.int .i64 s.kind, .int .u64 s.a, .int .u64 s.b], .int .i64 x, .bool true])) w' := by
  subst h
  exact ⟨s.kind, s.a, s.b, x, true, rfl, rfl, rfl, rfl, hb⟩
/-- What is handed back by a function that gives a seed, a new list and whether there is one. -/
def GaveSLB (w : World) (r : Option (Sd × List Int)) (e : Ending) (w' : World) : Prop :=
  ∃ (k a b : Int) (v : Value) (ok : Bool), e = .returned (.tuple #[.agg #[.int .i64 k, .int .u64 a, .int .u64 b], v, .bool ok]) ∧ Hid (ok = r.isSome) ∧ Hid ((⟨k, a, b⟩ : Sd) = ((r.map Prod.fst).getD Sd.zero)) ∧ Own w' w.heap.size 2 v (i64s ((r.map Prod.snd).getD [])) ∧ Below w.heap.size w w'
/-- A seed and whether there is one. -/
def GaveSB (w : World) (r : Option Sd) (e : Ending) (w' : World) : Prop :=
  ∃ (k a b : Int) (ok : Bool), e = .returned (.tuple #[.agg #[.int .i64 k, .int .u64 a, .int .u64 b], .bool ok]) ∧ Hid (ok = r.isSome) ∧ Hid ((⟨k, a, b⟩ : Sd) = (r.getD Sd.zero)) ∧ Below w.heap.size w w'
def FitN (n : Int) : Prop := -9223372036854775808 ≤ n ∧ n ≤ 9223372036854775807
def FnSNF_SNB (f : Nat) (r : Sd → Int → Nat → Option (Sd × Int)) : Prop :=
  ∀ (k a b : Int) (n : Int) (x : Nat) (w : World), Sd.ok ⟨k, a, b⟩ → (-9223372036854775808 ≤ n ∧ n ≤ 9223372036854775807) → x < 2 ^ 32 → Calls Try.prog f #[.agg #[.int .i64 k, .int .u64 a, .int .u64 b], .int .i64 n, .float .f32 x] w (GaveSNB w (r ⟨k, a, b⟩ n x))
def FnSFl_SNB (f : Nat) (r : Sd → List Nat → Option (Sd × Int)) : Prop :=
  ∀ (k a b : Int) (A : Option Addr) (n c B : Nat) (xs : List Nat) (w : World), Sd.ok ⟨k, a, b⟩ → Rd w B A n (f32s xs) → B ≤ w.heap.size → xs.length ≤ 1048576 → n ≤ c ∧ c ≤ maxLen → Calls Try.prog f #[.agg #[.int .i64 k, .int .u64 a, .int .u64 b], .slice A n c] w (GaveSNB w (r ⟨k, a, b⟩ xs))
def FnSL_SNB (f : Nat) (r : Sd → List Int → Option (Sd × Int)) : Prop :=
  ∀ (k a b : Int) (A : Option Addr) (n c B : Nat) (xs : List Int) (w : World), Sd.ok ⟨k, a, b⟩ → Rd w B A n (i64s xs) → B ≤ w.heap.size → xs.length ≤ 1048576 → Fit xs → n ≤ c ∧ c ≤ maxLen → Calls Try.prog f #[.agg #[.int .i64 k, .int .u64 a, .int .u64 b], .slice A n c] w (GaveSNB w (r ⟨k, a, b⟩ xs))
def FnSN_SLB (f : Nat) (r : Sd → Int → Option (Sd × List Int)) : Prop :=
  ∀ (k a b : Int) (n : Int) (w : World), Sd.ok ⟨k, a, b⟩ → (-9223372036854775808 ≤ n ∧ n ≤ 9223372036854775807) → Calls Try.prog f #[.agg #[.int .i64 k, .int .u64 a, .int .u64 b], .int .i64 n] w (GaveSLB w (r ⟨k, a, b⟩ n))
def FnSN_SB (f : Nat) (r : Sd → Int → Option Sd) : Prop :=
  ∀ (k a b : Int) (n : Int) (w : World), Sd.ok ⟨k, a, b⟩ → (-9223372036854775808 ≤ n ∧ n ≤ 9223372036854775807) → Calls Try.prog f #[.agg #[.int .i64 k, .int .u64 a, .int .u64 b], .int .i64 n] w (GaveSB w (r ⟨k, a, b⟩ n))
def FnSNN_SLB (f : Nat) (r : Sd → Int → Int → Option (Sd × List Int)) : Prop :=
  ∀ (k a b : Int) (n m : Int) (w : World), Sd.ok ⟨k, a, b⟩ → (-9223372036854775808 ≤ n ∧ n ≤ 9223372036854775807) → (-9223372036854775808 ≤ m ∧ m ≤ 9223372036854775807) → Calls Try.prog f #[.agg #[.int .i64 k, .int .u64 a, .int .u64 b], .int .i64 n, .int .i64 m] w (GaveSLB w (r ⟨k, a, b⟩ n m))
def FnSLN_SLB (f : Nat) (r : Sd → List Int → Int → Option (Sd × List Int)) : Prop :=
  ∀ (k a b : Int) (A : Option Addr) (n c B : Nat) (xs : List Int) (m : Int) (w : World), Sd.ok ⟨k, a, b⟩ → Rd w B A n (i64s xs) → B ≤ w.heap.size → xs.length ≤ 1048576 → Fit xs → n ≤ c ∧ c ≤ maxLen → (-9223372036854775808 ≤ m ∧ m ≤ 9223372036854775807) → Calls Try.prog f #[.agg #[.int .i64 k, .int .u64 a, .int .u64 b], .slice A n c, .int .i64 m] w (GaveSLB w (r ⟨k, a, b⟩ xs m))
end Go.Proofs.Ytahimjdfkmhknaa
