/- The frames of the statements: what a function of a list is to answer, as a relation; bounds of numbers. -/
import Derived.Test.YtijafnejdibdlaaGreatDoorInts
namespace Go.Proofs.YtijafnejdibdlaaGreatDoor
open Go.RowKit

/-- All numbers of a list lie within int64. -/
def Fit (xs : List Int) : Prop := ∀ x ∈ xs, -9223372036854775808 ≤ x ∧ x ≤ 9223372036854775807
theorem Fit.get {xs : List Int} (h : Fit xs) {k : Nat} {x : Int} (hx : xs[k]? = some x) : -9223372036854775808 ≤ x ∧ x ≤ 9223372036854775807 := h x (List.mem_of_getElem? hx)

/-- What is handed back by a function that gives a new list and whether there is one. -/
def GaveLB (w : World) (r : Option (List Int)) (e : Ending) (w' : World) : Prop :=
  ∃ (v : Value) (ok : Bool), e = .returned (.tuple #[v, .bool ok]) ∧ Hid (ok = r.isSome) ∧ Own w' w.heap.size 2 v (i64s (r.getD [])) ∧ Below w.heap.size w w'

/-- A function of one list that gives a new list and whether there is one. -/
def FnL_LB (f : Nat) (r : List Int → Option (List Int)) : Prop :=
  ∀ (A : Option Addr) (n c B : Nat) (xs : List Int) (w : World), Rd w B A n (i64s xs) → B ≤ w.heap.size → xs.length ≤ 1048576 → Fit xs → n ≤ c ∧ c ≤ maxLen → Calls Tryz.prog f #[.slice A n c] w (GaveLB w (r xs))

def FnNN_LB (f : Nat) (r : Int → Int → Option (List Int)) : Prop :=
  ∀ (n k : Int) (w : World), (-9223372036854775808 ≤ n ∧ n ≤ 9223372036854775807) → (-9223372036854775808 ≤ k ∧ k ≤ 9223372036854775807) → Calls Tryz.prog f #[.int .i64 n, .int .i64 k] w (GaveLB w (r n k))
def FnLN_LB (f : Nat) (r : List Int → Int → Option (List Int)) : Prop :=
  ∀ (A : Option Addr) (n c B : Nat) (xs : List Int) (k : Int) (w : World), Rd w B A n (i64s xs) → B ≤ w.heap.size → xs.length ≤ 1048576 → Fit xs → n ≤ c ∧ c ≤ maxLen → (-9223372036854775808 ≤ k ∧ k ≤ 9223372036854775807) → Calls Tryz.prog f #[.slice A n c, .int .i64 k] w (GaveLB w (r xs k))
def FnLNN_LB (f : Nat) (r : List Int → Int → Int → Option (List Int)) : Prop :=
  ∀ (A : Option Addr) (n c B : Nat) (xs : List Int) (k l : Int) (w : World), Rd w B A n (i64s xs) → B ≤ w.heap.size → xs.length ≤ 1048576 → Fit xs → n ≤ c ∧ c ≤ maxLen → (-9223372036854775808 ≤ k ∧ k ≤ 9223372036854775807) → (-9223372036854775808 ≤ l ∧ l ≤ 9223372036854775807) → Calls Tryz.prog f #[.slice A n c, .int .i64 k, .int .i64 l] w (GaveLB w (r xs k l))
/-- What is handed back by a function that gives a number and whether there is one. -/
def GaveNB (w : World) (r : Option Int) (e : Ending) (w' : World) : Prop :=
  ∃ (x : Int) (ok : Bool), e = .returned (.tuple #[.int .i64 x, .bool ok]) ∧ Hid (ok = r.isSome) ∧ Hid (x = r.getD 0) ∧ Below w.heap.size w w'
def GaveB (w : World) (b : Bool) (e : Ending) (w' : World) : Prop := e = .returned (.bool b) ∧ Below w.heap.size w w'
def FnL_NB (f : Nat) (r : List Int → Option Int) : Prop :=
  ∀ (A : Option Addr) (n c B : Nat) (xs : List Int) (w : World), Rd w B A n (i64s xs) → B ≤ w.heap.size → xs.length ≤ 1048576 → Fit xs → n ≤ c ∧ c ≤ maxLen → Calls Tryz.prog f #[.slice A n c] w (GaveNB w (r xs))
def FnLN_NB (f : Nat) (r : List Int → Int → Option Int) : Prop :=
  ∀ (A : Option Addr) (n c B : Nat) (xs : List Int) (k : Int) (w : World), Rd w B A n (i64s xs) → B ≤ w.heap.size → xs.length ≤ 1048576 → Fit xs → n ≤ c ∧ c ≤ maxLen → (-9223372036854775808 ≤ k ∧ k ≤ 9223372036854775807) → Calls Tryz.prog f #[.slice A n c, .int .i64 k] w (GaveNB w (r xs k))
def FnL_B (f : Nat) (r : List Int → Bool) : Prop :=
  ∀ (A : Option Addr) (n c B : Nat) (xs : List Int) (w : World), Rd w B A n (i64s xs) → B ≤ w.heap.size → xs.length ≤ 1048576 → Fit xs → n ≤ c ∧ c ≤ maxLen → Calls Tryz.prog f #[.slice A n c] w (GaveB w (r xs))
def FnLN_B (f : Nat) (r : List Int → Int → Bool) : Prop :=
  ∀ (A : Option Addr) (n c B : Nat) (xs : List Int) (k : Int) (w : World), Rd w B A n (i64s xs) → B ≤ w.heap.size → xs.length ≤ 1048576 → Fit xs → n ≤ c ∧ c ≤ maxLen → (-9223372036854775808 ≤ k ∧ k ≤ 9223372036854775807) → Calls Tryz.prog f #[.slice A n c, .int .i64 k] w (GaveB w (r xs k))

theorem own_none (w : World) (base : Nat) (e : TypeId) : Own w base e (.slice none 0 0) [] := ⟨by simp, .inl ⟨rfl, rfl⟩⟩
theorem below_ownGrown {B : Nat} {w0 w w' : World} {base : Nat} {e : TypeId} {v : Value} {xs : List Value} (hb : Below B w0 w) (h : Own w base e v xs) (hg : w.grownBy w' (Value.ownBlock v)) (h0 : B ≤ w0.heap.size) (hB : B ≤ base) : Below B w0 w' :=
  hb.grown hg (Nat.le_trans h0 hb.size) (fun k hk => by have := (h.lt k hk).1; omega)
theorem Rd.ownGrown {w w' : World} {B base n : Nat} {A : Option Addr} {ys : List Value} {e : TypeId} {v : Value} {xs : List Value} (hr : Rd w B A n ys) (h : Own w base e v xs) (hg : w.grownBy w' (Value.ownBlock v)) (h0 : B ≤ w.heap.size) (hB : B ≤ base) : Rd w' B A n ys :=
  hr.grown hg h0 (fun k hk => by have := (h.lt k hk).1; omega)
theorem Own.shapeI {w : World} {base : Nat} {e : TypeId} {v : Value} {xs : List Int} (h : Own w base e v (i64s xs)) : ∃ A c, v = .slice A xs.length c ∧ Hid (xs.length ≤ c ∧ c ≤ maxLen) := by
  obtain ⟨A, c, rfl, h1, h2⟩ := h.shape
  exact ⟨A, c, by rw [i64s_length], by rw [i64s_length] at h1; exact ⟨h1, h2⟩⟩
theorem Own.rdI {w : World} {base : Nat} {e : TypeId} {A : Option Addr} {n c : Nat} {xs : List Int} (h : Own w base e (.slice A n c) (i64s xs)) : Rd w w.heap.size A xs.length (i64s xs) := by
  have := h.rd.2
  rwa [i64s_length] at this
theorem quiet_below {w w' : World} (h : ∃ q, w' = w.drewN q) : Below w.heap.size w w' := by
  obtain ⟨q, rfl⟩ := h
  exact below_drewN' q
end Go.Proofs.YtijafnejdibdlaaGreatDoor
