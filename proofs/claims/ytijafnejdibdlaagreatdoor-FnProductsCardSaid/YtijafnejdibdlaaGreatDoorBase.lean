/- Plain lemmas on worlds, owned rows and readings: used by all walks of this seat; no program in sight. -/
import Derived.WalkKit
import Derived.WalkSpells
import Derived.WalkLawsBesides
import Derived.Deep.Draws
import Derived.Deep.QuietTactic
import Derived.BigQuiet
import Derived.Lib.Hide
import Derived.Outline
import Derived.Maps.AppendAt
namespace Go.Proofs.YtijafnejdibdlaaGreatDoor
open Go.RowKit

theorem below_drewN {B : Nat} {a w : World} (h : Below B a w) (n : Nat) : Below B a (w.drewN n) := ⟨h.os, h.tape, h.output, h.size, h.block⟩
theorem below_drewN' {B : Nat} {w : World} (n : Nat) : Below B w (w.drewN n) := below_drewN (Below.refl _ _) n

/-- A quiet callee in a world that has drawn before. -/
theorem quiet_add {P : Program} {f : FuncId} {args : Array Value} {w : World} {a n : Nat} {v : Value}
    (h : Calls P f args (w.drewN (a + n)) fun e w' => e = .returned v ∧ ∃ m, w' = (w.drewN (a + n)).drewN m) :
    Calls P f args (w.drewN (a + n)) fun e w'' => e = .returned v ∧ ∃ m, w'' = w.drewN (a + m) :=
  h.mono fun _ _ ⟨he, m, hm⟩ => ⟨he, n + m, by rw [hm, World.drewN_drewN, Nat.add_assoc]⟩

/-- The slice of address A and length n reads as the one-cell values xs; its block lies below B. -/
def Rd (w : World) (B : Nat) (A : Option Addr) (n : Nat) (xs : List Value) : Prop :=
  xs.length = n ∧ (0 < n → ∃ b off, A = some ⟨b, off, none⟩ ∧ b < B ∧ ∀ j u, xs[j]? = some u → w.cell? ⟨b, off + j, none⟩ = some u)

section
variable {w w' : World} {B B' n : Nat} {A : Option Addr} {xs : List Value}
theorem Rd.len (h : Rd w B A n xs) : xs.length = n := h.1
theorem Rd.nil_ : Rd w B A 0 [] := ⟨rfl, fun h => absurd h (by omega)⟩
theorem Rd.keep (h : Rd w B A n xs) (hk : ∀ p : Addr, p.block < B → w'.cell? p = w.cell? p) : Rd w' B A n xs :=
  ⟨h.1, fun hn => by
    obtain ⟨b, off, e, hb, hc⟩ := h.2 hn
    exact ⟨b, off, e, hb, fun j u hu => (hk _ hb).trans (hc j u hu)⟩⟩
theorem Rd.more (h : Rd w B A n xs) (hB : B ≤ B') : Rd w B' A n xs :=
  ⟨h.1, fun hn => by
    obtain ⟨b, off, e, hb, hc⟩ := h.2 hn
    exact ⟨b, off, e, by omega, hc⟩⟩
theorem Rd.below (h : Rd w B A n xs) {C : Nat} (hb : Below C w w') (hC : B ≤ C) : Rd w' B A n xs := h.keep fun _ hp => hb.cell (by omega)
theorem Rd.drewN (h : Rd w B A n xs) (k : Nat) : Rd (w.drewN k) B A n xs := h
theorem Rd.drew (h : Rd w B A n xs) : Rd w.drew B A n xs := h
theorem Rd.alloc (h : Rd w B A n xs) (hB : B ≤ w.heap.size) (o : Obj) : Rd (w.alloc o) B A n xs := h.keep fun p hp => World.cell?_alloc_lt w o p (by omega)
theorem Rd.setCell (h : Rd w B A n xs) {p : Addr} (hB : B ≤ p.block) (u : Value) : Rd (w.setCell p u) B A n xs :=
  h.keep fun q hq => World.cell?_setCell_other w p q u (fun e => by subst e; omega)
theorem Rd.grown (h : Rd w B A n xs) {row : Option Nat} (hg : w.grownBy w' row) (hB : B ≤ w.heap.size) (hr : ∀ g, row = some g → B ≤ g) : Rd w' B A n xs :=
  h.keep fun p hp => World.cell?_of_block (hg.block p.block (by omega) (fun e => by have := hr _ e.symm; omega))
theorem Rd.at_ {k : Nat} (h : Rd w B A n xs) (hk : k < n) : ∃ b off u, A = some ⟨b, off, none⟩ ∧ b < B ∧ xs[k]? = some u ∧ w.cell? ⟨b, off + k, none⟩ = some u := by
  obtain ⟨b, off, e, hb, hc⟩ := h.2 (by omega)
  have hl : k < xs.length := by have := h.1; omega
  exact ⟨b, off, xs[k], e, hb, List.getElem?_eq_getElem hl, hc k _ (List.getElem?_eq_getElem hl)⟩
theorem Rd.of_own {base : Nat} {e : TypeId} {c : Nat} (h : w.ownsRow base e 1 (.slice A n c) n xs) : Rd w w.heap.size A n xs := by
  refine ⟨by simpa using h.1, fun hn => ?_⟩
  rcases h.2 with ⟨h', h0⟩ | ⟨g, cap, cur, h', _, hg, _, _, _, htake⟩
  · omega
  · simp only [Value.slice.injEq] at h'
    obtain ⟨rfl, -, rfl⟩ := h'
    have hlt : g < w.heap.size := (Array.getElem?_eq_some_iff.1 hg).1
    refine ⟨g, 0, rfl, hlt, fun j u hu => ?_⟩
    rw [Nat.zero_add, cell_of_row w g j cur e (0, 0) hg]
    rw [← htake, List.getElem?_take] at hu
    split at hu
    · simpa using hu
    · cases hu
end

/-- What a function hands back as a new slice of one-cell elements: its value, and that it is owned by the call's own memory. -/
def Own (w : World) (base : Nat) (e : TypeId) (v : Value) (xs : List Value) : Prop :=
  w.ownsRow base e 1 v xs.length xs

section
variable {w w' : World} {base : Nat} {e : TypeId} {v : Value} {xs : List Value}
theorem Own.shape (h : Own w base e v xs) : ∃ A c, v = .slice A xs.length c ∧ xs.length ≤ c ∧ c ≤ maxLen := by
  rcases h.2 with ⟨h', h0⟩ | ⟨g, cap, cur, h', _, hg, hle, hm, _, _⟩
  · exact ⟨none, 0, by rw [h', h0], by omega, by unfold maxLen; omega⟩
  · exact ⟨_, _, h', hle, hm⟩
theorem Own.rd {A : Option Addr} {n c : Nat} (h : Own w base e (.slice A n c) xs) : n = xs.length ∧ Rd w w.heap.size A xs.length xs := by
  obtain ⟨A', c', h', _⟩ := h.shape
  simp only [Value.slice.injEq] at h'
  obtain ⟨rfl, rfl, rfl⟩ := h'
  exact ⟨rfl, Rd.of_own h⟩
theorem Own.below (h : Own w base e v xs) {C : Nat} (hb : Below C w w') (hC : w.heap.size ≤ C) : Own w' base e v xs := by
  refine ⟨h.1, ?_⟩
  rcases h.2 with hn | ⟨g, cap, cur, hv, h1, hg, rest⟩
  · exact .inl hn
  · refine .inr ⟨g, cap, cur, hv, h1, ?_, rest⟩
    rw [hb.block g (by have := (Array.getElem?_eq_some_iff.1 hg).1; omega)]
    exact hg
theorem Own.drewN (h : Own w base e v xs) (k : Nat) : Own (w.drewN k) base e v xs := h
theorem Own.lt (h : Own w base e v xs) : ∀ k, v.ownBlock = some k → base ≤ k ∧ k < w.heap.size := World.ownsRow.lt h
theorem Own.kept (h : Own w base e v xs) {row : Option Nat} (hg : w.grownBy w' row) (hne : v.ownBlock = none ∨ v.ownBlock ≠ row) : Own w' base e v xs := World.ownsRow.kept h hg hne
theorem Own.base_le (h : Own w base e v xs) {b : Nat} (hb : b ≤ base) : Own w b e v xs := by
  refine ⟨h.1, ?_⟩
  rcases h.2 with hn | ⟨g, cap, cur, hv, h1, rest⟩
  · exact .inl hn
  · exact .inr ⟨g, cap, cur, hv, by omega, rest⟩
/-- Two slices lie in different blocks. -/
def Apart (v v' : Value) : Prop := ∀ k, v.ownBlock = some k → v'.ownBlock ≠ some k
theorem Apart.symm {v v' : Value} (h : Apart v v') : Apart v' v := fun k hk hk' => h k hk' hk
theorem Apart.or {v v' : Value} (h : Apart v v') : v.ownBlock = none ∨ v.ownBlock ≠ v'.ownBlock := by
  cases hv : v.ownBlock with
  | none => exact .inl rfl
  | some k => exact .inr (fun e => h k hv e.symm)
/-- Two owned rows, the second one made behind the first. -/
theorem Own.apart {base' : Nat} {e' : TypeId} {v' : Value} {xs' : List Value} {w0 : World} (h : Own w0 base e v xs) (h' : Own w base' e' v' xs') (hb : w0.heap.size ≤ base') : Apart v v' := by
  intro k hk hk'
  have h1 := h.lt k hk
  have h2 := h'.lt k hk'
  omega
theorem Own.grown {v' : Value} (h : Own w base e v xs) (hg : w.grownBy w' (Value.ownBlock v')) (hne : Apart v v') : Own w' base e v xs := h.kept hg hne.or
/-- Behind an append: the slice that came of it is apart from what the elder one was apart from. -/
theorem Own.apart_grown {v1 v2 : Value} (h : Own w base e v xs) (hne : Apart v v1) (hor : v2.ownBlock = v1.ownBlock ∨ ∃ k, v2.ownBlock = some k ∧ w.heap.size ≤ k) : Apart v v2 := by
  intro k hk hk'
  rcases hor with h1 | h1
  · exact hne k hk (h1 ▸ hk')
  · have h2 := h.lt k hk
    obtain ⟨j, hj, hle⟩ := h1
    rw [hj] at hk'
    injection hk' with hk'
    omega
end

theorem grown_trans' {a b c : World} {row : Option Nat} (h : a.grownBy b row) (k : b.grownBy c row) : a.grownBy c row :=
  ⟨k.os.trans h.os, k.tape.trans h.tape, k.output.trans h.output, Nat.le_trans h.size k.size, fun i hi hne => (k.block i (Nat.lt_of_lt_of_le hi h.size) hne).trans (h.block i hi hne)⟩
theorem grown_drewN {a w : World} {row : Option Nat} (h : a.grownBy w row) (n : Nat) : a.grownBy (w.drewN n) row := ⟨h.os, h.tape, h.output, h.size, h.block⟩

def i64s (xs : List Int) : List Value := xs.map (Value.int .i64)
@[simp] theorem i64s_length (xs : List Int) : (i64s xs).length = xs.length := by simp [i64s]
theorem i64s_get (xs : List Int) (k : Nat) (hk : k < xs.length) : (i64s xs)[k]? = some (.int .i64 xs[k]) := by simp [i64s, hk]
theorem i64s_nil : i64s [] = [] := rfl
theorem i64s_snoc (xs : List Int) (x : Int) : i64s (xs ++ [x]) = i64s xs ++ [.int .i64 x] := by simp [i64s]

theorem i64s_get? {xs : List Int} {k : Nat} {u : Value} (h : (i64s xs)[k]? = some u) : ∃ x, u = .int .i64 x ∧ xs[k]? = some x := by
  simp only [i64s, List.getElem?_map, Option.map_eq_some_iff] at h
  obtain ⟨x, hx, rfl⟩ := h
  exact ⟨x, rfl, hx⟩
/-- The k-th number of a list that is read, as a plain variable; what it is of the list stays hidden from the walk. -/
theorem Rd.atI {w : World} {B n k : Nat} {A : Option Addr} {xs : List Int} (h : Rd w B A n (i64s xs)) (hk : k < n) :
    ∃ (b off : Nat) (x : Int), A = some ⟨b, off, none⟩ ∧ b < B ∧ Hid (xs[k]? = some x) ∧ w.cell? ⟨b, off + k, none⟩ = some (.int .i64 x) := by
  obtain ⟨b, off, u, hA, hb, hu, hc⟩ := h.at_ hk
  obtain ⟨x, rfl, hx⟩ := i64s_get? hu
  exact ⟨b, off, x, hA, hb, hx, hc⟩
theorem Rd.lenI {w : World} {B n : Nat} {A : Option Addr} {xs : List Int} (h : Rd w B A n (i64s xs)) : Hid (xs.length = n) := by
  have := h.len; rw [i64s_length] at this; exact this
/-- The k-th number of an owned list. -/
theorem Own.atI {w : World} {base : Nat} {e : TypeId} {A : Option Addr} {n c k : Nat} {xs : List Int} (h : Own w base e (.slice A n c) (i64s xs)) (hk : k < xs.length) :
    ∃ (g : Nat) (x : Int), A = some ⟨g, 0, none⟩ ∧ Hid (xs[k]? = some x) ∧ w.cell? ⟨g, k, none⟩ = some (.int .i64 x) ∧ w.frozen? ⟨g, k, none⟩ = false := by
  have h' := h
  unfold Own at h'
  rw [i64s_length] at h'
  rcases h'.2 with ⟨_, h0⟩ | ⟨g, cap, cur, hv, _, hg, hle, _, _, ht⟩
  · omega
  · simp only [Value.slice.injEq] at hv
    obtain ⟨rfl, rfl, rfl⟩ := hv
    have hx : xs[k]? = some xs[k] := List.getElem?_eq_getElem hk
    refine ⟨g, xs[k], rfl, hx, ?_, h'.frozenAt k⟩
    rw [h'.cellAt k (by omega)]
    simp [i64s, hk]
/-- A number is stored into an owned list. -/
theorem Own.stored {w : World} {base : Nat} {e : TypeId} {A : Option Addr} {n c g : Nat} {xs : List Int} (h : Own w base e (.slice A n c) (i64s xs)) (hA : A = some ⟨g, 0, none⟩) (k : Nat) (x : Int) :
    Own (w.setCell ⟨g, k, none⟩ (.int .i64 x)) base e (.slice A n c) (i64s (xs.set k x)) ∧ w.grownBy (w.setCell ⟨g, k, none⟩ (.int .i64 x)) (Value.ownBlock (.slice A n c)) := by
  subst hA
  have hl := h.rd.1
  unfold Own at h
  rw [← hl] at h
  have h1 := h.stored k (.int .i64 x)
  refine ⟨?_, by simpa [Value.ownBlock] using h1.2⟩
  unfold Own
  have e1 : (i64s xs).set k (.int .i64 x) = i64s (xs.set k x) := by simp [i64s, List.map_set]
  rw [e1] at h1
  have : (i64s (xs.set k x)).length = n := by rw [i64s_length, List.length_set, hl, i64s_length]
  rw [this]
  exact h1.1
theorem take_succ_of {α : Type} {xs : List α} {k : Nat} {x : α} (h : xs[k]? = some x) : xs.take (k + 1) = xs.take k ++ [x] := by
  rw [List.take_add_one, h]; rfl

theorem set_append_here {α : Type} (xs ys : List α) (y z : α) (k : Nat) (h : xs.length = k) : (xs ++ y :: ys).set k z = xs ++ z :: ys := by
  subst h; simp

/-- A list that is being filled: the first k are there, the rest are z. -/
def filled {α : Type} (z : α) (xs : List α) (k n : Nat) : List α := xs.take k ++ List.replicate (n - k) z
theorem filled_zero {α : Type} (z : α) (xs : List α) (n : Nat) : filled z xs 0 n = List.replicate n z := by simp [filled]
theorem filled_all {α : Type} (z : α) (xs : List α) (n : Nat) (h : xs.length = n) : filled z xs n n = xs := by subst h; simp [filled]
theorem filled_len {α : Type} (z : α) (xs : List α) (k n : Nat) (h : xs.length = n) (hk : k ≤ n) : (filled z xs k n).length = n := by simp [filled]; omega
theorem filled_set {α : Type} (z : α) (xs : List α) (k n : Nat) (x : α) (h : xs[k]? = some x) (hl : xs.length = n) : (filled z xs k n).set k x = filled z xs (k + 1) n := by
  have hk : k < xs.length := (List.getElem?_eq_some_iff.1 h).1
  unfold filled
  rw [take_succ_of h, show n - k = (n - (k + 1)) + 1 from by omega, List.replicate_succ, set_append_here _ _ _ _ _ (by simp; omega)]
  simp
theorem filled_at {α : Type} (z : α) (xs : List α) (k n : Nat) (hk : k < n) (hl : xs.length = n) : ∃ u, (filled z xs k n)[k]? = some u := by
  have : k < (filled z xs k n).length := by rw [filled_len z xs k n hl (by omega)]; exact hk
  exact ⟨_, List.getElem?_eq_getElem this⟩

theorem madeCells_one (z : Value) (n : Nat) : (madeCells #[z] n).toList = List.replicate n z := by
  apply List.ext_getElem
  · simp [madeCells]
  · intro i h1 h2
    simp [madeCells, Nat.mod_one]

theorem own_new (w : World) {base : Nat} (e : TypeId) (hb : base ≤ w.heap.size) : (w.alloc (.cells #[] e)).ownsRow base e 1 (.slice (some ⟨w.heap.size, 0, none⟩) 0 0) 0 [] :=
  World.ownsRow_made w #[] 0 hb (by unfold maxLen; omega) rfl
/-- The one new cell that an append of one element lays. -/
theorem one_cell (w : World) (e : TypeId) (x : Value) : ∀ j u, [x][j]? = some u → (w.alloc (.cells #[x] e)).cell? ((⟨w.heap.size, 0, none⟩ : Addr).add j) = some u := by
  intro j u hj
  match j, hj with
  | 0, hj => simp at hj; subst hj; simp [Addr.add]
theorem one_one (x : Value) (h : x.oneCell' = true) : ∀ u ∈ [x], u.oneCell' = true := by
  intro u hu
  obtain rfl := List.mem_singleton.1 hu
  exact h

theorem ret_bool {a b : Bool} (h : a = b) : Ending.returned (.bool a) = .returned (.bool b) := by rw [h]
theorem ret_int {k : IntKind} {a b : Int} (h : a = b) : Ending.returned (.int k a) = .returned (.int k b) := by rw [h]
end Go.Proofs.YtijafnejdibdlaaGreatDoor
