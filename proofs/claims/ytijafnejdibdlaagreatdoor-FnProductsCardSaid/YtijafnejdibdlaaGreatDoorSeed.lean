/- Seeds: values, blocks in memory, how a seed moves and what word it gives. -/
import Derived.Test.YtijafnejdibdlaaGreatDoorSmall
import Derived.StillTailTactics
namespace Go.Proofs.YtijafnejdibdlaaGreatDoor
open Go.RowKit

/-- A seed. -/
structure Sd where
  kind : Int
  a : Int
  b : Int
def Sd.val (s : Sd) : Value := .agg #[.int .i64 s.kind, .int .u64 s.a, .int .u64 s.b]
def Sd.zero : Sd := ⟨0, 0, 0⟩
/-- The numbers of a seed fit. -/
def Sd.ok (s : Sd) : Prop := (-9223372036854775808 ≤ s.kind ∧ s.kind ≤ 9223372036854775807) ∧ (0 ≤ s.a ∧ s.a < 18446744073709551616) ∧ (0 ≤ s.b ∧ s.b < 18446744073709551616)
section
variable {w w' : World} {g : Nat} {s : Sd}
theorem grown_set (w : World) (g i : Nat) (u : Value) : w.grownBy (w.setCell ⟨g, i, none⟩ u) (some g) :=
  ⟨rfl, rfl, rfl, by simp [World.setCell], fun k _ hk => Below.heap_setCell w _ u k (fun e => hk (by rw [e]))⟩
end

theorem size_alloc' (w : World) (o : Obj) : (w.alloc o).heap.size = w.heap.size + 1 := by
  show (w.heap.push o).size = _
  simp
def mixI (a : Int) : Int :=
  let x := IntKind.u64.wrap (bits .xor .u64 a (a / 1073741824) * 13787848793156543929)
  let y := IntKind.u64.wrap (bits .xor .u64 x (x / 134217728) * 10723151780598845931)
  bits .xor .u64 y (y / 2147483648)
def rot24 (a : Int) : Int := bits .or .u64 (IntKind.u64.wrap (a * 16777216)) (a / 1099511627776)
def rot37 (a : Int) : Int := bits .or .u64 (IntKind.u64.wrap (a * 137438953472)) (a / 134217728)
/-- Whether a seed is valid. -/
def validB (s : Sd) : Bool :=
  if s.kind = 0 then s.b % 2 == 1 else if s.kind = 1 then s.a != 0 else if s.kind = 3 then s.a != 0 || s.b != 0 else s.kind == 2
/-- The digits above of a word, and how a seed moves. -/
def up32 (x : Int) : Int := x / 4294967296
def lineA (s : Sd) : Int := IntKind.u64.wrap (IntKind.u64.wrap (6364136223846793005 * s.a) + s.b)
def sh1 (a : Int) : Int := bits .xor .u64 a (IntKind.u64.wrap (a * 8192))
def sh2 (a : Int) : Int := bits .xor .u64 a (a / 128)
def sh3 (a : Int) : Int := bits .xor .u64 a (IntKind.u64.wrap (a * 131072))
def shiftA (a : Int) : Int := sh3 (sh2 (sh1 a))
def countA (a : Int) : Int := IntKind.u64.wrap (a + 11400714819323198485)
def pairX (s : Sd) : Int := bits .xor .u64 s.b s.a
def pairA (s : Sd) : Int := bits .xor .u64 (bits .xor .u64 (rot24 s.a) (pairX s)) (IntKind.u64.wrap (pairX s * 65536))
def nextSd (s : Sd) : Sd :=
  if s.kind = 0 then ⟨s.kind, lineA s, s.b⟩ else if s.kind = 1 then ⟨s.kind, shiftA s.a, s.b⟩
  else if s.kind = 2 then ⟨s.kind, countA s.a, s.b⟩ else ⟨s.kind, pairA s, rot37 (pairX s)⟩
def wordOf (s : Sd) : Int :=
  if s.kind = 0 then up32 (lineA s) else if s.kind = 1 then up32 (IntKind.u64.wrap (shiftA s.a * 2685821657736338717))
  else if s.kind = 2 then up32 (mixI (IntKind.u64.wrap (countA s.a + s.b))) else up32 (IntKind.u64.wrap (s.a + s.b))
theorem wrap64_up (x : Int) (h : 0 ≤ x) (h2 : x < 18446744073709551616) : wrap64 (x / 4294967296) = up32 x := by
  unfold up32 wrap64
  omega
theorem u64_ge (x : Int) : 0 ≤ IntKind.u64.wrap x := by
  simp only [IntKind.wrap, IntKind.signed, IntKind.bits]
  simp
  omega
theorem u64_lt (x : Int) : IntKind.u64.wrap x < 18446744073709551616 := by
  simp only [IntKind.wrap, IntKind.signed, IntKind.bits]
  simp
  omega
theorem xor_ge (a b : Int) : 0 ≤ bits .xor .u64 a b := u64_ge _
theorem xor_lt (a b : Int) : bits .xor .u64 a b < 18446744073709551616 := u64_lt _
theorem or_ge (a b : Int) : 0 ≤ bits .or .u64 a b := u64_ge _
theorem or_lt (a b : Int) : bits .or .u64 a b < 18446744073709551616 := u64_lt _
theorem mixI_ge (a : Int) : 0 ≤ mixI a := xor_ge _ _
theorem mixI_lt (a : Int) : mixI a < 18446744073709551616 := xor_lt _ _
theorem up32_mod (x : Int) (h : 0 ≤ x) (h2 : x < 18446744073709551616) : x / 4294967296 % 4294967296 = up32 x := by
  unfold up32
  omega
theorem grown_trans {a b c : World} {g : Nat} (h : a.grownBy b (some g)) (k : b.grownBy c (some g)) : a.grownBy c (some g) :=
  ⟨k.os.trans h.os, k.tape.trans h.tape, k.output.trans h.output, Nat.le_trans h.size k.size, fun i hi hn => (k.block i (Nat.lt_of_lt_of_le hi h.size) hn).trans (h.block i hi hn)⟩
theorem grown_rfl' (a : World) (r : Option Nat) : a.grownBy a r := ⟨rfl, rfl, rfl, Nat.le_refl _, fun _ _ _ => rfl⟩
theorem grown_drew' (a : World) (r : Option Nat) : a.grownBy a.drew r := ⟨rfl, rfl, rfl, Nat.le_refl _, fun _ _ _ => rfl⟩
theorem u64_id (x : Int) (h : 0 ≤ x ∧ x < 18446744073709551616) : IntKind.u64.wrap x = x := by rw [IntKind.wrap_u64]; omega
theorem rot24_ok (a : Int) : 0 ≤ rot24 a ∧ rot24 a < 18446744073709551616 := ⟨or_ge _ _, or_lt _ _⟩
theorem rot37_ok (a : Int) : 0 ≤ rot37 a ∧ rot37 a < 18446744073709551616 := ⟨or_ge _ _, or_lt _ _⟩
/-- A seed that moves stays one whose numbers fit; its kind stays. -/
theorem nextSd_ok {s : Sd} (h : s.ok) : (nextSd s).ok := by
  obtain ⟨hk, ha, hb⟩ := h
  unfold nextSd
  split
  · exact ⟨hk, ⟨u64_ge _, u64_lt _⟩, hb⟩
  split
  · exact ⟨hk, ⟨xor_ge _ _, xor_lt _ _⟩, hb⟩
  split
  · exact ⟨hk, ⟨u64_ge _, u64_lt _⟩, hb⟩
  · exact ⟨hk, ⟨xor_ge _ _, xor_lt _ _⟩, rot37_ok _⟩
theorem up32_ok (x : Int) (h : 0 ≤ x ∧ x < 18446744073709551616) : 0 ≤ up32 x ∧ up32 x < 4294967296 := by
  unfold up32; omega
theorem wordOf_ok (s : Sd) : 0 ≤ wordOf s ∧ wordOf s < 4294967296 := by
  unfold wordOf
  split
  · exact up32_ok _ ⟨u64_ge _, u64_lt _⟩
  split
  · exact up32_ok _ ⟨u64_ge _, u64_lt _⟩
  split
  · exact up32_ok _ ⟨mixI_ge _, mixI_lt _⟩
  · exact up32_ok _ ⟨u64_ge _, u64_lt _⟩
/-- So many words, and the seed behind them. -/
def nthSd : Nat → Sd → Sd
  | 0, s => s
  | n + 1, s => nthSd n (nextSd s)
def wordsN : Nat → Sd → List Int
  | 0, _ => []
  | n + 1, s => wordOf s :: wordsN n (nextSd s)
theorem nthSd_ok {s : Sd} (h : s.ok) : ∀ n, (nthSd n s).ok := by
  intro n
  induction n generalizing s with
  | zero => exact h
  | succ n ih => exact ih (nextSd_ok h)
theorem nthSd_succ (n : Nat) (s : Sd) : nthSd (n + 1) s = nextSd (nthSd n s) := by
  induction n generalizing s with
  | zero => rfl
  | succ n ih => exact ih (nextSd s)
theorem wordsN_succ (n : Nat) (s : Sd) : wordsN (n + 1) s = wordsN n s ++ [wordOf (nthSd n s)] := by
  induction n generalizing s with
  | zero => rfl
  | succ n ih => rw [wordsN, ih (nextSd s)]; rfl
theorem wordsN_length (n : Nat) (s : Sd) : (wordsN n s).length = n := by
  induction n generalizing s with
  | zero => rfl
  | succ n ih => rw [wordsN, List.length_cons, ih]
end Go.Proofs.YtijafnejdibdlaaGreatDoor
