/- Seeds: values, blocks in memory, how a seed moves and what word it gives. -/
import Derived.Test.YtgemcjcghnpmdaaSmall
import Derived.StillTailTactics
namespace Go.Proofs.Ytgemcjcghnpmdaa
open Go.RowKit

/-- A seed. -/
structure Sd where
  kind : Int
  a : Int
  b : Int
def Sd.val (s : Sd) : Value := .agg #[.int .i64 s.kind, .int .u64 s.a, .int .u64 s.b]
def Sd.zero : Sd := ⟨0, 0, 0⟩
/-- The numbers of a seed fit. -/
def Sd.ok (s : Sd) : Prop := (-9223372036854775808 ≤ s.kind ∧ s.kind ≤ 9223372036854775807) ∧ (0 ≤ s.a ∧ s.a < 18446744073709551616) ∧ (0 ≤ s.b ∧ s.b < 18446744073709551616)
/-- Block g holds a seed. -/
def SeedAt (w : World) (g : Nat) (s : Sd) : Prop := w.heap[g]? = some (.cells #[.int .i64 s.kind, .int .u64 s.a, .int .u64 s.b] 26 (0, 0))
section
variable {w w' : World} {g : Nat} {s : Sd}
theorem SeedAt.lt (h : SeedAt w g s) : g < w.heap.size := (Array.getElem?_eq_some_iff.1 h).1
theorem SeedAt.c0 (h : SeedAt w g s) : w.cell? ⟨g, 0, none⟩ = some (.int .i64 s.kind) := cell_of_row w g 0 _ 26 (0, 0) h
theorem SeedAt.c1 (h : SeedAt w g s) : w.cell? ⟨g, 1, none⟩ = some (.int .u64 s.a) := cell_of_row w g 1 _ 26 (0, 0) h
theorem SeedAt.c2 (h : SeedAt w g s) : w.cell? ⟨g, 2, none⟩ = some (.int .u64 s.b) := cell_of_row w g 2 _ 26 (0, 0) h
theorem SeedAt.fz (h : SeedAt w g s) (i : Nat) : w.frozen? ⟨g, i, none⟩ = false := by
  unfold SeedAt at h
  simp [World.frozen?, h]
theorem SeedAt.below {B : Nat} (h : SeedAt w g s) (hb : Below B w w') (hg : g < B) : SeedAt w' g s := (hb.block g hg).trans h
theorem SeedAt.grown {row : Option Nat} (h : SeedAt w g s) (hb : w.grownBy w' row) (hg : some g ≠ row) : SeedAt w' g s := (hb.block g h.lt hg).trans h
theorem SeedAt.drewN (h : SeedAt w g s) (n : Nat) : SeedAt (w.drewN n) g s := h
theorem SeedAt.drew (h : SeedAt w g s) : SeedAt w.drew g s := h
theorem SeedAt.alloc (h : SeedAt w g s) (o : Obj) : SeedAt (w.alloc o) g s := (Below.heap_alloc w o g h.lt).trans h
theorem SeedAt.new (w : World) (k a b : Int) : SeedAt (w.alloc (.cells #[.int .i64 k, .int .u64 a, .int .u64 b] 26)) w.heap.size ⟨k, a, b⟩ := heap_alloc_new w _
theorem SeedAt.far (h : SeedAt w g s) {p : Addr} (hp : g ≠ p.block) (u : Value) : SeedAt (w.setCell p u) g s := (Below.heap_setCell w p u g hp).trans h
theorem SeedAt.set_a (h : SeedAt w g s) (a : Int) : SeedAt (w.setCell ⟨g, 1, none⟩ (.int .u64 a)) g ⟨s.kind, a, s.b⟩ := by
  unfold SeedAt at h ⊢
  simp [World.setCell, Array.getElem?_modify, h]
theorem SeedAt.set_b (h : SeedAt w g s) (b : Int) : SeedAt (w.setCell ⟨g, 2, none⟩ (.int .u64 b)) g ⟨s.kind, s.a, b⟩ := by
  unfold SeedAt at h ⊢
  simp [World.setCell, Array.getElem?_modify, h]
theorem SeedAt.set_k (h : SeedAt w g s) (k : Int) : SeedAt (w.setCell ⟨g, 0, none⟩ (.int .i64 k)) g ⟨k, s.a, s.b⟩ := by
  unfold SeedAt at h ⊢
  simp [World.setCell, Array.getElem?_modify, h]
theorem grown_set (w : World) (g i : Nat) (u : Value) : w.grownBy (w.setCell ⟨g, i, none⟩ u) (some g) :=
  ⟨rfl, rfl, rfl, by simp [World.setCell], fun k _ hk => Below.heap_setCell w _ u k (fun e => hk (by rw [e]))⟩
end

theorem size_alloc' (w : World) (o : Obj) : (w.alloc o).heap.size = w.heap.size + 1 := by
  show (w.heap.push o).size = _
  simp
theorem SeedAt.new1 (w : World) (o : Obj) (k a b : Int) : SeedAt ((w.alloc o).alloc (.cells #[.int .i64 k, .int .u64 a, .int .u64 b] 26)) (w.heap.size + 1) ⟨k, a, b⟩ := by
  have h := SeedAt.new (w.alloc o) k a b
  rwa [size_alloc'] at h
theorem run_loadSeed {w : World} {g : Nat} {s : Sd} (h : SeedAt w g s) : (loadVar 26 ⟨g, 0, none⟩).run Try.prog w = .ok s.val w :=
  run_loadVar_row w g 26 26 _ (0, 0) _ h Try.underlying26 rfl (by kernel_rfl)
theorem results_s1 {fn : Func} {t : Tmp} {w : World} {g : Nat} {s : Sd} (h : fn.results = #[.cell t 26]) (tmps : Array Value) (hp : tmps.getD t undef = .pointer (some ⟨g, 0, none⟩)) (hs : SeedAt w g s) :
    (results fn tmps).run Try.prog w = .ok s.val w := by
  have hp' := hp
  simp only [Array.getD_eq_getD_getElem?] at hp'
  simp [results, h, hp', asAddr, run_loadSeed hs]
theorem results_s2 {fn : Func} {t u : Tmp} {w : World} {g : Nat} {s : Sd} (h : fn.results = #[.cell t 26, .tmp u]) (tmps : Array Value) (hp : tmps.getD t undef = .pointer (some ⟨g, 0, none⟩)) (hs : SeedAt w g s) :
    (results fn tmps).run Try.prog w = .ok (.tuple #[s.val, tmps.getD u undef]) w := by
  have hp' := hp
  simp only [Array.getD_eq_getD_getElem?] at hp'
  simp [results, h, hp', asAddr, run_loadSeed hs]
theorem results_s3 {fn : Func} {t u v : Tmp} {w : World} {g : Nat} {s : Sd} (h : fn.results = #[.cell t 26, .tmp u, .tmp v]) (tmps : Array Value) (hp : tmps.getD t undef = .pointer (some ⟨g, 0, none⟩)) (hs : SeedAt w g s) :
    (results fn tmps).run Try.prog w = .ok (.tuple #[s.val, tmps.getD u undef, tmps.getD v undef]) w := by
  have hp' := hp
  simp only [Array.getD_eq_getD_getElem?] at hp'
  simp [results, h, hp', asAddr, run_loadSeed hs]

def mixI (a : Int) : Int :=
  let x := IntKind.u64.wrap (bits .xor .u64 a (a / 1073741824) * 13787848793156543929)
  let y := IntKind.u64.wrap (bits .xor .u64 x (x / 134217728) * 10723151780598845931)
  bits .xor .u64 y (y / 2147483648)
def rot24 (a : Int) : Int := bits .or .u64 (IntKind.u64.wrap (a * 16777216)) (a / 1099511627776)
def rot37 (a : Int) : Int := bits .or .u64 (IntKind.u64.wrap (a * 137438953472)) (a / 134217728)
theorem implMix_any (a : Int) (w : World) : Calls Try.prog 70 #[.int .u64 a] w fun e w' => e = .returned (.int .u64 (mixI a)) ∧ w = w' := by
  go_enter Try.func70, Try.ntmps70
  go_wp2
  go_ret
  exact ⟨rfl, rfl⟩
theorem specMix_any (a : Int) (w : World) : Calls Try.prog 55 #[.int .u64 a] w fun e w' => e = .returned (.int .u64 (mixI a)) ∧ w = w' := by
  go_enter Try.func55, Try.ntmps55
  go_wp2
  go_ret
  exact ⟨rfl, rfl⟩
theorem implRot24_any (a : Int) (w : World) : Calls Try.prog 71 #[.int .u64 a, .int .i64 24] w fun e w' => e = .returned (.int .u64 (rot24 a)) ∧ w = w' := by
  have h : bits .and .u64 24 63 = 24 := by decide
  go_enter Try.func71, Try.ntmps71
  go_wp2
  go_ret
  exact ⟨rfl, rfl⟩
theorem implRot37_any (a : Int) (w : World) : Calls Try.prog 71 #[.int .u64 a, .int .i64 37] w fun e w' => e = .returned (.int .u64 (rot37 a)) ∧ w = w' := by
  have h : bits .and .u64 37 63 = 37 := by decide
  go_enter Try.func71, Try.ntmps71
  go_wp2
  go_ret
  exact ⟨rfl, rfl⟩
theorem specRot24_any (a : Int) (w : World) : Calls Try.prog 73 #[.int .u64 a, .int .u64 24] w fun e w' => e = .returned (.int .u64 (rot24 a)) ∧ w = w' := by
  go_enter Try.func73, Try.ntmps73
  go_wp2
  go_ret
  exact ⟨rfl, rfl⟩
theorem specRot37_any (a : Int) (w : World) : Calls Try.prog 73 #[.int .u64 a, .int .u64 37] w fun e w' => e = .returned (.int .u64 (rot37 a)) ∧ w = w' := by
  go_enter Try.func73, Try.ntmps73
  go_wp2
  go_ret
  exact ⟨rfl, rfl⟩

/-- Whether a seed is valid. -/
def validB (s : Sd) : Bool :=
  if s.kind = 0 then s.b % 2 == 1 else if s.kind = 1 then s.a != 0 else if s.kind = 3 then s.a != 0 || s.b != 0 else s.kind == 2
theorem implValid_any (s : Sd) (w : World) (hs : s.ok) : Calls Try.prog 38 #[s.val] w fun e w' => e = .returned (.bool (validB s)) ∧ Below w.heap.size w w' := by
  obtain ⟨k, a, b⟩ := s
  obtain ⟨hk, ha, hb⟩ := hs
  simp only at hk ha hb
  unfold Sd.val
  by_cases h0 : k = 0
  · subst h0
    go_enter Try.func38, Try.ntmps38
    go_wp2
    go_ret
    exact ⟨rfl, (Below.refl _ _).alloc (Nat.le_refl _) _⟩
  by_cases h1 : k = 1
  · subst h1
    go_enter Try.func38, Try.ntmps38
    go_wp2
    go_ret
    exact ⟨rfl, (Below.refl _ _).alloc (Nat.le_refl _) _⟩
  by_cases h3 : k = 3
  · subst h3
    by_cases ha0 : a = 0
    · subst ha0
      go_enter Try.func38, Try.ntmps38
      go_wp2
      go_ret
      exact ⟨by simp [validB], (Below.refl _ _).alloc (Nat.le_refl _) _⟩
    · have q : (a != 0) = true := by simp [ha0]
      go_enter Try.func38, Try.ntmps38
      go_wp2
      go_ret
      exact ⟨by simp [validB, q], (Below.refl _ _).alloc (Nat.le_refl _) _⟩
  · have q0 : (k == 0) = false := by simp [h0]
    have q1 : (k == 1) = false := by simp [h1]
    have q3 : (k == 3) = false := by simp [h3]
    have e : validB ⟨k, a, b⟩ = (k == 2) := by simp [validB, h0, h1, h3]
    rw [e]
    clear h0 h1 h3 e
    go_enter Try.func38, Try.ntmps38
    go_wp2
    go_ret
    exact ⟨rfl, (Below.refl _ _).alloc (Nat.le_refl _) _⟩
theorem specIs_any (s : Sd) (g : Nat) (w : World) (hs : s.ok) (hg : SeedAt w g s) : Calls Try.prog 41 #[.pointer (some ⟨g, 0, none⟩)] w fun e w' => e = .returned (.bool (validB s)) ∧ w' = w := by
  obtain ⟨k, a, b⟩ := s
  obtain ⟨hk, ha, hb⟩ := hs
  simp only at hk ha hb
  have c0 := hg.c0
  have c1 := hg.c1
  have c2 := hg.c2
  simp only at c0 c1 c2
  clear hg
  by_cases h0 : k = 0
  · subst h0
    go_enter Try.func41, Try.ntmps41
    go_wp2
    go_ret
    exact ⟨rfl, rfl⟩
  by_cases h1 : k = 1
  · subst h1
    go_enter Try.func41, Try.ntmps41
    go_wp2
    go_ret
    exact ⟨rfl, rfl⟩
  by_cases h2 : k = 2
  · subst h2
    go_enter Try.func41, Try.ntmps41
    go_wp2
    go_ret
    exact ⟨rfl, rfl⟩
  by_cases h3 : k = 3
  · subst h3
    by_cases ha0 : a = 0
    · subst ha0
      go_enter Try.func41, Try.ntmps41
      go_wp2
      go_ret
      exact ⟨by simp [validB], rfl⟩
    · have q : (a != 0) = true := by simp [ha0]
      go_enter Try.func41, Try.ntmps41
      go_wp2
      go_ret
      exact ⟨by simp [validB, q], rfl⟩
  · have q0 : (k == 0) = false := by simp [h0]
    have q1 : (k == 1) = false := by simp [h1]
    have q2 : (k == 2) = false := by simp [h2]
    have q3 : (k == 3) = false := by simp [h3]
    have e : validB ⟨k, a, b⟩ = false := by simp [validB, h0, h1, h3, h2]
    rw [e]
    clear h0 h1 h3 e h2
    go_enter Try.func41, Try.ntmps41
    go_wp2
    go_ret
    exact ⟨rfl, rfl⟩
/-- The digits above of a word, and how a seed moves. -/
def up32 (x : Int) : Int := x / 4294967296
def lineA (s : Sd) : Int := IntKind.u64.wrap (IntKind.u64.wrap (6364136223846793005 * s.a) + s.b)
def sh1 (a : Int) : Int := bits .xor .u64 a (IntKind.u64.wrap (a * 8192))
def sh2 (a : Int) : Int := bits .xor .u64 a (a / 128)
def sh3 (a : Int) : Int := bits .xor .u64 a (IntKind.u64.wrap (a * 131072))
def shiftA (a : Int) : Int := sh3 (sh2 (sh1 a))
def countA (a : Int) : Int := IntKind.u64.wrap (a + 11400714819323198485)
def pairX (s : Sd) : Int := bits .xor .u64 s.b s.a
def pairA (s : Sd) : Int := bits .xor .u64 (bits .xor .u64 (rot24 s.a) (pairX s)) (IntKind.u64.wrap (pairX s * 65536))
def nextSd (s : Sd) : Sd :=
  if s.kind = 0 then ⟨s.kind, lineA s, s.b⟩ else if s.kind = 1 then ⟨s.kind, shiftA s.a, s.b⟩
  else if s.kind = 2 then ⟨s.kind, countA s.a, s.b⟩ else ⟨s.kind, pairA s, rot37 (pairX s)⟩
def wordOf (s : Sd) : Int :=
  if s.kind = 0 then up32 (lineA s) else if s.kind = 1 then up32 (IntKind.u64.wrap (shiftA s.a * 2685821657736338717))
  else if s.kind = 2 then up32 (mixI (IntKind.u64.wrap (countA s.a + s.b))) else up32 (IntKind.u64.wrap (s.a + s.b))
theorem wrap64_up (x : Int) (h : 0 ≤ x) (h2 : x < 18446744073709551616) : wrap64 (x / 4294967296) = up32 x := by
  unfold up32 wrap64
  omega
theorem u64_ge (x : Int) : 0 ≤ IntKind.u64.wrap x := by
  simp only [IntKind.wrap, IntKind.signed, IntKind.bits]
  simp
  omega
theorem u64_lt (x : Int) : IntKind.u64.wrap x < 18446744073709551616 := by
  simp only [IntKind.wrap, IntKind.signed, IntKind.bits]
  simp
  omega
theorem xor_ge (a b : Int) : 0 ≤ bits .xor .u64 a b := u64_ge _
theorem xor_lt (a b : Int) : bits .xor .u64 a b < 18446744073709551616 := u64_lt _
theorem or_ge (a b : Int) : 0 ≤ bits .or .u64 a b := u64_ge _
theorem or_lt (a b : Int) : bits .or .u64 a b < 18446744073709551616 := u64_lt _
theorem mixI_ge (a : Int) : 0 ≤ mixI a := xor_ge _ _
theorem mixI_lt (a : Int) : mixI a < 18446744073709551616 := xor_lt _ _
theorem implNext_any (s : Sd) (w : World) (hs : s.ok) : Calls Try.prog 60 #[s.val] w fun e w' => e = .returned (.tuple #[(nextSd s).val, .int .i64 (wordOf s)]) ∧ Below w.heap.size w w' := by
  obtain ⟨k, a, b⟩ := s
  obtain ⟨hk, ha, hb⟩ := hs
  simp only at hk ha hb
  unfold Sd.val
  by_cases h0 : k = 0
  · subst h0
    go_enter Try.func60, Try.ntmps60
    go_wp2
    rw [wrap64_up _ (u64_ge _) (u64_lt _)]
    (try simp only [Exit.inBlock, Exit.then])
    refine bodyPost_ret (results_s2 rfl _ rfl (SeedAt.new1 _ _ _ _ _)) rfl ?_
    exact ⟨rfl, ((Below.refl _ _).alloc (Nat.le_refl _) _).alloc (by rw [size_alloc']; omega) _⟩
  by_cases h1 : k = 1
  · subst h1
    go_enter Try.func60, Try.ntmps60
    go_wp2
    rw [wrap64_up _ (u64_ge _) (u64_lt _)]
    (try simp only [Exit.inBlock, Exit.then])
    refine bodyPost_ret (results_s2 rfl _ rfl (SeedAt.new1 _ _ _ _ _)) rfl ?_
    exact ⟨rfl, ((Below.refl _ _).alloc (Nat.le_refl _) _).alloc (by rw [size_alloc']; omega) _⟩
  by_cases h2 : k = 2
  · subst h2
    go_enter Try.func60, Try.ntmps60
    go_wp2_with fail
    refine (implMix_any _ _).mono ?_
    rintro _ _ ⟨rfl, rfl⟩
    go_wp2
    rw [wrap64_up _ (mixI_ge _) (mixI_lt _)]
    (try simp only [Exit.inBlock, Exit.then])
    refine bodyPost_ret (results_s2 rfl _ rfl (SeedAt.new1 _ _ _ _ _)) rfl ?_
    exact ⟨rfl, ((Below.refl _ _).alloc (Nat.le_refl _) _).alloc (by rw [size_alloc']; omega) _⟩
  · have q0 : (k == 0) = false := by simp [h0]
    have q1 : (k == 1) = false := by simp [h1]
    have q2 : (k == 2) = false := by simp [h2]
    have en : nextSd ⟨k, a, b⟩ = ⟨k, pairA ⟨k, a, b⟩, rot37 (pairX ⟨k, a, b⟩)⟩ := by simp [nextSd, h0, h1, h2]
    have ew : wordOf ⟨k, a, b⟩ = up32 (IntKind.u64.wrap (a + b)) := by simp [wordOf, h0, h1, h2]
    rw [en, ew]
    clear h0 h1 h2 en ew
    go_enter Try.func60, Try.ntmps60
    go_wp2_with fail
    refine (implRot24_any _ _).mono ?_
    rintro _ _ ⟨rfl, rfl⟩
    go_wp2_with fail
    refine (implRot37_any _ _).mono ?_
    rintro _ _ ⟨rfl, rfl⟩
    go_wp2
    rw [wrap64_up _ (u64_ge _) (u64_lt _)]
    (try simp only [Exit.inBlock, Exit.then])
    refine bodyPost_ret (results_s2 rfl _ rfl (SeedAt.new1 _ _ _ _ _)) rfl ?_
    exact ⟨rfl, ((Below.refl _ _).alloc (Nat.le_refl _) _).alloc (by rw [size_alloc']; omega) _⟩
theorem up32_mod (x : Int) (h : 0 ≤ x) (h2 : x < 18446744073709551616) : x / 4294967296 % 4294967296 = up32 x := by
  unfold up32
  omega
theorem grown_trans {a b c : World} {g : Nat} (h : a.grownBy b (some g)) (k : b.grownBy c (some g)) : a.grownBy c (some g) :=
  ⟨k.os.trans h.os, k.tape.trans h.tape, k.output.trans h.output, Nat.le_trans h.size k.size, fun i hi hn => (k.block i (Nat.lt_of_lt_of_le hi h.size) hn).trans (h.block i hi hn)⟩
theorem grown_rfl' (a : World) (r : Option Nat) : a.grownBy a r := ⟨rfl, rfl, rfl, Nat.le_refl _, fun _ _ _ => rfl⟩
theorem grown_drew' (a : World) (r : Option Nat) : a.grownBy a.drew r := ⟨rfl, rfl, rfl, Nat.le_refl _, fun _ _ _ => rfl⟩
set_option maxRecDepth 20000 in
theorem specNext_0 (a b : Int) (g : Nat) (w : World) (_ha : 0 ≤ a ∧ a < 18446744073709551616) (_hb : 0 ≤ b ∧ b < 18446744073709551616) (hg : SeedAt w g ⟨0, a, b⟩) : Calls Try.prog 63 #[.pointer (some ⟨g, 0, none⟩)] w fun e w' => e = .returned (.int .u32 (wordOf ⟨0, a, b⟩)) ∧ SeedAt w' g (nextSd ⟨0, a, b⟩) ∧ w.grownBy w' (some g) := by
  have c0 := hg.c0
  have c1 := hg.c1
  have c2 := hg.c2
  have f1 := hg.fz 1
  have f2 := hg.fz 2
  simp only at c0 c1 c2
  go_enter Try.func63, Try.ntmps63
  go_wp2
  go_still_tail 13, (by kernel_rfl)
  change wpList _ _ _ _ _ w.drew
  go_wp2
  rw [up32_mod _ (u64_ge _) (u64_lt _)]
  go_ret
  exact ⟨rfl, hg.drew.set_a _, grown_trans (grown_drew' _ _) (grown_set _ _ _ _)⟩
set_option maxRecDepth 20000 in
theorem specNext_1 (a b : Int) (g : Nat) (w : World) (_ha : 0 ≤ a ∧ a < 18446744073709551616) (_hb : 0 ≤ b ∧ b < 18446744073709551616) (hg : SeedAt w g ⟨1, a, b⟩) : Calls Try.prog 63 #[.pointer (some ⟨g, 0, none⟩)] w fun e w' => e = .returned (.int .u32 (wordOf ⟨1, a, b⟩)) ∧ SeedAt w' g (nextSd ⟨1, a, b⟩) ∧ w.grownBy w' (some g) := by
  have c0 := hg.c0
  have c1 := hg.c1
  have c2 := hg.c2
  have f1 := hg.fz 1
  have f2 := hg.fz 2
  simp only at c0 c1 c2
  go_enter Try.func63, Try.ntmps63
  go_wp2
  go_still_tail 12, (by kernel_rfl)
  change wpList _ _ _ _ _ w.drew
  go_wp2
  have hg1 : SeedAt (w.setCell ⟨g, 1, none⟩ (.int .u64 (bits .xor .u64 a (IntKind.u64.wrap (a * 8192))))).drew g ⟨1, sh1 a, b⟩ := hg.set_a _
  have gr1 : w.grownBy (w.setCell ⟨g, 1, none⟩ (.int .u64 (bits .xor .u64 a (IntKind.u64.wrap (a * 8192))))).drew (some g) := grown_trans (grown_set _ _ _ _) (grown_drew' _ _)
  generalize (w.setCell ⟨g, 1, none⟩ (.int .u64 (bits .xor .u64 a (IntKind.u64.wrap (a * 8192))))).drew = w1 at hg1 gr1 ⊢
  have d0 := hg1.c0
  have d1 := hg1.c1
  have e1 := hg1.fz 1
  simp only at d0 d1
  go_still_tail 12, (by kernel_rfl)
  change wpList _ _ _ _ _ (World.drew _)
  go_wp2
  have hg2 : SeedAt (w1.setCell ⟨g, 1, none⟩ (.int .u64 (bits .xor .u64 (sh1 a) (sh1 a / 128)))).drew g ⟨1, sh2 (sh1 a), b⟩ := hg1.set_a _
  have gr2 : w.grownBy (w1.setCell ⟨g, 1, none⟩ (.int .u64 (bits .xor .u64 (sh1 a) (sh1 a / 128)))).drew (some g) := grown_trans gr1 (grown_trans (grown_set _ _ _ _) (grown_drew' _ _))
  generalize (w1.setCell ⟨g, 1, none⟩ (.int .u64 (bits .xor .u64 (sh1 a) (sh1 a / 128)))).drew = w2 at hg2 gr2 ⊢
  have x0 := hg2.c0
  have x1 := hg2.c1
  have y1 := hg2.fz 1
  simp only at x0 x1
  go_still_tail 12, (by kernel_rfl)
  change wpList _ _ _ _ _ (World.drew _)
  go_wp2
  rw [up32_mod _ (u64_ge _) (u64_lt _)]
  go_ret
  exact ⟨rfl, hg2.set_a _, grown_trans gr2 (grown_trans (grown_set _ _ _ _) (grown_drew' _ _))⟩
set_option maxRecDepth 20000 in
theorem specNext_2 (a b : Int) (g : Nat) (w : World) (_ha : 0 ≤ a ∧ a < 18446744073709551616) (_hb : 0 ≤ b ∧ b < 18446744073709551616) (hg : SeedAt w g ⟨2, a, b⟩) : Calls Try.prog 63 #[.pointer (some ⟨g, 0, none⟩)] w fun e w' => e = .returned (.int .u32 (wordOf ⟨2, a, b⟩)) ∧ SeedAt w' g (nextSd ⟨2, a, b⟩) ∧ w.grownBy w' (some g) := by
  have c0 := hg.c0
  have c1 := hg.c1
  have c2 := hg.c2
  have f1 := hg.fz 1
  have f2 := hg.fz 2
  simp only at c0 c1 c2
  go_enter Try.func63, Try.ntmps63
  go_wp2_with fail
  have hg1 : SeedAt (w.setCell ⟨g, 1, none⟩ (.int .u64 (IntKind.u64.wrap (a + 11400714819323198485)))) g ⟨2, countA a, b⟩ := hg.set_a _
  have gr1 : w.grownBy (w.setCell ⟨g, 1, none⟩ (.int .u64 (IntKind.u64.wrap (a + 11400714819323198485)))) (some g) := grown_set _ _ _ _
  generalize (w.setCell ⟨g, 1, none⟩ (.int .u64 (IntKind.u64.wrap (a + 11400714819323198485)))) = w1 at hg1 gr1 ⊢
  have d0 := hg1.c0
  have d1 := hg1.c1
  have d2 := hg1.c2
  simp only at d0 d1 d2
  go_still_tail 9, (by kernel_rfl)
  change wpList _ _ _ _ _ (World.drew _)
  go_wp2_with fail
  refine (specMix_any _ _).mono ?_
  rintro _ _ ⟨rfl, rfl⟩
  go_wp2
  rw [up32_mod _ (mixI_ge _) (mixI_lt _)]
  go_ret
  exact ⟨rfl, hg1.drew, grown_trans gr1 (grown_drew' _ _)⟩
set_option maxRecDepth 20000 in
theorem specNext_3 (k a b : Int) (g : Nat) (w : World) (h0 : ¬ k = 0) (h1 : ¬ k = 1) (h2 : ¬ k = 2) (_ha : 0 ≤ a ∧ a < 18446744073709551616) (_hb : 0 ≤ b ∧ b < 18446744073709551616) (hg : SeedAt w g ⟨k, a, b⟩) : Calls Try.prog 63 #[.pointer (some ⟨g, 0, none⟩)] w fun e w' => e = .returned (.int .u32 (wordOf ⟨k, a, b⟩)) ∧ SeedAt w' g (nextSd ⟨k, a, b⟩) ∧ w.grownBy w' (some g) := by
  have c0 := hg.c0
  have c1 := hg.c1
  have c2 := hg.c2
  have f1 := hg.fz 1
  have f2 := hg.fz 2
  simp only at c0 c1 c2
  have q0 : (k == 0) = false := by simp [h0]
  have q1 : (k == 1) = false := by simp [h1]
  have q2 : (k == 2) = false := by simp [h2]
  have en : nextSd ⟨k, a, b⟩ = ⟨k, pairA ⟨k, a, b⟩, rot37 (pairX ⟨k, a, b⟩)⟩ := by simp [nextSd, h0, h1, h2]
  have ew : wordOf ⟨k, a, b⟩ = up32 (IntKind.u64.wrap (a + b)) := by simp [wordOf, h0, h1, h2]
  rw [en, ew]
  clear h0 h1 h2 en ew
  go_enter Try.func63, Try.ntmps63
  go_wp2_with fail
  go_still_tail 11, (by kernel_rfl)
  change wpList _ _ _ _ _ (World.drew _)
  go_wp2_with fail
  have hg1 : SeedAt w.drew g ⟨k, a, b⟩ := hg
  have gr1 : w.grownBy w.drew (some g) := grown_drew' _ _
  generalize w.drew = w1 at hg1 gr1 ⊢
  have d1 := hg1.c1
  have d2 := hg1.c2
  simp only at d1 d2
  go_still_tail 9, (by kernel_rfl)
  change wpList _ _ _ _ _ (World.drew _)
  go_wp2_with fail
  have hg2 : SeedAt w1.drew g ⟨k, a, b⟩ := hg1
  have gr2 : w.grownBy w1.drew (some g) := grown_trans gr1 (grown_drew' _ _)
  generalize w1.drew = w2 at hg2 gr2 ⊢
  have x1 := hg2.c1
  have x2 := hg2.c2
  have y1 := hg2.fz 1
  have y2 := hg2.fz 2
  simp only at x1 x2
  go_wp2_with fail
  refine (specRot24_any _ _).mono ?_
  rintro _ _ ⟨rfl, rfl⟩
  go_wp2_with fail
  refine (specRot37_any _ _).mono ?_
  rintro _ _ ⟨rfl, rfl⟩
  go_wp2
  go_ret
  refine ⟨congrArg Ending.returned (congrArg (Value.int .u32) ?_), (hg2.set_a _).set_b _, grown_trans gr2 (grown_trans (grown_set _ _ _ _) (grown_set _ _ _ _))⟩
  exact up32_mod _ (u64_ge _) (u64_lt _)
theorem specNext_any (s : Sd) (g : Nat) (w : World) (hs : s.ok) (hg : SeedAt w g s) : Calls Try.prog 63 #[.pointer (some ⟨g, 0, none⟩)] w fun e w' => e = .returned (.int .u32 (wordOf s)) ∧ SeedAt w' g (nextSd s) ∧ w.grownBy w' (some g) := by
  obtain ⟨k, a, b⟩ := s
  obtain ⟨hk, ha, hb⟩ := hs
  by_cases h0 : k = 0
  · subst h0; exact specNext_0 a b g w ha hb hg
  by_cases h1 : k = 1
  · subst h1; exact specNext_1 a b g w ha hb hg
  by_cases h2 : k = 2
  · subst h2; exact specNext_2 a b g w ha hb hg
  exact specNext_3 k a b g w h0 h1 h2 ha hb hg
theorem u64_id (x : Int) (h : 0 ≤ x ∧ x < 18446744073709551616) : IntKind.u64.wrap x = x := by rw [IntKind.wrap_u64]; omega
theorem rot24_ok (a : Int) : 0 ≤ rot24 a ∧ rot24 a < 18446744073709551616 := ⟨or_ge _ _, or_lt _ _⟩
theorem rot37_ok (a : Int) : 0 ≤ rot37 a ∧ rot37 a < 18446744073709551616 := ⟨or_ge _ _, or_lt _ _⟩
/-- A seed that moves stays one whose numbers fit; its kind stays. -/
theorem nextSd_ok {s : Sd} (h : s.ok) : (nextSd s).ok := by
  obtain ⟨hk, ha, hb⟩ := h
  unfold nextSd
  split
  · exact ⟨hk, ⟨u64_ge _, u64_lt _⟩, hb⟩
  split
  · exact ⟨hk, ⟨xor_ge _ _, xor_lt _ _⟩, hb⟩
  split
  · exact ⟨hk, ⟨u64_ge _, u64_lt _⟩, hb⟩
  · exact ⟨hk, ⟨xor_ge _ _, xor_lt _ _⟩, rot37_ok _⟩
theorem up32_ok (x : Int) (h : 0 ≤ x ∧ x < 18446744073709551616) : 0 ≤ up32 x ∧ up32 x < 4294967296 := by
  unfold up32; omega
theorem wordOf_ok (s : Sd) : 0 ≤ wordOf s ∧ wordOf s < 4294967296 := by
  unfold wordOf
  split
  · exact up32_ok _ ⟨u64_ge _, u64_lt _⟩
  split
  · exact up32_ok _ ⟨u64_ge _, u64_lt _⟩
  split
  · exact up32_ok _ ⟨mixI_ge _, mixI_lt _⟩
  · exact up32_ok _ ⟨u64_ge _, u64_lt _⟩
/-- So many words, and the seed behind them. -/
def nthSd : Nat → Sd → Sd
  | 0, s => s
  | n + 1, s => nthSd n (nextSd s)
def wordsN : Nat → Sd → List Int
  | 0, _ => []
  | n + 1, s => wordOf s :: wordsN n (nextSd s)
theorem nthSd_ok {s : Sd} (h : s.ok) : ∀ n, (nthSd n s).ok := by
  intro n
  induction n generalizing s with
  | zero => exact h
  | succ n ih => exact ih (nextSd_ok h)
theorem nthSd_succ (n : Nat) (s : Sd) : nthSd (n + 1) s = nextSd (nthSd n s) := by
  induction n generalizing s with
  | zero => rfl
  | succ n ih => exact ih (nextSd s)
theorem wordsN_succ (n : Nat) (s : Sd) : wordsN (n + 1) s = wordsN n s ++ [wordOf (nthSd n s)] := by
  induction n generalizing s with
  | zero => rfl
  | succ n ih => rw [wordsN, ih (nextSd s)]; rfl
theorem wordsN_length (n : Nat) (s : Sd) : (wordsN n s).length = n := by
  induction n generalizing s with
  | zero => rfl
  | succ n ih => rw [wordsN, List.length_cons, ih]
end Go.Proofs.Ytgemcjcghnpmdaa
