/- BitsOfWords: the bits of words, the greatest ones first. -/
import Derived.Test.YtlgpcojoonnlbaaBools
import Derived.Test.YtlgpcojoonnlbaaZ00
namespace Go.Proofs.Ytlgpcojoonnlbaa
open Go.RowKit
set_option maxRecDepth 100000
def bitW (xs : List Int) (k : Nat) : Bool := bits .and .i64 (xs.getD (k / 32) 0 / 2 ^ (31 - k % 32)) 1 == 1
theorem wraps_i64_63 : ∀ n : Int, 0 ≤ n → n < 2 ^ 63 → IntKind.i64.wrap n = n := fun n h0 h1 => by rw [IntKind.wrap_i64]; omega
theorem and_one (x : Int) (h0 : 0 ≤ x) (h1 : x ≤ 4294967295) : bits .and .i64 x 1 = x % 2 := by
  have h := bits_mask .i64 63 (by decide) wraps_i64_63 1 (by decide) x h0 (by omega)
  simpa using h
theorem bitW_first {xs : List Int} {i : Nat} {x : Int} (h : xs[i]? = some x) (hx : 0 ≤ x ∧ x ≤ 4294967295) : bitW xs (32 * i) = decide (x ≥ 2147483648) := by
  have e1 : 32 * i / 32 = i := by omega
  have e2 : 31 - 32 * i % 32 = 31 := by omega
  unfold bitW
  rw [e1, e2, List.getD_eq_getElem?_getD, h, Option.getD_some, and_one _ (by omega) (by omega)]
  have e3 : (2 : Int) ^ 31 = 2147483648 := by decide
  rw [e3]
  by_cases c : x ≥ 2147483648
  · rw [decide_eq_true c, beq_iff_eq]; omega
  · rw [decide_eq_false c, beq_eq_false_iff_ne]; omega
theorem bitW_last {xs : List Int} {i : Nat} {x : Int} (h : xs[i]? = some x) (hx : 0 ≤ x ∧ x ≤ 4294967295) : bitW xs (32 * i + 31) = (x % 2 == 1) := by
  have e1 : (32 * i + 31) / 32 = i := by omega
  have e2 : 31 - (32 * i + 31) % 32 = 0 := by omega
  unfold bitW
  rw [e1, e2, List.getD_eq_getElem?_getD, h, Option.getD_some, Int.pow_zero, Int.ediv_one, and_one _ hx.1 hx.2]
theorem bitW_at {xs : List Int} {q k : Nat} {x : Int} (h : xs[q]? = some x) (hq : k / 32 = q) : bitW xs k = (bits .and .i64 (x / 2 ^ (31 - k % 32)) 1 == 1) := by
  subst hq
  unfold bitW
  rw [List.getD_eq_getElem?_getD, h, Option.getD_some]
def bitsW (xs : List Int) (m : Nat) : List Bool := (List.range m).map (bitW xs)
theorem bitsW_len (xs : List Int) (m : Nat) : (bitsW xs m).length = m := by simp [bitsW]
theorem bitsW_succ (xs : List Int) (m : Nat) : bitsW xs (m + 1) = bitsW xs m ++ [bitW xs m] := by simp [bitsW, List.range_succ]
set_option maxHeartbeats 4000000 in
theorem implBits_p (A : Option Addr) (n c B m : Nat) (xs : List Int) (w : World) (h : Rd w B A n (i64s xs)) (hB : B ≤ w.heap.size) (hw : areWords xs = true) (hm : m ≤ 32 * xs.length) :
    Calls Try.prog 8 #[.slice A n c, .int .i64 m] w fun e w' => ∃ v, e = .returned (.tuple #[v, .bool true]) ∧ Own w' w.heap.size 4 v (bolS (bitsW xs m)) ∧ Below w.heap.size w w' := by
  have hl := h.lenI
  obtain rfl : xs.length = n := hl.out
  have hx5 : xs.length ≤ 256 := by unfold areWords at hw; simp only [Bool.and_eq_true] at hw; have := inB_true hw.1; omega
  have hin := Lib.hid (fun (i : Nat) (x : Int) (hx : xs[i]? = some x) => allWords_at (xs := xs) (by unfold areWords at hw; simp only [Bool.and_eq_true] at hw; exact hw.2) hx)
  have HR := Lib.hid h
  have Hw := Lib.hid hw
  have Hm := Lib.hid hm
  clear h hl hw hm
  have hmm : IntKind.i64.wrap (32 * (xs.length : Int)) = 32 * (xs.length : Int) := by rw [IntKind.wrap_i64]; omega
  go_enter Try.func8, Try.ntmps8
  go_wp2_with first
    | (go_at_call 24; refine (implAreWords_any A xs.length c B xs _ HR.out (by omega)).mono ?_; rintro e w1 ⟨rfl, rfl⟩; rw [Hw.out])
    | (go_at_call 22; refine (within_any _ _ _ _).mono ?_; rintro e w' ⟨rfl, rfl⟩; rw [inB_mk (by have := Hm.out; omega)])
  go_loopw [6, 21] (fun v i wr => ∃ k : Nat, k ≤ m ∧ i = .int .i64 k ∧ Own wr w.heap.size 4 v (bolS (bitsW xs k)) ∧ Below w.heap.size w wr) (fun _ i _ => m - (intOf i).toNat)
  case atStart => exact ⟨0, Nat.zero_le _, rfl, own_newT w (Nat.le_refl _), (Below.refl _ _).alloc (Nat.le_refl _) _⟩
  case round =>
    obtain ⟨k, hk, rfl, hO, hbel⟩ := hrel
    have HO := Lib.hid hO; have HB := Lib.hid hbel
    clear hO hbel
    by_cases hlt : k < m
    · have hlt' : (k : Int) < (m : Int) := by omega
      have hR2 := HR.out.below HB.out hB
      obtain ⟨q, hq⟩ : ∃ q, k / 32 = q := ⟨_, rfl⟩
      have hqn : q < xs.length := by have := Hm.out; omega
      obtain ⟨b, off, x, rfl, hbB, hx, hcx⟩ := hR2.atI (k := q) hqn
      have hqi : (k : Int) / 32 = (q : Int) := by omega
      have hsz := HB.out.size
      have hlen := Lib.hid (bitsW_len xs k)
      go_wp2_with (at_builtin; go_must (refine emitT wr rfl _ _ rfl w.heap.size u6 (bitsW xs k) rfl HO.out _ rfl ?c1 hsz ?_))
      case c1 => rw [hlen.out]; have := Hm.out; omega
      intro v' w3 hO' hg hor
      rw [← bitW_at hx.out hq, ← bitsW_succ] at hO'
      have HO' := Lib.hid hO'
      have HB' := Lib.hid (HB.out.grown hg hsz (fun g hg => (HO.out.lt g hg).1))
      clear hO' hg hor
      go_wp2
      go_roundw
      case rel => exact ⟨k + 1, by omega, by go_num, HO'.out, HB'.out⟩
      case measure => simp [intOf]; omega
    · obtain rfl : k = m := by omega
      go_wp2
      go_ret2
      exact ⟨_, rfl, HO.out, HB.out⟩
end Go.Proofs.Ytlgpcojoonnlbaa
