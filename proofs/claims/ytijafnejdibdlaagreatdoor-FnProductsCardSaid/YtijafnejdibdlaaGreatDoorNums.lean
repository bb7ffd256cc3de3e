/- Small functions over numbers: bits, flushed numbers, narrowed numbers, sums. -/
import Derived.Test.YtijafnejdibdlaaGreatDoorExact
import Derived.Test.YtijafnejdibdlaaGreatDoorDraw
import Derived.Test.YtijafnejdibdlaaGreatDoorHexO
import Derived.Test.YtijafnejdibdlaaGreatDoorRoot
import Derived.Test.YtijafnejdibdlaaGreatDoorPhasor
import Derived.Test.YtijafnejdibdlaaGreatDoorPicks
namespace Go.Proofs.YtijafnejdibdlaaGreatDoor
open Go.RowKit Mag
set_option maxRecDepth 100000
theorem andNot_gen (x : Nat) : bits .andNot .u64 (x : Int) 9223372036854775808 = ((x % 9223372036854775808 : Nat) : Int) := by
  unfold bits
  show IntKind.u64.wrap (((BitVec.ofInt 64 (x : Int)) &&& ~~~(BitVec.ofInt 64 9223372036854775808)).toNat : Int) = _
  have e1 : (~~~(BitVec.ofInt 64 9223372036854775808)).toNat = 2 ^ 63 - 1 := by decide
  have e2 : (BitVec.ofInt 64 (x : Int)).toNat = x % 2 ^ 64 := by
    rw [BitVec.toNat_ofInt]
    omega
  rw [BitVec.toNat_and, e1, e2, Nat.and_two_pow_sub_one_eq_mod, Nat.mod_mod_of_dvd _ (by decide)]
  have := Nat.mod_lt x (show 0 < 2 ^ 63 by decide)
  exact IntKind.wrap_u64 _ |>.trans (by omega)
/-- The absolute value. -/
def absN (x : Nat) : Nat := x % 9223372036854775808
theorem sw64 : FloatKind.f64.format.signWeight = 9223372036854775808 := rfl
theorem absN_rung (x : Nat) : rungW FloatKind.f64.format (absN x) = rungW FloatKind.f64.format x := by
  unfold rungW absN
  rw [sw64, Nat.mod_mod]
theorem absN_neg (x : Nat) : negW FloatKind.f64.format (absN x) = false := negW_small (by rw [sw64]; exact Nat.mod_lt _ (by decide))
theorem absN_nan (x : Nat) : isNaNB .f64 (absN x) = isNaNB .f64 x := by
  have a := nan_rung .f64 (absN x)
  have b := nan_rung .f64 x
  rw [absN_rung] at a
  rw [a, b]
theorem absN_fin {x : Nat} (h : FinK .f64 x) : FinK .f64 (absN x) := by
  show rungW FloatKind.f64.format (absN x) < _
  rw [absN_rung]; exact h
theorem absN_KV (x : Nat) : KV .f64 (absN x) = (rungW FloatKind.f64.format x : Int) := by
  have := (KV_sign (k := .f64) (x := absN x)).1 (absN_neg x)
  rw [this, absN_rung]
/-- 'abs(x) < c' for bits that stand for the same number. -/
theorem abs_flt {r v c : Nat} (h : cn .f64 r = v) : flt .f64 (absN r) c = flt .f64 (absN v) c := by
  cases hn : isNaNB .f64 r with
  | true =>
    have h1 : isNaNB .f64 (absN r) = true := by rw [absN_nan]; exact hn
    have h2 : isNaNB .f64 (absN v) = true := by rw [absN_nan, ← h, isNaNB_cn]; exact hn
    unfold flt
    rw [order_nan_l h1, order_nan_l h2]
  | false => rw [cn_of_not hn] at h; rw [h]
/-- Whether a number is not 0 and less than the least normal one. -/
def subB (x : Nat) : Bool := (FloatKind.f32.format.order x 0 != some .eq) && flt .f64 (absN (widen x)) 4039728865751334912
theorem andTop (x : Nat) : bits .and .u64 (x : Int) 9223372036854775808 = 0 ∨ bits .and .u64 (x : Int) 9223372036854775808 = 9223372036854775808 := by
  unfold bits
  show IntKind.u64.wrap (((BitVec.ofInt 64 (x : Int)) &&& (BitVec.ofInt 64 9223372036854775808)).toNat : Int) = 0 ∨ IntKind.u64.wrap (((BitVec.ofInt 64 (x : Int)) &&& (BitVec.ofInt 64 9223372036854775808)).toNat : Int) = _
  have e1 : (BitVec.ofInt 64 9223372036854775808).toNat = 2 ^ 63 := by decide
  rw [BitVec.toNat_and, e1]
  generalize (BitVec.ofInt 64 (x : Int)).toNat = a
  have h : a &&& 2 ^ 63 = if a.testBit 63 then 2 ^ 63 else 0 := by
    apply Nat.eq_of_testBit_eq
    intro i
    rw [Nat.testBit_and, Nat.testBit_two_pow]
    by_cases hi : 63 = i
    · subst hi
      cases a.testBit 63 with
      | true => rw [if_pos rfl, Nat.testBit_two_pow]; rfl
      | false => rw [if_neg (by decide), Nat.zero_testBit]; rfl
    · rw [decide_eq_false hi, Bool.and_false]
      split
      · rw [Nat.testBit_two_pow, decide_eq_false hi]
      · rw [Nat.zero_testBit]
  rw [h]
  split
  · right; decide
  · left; decide
theorem sub_zero : subB 0 = false ∧ subB 2147483648 = false := by
  constructor <;> decide +kernel
theorem sub_far {x z : Nat} (hx : W32 x) (h : subB x = true) (hz : z = 0 ∨ z = 2147483648) : sb x ≠ sb z := by
  unfold subB at h
  rw [Bool.and_eq_true] at h
  have hn : isNaNB .f32 x = false := by
    cases hn : isNaNB .f32 x with
    | false => rfl
    | true =>
      have h2 := h.2
      unfold flt at h2
      rw [widen_nan hn, order_nan_l (by rw [absN_nan]; exact qnan_isNaN .f64)] at h2
      cases h2
  have e1 := sb_cn hx
  rw [cn_of_not hn] at e1
  intro e
  have hz1 : sb z = (z : Int) := by rcases hz with rfl | rfl <;> decide +kernel
  rw [e1, hz1] at e
  obtain rfl : x = z := by omega
  have h1 := h.1
  rcases hz with rfl | rfl
  · exact absurd h1 (by decide +kernel)
  · exact absurd h1 (by decide +kernel)
theorem same_gen (x y : Nat) (w : World) : Calls Tryz.prog 9 #[.float .f32 x, .float .f32 y] w fun e w' => e = .returned (.bool (sb x == sb y)) ∧ w' = w := by
  have hl : ∀ w : World, Calls Tryz.prog 31 #[.float .f32 x, .float .f32 y] w fun e w' => e = .returned (.bool (sb x == sb y)) ∧ w' = w := by
    intro w
    go_enter Tryz.func31, Tryz.ntmps31
    go_wp2_with fail
    refine (l01Bits_any _ _).mono ?_
    rintro e w1 ⟨rfl, rfl⟩
    go_wp2_with fail
    refine (l01Bits_any _ _).mono ?_
    rintro e w2 ⟨rfl, rfl⟩
    go_wp2
    go_ret
    exact ⟨rfl, rfl⟩
  have HL := Lib.hid hl
  clear hl
  go_enter Tryz.func9, Tryz.ntmps9
  go_wp2_with fail
  refine (HL.out _).mono ?_
  rintro e w1 ⟨rfl, rfl⟩
  go_wp2
  go_ret
  exact ⟨rfl, rfl⟩
theorem fromBits_any (n : Nat) (w : World) (hn : n < 4294967296) : Calls Tryz.prog 19 #[.int .i64 n] w fun e w' => e = .returned (.tuple #[.float .f32 n, .bool true]) ∧ w' = w := by
  have hd := run_from32
  have hw : IntKind.u32.wrap (n : Int) = n := by show (n : Int) % 4294967296 = n; omega
  have h1 : (0 : Int) ≤ n := by omega
  have h2 : (n : Int) ≤ 4294967295 := by omega
  go_enter Tryz.func19, Tryz.ntmps19
  go_wp2
  go_ret2
  exact ⟨rfl, rfl⟩
end Go.Proofs.YtijafnejdibdlaaGreatDoor
