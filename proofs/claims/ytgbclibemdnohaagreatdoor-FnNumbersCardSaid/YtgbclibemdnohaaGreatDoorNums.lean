/- Small functions over numbers: bits, flushed numbers, narrowed numbers, sums. -/
import Derived.Test.YtgbclibemdnohaaGreatDoorExact
import Derived.Test.YtgbclibemdnohaaGreatDoorDraw
import Derived.Test.YtgbclibemdnohaaGreatDoorHexO
import Derived.Test.YtgbclibemdnohaaGreatDoorRoot
import Derived.Test.YtgbclibemdnohaaGreatDoorPhasor
import Derived.Test.YtgbclibemdnohaaGreatDoorPicks
namespace Go.Proofs.YtgbclibemdnohaaGreatDoor
open Go.RowKit Mag
set_option maxRecDepth 100000
theorem andNot_gen (x : Nat) : bits .andNot .u64 (x : Int) 9223372036854775808 = ((x % 9223372036854775808 : Nat) : Int) := by
  unfold bits
  show IntKind.u64.wrap (((BitVec.ofInt 64 (x : Int)) &&& ~~~(BitVec.ofInt 64 9223372036854775808)).toNat : Int) = _
  have e1 : (~~~(BitVec.ofInt 64 9223372036854775808)).toNat = 2 ^ 63 - 1 := by decide
  have e2 : (BitVec.ofInt 64 (x : Int)).toNat = x % 2 ^ 64 := by
    rw [BitVec.toNat_ofInt]
    omega
  rw [BitVec.toNat_and, e1, e2, Nat.and_two_pow_sub_one_eq_mod, Nat.mod_mod_of_dvd _ (by decide)]
  have := Nat.mod_lt x (show 0 < 2 ^ 63 by decide)
  exact IntKind.wrap_u64 _ |>.trans (by omega)
/-- The absolute value. -/
def absN (x : Nat) : Nat := x % 9223372036854775808
theorem abs_gen (x : Nat) (w : World) : Calls Tryz.prog 36 #[.float .f64 x] w fun e w' => e = .returned (.float .f64 (absN x)) ∧ w = w' := by
  have hb := andNot_gen x
  have hd1 := run_bits
  have hd2 := run_frombits
  unfold absN
  generalize x % 9223372036854775808 = y at hb ⊢
  go_enter Tryz.func36, Tryz.ntmps36
  go_wp2
  go_ret
  exact ⟨rfl, rfl⟩
theorem sw64 : FloatKind.f64.format.signWeight = 9223372036854775808 := rfl
theorem absN_rung (x : Nat) : rungW FloatKind.f64.format (absN x) = rungW FloatKind.f64.format x := by
  unfold rungW absN
  rw [sw64, Nat.mod_mod]
theorem absN_neg (x : Nat) : negW FloatKind.f64.format (absN x) = false := negW_small (by rw [sw64]; exact Nat.mod_lt _ (by decide))
theorem absN_nan (x : Nat) : isNaNB .f64 (absN x) = isNaNB .f64 x := by
  have a := nan_rung .f64 (absN x)
  have b := nan_rung .f64 x
  rw [absN_rung] at a
  rw [a, b]
theorem absN_fin {x : Nat} (h : FinK .f64 x) : FinK .f64 (absN x) := by
  show rungW FloatKind.f64.format (absN x) < _
  rw [absN_rung]; exact h
theorem absN_KV (x : Nat) : KV .f64 (absN x) = (rungW FloatKind.f64.format x : Int) := by
  have := (KV_sign (k := .f64) (x := absN x)).1 (absN_neg x)
  rw [this, absN_rung]
/-- 'abs(x) < c' for bits that stand for the same number. -/
theorem abs_flt {r v c : Nat} (h : cn .f64 r = v) : flt .f64 (absN r) c = flt .f64 (absN v) c := by
  cases hn : isNaNB .f64 r with
  | true =>
    have h1 : isNaNB .f64 (absN r) = true := by rw [absN_nan]; exact hn
    have h2 : isNaNB .f64 (absN v) = true := by rw [absN_nan, ← h, isNaNB_cn]; exact hn
    unfold flt
    rw [order_nan_l h1, order_nan_l h2]
  | false => rw [cn_of_not hn] at h; rw [h]
/-- Whether a number is not 0 and less than the least normal one. -/
def subB (x : Nat) : Bool := (FloatKind.f32.format.order x 0 != some .eq) && flt .f64 (absN (widen x)) 4039728865751334912
theorem isSub_any (x : Nat) (w : World) : Calls Tryz.prog 15 #[.float .f32 x] w fun e w' => e = .returned (.bool (subB x)) ∧ ∃ q, w' = w.drewN q := by
  cases h0 : (FloatKind.f32.format.order x 0 != some .eq) with
  | false =>
    have e : subB x = false := by unfold subB; rw [h0]; rfl
    rw [e]
    clear e
    go_enter Tryz.func15, Tryz.ntmps15
    go_wp2_with fail
    go_ret
    exact ⟨rfl, 0, rfl⟩
  | true =>
    have hcv := run_widV (P := Tryz.prog) 24 44 rfl Tryz.underlying44 w x
    obtain ⟨r, hr⟩ : ∃ r, widV w x = r := ⟨_, rfl⟩
    obtain ⟨q, hq⟩ : ∃ q, widD x = q := ⟨_, rfl⟩
    have hc := widV_cn w x
    rw [hr] at hcv hc
    rw [hq] at hcv
    have e : subB x = flt .f64 (absN r) 4039728865751334912 := by unfold subB; rw [h0, abs_flt hc]; rfl
    rw [e]
    have Ha := Lib.hid (fun w => abs_gen r w)
    generalize absN r = a at Ha ⊢
    unfold flt
    clear e hr hq hc
    go_enter Tryz.func15, Tryz.ntmps15
    go_wp2_with (go_at_call 36; refine (Ha.out _).mono ?_; rintro e w1 ⟨rfl, rfl⟩)
    go_ret
    exact ⟨rfl, q, rfl⟩
theorem andTop (x : Nat) : bits .and .u64 (x : Int) 9223372036854775808 = 0 ∨ bits .and .u64 (x : Int) 9223372036854775808 = 9223372036854775808 := by
  unfold bits
  show IntKind.u64.wrap (((BitVec.ofInt 64 (x : Int)) &&& (BitVec.ofInt 64 9223372036854775808)).toNat : Int) = 0 ∨ IntKind.u64.wrap (((BitVec.ofInt 64 (x : Int)) &&& (BitVec.ofInt 64 9223372036854775808)).toNat : Int) = _
  have e1 : (BitVec.ofInt 64 9223372036854775808).toNat = 2 ^ 63 := by decide
  rw [BitVec.toNat_and, e1]
  generalize (BitVec.ofInt 64 (x : Int)).toNat = a
  have h : a &&& 2 ^ 63 = if a.testBit 63 then 2 ^ 63 else 0 := by
    apply Nat.eq_of_testBit_eq
    intro i
    rw [Nat.testBit_and, Nat.testBit_two_pow]
    by_cases hi : 63 = i
    · subst hi
      cases a.testBit 63 with
      | true => rw [if_pos rfl, Nat.testBit_two_pow]; rfl
      | false => rw [if_neg (by decide), Nat.zero_testBit]; rfl
    · rw [decide_eq_false hi, Bool.and_false]
      split
      · rw [Nat.testBit_two_pow, decide_eq_false hi]
      · rw [Nat.zero_testBit]
  rw [h]
  split
  · right; decide
  · left; decide
theorem copysign_any (r : Nat) (w : World) : Calls Tryz.prog 28 #[.float .f64 0, .float .f64 r] w fun e w' => (∃ z, e = .returned (.float .f64 z) ∧ (z = 0 ∨ z = 9223372036854775808)) ∧ w' = w := by
  have hd1 := run_bits
  have hd2 := run_frombits
  have h0 : bits .andNot .u64 0 9223372036854775808 = 0 := by decide
  rcases andTop r with ha | ha
  · have ho : bits .or .u64 0 0 = 0 := by decide
    go_enter Tryz.func28, Tryz.ntmps28
    go_wp2
    go_ret
    exact ⟨⟨_, rfl, .inl rfl⟩, rfl⟩
  · have ho : bits .or .u64 0 9223372036854775808 = 9223372036854775808 := by decide
    go_enter Tryz.func28, Tryz.ntmps28
    go_wp2
    go_ret
    exact ⟨⟨_, rfl, .inr rfl⟩, rfl⟩
theorem flush_any (x : Nat) (w : World) : Calls Tryz.prog 8 #[.float .f32 x] w fun e w' => (∃ z, e = .returned (.float .f32 z) ∧ (subB x = false ∧ z = x ∨ subB x = true ∧ (z = 0 ∨ z = 2147483648))) ∧ ∃ q, w' = w.drewN q := by
  have HS := Lib.hid (fun w => isSub_any x w)
  cases hb : subB x with
  | false =>
    rw [hb] at HS
    go_enter Tryz.func8, Tryz.ntmps8
    go_wp2_with fail
    refine (HS.out _).mono ?_
    rintro e w1 ⟨rfl, q, rfl⟩
    go_wp2_with fail
    go_ret
    exact ⟨⟨x, rfl, .inl ⟨trivial, rfl⟩⟩, q, rfl⟩
  | true =>
    rw [hb] at HS
    go_enter Tryz.func8, Tryz.ntmps8
    go_wp2_with fail
    refine (HS.out _).mono ?_
    rintro e w1 ⟨rfl, q, rfl⟩
    have t1 : True := trivial
    go_wp2_with (have := t1; clear this t1; refine wpList_widen _ rfl 24 44 _ rfl rfl Tryz.underlying44 _ rfl ?_; intro r1 q1 h1)
    refine (copysign_any r1 _).mono ?_
    rintro e w2 ⟨⟨z, rfl, hz⟩, rfl⟩
    have hn : (narrow z = 0 ∨ narrow z = 2147483648) ∧ fitsN z := by
      rcases hz with rfl | rfl
      · exact ⟨.inl (by decide +kernel), (Rn.const (k := .f64) (lo := 0) (hi := 0) (by decide +kernel)).fits (by decide +kernel)⟩
      · exact ⟨.inr (by decide +kernel), (Rn.const (k := .f64) (lo := 0) (hi := 0) (by decide +kernel)).fits (by decide +kernel)⟩
    have hf := Lib.hid hn.2
    have hz2 := Lib.hid hn.1
    clear hn hz
    have t1 : True := trivial
    go_wp2_with (have := t1; clear this t1; refine wpList_narrow _ rfl 44 24 _ rfl rfl Tryz.underlying24 _ rfl hf.out ?_; intro r3 q3 h3)
    go_ret
    have e3 : r3 = 0 ∨ r3 = 2147483648 := by
      have h := h3.out
      rcases hz2.out with h4 | h4
      · left; rw [h4] at h; exact cn_num h (by decide)
      · right; rw [h4] at h; exact cn_num h (by decide)
    exact ⟨⟨r3, rfl, .inr ⟨trivial, e3⟩⟩, q + q1 + q3, rfl⟩
theorem sub_zero : subB 0 = false ∧ subB 2147483648 = false := by
  constructor <;> decide +kernel
theorem sub_far {x z : Nat} (hx : W32 x) (h : subB x = true) (hz : z = 0 ∨ z = 2147483648) : sb x ≠ sb z := by
  unfold subB at h
  rw [Bool.and_eq_true] at h
  have hn : isNaNB .f32 x = false := by
    cases hn : isNaNB .f32 x with
    | false => rfl
    | true =>
      have h2 := h.2
      unfold flt at h2
      rw [widen_nan hn, order_nan_l (by rw [absN_nan]; exact qnan_isNaN .f64)] at h2
      cases h2
  have e1 := sb_cn hx
  rw [cn_of_not hn] at e1
  intro e
  have hz1 : sb z = (z : Int) := by rcases hz with rfl | rfl <;> decide +kernel
  rw [e1, hz1] at e
  obtain rfl : x = z := by omega
  have h1 := h.1
  rcases hz with rfl | rfl
  · exact absurd h1 (by decide +kernel)
  · exact absurd h1 (by decide +kernel)
theorem same_gen (x y : Nat) (w : World) : Calls Tryz.prog 14 #[.float .f32 x, .float .f32 y] w fun e w' => e = .returned (.bool (sb x == sb y)) ∧ w' = w := by
  have hl : ∀ w : World, Calls Tryz.prog 35 #[.float .f32 x, .float .f32 y] w fun e w' => e = .returned (.bool (sb x == sb y)) ∧ w' = w := by
    intro w
    go_enter Tryz.func35, Tryz.ntmps35
    go_wp2_with fail
    refine (l01Bits_any _ _).mono ?_
    rintro e w1 ⟨rfl, rfl⟩
    go_wp2_with fail
    refine (l01Bits_any _ _).mono ?_
    rintro e w2 ⟨rfl, rfl⟩
    go_wp2
    go_ret
    exact ⟨rfl, rfl⟩
  have HL := Lib.hid hl
  clear hl
  go_enter Tryz.func14, Tryz.ntmps14
  go_wp2_with fail
  refine (HL.out _).mono ?_
  rintro e w1 ⟨rfl, rfl⟩
  go_wp2
  go_ret
  exact ⟨rfl, rfl⟩
theorem fromBits_any (n : Nat) (w : World) (hn : n < 4294967296) : Calls Tryz.prog 6 #[.int .i64 n] w fun e w' => e = .returned (.tuple #[.float .f32 n, .bool true]) ∧ w' = w := by
  have hd := run_from32
  have hw : IntKind.u32.wrap (n : Int) = n := by show (n : Int) % 4294967296 = n; omega
  have h1 : (0 : Int) ≤ n := by omega
  have h2 : (n : Int) ≤ 4294967295 := by omega
  go_enter Tryz.func6, Tryz.ntmps6
  go_wp2
  go_ret2
  exact ⟨rfl, rfl⟩
theorem narrowN_any (x : Nat) (w : World) (hf : fitsN x) : Calls Tryz.prog 18 #[.float .f64 x] w fun e w' => ∃ r, e = .returned (.float .f32 r) ∧ Hid (cn .f32 r = narrow x) ∧ ∃ q, w' = w.drewN q := by
  go_enter Tryz.func18, Tryz.ntmps18
  go_wp2_with (refine wpList_narrow _ rfl 44 24 _ rfl rfl Tryz.underlying24 _ rfl hf ?_; intro r3 q3 h3)
  go_ret
  exact ⟨r3, rfl, h3, _, rfl⟩
theorem sumN_any (A : Option Addr) (n c B : Nat) (xs : List Nat) (w : World) (h : Rd w B A n (f32s xs)) (hn : n ≤ 256) :
    Calls Tryz.prog 11 #[.slice A n c] w fun e w' => ∃ r, e = .returned (.tuple #[.float .f32 r, .bool true]) ∧ Hid (cn .f32 r = sumF xs) ∧ ∃ q, w' = w.drewN q := by
  have hl := h.lenF
  have HR := Lib.hid h
  have hn' : ¬ (256 : Int) < (n : Int) := by omega
  clear h
  go_enter Tryz.func11, Tryz.ntmps11
  go_wp2_with fail
  refine (sumF_any A n c B xs _ HR.out (by have := hl.out; omega)).mono ?_
  rintro e w1 ⟨r, rfl, hr, q, rfl⟩
  go_wp2
  go_ret2
  exact ⟨r, rfl, hr, q, rfl⟩
end Go.Proofs.YtgbclibemdnohaaGreatDoor
