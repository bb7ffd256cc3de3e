/- 'math.Floor', and whole numbers made of floats. -/
import Derived.Test.YtgbehnkccgahoaaLogSign
import Derived.Test.YtgbehnkccgahoaaTurn
import Derived.Test.YtgbehnkccgahoaaLog
namespace Go.Proofs.Ytgbehnkccgahoaa
open Go.RowKit Mag
set_option maxRecDepth 100000
def floorF (x : Nat) : Nat :=
  match FloatKind.f64.decode x with
  | .nan .. => qnan .f64
  | d => FloatKind.f64.encode (d.integral .down)
theorem floorF_nan {x : Nat} (h : isNaNB .f64 x = true) : floorF x = qnan .f64 := by
  have h' : (FloatKind.f64.decode x).isNaN = true := h
  unfold floorF
  cases hd : FloatKind.f64.decode x with
  | number s m e => rw [hd] at h'; cases h'
  | infinity s => rw [hd] at h'; cases h'
  | nan s f => rfl
theorem floorF_l {x y : Nat} (h : cn .f64 x = y) : floorF x = floorF y := by
  rw [← h]
  by_cases hx : isNaNB .f64 x = true
  · rw [cn_of_nan hx, floorF_nan hx, floorF_nan (qnan_isNaN .f64)]
  · rw [cn_of_not (by simpa using hx)]
theorem quiet_nan (s : Bool) (t : Nat) (ht : t < 4503599627370496) : isNaNB .f64 (FloatKind.f64.encode (.nan s (FloatKind.f64.format.quiet t))) = true := by
  have hq : FloatKind.f64.format.quiet t = t ||| 2 ^ 51 := rfl
  have h1 : t ||| 2 ^ 51 < 2 ^ 52 := Nat.or_lt_two_pow (by omega) (by omega)
  have h2 : 2 ^ 51 ≤ t ||| 2 ^ 51 := Nat.right_le_or
  rw [hq, nan_rung]
  have hi : FloatKind.f64.format.infRung = 9218868437227405312 := by decide
  have hs : Ieee.double.signWeight = 9223372036854775808 := by decide
  have hb : Ieee.double.binade = 4503599627370496 := rfl
  have hii : Ieee.double.infRung = 9218868437227405312 := by decide
  have hr : rungW FloatKind.f64.format (FloatKind.f64.encode (.nan s (t ||| 2 ^ 51))) = 9218868437227405312 + (t ||| 2 ^ 51) := by
    show rungW Ieee.double (Ieee.double.word s (Ieee.double.infRung + (t ||| 2 ^ 51) % Ieee.double.binade)) = _
    rw [hii, hb, Nat.mod_eq_of_lt (by omega)]
    unfold rungW Ieee.Format.word
    rw [hs]
    split
    · rw [Nat.add_mod_left]; exact Nat.mod_eq_of_lt (by omega)
    · exact Nat.mod_eq_of_lt (by omega)
  rw [hr, hi]
  simp only [decide_eq_true_eq]
  omega
theorem nan_frac {x : Nat} {s : Bool} {t : Nat} (h : FloatKind.f64.decode x = .nan s t) : t < 4503599627370496 := by
  have h' : Ieee.Format.read Ieee.double x = .nan s t := h
  unfold Ieee.Format.read at h'
  have e1 : Ieee.Format.binade Ieee.double = 4503599627370496 := rfl
  have e2 : Ieee.Format.infRung Ieee.double = 9218868437227405312 := by decide
  have e3 : Ieee.Format.signWeight Ieee.double = 9223372036854775808 := by decide
  rw [e1, e2, e3] at h'
  dsimp only at h'
  have hm : x % 9223372036854775808 < 9223372036854775808 := Nat.mod_lt _ (by omega)
  generalize x % 9223372036854775808 = r at h' hm
  split at h'
  · cases h'
  · split at h'
    · cases h'
    · split at h'
      · cases h'
      · injection h' with _ h2; omega
theorem run_floor_entry {P : Program} (w : World) (x : Nat) : ∃ p : Nat × Nat, (Extern.MathFloor.toIntegral "math.archFloor" .down #[.float .f64 x]).run P w = .ok (.float .f64 p.1) (w.drewN p.2) ∧ cn .f64 p.1 = floorF x := by
  change ∃ p : Nat × Nat, Sem.run P (match FloatKind.f64.decode x with
    | .nan s t =>
      if FloatKind.f64.format.quiet t = t then (pure (Value.float .f64 x) : Sem Value) else do
      let kept ← choose (.extern "math.Floor,Ceil,Trunc,RoundToEven.signallingNaN kept" 2)
      pure (Value.float .f64 (if kept == 1 then x else FloatKind.f64.encode (.nan s (FloatKind.f64.format.quiet t))))
    | d => pure (Value.float .f64 (FloatKind.f64.encode (d.integral .down)))) w = .ok (.float .f64 p.1) (w.drewN p.2) ∧ _
  cases hd : FloatKind.f64.decode x with
  | number s m e =>
    refine ⟨(FloatKind.f64.encode ((Ieee.Datum.number s m e).integral .down), 0), rfl, ?_⟩
    unfold floorF
    rw [hd]
    exact cn_of_not (write_not_nan Ieee.double ((Ieee.Datum.number s m e).integral .down) rfl)
  | infinity s =>
    refine ⟨(FloatKind.f64.encode ((Ieee.Datum.infinity s).integral .down), 0), rfl, ?_⟩
    unfold floorF
    rw [hd]
    exact cn_of_not (write_not_nan Ieee.double ((Ieee.Datum.infinity s).integral .down) rfl)
  | nan s t =>
    have hn : isNaNB .f64 x = true := by show (FloatKind.f64.decode x).isNaN = true; rw [hd]; rfl
    dsimp only
    by_cases hq : FloatKind.f64.format.quiet t = t
    · rw [if_pos hq]
      exact ⟨(x, 0), rfl, by rw [floorF_nan hn]; exact cn_of_nan hn⟩
    · rw [if_neg hq]
      refine ⟨(if (Question.extern "math.Floor,Ceil,Trunc,RoundToEven.signallingNaN kept" 2).cut (w.tape w.drawn (.extern "math.Floor,Ceil,Trunc,RoundToEven.signallingNaN kept" 2)) == 1 then x else FloatKind.f64.encode (.nan s (FloatKind.f64.format.quiet t)), 1), ?_, ?_⟩
      · simp [Question.forced]; rfl
      · rw [floorF_nan hn]
        apply cn_of_nan
        dsimp only
        split
        · exact hn
        · exact quiet_nan s t (nan_frac hd)
theorem run_floor (w : World) (x : Nat) : ∃ p : Nat × Nat, (callFunc 57 #[.float .f64 x]).run Try.prog w = .ok (.value (.float .f64 p.1)) (w.drewN p.2) ∧ cn .f64 p.1 = floorF x := by
  obtain ⟨p, h1, h2⟩ := run_floor_entry (P := Try.prog) w x
  refine ⟨p, ?_, h2⟩
  rw [run_callFunc_extern Try.func57 (by kernel_rfl) (by kernel_rfl) (by kernel_rfl) (e := Extern.MathFloor.toIntegral "math.archFloor" .down) (by kernel_rfl), h1]
  rfl
theorem floor_any (x : Nat) (w : World) : Calls Try.prog 36 #[.float .f64 x] w fun e w' => ∃ r, e = .returned (.float .f64 r) ∧ Hid (cn .f64 r = floorF x) ∧ ∃ q, w' = w.drewN q := by
  obtain ⟨f, hf⟩ := Classical.axiomOfChoice (fun w => run_floor w x)
  have hd := fun w => (hf w).1
  have Hc := Lib.hid (fun w => (hf w).2)
  clear hf
  go_enter Try.func36, Try.ntmps36
  go_wp2
  go_ret
  exact ⟨_, rfl, Hc.out _, _, rfl⟩
theorem cut_down_le (n drop : Nat) : Ieee.Toward.down.cut false n drop * 2 ^ drop ≤ n := by
  unfold Ieee.Toward.cut
  dsimp only
  have e : (false && n % (1 <<< min drop (n.log2 + 2)) != 0).toNat = 0 := rfl
  rw [e, Nat.add_zero, Nat.shiftLeft_eq, Nat.one_mul]
  rcases Nat.le_total drop (n.log2 + 2) with h | h
  · rw [Nat.min_eq_left h]; exact Nat.div_mul_le_self _ _
  · rw [Nat.min_eq_right h]
    have := @Nat.lt_log2_self n
    have h2 : n / 2 ^ (n.log2 + 2) = 0 := Nat.div_eq_of_lt (Nat.lt_of_lt_of_le this (Nat.pow_le_pow_right (by omega) (by omega)))
    rw [h2]; omega
theorem cut_zero_le (s : Bool) (n drop : Nat) : Ieee.Toward.zero.cut s n drop * 2 ^ drop ≤ n := by
  unfold Ieee.Toward.cut
  dsimp only
  have e : (false : Bool).toNat = 0 := rfl
  rw [e, Nat.add_zero, Nat.shiftLeft_eq, Nat.one_mul]
  rcases Nat.le_total drop (n.log2 + 2) with h | h
  · rw [Nat.min_eq_left h]; exact Nat.div_mul_le_self _ _
  · rw [Nat.min_eq_right h]
    have := @Nat.lt_log2_self n
    have h2 : n / 2 ^ (n.log2 + 2) = 0 := Nat.div_eq_of_lt (Nat.lt_of_lt_of_le this (Nat.pow_le_pow_right (by omega) (by omega)))
    rw [h2]; omega
theorem cut_mle {c m : Nat} {e : Int} (h : c * 2 ^ (-e).toNat ≤ m <<< e.toNat) : MLe c 0 m e := by
  rw [Nat.shiftLeft_eq] at h
  rcases Int.lt_or_le e 0 with he | he
  · have b1 : e ≤ 0 := by omega
    have b2 : e ≤ e := by omega
    rw [mle_base b1 b2]
    have x1 : e.toNat = 0 := by omega
    have x2 : (0 - e).toNat = (-e).toNat := by omega
    have x3 : (e - e).toNat = 0 := by omega
    rw [x1] at h
    rw [x2, x3]
    exact h
  · have b1 : (0 : Int) ≤ 0 := by omega
    have b2 : 0 ≤ e := by omega
    rw [mle_base b1 b2]
    have x1 : (-e).toNat = 0 := by omega
    have x2 : ((0 : Int) - 0).toNat = 0 := by omega
    have x3 : (e - 0).toNat = e.toNat := by omega
    rw [x1] at h
    rw [x2, x3]
    exact h
/-- The floor of what is finite and at least 0. -/
theorem floor_rn {x : Nat} (h : FinK .f64 x) (h0 : 0 ≤ KV .f64 x) : Rn .f64 0 (KV .f64 x) (floorF x) := by
  have hfl : floorF x = FloatKind.f64.encode ((FloatKind.f64.decode x).integral .down) := by unfold floorF; rw [decode_fin h]
  have hk := FinK_iff.1 h
  rw [hfl]
  by_cases hn : negW Ieee.double x = true
  · have hr0 : rungW Ieee.double x = 0 := by
      have : KV .f64 x = -(rungW Ieee.double x : Int) := KV_sign.2 hn
      omega
    have e : (FloatKind.f64.decode x).integral .down = .number true 0 0 := by
      rw [decode_fin h]
      show (Ieee.Datum.number (negW Ieee.double x) (magM Ieee.double (rungW Ieee.double x)) (magE Ieee.double (rungW Ieee.double x))).integral .down = _
      rw [hn, hr0]
      decide
    rw [e]
    have hz : KV .f64 (FloatKind.f64.encode (.number true 0 0)) = 0 := by decide +kernel
    exact Rn.mk_ (by decide) (by omega) (by omega) (by omega)
  · have hn' : negW Ieee.double x = false := by simpa using hn
    have e : (FloatKind.f64.decode x).integral .down = .number false (Ieee.Toward.down.cut false (magM Ieee.double (rungW Ieee.double x) <<< (magE Ieee.double (rungW Ieee.double x)).toNat) (-(magE Ieee.double (rungW Ieee.double x))).toNat) 0 := by
      rw [decode_fin h]
      show (Ieee.Datum.number (negW Ieee.double x) (magM Ieee.double (rungW Ieee.double x)) (magE Ieee.double (rungW Ieee.double x))).integral .down = _
      rw [hn']; rfl
    rw [e]
    have hle := cut_down_le (magM Ieee.double (rungW Ieee.double x) <<< (magE Ieee.double (rungW Ieee.double x)).toNat) (-(magE Ieee.double (rungW Ieee.double x))).toNat
    generalize Ieee.Toward.down.cut false (magM Ieee.double (rungW Ieee.double x) <<< (magE Ieee.double (rungW Ieee.double x)).toNat) (-(magE Ieee.double (rungW Ieee.double x))).toNat = c at hle
    have hM := cut_mle hle
    have hg : rg Ieee.double c 0 ≤ rungW Ieee.double x := rg_le_of (f := Ieee.double) h hM
    have hkx : KV .f64 x = rungW Ieee.double x := KV_sign.1 hn'
    have hkv : KV .f64 (FloatKind.f64.encode (.number false c 0)) = rg Ieee.double c 0 := by
      show sk Ieee.double (Ieee.double.nearest false c 0) = _
      rw [nearest_rg, sk_word _ _ (rg_le ..)]; rfl
    exact Rn.mk_ (by decide) (by omega) (by rw [hkv, hkx]; omega) (by omega)
/-- A whole number of what lies from 0 to 1e9. -/
theorem toInt_le {x : Nat} (h : Rn .f64 0 4741671816366391296 x) : ∃ z, floatToIntVal .f64 x .i64 = some z := by
  have hd := decode_fin h.1
  have hle := cut_zero_le (negW Ieee.double x) (magM Ieee.double (rungW Ieee.double x) <<< (magE Ieee.double (rungW Ieee.double x)).toNat) (-(magE Ieee.double (rungW Ieee.double x))).toNat
  have hi : (FloatKind.f64.decode x).integral .zero = .number (negW Ieee.double x) (Ieee.Toward.zero.cut (negW Ieee.double x) (magM Ieee.double (rungW Ieee.double x) <<< (magE Ieee.double (rungW Ieee.double x)).toNat) (-(magE Ieee.double (rungW Ieee.double x))).toNat) 0 := by rw [hd]; rfl
  generalize Ieee.Toward.zero.cut (negW Ieee.double x) (magM Ieee.double (rungW Ieee.double x) <<< (magE Ieee.double (rungW Ieee.double x)).toNat) (-(magE Ieee.double (rungW Ieee.double x))).toNat = c at hle hi
  have hM := cut_mle hle
  have a1 : (KV .f64 x).natAbs = rungW Ieee.double x := KV_abs .f64 x
  have h2 := h.2
  have hN : MLe (magM Ieee.double (rungW Ieee.double x)) (magE Ieee.double (rungW Ieee.double x)) (magM Ieee.double 4741671816366391296) (magE Ieee.double 4741671816366391296) := mag_mono (by omega) (by decide)
  have hT := mle_trans hM hN
  have e1 : magM Ieee.double 4741671816366391296 = 8388608000000000 := by decide
  have e2 : magE Ieee.double 4741671816366391296 = -23 := by decide
  rw [e1, e2] at hT
  unfold MLe at hT
  have e3 : ((0 : Int) - min 0 (-23)).toNat = 23 := by decide
  have e4 : ((-23 : Int) - min 0 (-23)).toNat = 0 := by decide
  rw [e3, e4] at hT
  have hc : c ≤ 1000000000 := by omega
  have hs : Ieee.signed (negW Ieee.double x) c 0 = sv (negW Ieee.double x) c := by rw [signed_eq]; simp
  unfold floatToIntVal Ieee.Datum.toInt
  rw [hi]
  simp only [hs]
  have hr : IntKind.i64.min ≤ sv (negW Ieee.double x) c ∧ sv (negW Ieee.double x) c ≤ IntKind.i64.max := by
    have m1 : IntKind.i64.min = -9223372036854775808 := by decide
    have m2 : IntKind.i64.max = 9223372036854775807 := by decide
    rw [m1, m2]
    unfold sv
    split <;> omega
  rw [if_pos hr]
  exact ⟨_, rfl⟩
end Go.Proofs.Ytgbehnkccgahoaa
