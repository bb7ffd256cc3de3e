/- The logarithm of whatever is at least 0, infinity included. -/
import Derived.Test.YtgbehnkccgahoaaLogU
import Derived.Test.YtgbehnkccgahoaaPhasor
namespace Go.Proofs.Ytgbehnkccgahoaa
open Go.RowKit Mag
set_option maxRecDepth 100000
/-- The logarithm of a float32 that is no NaN and at least 0. -/
def logA (a : Nat) : Nat := if a = 0 then 4286578688 else if a = 2139095040 then 2139095040 else logFP a
theorem inf_any (w : World) : Calls Try.prog 46 #[.int .i64 (-1)] w fun e w' => e = .returned (.float .f64 18442240474082181120) ∧ w' = w := by
  have hd := run_frombits
  go_enter Try.func46, Try.ntmps46
  go_wp2
  go_ret
  exact ⟨rfl, rfl⟩
theorem minf_fits : fitsN 18442240474082181120 := fits_inf (s := true) (by decide +kernel)
theorem pinf_fits : fitsN 9218868437227405312 := fits_inf (s := false) (by decide +kernel)
theorem minf_narrow : narrow 18442240474082181120 = 4286578688 := by decide +kernel
theorem pinf_narrow : narrow 9218868437227405312 = 2139095040 := by decide +kernel
theorem pinf_widen : widen 2139095040 = 9218868437227405312 := by decide +kernel
theorem zero_widen : widen 0 = 0 := by decide +kernel
theorem implLog0_any (w : World) : Calls Try.prog 25 #[.float .f32 0] w fun e w' => ∃ r, e = .returned (.float .f32 r) ∧ Hid (cn .f32 r = 4286578688) ∧ ∃ q, w' = w.drewN q := by
  have c1 : (FloatKind.f32.format.order 0 0 == some .eq) = true := by decide +kernel
  have hfits := minf_fits
  go_enter Try.func25, Try.ntmps25
  go_wp2_with (first
    | (refine (inf_any _).mono ?_; rintro e w1 ⟨rfl, rfl⟩)
    | (refine wpList_narrow _ rfl 52 28 _ rfl rfl Try.underlying28 _ rfl hfits ?_; intro r3 q3 h3))
  go_ret
  exact ⟨r3, rfl, h3.out.trans minf_narrow, _, rfl⟩
theorem implLogI_any (w : World) : Calls Try.prog 25 #[.float .f32 2139095040] w fun e w' => ∃ r, e = .returned (.float .f32 r) ∧ Hid (cn .f32 r = 2139095040) ∧ ∃ q, w' = w.drewN q := by
  have c1 : (FloatKind.f32.format.order 2139095040 0 == some .eq) = false := by decide +kernel
  have c2 : (FloatKind.f32.format.order 2139095040 2139095040 != some .eq) = false := by decide +kernel
  have c3 : (FloatKind.f32.format.order 2139095040 0 == some .lt) = false := by decide +kernel
  have hfin : finB 2139095040 = false := by decide +kernel
  go_enter Try.func25, Try.ntmps25
  go_wp2_with fail
  refine (isFin_any _ _).mono ?_
  rintro e w1 ⟨rfl, q, rfl⟩
  rw [hfin]
  go_wp2
  go_ret
  exact ⟨_, rfl, by show cn .f32 2139095040 = _; decide +kernel, _, rfl⟩
theorem implLogA_any (a r0 : Nat) (w : World) (hr0 : cn .f32 r0 = a) (h : a ≤ 2139095040) :
    Calls Try.prog 25 #[.float .f32 r0] w fun e w' => ∃ r, e = .returned (.float .f32 r) ∧ Hid (cn .f32 r = logA a) ∧ ∃ q, w' = w.drewN q := by
  unfold logA
  by_cases h0 : a = 0
  · subst h0
    obtain rfl : r0 = 0 := cn_num hr0 (by decide +kernel)
    rw [if_pos rfl]; exact implLog0_any w
  rw [if_neg h0]
  by_cases h1 : a = 2139095040
  · subst h1
    obtain rfl : r0 = 2139095040 := cn_num hr0 (by decide +kernel)
    rw [if_pos rfl]; exact implLogI_any w
  rw [if_neg h1]
  exact implLogP_any a r0 w hr0 (by omega) (by omega)
theorem isInf_yes (w : World) : Calls Try.prog 72 #[.float .f64 9218868437227405312, .int .i64 1] w fun e w' => e = .returned (.bool true) ∧ w' = w := by
  have c1 : (FloatKind.f64.format.order 9218868437227405312 9218868437227405311 == some .gt) = true := by decide +kernel
  go_enter Try.func72, Try.ntmps72
  go_wp2
  go_ret
  exact ⟨rfl, rfl⟩
theorem logWide0_any (w : World) : Calls Try.prog 59 #[.float .f64 0] w fun e w' => e = .returned (.float .f64 18442240474082181120) ∧ w' = w := by
  have c1 : (FloatKind.f64.format.order 0 0 != some .eq) = false := by decide +kernel
  have c2 : (FloatKind.f64.format.order 0 0 == some .lt) = false := by decide +kernel
  have c3 : (FloatKind.f64.format.order 0 0 == some .eq) = true := by decide +kernel
  go_enter Try.func59, Try.ntmps59
  go_wp2_with (refine (inf_any _).mono ?_; rintro e w1 ⟨rfl, rfl⟩)
  go_ret
  exact ⟨rfl, rfl⟩
theorem logWideI_any (w : World) : Calls Try.prog 59 #[.float .f64 9218868437227405312] w fun e w' => e = .returned (.float .f64 9218868437227405312) ∧ w' = w := by
  have c1 : (FloatKind.f64.format.order 9218868437227405312 9218868437227405312 != some .eq) = false := by decide +kernel
  have c2 : (FloatKind.f64.format.order 9218868437227405312 0 == some .lt) = false := by decide +kernel
  have c3 : (FloatKind.f64.format.order 9218868437227405312 0 == some .eq) = false := by decide +kernel
  go_enter Try.func59, Try.ntmps59
  go_wp2_with (refine (isInf_yes _).mono ?_; rintro e w1 ⟨rfl, rfl⟩)
  go_ret
  exact ⟨rfl, rfl⟩
theorem specLog0_any (w : World) : Calls Try.prog 38 #[.float .f32 0] w fun e w' => ∃ r, e = .returned (.float .f32 r) ∧ Hid (cn .f32 r = 4286578688) ∧ ∃ q, w' = w.drewN q := by
  have hcv := run_widen_num (P := Try.prog) 28 52 rfl Try.underlying52
  have hcv' := fun w => hcv w 0 (by decide +kernel)
  simp only [zero_widen] at hcv'
  clear hcv
  go_enter Try.func38, Try.ntmps38
  go_wp2_with fail
  clear hcv'
  refine (logWide0_any _).mono ?_
  rintro e w2 ⟨rfl, rfl⟩
  go_wp2_with fail
  refine (l01Narrow_any _ _ minf_fits).mono ?_
  rintro e w3 ⟨r3, rfl, h3, q3, rfl⟩
  go_wp2
  go_ret
  exact ⟨r3, rfl, h3.out.trans minf_narrow, _, rfl⟩
theorem specLogI_any (w : World) : Calls Try.prog 38 #[.float .f32 2139095040] w fun e w' => ∃ r, e = .returned (.float .f32 r) ∧ Hid (cn .f32 r = 2139095040) ∧ ∃ q, w' = w.drewN q := by
  have hcv := run_widen_num (P := Try.prog) 28 52 rfl Try.underlying52
  have hcv' := fun w => hcv w 2139095040 (by decide +kernel)
  simp only [pinf_widen] at hcv'
  clear hcv
  go_enter Try.func38, Try.ntmps38
  go_wp2_with fail
  clear hcv'
  refine (logWideI_any _).mono ?_
  rintro e w2 ⟨rfl, rfl⟩
  go_wp2_with fail
  refine (l01Narrow_any _ _ pinf_fits).mono ?_
  rintro e w3 ⟨r3, rfl, h3, q3, rfl⟩
  go_wp2
  go_ret
  exact ⟨r3, rfl, h3.out.trans pinf_narrow, _, rfl⟩
theorem specLogA_any (a r0 : Nat) (w : World) (hr0 : cn .f32 r0 = a) (h : a ≤ 2139095040) :
    Calls Try.prog 38 #[.float .f32 r0] w fun e w' => ∃ r, e = .returned (.float .f32 r) ∧ Hid (cn .f32 r = logA a) ∧ ∃ q, w' = w.drewN q := by
  unfold logA
  by_cases h0 : a = 0
  · subst h0
    obtain rfl : r0 = 0 := cn_num hr0 (by decide +kernel)
    rw [if_pos rfl]; exact specLog0_any w
  rw [if_neg h0]
  by_cases h1 : a = 2139095040
  · subst h1
    obtain rfl : r0 = 2139095040 := cn_num hr0 (by decide +kernel)
    rw [if_pos rfl]; exact specLogI_any w
  rw [if_neg h1]
  exact specLogP_any a r0 w hr0 (by omega) (by omega)
end Go.Proofs.Ytgbehnkccgahoaa
