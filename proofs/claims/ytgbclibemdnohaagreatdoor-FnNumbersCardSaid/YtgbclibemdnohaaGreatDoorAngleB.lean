/- 'AngleOf' at any complex number, and the sine of a quarter turn. -/
import Derived.Test.YtgbclibemdnohaaGreatDoorAngle
namespace Go.Proofs.YtgbclibemdnohaaGreatDoor
open Go.RowKit Mag
set_option maxRecDepth 100000
theorem angleOf_any (y x : Nat) (hy : W32 y) (hx : W32 x) (w : World) : Calls Tryz.prog 17 #[.complex .f32 x y] w fun e w' => ∃ r, e = .returned (.float .f32 r) ∧ Hid (cn .f32 r = angF y x) ∧ Below w.heap.size w w' := by
  have HY := Lib.hid hy; have HX := Lib.hid hx; clear hy hx
  go_enter Tryz.func17, Tryz.ntmps17
  go_wp2_with fail
  refine (angle_any y x HY.out HX.out _).mono ?_
  rintro e w1 ⟨r, rfl, hr, hb⟩
  have Hb := Lib.hid hb; clear hb
  go_wp2
  go_ret
  exact ⟨r, rfl, hr, Hb.out⟩
theorem quarter_any (w : World) : Calls Tryz.prog 19 #[.float .f32 1048576000] w fun e w' => e = .returned (.float .f32 1065353216) ∧ ∃ q, w' = w.drewN q := by
  have hfin : finB 1048576000 = true := by decide +kernel
  have hw : Hid (widen 1048576000 = 4598175219545276416) := by show _ = _; decide +kernel
  have hq : InQ 4598175219545276416 := Rn.const (by decide +kernel)
  have HQ := Lib.hid hq
  have hs : Hid (narrow (sineF 4598175219545276416) = 1065353216) := by show _ = _; decide +kernel
  have hft := Lib.hid (eight_fits (sineF_rn hq))
  clear hq
  have HF := Lib.hid hfin
  clear hfin
  go_enter Tryz.func19, Tryz.ntmps19
  go_wp2_with fail
  refine (isFin_any _ _).mono ?_
  rintro e w1 ⟨rfl, q, rfl⟩
  rw [HF.out]
  have t1 : True := trivial
  go_wp2_with (have := t1; clear this t1; refine wpList_widen _ rfl 24 44 _ rfl rfl Tryz.underlying44 _ rfl ?_; intro r1 q1 h1; obtain rfl : r1 = 4598175219545276416 := cn_num (h1.out.trans hw.out) (by decide +kernel))
  refine (huge_any _ (by omega) _).mono ?_
  rintro e w2 ⟨rfl, rfl⟩
  have t1 : True := trivial
  go_wp2_with (have := t1; clear this t1; refine wpList_widen _ rfl 24 44 _ rfl rfl Tryz.underlying44 _ rfl ?_; intro r2 q2 h2; obtain rfl : r2 = 4598175219545276416 := cn_num (h2.out.trans hw.out) (by decide +kernel))
  refine (sine_any _ HQ.out _).mono ?_
  rintro e w3 ⟨rfl, q3, rfl⟩
  generalize sineF 4598175219545276416 = s at hs hft ⊢
  have t1 : True := trivial
  go_wp2_with (have := t1; clear this t1; refine wpList_narrow _ rfl 44 24 _ rfl rfl Tryz.underlying24 _ rfl hft.out ?_; intro r4 q4 h4)
  obtain rfl : r4 = 1065353216 := cn_num (h4.out.trans hs.out) (by decide +kernel)
  go_ret
  exact ⟨rfl, _, rfl⟩
end Go.Proofs.YtgbclibemdnohaaGreatDoor
