/- Long numbers, same numbers, narrowed and finite complex numbers. -/
import Derived.Test.YtijafnejdibdlaaGreatDoorCpx
namespace Go.Proofs.YtijafnejdibdlaaGreatDoor
open Go.RowKit Mag
set_option maxRecDepth 100000
theorem sq_pos {a : Int} (h : a ≠ 0) : 0 < a * a := by
  rcases Int.lt_or_lt_of_ne h with h | h
  · exact Int.mul_pos_of_neg_of_neg h h
  · exact Int.mul_pos h h
theorem sq_nn (a : Int) : 0 ≤ a * a := by
  by_cases h : a = 0
  · rw [h]; decide
  · exact Int.le_of_lt (sq_pos h)
theorem long_root {a b : Int} (ha : a.natAbs ≤ 200) (hb : b.natAbs ≤ 200) : sqrtF (powF (floatOfInt .f32 a) (floatOfInt .f32 b)) = sqrtF (widen (floatOfInt .f32 (a * a + b * b))) := by
  have b1 := mul_bound ha ha
  have b2 := mul_bound hb hb
  by_cases h : a = 0 ∧ b = 0
  · rw [h.1, h.2]
    decide +kernel
  · have hp : 0 < a * a + b * b := by
      have h1 := sq_nn a
      have h2 := sq_nn b
      by_cases h3 : a = 0
      · have := sq_pos (a := b) (fun e => h ⟨h3, e⟩); omega
      · have := sq_pos h3; omega
    have v1 : Vl .f32 (floatOfInt .f32 a) a := Vl.int (by rw [sm32]; omega)
    have v2 : Vl .f32 (floatOfInt .f32 b) b := Vl.int (by rw [sm32]; omega)
    have v3 : Vl .f32 (floatOfInt .f32 (a * a + b * b)) (a * a + b * b) := Vl.int (by rw [sm32]; omega)
    exact (powF_v v1 v2 (by omega) (by omega)).2.2.sqrt (v3.widen (by rw [sm64]; omega)) hp (by rw [sm64]; omega)
theorem longOf_v {a b : Int} (ha : a.natAbs ≤ 200) (hb : b.natAbs ≤ 200) (w : World) :
    Calls Tryz.prog 10 #[.complex .f32 (floatOfInt .f32 a) (floatOfInt .f32 b)] w fun e w' => ∃ r, e = .returned (.float .f32 r) ∧ Hid (cn .f32 r = rootF (floatOfInt .f32 (a * a + b * b))) ∧ ∃ q, w' = w.drewN q := by
  have v1 : Vl .f32 (floatOfInt .f32 a) a := Vl.int (by rw [sm32]; omega)
  have v2 : Vl .f32 (floatOfInt .f32 b) b := Vl.int (by rw [sm32]; omega)
  have HP := Lib.hid (power_v _ _ a b v1 v2 (by omega) (by omega))
  have HR := Lib.hid (long_root ha hb)
  have HF := Lib.hid (root_fits (floatOfInt .f32 (a * a + b * b)))
  clear v1 v2 ha hb
  generalize floatOfInt .f32 (a * a + b * b) = t at *
  generalize floatOfInt .f32 a = x at *
  generalize floatOfInt .f32 b = y at *
  go_enter Tryz.func10, Tryz.ntmps10
  go_wp2_with fail
  refine (HP.out _).mono ?_
  rintro e w1 ⟨rfl, q, rfl⟩
  go_wp2_with fail
  refine (sqrt_any _ _).mono ?_
  rintro e w2 ⟨r2, rfl, h2, q2, rfl⟩
  have hf := Lib.hid (fitsN_cn (h2.out.trans HR.out) HF.out)
  have t1 : True := trivial
  go_wp2_with (have := t1; clear this t1; refine wpList_narrow _ rfl 46 28 _ rfl rfl Tryz.underlying28 _ rfl hf.out ?_; intro r3 q3 h3)
  go_ret
  refine ⟨r3, rfl, ?_, _, rfl⟩
  show _ = _
  rw [h3.out, narrow_l h2.out, HR.out]
  rfl
theorem specRootN_any (x : Nat) (w : World) : Calls Tryz.prog 11 #[.float .f32 x] w fun e w' => ∃ r, e = .returned (.float .f32 r) ∧ Hid (cn .f32 r = rootF x) ∧ ∃ q, w' = w.drewN q := by
  go_enter Tryz.func11, Tryz.ntmps11
  go_wp2_with fail
  refine (specRoot_any x _).mono ?_
  rintro e w1 ⟨r, rfl, hr, q, rfl⟩
  go_wp2
  go_ret
  exact ⟨r, rfl, hr, _, rfl⟩
theorem signbit_any (x : Nat) (w : World) : Calls Tryz.prog 63 #[.float .f64 x] w fun e w' => ∃ b, e = .returned (.bool b) ∧ Hid (b = decide (wrap64 (x : Int) < 0)) ∧ w' = w := by
  have hd1 := run_bits
  go_enter Tryz.func63, Tryz.ntmps63
  go_wp2
  go_ret
  exact ⟨_, rfl, by show _ = _; rfl, rfl⟩
theorem sameI_any (x y : Nat) (w : World) (h : cn .f32 x = cn .f32 y) : Calls Tryz.prog 48 #[.float .f32 x, .float .f32 y] w fun e w' => e = .returned (.bool true) ∧ ∃ q, w' = w.drewN q := by
  rcases cn_eq h with rfl | ⟨hx, hy⟩
  · cases hx : isNaNB .f32 x with
    | true =>
      have h1 : (FloatKind.f32.format.order x x != some .eq) = true := by rw [order_nan_l hx]; rfl
      clear h hx
      go_enter Tryz.func48, Tryz.ntmps48
      go_wp2
      go_ret
      exact ⟨rfl, 0, rfl⟩
    | false =>
      have h1 : (FloatKind.f32.format.order x x != some .eq) = false := by rw [order_self hx]; rfl
      have h2 : (FloatKind.f32.format.order x x == some .eq) = true := by rw [order_self hx]; rfl
      have hcv := fun w => run_widen_num (P := Tryz.prog) 28 46 rfl Tryz.underlying46 w x hx
      clear h hx
      generalize widen x = u at hcv
      go_enter Tryz.func48, Tryz.ntmps48
      go_wp2_with fail
      refine (signbit_any u _).mono ?_
      rintro e w1 ⟨b, rfl, hb, rfl⟩
      go_wp2_with fail
      refine (signbit_any u _).mono ?_
      rintro e w2 ⟨b', rfl, hb', hw⟩
      obtain rfl : b = b' := hb.out.trans hb'.out.symm
      subst hw
      have hbb : (b == b) = true := by cases b <;> rfl
      go_wp2_with fail
      go_ret
      exact ⟨rfl, 0, rfl⟩
  · have h1 : (FloatKind.f32.format.order x x != some .eq) = true := by rw [order_nan_l hx]; rfl
    have h2 : (FloatKind.f32.format.order y y != some .eq) = true := by rw [order_nan_l hy]; rfl
    clear h hx hy
    go_enter Tryz.func48, Tryz.ntmps48
    go_wp2
    go_ret
    exact ⟨rfl, 0, rfl⟩
theorem sameCI_any (x1 x2 y1 y2 : Nat) (w : World) (h1 : cn .f32 x1 = cn .f32 y1) (h2 : cn .f32 x2 = cn .f32 y2) : Calls Tryz.prog 23 #[.complex .f32 x1 x2, .complex .f32 y1 y2] w fun e w' => e = .returned (.bool true) ∧ ∃ q, w' = w.drewN q := by
  have H1 := Lib.hid h1
  have H2 := Lib.hid h2
  clear h1 h2
  go_enter Tryz.func23, Tryz.ntmps23
  go_wp2_with fail
  refine (sameI_any _ _ _ H1.out).mono ?_
  rintro e w1 ⟨rfl, q, rfl⟩
  go_wp2_with fail
  refine (sameI_any _ _ _ H2.out).mono ?_
  rintro e w2 ⟨rfl, q2, rfl⟩
  go_wp2
  go_ret
  exact ⟨rfl, _, rfl⟩
theorem narrowC_any (r s : Nat) (hr : fitsN r) (hs : fitsN s) (w : World) : Calls Tryz.prog 24 #[.complex .f64 r s] w fun e w' => ∃ u v, e = .returned (.complex .f32 u v) ∧ Hid (cn .f32 u = narrow r) ∧ Hid (cn .f32 v = narrow s) ∧ ∃ q, w' = w.drewN q := by
  have HR := Lib.hid hr; have HS := Lib.hid hs
  clear hr hs
  go_enter Tryz.func24, Tryz.ntmps24
  have t1 : True := trivial
  have t2 : True := trivial
  go_wp2_with (first
    | (have := t1; clear this t1; refine wpList_narrow _ rfl 46 28 _ rfl rfl Tryz.underlying28 _ rfl HR.out ?_; intro u q1 h1)
    | (have := t2; clear this t2; refine wpList_narrow _ rfl 46 28 _ rfl rfl Tryz.underlying28 _ rfl HS.out ?_; intro v q2 h2))
  go_ret
  exact ⟨u, v, rfl, h1, h2, _, rfl⟩
theorem rd_two (w : World) (x y : Nat) : Rd (w.alloc (.cells #[.float .f32 x, .float .f32 y] 28)) (w.heap.size + 1) (some ⟨w.heap.size, 0, none⟩) 2 (f32s [x, y]) := by
  refine ⟨rfl, fun _ => ⟨w.heap.size, 0, rfl, by omega, fun j u hu => ?_⟩⟩
  rw [Nat.zero_add, cell_of_row _ _ j _ 28 (0, 0) (heap_alloc_new w _)]
  simpa [f32s] using hu
theorem finCC_any (x y : Nat) (w : World) : Calls Tryz.prog 25 #[.complex .f32 x y] w fun e w' => e = .returned (.bool (finB x && finB y)) ∧ Below w.heap.size w w' := by
  obtain ⟨b, hb⟩ : ∃ b, (finB x && finB y) = b := ⟨_, rfl⟩
  rw [hb]
  have hl : Hid (allP finB [x, y] = b) := by show _ = _; rw [← hb]; simp only [allP, List.all_cons, List.all_nil, Bool.and_true]
  clear hb
  go_enter Tryz.func25, Tryz.ntmps25
  go_wp2_with fail
  refine (areFin_any _ 2 2 _ [x, y] _ (by exact rd_two w x y) (by simp)).mono ?_
  rintro e w2 ⟨rfl, q2, rfl⟩
  rw [hl.out]
  go_wp2
  go_ret
  exact ⟨rfl, below_drewN ((Below.refl _ _).alloc (Nat.le_refl _) _) q2⟩
end Go.Proofs.YtijafnejdibdlaaGreatDoor
