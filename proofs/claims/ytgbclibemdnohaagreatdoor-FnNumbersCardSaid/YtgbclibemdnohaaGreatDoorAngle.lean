/- 'AngleTurns' at any two numbers, one NaN for all. -/
import Derived.Test.YtgbclibemdnohaaGreatDoorNums
namespace Go.Proofs.YtgbclibemdnohaaGreatDoor
open Go.RowKit Mag
set_option maxRecDepth 100000
attribute [local go_sem] run_negF
theorem FinK_of_finB {x : Nat} (h : finB x = true) : FinK .f32 x := by
  unfold finB at h
  unfold FinK Fin_
  cases hx : FloatKind.f32.format.read x with
  | number s m e =>
    by_cases hc : rungW FloatKind.f32.format x < FloatKind.f32.format.infRung
    · exact hc
    · unfold Ieee.Format.read at hx
      have h1 : ¬ x % FloatKind.f32.format.signWeight < FloatKind.f32.format.infRung := hc
      have hb : FloatKind.f32.format.binade ≤ FloatKind.f32.format.infRung := by decide
      simp only at hx
      rw [if_neg (by omega), if_neg h1] at hx
      split at hx <;> cases hx
  | infinity s =>
    have : feq .f32 (fop .sub .f32 x x) 0 = false := by
      have e : fop .sub .f32 x x = qnan .f32 := by
        unfold fop floatBits
        dsimp only
        unfold Ieee.Format.sub
        rw [hx]
        cases s <;> rfl
      rw [e]; decide +kernel
    rw [this] at h; cases h
  | nan s t =>
    have : isNaNB .f32 x = true := by unfold isNaNB FloatKind.decode; rw [hx]; rfl
    have h2 := finB_not_nan (x := x) h
    rw [this] at h2; cases h2
/-- What is finite lies between the two greatest numbers. -/
theorem FinK.rn32 {x : Nat} (h : FinK .f32 x) : Rn .f32 (-(2139095039 : Nat)) (2139095039 : Nat) x := by
  have := FinK_iff.1 h
  have e : infK .f32 = 2139095040 := by decide
  rw [e] at this
  exact ⟨h, by omega, by omega⟩
theorem FinK.wide {x : Nat} (h : FinK .f32 x) : FinK .f64 (widen x) := (h.rn32.widen (lo := -(9218868437227405311 : Nat)) (hi := (9218868437227405311 : Nat)) (by decide +kernel)).1
theorem widen_zero {x : Nat} (hw : W32 x) (h : FinK .f32 x) (hz : KV .f64 (widen x) = 0) : KV .f32 x = 0 := by
  have a : Rn .f64 0 0 (widen x) := ⟨h.wide, by omega, by omega⟩
  have b : Rn .f32 0 0 (narrow (widen x)) := a.narrow (by decide +kernel)
  rw [narrow_widen hw, h.cn] at b
  have := b.2; omega
def In1 (t : Nat) : Prop := Rn .f64 (-(4607182418800017408 : Nat)) (4607182418800017408 : Nat) t
theorem quo_one {x y : Nat} (hx : FinK .f64 x) (hy : FinK .f64 y) (h1 : rungW FloatKind.f64.format x ≤ rungW FloatKind.f64.format y) (h2 : rungW FloatKind.f64.format y ≠ 0) : In1 (fop .quo .f64 x y) := by
  have hm : magM FloatKind.f64.format (rungW FloatKind.f64.format y) ≠ 0 := by
    intro e
    have := rg_mag (f := FloatKind.f64.format) hy
    rw [e] at this
    have z : rungW FloatKind.f64.format y = 0 := by rw [← this]; unfold rg; rw [if_pos rfl]
    exact h2 z
  have l1 := mag_mono h1 hy
  have c1 : magM FloatKind.f64.format 4607182418800017408 = 2 ^ 52 := by decide +kernel
  have c2 : magE FloatKind.f64.format 4607182418800017408 = -52 := by decide +kernel
  have l2 : MLe (magM FloatKind.f64.format (rungW FloatKind.f64.format x)) (magE FloatKind.f64.format (rungW FloatKind.f64.format x)) (magM FloatKind.f64.format (rungW FloatKind.f64.format y) * magM FloatKind.f64.format 4607182418800017408) (magE FloatKind.f64.format (rungW FloatKind.f64.format y) + magE FloatKind.f64.format 4607182418800017408) := by
    refine mle_trans l1 ?_
    rw [c1, c2]
    generalize magM FloatKind.f64.format (rungW FloatKind.f64.format y) = m
    generalize magE FloatKind.f64.format (rungW FloatKind.f64.format y) = e
    rw [mle_base (b := e - 52) (by omega) (by omega)]
    have e1 : (e - (e - 52)).toNat = 52 := by omega
    have e2 : (e + -52 - (e - 52)).toNat = 0 := by omega
    rw [e1, e2]
    omega
  obtain ⟨z, hz, hzr, _⟩ := div_le hx hy hm (r := 4607182418800017408) (by decide +kernel) l2
  have e : fop .quo .f64 x y = z := by unfold fop floatBits; dsimp only; rw [hz]; rfl
  rw [e]
  have a3 := KV_abs .f64 z
  refine ⟨?_, by omega, by omega⟩
  have hc : (4607182418800017408 : Nat) < FloatKind.f64.format.infRung := by decide
  show rungW FloatKind.f64.format z < _
  omega
def angU (t : Nat) : Nat := fop .add .f64 4607182418800017408 (fop .mul .f64 t t)
def angV (t : Nat) : Nat := fop .add .f64 4607182418800017408 (sqrtF (angU t))
def angR (t : Nat) : Nat := fop .quo .f64 t (angV t)
theorem c1_rn : Rn .f64 (4607182418800017408 : Nat) (4607182418800017408 : Nat) 4607182418800017408 := Rn.const (by decide +kernel)
theorem In1.sq {t : Nat} (h : In1 t) : Rn .f64 0 (4607182418800017408 : Nat) (fop .mul .f64 t t) := sq_rn h (by decide +kernel)
theorem In1.u {t : Nat} (h : In1 t) : Rn .f64 (4607182418800017408 : Nat) (4611686018427387904 : Nat) (angU t) := c1_rn.add h.sq (by decide +kernel)
theorem In1.root {t : Nat} (h : In1 t) : Rn .f64 0 (4609434218613702656 : Nat) (sqrtF (angU t)) := by
  have hu := h.u
  refine Rn.sqrt (p := 4611686018427387904) hu.1 hu.2.2 ?_ (by decide +kernel)
  cases hb : negW Ieee.double (angU t) with
  | false => rfl
  | true =>
    have := (KV_sign (k := .f64) (x := angU t)).2 hb
    have h2 := hu.2.1
    omega
theorem In1.v {t : Nat} (h : In1 t) : Rn .f64 (4607182418800017408 : Nat) (4613937818241073152 : Nat) (angV t) := c1_rn.add h.root (by decide +kernel)
theorem In1.next {t : Nat} (h : In1 t) : In1 (angR t) := h.div h.v (by decide +kernel)
def angN (t : Nat) : Nat → Nat
  | 0 => t
  | n + 1 => angR (angN t n)
theorem angN_in {t : Nat} (h : In1 t) : ∀ n, In1 (angN t n)
  | 0 => h
  | n + 1 => (angN_in h n).next
def kA (j : Nat) : Nat := eF (15 - 2 * (j : Int))
theorem kA_zero : (4624633867356078080 : Nat) = kA 0 := by decide +kernel
theorem kA_succ : ∀ j : Nat, j < 8 → fop .sub .f64 (kA j) 4611686018427387904 = kA (j + 1) := by decide +kernel
theorem kA_ge : ∀ j : Nat, j < 8 → (FloatKind.f64.format.order (kA j) 4607182418800017408 == some .gt || FloatKind.f64.format.order (kA j) 4607182418800017408 == some .eq) = true := by decide +kernel
theorem kA_lt : (FloatKind.f64.format.order (kA 8) 4607182418800017408 == some .gt || FloatKind.f64.format.order (kA 8) 4607182418800017408 == some .eq) = false := by decide +kernel
theorem kA_meas : ∀ j : Nat, j < 8 → kEm (kA (j + 1)) < kEm (kA j) := by decide +kernel
theorem kA_nan (j : Nat) : isNaNB .f64 (kA j) = false := eF_not_nan _
theorem kA_rn : ∀ n : Nat, n < 8 → rnB .f64 (0 : Nat) (4607182418800017408 : Nat) (fop .quo .f64 4607182418800017408 (kA n)) = true := by decide +kernel
def angP (u : Nat) : Nat → Nat
  | 0 => 0
  | n + 1 => fop .sub .f64 (fop .quo .f64 4607182418800017408 (kA n)) (fop .mul .f64 u (angP u n))
theorem angP_m : ∀ n : Nat, n < 8 → chkMul .f64 4607182418800017408 (eF n) (eF n) = true := by decide +kernel
theorem angP_s : ∀ n : Nat, n < 8 → chkSub .f64 (0 : Nat) (4607182418800017408 : Nat) (-(eF n : Nat)) (eF n : Nat) (-(eF ((n + 1 : Nat) : Int) : Nat)) (eF ((n + 1 : Nat) : Int) : Nat) = true := by decide +kernel
theorem angP_rn {u : Nat} (hu : Rn .f64 0 (4607182418800017408 : Nat) u) : ∀ n : Nat, n ≤ 8 → Rn .f64 (-(eF n : Nat)) (eF n : Nat) (angP u n)
  | 0, _ => by show Rn .f64 _ _ 0; exact Rn.const (by decide +kernel)
  | n + 1, h => by
    unfold angP
    have hu' : Rn .f64 (-(4607182418800017408 : Nat)) (4607182418800017408 : Nat) u := hu.weak (by omega) (by omega)
    have b := hu'.mul (angP_rn hu n (by omega)) (angP_m n (by omega))
    exact (Rn.const (kA_rn n (by omega))).sub b (angP_s n (by omega))
def angA (t p : Nat) : Nat := fop .quo .f64 (fop .mul .f64 4620693217682128896 (fop .mul .f64 t p)) 4618760256179416344
theorem ang_m1 {t p : Nat} (h : In1 t) (hp : Rn .f64 (-(4620693217682128896 : Nat)) (4620693217682128896 : Nat) p) : Rn .f64 (-(4620693217682128896 : Nat)) (4620693217682128896 : Nat) (fop .mul .f64 t p) := h.mul hp (by decide +kernel)
theorem ang_m2 {t p : Nat} (h : In1 t) (hp : Rn .f64 (-(4620693217682128896 : Nat)) (4620693217682128896 : Nat) p) : Rn .f64 (-(4634204016564240384 : Nat)) (4634204016564240384 : Nat) (fop .mul .f64 4620693217682128896 (fop .mul .f64 t p)) := by
  have c : Rn .f64 (-(4620693217682128896 : Nat)) (4620693217682128896 : Nat) 4620693217682128896 := Rn.const (by decide +kernel)
  exact c.mul (ang_m1 h hp) (by decide +kernel)
theorem angA_rn {t p : Nat} (h : In1 t) (hp : Rn .f64 (-(4620693217682128896 : Nat)) (4620693217682128896 : Nat) p) : Rn .f64 (-(4625196817309499392 : Nat)) (4625196817309499392 : Nat) (angA t p) := by
  have c : Rn .f64 (4618760256179416344 : Nat) (4618760256179416344 : Nat) 4618760256179416344 := Rn.const (by decide +kernel)
  exact (ang_m2 h hp).div c (by decide +kernel)
def angZ (t : Nat) : Nat := angA (angN t 3) (angP (fop .mul .f64 (angN t 3) (angN t 3)) 8)
theorem angP8 {t : Nat} (h : In1 t) : Rn .f64 (-(4620693217682128896 : Nat)) (4620693217682128896 : Nat) (angP (fop .mul .f64 t t) 8) := by
  have e : eF (8 : Nat) = 4620693217682128896 := by decide +kernel
  have := angP_rn h.sq 8 (by omega)
  rwa [e] at this
theorem angZ_rn {t : Nat} (h : In1 t) : Rn .f64 (-(4625196817309499392 : Nat)) (4625196817309499392 : Nat) (angZ t) := angA_rn (angN_in h 3) (angP8 (angN_in h 3))
def ang1 (c : Bool) (z : Nat) : Nat := if c then fop .sub .f64 4598175219545276416 z else z
def ang2 (c : Bool) (z : Nat) : Nat := if c then fop .sub .f64 4602678819172646912 z else z
def ang3 (c : Bool) (z : Nat) : Nat := if c then Op.negFloat .f64 z else z
theorem ang1_rn {z : Nat} (c : Bool) (h : Rn .f64 (-(4625196817309499392 : Nat)) (4625196817309499392 : Nat) z) : Rn .f64 (-(4629700416936869888 : Nat)) (4629700416936869888 : Nat) (ang1 c z) := by
  have k : Rn .f64 (4598175219545276416 : Nat) (4598175219545276416 : Nat) 4598175219545276416 := Rn.const (by decide +kernel)
  unfold ang1
  cases c
  · exact h.weak (by omega) (by omega)
  · exact k.sub h (by decide +kernel)
theorem ang2_rn {z : Nat} (c : Bool) (h : Rn .f64 (-(4629700416936869888 : Nat)) (4629700416936869888 : Nat) z) : Rn .f64 (-(4634204016564240384 : Nat)) (4634204016564240384 : Nat) (ang2 c z) := by
  have k : Rn .f64 (4602678819172646912 : Nat) (4602678819172646912 : Nat) 4602678819172646912 := Rn.const (by decide +kernel)
  unfold ang2
  cases c
  · exact h.weak (by omega) (by omega)
  · exact k.sub h (by decide +kernel)
theorem ang3_rn {z : Nat} (c : Bool) (h : Rn .f64 (-(4634204016564240384 : Nat)) (4634204016564240384 : Nat) z) : Rn .f64 (-(4634204016564240384 : Nat)) (4634204016564240384 : Nat) (ang3 c z) := by
  unfold ang3
  cases c
  · exact h
  · exact h.neg.weak (by omega) (by omega)
theorem ang_fits {z : Nat} (h : Rn .f64 (-(4634204016564240384 : Nat)) (4634204016564240384 : Nat) z) : fitsN z := h.fits (by decide +kernel)
/-- The quotient of the lesser by the greater. -/
def angT (a b : Nat) : Nat := if FloatKind.f64.format.order a b == some .gt then fop .quo .f64 b a else fop .quo .f64 a b
theorem angT_in {a b : Nat} (ha : FinK .f64 a) (hb : FinK .f64 b) (sa : negW FloatKind.f64.format a = false) (sb : negW FloatKind.f64.format b = false) (h : KV .f64 a ≠ 0 ∨ KV .f64 b ≠ 0) : In1 (angT a b) := by
  have ka := KV_sign.1 sa
  have kb := KV_sign.1 sb
  have hg := fgt_KV ha hb
  unfold fgt at hg
  unfold angT
  rw [hg]
  by_cases hc : KV .f64 b < KV .f64 a
  · rw [if_pos (by simpa using hc)]
    exact quo_one hb ha (by omega) (by omega)
  · rw [if_neg (by simpa using hc)]
    exact quo_one ha hb (by omega) (by omega)
def angW (y x : Nat) : Nat := ang3 (FloatKind.f32.format.order y 0 == some .lt) (ang2 (FloatKind.f32.format.order x 0 == some .lt) (ang1 (FloatKind.f64.format.order (absN (widen y)) (absN (widen x)) == some .gt) (angZ (angT (absN (widen y)) (absN (widen x))))))
/-- The angle, one NaN for all. -/
def angF (y x : Nat) : Nat := if finB x && finB y then (if (FloatKind.f32.format.order x 0 == some .eq) && (FloatKind.f32.format.order y 0 == some .eq) then 0 else narrow (angW y x)) else qnan .f32
theorem angT_arg {y x : Nat} (hy : W32 y) (hx : W32 x) (fy : FinK .f32 y) (fx : FinK .f32 x) (h : ((FloatKind.f32.format.order x 0 == some .eq) && (FloatKind.f32.format.order y 0 == some .eq)) = false) : In1 (angT (absN (widen y)) (absN (widen x))) := by
  refine angT_in (absN_fin fy.wide) (absN_fin fx.wide) (absN_neg _) (absN_neg _) ?_
  have h0 : FinK .f32 0 ∧ KV .f32 0 = 0 := ⟨(Rn.const (k := .f32) (lo := 0) (hi := 0) (by decide +kernel)).1, by decide +kernel⟩
  have e1 := feq_KV fx h0.1
  have e2 := feq_KV fy h0.1
  unfold feq at e1 e2
  rw [e1, e2, h0.2] at h
  by_cases hk : KV .f64 (absN (widen y)) = 0
  · right
    intro hk2
    rw [absN_KV] at hk hk2
    have a1 := KV_abs .f64 (widen y)
    have a2 := KV_abs .f64 (widen x)
    have z1 := widen_zero hy fy (by omega)
    have z2 := widen_zero hx fx (by omega)
    rw [z1, z2] at h
    cases h
  · exact .inl hk
theorem rd_new2 (w : World) (xs : List Nat) (e : TypeId) : Rd (w.alloc (.cells (f32s xs).toArray e)) (w.heap.size + 1) (some ⟨w.heap.size, 0, none⟩) xs.length (f32s xs) := by
  refine ⟨f32s_length xs, fun _ => ⟨w.heap.size, 0, rfl, by omega, fun j u hu => ?_⟩⟩
  rw [Nat.zero_add, cell_of_row _ _ j _ e (0, 0) (heap_alloc_new w _)]
  simpa using hu
set_option maxHeartbeats 4000000 in
theorem angle_any (y x : Nat) (hy : W32 y) (hx : W32 x) (w : World) : Calls Tryz.prog 16 #[.float .f32 y, .float .f32 x] w fun e w' => ∃ r, e = .returned (.float .f32 r) ∧ Hid (cn .f32 r = angF y x) ∧ Below w.heap.size w w' := by
  have HY := Lib.hid hy; have HX := Lib.hid hx; clear hy hx
  cases hfin : finB x && finB y with
  | false =>
    have he : Hid (angF y x = qnan .f32) := by show _ = _; unfold angF; rw [hfin]; rfl
    have hl : Hid (allP finB [x, y] = false) := by show _ = _; simp only [allP, List.all_cons, List.all_nil, Bool.and_true]; exact hfin
    clear hfin
    go_enter Tryz.func16, Tryz.ntmps16
    go_wp2_with fail
    refine (areFin_any _ 2 2 _ [x, y] _ (by exact rd_new2 w [x, y] 24) (by simp)).mono ?_
    rintro e w1 ⟨rfl, q, rfl⟩
    rw [hl.out]
    go_wp2_with fail
    refine (nan_any _).mono ?_
    rintro e w1 ⟨rfl, rfl⟩
    have hf : fitsN 9221120237041090561 := fits_nan (by decide +kernel)
    have hn : narrow 9221120237041090561 = qnan .f32 := narrow_nan (by decide +kernel)
    have t1 : True := trivial
    go_wp2_with (have := t1; clear this t1; refine wpList_narrow _ rfl 44 24 _ rfl rfl Tryz.underlying24 _ rfl hf ?_; intro r3 q3 h3)
    go_ret
    refine ⟨r3, rfl, ?_, below_drewN ((Below.refl _ _).alloc (Nat.le_refl _) _) (q + q3)⟩
    show _ = _
    rw [h3.out, he.out, hn]
  | true =>
    have hl : Hid (allP finB [x, y] = true) := by show _ = _; simp only [allP, List.all_cons, List.all_nil, Bool.and_true]; exact hfin
    have hf2 := Bool.and_eq_true .. ▸ hfin
    have fx := Lib.hid (FinK_of_finB hf2.1)
    have fy := Lib.hid (FinK_of_finB hf2.2)
    clear hf2
    cases hz : (FloatKind.f32.format.order x 0 == some .eq) && (FloatKind.f32.format.order y 0 == some .eq) with
    | true =>
      have he : Hid (angF y x = 0) := by show _ = _; unfold angF; rw [hfin, hz]; rfl
      have hz2 := Bool.and_eq_true .. ▸ hz
      obtain ⟨hz1, hz2⟩ := hz2
      clear hfin hz
      go_enter Tryz.func16, Tryz.ntmps16
      go_wp2_with fail
      refine (areFin_any _ 2 2 _ [x, y] _ (by exact rd_new2 w [x, y] 24) (by simp)).mono ?_
      rintro e w1 ⟨rfl, q, rfl⟩
      rw [hl.out]
      go_wp2_with fail
      go_ret
      refine ⟨0, rfl, ?_, below_drewN ((Below.refl _ _).alloc (Nat.le_refl _) _) q⟩
      show _ = _
      rw [he.out]; exact cn_of_not (zero_not_nan .f32)
    | false =>
      have he : Hid (angF y x = narrow (angW y x)) := by show _ = _; unfold angF; rw [hfin, hz]; rfl
      have hin := Lib.hid (angT_arg HY.out HX.out fy.out fx.out hz)
      have hA := Lib.hid (fun w => abs_gen (widen y) w)
      have hB := Lib.hid (fun w => abs_gen (widen x) w)
      have nx := Lib.hid (FinK_not_nan fx.out.wide)
      have ny := Lib.hid (FinK_not_nan fy.out.wide)
      have hW : Hid (angW y x = ang3 (FloatKind.f32.format.order y 0 == some .lt) (ang2 (FloatKind.f32.format.order x 0 == some .lt) (ang1 (FloatKind.f64.format.order (absN (widen y)) (absN (widen x)) == some .gt) (angZ (angT (absN (widen y)) (absN (widen x))))))) := rfl
      generalize absN (widen y) = a at hin hA hW
      generalize absN (widen x) = b at hin hB hW
      obtain ⟨c1, hc1⟩ : ∃ c, (FloatKind.f64.format.order a b == some .gt) = c := ⟨_, rfl⟩
      obtain ⟨c2, hc2⟩ : ∃ c, (FloatKind.f32.format.order x 0 == some .lt) = c := ⟨_, rfl⟩
      obtain ⟨c3, hc3⟩ : ∃ c, (FloatKind.f32.format.order y 0 == some .lt) = c := ⟨_, rfl⟩
      rw [hc1, hc2, hc3] at hW
      obtain ⟨t0, ht0⟩ : ∃ t, angT a b = t := ⟨_, rfl⟩
      rw [ht0] at hin hW
      have HT : Hid ((if c1 then fop .quo .f64 b a else fop .quo .f64 a b) = t0) := by show _ = _; rw [← ht0, ← hc1]; rfl
      have hzz : (FloatKind.f32.format.order x 0 == some .eq) = false ∨ (FloatKind.f32.format.order x 0 == some .eq) = true ∧ (FloatKind.f32.format.order y 0 == some .eq) = false := by
        cases hq : (FloatKind.f32.format.order x 0 == some .eq) with
        | false => exact .inl rfl
        | true => rw [hq, Bool.true_and] at hz; exact .inr ⟨rfl, hz⟩
      clear hfin ht0 hz
      rcases hzz with hz1 | ⟨hz1, hz2⟩
      all_goals
        go_enter Tryz.func16, Tryz.ntmps16
        go_wp2_with fail
        refine (areFin_any _ 2 2 _ [x, y] _ (by exact rd_new2 w [x, y] 24) (by simp)).mono ?_
        rintro e w1 ⟨rfl, q, rfl⟩
        rw [hl.out]
        have HBl : Hid (Below w.heap.size w ((w.alloc (.cells #[.float .f32 x, .float .f32 y] 24)).drewN q)) := below_drewN ((Below.refl _ _).alloc (Nat.le_refl _) _) q
        generalize (w.alloc (.cells #[.float .f32 x, .float .f32 y] 24)).drewN q = w1 at HBl ⊢
        have t1 : True := trivial
        have t2 : True := trivial
        have t3 : True := trivial
        have t4 : True := trivial
        have t5 : True := trivial
        go_upto_if 38 with (first
          | (have := t1; clear this t1; refine wpList_widen _ rfl 24 44 _ rfl rfl Tryz.underlying44 _ rfl ?_; intro r1 q1 h1; obtain rfl : r1 = widen y := cn_num h1.out ny.out)
          | (have := t2; clear this t2; refine (hA.out _).mono ?_; rintro e w2 ⟨rfl, rfl⟩)
          | (have := t3; clear this t3; refine wpList_widen _ rfl 24 44 _ rfl rfl Tryz.underlying44 _ rfl ?_; intro r2 q2 h2; obtain rfl : r2 = widen x := cn_num h2.out nx.out)
          | (have := t4; clear this t4; refine (hB.out _).mono ?_; rintro e w3 ⟨rfl, rfl⟩)
          | (have := t5; clear this t5; refine wpList_fop _ rfl .quo _ _ _ _ rfl rfl .f64 _ _ rfl rfl ?_; intro r4 q4 h4))
        have e4 : Hid (cn .f64 r4 = fop .quo .f64 a b) := h4
        go_cut [7] (fun s wx => s = .float .f64 t0 ∧ ∃ q', wx = w1.drewN q')
        case first =>
          cases c1 with
          | true =>
            have t1 : True := trivial
            go_wp2_with (have := t1; clear this t1; refine wpList_fop _ rfl .quo _ _ _ _ rfl rfl .f64 _ _ rfl rfl ?_; intro r5 q5 h5)
            go_meet
            case rel =>
              have e : r5 = t0 := cn_num (h5.out.trans HT.out) (FinK_not_nan hin.out.1)
              exact ⟨by rw [e], _, rfl⟩
          | false =>
            go_wp2_with fail
            go_meet
            case rel =>
              have e : r4 = t0 := cn_num (e4.out.trans HT.out) (FinK_not_nan hin.out.1)
              exact ⟨by rw [e], _, rfl⟩
        case rest =>
          obtain ⟨rfl, q', rfl⟩ := hcut
          clear h4 e4 r4 HT
          clear hA hB h1 h2 fx fy nx ny hl HX HY
          go_wp2_with fail
          go_loopw [7, 42] (fun a7 j wr => ∃ (k qq : Nat), k ≤ 3 ∧ j = .int .i64 k ∧ a7 = .float .f64 (angN t0 k) ∧ wr = w1.drewN qq) (fun _ j _ => 3 - (intOf j).toNat)
          case atStart => exact ⟨0, _, by omega, rfl, rfl, rfl⟩
          case round =>
            obtain ⟨k, qk, hk, rfl, rfl, rfl⟩ := hrel
            by_cases hlt : k < 3
            · have hlt' : (k : Int) < 3 := by omega
              have hT := Lib.hid (angN_in hin.out k)
              have Hlt := Lib.hid hlt
              have HN : Hid (angR (angN t0 k) = angN t0 (k + 1)) := rfl
              generalize angN t0 k = t at hT HN ⊢
              clear hlt hk
              have t1 : True := trivial
              have t2 : True := trivial
              have t3 : True := trivial
              have t4 : True := trivial
              have t5 : True := trivial
              go_wp2_with (first
                | (have := t1; clear this t1; refine wpList_fop _ rfl .mul _ _ _ _ rfl rfl .f64 _ _ rfl rfl ?_; intro u1 p1 hu1; obtain rfl : u1 = fop .mul .f64 t t := cn_num hu1.out (FinK_not_nan hT.out.sq.1))
                | (have := t2; clear this t2; refine wpList_fop _ rfl .add _ _ _ _ rfl rfl .f64 _ _ rfl rfl ?_; intro u2 p2 hu2; obtain rfl : u2 = angU t := cn_num hu2.out (FinK_not_nan hT.out.u.1))
                | (have := t3; clear this t3; refine (sqrt_any (angU t) _).mono ?_; rintro e w3 ⟨u3, rfl, hu3, p3, rfl⟩; obtain rfl : u3 = sqrtF (angU t) := cn_num hu3.out (FinK_not_nan hT.out.root.1))
                | (have := t4; clear this t4; refine wpList_fop _ rfl .add _ _ _ _ rfl rfl .f64 _ _ rfl rfl ?_; intro u4 p4 hu4; obtain rfl : u4 = angV t := cn_num hu4.out (FinK_not_nan hT.out.v.1))
                | (have := t5; clear this t5; refine wpList_fop _ rfl .quo _ _ _ _ rfl rfl .f64 _ _ rfl rfl ?_; intro u5 p5 hu5; obtain rfl : u5 = angR t := cn_num hu5.out (FinK_not_nan hT.out.next.1)))
              go_roundw
              case rel => exact ⟨k + 1, _, Hlt.out, by go_num, congrArg (Value.float .f64) HN.out, rfl⟩
              case measure => simp only [intOf]; omega
            · obtain rfl : k = 3 := by omega
              clear hlt hk
              have hT := Lib.hid (angN_in hin.out 3)
              have HZ : Hid (angZ t0 = angA (angN t0 3) (angP (fop .mul .f64 (angN t0 3) (angN t0 3)) 8)) := rfl
              generalize angN t0 3 = t at hT HZ ⊢
              clear hin
              have t1 : True := trivial
              go_wp2_with (have := t1; clear this t1; refine wpList_fop _ rfl .mul _ _ _ _ rfl rfl .f64 _ _ rfl rfl ?_; intro u1 p1 hu1; obtain rfl : u1 = fop .mul .f64 t t := cn_num hu1.out (FinK_not_nan hT.out.sq.1))
              clear hu1
              have hU := Lib.hid hT.out.sq
              have H8 := Lib.hid (angP8 hT.out)
              obtain ⟨u, hu⟩ : ∃ u, fop .mul .f64 t t = u := ⟨_, rfl⟩
              rw [hu] at HZ hU H8
              rw [hu]
              clear hu
              go_loopw [9, 10] (fun b j wr => ∃ k qq : Nat, k ≤ 8 ∧ j = .float .f64 (kA k) ∧ b = .float .f64 (angP u k) ∧ wr = w1.drewN qq) (fun _ j _ => kEm (bitsOf j))
              case atStart => exact ⟨0, _, by omega, congrArg (Value.float .f64) kA_zero, rfl, rfl⟩
              case round =>
                obtain ⟨k, qk2, hk, rfl, rfl, rfl⟩ := hrel
                by_cases hlt : k < 8
                · have hge := kA_ge k hlt
                  have Hlt := Lib.hid hlt
                  have hP := Lib.hid (angP_rn hU.out (k + 1) (by omega))
                  have hP0 := Lib.hid (angP_rn hU.out k (by omega))
                  have hK := Lib.hid (Rn.const (kA_rn k hlt)).1
                  have hM := Lib.hid ((hU.out.weak (lo' := -(4607182418800017408 : Nat)) (by omega) (Int.le_refl _)).mul hP0.out (angP_m k hlt)).1
                  clear hlt hk
                  have t1 : True := trivial
                  have t2 : True := trivial
                  have t3 : True := trivial
                  have t4 : True := trivial
                  go_wp2_with (first
                    | (have := t1; clear this t1; refine wpList_fop _ rfl .quo _ _ _ _ rfl rfl .f64 _ _ rfl rfl ?_; intro u1 p1 hu1; obtain rfl : u1 = fop .quo .f64 4607182418800017408 (kA k) := cn_num hu1.out (FinK_not_nan hK.out))
                    | (have := t2; clear this t2; refine wpList_fop _ rfl .mul _ _ _ _ rfl rfl .f64 _ _ rfl rfl ?_; intro u2 p2 hu2; obtain rfl : u2 = fop .mul .f64 u (angP u k) := cn_num hu2.out (FinK_not_nan hM.out))
                    | (have := t3; clear this t3; refine wpList_fop _ rfl .sub _ _ _ _ rfl rfl .f64 _ _ rfl rfl ?_; intro u3 p3 hu3; obtain rfl : u3 = angP u (k + 1) := cn_num hu3.out (FinK_not_nan hP.out.1))
                    | (have := t4; clear this t4; refine wpList_fop _ rfl .sub _ _ _ _ rfl rfl .f64 _ _ rfl rfl ?_; intro u4 p4 hu4; obtain rfl : u4 = kA (k + 1) := cn_num (hu4.out.trans (kA_succ k Hlt.out)) (kA_nan _)))
                  go_roundw
                  case rel => exact ⟨k + 1, _, Hlt.out, rfl, rfl, rfl⟩
                  case measure => exact kA_meas k Hlt.out
                · obtain rfl : k = 8 := by omega
                  have hge := kA_lt
                  clear hlt hk
                  obtain ⟨p, hp⟩ : ∃ p, angP u 8 = p := ⟨_, rfl⟩
                  rw [hp] at HZ H8
                  rw [hp]
                  have H1 := Lib.hid (ang_m1 hT.out H8.out).1
                  have H2 := Lib.hid (ang_m2 hT.out H8.out).1
                  have H3 := Lib.hid (angA_rn hT.out H8.out)
                  clear hp
                  have t1 : True := trivial
                  have t2 : True := trivial
                  have t3 : True := trivial
                  go_upto_if 73 with (first
                    | (have := t1; clear this t1; refine wpList_fop _ rfl .mul _ _ _ _ rfl rfl .f64 _ _ rfl rfl ?_; intro u1 p1 hu1; obtain rfl : u1 = fop .mul .f64 t p := cn_num hu1.out (FinK_not_nan H1.out))
                    | (have := t2; clear this t2; refine wpList_fop _ rfl .mul _ _ _ _ rfl rfl .f64 _ _ rfl rfl ?_; intro u2 p2 hu2; obtain rfl : u2 = fop .mul .f64 4620693217682128896 (fop .mul .f64 t p) := cn_num hu2.out (FinK_not_nan H2.out))
                    | (have := t3; clear this t3; refine wpList_fop _ rfl .quo _ _ _ _ rfl rfl .f64 _ _ rfl rfl ?_; intro u3 p3 hu3; obtain rfl : u3 = angA t p := cn_num hu3.out (FinK_not_nan H3.out.1)))
                  rw [HZ.out] at hW
                  clear hge HZ hU H8 hc1
                  generalize angA t p = z at H3 hW ⊢
                  go_cut [11] (fun s wx => s = .float .f64 (ang1 c1 z) ∧ ∃ q', wx = w1.drewN q')
                  case first =>
                    have H4 := Lib.hid (ang1_rn c1 H3.out).1
                    cases c1 with
                    | true =>
                      have t1 : True := trivial
                      go_wp2_with (have := t1; clear this t1; refine wpList_fop _ rfl .sub _ _ _ _ rfl rfl .f64 _ _ rfl rfl ?_; intro r5 q5 h5)
                      have e5 : r5 = ang1 true z := cn_num h5.out (FinK_not_nan H4.out)
                      go_meet
                      case rel => exact ⟨by rw [e5], _, rfl⟩
                    | false =>
                      go_wp2_with fail
                      go_meet
                      case rel => exact ⟨rfl, _, rfl⟩
                  case rest =>
                    obtain ⟨rfl, q5, rfl⟩ := hcut
                    have H4 := Lib.hid (ang1_rn c1 H3.out)
                    generalize ang1 c1 z = z at H4 hW ⊢
                    go_upto_if 77 with fail
                    go_cut [11] (fun s wx => s = .float .f64 (ang2 c2 z) ∧ ∃ q', wx = w1.drewN q')
                    case first =>
                      have H5 := Lib.hid (ang2_rn c2 H4.out).1
                      cases c2 with
                      | true =>
                        have t1 : True := trivial
                        go_wp2_with (have := t1; clear this t1; refine wpList_fop _ rfl .sub _ _ _ _ rfl rfl .f64 _ _ rfl rfl ?_; intro r5 q5 h5; obtain rfl : r5 = ang2 true z := cn_num h5.out (FinK_not_nan H5.out))
                        go_meet
                        case rel => exact ⟨rfl, _, rfl⟩
                      | false =>
                        go_wp2_with fail
                        go_meet
                        case rel => exact ⟨rfl, _, rfl⟩
                    case rest =>
                      obtain ⟨rfl, q6, rfl⟩ := hcut
                      have H5 := Lib.hid (ang2_rn c2 H4.out)
                      generalize ang2 c2 z = z at H5 hW ⊢
                      have H6 := Lib.hid (ang3_rn c3 H5.out)
                      rw [← hW.out] at H6
                      have hf := Lib.hid (ang_fits H6.out)
                      cases c3 with
                      | true =>
                        have hWW : Hid (Op.negFloat .f64 z = angW y x) := hW.out.symm
                        have t1 : True := trivial
                        go_wp2_with (have := t1; clear this t1; rw [hWW.out]; refine wpList_narrow _ rfl 44 24 _ rfl rfl Tryz.underlying24 _ rfl hf.out ?_; intro r3 q3 h3)
                        go_ret
                        exact ⟨r3, rfl, h3.out.trans he.out.symm, below_drewN HBl.out _⟩
                      | false =>
                        have hWW : Hid (z = angW y x) := hW.out.symm
                        have t1 : True := trivial
                        go_wp2_with (have := t1; clear this t1; rw [hWW.out]; refine wpList_narrow _ rfl 44 24 _ rfl rfl Tryz.underlying24 _ rfl hf.out ?_; intro r3 q3 h3)
                        go_ret
                        exact ⟨r3, rfl, h3.out.trans he.out.symm, below_drewN HBl.out _⟩
end Go.Proofs.YtgbclibemdnohaaGreatDoor
