/- The walk's laws for narrowings and square roots; 'RootNumber' of both; the range of a drawn share. -/
import Derived.Test.YtijafnejdibdlaaGreatDoorElem
import Derived.Test.YtijafnejdibdlaaGreatDoorShare
import Derived.Laws.Externs
namespace Go.Proofs.YtijafnejdibdlaaGreatDoor
open Go.RowKit Mag
set_option maxRecDepth 100000

theorem run_narrow {P : Program} (w : World) (src dst : TypeId) (x : Nat) (hs : (P.underlying src).isSome = true) (hd : P.underlying dst = some (.float .f32)) (hf : fitsN x) :
    ∃ r q, (convert src dst (.float .f64 x)).run P w = .ok (.float .f32 r) (w.drewN q) ∧ cn .f32 r = narrow x := by
  obtain ⟨u, hs'⟩ := Option.isSome_iff_exists.1 hs
  cases hx : FloatKind.f64.decode x with
  | number s m e =>
    have hfit := hf s m e hx
    refine ⟨FloatKind.f32.encode (.number s m e), 0, ?_, ?_⟩
    · exact run_convert_float_float w src dst .f64 .f32 x _ hs hd (by unfold floatToFloatBits; rw [if_neg (by decide), hx]; simp only; rw [if_neg (by rw [hfit]; decide)])
    · unfold narrow; rw [hx]; exact cn_of_not (write_not_nan _ _ rfl)
  | infinity s =>
    refine ⟨FloatKind.f32.encode (.infinity s), 0, ?_, ?_⟩
    · exact run_convert_float_float w src dst .f64 .f32 x _ hs hd (by unfold floatToFloatBits; rw [if_neg (by decide), hx])
    · unfold narrow; rw [hx]; exact cn_of_not (write_not_nan _ _ rfl)
  | nan s f =>
    refine ⟨(Question.nanConv .f32 x).cut (w.tape w.drawn (.nanConv .f32 x)), 1, ?_, ?_⟩
    · cases u <;> simp [convert, run_underlying hs', run_underlying hd, Conv.floatToFloat, hx, Question.forced] <;> rfl
    · rw [cn_of_nan (cut_nan .f32 _ _ rfl)]; unfold narrow; rw [hx]
theorem wpList_narrow {P : Program} (w : World) {ops : Array Oper} {rest : List Oper} {o : Oper} {a : Act} {Q : Exit → Act → World → Prop}
    (hg : o.guard = none) (src dst : TypeId) (s : Operand) (hop : o.op = Op.convert src dst s) (hsr : (P.underlying src).isSome = true) (hd : P.underlying dst = some (.float .f32)) (fa : Nat) (hs : a.eval s = .float .f64 fa) (hf : fitsN fa)
    (h : ∀ r q, Hid (cn .f32 r = narrow fa) → wpList P ops Q rest (a.put o.dst (.float .f32 r)) (w.drewN q)) : wpList P ops Q (o :: rest) a w := by
  refine wpList_plain hg fun K hK => ?_
  obtain ⟨r, q, hrun, hr⟩ := run_narrow (P := P) w src dst fa hsr hd hf
  unfold Oper.wp
  simp [execOp, hop, hs, hrun, Result.andThen]
  exact hK _ _ (h r q hr)
/-- The library's square root: the bits that come, and how many draws. -/
def sqV (w : World) (x : Nat) : Nat :=
  match FloatKind.f64.format.sqrt x with
  | some r => r
  | none => (Question.nanBits .f64 x x).cut (w.tape w.drawn (.nanBits .f64 x x))
def sqD (x : Nat) : Nat :=
  match FloatKind.f64.format.sqrt x with
  | some _ => 0
  | none => 1
theorem sqV_cn (w : World) (x : Nat) : cn .f64 (sqV w x) = sqrtF x := by
  unfold sqV sqrtF
  cases h : FloatKind.f64.format.sqrt x with
  | some r => exact cn_of_not (sqrt_not_nan h)
  | none => exact cn_of_nan (cut_nan .f64 _ _ rfl)
theorem run_sqrt_entry {P : Program} (w : World) (x : Nat) : (Extern.MathSqrt.sqrt #[.float .f64 x]).run P w = .ok (.float .f64 (sqV w x)) (w.drewN (sqD x)) := by
  unfold sqV sqD
  change Sem.run P (match FloatKind.f64.format.sqrt x with
    | some r => (pure (Value.float .f64 r) : Sem Value)
    | none => do pure (Value.float .f64 (← choose (.nanBits .f64 x x)))) w = _
  cases h : FloatKind.f64.format.sqrt x with
  | some r => rfl
  | none => simp [Question.forced]; rfl
theorem run_sqrt (w : World) (x : Nat) : (callFunc 53 #[.float .f64 x]).run Tryz.prog w = .ok (.value (.float .f64 (sqV w x))) (w.drewN (sqD x)) := by
  rw [run_callFunc_extern Tryz.func53 (by kernel_rfl) (by kernel_rfl) (by kernel_rfl) (e := Extern.MathSqrt.sqrt) (by kernel_rfl), run_sqrt_entry]
  rfl
theorem sqrt_any (x : Nat) (w : World) : Calls Tryz.prog 32 #[.float .f64 x] w fun e w' => ∃ r, e = .returned (.float .f64 r) ∧ Hid (cn .f64 r = sqrtF x) ∧ ∃ q, w' = w.drewN q := by
  have hd := run_sqrt
  go_enter Tryz.func32, Tryz.ntmps32
  go_wp2
  go_ret
  exact ⟨_, rfl, sqV_cn _ x, _, rfl⟩
/-- 'RootNumber'. -/
def rootF (x : Nat) : Nat := narrow (sqrtF (widen x))
theorem cn_rootF (x : Nat) : cn .f32 (rootF x) = rootF x := cn_narrow _
theorem rootF_l {x y : Nat} (h : cn .f32 x = y) : rootF x = rootF y := by unfold rootF; rw [← h, widen_cn]
theorem read_write_inf (s : Bool) : FloatKind.f64.decode (FloatKind.f64.encode (.infinity s)) = .infinity s := by cases s <;> decide
theorem root_fits (x : Nat) : fitsN (sqrtF (widen x)) := by
  cases hx : FloatKind.f32.decode x with
  | nan s f =>
    have : isNaNB .f32 x = true := by show (FloatKind.f32.decode x).isNaN = true; rw [hx]; rfl
    have h : sqrtF (widen x) = qnan .f64 := by unfold sqrtF; rw [widen_nan this, sqrt_nan (qnan_isNaN .f64)]; rfl
    rw [h]; exact fits_nan (qnan_isNaN .f64)
  | infinity s =>
    have hw : widen x = FloatKind.f64.encode (.infinity s) := by unfold widen; rw [hx]
    rw [hw]
    cases s
    · exact fits_inf (s := false) (by decide +kernel)
    · exact fits_nan (by decide +kernel)
  | number s m e =>
    have hf : FinK .f32 x := by
      rcases Nat.lt_or_ge (rungW Ieee.single x) Ieee.single.infRung with h | h
      · exact h
      · exfalso
        have h' : Ieee.Format.read Ieee.single x = .number s m e := hx
        unfold Ieee.Format.read at h'
        dsimp only at h'
        change (if rungW Ieee.single x < Ieee.single.binade then _ else if rungW Ieee.single x < Ieee.single.infRung then _ else if rungW Ieee.single x = Ieee.single.infRung then _ else _) = _ at h'
        have hb : Ieee.single.binade ≤ Ieee.single.infRung := by decide
        rw [if_neg (by omega), if_neg (by omega)] at h'
        split at h' <;> cases h'
    have hk := FinK_iff.1 hf
    have hi32 : infK .f32 = 2139095040 := by decide
    rw [hi32] at hk
    have hr : Rn .f32 (-2139095039) 2139095039 x := ⟨hf, by omega, by omega⟩
    have hw : Rn .f64 (-(5183643170566569984 : Nat)) (5183643170566569984 : Nat) (widen x) := hr.widen (by decide +kernel)
    by_cases hn : negW Ieee.double (widen x) = false
    · exact (Rn.sqrt (p := 5183643170566569984) (r := 4895412794951729152) hw.1 hw.2.2 hn (by decide +kernel)).fits (by decide +kernel)
    · have hn' : negW Ieee.double (widen x) = true := by simpa using hn
      by_cases h0 : magM Ieee.double (rungW Ieee.double (widen x)) = 0
      · have hs : sqrtF (widen x) = FloatKind.f64.encode (.number true 0 (magE Ieee.double (rungW Ieee.double (widen x)))) := by
          unfold sqrtF Ieee.Format.sqrt
          show ((Ieee.Datum.root _ (Ieee.double.read (widen x))).map _).getD _ = _
          rw [read_fin (f := Ieee.double) hw.1, hn', h0]
          rfl
        have hz : Rn .f64 0 0 (sqrtF (widen x)) := by
          have : KV .f64 (sqrtF (widen x)) = 0 := by
            rw [hs, KV_encode]
            unfold srg sv rg
            simp
          exact Rn.mk_ (by decide) (by omega) (by omega) (by decide)
        exact hz.fits (by decide +kernel)
      · have hs : sqrtF (widen x) = qnan .f64 := by
          unfold sqrtF Ieee.Format.sqrt
          show ((Ieee.Datum.root _ (Ieee.double.read (widen x))).map _).getD _ = _
          rw [read_fin (f := Ieee.double) hw.1, hn']
          unfold Ieee.Datum.root
          dsimp only
          rw [if_neg h0]
          rfl
        rw [hs]; exact fits_nan (qnan_isNaN .f64)
theorem l01Narrow_any (x : Nat) (w : World) (hf : fitsN x) : Calls Tryz.prog 54 #[.float .f64 x] w fun e w' => ∃ r, e = .returned (.float .f32 r) ∧ Hid (cn .f32 r = narrow x) ∧ ∃ q, w' = w.drewN q := by
  go_enter Tryz.func54, Tryz.ntmps54
  go_wp2_with (refine wpList_narrow _ rfl 46 28 _ rfl rfl Tryz.underlying28 _ rfl hf ?_; intro r3 q3 h3)
  go_ret
  exact ⟨r3, rfl, h3, _, rfl⟩
theorem specRoot_any (x : Nat) (w : World) : Calls Tryz.prog 33 #[.float .f32 x] w fun e w' => ∃ r, e = .returned (.float .f32 r) ∧ Hid (cn .f32 r = rootF x) ∧ ∃ q, w' = w.drewN q := by
  go_enter Tryz.func33, Tryz.ntmps33
  go_wp2_with (refine wpList_widen _ rfl 28 46 _ rfl rfl Tryz.underlying46 _ rfl ?_; intro r1 q1 h1)
  refine (sqrt_any _ _).mono ?_
  rintro e w1 ⟨r2, rfl, h2, q2, rfl⟩
  have hf : fitsN r2 := fitsN_cn (h2.out.trans (sqrtF_l h1.out)) (root_fits x)
  go_wp2_with fail
  refine (l01Narrow_any _ _ hf).mono ?_
  rintro e w2 ⟨r3, rfl, h3, q3, rfl⟩
  go_wp2
  go_ret
  refine ⟨r3, rfl, ?_, _, rfl⟩
  show _ = _
  rw [h3.out, narrow_l h2.out, sqrtF_l h1.out]
  rfl
theorem Rn.divP {k : FloatKind} {p c r : Nat} {d : Int} {x y : Nat} (hx : Rn k 0 p x) (hy : Rn k c d y) (h : chkDiv k p c r = true) : Rn k 0 r (fop .quo k x y) := by
  have hm := (hx.weak (lo' := -(p : Int)) (by omega) (Int.le_refl _)).div hy h
  refine ⟨hm.1, ?_, hm.2.2⟩
  have a1 := KV_abs k x
  simp only [chkDiv, Bool.and_eq_true, decide_eq_true_eq] at h
  obtain ⟨⟨⟨⟨h1, h2⟩, h3⟩, h4⟩, h5⟩ := h
  by_cases z1 : rungW k.format x = 0
  · have o0 : okK k (0 : Nat) = true := by cases k <;> rfl
    have hc : chkDiv k 0 c 0 = true := by
      simp only [chkDiv, Bool.and_eq_true, decide_eq_true_eq]
      refine ⟨⟨⟨⟨o0, h2⟩, o0⟩, h4⟩, ?_⟩
      have : magM k.format 0 = 0 := by unfold magM; rw [if_pos (binade_pos _)]
      rw [this, Nat.mul_zero]
      simp [MLe]
    have hx0 : Rn k (-(0 : Nat)) (0 : Nat) x := ⟨hx.1, by omega, by omega⟩
    have := (hx0.div hy hc).2
    omega
  · have n1 : negW k.format x = false := by
      rcases hb : negW k.format x with _ | _
      · rfl
      · have := KV_sign.2 hb; have := hx.2.1; omega
    have hy0 : 0 < (c : Int) := by
      have : c ≠ 0 := by intro e; subst e; exact h4 (by unfold magM; rw [if_pos (binade_pos _)])
      omega
    have n2 : negW k.format y = false := by
      rcases hb : negW k.format y with _ | _
      · rfl
      · have := KV_sign.2 hb; have := hy.2.1; omega
    have a2 := KV_abs k y
    have ky := KV_sign.1 n2
    have o1 := ok_lt h1; have o2 := ok_lt h2; have o3 := ok_lt h3
    unfold infK at o1 o2 o3
    have l1 : MLe (magM k.format (rungW k.format x)) (magE k.format (rungW k.format x)) (magM k.format p) (magE k.format p) := mag_mono (by have := hx.2; omega) (by omega)
    have l2 : MLe (magM k.format c) (magE k.format c) (magM k.format (rungW k.format y)) (magE k.format (rungW k.format y)) := mag_mono (by have := hy.2; omega) hy.1
    have h0 : magM k.format (rungW k.format y) ≠ 0 := by
      intro e
      rw [e] at l2
      unfold MLe at l2
      rw [Nat.zero_mul] at l2
      have := Nat.mul_pos (Nat.pos_of_ne_zero h4) (Nat.two_pow_pos (magE k.format c - min (magE k.format c) (magE k.format (rungW k.format y))).toNat)
      omega
    obtain ⟨z, hz, _, hn⟩ := div_le hx.1 hy.1 h0 (by omega) (mle_trans l1 (mle_trans h5 (mle_mul l2 (mle_refl (magM k.format r) (magE k.format r)))))
    have e : fop .quo k x y = z := by unfold fop floatBits; dsimp only; rw [hz]; rfl
    rw [e]
    rw [n1, n2] at hn
    have := KV_sign.1 hn
    omega
/-- What a whole number is as a float grows with it. -/
theorem floatOfInt_mono {a b : Int} (h : a ≤ b) : KV .f32 (floatOfInt .f32 a) ≤ KV .f32 (floatOfInt .f32 b) := by
  have e : ∀ n : Int, KV .f32 (floatOfInt .f32 n) = srg Ieee.single n 0 := by
    intro n
    show KV .f32 (FloatKind.f32.encode (.number (n < 0) n.natAbs 0)) = _
    rw [KV_encode]
    have : sv (decide (n < 0)) n.natAbs = n := by
      unfold sv
      by_cases h : n < 0
      · simp only [h, decide_true, if_true]; omega
      · simp only [h, decide_false, Bool.false_eq_true, if_false]; omega
    rw [this]; rfl
  rw [e, e]
  exact srg_mono _ (by unfold ILe; simp; exact h)
theorem share_rn (s : Sd) : Rn .f32 (0 : Nat) (1065353215 : Nat) (shareOf s) := by
  have hw := wordOf_ok s
  unfold shareOf
  have h1 : 0 ≤ wordOf s / 256 := by omega
  have h2 : wordOf s / 256 ≤ 16777215 := by omega
  have a := floatOfInt_mono h1
  have b := floatOfInt_mono h2
  have e1 : KV .f32 (floatOfInt .f32 0) = 0 := by decide +kernel
  have e2 : KV .f32 (floatOfInt .f32 16777215) = 1266679807 := by decide +kernel
  rw [e1] at a
  rw [e2] at b
  have hn : Rn .f32 0 (1266679807 : Nat) (floatOfInt .f32 (wordOf s / 256)) := Rn.mk_ (by decide) a b (by decide)
  have hd : Rn .f32 (1266679808 : Nat) 1266679808 1266679808 := Rn.const (by decide +kernel)
  exact hn.divP hd (by decide +kernel)
/-- 1 less a drawn share: greater than 0 and at most 1. -/
def leftOf (s : Sd) : Nat := fop .sub .f32 1065353216 (shareOf s)
theorem leftOf_rn (s : Sd) : 1 ≤ leftOf s ∧ leftOf s ≤ 1065353216 := by
  have h1 : Rn .f32 1065353216 1065353216 1065353216 := Rn.const (by decide +kernel)
  have h : Rn .f32 1 1065353216 (leftOf s) := h1.sub (share_rn s) (by decide +kernel)
  have hlt : leftOf s < 4294967296 := by
    unfold leftOf fop floatBits
    dsimp only
    obtain ⟨r, e, _⟩ := sub_sk h1.1 (share_rn s).1
    rw [e]
    exact Ieee.Format.sub_lt Ieee.single e
  obtain ⟨_, l, u⟩ := h
  have hs : Ieee.single.signWeight = 2147483648 := by decide
  have hk : KV .f32 (leftOf s) = leftOf s := by
    by_cases hb : leftOf s < 2147483648
    · exact sk_small (f := Ieee.single) (by rw [hs]; exact hb)
    · exfalso
      have hn : negW FloatKind.f32.format (leftOf s) = true := by
        show negW Ieee.single (leftOf s) = true
        unfold negW; rw [hs]
        have : leftOf s / 2147483648 = 1 := by omega
        rw [this]; rfl
      have := (KV_sign (k := .f32) (x := leftOf s)).2 hn
      omega
  rw [hk] at l u
  omega
end Go.Proofs.YtijafnejdibdlaaGreatDoor
