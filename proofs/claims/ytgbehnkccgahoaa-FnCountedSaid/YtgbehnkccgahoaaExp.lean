/- 'ExpNumber' of the program and of the reference, at what lies between -32 and 0. -/
import Derived.Test.YtgbehnkccgahoaaLog
import Derived.Test.YtgbehnkccgahoaaNeg
namespace Go.Proofs.Ytgbehnkccgahoaa
open Go.RowKit Mag
set_option maxRecDepth 100000
def kI (j : Nat) : Nat := eF (12 - (j : Int))
theorem kI_zero : (4622945017495814144 : Nat) = kI 0 := by decide +kernel
theorem kI_succ : ∀ j : Nat, j < 12 → fop .sub .f64 (kI j) 4607182418800017408 = kI (j + 1) := by decide +kernel
theorem kI_ge : ∀ j : Nat, j < 12 → (FloatKind.f64.format.order (kI j) 4607182418800017408 == some .gt || FloatKind.f64.format.order (kI j) 4607182418800017408 == some .eq) = true := by decide +kernel
theorem kI_lt : (FloatKind.f64.format.order (kI 12) 4607182418800017408 == some .gt || FloatKind.f64.format.order (kI 12) 4607182418800017408 == some .eq) = false := by decide +kernel
theorem kI_nan (j : Nat) : isNaNB .f64 (kI j) = false := eF_not_nan _
theorem kI_meas : ∀ j : Nat, j < 12 → kEm (kI (j + 1)) < kEm (kI j) := by decide +kernel
theorem kI_rn : ∀ j : Nat, j < 12 → rnB .f64 (4607182418800017408 : Nat) (4622945017495814144 : Nat) (kI j) = true := by decide +kernel
def expP (t : Nat) : Nat → Nat
  | 0 => 4607182418800017408
  | n + 1 => fop .add .f64 4607182418800017408 (fop .quo .f64 (fop .mul .f64 t (expP t n)) (kI n))
def sqN (p : Nat) : Nat → Nat
  | 0 => p
  | n + 1 => fop .mul .f64 (sqN p n) (sqN p n)
def exp64 (x : Nat) : Nat := sqN (expP (fop .quo .f64 x 4643211215818981376) 12) 8
theorem expP_rn {t : Nat} (ht : Rn .f64 (-(4593671619917905920 : Nat)) (4593671619917905920 : Nat) t) : ∀ n : Nat, n ≤ 12 → Rn .f64 (-(4608308318706860032 : Nat)) (4608308318706860032 : Nat) (expP t n)
  | 0, _ => by show Rn .f64 _ _ 4607182418800017408; exact Rn.const (by decide +kernel)
  | n + 1, h => by
    unfold expP
    have a : Rn .f64 (-(4594797519824748544 : Nat)) (4594797519824748544 : Nat) (fop .mul .f64 t (expP t n)) := ht.mul (expP_rn ht n (by omega)) (by decide +kernel)
    have b : Rn .f64 (-(4594797519824748544 : Nat)) (4594797519824748544 : Nat) (fop .quo .f64 (fop .mul .f64 t (expP t n)) (kI n)) := a.div (Rn.const (kI_rn n (by omega))) (by decide +kernel)
    have c : Rn .f64 (4607182418800017408 : Nat) (4607182418800017408 : Nat) 4607182418800017408 := Rn.const (by decide +kernel)
    exact c.add b (by decide +kernel)
theorem exp64_rn {x : Nat} (hx : Rn .f64 (-(4629700416936869888 : Nat)) (4629700416936869888 : Nat) x) : Rn .f64 (-(5003499186008621056 : Nat)) (5003499186008621056 : Nat) (exp64 x) := by
  have hc : Rn .f64 (4643211215818981376 : Nat) (4643211215818981376 : Nat) 4643211215818981376 := Rn.const (by decide +kernel)
  have ht : Rn .f64 (-(4593671619917905920 : Nat)) (4593671619917905920 : Nat) (fop .quo .f64 x 4643211215818981376) := hx.div hc (by decide +kernel)
  have h0 := expP_rn ht 12 (by omega)
  unfold exp64
  generalize expP (fop .quo .f64 x 4643211215818981376) 12 = p at h0
  have h1 : Rn .f64 (-(4609715693590413312 : Nat)) (4609715693590413312 : Nat) (sqN p 1) := h0.mul h0 (by decide +kernel)
  have h2 : Rn .f64 (-(4612811918334230528 : Nat)) (4612811918334230528 : Nat) (sqN p 2) := h1.mul h1 (by decide +kernel)
  have h3 : Rn .f64 (-(4618722892845154304 : Nat)) (4618722892845154304 : Nat) (sqN p 3) := h2.mul h2 (by decide +kernel)
  have h4 : Rn .f64 (-(4630826316843712512 : Nat)) (4630826316843712512 : Nat) (sqN p 4) := h3.mul h3 (by decide +kernel)
  have h5 : Rn .f64 (-(4654751689864118272 : Nat)) (4654751689864118272 : Nat) (sqN p 5) := h4.mul h4 (by decide +kernel)
  have h6 : Rn .f64 (-(4706261610602168320 : Nat)) (4706261610602168320 : Nat) (sqN p 6) := h5.mul h5 (by decide +kernel)
  have h7 : Rn .f64 (-(4805340802404319232 : Nat)) (4805340802404319232 : Nat) (sqN p 7) := h6.mul h6 (by decide +kernel)
  exact h7.mul h7 (by decide +kernel)
def expF (a : Nat) : Nat := narrow (exp64 (widen a))
theorem exp64_fits {x : Nat} (hx : Rn .f64 (-(4629700416936869888 : Nat)) (4629700416936869888 : Nat) x) : fitsN (exp64 x) := (exp64_rn hx).fits (by decide +kernel)
theorem widen_32 {a : Nat} (h : Rn .f32 (-(1107296256 : Nat)) (1107296256 : Nat) a) : Rn .f64 (-(4629700416936869888 : Nat)) (4629700416936869888 : Nat) (widen a) := h.widen (by decide +kernel)
theorem exp_guards {x : Nat} (hx : Rn .f64 (-(4629700416936869888 : Nat)) (4629700416936869888 : Nat) x) :
    (FloatKind.f64.format.order x x != some .eq) = false ∧ (FloatKind.f64.format.order x 4641240890982006784 == some .gt) = false ∧ (FloatKind.f64.format.order x 13864612927836782592 == some .lt) = false := by
  have a : Rn .f64 (4641240890982006784 : Nat) (4641240890982006784 : Nat) 4641240890982006784 := Rn.const (by decide +kernel)
  have b : Rn .f64 (-(4641240890982006784 : Nat)) (-(4641240890982006784 : Nat)) 13864612927836782592 := Rn.const (by decide +kernel)
  refine ⟨?_, ?_, ?_⟩
  · rw [order_self (FinK_not_nan hx.1)]; rfl
  · have := fgt_KV hx.1 a.1
    unfold fgt at this
    rw [this]
    have h1 := hx.2; have h2 := a.2
    simp only [decide_eq_false_iff_not]; omega
  · have := flt_KV hx.1 b.1
    unfold flt at this
    rw [this]
    have h1 := hx.2; have h2 := b.2
    simp only [decide_eq_false_iff_not]; omega
set_option maxHeartbeats 2000000 in
theorem exponential_g (x : Nat) (w : World) (g2 : (FloatKind.f64.format.order x 4641240890982006784 == some .gt) = false) (g3 : (FloatKind.f64.format.order x 13864612927836782592 == some .lt) = false) :
    Calls Try.prog 45 #[.float .f64 x] w fun e w' => ∃ r, e = .returned (.float .f64 r) ∧ Hid (cn .f64 r = exp64 x) ∧ ∃ q, w' = w.drewN q := by
  go_enter Try.func45, Try.ntmps45
  go_wp2_with (refine wpList_fop _ rfl .quo _ _ _ _ rfl rfl .f64 _ _ rfl rfl ?_; intro t q0 ht)
  clear g2 g3
  go_loopw [4, 5] (fun b j wr => ∃ k r q : Nat, k ≤ 12 ∧ j = .float .f64 (kI k) ∧ b = .float .f64 r ∧ Hid (cn .f64 r = expP (fop .quo .f64 x 4643211215818981376) k) ∧ wr = w.drewN q) (fun _ j _ => kEm (bitsOf j))
  case atStart => exact ⟨0, _, q0, by omega, congrArg (Value.float .f64) kI_zero, rfl, by show cn .f64 4607182418800017408 = 4607182418800017408; decide +kernel, rfl⟩
  case round =>
    obtain ⟨k, r, q', hk, rfl, rfl, hr, rfl⟩ := hrel
    by_cases hlt : k < 12
    · have hge := kI_ge k hlt
      have Hlt := Lib.hid hlt
      clear hlt hk
      have t1 : True := trivial
      have t2 : True := trivial
      have t3 : True := trivial
      have t4 : True := trivial
      go_wp2_with (first
        | (have := t1; clear this t1; refine wpList_fop _ rfl .mul _ _ _ _ rfl rfl .f64 _ _ rfl rfl ?_; intro u1 p1 hu1)
        | (have := t2; clear this t2; refine wpList_fop _ rfl .quo _ _ _ _ rfl rfl .f64 _ _ rfl rfl ?_; intro u2 p2 hu2)
        | (have := t3; clear this t3; refine wpList_fop _ rfl .add _ _ _ _ rfl rfl .f64 _ _ rfl rfl ?_; intro u3 p3 hu3)
        | (have := t4; clear this t4; refine wpList_fop _ rfl .sub _ _ _ _ rfl rfl .f64 _ _ rfl rfl ?_; intro u4 p4 hu4))
      have e4 : u4 = kI (k + 1) := cn_num (hu4.out.trans (kI_succ k Hlt.out)) (kI_nan _)
      have e3 : Hid (cn .f64 u3 = expP (fop .quo .f64 x 4643211215818981376) (k + 1)) := by
        show _ = _
        rw [hu3.out, fop_r hu2.out, fop_l hu1.out, fop_l ht.out, fop_r hr.out]; rfl
      go_roundw
      case rel => exact ⟨k + 1, u3, _, Hlt.out, congrArg (Value.float .f64) e4, rfl, e3, rfl⟩
      case measure => rw [e4]; exact kI_meas k Hlt.out
    · obtain rfl : k = 12 := by omega
      have hge := kI_lt
      clear hlt hk
      go_wp2
      go_loopw [4, 25] (fun b i wr => ∃ n r q : Nat, n ≤ 8 ∧ i = .int .i64 n ∧ b = .float .f64 r ∧ Hid (cn .f64 r = sqN (expP (fop .quo .f64 x 4643211215818981376) 12) n) ∧ wr = w.drewN q) (fun _ i _ => 8 - (intOf i).toNat)
      case atStart => exact ⟨0, r, _, by omega, rfl, rfl, hr, rfl⟩
      case round =>
        obtain ⟨n, r, q2, hn, rfl, rfl, hr2, rfl⟩ := hrel
        by_cases hlt : n < 8
        · have hlt' : (n : Int) < 8 := by omega
          go_wp2_with (refine wpList_fop _ rfl .mul _ _ _ _ rfl rfl .f64 _ _ rfl rfl ?_; intro u1 p1 hu1)
          have e3 : Hid (cn .f64 u1 = sqN (expP (fop .quo .f64 x 4643211215818981376) 12) (n + 1)) := by
            show _ = _
            rw [hu1.out, fop_l hr2.out, fop_r hr2.out]; rfl
          go_roundw
          case rel => exact ⟨n + 1, u1, _, by omega, by go_num, rfl, e3, rfl⟩
          case measure => simp only [intOf]; omega
        · obtain rfl : n = 8 := by omega
          go_wp2
          go_ret
          exact ⟨r, rfl, hr2, _, rfl⟩
theorem exponential_any (x : Nat) (w : World) (hx : Rn .f64 (-(4629700416936869888 : Nat)) (4629700416936869888 : Nat) x) :
    Calls Try.prog 45 #[.float .f64 x] w fun e w' => ∃ r, e = .returned (.float .f64 r) ∧ Hid (cn .f64 r = exp64 x) ∧ ∃ q, w' = w.drewN q :=
  exponential_g x w (exp_guards hx).2.1 (exp_guards hx).2.2
theorem implExp_any (a r0 : Nat) (w : World) (hr0 : cn .f32 r0 = a) (h : Rn .f32 (-(1107296256 : Nat)) (1107296256 : Nat) a) :
    Calls Try.prog 24 #[.float .f32 r0] w fun e w' => ∃ r, e = .returned (.float .f32 r) ∧ Hid (cn .f32 r = expF a) ∧ ∃ q, w' = w.drewN q := by
  obtain rfl : r0 = a := cn_num hr0 (FinK_not_nan h.1)
  have Hw := Lib.hid (widen_32 h)
  have hcv := run_widen_num (P := Try.prog) 28 52 rfl Try.underlying52
  have hcv' := fun w => hcv w r0 (FinK_not_nan h.1)
  clear hcv hr0 h
  go_enter Try.func24, Try.ntmps24
  go_wp2_with fail
  clear hcv'
  refine (exponential_any _ _ Hw.out).mono ?_
  rintro e w2 ⟨r2, rfl, hr2, q2, rfl⟩
  have hfits : fitsN r2 := fitsN_cn hr2.out (exp64_fits Hw.out)
  go_wp2_with (refine wpList_narrow _ rfl 52 28 _ rfl rfl Try.underlying28 _ rfl hfits ?_; intro r3 q3 h3)
  go_ret
  refine ⟨r3, rfl, ?_, _, rfl⟩
  show _ = _
  rw [h3.out, narrow_l hr2.out]
  rfl
set_option maxHeartbeats 2000000 in
theorem expWide_g (x : Nat) (w : World) (g1 : (FloatKind.f64.format.order x x != some .eq) = false) (g2 : (FloatKind.f64.format.order x 4641240890982006784 == some .gt) = false) (g3 : (FloatKind.f64.format.order x 13864612927836782592 == some .lt) = false) :
    Calls Try.prog 55 #[.float .f64 x] w fun e w' => ∃ r, e = .returned (.float .f64 r) ∧ Hid (cn .f64 r = exp64 x) ∧ ∃ q, w' = w.drewN q := by
  go_enter Try.func55, Try.ntmps55
  go_wp2_with (refine wpList_fop _ rfl .quo _ _ _ _ rfl rfl .f64 _ _ rfl rfl ?_; intro t q0 ht)
  clear g1 g2 g3
  go_loopw [4, 5] (fun b j wr => ∃ k r q : Nat, k ≤ 12 ∧ j = .int .i64 (12 - (k : Int)) ∧ b = .float .f64 r ∧ Hid (cn .f64 r = expP (fop .quo .f64 x 4643211215818981376) k) ∧ wr = w.drewN q) (fun _ j _ => (intOf j + 1).toNat)
  case atStart => exact ⟨0, _, q0, by omega, rfl, rfl, by show cn .f64 4607182418800017408 = 4607182418800017408; decide +kernel, rfl⟩
  case round =>
    obtain ⟨k, r, q', hk, rfl, rfl, hr, rfl⟩ := hrel
    by_cases hlt : k < 12
    · have hge : (1 : Int) ≤ 12 - (k : Int) := by omega
      have hge2 : (12 : Int) - (k : Int) ≤ 12 := by omega
      have Hlt := Lib.hid hlt
      clear hlt hk
      have t1 : True := trivial
      have t2 : True := trivial
      have t3 : True := trivial
      go_wp2_with (first
        | (have := t1; clear this t1; refine wpList_fop _ rfl .mul _ _ _ _ rfl rfl .f64 _ _ rfl rfl ?_; intro u1 p1 hu1)
        | (have := t2; clear this t2; refine wpList_fop _ rfl .quo _ _ _ _ rfl rfl .f64 _ _ rfl rfl ?_; intro u2 p2 hu2)
        | (have := t3; clear this t3; refine wpList_fop _ rfl .add _ _ _ _ rfl rfl .f64 _ _ rfl rfl ?_; intro u3 p3 hu3))
      have e3 : Hid (cn .f64 u3 = expP (fop .quo .f64 x 4643211215818981376) (k + 1)) := by
        show _ = _
        rw [hu3.out, fop_r hu2.out, fop_l hu1.out, fop_l ht.out, fop_r hr.out]; rfl
      go_roundw
      case rel => exact ⟨k + 1, u3, _, Hlt.out, congrArg (Value.int .i64) (by omega), rfl, e3, rfl⟩
      case measure => simp only [intOf]; omega
    · obtain rfl : k = 12 := by omega
      clear hlt hk
      rw [show (12 : Int) - ((12 : Nat) : Int) = 0 by omega]
      go_wp2
      go_loopw [4, 6] (fun b i wr => ∃ n r q : Nat, n ≤ 8 ∧ i = .int .i64 n ∧ b = .float .f64 r ∧ Hid (cn .f64 r = sqN (expP (fop .quo .f64 x 4643211215818981376) 12) n) ∧ wr = w.drewN q) (fun _ i _ => 8 - (intOf i).toNat)
      case atStart => exact ⟨0, r, _, by omega, rfl, rfl, hr, rfl⟩
      case round =>
        obtain ⟨n, r, q2, hn, rfl, rfl, hr2, rfl⟩ := hrel
        by_cases hlt : n < 8
        · have hlt' : (n : Int) < 8 := by omega
          go_wp2_with (refine wpList_fop _ rfl .mul _ _ _ _ rfl rfl .f64 _ _ rfl rfl ?_; intro u1 p1 hu1)
          have e3 : Hid (cn .f64 u1 = sqN (expP (fop .quo .f64 x 4643211215818981376) 12) (n + 1)) := by
            show _ = _
            rw [hu1.out, fop_l hr2.out, fop_r hr2.out]; rfl
          go_roundw
          case rel => exact ⟨n + 1, u1, _, by omega, by go_num, rfl, e3, rfl⟩
          case measure => simp only [intOf]; omega
        · obtain rfl : n = 8 := by omega
          go_wp2
          go_ret
          exact ⟨r, rfl, hr2, _, rfl⟩
theorem expWide_any (x : Nat) (w : World) (hx : Rn .f64 (-(4629700416936869888 : Nat)) (4629700416936869888 : Nat) x) :
    Calls Try.prog 55 #[.float .f64 x] w fun e w' => ∃ r, e = .returned (.float .f64 r) ∧ Hid (cn .f64 r = exp64 x) ∧ ∃ q, w' = w.drewN q :=
  expWide_g x w (exp_guards hx).1 (exp_guards hx).2.1 (exp_guards hx).2.2
theorem specExp_any (a r0 : Nat) (w : World) (hr0 : cn .f32 r0 = a) (h : Rn .f32 (-(1107296256 : Nat)) (1107296256 : Nat) a) :
    Calls Try.prog 31 #[.float .f32 r0] w fun e w' => ∃ r, e = .returned (.float .f32 r) ∧ Hid (cn .f32 r = expF a) ∧ ∃ q, w' = w.drewN q := by
  obtain rfl : r0 = a := cn_num hr0 (FinK_not_nan h.1)
  have Hw := Lib.hid (widen_32 h)
  have hcv := run_widen_num (P := Try.prog) 28 52 rfl Try.underlying52
  have hcv' := fun w => hcv w r0 (FinK_not_nan h.1)
  clear hcv hr0 h
  go_enter Try.func31, Try.ntmps31
  go_wp2_with fail
  clear hcv'
  refine (expWide_any _ _ Hw.out).mono ?_
  rintro e w2 ⟨r2, rfl, hr2, q2, rfl⟩
  have hfits : fitsN r2 := fitsN_cn hr2.out (exp64_fits Hw.out)
  go_wp2_with fail
  refine (l01Narrow_any _ _ hfits).mono ?_
  rintro e w3 ⟨r3, rfl, h3, q3, rfl⟩
  go_wp2
  go_ret
  refine ⟨r3, rfl, ?_, _, rfl⟩
  show _ = _
  rw [h3.out, narrow_l hr2.out]
  rfl
end Go.Proofs.Ytgbehnkccgahoaa
