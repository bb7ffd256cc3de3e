/- The exponential of what is at most 0, minus infinity included. -/
import Derived.Test.YtgbehnkccgahoaaExp
import Derived.Test.YtgbehnkccgahoaaLogSign
namespace Go.Proofs.Ytgbehnkccgahoaa
open Go.RowKit Mag
set_option maxRecDepth 100000
/-- At most 0 and no NaN; minus infinity is allowed. -/
def Low (a : Nat) : Prop := isNaNB .f32 a = false ∧ ((FloatKind.f64.format.order (widen a) 13864612927836782592 == some .lt) = true ∧ (FloatKind.f64.format.order (widen a) 4641240890982006784 == some .gt) = false ∧ (FloatKind.f64.format.order (widen a) (widen a) != some .eq) = false
  ∨ Rn .f64 (-(4641240890982006784 : Nat)) 0 (widen a))
theorem low_guards {x : Nat} (hx : Rn .f64 (-(4641240890982006784 : Nat)) 0 x) :
    (FloatKind.f64.format.order x x != some .eq) = false ∧ (FloatKind.f64.format.order x 4641240890982006784 == some .gt) = false ∧ (FloatKind.f64.format.order x 13864612927836782592 == some .lt) = false := by
  have a : Rn .f64 (4641240890982006784 : Nat) (4641240890982006784 : Nat) 4641240890982006784 := Rn.const (by decide +kernel)
  have b : Rn .f64 (-(4641240890982006784 : Nat)) (-(4641240890982006784 : Nat)) 13864612927836782592 := Rn.const (by decide +kernel)
  refine ⟨?_, ?_, ?_⟩
  · rw [order_self (FinK_not_nan hx.1)]; rfl
  · have := fgt_KV hx.1 a.1
    unfold fgt at this
    rw [this]
    have h1 := hx.2; have h2 := a.2
    simp only [decide_eq_false_iff_not]; omega
  · have := flt_KV hx.1 b.1
    unfold flt at this
    rw [this]
    have h1 := hx.2; have h2 := b.2
    simp only [decide_eq_false_iff_not]; omega
theorem expP_low {t : Nat} (ht : Rn .f64 (-(4605380979056443392 : Nat)) 0 t) : ∀ n : Nat, n ≤ 12 → Rn .f64 0 (4607182418800017408 : Nat) (expP t n)
  | 0, _ => by show Rn .f64 _ _ 4607182418800017408; exact Rn.const (by decide +kernel)
  | n + 1, h => by
    unfold expP
    have a : Rn .f64 (-(4605380979056443392 : Nat)) 0 (fop .mul .f64 t (expP t n)) := ht.mulN (expP_low ht n (by omega)) (by decide +kernel)
    have b : Rn .f64 (-(4605380979056443392 : Nat)) 0 (fop .quo .f64 (fop .mul .f64 t (expP t n)) (kI n)) := a.divN (Rn.const (kI_rn n (by omega))) (by decide) (by decide +kernel)
    have c : Rn .f64 (4607182418800017408 : Nat) (4607182418800017408 : Nat) 4607182418800017408 := Rn.const (by decide +kernel)
    exact c.add b (by decide +kernel)
theorem exp64_low {x : Nat} (hx : Rn .f64 (-(4641240890982006784 : Nat)) 0 x) : Rn .f64 0 (4607182418800017408 : Nat) (exp64 x) := by
  have hc : Rn .f64 (4643211215818981376 : Nat) (4643211215818981376 : Nat) 4643211215818981376 := Rn.const (by decide +kernel)
  have ht : Rn .f64 (-(4605380979056443392 : Nat)) 0 (fop .quo .f64 x 4643211215818981376) := hx.divN hc (by decide) (by decide +kernel)
  have h0 := expP_low ht 12 (by omega)
  unfold exp64
  generalize expP (fop .quo .f64 x 4643211215818981376) 12 = p at h0
  have key : ∀ n, Rn .f64 0 (4607182418800017408 : Nat) (sqN p n) := by
    intro n
    induction n with
    | zero => exact h0
    | succ n ih => exact ih.mulP ih (by decide +kernel)
  exact key 8
theorem exp64_low_fits {x : Nat} (hx : Rn .f64 (-(4641240890982006784 : Nat)) 0 x) : fitsN (exp64 x) := (exp64_low hx).fits (by decide +kernel)
theorem narrow_zero : narrow 0 = 0 := by decide +kernel
theorem zero_fits : fitsN 0 := (Rn.const (k := .f64) (lo := 0) (hi := 0) (by decide +kernel)).fits (by decide +kernel)
theorem div_word {x y : Nat} (hx : FinK .f32 x) (hy : FinK .f32 y) (h0 : KV .f32 y ≠ 0) :
    ∃ r, r ≤ Ieee.single.infRung ∧ fop .quo .f32 x y = Ieee.single.word (negW Ieee.single x ^^ negW Ieee.single y) r := by
  have hm : magM Ieee.single (rungW Ieee.single y) ≠ 0 := by
    intro e
    have this : rg Ieee.single (magM Ieee.single (rungW Ieee.single y)) (magE Ieee.single (rungW Ieee.single y)) = rungW Ieee.single y := rg_mag (f := Ieee.single) hy
    rw [e] at this
    have z : rungW Ieee.single y = 0 := by rw [← this]; unfold rg; rw [if_pos rfl]
    have a : (KV .f32 y).natAbs = rungW Ieee.single y := KV_abs .f32 y
    omega
  have hx' : Fin_ Ieee.single x := hx
  have hy' : Fin_ Ieee.single y := hy
  refine ⟨_, rg_le Ieee.single (2 * ((magM Ieee.single (rungW Ieee.single x)) <<< (Ieee.single.fractionBits + 2 + (magM Ieee.single (rungW Ieee.single y)).log2 - (magM Ieee.single (rungW Ieee.single x)).log2) / (magM Ieee.single (rungW Ieee.single y))) + ((magM Ieee.single (rungW Ieee.single x)) <<< (Ieee.single.fractionBits + 2 + (magM Ieee.single (rungW Ieee.single y)).log2 - (magM Ieee.single (rungW Ieee.single x)).log2) % (magM Ieee.single (rungW Ieee.single y)) != 0).toNat) (magE Ieee.single (rungW Ieee.single x) - magE Ieee.single (rungW Ieee.single y) - (Ieee.single.fractionBits + 2 + (magM Ieee.single (rungW Ieee.single y)).log2 - (magM Ieee.single (rungW Ieee.single x)).log2 : Nat) - 1), ?_⟩
  unfold fop floatBits
  dsimp only
  show (Ieee.single.div x y).getD _ = _
  unfold Ieee.Format.div
  rw [read_fin hx', read_fin hy']
  unfold Ieee.Datum.quotient
  dsimp only
  rw [if_neg hm]
  show Ieee.single.nearest _ _ _ = _
  rw [nearest_rg]
theorem low_fin {z : Nat} (h : FinK .f32 z) (hk : KV .f32 z ≤ 0) : Low z := by
  refine ⟨FinK_not_nan h, ?_⟩
  have hz : Rn .f32 (-(2139095039 : Nat)) 0 z := ⟨h, by have := (FinK_iff.1 h).1; have e : infK .f32 = 2139095040 := (by decide); omega, hk⟩
  have hw : Rn .f64 (-(5183643170566569984 : Nat)) 0 (widen z) := hz.widen (by decide +kernel)
  have a : Rn .f64 (4641240890982006784 : Nat) (4641240890982006784 : Nat) 4641240890982006784 := Rn.const (by decide +kernel)
  have b : Rn .f64 (-(4641240890982006784 : Nat)) (-(4641240890982006784 : Nat)) 13864612927836782592 := Rn.const (by decide +kernel)
  by_cases hlt : KV .f64 (widen z) < -4641240890982006784
  · left
    refine ⟨?_, ?_, ?_⟩
    · have := flt_KV hw.1 b.1
      unfold flt at this
      rw [this]
      have h2 := b.2
      simp only [decide_eq_true_eq]; omega
    · have := fgt_KV hw.1 a.1
      unfold fgt at this
      rw [this]
      have h1 := hw.2; have h2 := a.2
      simp only [decide_eq_false_iff_not]; omega
    · rw [order_self (FinK_not_nan hw.1)]; rfl
  · right
    exact ⟨hw.1, by omega, hw.2.2⟩
theorem low_inf : Low 4286578688 := ⟨by decide +kernel, .inl ⟨by decide +kernel, by decide +kernel, by decide +kernel⟩⟩
theorem low_quo {p : Nat} {d : Int} {x y : Nat} (hx : Rn .f32 (-(p : Int)) 0 x) (hy : Rn .f32 (1 : Nat) d y) : Low (fop .quo .f32 x y) := by
  by_cases h0 : KV .f32 x = 0
  · have h0' : Rn .f32 (-((0 : Nat) : Int)) 0 x := ⟨hx.1, by omega, by omega⟩
    have hq : Rn .f32 (-((0 : Nat) : Int)) 0 (fop .quo .f32 x y) := h0'.divN hy (by decide) (by decide +kernel)
    exact low_fin hq.1 (by have := hq.2; omega)
  · have n1 : negW Ieee.single x = true := by
      rcases hb : negW Ieee.single x with _ | _
      · have := (KV_sign (k := .f32) (x := x)).1 hb; have := hx.2.2; omega
      · rfl
    have n2 : negW Ieee.single y = false := by
      rcases hb : negW Ieee.single y with _ | _
      · rfl
      · have := (KV_sign (k := .f32) (x := y)).2 hb; have := hy.2.1; omega
    obtain ⟨r, hr, hq⟩ := div_word hx.1 hy.1 (by have := hy.2.1; omega)
    rw [n1, n2] at hq
    rw [hq]
    have hk : KV .f32 (Ieee.single.word (true ^^ false) r) = -(r : Int) := sk_word Ieee.single (true ^^ false) hr
    have hi : Ieee.single.infRung = 2139095040 := by decide
    by_cases he : r = 2139095040
    · subst he
      have : Ieee.single.word (true ^^ false) 2139095040 = 4286578688 := by decide
      rw [this]
      exact low_inf
    · refine low_fin (FinK_iff.2 ?_) (by omega)
      have e : infK .f32 = 2139095040 := by decide
      omega
/-- The exponential of what is at most 0. -/
def expL (a : Nat) : Nat := if (FloatKind.f64.format.order (widen a) 13864612927836782592 == some .lt) = true then 0 else expF a
theorem expL_rn {a : Nat} (h : Low a) : Rn .f32 0 (1065353216 : Nat) (expL a) := by
  unfold expL
  rcases h.2 with ⟨h1, _⟩ | h2
  · rw [if_pos h1]; exact Rn.const (by decide +kernel)
  · rw [if_neg (by rw [(low_guards h2).2.2]; decide)]
    exact (exp64_low h2).narrow (by decide +kernel)
theorem exponential_low (x : Nat) (w : World) (g2 : (FloatKind.f64.format.order x 4641240890982006784 == some .gt) = false) (g3 : (FloatKind.f64.format.order x 13864612927836782592 == some .lt) = true) :
    Calls Try.prog 45 #[.float .f64 x] w fun e w' => e = .returned (.float .f64 0) ∧ w' = w := by
  go_enter Try.func45, Try.ntmps45
  go_wp2
  go_ret
  exact ⟨rfl, rfl⟩
theorem implExpL_any (a r0 : Nat) (w : World) (hr0 : cn .f32 r0 = a) (h : Low a) :
    Calls Try.prog 24 #[.float .f32 r0] w fun e w' => ∃ r, e = .returned (.float .f32 r) ∧ Hid (cn .f32 r = expL a) ∧ ∃ q, w' = w.drewN q := by
  obtain rfl : r0 = a := cn_num hr0 h.1
  have hcv := run_widen_num (P := Try.prog) 28 52 rfl Try.underlying52
  have hcv' := fun w => hcv w r0 h.1
  clear hcv hr0
  have H := Lib.hid h
  clear h
  go_enter Try.func24, Try.ntmps24
  go_wp2_with fail
  clear hcv'
  rcases H.out.2 with ⟨h1, h2, _⟩ | h2
  · refine (exponential_low _ _ h2 h1).mono ?_
    rintro e w2 ⟨rfl, rfl⟩
    have He : Hid (expL r0 = 0) := by show _ = _; unfold expL; rw [if_pos h1]
    clear h1 h2
    have hfits := zero_fits
    go_wp2_with (refine wpList_narrow _ rfl 52 28 _ rfl rfl Try.underlying28 _ rfl hfits ?_; intro r3 q3 h3)
    go_ret
    refine ⟨r3, rfl, ?_, _, rfl⟩
    show _ = _
    rw [h3.out, narrow_zero, He.out]
  · have g := low_guards h2
    have He : Hid (expL r0 = expF r0) := by show _ = _; unfold expL; rw [if_neg (by rw [g.2.2]; decide)]
    have Hf := Lib.hid (exp64_low_fits h2)
    refine (exponential_g _ _ g.2.1 g.2.2).mono ?_
    rintro e w2 ⟨r2, rfl, hr2, q2, rfl⟩
    clear g h2
    have hfits : fitsN r2 := fitsN_cn hr2.out Hf.out
    go_wp2_with (refine wpList_narrow _ rfl 52 28 _ rfl rfl Try.underlying28 _ rfl hfits ?_; intro r3 q3 h3)
    go_ret
    refine ⟨r3, rfl, ?_, _, rfl⟩
    show _ = _
    rw [h3.out, narrow_l hr2.out, He.out]
    rfl
theorem expWide_low (x : Nat) (w : World) (g1 : (FloatKind.f64.format.order x x != some .eq) = false) (g2 : (FloatKind.f64.format.order x 4641240890982006784 == some .gt) = false) (g3 : (FloatKind.f64.format.order x 13864612927836782592 == some .lt) = true) :
    Calls Try.prog 55 #[.float .f64 x] w fun e w' => e = .returned (.float .f64 0) ∧ w' = w := by
  go_enter Try.func55, Try.ntmps55
  go_wp2
  go_ret
  exact ⟨rfl, rfl⟩
theorem specExpL_any (a r0 : Nat) (w : World) (hr0 : cn .f32 r0 = a) (h : Low a) :
    Calls Try.prog 31 #[.float .f32 r0] w fun e w' => ∃ r, e = .returned (.float .f32 r) ∧ Hid (cn .f32 r = expL a) ∧ ∃ q, w' = w.drewN q := by
  obtain rfl : r0 = a := cn_num hr0 h.1
  have hcv := run_widen_num (P := Try.prog) 28 52 rfl Try.underlying52
  have hcv' := fun w => hcv w r0 h.1
  clear hcv hr0
  have H := Lib.hid h
  clear h
  go_enter Try.func31, Try.ntmps31
  go_wp2_with fail
  clear hcv'
  rcases H.out.2 with ⟨h1, h2, h3⟩ | h2
  · refine (expWide_low _ _ h3 h2 h1).mono ?_
    rintro e w2 ⟨rfl, rfl⟩
    have He : Hid (expL r0 = 0) := by show _ = _; unfold expL; rw [if_pos h1]
    clear h1 h2 h3
    go_wp2_with fail
    refine (l01Narrow_any _ _ zero_fits).mono ?_
    rintro e w3 ⟨r3, rfl, h3, q3, rfl⟩
    go_wp2
    go_ret
    refine ⟨r3, rfl, ?_, _, rfl⟩
    show _ = _
    rw [h3.out, narrow_zero, He.out]
  · have g := low_guards h2
    have He : Hid (expL r0 = expF r0) := by show _ = _; unfold expL; rw [if_neg (by rw [g.2.2]; decide)]
    have Hf := Lib.hid (exp64_low_fits h2)
    refine (expWide_g _ _ g.1 g.2.1 g.2.2).mono ?_
    rintro e w2 ⟨r2, rfl, hr2, q2, rfl⟩
    clear g h2
    have hfits : fitsN r2 := fitsN_cn hr2.out Hf.out
    go_wp2_with fail
    refine (l01Narrow_any _ _ hfits).mono ?_
    rintro e w3 ⟨r3, rfl, h3, q3, rfl⟩
    go_wp2
    go_ret
    refine ⟨r3, rfl, ?_, _, rfl⟩
    show _ = _
    rw [h3.out, narrow_l hr2.out, He.out]
    rfl
end Go.Proofs.Ytgbehnkccgahoaa
