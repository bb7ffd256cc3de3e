/- What a float format holds exactly is not rounded. Plain law. -/
import Derived.Test.YtijafnejdibdlaaGreatDoorMagF
import Derived.Test.YtijafnejdibdlaaGreatDoorWord
import Derived.Test.YtijafnejdibdlaaGreatDoorNeg
namespace Go.Proofs.YtijafnejdibdlaaGreatDoor.Mag
open Go.RowKit Ieee
/-- What a format holds exactly is not rounded: the rung of 'm * 2 ^ e' stands for just that. -/
theorem rg_exact (f : Format) {m : Nat} {e : Int} (h0 : m ≠ 0) (hl : m.log2 ≤ f.fractionBits) (he : f.leastPlace ≤ e) (ho : (lastPl f m e - f.leastPlace).toNat * f.binade + 2 * f.binade ≤ f.infRung) :
    rg f m e < f.infRung ∧ magM f (rg f m e) = m * 2 ^ (e - lastPl f m e).toNat ∧ magE f (rg f m e) = lastPl f m e ∧ lastPl f m e ≤ e := by
  have hB := binade_pos f
  have hL : lastPl f m e ≤ e := by unfold lastPl; omega
  have hL2 : f.leastPlace ≤ lastPl f m e := by unfold lastPl; omega
  have hM0 : 0 < m * 2 ^ (e - lastPl f m e).toNat := Nat.mul_pos (Nat.pos_of_ne_zero h0) (Nat.two_pow_pos _)
  have lo : 2 ^ m.log2 ≤ m := (Nat.log2_eq_iff h0).1 rfl |>.1
  have hi : m < 2 ^ (m.log2 + 1) := (Nat.log2_eq_iff h0).1 rfl |>.2
  obtain ⟨d, hd⟩ : ∃ d, (e - lastPl f m e).toNat = d := ⟨_, rfl⟩
  have hlog : m.log2 + d ≤ f.fractionBits := by
    rw [← hd]
    by_cases hc : e + m.log2 - f.fractionBits ≤ f.leastPlace
    · have : lastPl f m e = f.leastPlace := by unfold lastPl; omega
      omega
    · have : lastPl f m e = e + m.log2 - f.fractionBits := by unfold lastPl; omega
      omega
  have hM : m * 2 ^ d < 2 * f.binade := by
    calc m * 2 ^ d < 2 ^ (m.log2 + 1) * 2 ^ d := Nat.mul_lt_mul_of_pos_right hi (Nat.two_pow_pos _)
      _ = 2 ^ (m.log2 + d + 1) := by rw [← Nat.pow_add]; congr 1; omega
      _ ≤ 2 ^ (f.fractionBits + 1) := Nat.pow_le_pow_right (by omega) (by omega)
      _ = 2 * f.binade := by rw [Nat.pow_succ, Nat.mul_comm]; rfl
  have hr : rg f m e = (lastPl f m e - f.leastPlace).toNat * f.binade + m * 2 ^ d := by
    unfold rg
    rw [if_neg h0, hd, show (lastPl f m e - e).toNat = 0 by omega, Nat.pow_zero, re_one]
    omega
  rw [hd]
  rw [hd] at hM0
  refine ⟨by rw [hr]; omega, ?_, ?_, hL⟩
  · by_cases hc : e + m.log2 - f.fractionBits < f.leastPlace
    · have hp : lastPl f m e = f.leastPlace := by unfold lastPl; omega
      have hlt : m * 2 ^ d < f.binade := by
        have : m.log2 + d + 1 ≤ f.fractionBits := by omega
        calc m * 2 ^ d < 2 ^ (m.log2 + 1) * 2 ^ d := Nat.mul_lt_mul_of_pos_right hi (Nat.two_pow_pos _)
          _ = 2 ^ (m.log2 + d + 1) := by rw [← Nat.pow_add]; congr 1; omega
          _ ≤ 2 ^ f.fractionBits := Nat.pow_le_pow_right (by omega) this
      rw [hr, hp, Int.sub_self, Int.toNat_zero, Nat.zero_mul, Nat.zero_add]
      unfold magM
      rw [if_pos hlt]
    · have hp : lastPl f m e = e + m.log2 - f.fractionBits := by unfold lastPl; omega
      have hge : f.binade ≤ m * 2 ^ d := by
        have : m.log2 + d = f.fractionBits := by omega
        calc f.binade = 2 ^ (m.log2 + d) := by rw [this]; rfl
          _ = 2 ^ m.log2 * 2 ^ d := Nat.pow_add ..
          _ ≤ _ := Nat.mul_le_mul_right _ lo
      unfold magM
      rw [hr, if_neg (by omega)]
      have e1 : ((lastPl f m e - f.leastPlace).toNat * f.binade + m * 2 ^ d) % f.binade = m * 2 ^ d - f.binade := by
        rw [Nat.mul_comm, Nat.mul_add_mod, Nat.mod_eq_sub_mod hge, Nat.mod_eq_of_lt (by omega)]
      omega
  · by_cases hc : e + m.log2 - f.fractionBits < f.leastPlace
    · have hp : lastPl f m e = f.leastPlace := by unfold lastPl; omega
      have hlt : m * 2 ^ d < f.binade := by
        have : m.log2 + d + 1 ≤ f.fractionBits := by omega
        calc m * 2 ^ d < 2 ^ (m.log2 + 1) * 2 ^ d := Nat.mul_lt_mul_of_pos_right hi (Nat.two_pow_pos _)
          _ = 2 ^ (m.log2 + d + 1) := by rw [← Nat.pow_add]; congr 1; omega
          _ ≤ 2 ^ f.fractionBits := Nat.pow_le_pow_right (by omega) this
      rw [hr, hp, Int.sub_self, Int.toNat_zero, Nat.zero_mul, Nat.zero_add]
      unfold magE
      rw [if_pos hlt]
    · have hp : lastPl f m e = e + m.log2 - f.fractionBits := by unfold lastPl; omega
      have hge : f.binade ≤ m * 2 ^ d := by
        have : m.log2 + d = f.fractionBits := by omega
        calc f.binade = 2 ^ (m.log2 + d) := by rw [this]; rfl
          _ = 2 ^ m.log2 * 2 ^ d := Nat.pow_add ..
          _ ≤ _ := Nat.mul_le_mul_right _ lo
      unfold magE
      rw [hr, if_neg (by omega)]
      have e1 : ((lastPl f m e - f.leastPlace).toNat * f.binade + m * 2 ^ d) / f.binade = (lastPl f m e - f.leastPlace).toNat + 1 := by
        refine Nat.div_eq_of_lt_le ?_ ?_
        · rw [Nat.add_mul, Nat.one_mul]; omega
        · rw [Nat.add_mul, Nat.add_mul, Nat.one_mul]; omega
      rw [e1]
      omega
end Go.Proofs.YtijafnejdibdlaaGreatDoor.Mag
namespace Go.Proofs.YtijafnejdibdlaaGreatDoor
open Go.RowKit Mag
/-- Exactly held: the same value. -/
theorem rg_same (f : Ieee.Format) {m : Nat} {e : Int} (hl : m.log2 ≤ f.fractionBits) (he : f.leastPlace ≤ e) (ho : (lastPl f m e - f.leastPlace).toNat * f.binade + 2 * f.binade ≤ f.infRung) :
    rg f m e < f.infRung ∧ MLe m e (magM f (rg f m e)) (magE f (rg f m e)) ∧ MLe (magM f (rg f m e)) (magE f (rg f m e)) m e := by
  by_cases h0 : m = 0
  · subst h0
    have hz : rg f 0 e = 0 := by unfold rg; rw [if_pos rfl]
    have hm : magM f 0 = 0 := by unfold magM; rw [if_pos (binade_pos f)]
    have hB := binade_pos f
    rw [hz, hm]
    refine ⟨by omega, ?_, ?_⟩ <;> unfold MLe <;> simp
  · obtain ⟨h1, h2, h3, h4⟩ := rg_exact f h0 hl he ho
    rw [h2, h3]
    refine ⟨h1, ?_, ?_⟩
    · refine (mle_base (b := lastPl f m e) h4 (Int.le_refl _)).2 ?_
      rw [Int.sub_self, Int.toNat_zero, Nat.pow_zero, Nat.mul_one]
      exact Nat.le_refl _
    · refine (mle_base (b := lastPl f m e) (Int.le_refl _) h4).2 ?_
      rw [Int.sub_self, Int.toNat_zero, Nat.pow_zero, Nat.mul_one]
      exact Nat.le_refl _
theorem word_back {x : Nat} (h : x < 4294967296) : FloatKind.f32.format.word (negW FloatKind.f32.format x) (rungW FloatKind.f32.format x) = x := by
  have hs : FloatKind.f32.format.signWeight = 2147483648 := rfl
  unfold negW rungW Ieee.Format.word
  rw [hs]
  by_cases hb : x < 2147483648
  · rw [Nat.div_eq_of_lt hb, Nat.mod_eq_of_lt hb]
    rfl
  · have e1 : x / 2147483648 = 1 := Nat.div_eq_of_lt_le (by omega) (by omega)
    have e2 : x % 2147483648 = x - 2147483648 := by omega
    rw [e1, e2, if_pos (by decide)]
    omega
theorem magE32 {r : Nat} (h : r < FloatKind.f32.format.infRung) : -149 ≤ magE FloatKind.f32.format r ∧ magE FloatKind.f32.format r ≤ 104 := by
  have hi : FloatKind.f32.format.infRung = 2139095040 := rfl
  have hb : FloatKind.f32.format.binade = 8388608 := rfl
  have hl : FloatKind.f32.format.leastPlace = -149 := rfl
  rw [hi] at h
  unfold magE
  rw [hb, hl]
  split
  · omega
  · have : r / 8388608 < 255 := Nat.div_lt_of_lt_mul (by omega)
    omega
theorem log_lt {m k : Nat} (h : m < 2 ^ (k + 1)) : m.log2 ≤ k := by
  by_cases h0 : m = 0
  · subst h0; simp
  · exact Nat.le_of_lt_succ ((Nat.log2_lt h0).2 h)
set_option maxRecDepth 100000 in
/-- A float32 as a float64: the same value. -/
theorem widen_same {x : Nat} (hx : FinK .f32 x) : ∃ r : Nat, widen x = FloatKind.f64.format.word (negW FloatKind.f32.format x) r ∧ r < FloatKind.f64.format.infRung ∧
    MLe (magM FloatKind.f32.format (rungW FloatKind.f32.format x)) (magE FloatKind.f32.format (rungW FloatKind.f32.format x)) (magM FloatKind.f64.format r) (magE FloatKind.f64.format r) ∧
    MLe (magM FloatKind.f64.format r) (magE FloatKind.f64.format r) (magM FloatKind.f32.format (rungW FloatKind.f32.format x)) (magE FloatKind.f32.format (rungW FloatKind.f32.format x)) := by
  have hm := magM_lt FloatKind.f32.format (rungW FloatKind.f32.format x)
  have he := magE32 (r := rungW FloatKind.f32.format x) hx
  have hw := widen_eq hx
  rw [decode_fin hx] at hw
  generalize magM FloatKind.f32.format (rungW FloatKind.f32.format x) = m at hm hw ⊢
  generalize magE FloatKind.f32.format (rungW FloatKind.f32.format x) = e at he hw ⊢
  have hb : FloatKind.f32.format.binade = 8388608 := rfl
  rw [hb] at hm
  have d3 : FloatKind.f64.format.leastPlace = -1074 := rfl
  have d4 : FloatKind.f64.format.fractionBits = 52 := rfl
  have hl : m.log2 ≤ 23 := log_lt (by omega)
  have g := rg_same FloatKind.f64.format (m := m) (e := e) (by rw [d4]; omega) (by rw [d3]; omega) (by
    have h1 : lastPl FloatKind.f64.format m e ≤ 104 := by unfold lastPl; rw [d3, d4]; omega
    have h2 : (lastPl FloatKind.f64.format m e - FloatKind.f64.format.leastPlace).toNat ≤ 1178 := by rw [d3]; omega
    have h3 := Nat.mul_le_mul_right FloatKind.f64.format.binade h2
    have h4 : 1178 * FloatKind.f64.format.binade + 2 * FloatKind.f64.format.binade ≤ FloatKind.f64.format.infRung := by decide
    exact Nat.le_trans (Nat.add_le_add_right h3 _) h4)
  refine ⟨rg FloatKind.f64.format m e, ?_, g.1, g.2.1, g.2.2⟩
  rw [hw]
  exact nearest_rg _ _ _ _
theorem narrow_widen {x : Nat} (hx : W32 x) : narrow (widen x) = cn .f32 x := by
  cases hn : isNaNB .f32 x with
  | true => rw [widen_nan hn, cn_of_nan hn]; exact narrow_nan (qnan_isNaN .f64)
  | false =>
    have hlt : x < 4294967296 := by
      rcases hx with h | h
      · rw [h] at hn; cases hn
      · exact h
    rw [cn_of_not hn]
    by_cases hf : FinK .f32 x
    · obtain ⟨r, hw, hr, m1, m2⟩ := widen_same hf
      have hrl : r ≤ FloatKind.f64.format.infRung := Nat.le_of_lt hr
      have hfin : FinK .f64 (widen x) := by
        show rungW FloatKind.f64.format (widen x) < FloatKind.f64.format.infRung
        rw [hw, rungW_word _ _ hrl]; exact hr
      rw [narrow_eq hfin, decode_fin hfin]
      show FloatKind.f32.format.nearest (negW FloatKind.f64.format (widen x)) (magM FloatKind.f64.format (rungW FloatKind.f64.format (widen x))) (magE FloatKind.f64.format (rungW FloatKind.f64.format (widen x))) = x
      rw [nearest_rg, hw, rungW_word _ _ hrl, negW_word _ _ hrl]
      have e : rg FloatKind.f32.format (magM FloatKind.f64.format r) (magE FloatKind.f64.format r) = rungW FloatKind.f32.format x := by
        have a := rg_mono FloatKind.f32.format m1
        have b := rg_mono FloatKind.f32.format m2
        have c := rg_mag (f := FloatKind.f32.format) (r := rungW FloatKind.f32.format x) hf
        omega
      rw [e]
      exact word_back hlt
    · have h2 : x = 2139095040 ∨ x = 4286578688 := by
        have h3 : isNaNB .f32 x = decide (FloatKind.f32.format.infRung < rungW FloatKind.f32.format x) := nan_rung .f32 x
        rw [hn] at h3
        have h4 : ¬ FloatKind.f32.format.infRung < rungW FloatKind.f32.format x := of_decide_eq_false h3.symm
        have h5 : ¬ rungW FloatKind.f32.format x < FloatKind.f32.format.infRung := hf
        have hi : FloatKind.f32.format.infRung = 2139095040 := rfl
        have hs : FloatKind.f32.format.signWeight = 2147483648 := rfl
        unfold rungW at h4 h5
        rw [hi, hs] at h4 h5
        omega
      rcases h2 with rfl | rfl <;> decide +kernel
theorem inf_two {x : Nat} (hlt : x < 4294967296) (hn : isNaNB .f32 x = false) (hf : ¬ FinK .f32 x) : x = 2139095040 ∨ x = 4286578688 := by
  have h3 : isNaNB .f32 x = decide (FloatKind.f32.format.infRung < rungW FloatKind.f32.format x) := nan_rung .f32 x
  rw [hn] at h3
  have h4 : ¬ FloatKind.f32.format.infRung < rungW FloatKind.f32.format x := of_decide_eq_false h3.symm
  have h5 : ¬ rungW FloatKind.f32.format x < FloatKind.f32.format.infRung := hf
  have hi : FloatKind.f32.format.infRung = 2139095040 := rfl
  have hs : FloatKind.f32.format.signWeight = 2147483648 := rfl
  unfold rungW at h4 h5
  rw [hi, hs] at h4 h5
  omega
theorem fits_widen {x : Nat} (hx : W32 x) : fitsN (widen x) := by
  cases hn : isNaNB .f32 x with
  | true => rw [widen_nan hn]; exact fits_nan (qnan_isNaN .f64)
  | false =>
    by_cases hf : FinK .f32 x
    · intro s m e hd
      have h1 := narrow_widen hx
      rw [hf.cn] at h1
      unfold narrow at h1
      rw [hd] at h1
      have h2 : FloatKind.f32.encode (.number s m e) = x := h1
      rw [h2]
      exact fin_not_inf hf
    · have hlt : x < 4294967296 := by
        rcases hx with h | h
        · rw [h] at hn; cases hn
        · exact h
      rcases inf_two hlt hn hf with rfl | rfl
      · exact fits_inf (s := false) (by decide +kernel)
      · exact fits_inf (s := true) (by decide +kernel)
end Go.Proofs.YtijafnejdibdlaaGreatDoor
