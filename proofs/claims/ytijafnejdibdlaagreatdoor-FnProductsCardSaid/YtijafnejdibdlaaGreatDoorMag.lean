/- Magnitudes of IEEE words: rounding never turns the order round; what sums, products, quotients and roots make of bounds. Plain whole numbers. -/
import Ieee.Arith
namespace Go.Proofs.YtijafnejdibdlaaGreatDoor.Mag
open Ieee

theorem two_pow_ne (k : Nat) : 2 ^ k ≠ 0 := by have := Nat.two_pow_pos k; omega

/-- 'm1 * 2 ^ e1' is at most 'm2 * 2 ^ e2'. -/
def MLe (m1 : Nat) (e1 : Int) (m2 : Nat) (e2 : Int) : Prop := m1 * 2 ^ (e1 - min e1 e2).toNat ≤ m2 * 2 ^ (e2 - min e1 e2).toNat
instance (m1 : Nat) (e1 : Int) (m2 : Nat) (e2 : Int) : Decidable (MLe m1 e1 m2 e2) := by unfold MLe; infer_instance
theorem mle_base {m1 m2 : Nat} {e1 e2 b : Int} (h1 : b ≤ e1) (h2 : b ≤ e2) : MLe m1 e1 m2 e2 ↔ m1 * 2 ^ (e1 - b).toNat ≤ m2 * 2 ^ (e2 - b).toNat := by
  unfold MLe
  have a1 : (e1 - b).toNat = (e1 - min e1 e2).toNat + (min e1 e2 - b).toNat := by omega
  have a2 : (e2 - b).toNat = (e2 - min e1 e2).toNat + (min e1 e2 - b).toNat := by omega
  rw [a1, a2, Nat.pow_add, Nat.pow_add, ← Nat.mul_assoc, ← Nat.mul_assoc]
  exact (Nat.mul_le_mul_right_iff (Nat.two_pow_pos _)).symm
theorem mle_refl (m : Nat) (e : Int) : MLe m e m e := Nat.le_refl _
theorem mle_total (m1 : Nat) (e1 : Int) (m2 : Nat) (e2 : Int) : MLe m1 e1 m2 e2 ∨ MLe m2 e2 m1 e1 := by
  have h1 : min e1 e2 ≤ e1 := by omega
  have h2 : min e1 e2 ≤ e2 := by omega
  rw [mle_base h1 h2, mle_base h2 h1]
  omega
theorem mle_trans {m1 m2 m3 : Nat} {e1 e2 e3 : Int} (h : MLe m1 e1 m2 e2) (k : MLe m2 e2 m3 e3) : MLe m1 e1 m3 e3 := by
  have h1 : min e1 (min e2 e3) ≤ e1 := by omega
  have h2 : min e1 (min e2 e3) ≤ e2 := by omega
  have h3 : min e1 (min e2 e3) ≤ e3 := by omega
  rw [mle_base h1 h2] at h
  rw [mle_base h2 h3] at k
  rw [mle_base h1 h3]
  omega
theorem mle_mul {m1 m2 n1 n2 : Nat} {e1 e2 j1 j2 : Int} (h : MLe m1 e1 m2 e2) (k : MLe n1 j1 n2 j2) : MLe (m1 * n1) (e1 + j1) (m2 * n2) (e2 + j2) := by
  have h1 : min e1 e2 ≤ e1 := by omega
  have h2 : min e1 e2 ≤ e2 := by omega
  have k1 : min j1 j2 ≤ j1 := by omega
  have k2 : min j1 j2 ≤ j2 := by omega
  rw [mle_base h1 h2] at h
  rw [mle_base k1 k2] at k
  have b1 : min e1 e2 + min j1 j2 ≤ e1 + j1 := by omega
  have b2 : min e1 e2 + min j1 j2 ≤ e2 + j2 := by omega
  rw [mle_base b1 b2]
  have x1 : (e1 + j1 - (min e1 e2 + min j1 j2)).toNat = (e1 - min e1 e2).toNat + (j1 - min j1 j2).toNat := by omega
  have x2 : (e2 + j2 - (min e1 e2 + min j1 j2)).toNat = (e2 - min e1 e2).toNat + (j2 - min j1 j2).toNat := by omega
  rw [x1, x2, Nat.pow_add, Nat.pow_add]
  have := Nat.mul_le_mul h k
  calc m1 * n1 * (2 ^ (e1 - min e1 e2).toNat * 2 ^ (j1 - min j1 j2).toNat) = m1 * 2 ^ (e1 - min e1 e2).toNat * (n1 * 2 ^ (j1 - min j1 j2).toNat) := by ac_rfl
    _ ≤ _ := this
    _ = m2 * n2 * (2 ^ (e2 - min e1 e2).toNat * 2 ^ (j2 - min j1 j2).toNat) := by ac_rfl

/-- 'n / g' to the nearest whole number, the even one between two. -/
def re (n g : Nat) : Nat := n / g + (decide (g < 2 * (n % g)) || (g == 2 * (n % g) && n / g % 2 == 1)).toNat
theorem re_le (n g : Nat) : re n g ≤ n / g + 1 := by unfold re; have := Bool.toNat_le (decide (g < 2 * (n % g)) || (g == 2 * (n % g) && n / g % 2 == 1)); omega
theorem re_ge (n g : Nat) : n / g ≤ re n g := by unfold re; omega
theorem re_one (n : Nat) : re n 1 = n := by simp [re, Nat.mod_one]
theorem re_mono {n1 g1 n2 g2 : Nat} (h1 : 0 < g1) (h2 : 0 < g2) (h : n1 * g2 ≤ n2 * g1) : re n1 g1 ≤ re n2 g2 := by
  have d1 := Nat.div_add_mod n1 g1
  have d2 := Nat.div_add_mod n2 g2
  have r1 := Nat.mod_lt n1 h1
  have r2 := Nat.mod_lt n2 h2
  have l1 := re_le n1 g1
  have l2 := re_ge n2 g2
  have hu1 : re n1 g1 = n1 / g1 + (decide (g1 < 2 * (n1 % g1)) || (g1 == 2 * (n1 % g1) && n1 / g1 % 2 == 1)).toNat := rfl
  have hu2 : re n2 g2 = n2 / g2 + (decide (g2 < 2 * (n2 % g2)) || (g2 == 2 * (n2 % g2) && n2 / g2 % 2 == 1)).toNat := rfl
  generalize n1 / g1 = q1 at *
  generalize n2 / g2 = q2 at *
  generalize n1 % g1 = t1 at *
  generalize n2 % g2 = t2 at *
  have hq : q1 ≤ q2 := by
    apply Nat.le_of_lt_succ
    apply Nat.lt_of_mul_lt_mul_left (a := g1 * g2)
    calc g1 * g2 * q1 = (g1 * q1) * g2 := by ac_rfl
      _ ≤ n1 * g2 := Nat.mul_le_mul_right _ (by omega)
      _ ≤ n2 * g1 := h
      _ < (g2 * q2 + g2) * g1 := Nat.mul_lt_mul_of_pos_right (by omega) h1
      _ = g1 * g2 * (q2 + 1) := by rw [Nat.mul_add, Nat.add_mul, Nat.mul_one]; ac_rfl
  rcases Nat.lt_or_ge q1 q2 with hlt | hge
  · omega
  · obtain rfl : q1 = q2 := by omega
    have ht : t1 * g2 ≤ t2 * g1 := by
      have e1 : n1 * g2 = q1 * (g1 * g2) + t1 * g2 := by rw [← d1, Nat.add_mul]; ac_rfl
      have e2 : n2 * g1 = q1 * (g1 * g2) + t2 * g1 := by rw [← d2, Nat.add_mul]; ac_rfl
      omega
    rw [hu1, hu2]
    apply Nat.add_le_add_left
    by_cases hb : (decide (g1 < 2 * t1) || (g1 == 2 * t1 && q1 % 2 == 1)) = true
    · have hc : (decide (g2 < 2 * t2) || (g2 == 2 * t2 && q1 % 2 == 1)) = true := by
        simp only [Bool.or_eq_true, Bool.and_eq_true, decide_eq_true_eq, beq_iff_eq] at hb ⊢
        rcases hb with hb | ⟨hb, ho⟩
        · left
          apply Nat.lt_of_mul_lt_mul_left (a := g1)
          calc g1 * g2 < 2 * t1 * g2 := Nat.mul_lt_mul_of_pos_right hb h2
            _ = 2 * (t1 * g2) := by ac_rfl
            _ ≤ 2 * (t2 * g1) := Nat.mul_le_mul_left _ ht
            _ = g1 * (2 * t2) := by ac_rfl
        · have : g2 ≤ 2 * t2 := by
            refine Nat.le_of_mul_le_mul_left (?_ : g1 * g2 ≤ g1 * (2 * t2)) h1
            calc g1 * g2 = 2 * t1 * g2 := by rw [← hb]
              _ = 2 * (t1 * g2) := by ac_rfl
              _ ≤ 2 * (t2 * g1) := Nat.mul_le_mul_left _ ht
              _ = g1 * (2 * t2) := by ac_rfl
          rcases Nat.lt_or_ge g2 (2 * t2) with h' | h'
          · exact .inl h'
          · exact .inr ⟨by omega, ho⟩
      rw [hb, hc]; exact Nat.le_refl _
    · have : (decide (g1 < 2 * t1) || (g1 == 2 * t1 && q1 % 2 == 1)) = false := by simpa using hb
      rw [this]; exact Nat.zero_le _

theorem cut_even (neg : Bool) (n drop : Nat) : Toward.even.cut neg n drop = re n (2 ^ drop) := by
  unfold Toward.cut
  dsimp only
  rcases Nat.le_total drop (n.log2 + 2) with h | h
  · rw [Nat.min_eq_left h, Nat.shiftLeft_eq, Nat.one_mul]; rfl
  · rw [Nat.min_eq_right h, Nat.shiftLeft_eq, Nat.one_mul]
    have hn : 2 * n < 2 ^ (n.log2 + 2) := by
      have := @Nat.lt_log2_self n
      rw [Nat.pow_succ]; omega
    have hd : 2 ^ (n.log2 + 2) ≤ 2 ^ drop := Nat.pow_le_pow_right (by omega) h
    have a1 : n / 2 ^ (n.log2 + 2) = 0 := Nat.div_eq_of_lt (by omega)
    have a2 : n % 2 ^ (n.log2 + 2) = n := Nat.mod_eq_of_lt (by omega)
    have b1 : n / 2 ^ drop = 0 := Nat.div_eq_of_lt (by omega)
    have b2 : n % 2 ^ drop = n := Nat.mod_eq_of_lt (by omega)
    unfold re
    rw [a1, a2, b1, b2]
    have c1 : decide (2 ^ (n.log2 + 2) < 2 * n) = false := by simp; omega
    have c2 : decide (2 ^ drop < 2 * n) = false := by simp; omega
    simp [c1, c2]

def lastPl (f : Format) (m : Nat) (e : Int) : Int := max (e + m.log2 - f.fractionBits) f.leastPlace
/-- The rung to which 'm * 2 ^ e' is rounded. -/
def rg (f : Format) (m : Nat) (e : Int) : Nat :=
  if m = 0 then 0 else min ((lastPl f m e - f.leastPlace).toNat * f.binade + re (m * 2 ^ (e - lastPl f m e).toNat) (2 ^ (lastPl f m e - e).toNat)) f.infRung
theorem nearest_rg (f : Format) (neg : Bool) (m : Nat) (e : Int) : f.nearest neg m e = f.word neg (rg f m e) := by
  unfold Format.nearest rg
  dsimp only
  split
  · rfl
  · rw [cut_even, Nat.shiftLeft_eq]; rfl
theorem rg_le (f : Format) (m : Nat) (e : Int) : rg f m e ≤ f.infRung := by
  unfold rg; split
  · exact Nat.zero_le _
  · exact Nat.min_le_right _ _
theorem rg_mono (f : Format) {m1 m2 : Nat} {e1 e2 : Int} (h : MLe m1 e1 m2 e2) : rg f m1 e1 ≤ rg f m2 e2 := by
  unfold rg
  by_cases z1 : m1 = 0
  · rw [if_pos z1]; exact Nat.zero_le _
  by_cases z2 : m2 = 0
  · exfalso
    subst z2
    unfold MLe at h
    rw [Nat.zero_mul] at h
    have := Nat.mul_pos (Nat.pos_of_ne_zero z1) (Nat.two_pow_pos (e1 - min e1 e2).toNat)
    omega
  rw [if_neg z1, if_neg z2]
  have lo1 : 2 ^ m1.log2 ≤ m1 := Nat.log2_self_le z1
  have lo2 : 2 ^ m2.log2 ≤ m2 := Nat.log2_self_le z2
  have hi1 : m1 < 2 ^ (m1.log2 + 1) := Nat.lt_log2_self
  have hi2 : m2 < 2 ^ (m2.log2 + 1) := Nat.lt_log2_self
  have hE : e1 + m1.log2 ≤ e2 + m2.log2 := by
    rcases Int.lt_or_le (e2 + m2.log2) (e1 + m1.log2) with hc | hc
    · exfalso
      unfold MLe at h
      have a : 2 ^ (m1.log2 + (e1 - min e1 e2).toNat) ≤ m1 * 2 ^ (e1 - min e1 e2).toNat := by rw [Nat.pow_add]; exact Nat.mul_le_mul_right _ lo1
      have b : m2 * 2 ^ (e2 - min e1 e2).toNat < 2 ^ (m2.log2 + 1 + (e2 - min e1 e2).toNat) := by rw [Nat.pow_add]; exact Nat.mul_lt_mul_of_pos_right hi2 (Nat.two_pow_pos _)
      have c : 2 ^ (m2.log2 + 1 + (e2 - min e1 e2).toNat) ≤ 2 ^ (m1.log2 + (e1 - min e1 e2).toNat) := Nat.pow_le_pow_right (by omega) (by omega)
      omega
    · exact hc
  have hL : lastPl f m1 e1 ≤ lastPl f m2 e2 := by unfold lastPl; omega
  have hl1 : f.leastPlace ≤ lastPl f m1 e1 := by unfold lastPl; omega
  have hl1' : e1 + m1.log2 - f.fractionBits ≤ lastPl f m1 e1 := by unfold lastPl; omega
  have hl2' : lastPl f m2 e2 = e2 + m2.log2 - f.fractionBits ∨ lastPl f m2 e2 = f.leastPlace := by unfold lastPl; omega
  generalize lastPl f m1 e1 = L1 at *
  generalize lastPl f m2 e2 = L2 at *
  have key : (L1 - f.leastPlace).toNat * f.binade + re (m1 * 2 ^ (e1 - L1).toNat) (2 ^ (L1 - e1).toNat) ≤ (L2 - f.leastPlace).toNat * f.binade + re (m2 * 2 ^ (e2 - L2).toNat) (2 ^ (L2 - e2).toNat) := by
    by_cases hLL : L1 = L2
    · subst hLL
      apply Nat.add_le_add_left
      apply re_mono (Nat.two_pow_pos _) (Nat.two_pow_pos _)
      have h1 : min (min e1 e2) L1 ≤ e1 := by omega
      have h2 : min (min e1 e2) L1 ≤ e2 := by omega
      rw [mle_base h1 h2] at h
      rw [Nat.mul_assoc, ← Nat.pow_add, Nat.mul_assoc, ← Nat.pow_add]
      obtain ⟨c, hc1, hc2⟩ : ∃ c : Nat, (e1 - L1).toNat + (L1 - e2).toNat = (e1 - min (min e1 e2) L1).toNat + c ∧ (e2 - L1).toNat + (L1 - e1).toNat = (e2 - min (min e1 e2) L1).toNat + c :=
        ⟨((e1 - L1).toNat + (L1 - e2).toNat) - (e1 - min (min e1 e2) L1).toNat, by omega, by omega⟩
      rw [hc1, hc2, Nat.pow_add, Nat.pow_add, ← Nat.mul_assoc, ← Nat.mul_assoc]
      exact Nat.mul_le_mul_right _ h
    · have hlt : L1 < L2 := by omega
      have hl2 : L2 = e2 + m2.log2 - f.fractionBits := by omega
      have k2 : f.binade ≤ re (m2 * 2 ^ (e2 - L2).toNat) (2 ^ (L2 - e2).toNat) := by
        refine Nat.le_trans ?_ (re_ge _ _)
        rw [Nat.le_div_iff_mul_le (Nat.two_pow_pos _)]
        unfold Format.binade
        rw [← Nat.pow_add]
        calc 2 ^ (f.fractionBits + (L2 - e2).toNat) = 2 ^ (m2.log2 + (e2 - L2).toNat) := by congr 1; omega
          _ = 2 ^ m2.log2 * 2 ^ (e2 - L2).toNat := Nat.pow_add ..
          _ ≤ _ := Nat.mul_le_mul_right _ lo2
      have k1 : re (m1 * 2 ^ (e1 - L1).toNat) (2 ^ (L1 - e1).toNat) ≤ 2 * f.binade := by
        refine Nat.le_trans (re_le _ _) ?_
        apply Nat.succ_le_of_lt
        rw [Nat.div_lt_iff_lt_mul (Nat.two_pow_pos _)]
        unfold Format.binade
        rw [← Nat.pow_succ', ← Nat.pow_add]
        calc m1 * 2 ^ (e1 - L1).toNat < 2 ^ (m1.log2 + 1) * 2 ^ (e1 - L1).toNat := Nat.mul_lt_mul_of_pos_right hi1 (Nat.two_pow_pos _)
          _ = 2 ^ (m1.log2 + 1 + (e1 - L1).toNat) := (Nat.pow_add ..).symm
          _ ≤ _ := Nat.pow_le_pow_right (by omega) (by omega)
      obtain ⟨d, hd⟩ : ∃ d, (L2 - f.leastPlace).toNat = (L1 - f.leastPlace).toNat + 1 + d := ⟨(L2 - f.leastPlace).toNat - ((L1 - f.leastPlace).toNat + 1), by omega⟩
      rw [hd, Nat.add_mul, Nat.add_mul]
      omega
  omega

/-- What a rung stands for. -/
def magM (f : Format) (r : Nat) : Nat := if r < f.binade then r else f.binade + r % f.binade
def magE (f : Format) (r : Nat) : Int := if r < f.binade then f.leastPlace else f.leastPlace + (r / f.binade - 1 : Nat)
theorem binade_pos (f : Format) : 0 < f.binade := Nat.two_pow_pos _
theorem magM_lt (f : Format) (r : Nat) : magM f r < 2 * f.binade := by
  unfold magM
  have := Nat.mod_lt r (binade_pos f)
  split <;> omega
def rungW (f : Format) (w : Nat) : Nat := w % f.signWeight
def negW (f : Format) (w : Nat) : Bool := w / f.signWeight % 2 == 1
def Fin_ (f : Format) (w : Nat) : Prop := rungW f w < f.infRung
theorem read_fin {f : Format} {w : Nat} (h : Fin_ f w) : f.read w = .number (negW f w) (magM f (rungW f w)) (magE f (rungW f w)) := by
  unfold Fin_ at h
  unfold Format.read magM magE negW
  dsimp only
  change (if rungW f w < f.binade then _ else _) = _
  split
  · rfl
  · rw [if_pos (by exact h)]; rfl
theorem infRung_lt' (f : Format) : f.infRung < f.signWeight := by
  unfold Format.infRung Format.signWeight Format.binade
  rw [Nat.pow_add]
  exact Nat.mul_lt_mul_of_pos_right (by have := Nat.two_pow_pos f.exponentBits; omega) (Nat.two_pow_pos _)
theorem rungW_word (f : Format) (neg : Bool) {r : Nat} (h : r ≤ f.infRung) : rungW f (f.word neg r) = r := by
  have := infRung_lt' f
  unfold rungW Format.word
  split
  · rw [Nat.add_mod_left]; exact Nat.mod_eq_of_lt (by omega)
  · exact Nat.mod_eq_of_lt (by omega)
theorem negW_word (f : Format) (neg : Bool) {r : Nat} (h : r ≤ f.infRung) : negW f (f.word neg r) = neg := by
  have hl := infRung_lt' f
  unfold negW Format.word
  cases neg
  · rw [if_neg (by decide), Nat.div_eq_of_lt (by omega)]; rfl
  · rw [if_pos rfl, Nat.add_div_left _ (by omega), Nat.div_eq_of_lt (by omega)]; rfl
theorem rungW_small {f : Format} {w : Nat} (h : w < f.signWeight) : rungW f w = w := Nat.mod_eq_of_lt h
theorem negW_small {f : Format} {w : Nat} (h : w < f.signWeight) : negW f w = false := by unfold negW; rw [Nat.div_eq_of_lt h]; rfl
theorem rg_mag {f : Format} {r : Nat} (h : r < f.infRung) : rg f (magM f r) (magE f r) = r := by
  have hB := binade_pos f
  unfold magM magE
  by_cases hr : r < f.binade
  · rw [if_pos hr, if_pos hr]
    unfold rg
    by_cases h0 : r = 0
    · rw [if_pos h0, h0]
    · rw [if_neg h0]
      have hl : r.log2 < f.fractionBits := (Nat.log2_lt h0).2 hr
      have hp : lastPl f r f.leastPlace = f.leastPlace := by unfold lastPl; omega
      rw [hp]
      simp only [Int.sub_self, Int.toNat_zero, Nat.zero_mul, Nat.pow_zero, Nat.mul_one, re_one, Nat.zero_add]
      omega
  · rw [if_neg hr, if_neg hr]
    unfold rg
    have hm := Nat.mod_lt r hB
    have hq : 1 ≤ r / f.binade := (Nat.le_div_iff_mul_le hB).2 (by omega)
    have hd := Nat.div_add_mod r f.binade
    rw [if_neg (by omega)]
    have hl : (f.binade + r % f.binade).log2 = f.fractionBits := by
      refine (Nat.log2_eq_iff (by omega)).2 ⟨?_, ?_⟩
      · show f.binade ≤ _; omega
      · rw [Nat.pow_succ]; show _ < f.binade * 2; omega
    have hp : lastPl f (f.binade + r % f.binade) (f.leastPlace + (r / f.binade - 1 : Nat)) = f.leastPlace + (r / f.binade - 1 : Nat) := by unfold lastPl; rw [hl]; omega
    rw [hp]
    have hs : (f.leastPlace + ((r / f.binade - 1 : Nat) : Int) - f.leastPlace).toNat = r / f.binade - 1 := by omega
    rw [hs]
    simp only [Int.sub_self, Int.toNat_zero, Nat.pow_zero, Nat.mul_one, re_one]
    have hx : (r / f.binade - 1) * f.binade + (f.binade + r % f.binade) = r := by
      have : (r / f.binade - 1) * f.binade + f.binade = r / f.binade * f.binade := by rw [← Nat.succ_mul]; congr 1; omega
      rw [← Nat.add_assoc, this, Nat.mul_comm]; exact hd
    rw [hx]
    omega
/-- Rungs number the magnitudes upwards. -/
theorem mag_mono {f : Format} {r1 r2 : Nat} (h : r1 ≤ r2) (h2 : r2 < f.infRung) : MLe (magM f r1) (magE f r1) (magM f r2) (magE f r2) := by
  rcases mle_total (magM f r1) (magE f r1) (magM f r2) (magE f r2) with hc | hc
  · exact hc
  · have := rg_mono f hc
    rw [rg_mag h2, rg_mag (by omega)] at this
    obtain rfl : r1 = r2 := by omega
    exact mle_refl _ _
theorem mag_strict {f : Format} {r1 r2 : Nat} (h : MLe (magM f r1) (magE f r1) (magM f r2) (magE f r2)) (h1 : r1 < f.infRung) (h2 : r2 < f.infRung) : r1 ≤ r2 := by
  have := rg_mono f h
  rwa [rg_mag h1, rg_mag h2] at this
/-- Rounded down to a rung, or up. -/
theorem rg_le_of {f : Format} {m : Nat} {e : Int} {r : Nat} (hr : r < f.infRung) (h : MLe m e (magM f r) (magE f r)) : rg f m e ≤ r := by
  have := rg_mono f h
  rwa [rg_mag hr] at this
theorem rg_ge_of {f : Format} {m : Nat} {e : Int} {r : Nat} (hr : r < f.infRung) (h : MLe (magM f r) (magE f r) m e) : r ≤ rg f m e := by
  have := rg_mono f h
  rwa [rg_mag hr] at this

/-! Signed. -/
def ILe (a : Int) (e1 : Int) (b : Int) (e2 : Int) : Prop := a * 2 ^ (e1 - min e1 e2).toNat ≤ b * 2 ^ (e2 - min e1 e2).toNat
theorem two_pow_posI (k : Nat) : (0 : Int) < 2 ^ k := Int.pow_pos (by omega)
theorem ile_base {a b e1 e2 c : Int} (h1 : c ≤ e1) (h2 : c ≤ e2) : ILe a e1 b e2 ↔ a * 2 ^ (e1 - c).toNat ≤ b * 2 ^ (e2 - c).toNat := by
  unfold ILe
  have a1 : (e1 - c).toNat = (e1 - min e1 e2).toNat + (min e1 e2 - c).toNat := by omega
  have a2 : (e2 - c).toNat = (e2 - min e1 e2).toNat + (min e1 e2 - c).toNat := by omega
  rw [a1, a2, Int.pow_add, Int.pow_add, ← Int.mul_assoc, ← Int.mul_assoc]
  exact (Int.mul_le_mul_right (two_pow_posI _)).symm
def sv (s : Bool) (m : Nat) : Int := if s then -(m : Int) else m
def srg (f : Format) (a : Int) (e : Int) : Int := sv (decide (a < 0)) (rg f a.natAbs e)
theorem srg_mono (f : Format) {a b e1 e2 : Int} (h : ILe a e1 b e2) : srg f a e1 ≤ srg f b e2 := by
  unfold ILe at h
  have p1 := two_pow_posI (e1 - min e1 e2).toNat
  have p2 := two_pow_posI (e2 - min e1 e2).toNat
  have c1 : ((2 ^ (e1 - min e1 e2).toNat : Nat) : Int) = 2 ^ (e1 - min e1 e2).toNat := by simp
  have c2 : ((2 ^ (e2 - min e1 e2).toNat : Nat) : Int) = 2 ^ (e2 - min e1 e2).toNat := by simp
  unfold srg sv
  by_cases ha : a < 0
  · by_cases hb : b < 0
    · have hm : MLe b.natAbs e2 a.natAbs e1 := by
        unfold MLe
        rw [Int.min_comm e2 e1]
        apply Int.ofNat_le.1
        rw [Int.natCast_mul, Int.natCast_mul, c1, c2]
        have ea : (a.natAbs : Int) = -a := by omega
        have eb : (b.natAbs : Int) = -b := by omega
        rw [ea, eb, Int.neg_mul, Int.neg_mul]
        omega
      have := rg_mono f hm
      simp only [ha, hb, decide_true, if_true]
      omega
    · simp only [ha, hb, decide_true, decide_false, if_true, Bool.false_eq_true, if_false]
      omega
  · by_cases hb : b < 0
    · exfalso
      have h1 : 0 ≤ a * 2 ^ (e1 - min e1 e2).toNat := Int.mul_nonneg (by omega) (by omega)
      have h2 : b * 2 ^ (e2 - min e1 e2).toNat < 0 := Int.mul_neg_of_neg_of_pos hb p2
      omega
    · have hm : MLe a.natAbs e1 b.natAbs e2 := by
        unfold MLe
        apply Int.ofNat_le.1
        rw [Int.natCast_mul, Int.natCast_mul, c1, c2]
        have ea : (a.natAbs : Int) = a := by omega
        have eb : (b.natAbs : Int) = b := by omega
        rw [ea, eb]
        exact h
      have := rg_mono f hm
      simp only [ha, hb, decide_false, Bool.false_eq_true, if_false]
      omega
/-- A word as a whole number that grows with what the word stands for. -/
def sk (f : Format) (w : Nat) : Int := sv (negW f w) (rungW f w)
theorem sk_small {f : Format} {w : Nat} (h : w < f.signWeight) : sk f w = w := by unfold sk sv; rw [negW_small h, rungW_small h]; rfl
theorem sk_word (f : Format) (neg : Bool) {r : Nat} (h : r ≤ f.infRung) : sk f (f.word neg r) = sv neg r := by unfold sk; rw [negW_word f neg h, rungW_word f neg h]
theorem signed_eq (s : Bool) (m k : Nat) : signed s m k = sv s m * 2 ^ k := by
  unfold signed sv
  rw [Nat.shiftLeft_eq]
  cases s
  · simp
  · simp [Int.neg_mul]
/-- Signed magnitudes of two words stand as their keys. -/
theorem sk_ile {f : Format} {x y : Nat} (h : sk f x ≤ sk f y) (hx : Fin_ f x) (hy : Fin_ f y) :
    ILe (sv (negW f x) (magM f (rungW f x))) (magE f (rungW f x)) (sv (negW f y) (magM f (rungW f y))) (magE f (rungW f y)) := by
  unfold Fin_ at hx hy
  unfold sk at h
  have hm : ∀ {a b : Nat}, a ≤ b → b < f.infRung → MLe (magM f a) (magE f a) (magM f b) (magE f b) := fun h1 h2 => mag_mono h1 h2
  have c1 : ∀ k : Nat, ((2 ^ k : Nat) : Int) = 2 ^ k := by intro k; simp
  generalize rungW f x = rx at *
  generalize rungW f y = ry at *
  cases hnx : negW f x <;> cases hny : negW f y <;> rw [hnx, hny] at h <;> simp only [sv, Bool.false_eq_true, if_false, if_true] at h ⊢
  · have := hm (show rx ≤ ry by omega) hy
    unfold MLe at this
    unfold ILe
    have t := Int.ofNat_le.2 this
    rwa [Int.natCast_mul, Int.natCast_mul, c1, c1] at t
  · have z1 : rx = 0 := by omega
    have z2 : ry = 0 := by omega
    subst z1; subst z2
    have : magM f 0 = 0 := by unfold magM; rw [if_pos (binade_pos f)]
    unfold ILe
    rw [this]
    simp
  · unfold ILe
    have p1 := two_pow_posI (magE f rx - min (magE f rx) (magE f ry)).toNat
    have p2 := two_pow_posI (magE f ry - min (magE f rx) (magE f ry)).toNat
    have a1 : 0 ≤ ((magM f rx : Nat) : Int) * 2 ^ (magE f rx - min (magE f rx) (magE f ry)).toNat := Int.mul_nonneg (by omega) (by omega)
    have a2 : 0 ≤ ((magM f ry : Nat) : Int) * 2 ^ (magE f ry - min (magE f rx) (magE f ry)).toNat := Int.mul_nonneg (by omega) (by omega)
    rw [Int.neg_mul]
    omega
  · have := hm (show ry ≤ rx by omega) hx
    unfold MLe at this
    rw [Int.min_comm] at this
    unfold ILe
    have t := Int.ofNat_le.2 this
    rw [Int.natCast_mul, Int.natCast_mul, c1, c1] at t
    rw [Int.neg_mul, Int.neg_mul]
    omega
theorem ile_sk {f : Format} {x y : Nat} (hx : Fin_ f x) (hy : Fin_ f y)
    (h : ILe (sv (negW f x) (magM f (rungW f x))) (magE f (rungW f x)) (sv (negW f y) (magM f (rungW f y))) (magE f (rungW f y))) : sk f x ≤ sk f y := by
  have hs := srg_mono f h
  have key : ∀ z, Fin_ f z → srg f (sv (negW f z) (magM f (rungW f z))) (magE f (rungW f z)) = sk f z := by
    intro z hz
    unfold srg sk
    have hr := rg_mag (f := f) hz
    have hna : (sv (negW f z) (magM f (rungW f z))).natAbs = magM f (rungW f z) := by unfold sv; split <;> omega
    rw [hna, hr]
    unfold sv
    cases negW f z
    · simp only [Bool.false_eq_true, if_false]
      rw [if_neg (by simp)]
    · simp only [if_true]
      by_cases h0 : magM f (rungW f z) = 0
      · have hz0 : rungW f z = 0 := by
          rw [← hr, h0]; unfold rg; rw [if_pos rfl]
        rw [hz0]
        split <;> simp
      · rw [if_pos (by simp; omega)]
  rwa [key x hx, key y hy] at hs
/-- The order of two finite words is the order of their keys. -/
theorem order_sk {f : Format} {x y : Nat} (hx : Fin_ f x) (hy : Fin_ f y) : f.order x y = some (compare (sk f x) (sk f y)) := by
  unfold Format.order
  rw [read_fin hx, read_fin hy]
  unfold Datum.order
  dsimp only
  rw [signed_eq, signed_eq]
  congr 1
  have h1 : ILe (sv (negW f x) (magM f (rungW f x))) (magE f (rungW f x)) (sv (negW f y) (magM f (rungW f y))) (magE f (rungW f y)) ↔ sk f x ≤ sk f y := ⟨ile_sk hx hy, fun h => sk_ile h hx hy⟩
  have h2 : ILe (sv (negW f y) (magM f (rungW f y))) (magE f (rungW f y)) (sv (negW f x) (magM f (rungW f x))) (magE f (rungW f x)) ↔ sk f y ≤ sk f x := ⟨ile_sk hy hx, fun h => sk_ile h hy hx⟩
  unfold ILe at h1 h2
  rw [Int.min_comm (magE f (rungW f y))] at h2
  generalize sv (negW f x) (magM f (rungW f x)) * 2 ^ (magE f (rungW f x) - min (magE f (rungW f x)) (magE f (rungW f y))).toNat = u at *
  generalize sv (negW f y) (magM f (rungW f y)) * 2 ^ (magE f (rungW f y) - min (magE f (rungW f x)) (magE f (rungW f y))).toNat = v at *
  show compareOfLessAndEq u v = compareOfLessAndEq (sk f x) (sk f y)
  unfold compareOfLessAndEq
  by_cases a : u < v
  · have : sk f x < sk f y := by omega
    rw [if_pos a, if_pos this]
  · by_cases b : u = v
    · have e : sk f x = sk f y := by omega
      rw [if_neg a, if_pos b, if_neg (by omega), if_pos e]
    · have : sk f y < sk f x := by omega
      rw [if_neg a, if_neg b, if_neg (by omega), if_neg (by omega)]

/-! Sums. -/
theorem opposite_word {f : Format} {y : Nat} (hy : Fin_ f y) : (f.read y).opposite = .number (!negW f y) (magM f (rungW f y)) (magE f (rungW f y)) := by rw [read_fin hy]; rfl
/-- The exact sum, as a whole number of units of the lower place. -/
def tot (s : Bool) (m : Nat) (i : Int) (t : Bool) (n : Nat) (j : Int) : Int := sv s m * 2 ^ (i - min i j).toNat + sv t n * 2 ^ (j - min i j).toNat
theorem sum_number (s : Bool) (m : Nat) (i : Int) (t : Bool) (n : Nat) (j : Int) :
    ∃ neg, (Datum.number s m i).sum (.number t n j) = some (.number neg (tot s m i t n j).natAbs (min i j)) ∧ (tot s m i t n j ≠ 0 → neg = decide (tot s m i t n j < 0)) := by
  unfold Datum.sum
  dsimp only
  rw [signed_eq, signed_eq]
  refine ⟨_, rfl, fun h => ?_⟩
  have : (sv s m * 2 ^ (i - min i j).toNat + sv t n * 2 ^ (j - min i j).toNat = 0) = False := by simpa [tot] using h
  rw [if_neg (by rw [this]; exact fun h => h)]
  rfl
theorem sk_write_sum {f : Format} {neg : Bool} {a : Int} {e : Int} (h : a ≠ 0 → neg = decide (a < 0)) : sk f (f.write (.number neg a.natAbs e)) = srg f a e := by
  unfold Format.write
  dsimp only
  rw [nearest_rg, sk_word f neg (rg_le ..)]
  unfold srg
  by_cases h0 : a = 0
  · subst h0
    have : rg f (0 : Int).natAbs e = 0 := by show rg f 0 e = 0; unfold rg; rw [if_pos rfl]
    rw [this]
    unfold sv
    cases neg <;> rfl
  · rw [h h0]
theorem tot_mono {s t s' t' : Bool} {m n m' n' : Nat} {i j i' j' : Int} (h : ILe (sv s m) i (sv s' m') i') (k : ILe (sv t n) j (sv t' n') j') :
    ILe (tot s m i t n j) (min i j) (tot s' m' i' t' n' j') (min i' j') := by
  have a1 : min (min i j) (min i' j') ≤ i := by omega
  have a2 : min (min i j) (min i' j') ≤ i' := by omega
  have b1 : min (min i j) (min i' j') ≤ j := by omega
  have b2 : min (min i j) (min i' j') ≤ j' := by omega
  have c1 : min (min i j) (min i' j') ≤ min i j := by omega
  have c2 : min (min i j) (min i' j') ≤ min i' j' := by omega
  rw [ile_base a1 a2] at h
  rw [ile_base b1 b2] at k
  rw [ile_base c1 c2]
  generalize min (min i j) (min i' j') = c at *
  unfold tot
  have e1 : (i - c).toNat = (i - min i j).toNat + (min i j - c).toNat := by omega
  have e2 : (j - c).toNat = (j - min i j).toNat + (min i j - c).toNat := by omega
  have e3 : (i' - c).toNat = (i' - min i' j').toNat + (min i' j' - c).toNat := by omega
  have e4 : (j' - c).toNat = (j' - min i' j').toNat + (min i' j' - c).toNat := by omega
  rw [e1, e3, Int.pow_add, Int.pow_add, ← Int.mul_assoc, ← Int.mul_assoc] at h
  rw [e2, e4, Int.pow_add, Int.pow_add, ← Int.mul_assoc, ← Int.mul_assoc] at k
  rw [Int.add_mul, Int.add_mul]
  omega
def negV (f : Format) (x : Nat) : Int := sv (negW f x) (magM f (rungW f x))
/-- The sum of two finite words: its key. -/
theorem add_sk {f : Format} {x y : Nat} (hx : Fin_ f x) (hy : Fin_ f y) :
    ∃ r, f.add x y = some r ∧ sk f r = srg f (tot (negW f x) (magM f (rungW f x)) (magE f (rungW f x)) (negW f y) (magM f (rungW f y)) (magE f (rungW f y))) (min (magE f (rungW f x)) (magE f (rungW f y))) := by
  unfold Format.add
  rw [read_fin hx, read_fin hy]
  obtain ⟨neg, he, hn⟩ := sum_number (negW f x) (magM f (rungW f x)) (magE f (rungW f x)) (negW f y) (magM f (rungW f y)) (magE f (rungW f y))
  rw [he]
  exact ⟨_, rfl, sk_write_sum hn⟩
theorem sub_sk {f : Format} {x y : Nat} (hx : Fin_ f x) (hy : Fin_ f y) :
    ∃ r, f.sub x y = some r ∧ sk f r = srg f (tot (negW f x) (magM f (rungW f x)) (magE f (rungW f x)) (!negW f y) (magM f (rungW f y)) (magE f (rungW f y))) (min (magE f (rungW f x)) (magE f (rungW f y))) := by
  unfold Format.sub
  rw [opposite_word hy, read_fin hx]
  obtain ⟨neg, he, hn⟩ := sum_number (negW f x) (magM f (rungW f x)) (magE f (rungW f x)) (!negW f y) (magM f (rungW f y)) (magE f (rungW f y))
  rw [he]
  exact ⟨_, rfl, sk_write_sum hn⟩
theorem add_mono {f : Format} {x y x' y' r r' : Nat} (hx : Fin_ f x) (hy : Fin_ f y) (hx' : Fin_ f x') (hy' : Fin_ f y') (h1 : sk f x ≤ sk f x') (h2 : sk f y ≤ sk f y') (hr : f.add x y = some r) (hr' : f.add x' y' = some r') : sk f r ≤ sk f r' := by
  obtain ⟨r1, e1, k1⟩ := add_sk hx hy
  obtain ⟨r2, e2, k2⟩ := add_sk hx' hy'
  obtain rfl : r1 = r := by rw [e1] at hr; injection hr
  obtain rfl : r2 = r' := by rw [e2] at hr'; injection hr'
  rw [k1, k2]
  exact srg_mono f (tot_mono (sk_ile h1 hx hx') (sk_ile h2 hy hy'))
theorem ile_neg {s t : Bool} {m n : Nat} {i j : Int} (h : ILe (sv s m) i (sv t n) j) : ILe (sv (!t) n) j (sv (!s) m) i := by
  have e : ∀ (b : Bool) (k : Nat), sv (!b) k = - sv b k := by intro b k; cases b <;> simp [sv]
  unfold ILe at *
  rw [e, e, Int.min_comm j i, Int.neg_mul, Int.neg_mul]
  omega
theorem sub_mono {f : Format} {x y x' y' r r' : Nat} (hx : Fin_ f x) (hy : Fin_ f y) (hx' : Fin_ f x') (hy' : Fin_ f y') (h1 : sk f x ≤ sk f x') (h2 : sk f y' ≤ sk f y) (hr : f.sub x y = some r) (hr' : f.sub x' y' = some r') : sk f r ≤ sk f r' := by
  obtain ⟨r1, e1, k1⟩ := sub_sk hx hy
  obtain ⟨r2, e2, k2⟩ := sub_sk hx' hy'
  obtain rfl : r1 = r := by rw [e1] at hr; injection hr
  obtain rfl : r2 = r' := by rw [e2] at hr'; injection hr'
  rw [k1, k2]
  exact srg_mono f (tot_mono (sk_ile h1 hx hx') (ile_neg (sk_ile h2 hy' hy)))

/-! Products. -/
theorem mul_fin {f : Format} {x y : Nat} (hx : Fin_ f x) (hy : Fin_ f y) :
    f.mul x y = some (f.word (negW f x ^^ negW f y) (rg f (magM f (rungW f x) * magM f (rungW f y)) (magE f (rungW f x) + magE f (rungW f y)))) := by
  unfold Format.mul
  rw [read_fin hx, read_fin hy]
  show some (f.write (.number _ _ _)) = _
  unfold Format.write
  dsimp only
  rw [nearest_rg]
theorem mul_mono {f : Format} {x y x' y' r r' : Nat} (hx' : Fin_ f x') (hy' : Fin_ f y') (h1 : rungW f x ≤ rungW f x') (h2 : rungW f y ≤ rungW f y') (hr : f.mul x y = some r) (hr' : f.mul x' y' = some r') : rungW f r ≤ rungW f r' ∧ negW f r = (negW f x ^^ negW f y) := by
  have hx : Fin_ f x := Nat.lt_of_le_of_lt h1 hx'
  have hy : Fin_ f y := Nat.lt_of_le_of_lt h2 hy'
  rw [mul_fin hx hy] at hr
  rw [mul_fin hx' hy'] at hr'
  injection hr with hr
  injection hr' with hr'
  subst hr; subst hr'
  rw [rungW_word f _ (rg_le ..), rungW_word f _ (rg_le ..), negW_word f _ (rg_le ..)]
  exact ⟨rg_mono f (mle_mul (mag_mono h1 hx') (mag_mono h2 hy')), rfl⟩

/-! Quotients: a bound that is a rung. -/
theorem quot_le {f : Format} {s t : Bool} {m n : Nat} {i j : Int} {r : Nat} (hn : n ≠ 0) (hr : r < f.infRung) (h : MLe m i (n * magM f r) (j + magE f r)) :
    ∃ q p, (Datum.number s m i).quotient (f.fractionBits + 2) (.number t n j) = some (.number (s ^^ t) q p) ∧ rg f q p ≤ r := by
  unfold Datum.quotient
  dsimp only
  rw [if_neg hn]
  refine ⟨_, _, rfl, ?_⟩
  apply rg_le_of hr
  have hM := magM_lt f r
  generalize magM f r = M at *
  generalize magE f r = E at *
  by_cases hm : m = 0
  · subst hm
    have : ((0 : Nat) <<< (f.fractionBits + 2 + n.log2 - Nat.log2 0)) = 0 := by rw [Nat.shiftLeft_eq]; simp
    rw [this]
    simp [MLe]
  have lm : 2 ^ m.log2 ≤ m := Nat.log2_self_le hm
  have ln : n < 2 ^ (n.log2 + 1) := Nat.lt_log2_self
  obtain ⟨more, hmore⟩ : ∃ more, f.fractionBits + 2 + n.log2 - m.log2 = more := ⟨_, rfl⟩
  rw [hmore, Nat.shiftLeft_eq]
  have hD : 2 ^ (f.fractionBits + 2 + n.log2) ≤ m * 2 ^ more := by
    calc 2 ^ (f.fractionBits + 2 + n.log2) ≤ 2 ^ (m.log2 + more) := Nat.pow_le_pow_right (by omega) (by omega)
      _ = 2 ^ m.log2 * 2 ^ more := Nat.pow_add ..
      _ ≤ _ := Nat.mul_le_mul_right _ lm
  have hD2 : 2 * f.binade * n < m * 2 ^ more := by
    calc 2 * f.binade * n < 2 * f.binade * 2 ^ (n.log2 + 1) := Nat.mul_lt_mul_of_pos_left ln (by have := binade_pos f; omega)
      _ = 2 ^ (f.fractionBits + 2 + n.log2) := by unfold Format.binade; rw [← Nat.pow_succ', ← Nat.pow_add]; congr 1; omega
      _ ≤ _ := hD
  have h1 : min i (j + E) - more ≤ i := by omega
  have h2 : min i (j + E) - more ≤ j + E := by omega
  rw [mle_base h1 h2] at h
  have hU : i - j - more ≤ E := by
    rcases Int.lt_or_le E (i - j - more) with hc | hc
    · exfalso
      have x1 : (i - (min i (j + E) - more)).toNat = more + (i - min i (j + E)).toNat := by omega
      have x2 : (i - min i (j + E)).toNat = (j + E - (min i (j + E) - more)).toNat + ((i - min i (j + E)).toNat - (j + E - (min i (j + E) - more)).toNat) := by omega
      rw [x1, Nat.pow_add, ← Nat.mul_assoc] at h
      rw [x2, Nat.pow_add] at h
      have : m * 2 ^ more * (2 ^ (j + E - (min i (j + E) - ↑more)).toNat * 2 ^ ((i - min i (j + E)).toNat - (j + E - (min i (j + E) - ↑more)).toNat)) ≥ m * 2 ^ more * 2 ^ (j + E - (min i (j + E) - ↑more)).toNat := by
        apply Nat.mul_le_mul_left
        exact Nat.le_mul_of_pos_right _ (Nat.two_pow_pos _)
      have h3 : m * 2 ^ more ≤ n * M := Nat.le_of_mul_le_mul_right (Nat.le_trans this h) (Nat.two_pow_pos _)
      have h4 : n * M ≤ n * (2 * f.binade) := Nat.mul_le_mul_left _ (by omega)
      rw [Nat.mul_comm n (2 * f.binade)] at h4
      omega
    · exact hc
  obtain ⟨c, hc⟩ : ∃ c, M * 2 ^ (E - (i - j - more)).toNat = c := ⟨_, rfl⟩
  have hDc : m * 2 ^ more ≤ n * c := by
    have b1 : i - more ≤ i := by omega
    have b2 : i - more ≤ j + E := by omega
    have h' := (mle_base (m1 := m) (m2 := n * M) h1 h2).2 h
    rw [mle_base b1 b2] at h'
    have y1 : (i - (i - ↑more)).toNat = more := by omega
    have y2 : (j + E - (i - ↑more)).toNat = (E - (i - j - more)).toNat := by omega
    rw [y1, y2, Nat.mul_assoc, hc] at h'
    exact h'
  have hq : 2 * (m * 2 ^ more / n) + (m * 2 ^ more % n != 0).toNat ≤ 2 * c := by
    have hdm := Nat.div_add_mod (m * 2 ^ more) n
    have hle : m * 2 ^ more / n ≤ c := by
      apply Nat.le_of_lt_succ
      rw [Nat.div_lt_iff_lt_mul (by omega), Nat.succ_mul, Nat.mul_comm c n]
      omega
    by_cases h0 : m * 2 ^ more % n = 0
    · rw [h0]; simp; omega
    · have hlt : m * 2 ^ more / n < c := by
        rcases Nat.lt_or_ge (m * 2 ^ more / n) c with h' | h'
        · exact h'
        · exfalso
          have e : m * 2 ^ more / n = c := by omega
          rw [e] at hdm
          omega
      have : (m * 2 ^ more % n != 0).toNat ≤ 1 := Bool.toNat_le _
      omega
  have b1 : i - j - more - 1 ≤ i - j - more - 1 := by omega
  have b2 : i - j - more - 1 ≤ E := by omega
  rw [mle_base b1 b2]
  have z1 : (i - j - ↑more - 1 - (i - j - ↑more - 1)).toNat = 0 := by omega
  have z2 : (E - (i - j - ↑more - 1)).toNat = (E - (i - j - more)).toNat + 1 := by omega
  rw [z1, z2, Nat.pow_zero, Nat.mul_one, Nat.pow_succ, ← Nat.mul_assoc, hc]
  omega
theorem div_le {f : Format} {x y r : Nat} (hx : Fin_ f x) (hy : Fin_ f y) (h0 : magM f (rungW f y) ≠ 0) (hr : r < f.infRung) (h : MLe (magM f (rungW f x)) (magE f (rungW f x)) (magM f (rungW f y) * magM f r) (magE f (rungW f y) + magE f r)) :
    ∃ z, f.div x y = some z ∧ rungW f z ≤ r ∧ negW f z = (negW f x ^^ negW f y) := by
  unfold Format.div
  rw [read_fin hx, read_fin hy]
  obtain ⟨q, p, he, hle⟩ := quot_le (s := negW f x) (t := negW f y) (i := magE f (rungW f x)) h0 hr h
  rw [he]
  refine ⟨_, rfl, ?_, ?_⟩
  · unfold Format.write; dsimp only; rw [nearest_rg, rungW_word f _ (rg_le ..)]; exact hle
  · unfold Format.write; dsimp only; rw [nearest_rg, negW_word f _ (rg_le ..)]

/-! Square roots. -/
theorem rootFrom_sq (n : Nat) : ∀ (todo root : Nat), root * root ≤ n → Datum.rootFrom n todo root * Datum.rootFrom n todo root ≤ n
  | 0, _, h => h
  | todo + 1, root, h => by
    unfold Datum.rootFrom
    dsimp only
    split
    · rename_i h'; exact rootFrom_sq n todo _ h'
    · exact rootFrom_sq n todo _ h
theorem sq_lt {a b : Nat} (h : a * a < b * b) : a < b := by
  rcases Nat.lt_or_ge a b with h' | h'
  · exact h'
  · have := Nat.mul_le_mul h' h'; omega
theorem sq_le {a b : Nat} (h : a * a ≤ b * b) : a ≤ b := by
  rcases Nat.lt_or_ge b a with h' | h'
  · have := Nat.mul_lt_mul'' h' h'; omega
  · exact h'
theorem root_le {f : Format} {m : Nat} {i : Int} {r : Nat} (hr : r < f.infRung) (h : MLe m i (magM f r * magM f r) (magE f r + magE f r)) :
    ∃ q p, (Datum.number false m i).root (f.fractionBits + 2) = some (.number false q p) ∧ rg f q p ≤ r := by
  unfold Datum.root
  dsimp only
  have hM := magM_lt f r
  have hrr := rg_mag hr
  by_cases hm : m = 0
  · rw [if_pos hm]
    refine ⟨_, _, rfl, ?_⟩
    unfold rg
    rw [if_pos hm]
    exact Nat.zero_le _
  rw [if_neg hm, if_neg (by decide)]
  refine ⟨_, _, rfl, ?_⟩
  apply rg_le_of hr
  generalize magM f r = M at *
  generalize magE f r = E at *
  obtain ⟨more, hmore⟩ : ∃ more, 2 * (f.fractionBits + 2) - m.log2 + ((i - ((2 * (f.fractionBits + 2) - m.log2 : Nat) : Int)) % 2).toNat = more := ⟨_, rfl⟩
  rw [hmore]
  have hpar : (i - more) % 2 = 0 := by omega
  have lm : 2 ^ m.log2 ≤ m := Nat.log2_self_le hm
  rw [Nat.shiftLeft_eq]
  have hD : 2 ^ (2 * (f.fractionBits + 2)) ≤ m * 2 ^ more := by
    calc 2 ^ (2 * (f.fractionBits + 2)) ≤ 2 ^ (m.log2 + more) := Nat.pow_le_pow_right (by omega) (by omega)
      _ = 2 ^ m.log2 * 2 ^ more := Nat.pow_add ..
      _ ≤ _ := Nat.mul_le_mul_right _ lm
  generalize hn : m * 2 ^ more = n at *
  have hw := rootFrom_sq n (n.log2 / 2 + 1) 0 (by omega)
  generalize Datum.rootFrom n (n.log2 / 2 + 1) 0 = whole at *
  obtain ⟨U, hUd⟩ : ∃ U : Int, (i - more) / 2 = U := ⟨_, rfl⟩
  have hiU : i = U + U + more := by omega
  rw [hUd]
  have hU : U ≤ E := by
    rcases Int.lt_or_le E U with hc | hc
    · exfalso
      have b1 : E + E - 0 ≤ i := by omega
      have b2 : E + E - 0 ≤ E + E := by omega
      rw [mle_base b1 b2] at h
      have x1 : (i - (E + E - 0)).toNat = more + (U + U - (E + E)).toNat := by omega
      have x2 : (E + E - (E + E - 0)).toNat = 0 := by omega
      rw [x1, x2, Nat.pow_zero, Nat.mul_one, Nat.pow_add, ← Nat.mul_assoc, hn] at h
      have h3 : n ≤ M * M := Nat.le_trans (Nat.le_mul_of_pos_right _ (Nat.two_pow_pos _)) h
      have h4 : M * M ≤ (2 * f.binade) * (2 * f.binade) := Nat.mul_le_mul (by omega) (by omega)
      have h5 : (2 * f.binade) * (2 * f.binade) < 2 ^ (2 * (f.fractionBits + 2)) := by
        unfold Format.binade
        rw [← Nat.pow_succ', ← Nat.pow_add]
        exact Nat.pow_lt_pow_right (by omega) (by omega)
      omega
    · exact hc
  obtain ⟨c, hc⟩ : ∃ c, M * 2 ^ (E - U).toNat = c := ⟨_, rfl⟩
  have hnc : n ≤ c * c := by
    have b1 : U + U ≤ i := by omega
    have b2 : U + U ≤ E + E := by omega
    rw [mle_base b1 b2] at h
    have x1 : (i - (U + U)).toNat = more := by omega
    have x2 : (E + E - (U + U)).toNat = (E - U).toNat + (E - U).toNat := by omega
    rw [x1, x2, hn, Nat.pow_add] at h
    calc n ≤ M * M * (2 ^ (E - U).toNat * 2 ^ (E - U).toNat) := h
      _ = (M * 2 ^ (E - U).toNat) * (M * 2 ^ (E - U).toNat) := by ac_rfl
      _ = c * c := by rw [hc]
  have hq : 2 * whole + (whole * whole != n).toNat ≤ 2 * c := by
    by_cases h0 : whole * whole = n
    · have := sq_le (a := whole) (b := c) (by omega)
      have e : (whole * whole != n) = false := by simp [h0]
      rw [e]; simp; omega
    · have := sq_lt (a := whole) (b := c) (by omega)
      have e : (whole * whole != n).toNat ≤ 1 := Bool.toNat_le _
      omega
  have b1 : U - 1 ≤ U - 1 := by omega
  have b2 : U - 1 ≤ E := by omega
  rw [mle_base b1 b2]
  have z1 : (U - 1 - (U - 1)).toNat = 0 := by omega
  have z2 : (E - (U - 1)).toNat = (E - U).toNat + 1 := by omega
  rw [z1, z2, Nat.pow_zero, Nat.mul_one, Nat.pow_succ, ← Nat.mul_assoc, hc]
  omega
end Go.Proofs.YtijafnejdibdlaaGreatDoor.Mag
