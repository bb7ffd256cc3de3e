/- Words of floats against whole numbers of units of 2 ^ (-18): what sums, differences and quotients make of such bounds. Plain law. -/
import Derived.Test.YtgemcjcghnpmdaaMagF
namespace Go.Proofs.Ytgemcjcghnpmdaa
open Go.RowKit Mag Ieee

theorem ile_refl (a e : Int) : ILe a e a e := Int.le_refl _
theorem ile_trans {a b c e1 e2 e3 : Int} (h : ILe a e1 b e2) (k : ILe b e2 c e3) : ILe a e1 c e3 := by
  have h1 : min e1 (min e2 e3) ≤ e1 := by omega
  have h2 : min e1 (min e2 e3) ≤ e2 := by omega
  have h3 : min e1 (min e2 e3) ≤ e3 := by omega
  rw [ile_base h1 h2] at h
  rw [ile_base h2 h3] at k
  rw [ile_base h1 h3]
  exact Int.le_trans h k
theorem ile_same {a b e : Int} : ILe a e b e ↔ a ≤ b := by
  unfold ILe; rw [Int.min_self]; simp
theorem ile_total (a e b e' : Int) : ILe a e b e' ∨ ILe b e' a e := by
  unfold ILe; rw [Int.min_comm e' e]; omega
theorem ile_opp {a e b e' : Int} (h : ILe a e b e') : ILe (-b) e' (-a) e := by
  unfold ILe at *
  rw [Int.min_comm e' e, Int.neg_mul, Int.neg_mul]; omega
theorem ile_nat {m n : Nat} {e e' : Int} : MLe m e n e' ↔ ILe (m : Int) e (n : Int) e' := by
  unfold MLe ILe
  have c1 : ((2 ^ (e - min e e').toNat : Nat) : Int) = 2 ^ (e - min e e').toNat := by simp
  have c2 : ((2 ^ (e' - min e e').toNat : Nat) : Int) = 2 ^ (e' - min e e').toNat := by simp
  rw [← c1, ← c2, ← Int.natCast_mul, ← Int.natCast_mul]
  exact Int.ofNat_le.symm
theorem sv_int (a : Int) : sv (decide (a < 0)) a.natAbs = a := by
  unfold sv
  by_cases h : a < 0
  · simp only [h, decide_true, if_true]; omega
  · simp only [h, decide_false, Bool.false_eq_true, if_false]; omega
theorem sv_not (s : Bool) (m : Nat) : sv (!s) m = -sv s m := by cases s <;> simp [sv]

/-! The grid's numbers are words. -/
def gridB (f : Format) : Bool := decide (23 ≤ f.fractionBits) && decide (f.leastPlace ≤ -18 - f.fractionBits) && decide ((-18 - f.leastPlace + 2).toNat * f.binade ≤ f.infRung)
theorem gridB_k (k : FloatKind) : gridB k.format = true := by cases k <;> decide +kernel
theorem grid_mag {f : Format} (hf : gridB f = true) {a : Nat} (h : a < 16777216) : ∃ r, r < f.infRung ∧ MLe (magM f r) (magE f r) a (-18) ∧ MLe a (-18) (magM f r) (magE f r) := by
  unfold gridB at hf
  simp only [Bool.and_eq_true, decide_eq_true_eq] at hf
  obtain ⟨⟨hfb, hlp⟩, hinf⟩ := hf
  have hB := binade_pos f
  by_cases h0 : a = 0
  · subst h0
    have hm : magM f 0 = 0 := by unfold magM; rw [if_pos hB]
    have hi : 0 < f.infRung := by
      have : 1 * f.binade ≤ (-18 - f.leastPlace + 2).toNat * f.binade := Nat.mul_le_mul_right _ (by omega)
      omega
    refine ⟨0, hi, ?_, ?_⟩ <;> (rw [hm]; unfold MLe; rw [Nat.zero_mul, Nat.zero_mul]; exact Nat.le_refl _)
  · obtain ⟨L, hL⟩ : ∃ L, a.log2 = L := ⟨_, rfl⟩
    have l1 : 2 ^ L ≤ a := by rw [← hL]; exact Nat.log2_self_le h0
    have l2 : a < 2 ^ (L + 1) := by rw [← hL]; exact Nat.lt_log2_self
    have hL23 : L < 24 := by rw [← hL]; exact (Nat.log2_lt h0).2 (by omega)
    obtain ⟨s, hs⟩ : ∃ s, f.fractionBits - L = s := ⟨_, rfl⟩
    have hsL : L + s = f.fractionBits := by omega
    have m1 : f.binade ≤ a * 2 ^ s := by
      calc f.binade = 2 ^ L * 2 ^ s := by unfold Format.binade; rw [← hsL, Nat.pow_add]
        _ ≤ _ := Nat.mul_le_mul_right _ l1
    have m2 : a * 2 ^ s < 2 * f.binade := by
      calc a * 2 ^ s < 2 ^ (L + 1) * 2 ^ s := Nat.mul_lt_mul_of_pos_right l2 (Nat.two_pow_pos _)
        _ = 2 * f.binade := by unfold Format.binade; rw [← hsL, Nat.pow_succ, Nat.pow_add, Nat.mul_comm (2 ^ L) 2, Nat.mul_assoc]
    obtain ⟨t, ht⟩ : ∃ t : Nat, (-18 - (s : Int) - f.leastPlace + 1) = (t : Int) := ⟨(-18 - (s : Int) - f.leastPlace + 1).toNat, by omega⟩
    obtain ⟨d, hd⟩ : ∃ d, a * 2 ^ s - f.binade = d := ⟨_, rfl⟩
    have hdB : d < f.binade := by omega
    have q1 : (f.binade * t + d) / f.binade = t := by rw [Nat.mul_add_div hB, Nat.div_eq_of_lt hdB, Nat.add_zero]
    have q2 : (f.binade * t + d) % f.binade = d := by rw [Nat.mul_add_mod_self_left, Nat.mod_eq_of_lt hdB]
    have ht1 : 1 ≤ t := by omega
    have hge : ¬ f.binade * t + d < f.binade := by
      have : f.binade * 1 ≤ f.binade * t := Nat.mul_le_mul_left _ ht1
      omega
    have eM : magM f (f.binade * t + d) = a * 2 ^ s := by unfold magM; rw [if_neg hge, q2]; omega
    have eE : magE f (f.binade * t + d) = -18 - (s : Int) := by unfold magE; rw [if_neg hge, q1]; omega
    refine ⟨f.binade * t + d, ?_, ?_, ?_⟩
    · have : (t + 1) * f.binade ≤ (-18 - f.leastPlace + 2).toNat * f.binade := Nat.mul_le_mul_right _ (by omega)
      rw [Nat.add_mul, Nat.mul_comm t] at this
      omega
    · rw [eM, eE]
      have b1 : -18 - (s : Int) ≤ -18 - (s : Int) := by omega
      have b2 : -18 - (s : Int) ≤ -18 := by omega
      rw [mle_base b1 b2]
      have z1 : (-18 - (s : Int) - (-18 - s)).toNat = 0 := by omega
      have z2 : (-18 - (-18 - (s : Int))).toNat = s := by omega
      rw [z1, z2, Nat.pow_zero, Nat.mul_one]; exact Nat.le_refl _
    · rw [eM, eE]
      have b1 : -18 - (s : Int) ≤ -18 - (s : Int) := by omega
      have b2 : -18 - (s : Int) ≤ -18 := by omega
      rw [mle_base b2 b1]
      have z1 : (-18 - (s : Int) - (-18 - s)).toNat = 0 := by omega
      have z2 : (-18 - (-18 - (s : Int))).toNat = s := by omega
      rw [z1, z2, Nat.pow_zero, Nat.mul_one]; exact Nat.le_refl _
def nv (k : FloatKind) (x : Nat) : Int := sv (negW k.format x) (magM k.format (rungW k.format x))
def ne (k : FloatKind) (x : Nat) : Int := magE k.format (rungW k.format x)
theorem gw (k : FloatKind) {b : Int} (h1 : -16777216 < b) (h2 : b < 16777216) : ∃ w, FinK k w ∧ ILe (nv k w) (ne k w) b (-18) ∧ ILe b (-18) (nv k w) (ne k w) := by
  obtain ⟨r, hr, m1, m2⟩ := grid_mag (gridB_k k) (a := b.natAbs) (by omega)
  have hr' : r ≤ k.format.infRung := by omega
  refine ⟨k.format.word (decide (b < 0)) r, ?_, ?_, ?_⟩
  · show rungW _ _ < _
    rw [rungW_word _ _ hr']; exact hr
  · unfold nv ne
    rw [rungW_word _ _ hr', negW_word _ _ hr']
    have t1 := ile_nat.1 m1; have t2 := ile_nat.1 m2
    by_cases hb : b < 0
    · have := ile_opp t2
      have e : -((b.natAbs : Nat) : Int) = b := by omega
      rw [e] at this
      simpa [sv, hb] using this
    · have e : ((b.natAbs : Nat) : Int) = b := by omega
      rw [e] at t1
      simpa [sv, hb] using t1
  · unfold nv ne
    rw [rungW_word _ _ hr', negW_word _ _ hr']
    have t1 := ile_nat.1 m1; have t2 := ile_nat.1 m2
    by_cases hb : b < 0
    · have := ile_opp t1
      have e : -((b.natAbs : Nat) : Int) = b := by omega
      rw [e] at this
      simpa [sv, hb] using this
    · have e : ((b.natAbs : Nat) : Int) = b := by omega
      rw [e] at t2
      simpa [sv, hb] using t2
theorem srg_word {f : Format} {z : Nat} (hz : Fin_ f z) : srg f (sv (negW f z) (magM f (rungW f z))) (magE f (rungW f z)) = sk f z := by
  unfold srg sk
  have hr := rg_mag (f := f) hz
  have hna : (sv (negW f z) (magM f (rungW f z))).natAbs = magM f (rungW f z) := by unfold sv; split <;> omega
  rw [hna, hr]
  unfold sv
  cases negW f z
  · simp only [Bool.false_eq_true, if_false]
    rw [if_neg (by simp)]
  · simp only [if_true]
    by_cases h0 : magM f (rungW f z) = 0
    · have hz0 : rungW f z = 0 := by
        rw [← hr, h0]; unfold rg; rw [if_pos rfl]
      rw [hz0]
      split <;> simp
    · rw [if_pos (by simp; omega)]

/-! Bounds in units. -/
/-- A finite word whose number lies between a and b units of 2 ^ (-18). -/
def In (k : FloatKind) (a b : Int) (x : Nat) : Prop := FinK k x ∧ ILe a (-18) (nv k x) (ne k x) ∧ ILe (nv k x) (ne k x) b (-18)
def lim (a : Int) : Prop := -16777216 < a ∧ a < 16777216
section
variable {k : FloatKind} {a b c d : Int} {x y : Nat}
theorem In.fin (h : In k a b x) : FinK k x := h.1
theorem In.le (h : In k a b x) : a ≤ b := ile_same.1 (ile_trans h.2.1 h.2.2)
theorem In.weak (h : In k a b x) (h1 : c ≤ a) (h2 : b ≤ d) : In k c d x := ⟨h.1, ile_trans (ile_same.2 h1) h.2.1, ile_trans h.2.2 (ile_same.2 h2)⟩
theorem In.num (h : In k a b x) : isNaNB k x = false := FinK_not_nan h.1
theorem In.split (h : In k a b x) (m : Int) : In k a m x ∨ In k m b x := by
  rcases ile_total (nv k x) (ne k x) m (-18) with hc | hc
  · exact .inl ⟨h.1, h.2.1, hc⟩
  · exact .inr ⟨h.1, hc, h.2.2⟩
theorem In.floor_ : ∀ (n : Nat) {a : Int}, In k a (a + (n + 1 : Nat)) x → ∃ u, a ≤ u ∧ u < a + (n + 1 : Nat) ∧ In k u (u + 1) x
  | 0, a, h => ⟨a, by omega, by omega, h⟩
  | n + 1, a, h => by
    rcases h.split (a + 1) with hc | hc
    · exact ⟨a, by omega, by omega, hc⟩
    · obtain ⟨u, h1, h2, h3⟩ := In.floor_ n (a := a + 1) (hc.weak (Int.le_refl _) (by omega))
      exact ⟨u, by omega, by omega, h3⟩
theorem In.floor (h : In k a b x) (hab : a < b) : ∃ u, a ≤ u ∧ u < b ∧ In k u (u + 1) x := by
  obtain ⟨n, hn⟩ : ∃ n : Nat, b = a + (n + 1 : Nat) := ⟨(b - a - 1).toNat, by omega⟩
  subst hn
  exact h.floor_
theorem rnd {z : Nat} {t e : Int} (hz : sk k.format z = srg k.format t e) (h1 : ILe a (-18) t e) (h2 : ILe t e b (-18)) (ha : lim a) (hb : lim b) : In k a b z := by
  obtain ⟨wa, fa, a1, a2⟩ := gw k ha.1 ha.2
  obtain ⟨wb, fb, b1, b2⟩ := gw k hb.1 hb.2
  have la : sk k.format wa ≤ sk k.format z := by
    rw [hz, ← srg_word fa]
    exact srg_mono _ (ile_trans a1 h1)
  have lb : sk k.format z ≤ sk k.format wb := by
    rw [hz, ← srg_word fb]
    exact srg_mono _ (ile_trans h2 b2)
  have hf : FinK k z := by
    have h3 := FinK_iff.1 fa
    have h4 := FinK_iff.1 fb
    unfold KV at h3 h4
    refine FinK_iff.2 ⟨?_, ?_⟩ <;> (show _ < _; unfold KV; omega)
  exact ⟨hf, ile_trans a2 (sk_ile la fa hf), ile_trans (sk_ile lb hf fb) b1⟩
theorem tot_grid (a c : Int) : tot (decide (a < 0)) a.natAbs (-18) (decide (c < 0)) c.natAbs (-18) = a + c := by
  unfold tot
  rw [sv_int, sv_int, Int.min_self]; simp
theorem tot_gridN (a c : Int) : tot (decide (a < 0)) a.natAbs (-18) (!decide (c < 0)) c.natAbs (-18) = a - c := by
  unfold tot
  rw [sv_not, sv_int, sv_int, Int.min_self]; simp; omega
theorem lowG (h : ILe a (-18) (nv k x) (ne k x)) : ILe (sv (decide (a < 0)) a.natAbs) (-18) (sv (negW k.format x) (magM k.format (rungW k.format x))) (magE k.format (rungW k.format x)) := by rw [sv_int a]; exact h
theorem highG (h : ILe (nv k x) (ne k x) b (-18)) : ILe (sv (negW k.format x) (magM k.format (rungW k.format x))) (magE k.format (rungW k.format x)) (sv (decide (b < 0)) b.natAbs) (-18) := by rw [sv_int b]; exact h
theorem In.add (hx : In k a b x) (hy : In k c d y) (h1 : lim (a + c)) (h2 : lim (b + d)) : In k (a + c) (b + d) (fop .add k x y) := by
  obtain ⟨r, he, hk⟩ := add_sk hx.1 hy.1
  have e : fop .add k x y = r := by unfold fop floatBits; dsimp only; rw [he]; rfl
  rw [e]
  refine rnd hk ?_ ?_ h1 h2
  · have := tot_mono (lowG hx.2.1) (lowG hy.2.1)
    rw [tot_grid] at this
    exact this
  · have := tot_mono (highG hx.2.2) (highG hy.2.2)
    rw [tot_grid] at this
    exact this
theorem In.sub (hx : In k a b x) (hy : In k c d y) (h1 : lim (a - d)) (h2 : lim (b - c)) : In k (a - d) (b - c) (fop .sub k x y) := by
  obtain ⟨r, he, hk⟩ := sub_sk hx.1 hy.1
  have e : fop .sub k x y = r := by unfold fop floatBits; dsimp only; rw [he]; rfl
  rw [e]
  refine rnd hk ?_ ?_ h1 h2
  · have := tot_mono (lowG hx.2.1) (ile_neg (highG hy.2.2))
    rw [tot_gridN] at this
    exact this
  · have := tot_mono (highG hx.2.2) (ile_neg (lowG hy.2.1))
    rw [tot_gridN] at this
    exact this
theorem In.widen {x : Nat} (hx : In .f32 a b x) (h1 : lim a) (h2 : lim b) : In .f64 a b (widen x) := by
  rw [widen_eq hx.1]
  refine rnd (t := nv .f32 x) (e := ne .f32 x) ?_ hx.2.1 hx.2.2 h1 h2
  rw [decode_fin hx.1]
  exact KV_encode .f64 _ _ _

/-! Quotients: from below. -/
theorem quot_ge {f : Format} {s t : Bool} {m n : Nat} {i j : Int} {r : Nat} (hn : n ≠ 0) (hr : r < f.infRung) (h : MLe (n * magM f r) (j + magE f r) m i) :
    ∃ q p, (Datum.number s m i).quotient (f.fractionBits + 2) (.number t n j) = some (.number (s ^^ t) q p) ∧ r ≤ rg f q p := by
  unfold Datum.quotient
  dsimp only
  rw [if_neg hn]
  refine ⟨_, _, rfl, ?_⟩
  apply rg_ge_of hr
  have hM := magM_lt f r
  generalize magM f r = M at *
  generalize magE f r = E at *
  by_cases hm : m = 0
  · have h0 : n * M = 0 := by
      subst hm
      unfold MLe at h
      rw [Nat.zero_mul] at h
      rcases Nat.eq_zero_or_pos (n * M) with h0 | h0
      · exact h0
      · have := Nat.mul_pos h0 (Nat.two_pow_pos (j + E - min (j + E) i).toNat)
        omega
    have hM0 : M = 0 := by
      rcases Nat.mul_eq_zero.1 h0 with h1 | h1
      · exact absurd h1 hn
      · exact h1
    subst hM0
    unfold MLe
    rw [Nat.zero_mul]; exact Nat.zero_le _
  have lm : 2 ^ m.log2 ≤ m := Nat.log2_self_le hm
  have ln : n < 2 ^ (n.log2 + 1) := Nat.lt_log2_self
  obtain ⟨more, hmore⟩ : ∃ more, f.fractionBits + 2 + n.log2 - m.log2 = more := ⟨_, rfl⟩
  rw [hmore, Nat.shiftLeft_eq]
  have hD : 2 ^ (f.fractionBits + 2 + n.log2) ≤ m * 2 ^ more := by
    calc 2 ^ (f.fractionBits + 2 + n.log2) ≤ 2 ^ (m.log2 + more) := Nat.pow_le_pow_right (by omega) (by omega)
      _ = 2 ^ m.log2 * 2 ^ more := Nat.pow_add ..
      _ ≤ _ := Nat.mul_le_mul_right _ lm
  have hD2 : 2 * f.binade * n < m * 2 ^ more := by
    calc 2 * f.binade * n < 2 * f.binade * 2 ^ (n.log2 + 1) := Nat.mul_lt_mul_of_pos_left ln (by have := binade_pos f; omega)
      _ = 2 ^ (f.fractionBits + 2 + n.log2) := by unfold Format.binade; rw [← Nat.pow_succ', ← Nat.pow_add]; congr 1; omega
      _ ≤ _ := hD
  obtain ⟨Q, hQ⟩ : ∃ Q, 2 * (m * 2 ^ more / n) + (m * 2 ^ more % n != 0).toNat = Q := ⟨_, rfl⟩
  rw [hQ]
  have hQ2 : 2 * (m * 2 ^ more / n) ≤ Q := by omega
  by_cases hU : i - j - more ≤ E
  · obtain ⟨c, hc⟩ : ∃ c, M * 2 ^ (E - (i - j - more)).toNat = c := ⟨_, rfl⟩
    have hDc : n * c ≤ m * 2 ^ more := by
      have b1 : i - more ≤ i := by omega
      have b2 : i - more ≤ j + E := by omega
      rw [mle_base b2 b1] at h
      have y1 : (i - (i - ↑more)).toNat = more := by omega
      have y2 : (j + E - (i - ↑more)).toNat = (E - (i - j - more)).toNat := by omega
      rw [y1, y2, Nat.mul_assoc, hc] at h
      exact h
    have hle : c ≤ m * 2 ^ more / n := (Nat.le_div_iff_mul_le (by omega)).2 (by rw [Nat.mul_comm]; exact hDc)
    have b1 : i - j - more - 1 ≤ i - j - more - 1 := by omega
    have b2 : i - j - more - 1 ≤ E := by omega
    rw [mle_base b2 b1]
    have z1 : (i - j - ↑more - 1 - (i - j - ↑more - 1)).toNat = 0 := by omega
    have z2 : (E - (i - j - ↑more - 1)).toNat = (E - (i - j - more)).toNat + 1 := by omega
    rw [z1, z2, Nat.pow_zero, Nat.mul_one, Nat.pow_succ, ← Nat.mul_assoc, hc]
    omega
  · have hfl : 2 * f.binade ≤ m * 2 ^ more / n := (Nat.le_div_iff_mul_le (by omega)).2 (by omega)
    have b1 : E ≤ i - j - more - 1 := by omega
    have b2 : E ≤ E := by omega
    rw [mle_base b2 b1]
    have z1 : (E - E).toNat = 0 := by omega
    rw [z1, Nat.pow_zero, Nat.mul_one]
    calc M ≤ Q := by omega
      _ ≤ Q * 2 ^ (i - j - ↑more - 1 - E).toNat := Nat.le_mul_of_pos_right _ (Nat.two_pow_pos _)
theorem div_ge {f : Format} {x y r : Nat} (hx : Fin_ f x) (hy : Fin_ f y) (h0 : magM f (rungW f y) ≠ 0) (hr : r < f.infRung) (h : MLe (magM f (rungW f y) * magM f r) (magE f (rungW f y) + magE f r) (magM f (rungW f x)) (magE f (rungW f x))) :
    ∃ z, f.div x y = some z ∧ r ≤ rungW f z := by
  unfold Format.div
  rw [read_fin hx, read_fin hy]
  obtain ⟨q, p, he, hle⟩ := quot_ge (s := negW f x) (t := negW f y) (i := magE f (rungW f x)) h0 hr h
  rw [he]
  refine ⟨_, rfl, ?_⟩
  unfold Format.write; dsimp only; rw [nearest_rg, rungW_word f _ (rg_le ..)]; exact hle
theorem In.pos (h : In k a b x) (ha : 0 < a) : negW k.format x = false ∧ nv k x = (magM k.format (rungW k.format x) : Int) ∧ magM k.format (rungW k.format x) ≠ 0 := by
  have h1 := h.2.1
  unfold ILe at h1
  have p1 := two_pow_posI (-18 - min (-18) (ne k x)).toNat
  have p2 := two_pow_posI (ne k x - min (-18) (ne k x)).toNat
  have p3 := Int.mul_pos ha p1
  have hp : 0 < nv k x := by
    rcases Int.lt_or_le 0 (nv k x) with hc | hc
    · exact hc
    · have := Int.mul_nonneg (a := -nv k x) (by omega) (Int.le_of_lt p2)
      rw [Int.neg_mul] at this
      omega
  unfold nv at hp ⊢
  cases hn : negW k.format x with
  | true => rw [hn] at hp; simp [sv] at hp; omega
  | false => rw [hn] at hp; simp [sv] at hp ⊢; omega
theorem In.quo {u v : Int} (hx : In k a b x) (hy : In k c d y) (ha : 0 < a) (hc : 0 < c) (hu : 0 ≤ u) (hv : v < 16777216) (h1 : u * d ≤ a * 262144) (h2 : b * 262144 ≤ v * c) : In k u v (fop .quo k x y) := by
  obtain ⟨nx, ex, _⟩ := hx.pos ha
  obtain ⟨ny, ey, m0⟩ := hy.pos hc
  have hab := hx.le
  have hcd := hy.le
  have hv0 : 0 ≤ v := by
    rcases Int.lt_or_le v 0 with h | h
    · have := Int.mul_neg_of_neg_of_pos h hc
      omega
    · exact h
  have hu2 : u < 16777216 := by
    rcases Int.lt_or_le u 16777216 with h | h
    · exact h
    · have g1 : v * c ≤ 16777215 * c := Int.mul_le_mul_of_nonneg_right (by omega) (by omega)
      have g2 : 16777216 * d ≤ u * d := Int.mul_le_mul_of_nonneg_right h (by omega)
      have g3 : a * 262144 ≤ b * 262144 := by omega
      omega
  obtain ⟨r, hr, r1, r2⟩ := grid_mag (gridB_k k) (a := u.toNat) (by omega)
  obtain ⟨t, ht, t1, t2⟩ := grid_mag (gridB_k k) (a := v.toNat) (by omega)
  have X1 : MLe a.toNat (-18) (magM k.format (rungW k.format x)) (magE k.format (rungW k.format x)) := by
    refine ile_nat.2 ?_
    rw [← ex, Int.toNat_of_nonneg (by omega)]; exact hx.2.1
  have X2 : MLe (magM k.format (rungW k.format x)) (magE k.format (rungW k.format x)) b.toNat (-18) := by
    refine ile_nat.2 ?_
    rw [← ex, Int.toNat_of_nonneg (by omega)]; exact hx.2.2
  have Y1 : MLe c.toNat (-18) (magM k.format (rungW k.format y)) (magE k.format (rungW k.format y)) := by
    refine ile_nat.2 ?_
    rw [← ey, Int.toNat_of_nonneg (by omega)]; exact hy.2.1
  have Y2 : MLe (magM k.format (rungW k.format y)) (magE k.format (rungW k.format y)) d.toNat (-18) := by
    refine ile_nat.2 ?_
    rw [← ey, Int.toNat_of_nonneg (by omega)]; exact hy.2.2
  have step : ∀ {p q s : Int}, 0 ≤ p → 0 ≤ q → p * q ≤ s * 262144 → 0 ≤ s → MLe (q.toNat * p.toNat) (-18 + -18) s.toNat (-18) := by
    intro p q s hp hq h hs
    have b1 : (-36 : Int) ≤ -18 + -18 := by omega
    have b2 : (-36 : Int) ≤ -18 := by omega
    rw [mle_base b1 b2]
    apply Int.ofNat_le.1
    rw [Int.natCast_mul, Int.natCast_mul, Int.natCast_mul, Int.toNat_of_nonneg hp, Int.toNat_of_nonneg hq, Int.toNat_of_nonneg hs, Int.mul_comm q p]
    exact (by simpa using h)
  have step' : ∀ {p q s : Int}, 0 ≤ p → 0 ≤ q → s * 262144 ≤ p * q → 0 ≤ s → MLe s.toNat (-18) (q.toNat * p.toNat) (-18 + -18) := by
    intro p q s hp hq h hs
    have b1 : (-36 : Int) ≤ -18 + -18 := by omega
    have b2 : (-36 : Int) ≤ -18 := by omega
    rw [mle_base b2 b1]
    apply Int.ofNat_le.1
    rw [Int.natCast_mul, Int.natCast_mul, Int.natCast_mul, Int.toNat_of_nonneg hp, Int.toNat_of_nonneg hq, Int.toNat_of_nonneg hs, Int.mul_comm q p]
    exact (by simpa using h)
  obtain ⟨z, hz, hzr⟩ := div_ge hx.1 hy.1 m0 hr (mle_trans (mle_mul Y2 r1) (mle_trans (step hu (by omega) h1 (by omega)) X1))
  obtain ⟨z', hz', hzr', hzn⟩ := div_le hx.1 hy.1 m0 ht (mle_trans X2 (mle_trans (step' hv0 (by omega) h2 (by omega)) (mle_mul Y1 t2)))
  obtain rfl : z = z' := by rw [hz] at hz'; injection hz'
  have e : fop .quo k x y = z := by unfold fop floatBits; dsimp only; rw [hz]; rfl
  rw [e]
  have hfin : FinK k z := by show rungW _ _ < _; omega
  have hn : negW k.format z = false := by rw [hzn, nx, ny]; rfl
  have en : nv k z = (magM k.format (rungW k.format z) : Int) := by unfold nv; rw [hn]; rfl
  refine ⟨hfin, ?_, ?_⟩
  · rw [en]
    have := ile_nat.1 (mle_trans r2 (mag_mono hzr hfin))
    rwa [Int.toNat_of_nonneg hu] at this
  · rw [en]
    have := ile_nat.1 (mle_trans (mag_mono hzr' ht) t1)
    rwa [Int.toNat_of_nonneg hv0] at this
theorem In.key_le (hx : In k a b x) (hy : In k c d y) (h : b ≤ c) : KV k x ≤ KV k y := ile_sk hx.1 hy.1 (ile_trans hx.2.2 (ile_trans (ile_same.2 h) hy.2.1))
theorem In.of_key_le (hx : In k a b x) (hy : In k c d y) (h : KV k x ≤ KV k y) : In k a d x := ⟨hx.1, hx.2.1, ile_trans (sk_ile h hx.1 hy.1) hy.2.2⟩
theorem In.of_key_ge (hx : In k a b x) (hy : In k c d y) (h : KV k y ≤ KV k x) : In k c b x := ⟨hx.1, ile_trans hy.2.1 (sk_ile h hy.1 hx.1), hx.2.2⟩
end
instance (a e b e' : Int) : Decidable (ILe a e b e') := by unfold ILe; infer_instance
def inB_ (k : FloatKind) (a b : Int) (x : Nat) : Bool := decide (rungW k.format x < k.format.infRung) && decide (ILe a (-18) (nv k x) (ne k x)) && decide (ILe (nv k x) (ne k x) b (-18))
theorem In.const {k : FloatKind} {a b : Int} {x : Nat} (h : inB_ k a b x = true) : In k a b x := by
  unfold inB_ at h
  simp only [Bool.and_eq_true, decide_eq_true_eq] at h
  exact ⟨h.1.1, h.1.2, h.2⟩
end Go.Proofs.Ytgemcjcghnpmdaa
