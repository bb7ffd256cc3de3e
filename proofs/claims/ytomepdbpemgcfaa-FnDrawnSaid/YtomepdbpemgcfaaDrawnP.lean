/- Plain laws of the drawn numbers: where they lie. -/
import Derived.Test.YtomepdbpemgcfaaEven
import Derived.Test.YtomepdbpemgcfaaBellP
import Derived.Test.YtomepdbpemgcfaaWait
import Derived.Laws.FloatBits
namespace Go.Proofs.Ytomepdbpemgcfaa
open Go.RowKit Mag
set_option maxRecDepth 100000
theorem evenFrom_rn {f e : Nat} {s : Sd} (he : e + 32 * f ≤ 128) : Rn .f32 (0 : Nat) (1065353216 : Nat) (evenFrom f e s).2 := by
  induction f generalizing e s with
  | zero => show Rn .f32 _ _ 0; exact Rn.const (by decide +kernel)
  | succ f ih =>
    unfold evenFrom
    split
    · exact ih (by omega)
    · rename_i hw
      have hb := wordOf_ok s
      have h2 := wordOf_ok (nextSd s)
      have hl := (lz_facts (w := wordOf s) (by omega) (by omega)).2.1
      have hy := evY_rn (k := wordOf (nextSd s) / 512) (d := 24 + (e + lzN (wordOf s))) (by omega) (by omega) (by omega) (by omega)
      exact hy.narrow (by decide +kernel)
theorem even_some {s : Sd} (hv : validB s = true) : ∃ t x, evenSeed s = some (t, x) ∧ Rn .f32 (0 : Nat) (1065353216 : Nat) x := by
  refine ⟨_, _, by unfold evenSeed; rw [if_pos hv], evenFrom_rn (by omega)⟩
/-- A quarter of a number. -/
def quarF (n : Int) : Nat := fop .quo .f32 (floatOfInt .f32 n) 1082130432
def lowF (b : Nat) : Nat := quarF ((b : Int) - 8)
def highF (b c : Nat) : Nat := fop .add .f32 (lowF b) (quarF (1 + (c : Int)))
theorem low_rn : ∀ b : Nat, b < 17 → rnB .f32 (-(1073741824 : Nat)) (1073741824 : Nat) (lowF b) = true := by decide +kernel
theorem low_zero : ∀ b : Nat, b < 17 → KV .f32 (fop .add .f32 (lowF b) 0) = KV .f32 (lowF b) := by decide +kernel
theorem wide_rn : ∀ b : Nat, b < 17 → ∀ c : Nat, c < 16 → rnB .f32 (0 : Nat) (1090519040 : Nat) (fop .sub .f32 (highF b c) (lowF b)) = true := by decide +kernel
theorem high_rn : ∀ b : Nat, b < 17 → ∀ c : Nat, c < 16 → rnB .f32 (-(1086324736 : Nat)) (1086324736 : Nat) (highF b c) = true := by decide +kernel
theorem low_high : ∀ b : Nat, b < 17 → ∀ c : Nat, c < 16 → flt .f32 (lowF b) (highF b c) = true := by decide +kernel
theorem fin_of_Rn {lo hi : Int} {x : Nat} (h : Rn .f32 lo hi x) : finB x = true := fin_of_FinK h.1
theorem between_some {s : Sd} (hv : validB s = true) {b c : Nat} (hb : b < 17) (hc : c < 16) : ∃ x, betweenSeed s (lowF b) (highF b c) = some (nextSd s, x) ∧ FinK .f32 x ∧ flt .f32 x (lowF b) = false ∧ fge .f32 x (highF b c) = false := by
  have hl := Rn.const (low_rn b hb)
  have hh := Rn.const (high_rn b hb c hc)
  have hw := Rn.const (wide_rn b hb c hc)
  have hlh := low_high b hb c hc
  have hz := low_zero b hb
  have hu := share_rn s
  have hu' : Rn .f32 0 (1065353215 : Nat) (shareOf s) := ⟨hu.1, by have := hu.2.1; omega, hu.2.2⟩
  have hw' : Rn .f32 0 (1090519040 : Nat) (fop .sub .f32 (highF b c) (lowF b)) := ⟨hw.1, by have := hw.2.1; omega, hw.2.2⟩
  have hm : Rn .f32 0 (1090519040 : Nat) (fop .mul .f32 (fop .sub .f32 (highF b c) (lowF b)) (shareOf s)) := hw'.mulP hu' (by decide +kernel)
  have hy : Rn .f32 (-(1073741824 : Nat)) (1094713344 : Nat) (fop .add .f32 (lowF b) (fop .mul .f32 (fop .sub .f32 (highF b c) (lowF b)) (shareOf s))) := hl.add hm (by decide +kernel)
  have h0 : FinK .f32 0 ∧ KV .f32 0 = 0 := ⟨(Rn.const (k := .f32) (lo := 0) (hi := 0) (by decide +kernel)).1, by decide +kernel⟩
  have hge : KV .f32 (lowF b) ≤ KV .f32 (fop .add .f32 (lowF b) (fop .mul .f32 (fop .sub .f32 (highF b c) (lowF b)) (shareOf s))) := by
    have := add_key hl.1 h0.1 hl.1 hm.1 (Int.le_refl _) (by rw [h0.2]; exact hm.2.1)
    rw [hz] at this
    exact this
  have hlk : KV .f32 (lowF b) < KV .f32 (highF b c) := by
    have := flt_KV hl.1 hh.1
    rw [hlh] at this
    simpa using this.symm
  have key : FinK .f32 (betweenX (shareOf s) (lowF b) (highF b c)) ∧ KV .f32 (lowF b) ≤ KV .f32 (betweenX (shareOf s) (lowF b) (highF b c)) ∧ KV .f32 (betweenX (shareOf s) (lowF b) (highF b c)) < KV .f32 (highF b c) := by
    unfold betweenX
    split
    · rename_i hlt
      refine ⟨hy.1, hge, ?_⟩
      rw [flt_KV hy.1 hh.1] at hlt
      simpa using hlt
    · rw [hl.cn]
      exact ⟨hl.1, Int.le_refl _, hlk⟩
  refine ⟨betweenX (shareOf s) (lowF b) (highF b c), ?_, key.1, ?_, ?_⟩
  · unfold betweenSeed
    rw [hv, fin_of_Rn hl, fin_of_Rn hh, hlh, fin_of_Rn hw, fin_of_FinK key.1]
    rfl
  · rw [flt_KV key.1 hl.1]
    exact decide_eq_false (by omega)
  · rw [fge_KV key.1 hh.1]
    exact decide_eq_false (by omega)
def rateF (c : Nat) : Nat := quarF (1 + (c : Int))
theorem rate_rn : ∀ c : Nat, c < 16 → rnB .f32 (1048576000 : Nat) (1082130432 : Nat) (rateF c) = true := by decide +kernel
theorem rate_pos : ∀ c : Nat, c < 16 → posB (rateF c) = true := by decide +kernel
theorem wait_some {s : Sd} (hv : validB s = true) {c : Nat} (hc : c < 16) : ∃ x, waitSeed s (rateF c) = some (nextSd s, x) ∧ Rn .f32 0 (1145569280 : Nat) x := by
  have hl := logF_neg (leftOf_rn s).1 (leftOf_rn s).2
  have hr := Rn.const (rate_rn c hc)
  have hn : Rn .f32 0 (1128792064 : Nat) (Op.negFloat .f32 (logF (leftOf s))) := hl.neg.weak (by omega) (by omega)
  have hq : Rn .f32 0 (1145569280 : Nat) (fop .quo .f32 (Op.negFloat .f32 (logF (leftOf s))) (rateF c)) := hn.divP hr (by decide +kernel)
  have e : waitX s (rateF c) = fop .quo .f32 (Op.negFloat .f32 (logF (leftOf s))) (rateF c) := by unfold waitX; rw [negC_fin hl.1]
  refine ⟨waitX s (rateF c), ?_, by rw [e]; exact hq⟩
  unfold waitSeed
  rw [hv, rate_pos c hc, e, fin_of_Rn hq]
  rfl
theorem nonneg_lt {hi : Int} {x : Nat} (h : Rn .f32 0 hi x) : flt .f32 x 0 = false := by
  have h0 : FinK .f32 0 ∧ KV .f32 0 = 0 := ⟨(Rn.const (k := .f32) (lo := 0) (hi := 0) (by decide +kernel)).1, by decide +kernel⟩
  rw [flt_KV h.1 h0.1, h0.2]
  exact decide_eq_false (by have := h.2.1; omega)
theorem le_one_gt {lo : Int} {x : Nat} (h : Rn .f32 lo (1065353216 : Nat) x) : fgt .f32 x 1065353216 = false := by
  have h1 : Rn .f32 (1065353216 : Nat) (1065353216 : Nat) 1065353216 := Rn.const (by decide +kernel)
  rw [fgt_KV h.1 h1.1]
  exact decide_eq_false (by have := h.2.2; have := h1.2; omega)
theorem fop32_lt (op : BinOp) (x y : Nat) : fop op .f32 x y < 4294967296 := by
  unfold fop
  rcases h : floatBits op .f32 x y with _ | r
  · decide
  · show r < 2 ^ 32
    unfold floatBits at h
    cases op <;> first
      | exact Ieee.Format.add_lt Ieee.single h
      | exact Ieee.Format.sub_lt Ieee.single h
      | exact Ieee.Format.mul_lt Ieee.single h
      | exact Ieee.Format.div_lt Ieee.single h
      | cases h
/-- What is handed back where there is one. -/
theorem gaveSFB_get {w w' : World} {r : Option (Sd × Nat)} {e : Ending} {t : Sd} {x : Nat} (h : GaveSFB w r e w') (hr : r = some (t, x)) (hx : isNaNB .f32 x = false) :
    e = .returned (.tuple #[.agg #[.int .i64 t.kind, .int .u64 t.a, .int .u64 t.b], .float .f32 x, .bool true]) ∧ Hid (Below w.heap.size w w') := by
  obtain ⟨k, a, b, y, ok, rfl, h1, h2, h3, hb⟩ := h
  subst hr
  obtain rfl : ok = true := h1.out
  have e : (⟨k, a, b⟩ : Sd) = t := h2.out
  subst e
  obtain rfl : y = x := cn_num h3.out hx
  exact ⟨rfl, hb⟩
theorem gaveSCB_get {w w' : World} {r : Option (Sd × Nat × Nat)} {e : Ending} {t : Sd} {x y : Nat} (h : GaveSCB w r e w') (hr : r = some (t, x, y)) (hx : isNaNB .f32 x = false) (hy : isNaNB .f32 y = false) :
    e = .returned (.tuple #[.agg #[.int .i64 t.kind, .int .u64 t.a, .int .u64 t.b], .complex .f32 x y, .bool true]) ∧ Hid (Below w.heap.size w w') := by
  obtain ⟨k, a, b, u, v, ok, rfl, h1, h2, h3, h4, hb⟩ := h
  subst hr
  obtain rfl : ok = true := h1.out
  have e : (⟨k, a, b⟩ : Sd) = t := h2.out
  subst e
  obtain rfl : u = x := cn_num h3.out hx
  obtain rfl : v = y := cn_num h4.out hy
  exact ⟨rfl, hb⟩
theorem bell_some {s : Sd} (hv : validB s = true) : bellP s = some (nextSd (nextSd s), bellRe s, bellIm s) := by unfold bellP; rw [if_pos hv]
theorem quar_nan {n : Int} {lo hi : Int} (h : rnB .f32 lo hi (quarF n) = true) : isNaNB .f32 (quarF n) = false := FinK_not_nan (Rn.const h).1
end Go.Proofs.Ytomepdbpemgcfaa
