/- Numbers of a shape: the plain law. -/
import Derived.Test.YtgbehnkccgahoaaExpL
import Derived.Test.YtgbehnkccgahoaaLogA
import Derived.Test.YtgbehnkccgahoaaBellP
import Derived.Laws.FloatBits
namespace Go.Proofs.Ytgbehnkccgahoaa
open Go.RowKit Mag
set_option maxRecDepth 100000
def gamD (x : Nat) : Nat := fop .sub .f32 x 1051372203
def gamC (x : Nat) : Nat := fop .quo .f32 1065353216 (rootF (fop .mul .f32 1091567616 (gamD x)))
def gamT (c : Nat) (s : Sd) : Nat := fop .add .f32 1065353216 (fop .mul .f32 c (bellRe s))
def gamW (t : Nat) : Nat := fop .mul .f32 (fop .mul .f32 t t) t
def gamB (d x w : Nat) : Nat := fop .add .f32 (fop .sub .f32 (fop .add .f32 (fop .mul .f32 (fop .mul .f32 1056964608 x) x) d) (fop .mul .f32 d w)) (fop .mul .f32 d (logA w))
def gamS (s : Sd) : Sd := nextSd (nextSd s)
def gamOk (d c : Nat) (s : Sd) : Bool := flt .f32 (logF (leftOf (gamS s))) (gamB d (bellRe s) (gamW (gamT c s)))
def gamX (d c : Nat) (s : Sd) : Nat := fop .mul .f32 d (gamW (gamT c s))
/-- A number of a shape of at least 1, out of so many tries. -/
def gamGo (d c : Nat) : Nat → Sd → Option (Sd × Nat)
  | 0, _ => none
  | n + 1, s => if fgt .f32 (gamT c s) 0 then (if gamOk d c s then (if finB (gamX d c s) then some (nextSd (gamS s), gamX d c s) else none) else gamGo d c n (nextSd (gamS s))) else gamGo d c n (gamS s)
def gamLarge (x : Nat) (s : Sd) : Option (Sd × Nat) := gamGo (gamD x) (gamC x) 64 s
theorem gamGo_skip {d c n : Nat} {s : Sd} (h : fgt .f32 (gamT c s) 0 = false) : gamGo d c (n + 1) s = gamGo d c n (gamS s) := by rw [gamGo, h]; rfl
theorem gamGo_no {d c n : Nat} {s : Sd} (h : fgt .f32 (gamT c s) 0 = true) (h2 : gamOk d c s = false) : gamGo d c (n + 1) s = gamGo d c n (nextSd (gamS s)) := by rw [gamGo, h, h2]; rfl
theorem gamGo_yes {d c n : Nat} {s : Sd} (h : fgt .f32 (gamT c s) 0 = true) (h2 : gamOk d c s = true) : gamGo d c (n + 1) s = if finB (gamX d c s) then some (nextSd (gamS s), gamX d c s) else none := by rw [gamGo, h, h2]; rfl
theorem gamGo_ok {d c n : Nat} {s t : Sd} {x : Nat} (hs : s.ok) (h : gamGo d c n s = some (t, x)) : t.ok := by
  induction n generalizing s with
  | zero => cases h
  | succ n ih =>
    unfold gamGo at h
    have h2 : (gamS s).ok := nextSd_ok (nextSd_ok hs)
    split at h
    · split at h
      · split at h
        · simp only [Option.some.injEq, Prod.mk.injEq] at h
          exact h.1 ▸ nextSd_ok h2
        · cases h
      · exact ih (nextSd_ok h2) h
    · exact ih h2 h
theorem fop_lt (op : BinOp) (x y : Nat) : fop op .f32 x y < 4294967296 := by
  unfold fop
  rcases h : floatBits op .f32 x y with _ | r
  · decide
  · show r < 2 ^ 32
    unfold floatBits at h
    cases op <;> first
      | exact Ieee.Format.add_lt Ieee.single h
      | exact Ieee.Format.sub_lt Ieee.single h
      | exact Ieee.Format.mul_lt Ieee.single h
      | exact Ieee.Format.div_lt Ieee.single h
      | cases h
theorem word_pos (r : Nat) (h : r ≤ 2139095040) : Ieee.single.word false r = r := by
  unfold Ieee.Format.word
  rw [if_neg (by decide)]
theorem mul_inf {t : Nat} (ht : FinK .f32 t) (h1 : 1 ≤ t) (h2 : t < 2139095040) : fop .mul .f32 2139095040 t = 2139095040 := by
  have ht' : Fin_ Ieee.single t := ht
  have hr : rungW Ieee.single t = t := rungW_small (by have : Ieee.single.signWeight = 2147483648 := (by decide); omega)
  have hn : negW Ieee.single t = false := negW_small (by have : Ieee.single.signWeight = 2147483648 := (by decide); omega)
  have hm : magM Ieee.single t ≠ 0 := by
    intro e
    have := rg_mag (f := Ieee.single) (r := t) (by have : Ieee.single.infRung = 2139095040 := (by decide); omega)
    rw [e] at this
    have z : t = 0 := by rw [← this]; unfold rg; rw [if_pos rfl]
    omega
  have hi : Ieee.single.read 2139095040 = .infinity false := by decide
  unfold fop floatBits
  dsimp only
  show (Ieee.single.mul 2139095040 t).getD _ = _
  unfold Ieee.Format.mul
  rw [read_fin ht', hi, hr, hn]
  unfold Ieee.Datum.product
  dsimp only
  rw [if_neg hm]
  show Ieee.single.write (.infinity (false ^^ false)) = _
  decide
/-- A number greater than 0: its bits. -/
theorem pos_bits {t : Nat} (ht : t < 4294967296) (h : fgt .f32 t 0 = true) : 1 ≤ t ∧ t ≤ 2139095040 := by
  have hn : isNaNB .f32 t = false := by
    rcases hx : isNaNB .f32 t with _ | _
    · rfl
    · exfalso
      unfold fgt at h
      rw [order_nan_l hx] at h
      cases h
  rw [nan_rung] at hn
  simp only [decide_eq_false_iff_not] at hn
  have hs : Ieee.single.signWeight = 2147483648 := by decide
  have hi : Ieee.single.infRung = 2139095040 := by decide
  have hrg : rungW Ieee.single t ≤ 2139095040 := by
    have : ¬ Ieee.single.infRung < rungW Ieee.single t := hn
    omega
  have hmod : rungW Ieee.single t = t % 2147483648 := by unfold rungW; rw [hs]
  by_cases he : rungW Ieee.single t = 2139095040
  · by_cases hlt : t < 2147483648
    · omega
    · exfalso
      have : t = 4286578688 := by omega
      subst this
      revert h
      decide +kernel
  · have hf : FinK .f32 t := by
      show rungW Ieee.single t < Ieee.single.infRung
      omega
    have h0 : FinK .f32 0 ∧ KV .f32 0 = 0 := ⟨(Rn.const (k := .f32) (lo := 0) (hi := 0) (by decide +kernel)).1, by decide +kernel⟩
    have hk := fgt_KV hf h0.1
    rw [h, h0.2] at hk
    have hk' : 0 < KV .f32 t := by simpa using hk.symm
    rcases hb : negW Ieee.single t with _ | _
    · have e : KV .f32 t = (rungW Ieee.single t : Int) := (KV_sign (k := .f32) (x := t)).1 hb
      have hd : t / 2147483648 % 2 = 0 := by
        unfold negW at hb
        rw [hs] at hb
        have : ¬ (t / 2147483648 % 2 = 1) := by simpa using hb
        omega
      omega
    · have e : KV .f32 t = -(rungW Ieee.single t : Int) := (KV_sign (k := .f32) (x := t)).2 hb
      omega
theorem fin_bits {t : Nat} (h : t < 2139095040) : FinK .f32 t ∧ negW Ieee.single t = false := by
  have hs : Ieee.single.signWeight = 2147483648 := by decide
  have hi : Ieee.single.infRung = 2139095040 := by decide
  refine ⟨?_, negW_small (by omega)⟩
  show rungW Ieee.single t < Ieee.single.infRung
  rw [rungW_small (by omega)]
  omega
theorem mul_bits {x y : Nat} (hx : x < 2139095040) (hy : y < 2139095040) : fop .mul .f32 x y ≤ 2139095040 := by
  have hi : Ieee.single.infRung = 2139095040 := by decide
  have a := fin_bits hx
  have b := fin_bits hy
  have e := mul_fin (f := Ieee.single) a.1 b.1
  rw [a.2, b.2] at e
  unfold fop floatBits
  dsimp only
  show (Ieee.single.mul x y).getD _ ≤ _
  rw [e]
  show Ieee.single.word false _ ≤ _
  have hr : rg Ieee.single (magM Ieee.single (rungW Ieee.single x) * magM Ieee.single (rungW Ieee.single y)) (magE Ieee.single (rungW Ieee.single x) + magE Ieee.single (rungW Ieee.single y)) ≤ 2139095040 := by
    rw [← hi]; exact rg_le ..
  rw [word_pos _ hr]
  exact hr
theorem gamW_bits {t : Nat} (ht : t < 4294967296) (h : fgt .f32 t 0 = true) : gamW t ≤ 2139095040 := by
  have hb := pos_bits ht h
  unfold gamW
  by_cases he : t = 2139095040
  · subst he
    decide +kernel
  · have hlt : t < 2139095040 := by omega
    have h1 := mul_bits hlt hlt
    by_cases h2 : fop .mul .f32 t t = 2139095040
    · rw [h2, mul_inf (fin_bits hlt).1 hb.1 hlt]
      exact Nat.le_refl _
    · exact mul_bits (by omega) hlt
theorem gamT_lt (c : Nat) (s : Sd) : gamT c s < 4294967296 := fop_lt _ _ _
theorem cn_gamT (c : Nat) (s : Sd) : cn .f32 (gamT c s) = gamT c s := cn_fop _ _ _ _
theorem cn_gamW (t : Nat) : cn .f32 (gamW t) = gamW t := cn_fop _ _ _ _
theorem cn_gamX (d c : Nat) (s : Sd) : cn .f32 (gamX d c s) = gamX d c s := cn_fop _ _ _ _
/-- A number of a shape. -/
def gam (x : Nat) (s : Sd) : Option (Sd × Nat) :=
  if fge .f32 x 1065353216 then gamLarge x s
  else match gamLarge (fop .add .f32 x 1065353216) s with
    | none => none
    | some (t, y) => if finB (fop .mul .f32 y (expL (fop .quo .f32 (logF (leftOf t)) x))) then some (nextSd t, fop .mul .f32 y (expL (fop .quo .f32 (logF (leftOf t)) x))) else none
def gammaSeed (s : Sd) (x : Nat) : Option (Sd × Nat) := if validB s && (fgt .f32 x 0 && fle .f32 x 1148846080) then gam x s else none
def betaSeed (s : Sd) (x y : Nat) : Option (Sd × Nat) :=
  match gammaSeed s x with
  | none => none
  | some (t, u) => match gammaSeed t y with
    | none => none
    | some (t2, v) => if finB (fop .quo .f32 u (fop .add .f32 u v)) then some (t2, fop .quo .f32 u (fop .add .f32 u v)) else none
end Go.Proofs.Ytgbehnkccgahoaa
