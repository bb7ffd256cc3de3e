/- Points of the disc: two draws again and again. -/
import Derived.Test.YtomepdbpemgcfaaBetween
namespace Go.Proofs.Ytomepdbpemgcfaa
open Go.RowKit
def discU (x : Nat) : Nat := fop .sub .f32 (fop .mul .f32 1073741824 x) 1065353216
def discQ (u v : Nat) : Nat := fop .add .f32 (fop .mul .f32 u u) (fop .mul .f32 v v)
def discFrom : Nat → Sd → Option (Sd × Nat × Nat × Nat)
  | 0, _ => none
  | k + 1, s =>
    if flt .f32 (discQ (discU (shareOf s)) (discU (shareOf (nextSd s)))) 1065353216 then some (nextSd (nextSd s), discU (shareOf s), discU (shareOf (nextSd s)), discQ (discU (shareOf s)) (discU (shareOf (nextSd s))))
    else discFrom k (nextSd (nextSd s))
def discP (s : Sd) : Option (Sd × Nat × Nat × Nat) := if validB s then discFrom 64 s else none
def discSeed (s : Sd) : Option (Sd × Nat × Nat) := (discP s).map fun r => (r.1, r.2.1, r.2.2.1)
theorem discFrom_yes {k : Nat} {s : Sd} (h : flt .f32 (discQ (discU (shareOf s)) (discU (shareOf (nextSd s)))) 1065353216 = true) : discFrom (k + 1) s = some (nextSd (nextSd s), discU (shareOf s), discU (shareOf (nextSd s)), discQ (discU (shareOf s)) (discU (shareOf (nextSd s)))) := by
  rw [discFrom, if_pos h]
theorem discFrom_no {k : Nat} {s : Sd} (h : flt .f32 (discQ (discU (shareOf s)) (discU (shareOf (nextSd s)))) 1065353216 = false) : discFrom (k + 1) s = discFrom k (nextSd (nextSd s)) := by
  rw [discFrom, if_neg (by rw [h]; decide)]
theorem cn_discU {x r1 r2 : Nat} {u : Nat} (hx : cn .f32 x = u) (h1 : cn .f32 r1 = fop .mul .f32 1073741824 x) (h2 : cn .f32 r2 = fop .sub .f32 r1 1065353216) : cn .f32 r2 = discU u := by
  rw [h2, fop_l h1, fop_r hx]; rfl
theorem cn_discQ {x y r1 r2 r3 u v : Nat} (hx : cn .f32 x = u) (hy : cn .f32 y = v) (h1 : cn .f32 r1 = fop .mul .f32 x x) (h2 : cn .f32 r2 = fop .mul .f32 y y) (h3 : cn .f32 r3 = fop .add .f32 r1 r2) : cn .f32 r3 = discQ u v := by
  rw [h3, fop_l h1, fop_r h2, fop_l hx, fop_r hx, fop_l hy, fop_r hy]; rfl
theorem results_s5 {fn : Func} {t u v x y : Tmp} {w : World} {g : Nat} {s : Sd} (h : fn.results = #[.cell t 26, .tmp u, .tmp v, .tmp x, .tmp y]) (tmps : Array Value) (hp : tmps.getD t undef = .pointer (some ⟨g, 0, none⟩)) (hs : SeedAt w g s) :
    (results fn tmps).run Try.prog w = .ok (.tuple #[s.val, tmps.getD u undef, tmps.getD v undef, tmps.getD x undef, tmps.getD y undef]) w := by
  have hp' := hp
  simp only [Array.getD_eq_getD_getElem?] at hp'
  simp [results, h, hp', asAddr, run_loadSeed hs]
theorem results_f4 {fn : Func} {t u v x : Tmp} (h : fn.results = #[.tmp t, .tmp u, .tmp v, .tmp x]) (tmps : Array Value) (P : Program) (w : World) :
    (results fn tmps).run P w = .ok (.tuple #[tmps.getD t undef, tmps.getD u undef, tmps.getD v undef, tmps.getD x undef]) w := by
  simp [results, h]
/-- What has come of the draws. -/
def DiscGave (r : Option (Sd × Nat × Nat × Nat)) (t : Sd) (x y z : Nat) (ok : Bool) : Prop :=
  (r = none ∧ ok = false ∧ t = Sd.zero ∧ x = 0 ∧ y = 0 ∧ z = 0) ∨ (r = some (t, cn .f32 x, cn .f32 y, cn .f32 z) ∧ ok = true)
end Go.Proofs.Ytomepdbpemgcfaa
