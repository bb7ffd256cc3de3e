/- WaitSeed: a number of a wait. -/
import Derived.Test.YtgbehnkccgahoaaLog
import Derived.Test.YtgbehnkccgahoaaNeg
import Derived.Test.YtgbehnkccgahoaaBetween
namespace Go.Proofs.Ytgbehnkccgahoaa
open Go.RowKit Mag
attribute [local go_sem] run_negF
def waitX (s : Sd) (rate : Nat) : Nat := fop .quo .f32 (negC .f32 (logF (leftOf s))) rate
def waitSeed (s : Sd) (rate : Nat) : Option (Sd × Nat) :=
  if validB s && posB rate && finB (waitX s rate) then some (nextSd s, waitX s rate) else none
theorem logLeft_rn (s : Sd) : Rn .f32 (-(1128792064 : Nat)) (1128792064 : Nat) (logF (leftOf s)) := logF_rn (leftOf_rn s).1 (leftOf_rn s).2
/-- A number that is finite by the test is finite. -/
theorem FinK_of_fin {x : Nat} (h : finB x = true) : FinK .f32 x := by
  have hn := finB_not_nan h
  rw [nan_rung] at hn
  simp only [decide_eq_false_iff_not] at hn
  rcases Nat.lt_or_ge (rungW FloatKind.f32.format x) FloatKind.f32.format.infRung with hl | hg
  · exact hl
  · exfalso
    have he : rungW Ieee.single x = Ieee.single.infRung := by
      show rungW FloatKind.f32.format x = FloatKind.f32.format.infRung
      omega
    have hr : FloatKind.f32.format.read x = .infinity (negW Ieee.single x) := by
      show Ieee.single.read x = _
      unfold Ieee.Format.read
      dsimp only
      change (if rungW Ieee.single x < Ieee.single.binade then _ else if rungW Ieee.single x < Ieee.single.infRung then _ else if rungW Ieee.single x = Ieee.single.infRung then _ else _ : Ieee.Datum) = _
      rw [he, if_neg (by decide), if_neg (by decide), if_pos rfl]
      rfl
    have hq : fop .sub .f32 x x = qnan .f32 := by
      unfold fop floatBits
      dsimp only
      unfold Ieee.Format.sub
      rw [hr]
      cases negW Ieee.single x <;> rfl
    unfold finB feq at h
    rw [hq, order_nan_l (qnan_isNaN .f32)] at h
    cases h
theorem pos_KV {x : Nat} (h : posB x = true) : FinK .f32 x ∧ 0 < KV .f32 x := by
  unfold posB at h
  simp only [Bool.and_eq_true] at h
  have hf := FinK_of_fin h.1
  have h0 : FinK .f32 0 ∧ KV .f32 0 = 0 := ⟨(Rn.const (k := .f32) (lo := 0) (hi := 0) (by decide +kernel)).1, by decide +kernel⟩
  have := fgt_KV hf h0.1
  rw [h.2, h0.2] at this
  exact ⟨hf, by simpa using this.symm⟩
theorem implLogE_any (a : Nat) (w : World) (h1 : 1 ≤ a) (h2 : a ≤ 1065353216) :
    Calls Try.prog 25 #[.float .f32 a] w fun e w' => e = .returned (.float .f32 (logF a)) ∧ ∃ q, w' = w.drewN q :=
  (implLog_any a a w (Fin_one h2).1.cn h1 h2).mono fun _ _ ⟨r, he, hr, hq⟩ => ⟨by rw [he, cn_num hr.out (FinK_not_nan (logF_rn h1 h2).1)], hq⟩
theorem drawn_no (s : Sd) (x : Nat) (w : World) (hf : finB x = false) :
    Calls Try.prog 23 #[s.val, .float .f32 x] w fun e w' => e = .returned (.tuple #[.agg #[.int .i64 0, .int .u64 0, .int .u64 0], .float .f32 0, .bool false]) ∧ Below w.heap.size w w' :=
  (drawn_any s x w).mono fun _ _ ⟨h, hb⟩ => by
    rcases h with ⟨h1, _⟩ | ⟨_, h2⟩
    · rw [hf] at h1; cases h1
    · exact ⟨h2, hb⟩
theorem drawn_yes (k a b : Int) (x : Nat) (w : World) (hf : finB x = true) :
    Calls Try.prog 23 #[.agg #[.int .i64 k, .int .u64 a, .int .u64 b], .float .f32 x] w fun e w' => e = .returned (.tuple #[.agg #[.int .i64 k, .int .u64 a, .int .u64 b], .float .f32 x, .bool true]) ∧ Below w.heap.size w w' :=
  (drawn_any ⟨k, a, b⟩ x w).mono fun _ _ ⟨h, hb⟩ => by
    rcases h with ⟨_, h2⟩ | ⟨h1, _⟩
    · exact ⟨h2, hb⟩
    · rw [hf] at h1; cases h1
theorem SeedAt.via {W w' : World} {g : Nat} {s : Sd} (hb : Below W.heap.size W w') (h : SeedAt W g s) : SeedAt w' g s := h.below hb h.lt
theorem below_via {w W w' : World} (hb : Below W.heap.size W w') (h : Below w.heap.size w W) : Below w.heap.size w w' := h.trans (hb.mono h.size)
end Go.Proofs.Ytgbehnkccgahoaa
