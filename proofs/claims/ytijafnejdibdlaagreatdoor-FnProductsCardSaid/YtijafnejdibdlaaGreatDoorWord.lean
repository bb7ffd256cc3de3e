/- Words of float32: what a float operation gives, unless it is a NaN, is below 2^32. Plain law. -/
import Derived.Test.YtijafnejdibdlaaGreatDoorFloat
import Derived.Test.YtijafnejdibdlaaGreatDoorSameN
namespace Go.Proofs.YtijafnejdibdlaaGreatDoor
open Go.RowKit
theorem word_lt (f : Ieee.Format) (neg : Bool) (rung : Nat) (h : rung ≤ f.infRung) : f.word neg rung < 2 * f.signWeight := by
  have hlt := f.infRung_lt
  unfold Ieee.Format.word
  split <;> omega
theorem nearest_lt (f : Ieee.Format) (neg : Bool) (mag : Nat) (place : Int) : f.nearest neg mag place < 2 * f.signWeight := by
  unfold Ieee.Format.nearest
  dsimp only
  split
  · exact word_lt f neg 0 (Nat.zero_le _)
  · exact word_lt f neg _ (Nat.min_le_right _ _)
theorem write_lt (f : Ieee.Format) (d : Ieee.Datum) (h : d.isNaN = false) : f.write d < 2 * f.signWeight := by
  cases d with
  | number neg mag place => exact nearest_lt f neg mag place
  | infinity neg => exact word_lt f neg _ (Nat.le_refl _)
  | nan neg fraction => cases h
theorem floatBits_lt {op : BinOp} {k : FloatKind} {x y r : Nat} (h : floatBits op k x y = some r) : r < 2 * k.format.signWeight := by
  unfold floatBits at h
  cases op <;> simp only at h <;> first | (cases h; done) | skip
  · obtain ⟨d, hd, rfl⟩ := Option.map_eq_some_iff.1 h; exact write_lt _ _ (sum_not_nan hd)
  · obtain ⟨d, hd, rfl⟩ := Option.map_eq_some_iff.1 h; exact write_lt _ _ (sum_not_nan hd)
  · obtain ⟨d, hd, rfl⟩ := Option.map_eq_some_iff.1 h; exact write_lt _ _ (product_not_nan hd)
  · obtain ⟨d, hd, rfl⟩ := Option.map_eq_some_iff.1 h; exact write_lt _ _ (quotient_not_nan hd)
/-- A float32: a NaN, or a word below 2^32. -/
def W32 (x : Nat) : Prop := isNaNB .f32 x = true ∨ x < 4294967296
theorem W32.lt {x : Nat} (h : x < 4294967296) : W32 x := .inr h
theorem fop_lt (op : BinOp) (x y : Nat) : fop op .f32 x y < 4294967296 := by
  unfold fop
  cases h : floatBits op .f32 x y with
  | some r => exact floatBits_lt h
  | none => exact (by decide : qnan .f32 < 4294967296)
theorem W32.of {op : BinOp} {x y r : Nat} (h : cn .f32 r = fop op .f32 x y) : W32 r := by
  cases hn : isNaNB .f32 r with
  | true => exact .inl hn
  | false =>
    rw [cn_of_not hn] at h
    exact .inr (by rw [h]; exact fop_lt _ _ _)
theorem W32.cn_lt {x : Nat} (h : W32 x) : cn .f32 x < 4294967296 := by
  rcases h with h | h
  · rw [cn_of_nan h]; decide
  · cases hn : isNaNB .f32 x with
    | true => rw [cn_of_nan hn]; decide
    | false => rw [cn_of_not hn]; exact h
/-- The bits of a number, one NaN for all. -/
theorem qnan32 : qnan .f32 = 2143289344 := by decide
theorem sb_nan {x : Nat} (h : isNaNB .f32 x = true) : sb x = 2143289344 := by unfold sb; rw [if_pos h]
theorem sb_num {x : Nat} (h : isNaNB .f32 x = false) : sb x = wrap64 (x : Int) := by unfold sb; rw [if_neg (by rw [h]; exact Bool.false_ne_true)]
theorem sb_cn {x : Nat} (h : W32 x) : sb x = (cn .f32 x : Int) := by
  cases hn : isNaNB .f32 x with
  | true => rw [sb_nan hn, cn_of_nan hn, qnan32]; rfl
  | false =>
    rw [sb_num hn, cn_of_not hn]
    rcases h with h | h
    · rw [h] at hn; cases hn
    · unfold wrap64
      omega
end Go.Proofs.YtijafnejdibdlaaGreatDoor
