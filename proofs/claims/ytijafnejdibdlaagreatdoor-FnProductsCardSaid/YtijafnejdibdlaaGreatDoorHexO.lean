/- The program's hexadecimal text of a number. -/
import Derived.Test.YtijafnejdibdlaaGreatDoorHexF
import Derived.Test.YtijafnejdibdlaaGreatDoorWord
import Derived.Test.YtijafnejdibdlaaGreatDoorStrLayYtijafnejdibdlaaGreatDoor
namespace Go.Proofs.YtijafnejdibdlaaGreatDoor
open Go.RowKit
set_option maxRecDepth 100000
theorem implBits_any (x : Nat) (w : World) : Calls Tryz.prog 20 #[.float .f32 x] w fun e w' => e = .returned (.int .i64 (sb x)) ∧ w' = w := by
  have hd := run_bits32
  unfold sb
  go_enter Tryz.func20, Tryz.ntmps20
  cases hn : isNaNB .f32 x with
  | true =>
    have h1 : (FloatKind.f32.format.order x x != some .eq) = true := by rw [order_nan_l hn]; rfl
    go_wp2
    go_ret
    exact ⟨rfl, rfl⟩
  | false =>
    have h1 : (FloatKind.f32.format.order x x != some .eq) = false := by rw [order_self hn]; rfl
    go_wp2
    go_ret
    exact ⟨rfl, rfl⟩
theorem TabAt.below {w w' : World} {B : Nat} (h : TabAt w) (hb : Below B w w') (hB : 6 < B) : TabAt w' := by
  unfold TabAt at h ⊢
  rw [← h]
  unfold World.cell?
  rw [hb.block _ hB]
theorem TabAt.lt {w : World} (h : TabAt w) : 6 < w.heap.size := World.block_lt_of_cell? _ _ h
theorem intFormat_any (n : Nat) (w : World) (h : TabAt w) (hn : n < 4294967296) : Calls Tryz.prog 67 #[.int .i64 n, .int .i64 16] w fun e w' =>
    ∃ m, e = .returned (.string ⟨(dgs n m).toArray⟩) ∧ (1 ≤ m ∧ m ≤ 8) ∧ n < 16 ^ m ∧ Below w.heap.size w w' := by
  have H := Lib.hid h
  have hw : IntKind.u64.wrap (n : Int) = n := by rw [IntKind.wrap_u64]; omega
  have hneg : ¬ (n : Int) < 0 := by omega
  clear h
  go_enter Tryz.func67, Tryz.ntmps67
  go_wp2_with (go_at_call 82; refine (formatBits_any n _ H.out hn).mono ?_; rintro e w1 ⟨m, rfl, hm, hlt, hb⟩)
  have HB := Lib.hid hb
  clear hb
  go_wp2_with fail
  go_ret
  exact ⟨m, rfl, hm, hlt, HB.out⟩
theorem format_any (n : Nat) (w : World) (h : TabAt w) (hn : n < 4294967296) : Calls Tryz.prog 55 #[.int .i64 n, .int .i64 16] w fun e w' =>
    ∃ m, e = .returned (.string ⟨(dgs n m).toArray⟩) ∧ (1 ≤ m ∧ m ≤ 8) ∧ n < 16 ^ m ∧ Below w.heap.size w w' := by
  have H := Lib.hid h
  clear h
  go_enter Tryz.func55, Tryz.ntmps55
  go_wp2_with fail
  refine (intFormat_any n _ H.out hn).mono ?_
  rintro e w1 ⟨m, rfl, hm, hlt, hb⟩
  have HB := Lib.hid hb
  clear hb
  go_wp2_with fail
  go_ret
  exact ⟨m, rfl, hm, hlt, HB.out⟩
theorem repeatL_one_byte (c : Nat) : Lib.repeatL [48] c = List.replicate c 48 := by
  induction c with
  | zero => rfl
  | succ c ih => rw [Lib.repeatL, ih]; rfl
theorem repeat_any (c : Nat) (hc : c ≤ 8) (w : World) : Calls Tryz.prog 56 #[.string ⟨#[48]⟩, .int .i64 c] w fun e w' => e = .returned (.string ⟨(List.replicate c 48).toArray⟩) ∧ Below w.heap.size w w' := by
  have h := Any.strings_Repeat Tryz.mRepeat Tryz.xRepeat ⟨#[48]⟩ c w (by omega) (by show 1 * c ≤ _; omega)
  rw [show (⟨#[48]⟩ : ByteArray).data.toList = [48] from rfl, repeatL_one_byte] at h
  exact h
/-- The text of a number. -/
def hexS (x : Nat) : ByteArray := ⟨(dgs (cn .f32 x) 8).toArray⟩
theorem hexOf_any (x : Nat) (w : World) (h : TabAt w) (hx : W32 x) : Calls Tryz.prog 35 #[.float .f32 x] w fun e w' => e = .returned (.string (hexS x)) ∧ Below w.heap.size w w' := by
  have H := Lib.hid h
  have HX := Lib.hid hx
  have hlt := hx.cn_lt
  clear h hx
  go_enter Tryz.func35, Tryz.ntmps35
  go_wp2_with fail
  refine (implBits_any x _).mono ?_
  rintro e w1 ⟨rfl, rfl⟩
  rw [sb_cn HX.out]
  have hS : Hid (hexS x = ⟨(dgs (cn .f32 x) 8).toArray⟩) := rfl
  generalize cn .f32 x = n at hlt hS ⊢
  go_wp2_with fail
  refine (format_any n _ H.out hlt).mono ?_
  rintro e w2 ⟨m, rfl, hm, hnm, hb⟩
  have HB := Lib.hid hb
  have HL := Lib.hid (dgs_lead hnm (8 - m))
  have hlen := dgs_length n m
  obtain ⟨l, hl⟩ : ∃ l, dgs n m = l := ⟨_, rfl⟩
  rw [hl] at HL hlen ⊢
  have hsz : (⟨l.toArray⟩ : ByteArray).size = m := by rw [Lib.size_eq]; exact hlen
  have h8 : (8 : Int) - (m : Int) = ((8 - m : Nat) : Int) := by omega
  clear hb
  go_wp2_with fail
  refine (repeat_any (8 - m) (by omega) _).mono ?_
  rintro e w3 ⟨rfl, hb3⟩
  have HB3 := Lib.hid (HB.out.trans (hb3.mono HB.out.size))
  clear hb3
  go_wp2_with fail
  go_ret
  refine ⟨?_, HB3.out⟩
  have e8 : dgs n 8 = List.replicate (8 - m) 48 ++ l := by rw [← HL.out]; congr 1; omega
  rw [hS.out, e8]
  exact congrArg (fun b => Ending.returned (Value.string b)) (ByteArray.ext (by simp))
end Go.Proofs.YtijafnejdibdlaaGreatDoor
