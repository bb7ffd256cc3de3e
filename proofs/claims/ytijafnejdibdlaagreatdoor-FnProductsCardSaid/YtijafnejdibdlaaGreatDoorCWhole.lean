/- The reference's draw of one complex number whose parts are whole numbers. -/
import Derived.Test.YtijafnejdibdlaaGreatDoorCDraws
namespace Go.Proofs.YtijafnejdibdlaaGreatDoor
open Go.RowKit
set_option maxRecDepth 100000
set_option maxHeartbeats 2000000 in
theorem b10Whole_any (A : Option Addr) (n c B : Nat) (xs : List Int) (w : World) (h : Rd w B A n (u8s xs)) (hb : Bytes xs) (hB : B ≤ w.heap.size) :
    Calls Tryz.prog 5 #[.slice A n c, .int .i64 1, .int .i64 200] w fun e w' => ∃ (v : Value) (a b : Int), e = .returned v ∧ Own w' w.heap.size 24 v (c64s [(floatOfInt .f32 a, floatOfInt .f32 b)]) ∧ (a.natAbs ≤ 200 ∧ b.natAbs ≤ 200) ∧ Below w.heap.size w w' := by
  have HR := Lib.hid h
  clear h
  go_enter Tryz.func5, Tryz.ntmps5
  go_wp2_with fail
  refine (l00From_any A n c _).mono ?_
  rintro e w1 ⟨rfl, rfl⟩
  have HS := Lib.hid (SrcAt.new w A n c 0 0)
  have HR1 := Lib.hid (HR.out.alloc hB (.cells #[.slice A n c, .int .i64 0, .int .u64 0] 76))
  have HB1 : Hid (Below w.heap.size w (w.alloc (.cells #[.slice A n c, .int .i64 0, .int .u64 0] 76))) := (Below.refl _ _).alloc (Nat.le_refl _) _
  have hsz : Hid ((w.alloc (.cells #[.slice A n c, .int .i64 0, .int .u64 0] 76)).heap.size = w.heap.size + 1) := size_alloc' _ _
  generalize w.alloc (.cells #[.slice A n c, .int .i64 0, .int .u64 0] 76) = w1 at HS HR1 HB1 hsz ⊢
  have HO := Lib.hid (own_new w1 24 (Nat.le_refl _) : Own _ w1.heap.size 24 _ (c64s []))
  have HR2 := Lib.hid (HR1.out.alloc (by have := hsz.out; omega) (.cells #[] 24))
  have HS2 := Lib.hid (HS.out.alloc (.cells #[] 24))
  have HB2 := Lib.hid (HB1.out.alloc (by have := hsz.out; omega) (.cells #[] 24))
  have hsz2 : Hid ((w1.alloc (.cells #[] 24)).heap.size = w1.heap.size + 1) := size_alloc' _ _
  clear HR HS HR1 HB1
  go_wp2_with fail
  go_loopw [1, 8, 9] (fun i v _ wr => ∃ (k : Nat) (kk s : Int), k ≤ 1 ∧ i = .int .i64 (1 - (k : Int)) ∧ ((k = 0 ∧ Own wr w1.heap.size 24 v (c64s [])) ∨ (k = 1 ∧ ∃ a b : Int, (a.natAbs ≤ 200 ∧ b.natAbs ≤ 200) ∧ Own wr w1.heap.size 24 v (c64s [(floatOfInt .f32 a, floatOfInt .f32 b)]))) ∧ SrcAt wr w.heap.size A n c kk s ∧ (0 ≤ kk ∧ kk ≤ 50 * (k : Int)) ∧ (0 ≤ s ∧ s < 18446744073709551616) ∧ Below w.heap.size w wr ∧ Rd wr B A n (u8s xs) ∧ w1.heap.size ≤ wr.heap.size) (fun i _ _ _ => (intOf i).toNat)
  case atStart => exact ⟨0, 0, 0, by omega, rfl, .inl ⟨rfl, HO.out⟩, HS2.out, by omega, by omega, HB2.out, HR2.out, by have := hsz2.out; omega⟩
  case round =>
    clear HO HS2 HB2 HR2
    obtain ⟨k, kk, s, hk, rfl, hO, hS, hkk, hs, hB2, hR2, hle⟩ := hrel
    have HS2 := Lib.hid hS; have HB2 := Lib.hid hB2; have HR2 := Lib.hid hR2
    clear hS hB2 hR2
    rcases hO with ⟨rfl, hO⟩ | ⟨rfl, a, b, hab, hO⟩
    · have HO := Lib.hid hO
      clear hO
      go_wp2_with fail
      refine (srcPick_any A n c B w.heap.size xs kk s 401 _ HR2.out hb hB HS2.out (by omega) hs (by omega)).mono ?_
      rintro e w3 ⟨x, s3, k3, rfl, hx, hg3, hk3, hs3, hgr3⟩
      have HR3 := Lib.hid (HR2.out.grown hgr3 (by have := HS2.out.lt; omega) (fun g' e => by cases e; exact hB))
      have HS3 := Lib.hid hg3
      have HB3 := Lib.hid (HB2.out.grown hgr3 (by have := hsz.out; omega) (fun j e => by cases e; exact Nat.le_refl _))
      have HO3 := Lib.hid (HO.out.kept hgr3 (by
        by_cases e : u8.ownBlock = none
        · exact .inl e
        · right
          intro e2
          have := (HO.out.lt _ e2).1
          have := hsz.out
          omega))
      have hle3 : w1.heap.size ≤ w3.heap.size := by have := hgr3.size; omega
      have hw3 : IntKind.i64.wrap (x - 200) = x - 200 := by rw [IntKind.wrap_i64]; omega
      clear hg3 hgr3 HO HS2 HB2 HR2
      go_wp2_with fail
      refine (srcPick_any A n c B w.heap.size xs k3 s3 401 _ HR3.out hb hB HS3.out (by omega) hs3 (by omega)).mono ?_
      rintro e w4 ⟨y, s4, k4, rfl, hy, hg4, hk4, hs4, hgr4⟩
      have HR4 := Lib.hid (HR3.out.grown hgr4 (by have := HS3.out.lt; omega) (fun g' e => by cases e; exact hB))
      have HS4 := Lib.hid hg4
      have HB4 := Lib.hid (HB3.out.grown hgr4 (by have := hsz.out; omega) (fun j e => by cases e; exact Nat.le_refl _))
      have HO4 := Lib.hid (HO3.out.kept hgr4 (by
        by_cases e : u8.ownBlock = none
        · exact .inl e
        · right
          intro e2
          have := (HO3.out.lt _ e2).1
          have := hsz.out
          omega))
      have hle4 : w1.heap.size ≤ w4.heap.size := by have := hgr4.size; omega
      have hw4 : IntKind.i64.wrap (y - 200) = y - 200 := by rw [IntKind.wrap_i64]; omega
      clear hg4 hgr4 HO3 HS3 HB3 HR3 hw3
      go_wp2_with (at_builtin; go_must (refine emitC2 w4 rfl _ _ rfl w1.heap.size u8 [] rfl HO4.out (floatOfInt .f32 (x - 200), floatOfInt .f32 (y - 200)) rfl (by simp) hle4 ?_))
      intro v' w5 hO' hg hor
      have HO5 := Lib.hid hO'
      have HS5 := Lib.hid (HS4.out.grown hg (fun e => by have := (HO4.out.lt _ e.symm).1; have := hsz.out; omega))
      have HB5 := Lib.hid (HB4.out.grown hg (by have := hsz.out; omega) (fun g e => by have := (HO4.out.lt g e).1; have := hsz.out; omega))
      have HR5 := Lib.hid (HR4.out.grown hg (by have := hsz.out; omega) (fun g' e => by have := (HO4.out.lt g' e).1; have := hsz.out; omega))
      have hle5 : w1.heap.size ≤ w5.heap.size := by have := hg.size; omega
      clear hO' hg hor HO4 HS4 HB4 HR4
      go_wp2
      go_roundw
      case rel => exact ⟨1, k4, s4, by omega, by go_num, .inr ⟨rfl, x - 200, y - 200, by omega, HO5.out⟩, HS5.out, by omega, hs4, HB5.out, HR5.out, hle5⟩
      case measure => simp only [intOf]; omega
    · have HO := Lib.hid (hO.base_le (by have := hsz.out; omega : w.heap.size ≤ w1.heap.size))
      clear hO
      go_wp2
      go_ret
      exact ⟨_, a, b, rfl, HO.out, hab, HB2.out⟩
end Go.Proofs.YtijafnejdibdlaaGreatDoor
