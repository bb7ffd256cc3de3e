/- The reference's draws of lists of float32, and of one number. -/
import Derived.Test.YtgbclibemdnohaaGreatDoorDraw
import Derived.Test.YtgbclibemdnohaaGreatDoorEmitF
namespace Go.Proofs.YtgbclibemdnohaaGreatDoor
open Go.RowKit
set_option maxRecDepth 100000
def AllW (xs : List Nat) : Prop := ∀ x ∈ xs, W32 x
theorem AllW.snoc {xs : List Nat} {x : Nat} (h : AllW xs) (hx : W32 x) : AllW (xs ++ [x]) := fun y hy => by
  rcases List.mem_append.1 hy with h1 | h1
  · exact h y h1
  · rw [List.mem_singleton.1 h1]; exact hx
set_option maxHeartbeats 4000000 in
theorem drawFloats_any (A : Option Addr) (n c B g : Nat) (xs : List Int) (m : Nat) (w : World) (h : Rd w B A n (u8s xs)) (hb : Bytes xs) (hB : B ≤ g) (hg : SrcAt w g A n c 0 0) (hm : m ≤ 1000) :
    Calls Tryz.prog 29 #[.pointer (some ⟨g, 0, none⟩), .int .i64 m] w fun e w' => ∃ (v : Value) (ys : List Nat), e = .returned v ∧ Own w' w.heap.size 24 v (f32s ys) ∧ ys.length = m ∧ AllW ys ∧ Below g w w' := by
  have hgw : Hid (g < w.heap.size) := hg.lt
  have HR := Lib.hid (h.alloc (by have := hgw.out; omega) (.cells #[] 24))
  have HS := Lib.hid (hg.alloc (.cells #[] 24))
  have HO := Lib.hid (own_new w 24 (Nat.le_refl _) : Own _ w.heap.size 24 _ (f32s []))
  have HB : Hid (Below g w (w.alloc (.cells #[] 24))) := (Below.refl _ _).alloc (by have := hgw.out; omega) _
  have hsz : Hid ((w.alloc (.cells #[] 24)).heap.size = w.heap.size + 1) := size_alloc' _ _
  have Hb := Lib.hid hb
  clear h hg hb
  go_enter Tryz.func29, Tryz.ntmps29
  go_wp2_with fail
  refine (srcOne_any A n c B g xs 0 0 _ 4 HR.out Hb.out hB HS.out (by omega) (by omega) (by omega)).mono ?_
  rintro e w1 ⟨b, s1, k1, rfl, hg1, hk1, hs1, hgr1⟩
  have HO1 := Lib.hid (HO.out.kept hgr1 (.inr (fun e => by have := hgw.out; injection e with e; simp at e; omega)))
  have HS1 := Lib.hid hg1
  have HB1 := Lib.hid (HB.out.grown hgr1 (by have := hsz.out; have := hgw.out; omega) (fun j e => by cases e; exact Nat.le_refl _))
  have HR1 := Lib.hid (HR.out.grown hgr1 (by have := hsz.out; have := hgw.out; omega) (fun g' e => by cases e; exact hB))
  have hle1 : w.heap.size ≤ w1.heap.size := by have := hgr1.size; have := hsz.out; omega
  clear hg1 hgr1 HO HS HB HR
  go_wp2_with fail
  go_loopw [1, 5] (fun i v wr => ∃ (k : Nat) (ys : List Nat) (kk s : Int), k ≤ m ∧ i = .int .i64 ((m : Int) - (k : Int)) ∧ Hid (ys.length = k) ∧ Hid (AllW ys) ∧ Own wr w.heap.size 24 v (f32s ys) ∧ SrcAt wr g A n c kk s ∧ (0 ≤ kk ∧ kk ≤ 2 + 12 * (k : Int)) ∧ (0 ≤ s ∧ s < 18446744073709551616) ∧ Below g w wr ∧ Rd wr B A n (u8s xs) ∧ w.heap.size ≤ wr.heap.size) (fun i _ _ => (intOf i).toNat)
  case atStart => exact ⟨0, [], k1, s1, Nat.zero_le _, by simp, rfl, (fun j hj => by simp at hj), HO1.out, HS1.out, by omega, hs1, HB1.out, HR1.out, hle1⟩
  case round =>
    clear HO1 HS1 HB1 HR1
    obtain ⟨k, ys, kk, s, hk, rfl, hkl, hall, hO, hS, hkk, hs, hB2, hR2, hle⟩ := hrel
    have HO := Lib.hid hO; have HS2 := Lib.hid hS; have HB2 := Lib.hid hB2; have HR2 := Lib.hid hR2
    clear hO hS hB2 hR2
    by_cases hlt : k < m
    · have hpos : 0 < (m : Int) - (k : Int) := by omega
      have hkl2 : ys.length ≤ 2000000 := by rw [hkl.out]; omega
      cases b with
      | true =>
        go_wp2_with fail
        refine (drawFloat_any A n c B g xs kk s _ HR2.out Hb.out hB HS2.out (by omega) hs).mono ?_
        rintro e w3 ⟨x, s', k', rfl, hx, hS3, hk', hs', hgr⟩
        have HO3 := Lib.hid (HO.out.kept hgr (by
          by_cases e : u5.ownBlock = none
          · exact .inl e
          · right
            intro e2
            have := (HO.out.lt _ e2).1
            have := hgw.out
            omega))
        have HS3 := Lib.hid hS3
        have HB3 := Lib.hid (HB2.out.grown hgr (by have := hgw.out; omega) (fun g e => by cases e; exact Nat.le_refl _))
        have HR3 := Lib.hid (HR2.out.grown hgr (by have := hgw.out; omega) (fun g' e => by cases e; exact hB))
        have hle3 : w.heap.size ≤ w3.heap.size := by have := hgr.size; omega
        have HX := Lib.hid hx
        clear hS3 hgr hx
        go_wp2_with (at_builtin; go_must (refine emitF2 w3 rfl _ _ rfl w.heap.size u5 ys rfl HO3.out x rfl hkl2 hle3 ?_))
        intro v' w4 hO' hg hor
        have HO4 := Lib.hid hO'
        have HS4 := Lib.hid (HS3.out.grown hg (fun e => by have := (HO3.out.lt _ e.symm).1; have := hgw.out; omega))
        have HB4 := Lib.hid (HB3.out.grown hg (by have := hgw.out; omega) (fun g e => by have := (HO3.out.lt g e).1; have := hgw.out; omega))
        have HR4 := Lib.hid (HR3.out.grown hg (by have := hgw.out; omega) (fun g' e => by have := (HO3.out.lt g' e).1; have := hgw.out; omega))
        have hle4 : w.heap.size ≤ w4.heap.size := by have := hg.size; omega
        have hkl3 : Hid ((ys ++ [x]).length = k + 1) := by show _ = _; rw [List.length_append, hkl.out]; rfl
        have hall3 : Hid (AllW (ys ++ [x])) := hall.out.snoc HX.out
        clear hO' hg hor HO HS2 HB2 HO3 HS3 HB3 HR2 HR3
        go_wp2
        go_roundw
        case rel => exact ⟨k + 1, ys ++ [x], k', s', by omega, by go_num, hkl3, hall3, HO4.out, HS4.out, by omega, hs', HB4.out, HR4.out, hle4⟩
        case measure => simp only [intOf]; omega
      | false =>
        go_wp2_with fail
        refine (drawPlain_any A n c B g xs kk s _ HR2.out Hb.out hB HS2.out (by omega) hs).mono ?_
        rintro e w3 ⟨x, s', k', rfl, hx, hS3, hk', hs', hgr⟩
        have HO3 := Lib.hid (HO.out.kept hgr (by
          by_cases e : u5.ownBlock = none
          · exact .inl e
          · right
            intro e2
            have := (HO.out.lt _ e2).1
            have := hgw.out
            omega))
        have HS3 := Lib.hid hS3
        have HB3 := Lib.hid (HB2.out.grown hgr (by have := hgw.out; omega) (fun g e => by cases e; exact Nat.le_refl _))
        have HR3 := Lib.hid (HR2.out.grown hgr (by have := hgw.out; omega) (fun g' e => by cases e; exact hB))
        have hle3 : w.heap.size ≤ w3.heap.size := by have := hgr.size; omega
        have HX := Lib.hid hx
        clear hS3 hgr hx
        go_wp2_with (at_builtin; go_must (refine emitF2 w3 rfl _ _ rfl w.heap.size u5 ys rfl HO3.out x rfl hkl2 hle3 ?_))
        intro v' w4 hO' hg hor
        have HO4 := Lib.hid hO'
        have HS4 := Lib.hid (HS3.out.grown hg (fun e => by have := (HO3.out.lt _ e.symm).1; have := hgw.out; omega))
        have HB4 := Lib.hid (HB3.out.grown hg (by have := hgw.out; omega) (fun g e => by have := (HO3.out.lt g e).1; have := hgw.out; omega))
        have HR4 := Lib.hid (HR3.out.grown hg (by have := hgw.out; omega) (fun g' e => by have := (HO3.out.lt g' e).1; have := hgw.out; omega))
        have hle4 : w.heap.size ≤ w4.heap.size := by have := hg.size; omega
        have hkl3 : Hid ((ys ++ [x]).length = k + 1) := by show _ = _; rw [List.length_append, hkl.out]; rfl
        have hall3 : Hid (AllW (ys ++ [x])) := hall.out.snoc HX.out
        clear hO' hg hor HO HS2 HB2 HO3 HS3 HB3 HR2 HR3
        go_wp2
        go_roundw
        case rel => exact ⟨k + 1, ys ++ [x], k', s', by omega, by go_num, hkl3, hall3, HO4.out, HS4.out, by omega, hs', HB4.out, HR4.out, hle4⟩
        case measure => simp only [intOf]; omega
    · obtain rfl : k = m := by omega
      have hnp : ¬ 0 < (k : Int) - (k : Int) := by omega
      go_wp2
      go_ret
      exact ⟨_, rfl, ys, HO.out, hkl.out, hall.out, HB2.out⟩
theorem b10Numbers_any (A : Option Addr) (n c B : Nat) (xs : List Int) (m : Nat) (w : World) (h : Rd w B A n (u8s xs)) (hb : Bytes xs) (hB : B ≤ w.heap.size) (hm : m ≤ 1000) :
    Calls Tryz.prog 9 #[.slice A n c, .int .i64 m] w fun e w' => ∃ (v : Value) (ys : List Nat), e = .returned v ∧ Own w' w.heap.size 24 v (f32s ys) ∧ ys.length = m ∧ AllW ys ∧ Below w.heap.size w w' := by
  have HR := Lib.hid h
  clear h
  go_enter Tryz.func9, Tryz.ntmps9
  go_wp2_with fail
  refine (l00From_any A n c _).mono ?_
  rintro e w1 ⟨rfl, rfl⟩
  have HS := Lib.hid (SrcAt.new w A n c 0 0)
  have HR1 := Lib.hid (HR.out.alloc hB (.cells #[.slice A n c, .int .i64 0, .int .u64 0] 69))
  have HB1 : Hid (Below w.heap.size w (w.alloc (.cells #[.slice A n c, .int .i64 0, .int .u64 0] 69))) := (Below.refl _ _).alloc (Nat.le_refl _) _
  have hsz : Hid ((w.alloc (.cells #[.slice A n c, .int .i64 0, .int .u64 0] 69)).heap.size = w.heap.size + 1) := size_alloc' _ _
  generalize w.alloc (.cells #[.slice A n c, .int .i64 0, .int .u64 0] 69) = w1 at HS HR1 HB1 hsz ⊢
  go_wp2_with fail
  refine (drawFloats_any A n c B w.heap.size xs m _ HR1.out hb hB HS.out hm).mono ?_
  rintro e w2 ⟨v, ys, rfl, hO, hl, ha, hb2⟩
  have HO := Lib.hid (hO.base_le (by have := hsz.out; omega : w.heap.size ≤ w1.heap.size))
  have HL := Lib.hid hl
  have HA := Lib.hid ha
  have HB2 := Lib.hid (HB1.out.trans hb2)
  clear hO hl ha hb2
  go_wp2
  go_ret
  exact ⟨_, ys, rfl, HO.out, HL.out, HA.out, HB2.out⟩
theorem b10Number_any (A : Option Addr) (n c B : Nat) (xs : List Int) (w : World) (h : Rd w B A n (u8s xs)) (hb : Bytes xs) (hB : B ≤ w.heap.size) :
    Calls Tryz.prog 5 #[.slice A n c] w fun e w' => ∃ x, e = .returned (.float .f32 x) ∧ W32 x ∧ Below w.heap.size w w' := by
  have HR := Lib.hid h
  clear h
  go_enter Tryz.func5, Tryz.ntmps5
  go_wp2_with fail
  refine (l00From_any A n c _).mono ?_
  rintro e w1 ⟨rfl, rfl⟩
  have HS := Lib.hid (SrcAt.new w A n c 0 0)
  have HR1 := Lib.hid (HR.out.alloc hB (.cells #[.slice A n c, .int .i64 0, .int .u64 0] 69))
  have HB1 : Hid (Below w.heap.size w (w.alloc (.cells #[.slice A n c, .int .i64 0, .int .u64 0] 69))) := (Below.refl _ _).alloc (Nat.le_refl _) _
  have hsz : Hid ((w.alloc (.cells #[.slice A n c, .int .i64 0, .int .u64 0] 69)).heap.size = w.heap.size + 1) := size_alloc' _ _
  generalize w.alloc (.cells #[.slice A n c, .int .i64 0, .int .u64 0] 69) = w1 at HS HR1 HB1 hsz ⊢
  go_wp2_with fail
  refine (srcOne_any A n c B w.heap.size xs 0 0 _ 2 HR1.out hb hB HS.out (by omega) (by omega) (by omega)).mono ?_
  rintro e w2 ⟨b, s1, k1, rfl, hg1, hk1, hs1, hgr1⟩
  have HR2 := Lib.hid (HR1.out.grown hgr1 (by have := hsz.out; omega) (fun g' e => by cases e; exact hB))
  have HB2 := Lib.hid (HB1.out.grown hgr1 (by have := hsz.out; omega) (fun j e => by cases e; exact Nat.le_refl _))
  have HG2 := Lib.hid hg1
  have hsz2 : w.heap.size ≤ w2.heap.size := by have := hgr1.size; have := hsz.out; omega
  clear hg1 hgr1
  cases b with
  | true =>
    go_wp2_with fail
    refine (srcPick_any A n c B w.heap.size xs k1 s1 65536 _ HR2.out hb hB HG2.out (by omega) hs1 (by omega)).mono ?_
    rintro e w3 ⟨x3, s3, k3, rfl, hx3, hg3, hk3, hs3, hgr3⟩
    have HR3 := Lib.hid (HR2.out.grown hgr3 (by have := HG2.out.lt; omega) (fun g' e => by cases e; exact hB))
    have HG3 := Lib.hid hg3
    have HB3 := Lib.hid (HB2.out.grown hgr3 (by omega) (fun j e => by cases e; exact Nat.le_refl _))
    have hsz3 : w.heap.size ≤ w3.heap.size := by have := hgr3.size; omega
    clear hg3 hgr3
    go_wp2_with fail
    refine (srcPick_any A n c B w.heap.size xs k3 s3 65536 _ HR3.out hb hB HG3.out (by omega) hs3 (by omega)).mono ?_
    rintro e w4 ⟨x4, s4, k4, rfl, hx4, hg4, hk4, hs4, hgr4⟩
    have HB4 := Lib.hid (HB3.out.grown hgr4 (by omega) (fun j e => by cases e; exact Nat.le_refl _))
    clear hg4 hgr4
    go_wp2_with fail
    refine (l01From_any _ _).mono ?_
    rintro e w5 ⟨⟨x, rfl, hx⟩, rfl⟩
    have HX := Lib.hid (W32.lt hx)
    clear hx
    go_wp2_with fail
    go_ret
    exact ⟨x, rfl, HX.out, HB4.out⟩
  | false =>
    go_wp2_with fail
    refine (drawFloat_any A n c B w.heap.size xs k1 s1 _ HR2.out hb hB HG2.out (by omega) hs1).mono ?_
    rintro e w3 ⟨x, s', k', rfl, hx, hS3, hk', hs', hgr⟩
    have HX := Lib.hid hx
    have HB3 := Lib.hid (HB2.out.grown hgr (by omega) (fun j e => by cases e; exact Nat.le_refl _))
    clear hx hS3 hgr
    go_wp2
    go_ret
    exact ⟨x, rfl, HX.out, HB3.out⟩
end Go.Proofs.YtgbclibemdnohaaGreatDoor
