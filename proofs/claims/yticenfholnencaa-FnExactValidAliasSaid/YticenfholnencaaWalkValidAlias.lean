/- The walk of the statement FnExactValidAlias, whole. -/
import Derived.Test.YticenfholnencaaAlias
import Derived.Deep.RegionWith
namespace Go.Proofs.Yticenfholnencaa
open Go.RowKit
set_option maxRecDepth 100000 in
set_option maxHeartbeats 4000000 in
theorem walk_ValidAlias (w : World) (A : Option Addr) (n c : Nat) (xs : List Nat) (A' : Option Addr) (n' c' : Nat) (ys : List Int) (h : Rd w w.heap.size A n (f32s xs)) (hn : n ≤ maxLen) (h' : Rd w w.heap.size A' n' (i64s ys)) (hn' : n' ≤ maxLen) (_hf : Fit ys) :
    Calls Try.prog 3 #[.agg #[.slice A n c, .slice A' n' c']] w fun e w' => e = .returned (.bool true) ∧ Below w.heap.size w w' := by
  have hb0 : Below w.heap.size w (w.alloc (.cells #[.slice A n c, .slice A' n' c'] 25)) := (Below.refl _ _).alloc (Nat.le_refl _) _
  have h1 := AlAt.new w 25 (.slice A n c) (.slice A' n' c')
  have HR0 := Lib.hid (h.below hb0 (Nat.le_refl _)); have HQ0 := Lib.hid (h'.below hb0 (Nat.le_refl _)); have HB0 := Lib.hid hb0; have HX0 := Lib.hid h1
  clear h h' hb0 h1
  go_enter Try.func3, Try.ntmps3
  go_wp2_with fail
  generalize w.alloc (.cells #[.slice A n c, .slice A' n' c'] 25) = w0 at HR0 HQ0 HB0 HX0 ⊢
  refine (szAlias_any A n c A' n' c' _ hn hn').mono ?_
  rintro e w1 ⟨rfl, hb⟩
  have hs0 : w.heap.size ≤ w0.heap.size := HB0.out.size
  have HX1 := Lib.hid (HX0.out.below hb HX0.out.lt)
  have HB1 := Lib.hid (HB0.out.trans (hb.mono hs0))
  have HR1 := Lib.hid (HR0.out.below hb hs0)
  have HQ1 := Lib.hid (HQ0.out.below hb hs0)
  have hs1 : w.heap.size ≤ w1.heap.size := HB1.out.size
  clear hb HX0 HB0 HR0 HQ0 hs0
  by_cases hbig : aliasLeft n n' < 0
  · go_wp2
    go_ret
    exact ⟨rfl, HB1.out⟩
  have hnm : n ≤ 1048576 ∧ n' ≤ 1048576 := by
    unfold aliasLeft at hbig
    split at hbig
    · omega
    · split at hbig
      · omega
      · omega
  obtain ⟨hm, hm'⟩ := hnm
  have hlx := HR1.out.lenF
  have hly := HQ1.out.lenI
  have c0 := HX1.out.c0
  have c1 := HX1.out.c1
  go_wp2_with fail
  refine (toAlias_any A n c A' n' c' _ xs ys _ HR1.out HQ1.out hs1 hm hm').mono ?_
  rintro e w2 ⟨v, v', rfl, ho, ho', _, hb⟩
  obtain ⟨A1, c2, rfl, hcap⟩ := ho.shapeF
  obtain ⟨A1', c2', rfl, hcap'⟩ := ho'.shapeI
  have HO2 := Lib.hid ho.rdF; have HP2 := Lib.hid ho'.rdI
  have HX2 := Lib.hid (HX1.out.below hb HX1.out.lt)
  have HB2 := Lib.hid (HB1.out.trans (hb.mono hs1))
  have HR2 := Lib.hid (HR1.out.below hb hs1)
  have HQ2 := Lib.hid (HQ1.out.below hb hs1)
  have hs2 : w.heap.size ≤ w2.heap.size := HB2.out.size
  have hxl : xs.length ≤ 1048576 := by have := hlx.out; omega
  have hyl : ys.length ≤ 1048576 := by have := hly.out; omega
  clear hb ho ho' c0 c1 HX1 HB1 HR1 HQ1
  go_wp2_with fail
  refine (specAlias_any A1 xs.length c2 A1' ys.length c2' _ xs ys _ HO2.out HP2.out (Nat.le_refl _) hxl hyl).mono ?_
  rintro e w3 ⟨rfl, hb⟩
  have HX3 := Lib.hid (HX2.out.below hb HX2.out.lt)
  have HB3 := Lib.hid (HB2.out.trans (hb.mono hs2))
  have HR3 := Lib.hid (HR2.out.below hb hs2)
  have HQ3 := Lib.hid (HQ2.out.below hb hs2)
  have hs3 : w.heap.size ≤ w3.heap.size := HB3.out.size
  clear hb HX2 HB2 HR2 HQ2 HO2 HP2 hcap hcap'
  have c0 := HX3.out.c0
  have c1 := HX3.out.c1
  go_wp2_with fail
  refine (toAlias_any A n c A' n' c' _ xs ys _ HR3.out HQ3.out hs3 hm hm').mono ?_
  rintro e w4 ⟨v, v', rfl, ho, ho', _, hb⟩
  obtain ⟨A2, c3, rfl, hcap⟩ := ho.shapeF
  obtain ⟨A2', c3', rfl, hcap'⟩ := ho'.shapeI
  have hbx : Below w4.heap.size w4 (w4.alloc (.cells #[.slice A2 xs.length c3, .slice A2' ys.length c3'] 28)) := (Below.refl _ _).alloc (Nat.le_refl _) _
  have HO5 := Lib.hid (ho.rdF.below hbx (Nat.le_refl _)); have HP5 := Lib.hid (ho'.rdI.below hbx (Nat.le_refl _))
  have HX5 := Lib.hid ((HX3.out.below hb HX3.out.lt).alloc (.cells #[.slice A2 xs.length c3, .slice A2' ys.length c3'] 28))
  have HY5 := Lib.hid (AlAt.new w4 28 (.slice A2 xs.length c3) (.slice A2' ys.length c3'))
  have HB5 := Lib.hid ((HB3.out.trans (hb.mono hs3)).trans (hbx.mono (Nat.le_trans hs3 hb.size)))
  have HR5 := Lib.hid ((HR3.out.below hb hs3).below hbx (Nat.le_trans hs3 hb.size))
  have HQ5 := Lib.hid ((HQ3.out.below hb hs3).below hbx (Nat.le_trans hs3 hb.size))
  clear hb ho ho' c0 c1 HX3 HB3 HR3 HQ3 hbx hcap hcap'
  go_wp2_with fail
  generalize w4.alloc (.cells #[.slice A2 xs.length c3, .slice A2' ys.length c3'] 28) = w5 at HO5 HP5 HX5 HY5 HB5 HR5 HQ5 ⊢
  have hs5 : w.heap.size ≤ w5.heap.size := HB5.out.size
  have h45 : w4.heap.size ≤ w5.heap.size := by have := HY5.out.lt; omega
  refine (implAlias_any A2 xs.length c3 A2' ys.length c3' _ xs ys _ HO5.out HP5.out h45 hxl hyl).mono ?_
  rintro e w6 ⟨rfl, hb⟩
  have HX6 := Lib.hid (HX5.out.below hb HX5.out.lt)
  have HY6 := Lib.hid (HY5.out.below hb HY5.out.lt)
  have HB6 := Lib.hid (HB5.out.trans (hb.mono hs5))
  have HR6 := Lib.hid (HR5.out.below hb hs5)
  have HQ6 := Lib.hid (HQ5.out.below hb hs5)
  have HO6 := Lib.hid (HO5.out.below hb h45)
  have HP6 := Lib.hid (HP5.out.below hb h45)
  have hs6 : w.heap.size ≤ w6.heap.size := HB6.out.size
  have h46 : w4.heap.size ≤ w6.heap.size := Nat.le_trans h45 hb.size
  clear hb HX5 HB5 HR5 HQ5 HO5 HP5 hs5 h45 HY5
  have hne : (aliasB xs ys != aliasB xs ys) = false := by simp
  have c0 := HX6.out.c0
  have c1 := HX6.out.c1
  have y0 := HY6.out.c0
  have y1 := HY6.out.c1
  go_wp2
  go_region_with (first
    | (go_at_call 17
       refine (toAlias_any A n c A' n' c' _ xs ys _ HR6.out.drew HQ6.out.drew hs6 hm hm').mono ?_
       rintro e w7 ⟨v, v', rfl, ho, ho', _, hb⟩
       obtain ⟨A3, c4, rfl, hcap⟩ := ho.shapeF
       obtain ⟨A3', c4', rfl, hcap'⟩ := ho'.shapeI
       have z0 := (HY6.out.drew.below hb HY6.out.lt).c0
       have z1 := (HY6.out.drew.below hb HY6.out.lt).c1
       have HO7 := Lib.hid ((HO6.out.drew.below hb h46).more (Nat.le_trans h46 hb.size))
       have HP7 := Lib.hid ((HP6.out.drew.below hb h46).more (Nat.le_trans h46 hb.size))
       have HO8 := Lib.hid ho.rdF
       have HP8 := Lib.hid ho'.rdI
       have HB7 := Lib.hid (HB6.out.drew.trans (hb.mono hs6))
       clear hb ho ho' hcap hcap')
    | (go_at_call 19
       refine (eqAlias_same A2 xs.length c3 A2' ys.length c3' A3 xs.length c4 A3' ys.length c4' _ xs ys _ HO7.out HP7.out HO8.out HP8.out (Nat.le_refl _) (by unfold maxLen; omega) (by unfold maxLen; omega)).mono ?_
       rintro e w8 ⟨rfl, hb⟩
       have HB8 := Lib.hid (HB7.out.trans (hb.mono HB7.out.size))
       clear hb))
  all_goals
    go_wp2
    go_ret
    exact ⟨rfl, HB8.out⟩
end Go.Proofs.Yticenfholnencaa
