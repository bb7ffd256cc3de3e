/- The walk of the statement FnExactCyclesOf, whole. -/
import Derived.Test.YtgkbkbmhdhlffaaCyclesI
namespace Go.Proofs.Ytgkbkbmhdhlffaa
open Go.RowKit
theorem cyclesR_short (xs : List Int) : ((cyclesR xs).getD []).length ≤ 64 ∧ total ((cyclesR xs).getD []) ≤ 4096 := by
  unfold cyclesR
  by_cases h : orderB xs = true
  · rw [if_pos h]
    have hl := cycState_len xs xs.length
    unfold orderB at h
    rw [Bool.and_eq_true] at h
    have hb := inB_true h.1
    have h2 : xs.length ≤ 64 := by omega
    have h3 : xs.length * xs.length ≤ 64 * 64 := Nat.mul_le_mul h2 h2
    show (cycState xs xs.length).1.length ≤ 64 ∧ total (cycState xs xs.length).1 ≤ 4096
    omega
  · rw [if_neg h]
    exact ⟨by simp, by simp [total]⟩
set_option maxRecDepth 100000 in
set_option maxHeartbeats 4000000 in
theorem walk_CyclesOf
    (w : World) (A_a : Option Addr) (n_a c_a : Nat) (xs : List Int) (h_a : Rd w w.heap.size A_a n_a (i64s xs)) (hn_a : n_a ≤ maxLen) (hf_a : Fit xs) :
    Calls Try.prog 5 #[.slice A_a n_a c_a] w fun e w' => e = .returned (.bool true) ∧ Below w.heap.size w w' := by
  unfold maxLen at hn_a
  by_cases hbig : 1048576 < n_a
  · go_enter Try.func5, Try.ntmps5
    go_wp2
    go_ret
    exact ⟨rfl, Below.refl _ _⟩
  have hm : n_a ≤ 1048576 := by omega
  have hlen := h_a.lenI
  have hxl : xs.length ≤ 1048576 := by have := hlen.out; omega
  have hrl := cyclesR_short xs
  obtain ⟨rx, hrx⟩ : ∃ rx, rx = cyclesR xs := ⟨_, rfl⟩
  obtain ⟨Ls, hLs⟩ : ∃ Ls, Ls = rx.getD [] := ⟨_, rfl⟩
  rw [← hrx, ← hLs] at hrl
  obtain ⟨hr1, hr2⟩ := hrl
  have hr3 : Hid (∀ (i : Nat) (L : List Int), Ls[i]? = some L → L.length ≤ 100000) := fun i L hL => by have := total_at hL; omega
  have Hrx := Lib.hid hrx; have HLs := Lib.hid hLs
  have Hf := Lib.hid hf_a
  have HR0 := Lib.hid h_a
  clear hrx hLs hf_a h_a
  go_enter Try.func5, Try.ntmps5
  go_wp2_with fail
  refine (toI_any A_a n_a c_a _ xs _ HR0.out (Nat.le_refl _) hm).mono ?_
  rintro e w1 ⟨v, rfl, ho, hb⟩
  obtain ⟨A_t1, c_t1, rfl, hcap_t1⟩ := ho.shapeI
  have HO1 := Lib.hid ho
  have HB1 := Lib.hid hb
  have HR1 := Lib.hid (HR0.out.below hb (Nat.le_refl _))
  have hs1 : w.heap.size ≤ w1.heap.size := HB1.out.size
  clear ho hb HR0
  go_wp2_with fail
  refine (specCycles A_t1 xs.length c_t1 _ xs _ HO1.out.rdI (Nat.le_refl _) hxl Hf.out hcap_t1.out).mono ?_
  rintro e w2 ⟨v, ok, rfl, hok, ho, hb⟩
  rw [← Hrx.out] at hok ho
  rw [← HLs.out] at ho
  have ho0 := ho.weak (Q := fun j => w1.heap.size ≤ j ∧ j < w2.heap.size) (fun k h1 h2 _ => ⟨h1, h2⟩)
  obtain ⟨A_w0, c_w0, rfl, hcap_w0⟩ := ho0.shape
  have HW2 := Lib.hid (ho0.base_le hs1)
  have HB2 := Lib.hid (HB1.out.trans (hb.mono hs1))
  have HR2 := Lib.hid (HR1.out.below hb hs1)
  have hs2 : w.heap.size ≤ w2.heap.size := HB2.out.size
  have hs12 : w1.heap.size ≤ w2.heap.size := hb.size
  clear ho ho0 hb HR1 HB1 HO1
  have hne1 : (ok != ok) = false := by simp
  go_wp2_with fail
  refine (toI_any A_a n_a c_a _ xs _ HR2.out hs2 hm).mono ?_
  rintro e w3 ⟨v, rfl, ho, hb⟩
  obtain ⟨A_x0, c_x0, rfl, hcap_x0⟩ := ho.shapeI
  have HX3 := Lib.hid ho
  have HW3 := Lib.hid (HW2.out.chg (Chg.of_below (P := fun j => w2.heap.size ≤ j) hb (fun _ h => h)) (fun k _ h1 h2 => by omega))
  have HB3 := Lib.hid (HB2.out.trans (hb.mono hs2))
  have HR3 := Lib.hid (HR2.out.below hb hs2)
  have hs3 : w.heap.size ≤ w3.heap.size := HB3.out.size
  have hs23 : w2.heap.size ≤ w3.heap.size := hb.size
  clear ho hb HW2 HB2 HR2
  go_wp2_with fail
  refine (implCycles A_x0 xs.length c_x0 _ xs _ HX3.out.rdI (Nat.le_refl _) hxl Hf.out hcap_x0.out).mono ?_
  rintro e w4 ⟨v, ok_g1, rfl, hok1, ho, hb⟩
  rw [← Hrx.out] at hok1 ho
  rw [← HLs.out] at ho
  obtain rfl : ok_g1 = ok := hok1.out.trans hok.out.symm
  have ho0 := ho.weak (Q := fun j => w3.heap.size ≤ j ∧ j < w4.heap.size) (fun k h1 h2 _ => ⟨h1, h2⟩)
  obtain ⟨A_g0, c_g0, rfl, hcap_g0⟩ := ho0.shape
  have HG4 := Lib.hid (ho0.base_le hs3)
  have HX4 := Lib.hid (HX3.out.below hb (Nat.le_refl _))
  have HxB : Hid (∀ k, (Value.slice A_x0 xs.length c_x0).ownBlock = some k → w2.heap.size ≤ k ∧ k < w3.heap.size) := fun k hk => HX3.out.lt k hk
  have HW4 := Lib.hid (HW3.out.chg (Chg.of_below (P := fun j => w3.heap.size ≤ j) hb (fun _ h => h)) (fun k _ h1 h2 => by omega))
  have HB4 := Lib.hid (HB3.out.trans (hb.mono hs3))
  have HR4 := Lib.hid (HR3.out.below hb hs3)
  have hs4 : w.heap.size ≤ w4.heap.size := HB4.out.size
  have hs34 : w3.heap.size ≤ w4.heap.size := hb.size
  clear ho ho0 hb HW3 HB3 HR3 HX3
  have hne3 : (ok_g1 != ok_g1) = false := by simp
  go_wp2_with fail
  refine (eqLL_same A_g0 A_w0 _ _ c_g0 c_w0 _ _ _ _ Ls _ HG4.out HW4.out (by omega) hr3.out).mono ?_
  rintro e w5 ⟨rfl, q5, rfl⟩
  have HB5 := Lib.hid (below_drewN HB4.out q5)
  clear HB4
  have hs5 : w.heap.size ≤ (w4.drewN q5).heap.size := hs4
  go_wp2_with fail
  refine (toI_any A_a n_a c_a _ xs _ (HR4.out.drewN q5) hs5 hm).mono ?_
  rintro e w6 ⟨v, rfl, ho, hb⟩
  obtain ⟨A_t2, c_t2, rfl, hcap_t2⟩ := ho.shapeI
  have hsz : (w4.drewN q5).heap.size = w4.heap.size := rfl
  rw [hsz] at ho hb
  have HG6 := Lib.hid ((HG4.out.drewN q5).chg (Chg.of_below (P := fun j => w4.heap.size ≤ j) hb (fun _ h => h)) (fun k _ h1 h2 => by omega))
  have HW6 := Lib.hid ((HW4.out.drewN q5).chg (Chg.of_below (P := fun j => w4.heap.size ≤ j) hb (fun _ h => h)) (fun k _ h1 h2 => by omega))
  have HX6 := Lib.hid ((HX4.out.drewN q5).below hb (Nat.le_refl _))
  have HR6 := Lib.hid ((HR4.out.drewN q5).below hb hs4)
  have HB6 := Lib.hid (HB5.out.trans (hb.mono hs4))
  have HT6 := Lib.hid ho
  have hs46 : w4.heap.size ≤ w6.heap.size := hb.size
  have hs6 : w.heap.size ≤ w6.heap.size := by omega
  clear ho hb HG4 HW4 HX4 HR4 HB5 hsz hs5
  go_wp2_with fail
  refine (eqI_any A_x0 A_t2 xs.length xs.length c_x0 c_t2 _ xs xs _ HX6.out.rdI HT6.out.rdI (by unfold maxLen; omega)).mono ?_
  rintro e w7 ⟨rfl, q7, rfl⟩
  rw [show decide (xs = xs) = true by simp]
  go_wp2_with fail
  refine (markI_any A_x0 xs.length c_x0 _ 1 xs _ (HX6.out.drewN q7) (by omega) (by omega)).mono ?_
  rintro e w8 ⟨rfl, -, hg⟩
  have HG8 := Lib.hid ((HG6.out.drewN q7).chg (Chg.of_grown (P := fun j => w2.heap.size ≤ j ∧ j < w3.heap.size) hg HxB.out) (fun k _ h1 h2 => by omega))
  have HW8 := Lib.hid ((HW6.out.drewN q7).chg (Chg.of_grown (P := fun j => w2.heap.size ≤ j ∧ j < w3.heap.size) hg HxB.out) (fun k _ h1 h2 => by omega))
  have HR8 := Lib.hid ((HR6.out.drewN q7).chg (Chg.of_grown (P := fun j => w2.heap.size ≤ j ∧ j < w3.heap.size) hg HxB.out) hs6 (fun k h1 => by omega))
  have HB8 := Lib.hid (Below.chg (below_drewN HB6.out q7) (Chg.of_grown (P := fun j => w2.heap.size ≤ j ∧ j < w3.heap.size) hg HxB.out) (Nat.le_refl _) (fun k h1 => by omega))
  have hs68 : w6.heap.size ≤ w8.heap.size := hg.size
  have hs8 : w.heap.size ≤ w8.heap.size := by omega
  clear hg HG6 HW6 HX6 HR6 HB6 HT6
  have hge8 : ¬ ((1 + xs.length : Nat) : Int) < 0 := by omega
  go_wp2_with fail
  refine (eqLL_same A_g0 A_w0 _ _ c_g0 c_w0 _ _ _ _ Ls _ HG8.out HW8.out (by omega) hr3.out).mono ?_
  rintro e w9 ⟨rfl, q9, rfl⟩
  go_wp2_with fail
  refine (markLL_any A_g0 _ c_g0 _ 1 _ Ls _ (HG8.out.drewN q9) (by omega) (by omega) (by omega)).mono ?_
  rintro e w10 ⟨rfl, ho, hc⟩
  have HG10 := Lib.hid ho
  have HW10 := Lib.hid ((HW8.out.drewN q9).chg hc (fun k _ h1 h2 => by omega))
  have HR10 := Lib.hid ((HR8.out.drewN q9).chg hc hs8 (fun k h1 => by omega))
  have HB10 := Lib.hid (Below.chg (below_drewN HB8.out q9) hc (Nat.le_refl _) (fun k h1 => by omega))
  have hs810 : w8.heap.size ≤ w10.heap.size := hc.size
  have hs10 : w.heap.size ≤ w10.heap.size := by omega
  clear ho hc HG8 HW8 HR8 HB8
  obtain ⟨m, hm'⟩ : ∃ m, m = total Ls := ⟨_, rfl⟩
  rw [← hm'] at hr2 ⊢
  have Hm := Lib.hid hm'
  clear hm'
  go_wp2_with fail
  refine (heldLL_any A_g0 _ c_g0 _ 1 _ Ls _ HG10.out (by omega) (by rw [← Hm.out]; omega) (by omega)).mono ?_
  rintro e w11 ⟨rfl, q11, rfl⟩
  rw [← Hm.out]
  have hge11 : ¬ ((1 + m : Nat) : Int) < 0 := by omega
  have hne11 : (((1 + m : Nat) : Int) != ((1 + m : Nat) : Int)) = false := by simp
  have hs11 : w.heap.size ≤ (w10.drewN q11).heap.size := hs10
  go_wp2_with fail
  refine (toI_any A_a n_a c_a _ xs _ (HR10.out.drewN q11) hs11 hm).mono ?_
  rintro e w12 ⟨v, rfl, ho, hb⟩
  obtain ⟨A_t3, c_t3, rfl, hcap_t3⟩ := ho.shapeI
  have hsz : (w10.drewN q11).heap.size = w10.heap.size := rfl
  rw [hsz] at ho hb
  have HG12 := Lib.hid ((HG10.out.drewN q11).chg (Chg.of_below (P := fun j => w10.heap.size ≤ j) hb (fun _ h => h)) (fun k _ h1 h2 => by omega))
  have HW12 := Lib.hid ((HW10.out.drewN q11).chg (Chg.of_below (P := fun j => w10.heap.size ≤ j) hb (fun _ h => h)) (fun k _ h1 h2 => by omega))
  have HB12 := Lib.hid ((below_drewN HB10.out q11).trans (hb.mono hs10))
  have HT12 := Lib.hid ho
  have hs1012 : w10.heap.size ≤ w12.heap.size := hb.size
  have hs12' : w.heap.size ≤ w12.heap.size := by omega
  clear ho hb HG10 HW10 HR10 HB10 hsz hs11
  go_wp2_with fail
  refine (implCycles A_t3 xs.length c_t3 _ xs _ HT12.out.rdI (Nat.le_refl _) hxl Hf.out hcap_t3.out).mono ?_
  rintro e w13 ⟨v, ok_h1, rfl, hok3, ho, hb⟩
  rw [← Hrx.out] at hok3 ho
  rw [← HLs.out] at ho
  obtain rfl : ok_h1 = ok_g1 := hok3.out.trans hok.out.symm
  obtain ⟨A_h0, c_h0, rfl, hcap_h0⟩ := ho.shape
  have HH13 := Lib.hid ho
  have HG13 := Lib.hid (HG12.out.chg (Chg.of_below (P := fun j => w12.heap.size ≤ j) hb (fun _ h => h)) (fun k _ h1 h2 => by omega))
  have HW13 := Lib.hid (HW12.out.chg (Chg.of_below (P := fun j => w12.heap.size ≤ j) hb (fun _ h => h)) (fun k _ h1 h2 => by omega))
  have HB13 := Lib.hid (HB12.out.trans (hb.mono hs12'))
  clear ho hb HG12 HW12 HB12 HT12
  have hne13 : (ok_h1 != ok_h1) = false := by simp
  go_wp2_with fail
  refine (eqLL_same A_h0 A_w0 _ _ c_h0 c_w0 _ _ _ _ Ls _ HH13.out HW13.out (by omega) hr3.out).mono ?_
  rintro e w14 ⟨rfl, q14, rfl⟩
  go_wp2_with fail
  refine (heldLL_any A_g0 _ c_g0 _ 1 _ Ls _ (HG13.out.drewN q14) (by omega) (by rw [← Hm.out]; omega) (by omega)).mono ?_
  rintro e w15 ⟨rfl, q15, rfl⟩
  rw [← Hm.out]
  go_wp2
  go_ret
  exact ⟨rfl, below_drewN HB13.out _⟩
end Go.Proofs.Ytgkbkbmhdhlffaa
