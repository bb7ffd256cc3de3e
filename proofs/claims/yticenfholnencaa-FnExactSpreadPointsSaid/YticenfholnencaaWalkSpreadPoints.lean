/- The walk of the statement FnExactSpreadPoints, whole. -/
import Derived.Test.YticenfholnencaaSpread
namespace Go.Proofs.Yticenfholnencaa
open Go.RowKit
theorem spread_len {f c : Int} {xs : List (Nat × Nat)} (h : xs.map cn2 = (spread f c).getD []) : xs.length ≤ 256 := by
  have := congrArg List.length h
  rw [List.length_map] at this
  rw [this]
  unfold spread
  split
  · rename_i hc
    simp only [Bool.and_eq_true] at hc
    have := inB_true hc.2
    simp only [Option.getD_some, spreadL_len]
    omega
  · simp
set_option maxRecDepth 100000 in
set_option maxHeartbeats 4000000 in
theorem walk_SpreadPoints (w : World) (n_f : Int) (hf : -9223372036854775808 ≤ n_f ∧ n_f ≤ 9223372036854775807) (n_c : Int) (hc : -9223372036854775808 ≤ n_c ∧ n_c ≤ 9223372036854775807) :
    Calls Try.prog 4 #[.int .i64 n_f, .int .i64 n_c] w fun e w' => e = .returned (.bool true) ∧ Below w.heap.size w w' := by
  have Hf := Lib.hid hf; have Hc := Lib.hid hc
  clear hf hc
  go_enter Try.func4, Try.ntmps4
  go_wp2_with fail
  refine (specSpread n_f n_c _ Hf.out Hc.out).mono ?_
  rintro e w1 ⟨v, ok, xs, rfl, hok, hxs, ho, hb⟩
  obtain ⟨A1, c1, rfl, hcap1⟩ := ho.shapeC
  have HO1 := Lib.hid ho; have HB1 := Lib.hid hb
  have hs1 := hb.size
  have hl1 := spread_len hxs.out
  clear ho hb hcap1
  go_wp2_with fail
  refine (implSpread n_f n_c _ Hf.out Hc.out).mono ?_
  rintro e w2 ⟨v, ok2, ys, rfl, hok2, hys, ho, hb⟩
  obtain rfl : ok = ok2 := hok.out.trans hok2.out.symm
  obtain ⟨A2, c2, rfl, hcap2⟩ := ho.shapeC
  have hap := HO1.out.apart ho (Nat.le_refl _)
  have Hap := Lib.hid hap
  have HO2 := Lib.hid (ho.base_le hs1)
  have HX2 := Lib.hid (HO1.out.below hb (Nat.le_refl _))
  have HB2 := Lib.hid (HB1.out.trans (hb.mono hs1))
  have hs2 := HB2.out.size
  have hl2 := spread_len hys.out
  have hne1 : (ok != ok) = false := by simp
  clear ho hb hcap2 HO1 HB1 hap
  go_wp2_with fail
  refine (eqC_same A2 A1 ys.length xs.length c2 c1 _ ys xs _ HO2.out.rdC HX2.out.rdC (by unfold maxLen; omega) (hys.out.trans hxs.out.symm)).mono ?_
  rintro e w3 ⟨rfl, hb⟩
  have HO3 := Lib.hid (HO2.out.below hb (Nat.le_refl _))
  have HX3 := Lib.hid (HX2.out.below hb (Nat.le_refl _))
  have HB3 := Lib.hid (HB2.out.trans (hb.mono hs2))
  have hs3 := HB3.out.size
  clear hb HO2 HX2 HB2
  go_wp2_with fail
  refine (markC_any A2 ys.length c2 _ 1 ys _ HO3.out (by omega)).mono ?_
  rintro e w4 ⟨rfl, ho, hg⟩
  have HO4 := Lib.hid ho
  have HX4 := Lib.hid (HX3.out.grown hg Hap.out)
  have HB4 := Lib.hid (below_ownGrown HB3.out HO3.out hg (Nat.le_refl _) (Nat.le_refl _))
  have hs4 := HB4.out.size
  clear ho hg HO3 HX3 HB3
  go_wp2_with fail
  have hrd := HO4.out.rdC
  rw [marksC_len] at hrd
  refine (heldC_any A2 ys.length c2 _ 1 _ hrd (by omega)).mono ?_
  clear hrd
  rintro e w5 ⟨rfl, q5, rfl⟩
  have HO5 := Lib.hid (HO4.out.drewN q5)
  have HX5 := Lib.hid (HX4.out.drewN q5)
  have HB5 := Lib.hid (below_drewN HB4.out q5)
  have hs5 : w.heap.size ≤ (w4.drewN q5).heap.size := hs4
  have hge1 : ¬ ((1 + ys.length : Nat) : Int) < 0 := by omega
  have hnq1 : (((1 + ys.length : Nat) : Int) != ((1 + ys.length : Nat) : Int)) = false := by simp
  clear HO4 HX4 HB4
  go_wp2_with fail
  refine (implSpread n_f n_c _ Hf.out Hc.out).mono ?_
  rintro e w6 ⟨v, ok3, zs, rfl, hok3, hzs, ho, hb⟩
  obtain rfl : ok = ok3 := hok.out.trans hok3.out.symm
  obtain ⟨A3, c3, rfl, hcap3⟩ := ho.shapeC
  have HZ6 := Lib.hid ho.rdC
  have HO6 := Lib.hid (HO5.out.below hb (Nat.le_refl _))
  have HX6 := Lib.hid (HX5.out.below hb (Nat.le_refl _))
  have HB6 := Lib.hid (HB5.out.trans (hb.mono hs5))
  have hs6 := HB6.out.size
  have hl3 := spread_len hzs.out
  clear ho hb hcap3 HO5 HX5 HB5
  go_wp2_with fail
  refine (eqC_same A3 A1 zs.length xs.length c3 c1 _ zs xs _ HZ6.out HX6.out.rdC (by unfold maxLen; omega) (hzs.out.trans hxs.out.symm)).mono ?_
  rintro e w7 ⟨rfl, hb⟩
  have HO7 := Lib.hid (HO6.out.below hb (Nat.le_refl _))
  have HB7 := Lib.hid (HB6.out.trans (hb.mono hs6))
  clear hb HO6 HX6 HB6 HZ6
  go_wp2_with fail
  have hrd := HO7.out.rdC
  rw [marksC_len] at hrd
  refine (heldC_any A2 ys.length c2 _ 1 _ hrd (by omega)).mono ?_
  clear hrd
  rintro e w8 ⟨rfl, q8, rfl⟩
  have HB8 := Lib.hid (below_drewN HB7.out q8)
  clear HO7 HB7
  go_wp2
  go_ret
  exact ⟨rfl, HB8.out⟩
end Go.Proofs.Yticenfholnencaa
