/- The seeds that the statements draw, and their small helpers. -/
import Derived.Test.YtijafnejdibdlaaGreatDoorSrc
import Derived.Test.YtijafnejdibdlaaGreatDoorTried
import Derived.Test.YtijafnejdibdlaaGreatDoorMixV
namespace Go.Proofs.YtijafnejdibdlaaGreatDoor
open Go.RowKit
theorem srcPick_any (A : Option Addr) (n c B g : Nat) (xs : List Int) (k s m : Int) (w : World) (h : Rd w B A n (u8s xs)) (hb : Bytes xs) (hB : B ≤ g) (hg : SrcAt w g A n c k s) (hk : 0 ≤ k ∧ k ≤ 999000) (hs : 0 ≤ s ∧ s < 18446744073709551616) (hm : 2 ≤ m ∧ m ≤ 1000000000000) :
    Calls Tryz.prog 28 #[.pointer (some ⟨g, 0, none⟩), .int .i64 m] w fun e w' => ∃ x s' k', e = .returned (.int .i64 x) ∧ (0 ≤ x ∧ x < m) ∧ SrcAt w' g A n c k' s' ∧ (k ≤ k' ∧ k' ≤ k + 2) ∧ (0 ≤ s' ∧ s' < 18446744073709551616) ∧ w.grownBy w' (some g) := by
  have hnm : ¬ m ≤ 1 := by omega
  have hm0 : ¬ m = 0 := by omega
  have HR := Lib.hid h
  have HG := Lib.hid hg
  clear h hg
  go_enter Tryz.func28, Tryz.ntmps28
  go_wp2_with fail
  refine (srcNext_any A n c B g xs k s _ HR.out hb hB HG.out (by omega) hs).mono ?_
  rintro e w1 ⟨x, s1, rfl, hx, hg1, hs1, hgr1⟩
  have HG1 := Lib.hid hg1
  have HR1 := Lib.hid (HR.out.grown hgr1 (by have := HG.out.lt; omega) (fun g' e => by cases e; exact hB))
  have HGR := Lib.hid hgr1
  clear hg1 hgr1
  by_cases hbig : 200 < m
  · go_wp2_with fail
    refine (srcNext_any A n c B g xs (k + 1) s1 _ HR1.out hb hB HG1.out (by omega) hs1).mono ?_
    rintro e w2 ⟨y, s2, rfl, hy, hg2, hs2, hgr2⟩
    have HG2 := Lib.hid hg2
    have HGR2 := Lib.hid (grown_trans HGR.out hgr2)
    clear hg2 hgr2
    have h0 : 0 ≤ (x * 256 + y) % m := Int.emod_nonneg _ (by omega)
    have h1 : (x * 256 + y) % m < m := Int.emod_lt_of_pos _ (by omega)
    have e1 : (x * 256 + y).tmod m = (x * 256 + y) % m := Int.tmod_eq_emod_of_nonneg (by omega)
    go_wp2
    go_ret
    refine ⟨_, s2, k + 1 + 1, rfl, ?_, HG2.out, by omega, hs2, HGR2.out⟩
    first | exact ⟨h0, h1⟩ | (rw [e1]; exact ⟨h0, h1⟩)
  · have h0 : 0 ≤ x % m := Int.emod_nonneg _ (by omega)
    have h1 : x % m < m := Int.emod_lt_of_pos _ (by omega)
    have e1 : x.tmod m = x % m := Int.tmod_eq_emod_of_nonneg (by omega)
    go_wp2
    go_ret
    refine ⟨_, s1, k + 1, rfl, ?_, HG1.out, by omega, hs1, HGR.out⟩
    first | exact ⟨h0, h1⟩ | (rw [e1]; exact ⟨h0, h1⟩)
theorem l00From_any (A : Option Addr) (n c : Nat) (w : World) :
    Calls Tryz.prog 27 #[.slice A n c] w fun e w' => e = .returned (.pointer (some ⟨w.heap.size, 0, none⟩)) ∧ w' = w.alloc (.cells #[.slice A n c, .int .i64 0, .int .u64 0] 76) := by
  go_enter Tryz.func27, Tryz.ntmps27
  go_wp2
  go_ret
  exact ⟨rfl, rfl⟩
theorem b10Long_any (A A' : Option Addr) (n c n' c' : Nat) (w : World) (h : n ≤ maxLen) (h' : n' ≤ maxLen) :
    Calls Tryz.prog 4 #[.slice A n c, .slice A' n' c'] w fun e w' => e = .returned (.bool (decide (1048576 < n ∨ 1048576 < n'))) ∧ w' = w := by
  unfold maxLen at h h'
  go_enter Tryz.func4, Tryz.ntmps4
  by_cases h0 : 1048576 < n
  · have h1 : (1048576 : Int) < (n : Int) := by omega
    have h2 : decide (1048576 < n ∨ 1048576 < n') = true := by simp [h0]
    rw [h2]
    go_wp2
    go_ret
    exact ⟨rfl, rfl⟩
  · have h1 : ¬ (1048576 : Int) < (n : Int) := by omega
    by_cases h0' : 1048576 < n'
    · have h1' : (1048576 : Int) < (n' : Int) := by omega
      have h2 : decide (1048576 < n ∨ 1048576 < n') = true := by simp [h0']
      rw [h2]
      go_wp2
      go_ret
      exact ⟨rfl, rfl⟩
    · have h1' : ¬ (1048576 : Int) < (n' : Int) := by omega
      have h2 : decide (1048576 < n ∨ 1048576 < n') = false := by simp [h0, h0']
      rw [h2]
      go_wp2
      go_ret
      exact ⟨rfl, rfl⟩
theorem b10At_any (A : Option Addr) (n c B : Nat) (xs : List Int) (i m : Int) (w : World) (h : Rd w B A n (u8s xs)) (hb : Bytes xs) (hi : 0 ≤ i ∧ i ≤ 1000000) (hm : 1 ≤ m ∧ m ≤ 1000000) :
    Calls Tryz.prog 15 #[.slice A n c, .int .i64 i, .int .i64 m] w fun e w' => ∃ x, e = .returned (.int .i64 x) ∧ (0 ≤ x ∧ x < m) ∧ ∃ q, w' = w.drewN q := by
  obtain ⟨j, rfl⟩ : ∃ j : Nat, i = (j : Int) := ⟨i.toNat, by omega⟩
  go_enter Tryz.func15, Tryz.ntmps15
  by_cases h1 : m ≤ 1
  · go_wp2
    go_ret
    exact ⟨0, rfl, by omega, 0, rfl⟩
  · have h0 : ¬ m = 0 := by omega
    by_cases hlt : j < n
    · have hlt' : (j : Int) < (n : Int) := by omega
      obtain ⟨b, off, x, rfl, hlt2, hx, hc⟩ := h.atB hb hlt
      have hm0 : 0 ≤ x % m := Int.emod_nonneg _ (by omega)
      have hm1 : x % m < m := Int.emod_lt_of_pos _ (by omega)
      go_wp2
      go_ret
      exact ⟨x % m, rfl, ⟨hm0, hm1⟩, 0, rfl⟩
    · have hlt' : ¬ (j : Int) < (n : Int) := by omega
      have hm0 : 0 ≤ ((j : Int) * 37 + 11) % m := Int.emod_nonneg _ (by omega)
      have hm1 : ((j : Int) * 37 + 11) % m < m := Int.emod_lt_of_pos _ (by omega)
      go_wp2
      go_ret
      exact ⟨((j : Int) * 37 + 11) % m, rfl, ⟨hm0, hm1⟩, 0, rfl⟩
end Go.Proofs.YtijafnejdibdlaaGreatDoor
