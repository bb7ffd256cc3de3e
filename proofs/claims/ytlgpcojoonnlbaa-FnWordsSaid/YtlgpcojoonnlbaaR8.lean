/- The small helpers of the statements with two lists of bytes: seeds, numbers out of bytes, sums. -/
import Derived.Test.YtlgpcojoonnlbaaB10
import Derived.Test.YtlgpcojoonnlbaaBump
namespace Go.Proofs.Ytlgpcojoonnlbaa
open Go.RowKit
theorem r8Seed_v (A : Option Addr) (n c B : Nat) (xs : List Int) (w : World) (h : Rd w B A n (u8s xs)) (hb : Bytes xs) (hB : B ≤ w.heap.size) :
    Calls Try.prog 5 #[.slice A n c] w fun e w' => ∃ sd : Sd, sd.ok ∧ validB sd = true ∧ e = .returned sd.val ∧ Below w.heap.size w w' := by
  have HZ := Lib.hid (SeedAt.new w 0 0 0)
  have HR := Lib.hid (h.alloc hB (.cells #[.int .i64 0, .int .u64 0, .int .u64 0] 26))
  have HB : Hid (Below w.heap.size w (w.alloc (.cells #[.int .i64 0, .int .u64 0, .int .u64 0] 26))) := (Below.refl _ _).alloc (Nat.le_refl _) _
  have hsz : (w.alloc (.cells #[.int .i64 0, .int .u64 0, .int .u64 0] 26)).heap.size = w.heap.size + 1 := size_alloc' _ _
  clear h
  go_enter Try.func5, Try.ntmps5
  go_wp2_with fail
  refine (l00From_any A n c _).mono ?_
  rintro e w2 ⟨rfl, rfl⟩
  generalize w.alloc (.cells #[.int .i64 0, .int .u64 0, .int .u64 0] 26) = w1 at HZ HR HB hsz
  have hG2 := SrcAt.new w1 A n c 0 0
  rw [hsz] at hG2
  have HG2 := Lib.hid hG2
  clear hG2
  have HZ2 := Lib.hid (HZ.out.alloc (.cells #[.slice A n c, .int .i64 0, .int .u64 0] 68))
  have HR2 := Lib.hid (HR.out.alloc (by omega) (.cells #[.slice A n c, .int .i64 0, .int .u64 0] 68))
  have HB2 := Lib.hid (HB.out.alloc (by omega) (.cells #[.slice A n c, .int .i64 0, .int .u64 0] 68))
  generalize w1.alloc (.cells #[.slice A n c, .int .i64 0, .int .u64 0] 68) = w2 at HG2 HZ2 HR2 HB2
  go_wp2_with fail
  refine (specDrawOk_v A n c B (w.heap.size + 1) xs _ HR2.out hb (by omega) HG2.out).mono ?_
  rintro e w3 ⟨sd, hsd, hvd, rfl, hb3⟩
  have Hvd := Lib.hid hvd
  clear hvd
  unfold Sd.val
  have HZ3 := Lib.hid (HZ2.out.below hb3 (by omega))
  have HB3 := Lib.hid (HB2.out.trans (hb3.mono (by omega)))
  have y0 := HZ3.out.c0
  have y1 := HZ3.out.c1
  have y2 := HZ3.out.c2
  have z0 := HZ3.out.fz 0
  have z1 := HZ3.out.fz 1
  have z2 := HZ3.out.fz 2
  go_wp2
  (try simp only [Exit.inBlock, Exit.then])
  refine bodyPost_ret (results_s1 rfl _ rfl (HZ3.out.set3 _ _ _)) rfl ?_
  exact ⟨sd, hsd, Hvd.out, rfl, below_set3 HB3.out (Nat.le_refl _) _ _ _⟩
theorem r8Long_any (A A' : Option Addr) (n c n' c' : Nat) (w : World) (h : n ≤ maxLen) (h' : n' ≤ maxLen) :
    Calls Try.prog 4 #[.slice A n c, .slice A' n' c'] w fun e w' => e = .returned (.bool (decide (48 < n ∨ 48 < n'))) ∧ w' = w := by
  unfold maxLen at h h'
  go_enter Try.func4, Try.ntmps4
  by_cases h0 : 48 < n
  · have h1 : (48 : Int) < (n : Int) := by omega
    have h2 : decide (48 < n ∨ 48 < n') = true := by simp [h0]
    rw [h2]
    go_wp2
    go_ret
    exact ⟨rfl, rfl⟩
  · have h1 : ¬ (48 : Int) < (n : Int) := by omega
    by_cases h0' : 48 < n'
    · have h1' : (48 : Int) < (n' : Int) := by omega
      have h2 : decide (48 < n ∨ 48 < n') = true := by simp [h0']
      rw [h2]
      go_wp2
      go_ret
      exact ⟨rfl, rfl⟩
    · have h1' : ¬ (48 : Int) < (n' : Int) := by omega
      have h2 : decide (48 < n ∨ 48 < n') = false := by simp [h0, h0']
      rw [h2]
      go_wp2
      go_ret
      exact ⟨rfl, rfl⟩
theorem r8At_any (A : Option Addr) (n c B : Nat) (xs : List Int) (i m : Int) (w : World) (h : Rd w B A n (u8s xs)) (hb : Bytes xs) (hn : n ≤ maxLen) (hi : 0 ≤ i ∧ i ≤ 1000000) (hm : 1 ≤ m ∧ m ≤ 1000000) :
    Calls Try.prog 6 #[.slice A n c, .int .i64 i, .int .i64 m] w fun e w' => ∃ x : Nat, e = .returned (.int .i64 x) ∧ (x : Int) < m ∧ w = w' := by
  obtain ⟨j, rfl⟩ : ∃ j : Nat, i = (j : Int) := ⟨i.toNat, by omega⟩
  unfold maxLen at hn
  go_enter Try.func6, Try.ntmps6
  by_cases h1 : m ≤ 1
  · go_wp2
    go_ret
    exact ⟨0, rfl, by omega, rfl⟩
  · have h0 : ¬ m = 0 := by omega
    by_cases hlt : j < n
    · have hlt' : (j : Int) < (n : Int) := by omega
      obtain ⟨b, off, x, rfl, hlt2, hx, hc⟩ := h.atB hb hlt
      have hm0 : 0 ≤ x % m := Int.emod_nonneg _ (by omega)
      have hm1 : x % m < m := Int.emod_lt_of_pos _ (by omega)
      go_wp2
      go_ret
      exact ⟨(x % m).toNat, ret_int (Int.toNat_of_nonneg hm0).symm, by omega, rfl⟩
    · have hlt' : ¬ (j : Int) < (n : Int) := by omega
      go_wp2
      go_ret
      exact ⟨0, rfl, by omega, rfl⟩
theorem r8Sum_any (A : Option Addr) (n c B : Nat) (xs : List Int) (w : World) (h : Rd w B A n (i64s xs)) (hn : n ≤ 1000000) (hb : bdN xs 1000000) :
    Calls Try.prog 13 #[.slice A n c] w fun e w' => e = .returned (.int .i64 (totN xs)) ∧ w = w' := by
  have hl := h.lenI
  obtain rfl : xs.length = n := hl.out
  have HR := Lib.hid h; have Hb := Lib.hid hb
  clear hl h hb
  go_enter Try.func13, Try.ntmps13
  go_wp2
  go_loop [3, 4] (fun s i => ∃ (k : Nat) (z : Int), k ≤ xs.length ∧ i = .int .i64 k ∧ s = .int .i64 z ∧ Hid (z = totN (xs.take k)) ∧ 0 ≤ z ∧ z ≤ 1000000 * (k : Int)) (fun _ i => xs.length - (intOf i).toNat)
  case atStart => exact ⟨0, 0, Nat.zero_le _, rfl, rfl, rfl, by omega, by omega⟩
  case round =>
    obtain ⟨k, z, hk, rfl, rfl, hz, hz0, hz1⟩ := hrel
    by_cases hlt : k < xs.length
    · have hlt' : (k : Int) < (xs.length : Int) := by omega
      obtain ⟨b, off, x, rfl, hbB, hx, hcx⟩ := HR.out.atI hlt
      have hxb := Hb.out k
      rw [List.getD_eq_getElem?_getD, hx.out, Option.getD_some] at hxb
      obtain ⟨hx0, hx1⟩ := hxb
      have hst : Hid (z + x = totN (xs.take (k + 1))) := by show _ = _; rw [totN_take hx.out, hz.out]
      go_wp2
      go_round
      case rel => exact ⟨k + 1, z + x, by omega, by go_num, rfl, hst, by omega, by omega⟩
      case measure => simp only [intOf]; omega
    · obtain rfl : k = xs.length := by omega
      have hfin := hz.out
      rw [List.take_length] at hfin
      have Hfin := Lib.hid hfin
      clear hfin hz
      go_wp2
      go_ret
      exact ⟨ret_int Hfin.out, rfl⟩
end Go.Proofs.Ytlgpcojoonnlbaa
