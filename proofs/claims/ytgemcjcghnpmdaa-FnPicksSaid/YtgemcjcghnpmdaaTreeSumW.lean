/- 'TreeSum' of the program and of the reference. -/
import Derived.Test.YtgemcjcghnpmdaaTreeSum
namespace Go.Proofs.Ytgemcjcghnpmdaa
open Go.RowKit

theorem treeLeaves_some {xs ws : List Int} (h : treeLeaves xs = some ws) : ws.length = xs.length ∧ areW ws = true := by
  unfold treeLeaves at h
  split at h
  · rename_i h1
    injection h with h
    subst h
    exact ⟨leavesW_len _ _, h1.2⟩
  · cases h
theorem areW_parts {ws : List Int} (h : areW ws = true) : 1 ≤ ws.length ∧ ws.length ≤ 64 ∧ allW ws = true := by
  have h' : inB ws.length 1 64 = true ∧ allW ws = true := by simpa [areW] using h
  have := inB_true h'.1
  exact ⟨by omega, by omega, h'.2⟩
/-- The sum of the first i weights of a tree. -/
def treeSum (xs : List Int) (i : Int) : Option Int :=
  match treeLeaves xs with
  | some ws => if inB i 0 xs.length = true then some (sumI (seg ws 0 i.toNat)) else none
  | none => none

set_option maxHeartbeats 1000000 in
theorem l03First_any (A : Option Addr) (n c B m : Nat) (ws : List Int) (w : World) (h : Rd w B A n (i64s ws)) (hn : ws.length ≤ 64) (hall : allW ws = true) (hm : m ≤ ws.length) :
    Calls Try.prog 53 #[.slice A n c, .int .i64 m] w fun e w' => e = .returned (.int .i64 (sumI (seg ws 0 m))) ∧ w = w' := by
  have hl := h.lenI
  obtain rfl : ws.length = n := hl.out
  clear hl
  have Hall := Lib.hid hall; clear hall
  go_enter Try.func53, Try.ntmps53
  go_wp2
  go_loop [5, 6] (fun s i => ∃ (j : Nat) (q : Int), j ≤ m ∧ i = .int .i64 j ∧ s = .int .i64 q ∧ Hid (q = sumI (seg ws 0 j)) ∧ 0 ≤ q ∧ q ≤ 64000000) (fun _ i => m - (intOf i).toNat)
  case atStart => exact ⟨0, 0, by omega, rfl, rfl, rfl, by omega, by omega⟩
  case round =>
    obtain ⟨j, q, hj, rfl, rfl, hq, hq0, hq1⟩ := hrel
    by_cases hjl : j < m
    · obtain ⟨b, off, x, rfl, hbB, hx, hc⟩ := h.atI (k := j) (by omega)
      have hq' : q + x = sumI (seg ws 0 (j + 1)) := by rw [seg_succ hx.out (by omega), sumI_snoc, hq.out]
      have hbd := seg_bd ws 0 (j + 1) Hall.out 64 (by omega)
      rw [← hq'] at hbd
      have Hq' := Lib.hid hq'
      have hx0 : -64000000 ≤ x ∧ x ≤ 64000000 := by omega
      have hjl' : (j : Int) < (ws.length : Int) := by omega
      clear hq' h
      go_wp2
      go_round
      case rel => exact ⟨j + 1, q + x, by omega, by go_num, rfl, Hq', by omega, by omega⟩
      case measure => simp only [intOf]; omega
    · obtain rfl : j = m := by omega
      go_wp2
      go_ret
      exact ⟨ret_int hq.out, rfl⟩

set_option maxHeartbeats 1000000 in
theorem implTreeSum : FnLN_NB 22 treeSum := by
  intro A n c B xs i w h hB hn hf hcap hi
  have hl := h.lenI
  obtain rfl : xs.length = n := hl.out
  clear hl
  cases hr : treeLeaves xs with
  | none =>
    have hno : Hid (treeSum xs i = none) := by show _ = _; unfold treeSum; rw [hr]
    go_enter Try.func22, Try.ntmps22
    go_wp2_with fail
    refine (weightsOf_any A xs.length c B xs _ h hB hn).mono ?_
    rw [hr]
    rintro e w2 ⟨v, ok, ws, rfl, hok, -, ho, hb⟩
    obtain rfl : ok = false := hok.out
    have HB := Lib.hid hb
    clear hr ho hb hok
    go_wp2
    go_ret2
    exact ⟨_, _, rfl, by rw [hno.out]; rfl, by rw [hno.out]; rfl, HB.out⟩
  | some ws =>
    obtain ⟨hwl, hwa⟩ := treeLeaves_some hr
    obtain ⟨h1, h64, hall⟩ := areW_parts hwa
    have hsum : Hid (treeSum xs i = if inB i 0 xs.length = true then some (sumI (seg ws 0 i.toNat)) else none) := by show _ = _; unfold treeSum; rw [hr]
    have Hall := Lib.hid hall; have Hwl := Lib.hid hwl
    have h64' : xs.length ≤ 64 := by omega
    clear hwa hall hwl
    go_enter Try.func22, Try.ntmps22
    go_wp2_with fail
    refine (weightsOf_any A xs.length c B xs _ h hB hn).mono ?_
    rw [hr]
    rintro e w2 ⟨v, ok, ws', rfl, hok, hws, ho, hb⟩
    obtain rfl : ok = true := hok.out
    obtain rfl : ws' = ws := by have := hws.out rfl; injection this
    obtain ⟨A2, c2, rfl, hc2⟩ := ho.shapeI
    have hrd := ho.rdI
    have HB := Lib.hid hb; have HRD := Lib.hid hrd
    clear hr ho hb hok hrd hws
    by_cases hin : inB i 0 xs.length = true
    · have hbd := inB_true hin
      obtain ⟨m, rfl⟩ := Int.eq_ofNat_of_zero_le hbd.1
      have hmw : m ≤ ws'.length := by have := Hwl.out; omega
      have hin2 : inB (m : Int) 0 ws'.length = true := by rw [Hwl.out]; exact hin
      have hyes : Hid (treeSum xs m = some (sumI (seg ws' 0 m))) := by show _ = _; rw [hsum.out, if_pos hin]; rfl
      clear hin
      go_wp2_with fail
      refine (within_any _ _ _ _).mono ?_
      rintro e w3 ⟨rfl, rfl⟩
      rw [hin2]
      obtain ⟨hc21, hc22⟩ := hc2.out
      unfold maxLen at hc22
      have hmc : (m : Int) ≤ (c2 : Int) := by omega
      clear hin2
      go_wp2
      go_loop [8, 29] (fun s i => ∃ (j : Nat) (q : Int), j ≤ m ∧ i = .int .i64 j ∧ s = .int .i64 q ∧ Hid (q = sumI (seg ws' 0 j)) ∧ 0 ≤ q ∧ q ≤ 64000000) (fun _ i => m - (intOf i).toNat)
      case atStart => exact ⟨0, 0, by omega, rfl, rfl, rfl, by omega, by omega⟩
      case round =>
        obtain ⟨j, q, hj, rfl, rfl, hq, hq0, hq1⟩ := hrel
        by_cases hjl : j < m
        · obtain ⟨b, off, x, rfl, hbB, hx, hc⟩ := HRD.out.atI (k := j) (by omega)
          have hq' : q + x = sumI (seg ws' 0 (j + 1)) := by rw [seg_succ hx.out (by omega), sumI_snoc, hq.out]
          have hbd := seg_bd ws' 0 (j + 1) Hall.out 64 (by omega)
          rw [← hq'] at hbd
          have Hq' := Lib.hid hq'
          have hx0 : -64000000 ≤ x ∧ x ≤ 64000000 := by omega
          have hjl' : (j : Int) < (m : Int) := by omega
          clear hq' h
          go_wp2
          go_round
          case rel => exact ⟨j + 1, q + x, by omega, by go_num, rfl, Hq', by omega, by omega⟩
          case measure => simp only [intOf]; omega
        · obtain rfl : j = m := by omega
          go_wp2
          go_ret2
          exact ⟨_, _, rfl, by rw [hyes.out]; rfl, by rw [hyes.out]; exact hq.out, HB.out⟩
    · have hin' : inB i 0 ws'.length = false := by rw [Hwl.out]; simpa using hin
      have hno : Hid (treeSum xs i = none) := by show _ = _; rw [hsum.out, if_neg hin]
      clear hin
      go_wp2_with fail
      refine (within_any _ _ _ _).mono ?_
      rintro e w3 ⟨rfl, rfl⟩
      rw [hin']
      go_wp2
      go_ret2
      exact ⟨_, _, rfl, by rw [hno.out]; rfl, by rw [hno.out]; rfl, HB.out⟩
end Go.Proofs.Ytgemcjcghnpmdaa
