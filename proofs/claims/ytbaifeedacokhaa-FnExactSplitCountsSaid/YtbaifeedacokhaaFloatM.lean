/- Lists of float32: marks. -/
import Derived.Test.YtbaifeedacokhaaFloats
import Derived.Test.YtbaifeedacokhaaInts
namespace Go.Proofs.Ytbaifeedacokhaa
open Go.RowKit
set_option maxRecDepth 100000
attribute [local go_sem] run_store_float'
/-- The marks that 'markFloat32S' lays. -/
def marksF (k n : Nat) : List Nat := (List.range n).map fun i => floatOfInt .f32 ((k + i : Nat) : Int)
theorem marksF_len (k n : Nat) : (marksF k n).length = n := by simp [marksF]
theorem marksF_get (k n i : Nat) (h : i < n) : (marksF k n)[i]? = some (floatOfInt .f32 ((k + i : Nat) : Int)) := by simp [marksF, h]
theorem ofInt_num (n : Int) : isNaNB .f32 (floatOfInt .f32 n) = false := write_not_nan Ieee.single (.number (n < 0) n.natAbs 0) rfl
theorem markF_any (A : Option Addr) (n c base k0 : Nat) (xs : List Nat) (w : World) (h : Own w base 45 (.slice A n c) (f32s xs)) (hn : n ≤ 2000000) (hk0 : k0 ≤ 2000000) :
    Calls Try.prog 11 #[.slice A n c, .int .i64 k0] w fun e w' => e = .returned (.int .i64 ((k0 + n : Nat) : Int)) ∧ Own w' base 45 (.slice A n c) (f32s (marksF k0 n)) ∧ w.grownBy w' (Value.ownBlock (.slice A n c)) := by
  have hl : n = xs.length := by have := h.rd.1; rwa [f32s_length] at this
  have hown : w.ownsRow base 45 1 (.slice A n c) n (f32s xs) := by unfold Own at h; rwa [f32s_length, ← hl] at h
  clear h
  have Hl := Lib.hid hl; clear hl
  go_enter Try.func11, Try.ntmps11
  go_wp2
  go_loopw [1, 5] (fun q i wr => ∃ k : Nat, k ≤ n ∧ i = .int .i64 k ∧ q = .int .i64 ((k0 + k : Nat) : Int) ∧ wr.ownsRow base 45 1 (.slice A n c) n (f32s ((marksF k0 n).take k ++ xs.drop k)) ∧ w.grownBy wr (Value.ownBlock (.slice A n c))) (fun _ i _ => n - (intOf i).toNat)
  case atStart => exact ⟨0, Nat.zero_le _, rfl, rfl, by simpa using hown, World.grownBy.refl _ _⟩
  case round =>
    obtain ⟨k, hk, rfl, rfl, hown, hgr⟩ := hrel
    by_cases hlt : k < n
    · have hlx : k < xs.length := by rw [← Hl.out]; exact hlt
      obtain ⟨g, cap, hA⟩ : ∃ g cap, (A = some ⟨g, 0, none⟩ ∧ c = cap) := by
        rcases hown.2 with ⟨_, h0⟩ | ⟨g, cap, cur, hv, _⟩
        · omega
        · simp only [Value.slice.injEq] at hv; exact ⟨g, cap, hv.1, hv.2.2⟩
      obtain ⟨rfl, rfl⟩ := hA
      have hu : (f32s ((marksF k0 n).take k ++ xs.drop k))[k]? = some (.float .f32 (xs[k]'hlx)) := by
        rw [f32s, List.getElem?_map, List.getElem?_append_right (by simp [marksF_len]; omega)]
        simp [marksF_len, show min k n = k by omega, hlx]
      have hc2 := (hown.cellAt k (by omega)).trans hu
      obtain ⟨u, hu'⟩ : ∃ u, u = Value.float .f32 (xs[k]'hlx) := ⟨_, rfl⟩
      rw [← hu'] at hc2
      clear hu hu'
      have hf2 := hown.frozenAt k
      have HO := Lib.hid hown; have HG := Lib.hid hgr
      clear hown hgr
      go_wp2
      go_roundw
      case rel =>
        have hs := HO.out.stored k (.float .f32 (floatOfInt .f32 ((k0 + k : Nat) : Int)))
        refine ⟨k + 1, by omega, by go_num, by go_num, ?_, grown_trans' HG.out (by simpa [Value.ownBlock] using hs.2)⟩
        have e : (f32s ((marksF k0 n).take k ++ xs.drop k)).set k (.float .f32 (floatOfInt .f32 ((k0 + k : Nat) : Int))) = f32s ((marksF k0 n).take (k + 1) ++ xs.drop (k + 1)) := by
          rw [take_succ_of (marksF_get k0 n k hlt), List.drop_eq_getElem_cons hlx]
          simp only [f32s, List.map_append, List.map_cons, List.append_assoc, List.cons_append, List.nil_append]
          rw [set_append_here _ _ _ _ _ (by simp [marksF_len]; omega)]
        rw [e] at hs
        exact hs.1
      case measure => simp [intOf]; omega
    · obtain rfl : k = n := by omega
      have HO := Lib.hid hown; have HG := Lib.hid hgr
      clear hown hgr
      go_wp2
      go_ret
      refine ⟨rfl, ?_, HG.out⟩
      have := HO.out
      rw [List.take_of_length_le (by rw [marksF_len]; exact Nat.le_refl _), List.drop_eq_nil_of_le (by rw [← Hl.out]; exact Nat.le_refl _), List.append_nil] at this
      unfold Own
      rw [f32s_length, marksF_len]
      exact this
theorem heldF_any (A : Option Addr) (n c B k0 : Nat) (w : World) (h : Rd w B A n (f32s (marksF k0 n))) (hn : n ≤ 2000000) (hk0 : k0 ≤ 2000000) :
    Calls Try.prog 31 #[.slice A n c, .int .i64 k0] w fun e w' => e = .returned (.int .i64 ((k0 + n : Nat) : Int)) ∧ ∃ q, w' = w.drewN q := by
  go_enter Try.func31, Try.ntmps31
  go_wp2
  go_loopw [1, 5] (fun q i wr => ∃ k d : Nat, k ≤ n ∧ i = .int .i64 k ∧ q = .int .i64 ((k0 + k : Nat) : Int) ∧ wr = w.drewN d) (fun _ i _ => n - (intOf i).toNat)
  case atStart => exact ⟨0, 0, Nat.zero_le _, rfl, rfl, rfl⟩
  case round =>
    obtain ⟨k, d, hk, rfl, rfl, rfl⟩ := hrel
    by_cases hlt : k < n
    · obtain ⟨b, off, x, rfl, hbB, hx, hc⟩ := h.atF hlt
      have hx' := hx.out
      rw [marksF_get k0 n k hlt] at hx'
      obtain rfl : floatOfInt .f32 ((k0 + k : Nat) : Int) = x := by injection hx'
      have hb2 : (FloatKind.f32.format.order (floatOfInt .f32 ((k0 + k : Nat) : Int)) (floatOfInt .f32 ((k0 + k : Nat) : Int)) != some .eq) = false := by rw [order_self (ofInt_num _)]; rfl
      have hb3 : (FloatKind.f32.format.order (floatOfInt .f32 ((k0 : Int) + (k : Int))) (floatOfInt .f32 ((k0 : Int) + (k : Int))) != some .eq) = false := by rw [order_self (ofInt_num _)]; rfl
      clear h hx' hx
      go_wp2
      go_roundw
      case rel => exact ⟨k + 1, d, by omega, by go_num, by go_num, rfl⟩
      case measure => simp [intOf]; omega
    · obtain rfl : k = n := by omega
      clear h
      go_wp2
      go_ret
      exact ⟨rfl, d, rfl⟩
theorem heldF_b (A : Option Addr) (n c B k0 : Nat) (w : World) (h : Rd w B A n (f32s (marksF k0 n))) (hn : n ≤ 2000000) (hk0 : k0 ≤ 2000000) :
    Calls Try.prog 31 #[.slice A n c, .int .i64 k0] w fun e w' => e = .returned (.int .i64 ((k0 + n : Nat) : Int)) ∧ Below w.heap.size w w' :=
  (heldF_any A n c B k0 w h hn hk0).mono fun _ _ ⟨he, q, hq⟩ => ⟨he, by rw [hq]; exact below_drewN' q⟩
end Go.Proofs.Ytbaifeedacokhaa
