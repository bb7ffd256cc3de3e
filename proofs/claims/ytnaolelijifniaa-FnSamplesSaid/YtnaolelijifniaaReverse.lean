/- slices.Reverse of an owned list of int64. -/
import Derived.Test.YtnaolelijifniaaRange
import Derived.Test.YtnaolelijifniaaShapes
namespace Go.Proofs.Ytnaolelijifniaa
open Go.RowKit
/-- A list of which the first and the last k have changed places. -/
def RevMix (xs : List Int) (k : Nat) (l : List Int) : Prop := l.length = xs.length ∧ ∀ m, m < xs.length → l[m]? = if m < k ∨ xs.length - 1 - m < k then xs[xs.length - 1 - m]? else xs[m]?
theorem revMix_zero (xs : List Int) : RevMix xs 0 xs := ⟨rfl, fun m _ => by simp⟩
theorem revMix_at {xs l : List Int} {k m : Nat} (h : RevMix xs k l) (hk : 2 * k + 1 < xs.length) (hm : k ≤ m) (hm2 : m ≤ xs.length - 1 - k) : l[m]? = xs[m]? := by
  rw [h.2 m (by omega), if_neg (by omega)]
theorem revMix_step {xs l : List Int} {k : Nat} {x y : Int} (h : RevMix xs k l) (hk : 2 * k + 1 < xs.length) (hx : l[k]? = some x) (hy : l[xs.length - 1 - k]? = some y) : RevMix xs (k + 1) ((l.set k y).set (xs.length - 1 - k) x) := by
  have hx' := (revMix_at h hk (Nat.le_refl _) (by omega)).symm.trans hx
  have hy' := (revMix_at h hk (by omega) (Nat.le_refl _)).symm.trans hy
  refine ⟨by simp [h.1], fun m hm => ?_⟩
  rw [List.getElem?_set, List.getElem?_set, List.length_set]
  have hl := h.1
  by_cases h1 : xs.length - 1 - k = m
  · rw [if_pos h1, if_pos (by omega), if_pos (by omega)]
    have e : xs.length - 1 - m = k := by omega
    rw [e, hx']
  · rw [if_neg h1]
    by_cases h2 : k = m
    · subst h2
      rw [if_pos rfl, if_pos (by omega), if_pos (by omega), hy']
    · rw [if_neg h2, h.2 m hm]
      by_cases h3 : m < k ∨ xs.length - 1 - m < k
      · rw [if_pos h3, if_pos (by omega)]
      · rw [if_neg h3, if_neg (by omega)]
theorem revMix_end {xs l : List Int} {k : Nat} (h : RevMix xs k l) (hk : xs.length ≤ 2 * k + 1) : l = xs.reverse := by
  apply List.ext_getElem?
  intro m
  by_cases hm : m < xs.length
  · rw [h.2 m hm, List.getElem?_reverse hm]
    split
    · rfl
    · have e : xs.length - 1 - m = m := by omega
      rw [e]
  · have hl := h.1
    rw [List.getElem?_eq_none (by omega), List.getElem?_eq_none (by simp; omega)]
theorem reverseI_any (A : Option Addr) (n c base : Nat) (xs : List Int) (w : World) (h : Own w base 2 (.slice A n c) (i64s xs)) (hn : xs.length ≤ 100000) :
    Calls Try.prog 20 #[.slice A n c] w fun e w' => e = .returned (.tuple #[]) ∧ Own w' base 2 (.slice A n c) (i64s xs.reverse) ∧ w.grownBy w' (Value.ownBlock (.slice A n c)) := by
  have hl : n = xs.length := by have := h.rd.1; rwa [i64s_length] at this
  subst hl
  have HO0 := Lib.hid h
  clear h
  go_enter Try.func20, Try.ntmps20
  go_wp2
  go_loopw [2, 3] (fun i j wr => ∃ (k : Nat) (l : List Int), k ≤ xs.length ∧ i = .int .i64 k ∧ j = .int .i64 ((xs.length : Int) - 1 - k) ∧ Hid (RevMix xs k l) ∧ Own wr base 2 (.slice A xs.length c) (i64s l) ∧ w.grownBy wr (Value.ownBlock (.slice A xs.length c))) (fun i _ _ => xs.length - (intOf i).toNat)
  case atStart => exact ⟨0, xs, Nat.zero_le _, rfl, by simp, revMix_zero xs, HO0.out, World.grownBy.refl _ _⟩
  case round =>
    obtain ⟨k, l, hk, rfl, rfl, hmix, hO, hgr⟩ := hrel
    have HO := Lib.hid hO; have HG := Lib.hid hgr
    clear hO hgr
    by_cases hlt : (k : Int) < (xs.length : Int) - 1 - k
    · obtain ⟨m, hm⟩ : ∃ m : Nat, m = xs.length - 1 - k := ⟨_, rfl⟩
      have hmi : (xs.length : Int) - 1 - k = (m : Int) := by omega
      have hll : l.length = xs.length := hmix.out.1
      have hkl : k < l.length := by omega
      have hml : m < l.length := by omega
      obtain ⟨g, x, hA, hx, hcx, hfx⟩ := HO.out.atI (k := k) hkl
      obtain ⟨g', y, hA', hy, hcy, hfy⟩ := HO.out.atI (k := m) hml
      subst hA
      obtain rfl : g = g' := by injection hA' with e; injection e
      have hS1 := HO.out.stored rfl k y
      have hS2 := hS1.1.stored rfl m x
      have HS := Lib.hid hS2.1
      have HG2 := Lib.hid (grown_trans' (grown_trans' HG.out hS1.2) hS2.2)
      have hst := revMix_step hmix.out (by omega) hx.out (by rw [← hm]; exact hy.out)
      rw [← hm] at hst
      have HST := Lib.hid hst
      have hkm : k ≠ m := by omega
      clear hS1 hS2 hst hA' hmix
      rw [hmi] at hlt ⊢
      have hmx : m < xs.length := by omega
      have hkx : k < xs.length := by omega
      have Hmi := Lib.hid hmi
      clear hmi hm hll hkl hml
      have h1 : (0 : Int) ≤ (k : Int) := by omega
      have h2 : (k : Int) < (xs.length : Int) := by omega
      have h3 : (0 : Int) ≤ (m : Int) := by omega
      have h4 : (m : Int) < (xs.length : Int) := by omega
      go_wp2
      go_big_region
      go_wp2
      go_roundw
      case rel => exact ⟨k + 1, (l.set k y).set m x, by omega, by go_num, by have := Hmi.out; go_num, HST, HS.out, ⟨HG2.out.os, HG2.out.tape, HG2.out.output, HG2.out.size, HG2.out.block⟩⟩
      case measure => simp only [intOf]; omega
    · have e := revMix_end hmix.out (by omega)
      have E := Lib.hid e
      clear e
      go_wp2
      go_end0
      exact ⟨rfl, by rw [← E.out]; exact HO.out, HG.out⟩
end Go.Proofs.Ytnaolelijifniaa
