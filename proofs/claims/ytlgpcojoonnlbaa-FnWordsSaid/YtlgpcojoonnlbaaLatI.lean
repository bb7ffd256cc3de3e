/- LatticeOf: the least norm, and where it lies. -/
import Derived.Test.YtlgpcojoonnlbaaWordsP
namespace Go.Proofs.Ytlgpcojoonnlbaa
open Go.RowKit
set_option maxRecDepth 100000
theorem mul_in {a b p q : Int} (ha : 0 ≤ a ∧ a ≤ p) (hb : 0 ≤ b ∧ b ≤ q) : 0 ≤ a * b ∧ a * b ≤ p * q := ⟨Int.mul_nonneg ha.1 hb.1, Int.mul_le_mul ha.2 hb.2 hb.1 (by omega)⟩
set_option maxHeartbeats 4000000 in
theorem implLat_p (m a : Int) (w : World) (hm : 1 ≤ m ∧ m ≤ 1000) (ha : 0 ≤ a ∧ a ≤ m - 1) :
    Calls Try.prog 18 #[.int .i64 m, .int .i64 a] w fun e w' => ∃ n b, e = .returned (.tuple #[.int .i64 n, .int .i64 b, .bool true]) ∧ w = w' ∧
      1 ≤ n ∧ n ≤ m * m ∧ 0 ≤ b ∧ b * b ≤ n ∧ (∀ u : Int, 1 ≤ u → n ≤ latN m a u) ∧ ((n = m * m ∧ b = 0) ∨ (1 ≤ b ∧ n = latN m a b)) := by
  obtain ⟨hmm0, hmm1⟩ := mul_in (a := m) (b := m) (p := 1000) (q := 1000) (by omega) (by omega)
  go_enter Try.func18, Try.ntmps18
  go_wp2_with (go_at_call 22; refine (within_any _ _ _ _).mono ?_; rintro e w' ⟨rfl, rfl⟩; rw [inB_mk (by omega)])
  go_loop [7, 8, 9] (fun l b v => ∃ k least best : Int, 1 ≤ k ∧ k ≤ m + 1 ∧ v = .int .i64 k ∧ l = .int .i64 least ∧ b = .int .i64 best ∧ 0 ≤ least ∧ least ≤ m * m ∧ Hid (latK m a k least best)) (fun _ _ v => (m + 2 - intOf v).toNat)
  case atStart => exact ⟨1, m * m, 0, by omega, by omega, rfl, rfl, rfl, hmm0, Int.le_refl _, latK_zero m a⟩
  case round =>
    obtain ⟨k, least, best, hk1, hk2, rfl, rfl, rfl, hl0, hl1, hK⟩ := hrel
    obtain ⟨hkk0, hkk1⟩ := mul_in (a := k) (b := k) (p := 1001) (q := 1001) (by omega) (by omega)
    by_cases hle : k * k ≤ least
    · have hkm : k ≤ m := by
        rcases Int.lt_or_le m k with g | g
        · have := sq_mono (x := m + 1) (y := k) (by omega) (by omega)
          have e : (m + 1) * (m + 1) = m * m + 2 * m + 1 := by rw [Int.add_mul, Int.mul_add]; omega
          omega
        · exact g
      obtain ⟨hak0, hak1⟩ := mul_in (a := a) (b := k) (p := 1000) (q := 1000) (by omega) (by omega)
      obtain ⟨r, hr⟩ : ∃ r, a * k % m = r := ⟨_, rfl⟩
      have hr0 : 0 ≤ r ∧ r < m := by rw [← hr]; exact ⟨Int.emod_nonneg _ (by omega), Int.emod_lt_of_pos _ (by omega)⟩
      obtain ⟨u, hu⟩ : ∃ u, (if m - r < r then m - r else r) = u := ⟨_, rfl⟩
      have hu0 : 0 ≤ u ∧ u ≤ 1000 := by rw [← hu]; split <;> omega
      have hN : Hid (latN m a k = u * u + k * k) := by
        show _ = _
        have e : latU m a k = u := by
          unfold latU
          rw [hr, ← hu]
          by_cases c : r ≤ m - r
          · rw [if_pos c, if_neg (by omega)]
          · rw [if_neg c, if_pos (by omega)]
        rw [latN, e]
      obtain ⟨huu0, huu1⟩ := mul_in (a := u) (b := u) (p := 1000) (q := 1000) hu0 hu0
      have hst := latK_step hK.out hk1
      rw [hN.out] at hst
      obtain ⟨z, hz⟩ : ∃ z, u * u + k * k = z := ⟨_, rfl⟩
      rw [hz] at hst
      have hz0 : 0 ≤ z := by omega
      by_cases hc : z < least
      · rw [if_pos hc, if_pos hc] at hst
        have Hst := Lib.hid hst
        clear hst hN hK
        go_wp2
        go_round
        case rel => exact ⟨k + 1, z, k, by omega, by omega, rfl, rfl, rfl, hz0, by omega, Hst⟩
        case measure => simp only [intOf]; omega
      · rw [if_neg hc, if_neg hc] at hst
        have Hst := Lib.hid hst
        clear hst hN hK
        go_wp2
        go_round
        case rel => exact ⟨k + 1, least, best, by omega, by omega, rfl, rfl, rfl, hl0, hl1, Hst⟩
        case measure => simp only [intOf]; omega
    · have hend := Lib.hid (latK_end hK.out (by omega) hk1 (by omega))
      go_wp2
      go_ret3
      obtain ⟨g1, g2, g3, g4, g5, g6⟩ := hend.out
      exact ⟨least, best, rfl, rfl, g1, g2, g3, g4, g5, g6⟩
end Go.Proofs.Ytlgpcojoonnlbaa
