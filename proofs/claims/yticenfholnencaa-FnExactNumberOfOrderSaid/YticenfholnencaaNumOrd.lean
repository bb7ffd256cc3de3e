/- The number of an order. -/
import Derived.Test.YticenfholnencaaCode
namespace Go.Proofs.Yticenfholnencaa
open Go.RowKit
/-- The number that the first i numbers of the code make. -/
def numTo (xs : List Int) : Nat → Int
  | 0 => 0
  | i + 1 => wrap64 (wrap64 (numTo xs i * ((xs.length : Int) - (i : Int))) + (codeL xs).getD i 0)
def numOrd (xs : List Int) : Option Int := if orderB xs && decide (xs.length ≤ 20) then some (numTo xs xs.length) else none
theorem numOrd_no {xs : List Int} (h : orderB xs = false) : numOrd xs = none := by simp [numOrd, h]
theorem numOrd_big {xs : List Int} (h : ¬ xs.length ≤ 20) : numOrd xs = none := by simp [numOrd, h]
theorem numOrd_yes {xs : List Int} (h : orderB xs = true) (h2 : xs.length ≤ 20) : numOrd xs = some (numTo xs xs.length) := by simp [numOrd, h, h2]
set_option maxHeartbeats 1000000 in
theorem implNumOrd : FnL_NB 45 numOrd := by
  intro A n c B xs w h hB hn hf hcap
  have hl := h.lenI
  obtain rfl : xs.length = n := hl.out
  clear hl hf
  go_enter Try.func45, Try.ntmps45
  go_wp2_with fail
  refine (implOrder_any A xs.length c B xs _ h hB hn).mono ?_
  rintro e w1 ⟨rfl, hb⟩
  have HB := Lib.hid hb
  have HR := Lib.hid (h.below hb hB)
  have hB1 : B ≤ w1.heap.size := Nat.le_trans hB hb.size
  clear hb h
  cases ho : orderB xs with
  | false =>
    have Hn := Lib.hid (numOrd_no ho)
    clear ho
    go_wp2
    go_ret2
    exact ⟨0, false, rfl, by rw [Hn.out]; rfl, by rw [Hn.out]; rfl, HB.out⟩
  | true =>
    have hol := orderB_len ho
    by_cases hbig : (20 : Int) < (xs.length : Int)
    · have Hn := Lib.hid (numOrd_big (xs := xs) (by omega))
      clear ho
      go_wp2
      go_ret2
      exact ⟨0, false, rfl, by rw [Hn.out]; rfl, by rw [Hn.out]; rfl, HB.out⟩
    have Hn := Lib.hid (numOrd_yes ho (by omega))
    clear ho
    go_wp2_with fail
    refine (implCode_any A xs.length c B xs _ HR.out hB1 hol.2 hcap).mono ?_
    rintro e w2 ⟨v, rfl, hO, hb⟩
    obtain ⟨A2, c2, rfl, hcap2⟩ := hO.shapeI
    have HO := Lib.hid hO.rdI
    have HB2 := Lib.hid (HB.out.trans (hb.mono HB.out.size))
    clear hO hb HR
    obtain ⟨ll, hll⟩ : ∃ ll, ll = (codeL xs).length := ⟨_, rfl⟩
    rw [← hll] at HO ⊢
    have Hll := Lib.hid (hll.trans (codeL_len xs))
    clear hll
    go_wp2
    go_loopw [4, 18] (fun q i wr => ∃ k : Nat, k ≤ ll ∧ i = .int .i64 k ∧ q = .int .i64 (numTo xs k) ∧ wr = w2) (fun _ i _ => ll - (intOf i).toNat)
    case atStart => exact ⟨0, Nat.zero_le _, rfl, rfl, rfl⟩
    case round =>
      obtain ⟨k, hk, rfl, rfl, rfl⟩ := hrel
      by_cases hlt : k < ll
      · obtain ⟨b, off, y, rfl, hbB, hy, hcy⟩ := HO.out.atI hlt
        have hlt' : (k : Int) < (ll : Int) := by omega
        have hl20 : ll ≤ 20 := by have := Hll.out; omega
        have hsu : numTo xs (k + 1) = wrap64 (wrap64 (numTo xs k * ((xs.length : Int) - (k : Int))) + y) := by
          rw [numTo, List.getD, hy.out]; rfl
        have Hsu := Lib.hid hsu
        clear hsu
        generalize numTo xs k = nk at Hsu ⊢
        go_wp2
        go_roundw
        case rel => exact ⟨k + 1, by omega, by go_num, by rw [Hsu.out], trivial⟩
        case measure => simp only [intOf]; omega
      · obtain rfl : k = ll := by omega
        have hz : Hid (numTo xs k = numTo xs xs.length) := by show _ = _; rw [Hll.out]
        generalize numTo xs k = nk at hz ⊢
        go_wp2
        go_ret2
        exact ⟨nk, true, rfl, by rw [Hn.out]; rfl, by rw [Hn.out]; exact hz.out, HB2.out⟩
set_option maxHeartbeats 1000000 in
theorem specNumOrd : FnL_NB 44 numOrd := by
  intro A n c B xs w h hB hn hf _
  have hl := h.lenI
  obtain rfl : xs.length = n := hl.out
  clear hl hf
  go_enter Try.func44, Try.ntmps44
  go_wp2_with fail
  refine (specOrder_any A xs.length c B xs _ h hB hn).mono ?_
  rintro e w1 ⟨rfl, hb⟩
  have HB := Lib.hid hb
  have HR := Lib.hid (h.below hb hB)
  have hB1 : B ≤ w1.heap.size := Nat.le_trans hB hb.size
  clear hb h
  cases ho : orderB xs with
  | false =>
    have Hn := Lib.hid (numOrd_no ho)
    clear ho
    go_wp2
    go_ret2
    exact ⟨0, false, rfl, by rw [Hn.out]; rfl, by rw [Hn.out]; rfl, HB.out⟩
  | true =>
    have hol := orderB_len ho
    by_cases hbig : (20 : Int) < (xs.length : Int)
    · have Hn := Lib.hid (numOrd_big (xs := xs) (by omega))
      clear ho
      go_wp2
      go_ret2
      exact ⟨0, false, rfl, by rw [Hn.out]; rfl, by rw [Hn.out]; rfl, HB.out⟩
    have Hn := Lib.hid (numOrd_yes ho (by omega))
    clear ho
    go_wp2_with fail
    refine (specCode_any A xs.length c B xs _ HR.out hB1 hol.2).mono ?_
    rintro e w2 ⟨v, rfl, hO, hb⟩
    obtain ⟨A2, c2, rfl, hcap2⟩ := hO.shapeI
    have HO := Lib.hid hO.rdI
    have HB2 := Lib.hid (HB.out.trans (hb.mono HB.out.size))
    clear hO hb HR
    obtain ⟨ll, hll⟩ : ∃ ll, ll = (codeL xs).length := ⟨_, rfl⟩
    rw [← hll] at HO ⊢
    have Hll := Lib.hid (hll.trans (codeL_len xs))
    clear hll
    go_wp2
    go_loopw [5, 6] (fun q i wr => ∃ k : Nat, k ≤ ll ∧ i = .int .i64 k ∧ q = .int .i64 (numTo xs k) ∧ wr = w2) (fun _ i _ => ll - (intOf i).toNat)
    case atStart => exact ⟨0, Nat.zero_le _, rfl, rfl, rfl⟩
    case round =>
      obtain ⟨k, hk, rfl, rfl, rfl⟩ := hrel
      by_cases hlt : k < ll
      · obtain ⟨b, off, y, rfl, hbB, hy, hcy⟩ := HO.out.atI hlt
        have hlt' : (k : Int) < (ll : Int) := by omega
        have hl20 : ll ≤ 20 := by have := Hll.out; omega
        have hsu : numTo xs (k + 1) = wrap64 (wrap64 (numTo xs k * ((ll : Int) - (k : Int))) + y) := by
          rw [numTo, List.getD, hy.out, Hll.out]; rfl
        have Hsu := Lib.hid hsu
        clear hsu
        generalize numTo xs k = nk at Hsu ⊢
        go_wp2
        go_roundw
        case rel => exact ⟨k + 1, by omega, by go_num, by rw [Hsu.out], trivial⟩
        case measure => simp only [intOf]; omega
      · obtain rfl : k = ll := by omega
        have hz : Hid (numTo xs k = numTo xs xs.length) := by show _ = _; rw [Hll.out]
        generalize numTo xs k = nk at hz ⊢
        go_wp2
        go_ret2
        exact ⟨nk, true, rfl, by rw [Hn.out]; rfl, by rw [Hn.out]; exact hz.out, HB2.out⟩
end Go.Proofs.Yticenfholnencaa
