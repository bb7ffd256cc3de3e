/- MeetingsIn: walks of the helpers. -/
import Derived.Test.YtgkbkbmhdhlffaaMeet
namespace Go.Proofs.Ytgkbkbmhdhlffaa
open Go.RowKit
set_option maxRecDepth 100000
theorem seenN_split (pre l : List Int) : ∀ l2, seenN pre (l ++ l2) = seenN pre l + seenN (pre ++ l) l2 := by
  intro l2
  induction l generalizing pre with
  | nil => simp [seenN]
  | cons y l ih => rw [List.cons_append, seenN, ih, seenN, List.append_assoc, List.singleton_append]; omega
theorem eqN_take {xs : List Int} {k : Nat} {x : Int} (h : xs[k]? = some x) : eqN (xs.take (k + 1)) = eqN (xs.take k) + (if x ∈ xs.take k then 1 else 0) := by
  unfold eqN
  rw [List.take_add_one, h]
  show seenN [] (xs.take k ++ [x]) = _
  rw [seenN_snoc, List.nil_append]
theorem eqN_le (xs : List Int) : eqN xs ≤ xs.length := by have := eqN_dist xs; omega
set_option maxHeartbeats 2000000 in
theorem specEqual_any (A : Option Addr) (n c B : Nat) (xs : List Int) (w : World) (h : Rd w B A n (i64s xs)) (hn : n ≤ 1048576) :
    Calls Try.prog 22 #[.slice A n c] w fun e w' => e = .returned (.int .i64 (eqN xs : Int)) ∧ ∃ q, w' = w.drewN q := by
  have hl := h.lenI
  obtain rfl : xs.length = n := hl.out
  have HR := Lib.hid h
  clear h hl
  go_enter Try.func22, Try.ntmps22
  go_wp2
  go_loopw [3, 4] (fun s i wr => ∃ k q : Nat, k ≤ xs.length ∧ i = .int .i64 k ∧ s = .int .i64 (eqN (xs.take k) : Int) ∧ wr = w.drewN q) (fun _ i _ => xs.length - (intOf i).toNat)
  case atStart => exact ⟨0, 0, Nat.zero_le _, rfl, rfl, rfl⟩
  case round =>
    obtain ⟨k, q, hk, rfl, rfl, rfl⟩ := hrel
    obtain ⟨s, hs⟩ : ∃ s, s = eqN (xs.take k) := ⟨_, rfl⟩
    have hsl := eqN_le (xs.take k)
    rw [← hs] at hsl ⊢
    have hsb : s ≤ 1048576 := by simp at hsl; omega
    have Hs := Lib.hid hs
    clear hs hsl
    by_cases hlt : k < xs.length
    · have hlt' : (k : Int) < (xs.length : Int) := by omega
      obtain ⟨b, off, x, rfl, hbB, hx, hcx⟩ := HR.out.atI (k := k) hlt
      have Hx := Lib.hid hx
      clear hx
      go_wp2
      go_loopw [3, 5] (fun s' j wr => ∃ i q' : Nat, i ≤ k ∧ s' = .int .i64 (s : Int) ∧ j = .int .i64 i ∧ Hid (¬ x ∈ xs.take i) ∧ wr = w.drewN q') (fun _ j _ => k - (intOf j).toNat)
      case atStart => exact ⟨0, q, Nat.zero_le _, rfl, rfl, by show ¬ _; simp, rfl⟩
      case round =>
        obtain ⟨i, q', hi, rfl, rfl, hni, rfl⟩ := hrel
        by_cases hil : i < k
        · have hil' : (i : Int) < (k : Int) := by omega
          have hil2 : (i : Int) < (xs.length : Int) := by omega
          obtain ⟨b', off', y, hb', _, hy, hcy⟩ := HR.out.atI (k := i) (by omega)
          obtain ⟨rfl, rfl⟩ : b = b' ∧ off = off' := by simpa using hb'
          have Hy := Lib.hid hy
          clear hb' hy
          by_cases hyx : y = x
          · subst hyx
            have hd : Hid (eqN (xs.take (k + 1)) = s + 1) := by
              show _ = _
              rw [eqN_take Hx.out, ← Hs.out, if_pos]
              have := Hy.out
              rw [← List.getElem?_take_of_lt hil] at this
              exact List.mem_of_getElem? this
            have hb2 : (y == y) = true := by simp
            go_wp2
            go_quiet (fail)
            go_wp2
            go_roundw
            case rel => exact ⟨k + 1, _, by omega, by go_num, by rw [hd.out]; go_num, rfl⟩
            case measure => simp only [intOf]; omega
          · have hb2 : (y == x) = false := by simpa using hyx
            have hn2 : Hid (¬ x ∈ xs.take (i + 1)) := by
              show ¬ _
              rw [List.take_add_one, Hy.out]
              intro hm
              rcases List.mem_append.1 hm with h1 | h1
              · exact hni.out h1
              · have h2 : x = y := by simpa using h1
                exact hyx h2.symm
            clear hyx
            go_wp2
            go_quiet (fail)
            go_wp2
            go_roundw
            case rel => exact ⟨i + 1, _, by omega, rfl, by go_num, hn2, rfl⟩
            case measure => simp only [intOf]; omega
        · obtain rfl : i = k := by omega
          have hd : Hid (eqN (xs.take (i + 1)) = s) := by
            show _ = _
            rw [eqN_take Hx.out, ← Hs.out, if_neg hni.out]
            omega
          go_wp2
          go_roundw
          case rel => exact ⟨i + 1, _, by omega, by go_num, by rw [hd.out], rfl⟩
          case measure => simp only [intOf]; omega
    · obtain rfl : k = xs.length := by omega
      have hr : Hid (eqN xs = s) := by show _ = _; rw [Hs.out, List.take_length]
      go_wp2
      go_ret
      exact ⟨by rw [hr.out]; rfl, _, rfl⟩
end Go.Proofs.Ytgkbkbmhdhlffaa
