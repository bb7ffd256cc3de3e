/- The library's order of two lists of numbers. -/
import Derived.Test.YtgkbkbmhdhlffaaShapes
namespace Go.Proofs.Ytgkbkbmhdhlffaa
open Go.RowKit
set_option maxRecDepth 100000
def cmpL : List Int → List Int → Int
  | [], [] => 0
  | [], _ :: _ => -1
  | _ :: _, [] => 1
  | x :: xs, y :: ys => if x < y then -1 else if y < x then 1 else cmpL xs ys
theorem cmpL_step {xs ys : List Int} {k : Nat} {x y : Int} (hx : xs[k]? = some x) (hy : ys[k]? = some y) : cmpL (xs.drop k) (ys.drop k) = if x < y then -1 else if y < x then 1 else cmpL (xs.drop (k + 1)) (ys.drop (k + 1)) := by
  have h1 : xs.drop k = x :: xs.drop (k + 1) := by
    obtain ⟨h, rfl⟩ := List.getElem?_eq_some_iff.1 hx
    exact List.drop_eq_getElem_cons h
  have h2 : ys.drop k = y :: ys.drop (k + 1) := by
    obtain ⟨h, rfl⟩ := List.getElem?_eq_some_iff.1 hy
    exact List.drop_eq_getElem_cons h
  rw [h1, h2, cmpL]
theorem isNaNI_any (x : Int) (w : World) : Calls Try.prog 70 #[.int .i64 x] w fun e w' => e = .returned (.bool false) ∧ w' = w := by
  have hb : (x != x) = false := by simp
  go_enter Try.func70, Try.ntmps70
  go_wp2
  go_ret
  exact ⟨rfl, rfl⟩
def cmpI (x y : Int) : Int := if x < y then -1 else if y < x then 1 else 0
theorem cmpI_any (x y : Int) (w : World) : Calls Try.prog 64 #[.int .i64 x, .int .i64 y] w fun e w' => e = .returned (.int .i64 (cmpI x y)) ∧ w' = w := by
  unfold cmpI
  by_cases h1 : x < y
  · rw [if_pos h1]
    go_enter Try.func64, Try.ntmps64
    go_wp2_with (go_at_call 70; refine (isNaNI_any _ _).mono ?_; rintro e w' ⟨rfl, rfl⟩)
    go_ret
    exact ⟨rfl, rfl⟩
  · rw [if_neg h1]
    by_cases h2 : y < x
    · rw [if_pos h2]
      go_enter Try.func64, Try.ntmps64
      go_wp2_with (go_at_call 70; refine (isNaNI_any _ _).mono ?_; rintro e w' ⟨rfl, rfl⟩)
      go_ret
      exact ⟨rfl, rfl⟩
    · rw [if_neg h2]
      go_enter Try.func64, Try.ntmps64
      go_wp2_with (go_at_call 70; refine (isNaNI_any _ _).mono ?_; rintro e w' ⟨rfl, rfl⟩)
      go_ret
      exact ⟨rfl, rfl⟩
theorem cmpS_any (A A' : Option Addr) (n n' c c' B B' : Nat) (xs ys : List Int) (w : World) (h : Rd w B A n (i64s xs)) (h' : Rd w B' A' n' (i64s ys)) (hn : n ≤ 1048576) (hn' : n' ≤ 1048576) :
    Calls Try.prog 47 #[.slice A n c, .slice A' n' c'] w fun e w' => e = .returned (.int .i64 (cmpL xs ys)) ∧ w' = w := by
  have hl := h.lenI; have hl' := h'.lenI
  obtain rfl : xs.length = n := hl.out
  obtain rfl : ys.length = n' := hl'.out
  clear hl hl'
  go_enter Try.func47, Try.ntmps47
  go_wp2
  go_loopw [11] (fun i wr => ∃ k : Nat, k ≤ xs.length ∧ k ≤ ys.length ∧ i = .int .i64 k ∧ Hid (cmpL xs ys = cmpL (xs.drop k) (ys.drop k)) ∧ wr = w.drewN 0) (fun i _ => xs.length - (intOf i).toNat)
  case atStart => exact ⟨0, by omega, by omega, rfl, rfl, rfl⟩
  case round =>
    obtain ⟨k, hk, hk', rfl, heq, rfl⟩ := hrel
    by_cases hlt : k < xs.length
    · have hlt1 : (k : Int) < (xs.length : Int) := by omega
      by_cases hlt' : k < ys.length
      · have hlt2 : (k : Int) < (ys.length : Int) := by omega
        obtain ⟨b, off, x, rfl, _, hx, hc⟩ := h.atI hlt
        obtain ⟨b', off', y, rfl, _, hy, hc'⟩ := h'.atI hlt'
        have hst := Lib.hid (cmpL_step hx.out hy.out)
        clear h h' hx hy
        by_cases h1 : x < y
        · have hv : cmpI x y = -1 := by unfold cmpI; rw [if_pos h1]
          have hr : Hid (cmpL xs ys = -1) := by show _ = _; rw [heq.out, hst.out, if_pos h1]
          clear hst heq
          go_wp2_with (go_at_call 64; refine (cmpI_any _ _ _).mono ?_; rintro e w' ⟨rfl, rfl⟩; rw [hv])
          go_ret
          exact ⟨by rw [hr.out]; rfl, rfl⟩
        · by_cases h2 : y < x
          · have hv : cmpI x y = 1 := by unfold cmpI; rw [if_neg h1, if_pos h2]
            have hr : Hid (cmpL xs ys = 1) := by show _ = _; rw [heq.out, hst.out, if_neg h1, if_pos h2]
            clear hst heq
            go_wp2_with (go_at_call 64; refine (cmpI_any _ _ _).mono ?_; rintro e w' ⟨rfl, rfl⟩; rw [hv])
            go_ret
            exact ⟨by rw [hr.out]; rfl, rfl⟩
          · have hv : cmpI x y = 0 := by unfold cmpI; rw [if_neg h1, if_neg h2]
            have hr : Hid (cmpL xs ys = cmpL (xs.drop (k + 1)) (ys.drop (k + 1))) := by show _ = _; rw [heq.out, hst.out, if_neg h1, if_neg h2]
            clear hst heq
            go_wp2_with (go_at_call 64; refine (cmpI_any _ _ _).mono ?_; rintro e w' ⟨rfl, rfl⟩; rw [hv])
            go_roundw
            case rel => exact ⟨k + 1, by omega, by omega, by go_num, hr, trivial⟩
            case measure => simp only [intOf]; omega
      · obtain rfl : k = ys.length := by omega
        obtain ⟨b, off, x, rfl, _, _, hc⟩ := h.atI hlt
        have hr : Hid (cmpL xs ys = 1) := by
          show _ = _
          rw [heq.out, List.drop_length]
          cases hd : xs.drop ys.length with
          | nil => have := congrArg List.length hd; simp at this; omega
          | cons a l => rfl
        clear heq
        go_wp2
        go_ret
        exact ⟨by rw [hr.out]; rfl, rfl⟩
    · obtain rfl : k = xs.length := by omega
      by_cases hlt' : xs.length < ys.length
      · have hlt2 : (xs.length : Int) < (ys.length : Int) := by omega
        have hr : Hid (cmpL xs ys = -1) := by
          show _ = _
          rw [heq.out, List.drop_length]
          cases hd : ys.drop xs.length with
          | nil => have := congrArg List.length hd; simp at this; omega
          | cons a l => rfl
        clear heq
        go_wp2
        go_ret
        exact ⟨by rw [hr.out]; rfl, rfl⟩
      · have hr : Hid (cmpL xs ys = 0) := by
          show _ = _
          rw [heq.out, List.drop_length, show xs.length = ys.length by omega, List.drop_length]; rfl
        clear heq
        go_wp2
        go_ret
        exact ⟨by rw [hr.out]; rfl, rfl⟩
end Go.Proofs.Ytgkbkbmhdhlffaa
