/- Weights of a tree: which lists are such. -/
import Derived.Test.YtgemcjcghnpmdaaSmall
import Derived.Test.YtgemcjcghnpmdaaShapes
namespace Go.Proofs.Ytgemcjcghnpmdaa
open Go.RowKit

theorem isWeight_any (n : Int) (w : World) : Calls Try.prog 67 #[.int .i64 n] w fun e w' => e = .returned (.bool (inB n 0 1000000)) ∧ w = w' := by
  go_enter Try.func67, Try.ntmps67
  go_wp2_with (go_at_call 36; refine (within_any _ _ _ _).mono ?_; rintro e w' ⟨rfl, rfl⟩)
  go_ret
  exact ⟨rfl, rfl⟩
theorem notWeight_any (n : Int) (w : World) : Calls Try.prog 66 #[.int .i64 n] w fun e w' => e = .returned (.bool (!inB n 0 1000000)) ∧ w = w' := by
  go_enter Try.func66, Try.ntmps66
  go_wp2_with (go_at_call 67; refine (isWeight_any _ _).mono ?_; rintro e w' ⟨rfl, rfl⟩)
  go_ret
  exact ⟨rfl, rfl⟩
/-- Where the first number lies that is no weight. -/
def allW (xs : List Int) : Bool := xs.all fun x => inB x 0 1000000
theorem allW_false {xs : List Int} {k : Nat} {x : Int} (hx : xs[k]? = some x) (h : inB x 0 1000000 = false) : allW xs = false := by
  rw [allW, List.all_eq_false]
  exact ⟨x, List.mem_of_getElem? hx, by simp [h]⟩
theorem allW_true {xs : List Int} (h : ∀ (k : Nat) (x : Int), xs[k]? = some x → inB x 0 1000000 = true) : allW xs = true := by
  rw [allW, List.all_eq_true]
  intro x hx
  obtain ⟨k, hk⟩ := List.mem_iff_getElem?.1 hx
  exact h k x hk
set_option maxHeartbeats 1000000 in
theorem findW_any (A : Option Addr) (n c B : Nat) (xs : List Int) (w : World) (h : Rd w B A n (i64s xs)) (hn : xs.length ≤ 2000000) :
    Calls Try.prog 74 #[.slice A n c, .func (.func 66) #[] #[]] w fun e w' => ∃ k : Int, e = .returned (.int .i64 k) ∧ Hid (decide (k ≥ 0) = !allW xs) ∧ w = w' := by
  have hl := h.lenI
  obtain rfl : xs.length = n := hl.out
  clear hl
  go_enter Try.func74, Try.ntmps74
  go_wp2_with fail
  go_loop [8] (fun i => ∃ k : Nat, k ≤ xs.length ∧ i = .int .i64 k ∧ Hid (∀ j x, j < k → xs[j]? = some x → inB x 0 1000000 = true)) (fun i => xs.length - (intOf i).toNat)
  case atStart => exact ⟨0, Nat.zero_le _, rfl, fun j x hj => absurd hj (by omega)⟩
  case round =>
    obtain ⟨k, hk, rfl, hv⟩ := hrel
    by_cases hlt : k < xs.length
    · obtain ⟨b, off, x, rfl, hbB, hx, hc⟩ := h.atI hlt
      have hlt' : (k : Int) < (xs.length : Int) := by omega
      clear h
      by_cases hp : inB x 0 1000000 = true
      · have hvs : Hid (∀ j x, j < k + 1 → xs[j]? = some x → inB x 0 1000000 = true) := by
          intro j y hj hy
          by_cases hjk : j < k
          · exact hv.out j y hjk hy
          · obtain rfl : j = k := by omega
            have := hx.out.symm.trans hy
            injection this with this
            rw [← this]; exact hp
        go_wp2_with fail
        refine (notWeight_any _ _).mono ?_
        rintro e w2 ⟨rfl, rfl⟩
        rw [hp]
        clear hp
        go_wp2
        go_round
        case rel => exact ⟨k + 1, by omega, by go_num, hvs⟩
        case measure => simp [intOf]; omega
      · have hp' : inB x 0 1000000 = false := by simpa using hp
        have hall := allW_false hx.out hp'
        go_wp2_with fail
        refine (notWeight_any _ _).mono ?_
        rintro e w2 ⟨rfl, rfl⟩
        rw [hp']
        have Hall := Lib.hid hall
        clear hp hp' hall
        go_wp2
        go_ret
        exact ⟨k, rfl, by show _ = _; rw [Hall.out]; simp, rfl⟩
    · have hall := allW_true (xs := xs) (fun j x hx => hv.out j x (by have := (List.getElem?_eq_some_iff.1 hx).1; omega) hx)
      have Hall := Lib.hid hall
      clear hall
      go_wp2
      go_ret
      exact ⟨-1, rfl, by show _ = _; rw [Hall.out]; simp, rfl⟩
theorem hasBad_any (A : Option Addr) (n c B : Nat) (xs : List Int) (w : World) (h : Rd w B A n (i64s xs)) (hn : xs.length ≤ 2000000) :
    Calls Try.prog 65 #[.slice A n c, .func (.func 66) #[] #[]] w fun e w' => e = .returned (.bool (!allW xs)) ∧ w = w' := by
  go_enter Try.func65, Try.ntmps65
  go_wp2_with fail
  refine (findW_any A n c B xs _ h hn).mono ?_
  rintro e w2 ⟨k, rfl, hk, rfl⟩
  go_wp2
  go_ret
  exact ⟨ret_bool hk.out, rfl⟩
/-- 1 to 64 weights. -/
def areW (xs : List Int) : Bool := inB xs.length 1 64 && allW xs
theorem areWeights_any (A : Option Addr) (n c B : Nat) (xs : List Int) (w : World) (h : Rd w B A n (i64s xs)) (hn : xs.length ≤ 2000000) :
    Calls Try.prog 49 #[.slice A n c] w fun e w' => e = .returned (.bool (areW xs)) ∧ w = w' := by
  have hl := h.lenI
  obtain rfl : xs.length = n := hl.out
  clear hl
  by_cases hin : inB xs.length 1 64 = true
  · have hfin : Hid (areW xs = allW xs) := by show _ = _; rw [areW, hin]; rfl
    go_enter Try.func49, Try.ntmps49
    go_wp2_with fail
    refine (isPicks_any _ _).mono ?_
    rintro e w2 ⟨rfl, rfl⟩
    rw [hin]
    go_wp2_with fail
    refine (hasBad_any A xs.length c B xs _ h hn).mono ?_
    rintro e w2 ⟨rfl, rfl⟩
    go_wp2
    go_ret
    exact ⟨ret_bool (by rw [hfin.out]; try simp), rfl⟩
  · have hin' : inB (xs.length : Int) 1 64 = false := by simpa using hin
    have hfin : Hid (areW xs = false) := by show _ = _; rw [areW, hin']; rfl
    clear hin
    go_enter Try.func49, Try.ntmps49
    go_wp2_with fail
    refine (isPicks_any _ _).mono ?_
    rintro e w2 ⟨rfl, rfl⟩
    rw [hin']
    go_wp2
    go_ret
    exact ⟨ret_bool hfin.out.symm, rfl⟩
end Go.Proofs.Ytgemcjcghnpmdaa
