/- 'ArePicks' of the program and of the reference: weights of picks. -/
import Derived.Test.YtijafnejdibdlaaGreatDoorFin
import Derived.Test.YtijafnejdibdlaaGreatDoorSmall
import Derived.Test.YtijafnejdibdlaaGreatDoorShapes
import Derived.Test.YtijafnejdibdlaaGreatDoorShapesF
namespace Go.Proofs.YtijafnejdibdlaaGreatDoor
open Go.RowKit

/-- The sum of float32 numbers from left to right. -/
def sumF (xs : List Nat) : Nat := xs.foldl (fun s x => fop .add .f32 s x) 0
theorem sumF_snoc (xs : List Nat) (x : Nat) : sumF (xs ++ [x]) = fop .add .f32 (sumF xs) x := by simp [sumF, List.foldl_append]
theorem sumF_cn (xs : List Nat) : cn .f32 (sumF xs) = sumF xs := by
  rcases List.eq_nil_or_concat xs with rfl | ⟨ys, y, rfl⟩
  · exact cn_of_not (zero_not_nan .f32)
  · rw [List.concat_eq_append, sumF_snoc, cn_fop]
def allP (p : Nat → Bool) (xs : List Nat) : Bool := xs.all p
theorem allP_false {p : Nat → Bool} {xs : List Nat} {k x : Nat} (hx : xs[k]? = some x) (h : p x = false) : allP p xs = false := by
  rw [allP, List.all_eq_false]
  exact ⟨x, List.mem_of_getElem? hx, by simp [h]⟩
theorem allP_true {p : Nat → Bool} {xs : List Nat} (h : ∀ (k x : Nat), xs[k]? = some x → p x = true) : allP p xs = true := by
  rw [allP, List.all_eq_true]
  intro x hx
  obtain ⟨k, hk⟩ := List.mem_iff_getElem?.1 hx
  exact h k x hk
def picksB (xs : List Nat) : Bool := inB xs.length 1 64 && (allP nonnegB xs && posB (sumF xs))

set_option maxHeartbeats 1000000 in
theorem findFin_any (A : Option Addr) (n c B : Nat) (xs : List Nat) (w : World) (h : Rd w B A n (f32s xs)) (hn : xs.length ≤ 2000000) :
    Calls Tryz.prog 78 #[.slice A n c, .func (.func 65) #[] #[]] w fun e w' => ∃ k : Int, e = .returned (.int .i64 k) ∧ Hid (decide (k ≥ 0) = !allP finB xs) ∧ ∃ q, w' = w.drewN q := by
  have hl := h.lenF
  obtain rfl : xs.length = n := hl.out
  clear hl
  go_enter Tryz.func78, Tryz.ntmps78
  go_wp2_with fail
  go_loopw [8] (fun i wr => ∃ k q : Nat, k ≤ xs.length ∧ i = .int .i64 k ∧ Hid (∀ (j x : Nat), j < k → xs[j]? = some x → finB x = true) ∧ wr = w.drewN q) (fun i _ => xs.length - (intOf i).toNat)
  case atStart => exact ⟨0, 0, Nat.zero_le _, rfl, fun j x hj => absurd hj (by omega), rfl⟩
  case round =>
    obtain ⟨k, q, hk, rfl, hv, rfl⟩ := hrel
    by_cases hlt : k < xs.length
    · obtain ⟨b, off, x, rfl, hbB, hx, hc⟩ := h.atF hlt
      have hlt' : (k : Int) < (xs.length : Int) := by omega
      clear h
      by_cases hp : finB x = true
      · have hvs : Hid (∀ (j x : Nat), j < k + 1 → xs[j]? = some x → finB x = true) := by
          intro j y hj hy
          by_cases hjk : j < k
          · exact hv.out j y hjk hy
          · obtain rfl : j = k := by omega
            have := hx.out.symm.trans hy
            injection this with this
            rw [← this]; exact hp
        go_wp2_with fail
        refine (notFin_any _ _).mono ?_
        rintro e w2 ⟨rfl, q2, rfl⟩
        rw [hp]
        clear hp
        go_wp2
        go_roundw
        case rel => exact ⟨k + 1, _, by omega, by go_num, hvs, rfl⟩
        case measure => simp only [intOf]; omega
      · have hp' : finB x = false := by simpa using hp
        have hall := allP_false hx.out hp'
        go_wp2_with fail
        refine (notFin_any _ _).mono ?_
        rintro e w2 ⟨rfl, q2, rfl⟩
        rw [hp']
        have Hall := Lib.hid hall
        clear hp hp' hall
        go_wp2
        go_ret
        exact ⟨k, rfl, by show _ = _; rw [Hall.out]; simp, _, rfl⟩
    · have hall := allP_true (p := finB) (xs := xs) (fun j x hx => hv.out j x (by have := (List.getElem?_eq_some_iff.1 hx).1; omega) hx)
      have Hall := Lib.hid hall
      clear hall
      go_wp2
      go_ret
      exact ⟨-1, rfl, by show _ = _; rw [Hall.out]; simp, _, rfl⟩
theorem hasFin_any (A : Option Addr) (n c B : Nat) (xs : List Nat) (w : World) (h : Rd w B A n (f32s xs)) (hn : xs.length ≤ 2000000) :
    Calls Tryz.prog 64 #[.slice A n c, .func (.func 65) #[] #[]] w fun e w' => e = .returned (.bool (!allP finB xs)) ∧ ∃ q, w' = w.drewN q := by
  go_enter Tryz.func64, Tryz.ntmps64
  go_wp2_with fail
  refine (findFin_any A n c B xs _ h hn).mono ?_
  rintro e w2 ⟨k, rfl, hk, q, rfl⟩
  go_wp2
  go_ret
  exact ⟨ret_bool hk.out, q, rfl⟩
theorem areFin_any (A : Option Addr) (n c B : Nat) (xs : List Nat) (w : World) (h : Rd w B A n (f32s xs)) (hn : xs.length ≤ 2000000) :
    Calls Tryz.prog 49 #[.slice A n c] w fun e w' => e = .returned (.bool (allP finB xs)) ∧ ∃ q, w' = w.drewN q := by
  go_enter Tryz.func49, Tryz.ntmps49
  go_wp2_with fail
  refine (hasFin_any A n c B xs _ h hn).mono ?_
  rintro e w2 ⟨rfl, q, rfl⟩
  go_wp2
  go_ret
  exact ⟨ret_bool (by simp), q, rfl⟩
end Go.Proofs.YtijafnejdibdlaaGreatDoor
