/- 'ArePicks' of the program and of the reference: weights of picks. -/
import Derived.Test.YtgemcjcghnpmdaaFin
import Derived.Test.YtgemcjcghnpmdaaSmall
import Derived.Test.YtgemcjcghnpmdaaShapes
import Derived.Test.YtgemcjcghnpmdaaShapesF
namespace Go.Proofs.Ytgemcjcghnpmdaa
open Go.RowKit

/-- The sum of float32 numbers from left to right. -/
def sumF (xs : List Nat) : Nat := xs.foldl (fun s x => fop .add .f32 s x) 0
theorem sumF_snoc (xs : List Nat) (x : Nat) : sumF (xs ++ [x]) = fop .add .f32 (sumF xs) x := by simp [sumF, List.foldl_append]
theorem sumF_cn (xs : List Nat) : cn .f32 (sumF xs) = sumF xs := by
  rcases List.eq_nil_or_concat xs with rfl | ⟨ys, y, rfl⟩
  · exact cn_of_not (zero_not_nan .f32)
  · rw [List.concat_eq_append, sumF_snoc, cn_fop]
def allP (p : Nat → Bool) (xs : List Nat) : Bool := xs.all p
theorem allP_false {p : Nat → Bool} {xs : List Nat} {k x : Nat} (hx : xs[k]? = some x) (h : p x = false) : allP p xs = false := by
  rw [allP, List.all_eq_false]
  exact ⟨x, List.mem_of_getElem? hx, by simp [h]⟩
theorem allP_true {p : Nat → Bool} {xs : List Nat} (h : ∀ (k x : Nat), xs[k]? = some x → p x = true) : allP p xs = true := by
  rw [allP, List.all_eq_true]
  intro x hx
  obtain ⟨k, hk⟩ := List.mem_iff_getElem?.1 hx
  exact h k x hk
def picksB (xs : List Nat) : Bool := inB xs.length 1 64 && (allP nonnegB xs && posB (sumF xs))

set_option maxHeartbeats 1000000 in
theorem sumF_any (A : Option Addr) (n c B : Nat) (xs : List Nat) (w : World) (h : Rd w B A n (f32s xs)) (hn : xs.length ≤ 2000000) :
    Calls Try.prog 28 #[.slice A n c] w fun e w' => ∃ r, e = .returned (.float .f32 r) ∧ Hid (cn .f32 r = sumF xs) ∧ ∃ q, w' = w.drewN q := by
  have hl := h.lenF
  obtain rfl : xs.length = n := hl.out
  clear hl
  go_enter Try.func28, Try.ntmps28
  go_wp2_with fail
  go_loopw [3, 8] (fun s i wr => ∃ k r q : Nat, k ≤ xs.length ∧ i = .int .i64 k ∧ s = .float .f32 r ∧ Hid (cn .f32 r = sumF (xs.take k)) ∧ wr = w.drewN q) (fun _ i _ => xs.length - (intOf i).toNat)
  case atStart => exact ⟨0, 0, 0, Nat.zero_le _, rfl, rfl, cn_of_not (zero_not_nan .f32), rfl⟩
  case round =>
    obtain ⟨k, r, q, hk, rfl, rfl, hr, rfl⟩ := hrel
    by_cases hlt : k < xs.length
    · obtain ⟨b, off, x, rfl, _, hx, hc⟩ := h.atF hlt
      have hlt' : (k : Int) < (xs.length : Int) := by omega
      clear h
      go_wp2_with (refine wpList_fop _ rfl .add _ _ _ _ rfl rfl .f32 _ _ rfl rfl ?_; intro r2 q2 hr2)
      go_roundw
      case rel => exact ⟨k + 1, r2, _, by omega, by go_num, rfl, by show _ = _; rw [take_succ_of hx.out, sumF_snoc, hr2.out, fop_l hr.out], rfl⟩
      case measure => simp only [intOf]; omega
    · obtain rfl : k = xs.length := by omega
      go_wp2
      go_ret
      exact ⟨r, rfl, by have := hr.out; rwa [List.take_of_length_le (Nat.le_refl _)] at this, q, rfl⟩
set_option maxHeartbeats 1000000 in
theorem l03Sum_any (A : Option Addr) (n c B : Nat) (xs : List Nat) (w : World) (h : Rd w B A n (f32s xs)) (hn : xs.length ≤ 2000000) :
    Calls Try.prog 44 #[.slice A n c] w fun e w' => ∃ r, e = .returned (.float .f32 r) ∧ Hid (cn .f32 r = sumF xs) ∧ ∃ q, w' = w.drewN q := by
  have hl := h.lenF
  obtain rfl : xs.length = n := hl.out
  clear hl
  go_enter Try.func44, Try.ntmps44
  go_wp2_with fail
  go_loopw [3, 7] (fun s i wr => ∃ k r q : Nat, k ≤ xs.length ∧ i = .int .i64 k ∧ s = .float .f32 r ∧ Hid (cn .f32 r = sumF (xs.take k)) ∧ wr = w.drewN q) (fun _ i _ => xs.length - (intOf i).toNat)
  case atStart => exact ⟨0, 0, 0, Nat.zero_le _, rfl, rfl, cn_of_not (zero_not_nan .f32), rfl⟩
  case round =>
    obtain ⟨k, r, q, hk, rfl, rfl, hr, rfl⟩ := hrel
    by_cases hlt : k < xs.length
    · obtain ⟨b, off, x, rfl, _, hx, hc⟩ := h.atF hlt
      have hlt' : (k : Int) < (xs.length : Int) := by omega
      clear h
      go_wp2_with (refine wpList_fop _ rfl .add _ _ _ _ rfl rfl .f32 _ _ rfl rfl ?_; intro r2 q2 hr2)
      go_roundw
      case rel => exact ⟨k + 1, r2, _, by omega, by go_num, rfl, by show _ = _; rw [take_succ_of hx.out, sumF_snoc, hr2.out, fop_l hr.out], rfl⟩
      case measure => simp only [intOf]; omega
    · obtain rfl : k = xs.length := by omega
      go_wp2
      go_ret
      exact ⟨r, rfl, by have := hr.out; rwa [List.take_of_length_le (Nat.le_refl _)] at this, q, rfl⟩
set_option maxHeartbeats 1000000 in
theorem findNonneg_any (A : Option Addr) (n c B : Nat) (xs : List Nat) (w : World) (h : Rd w B A n (f32s xs)) (hn : xs.length ≤ 2000000) :
    Calls Try.prog 57 #[.slice A n c, .func (.func 33) #[] #[]] w fun e w' => ∃ k : Int, e = .returned (.int .i64 k) ∧ Hid (decide (k ≥ 0) = !allP nonnegB xs) ∧ ∃ q, w' = w.drewN q := by
  have hl := h.lenF
  obtain rfl : xs.length = n := hl.out
  clear hl
  go_enter Try.func57, Try.ntmps57
  go_wp2_with fail
  go_loopw [8] (fun i wr => ∃ k q : Nat, k ≤ xs.length ∧ i = .int .i64 k ∧ Hid (∀ (j x : Nat), j < k → xs[j]? = some x → nonnegB x = true) ∧ wr = w.drewN q) (fun i _ => xs.length - (intOf i).toNat)
  case atStart => exact ⟨0, 0, Nat.zero_le _, rfl, fun j x hj => absurd hj (by omega), rfl⟩
  case round =>
    obtain ⟨k, q, hk, rfl, hv, rfl⟩ := hrel
    by_cases hlt : k < xs.length
    · obtain ⟨b, off, x, rfl, hbB, hx, hc⟩ := h.atF hlt
      have hlt' : (k : Int) < (xs.length : Int) := by omega
      clear h
      by_cases hp : nonnegB x = true
      · have hvs : Hid (∀ (j x : Nat), j < k + 1 → xs[j]? = some x → nonnegB x = true) := by
          intro j y hj hy
          by_cases hjk : j < k
          · exact hv.out j y hjk hy
          · obtain rfl : j = k := by omega
            have := hx.out.symm.trans hy
            injection this with this
            rw [← this]; exact hp
        go_wp2_with fail
        refine (notNonneg_any _ _).mono ?_
        rintro e w2 ⟨rfl, q2, rfl⟩
        rw [hp]
        clear hp
        go_wp2
        go_roundw
        case rel => exact ⟨k + 1, _, by omega, by go_num, hvs, rfl⟩
        case measure => simp only [intOf]; omega
      · have hp' : nonnegB x = false := by simpa using hp
        have hall := allP_false hx.out hp'
        go_wp2_with fail
        refine (notNonneg_any _ _).mono ?_
        rintro e w2 ⟨rfl, q2, rfl⟩
        rw [hp']
        have Hall := Lib.hid hall
        clear hp hp' hall
        go_wp2
        go_ret
        exact ⟨k, rfl, by show _ = _; rw [Hall.out]; simp, _, rfl⟩
    · have hall := allP_true (p := nonnegB) (xs := xs) (fun j x hx => hv.out j x (by have := (List.getElem?_eq_some_iff.1 hx).1; omega) hx)
      have Hall := Lib.hid hall
      clear hall
      go_wp2
      go_ret
      exact ⟨-1, rfl, by show _ = _; rw [Hall.out]; simp, _, rfl⟩
theorem hasNonneg_any (A : Option Addr) (n c B : Nat) (xs : List Nat) (w : World) (h : Rd w B A n (f32s xs)) (hn : xs.length ≤ 2000000) :
    Calls Try.prog 32 #[.slice A n c, .func (.func 33) #[] #[]] w fun e w' => e = .returned (.bool (!allP nonnegB xs)) ∧ ∃ q, w' = w.drewN q := by
  go_enter Try.func32, Try.ntmps32
  go_wp2_with fail
  refine (findNonneg_any A n c B xs _ h hn).mono ?_
  rintro e w2 ⟨k, rfl, hk, q, rfl⟩
  go_wp2
  go_ret
  exact ⟨ret_bool hk.out, q, rfl⟩
set_option maxHeartbeats 1000000 in
theorem findPos_any (A : Option Addr) (n c B : Nat) (xs : List Nat) (w : World) (h : Rd w B A n (f32s xs)) (hn : xs.length ≤ 2000000) :
    Calls Try.prog 57 #[.slice A n c, .func (.func 58) #[] #[]] w fun e w' => ∃ k : Int, e = .returned (.int .i64 k) ∧ Hid (decide (k ≥ 0) = !allP posB xs) ∧ ∃ q, w' = w.drewN q := by
  have hl := h.lenF
  obtain rfl : xs.length = n := hl.out
  clear hl
  go_enter Try.func57, Try.ntmps57
  go_wp2_with fail
  go_loopw [8] (fun i wr => ∃ k q : Nat, k ≤ xs.length ∧ i = .int .i64 k ∧ Hid (∀ (j x : Nat), j < k → xs[j]? = some x → posB x = true) ∧ wr = w.drewN q) (fun i _ => xs.length - (intOf i).toNat)
  case atStart => exact ⟨0, 0, Nat.zero_le _, rfl, fun j x hj => absurd hj (by omega), rfl⟩
  case round =>
    obtain ⟨k, q, hk, rfl, hv, rfl⟩ := hrel
    by_cases hlt : k < xs.length
    · obtain ⟨b, off, x, rfl, hbB, hx, hc⟩ := h.atF hlt
      have hlt' : (k : Int) < (xs.length : Int) := by omega
      clear h
      by_cases hp : posB x = true
      · have hvs : Hid (∀ (j x : Nat), j < k + 1 → xs[j]? = some x → posB x = true) := by
          intro j y hj hy
          by_cases hjk : j < k
          · exact hv.out j y hjk hy
          · obtain rfl : j = k := by omega
            have := hx.out.symm.trans hy
            injection this with this
            rw [← this]; exact hp
        go_wp2_with fail
        refine (notPos_any _ _).mono ?_
        rintro e w2 ⟨rfl, q2, rfl⟩
        rw [hp]
        clear hp
        go_wp2
        go_roundw
        case rel => exact ⟨k + 1, _, by omega, by go_num, hvs, rfl⟩
        case measure => simp only [intOf]; omega
      · have hp' : posB x = false := by simpa using hp
        have hall := allP_false hx.out hp'
        go_wp2_with fail
        refine (notPos_any _ _).mono ?_
        rintro e w2 ⟨rfl, q2, rfl⟩
        rw [hp']
        have Hall := Lib.hid hall
        clear hp hp' hall
        go_wp2
        go_ret
        exact ⟨k, rfl, by show _ = _; rw [Hall.out]; simp, _, rfl⟩
    · have hall := allP_true (p := posB) (xs := xs) (fun j x hx => hv.out j x (by have := (List.getElem?_eq_some_iff.1 hx).1; omega) hx)
      have Hall := Lib.hid hall
      clear hall
      go_wp2
      go_ret
      exact ⟨-1, rfl, by show _ = _; rw [Hall.out]; simp, _, rfl⟩
theorem hasPos_any (A : Option Addr) (n c B : Nat) (xs : List Nat) (w : World) (h : Rd w B A n (f32s xs)) (hn : xs.length ≤ 2000000) :
    Calls Try.prog 32 #[.slice A n c, .func (.func 58) #[] #[]] w fun e w' => e = .returned (.bool (!allP posB xs)) ∧ ∃ q, w' = w.drewN q := by
  go_enter Try.func32, Try.ntmps32
  go_wp2_with fail
  refine (findPos_any A n c B xs _ h hn).mono ?_
  rintro e w2 ⟨k, rfl, hk, q, rfl⟩
  go_wp2
  go_ret
  exact ⟨ret_bool hk.out, q, rfl⟩
theorem arePos_any (A : Option Addr) (n c B : Nat) (xs : List Nat) (w : World) (h : Rd w B A n (f32s xs)) (hn : xs.length ≤ 2000000) :
    Calls Try.prog 35 #[.slice A n c] w fun e w' => e = .returned (.bool (allP posB xs)) ∧ ∃ q, w' = w.drewN q := by
  go_enter Try.func35, Try.ntmps35
  go_wp2_with fail
  refine (hasPos_any A n c B xs _ h hn).mono ?_
  rintro e w2 ⟨rfl, q, rfl⟩
  go_wp2
  go_ret
  exact ⟨ret_bool (by simp), q, rfl⟩
set_option maxHeartbeats 1000000 in
theorem implPicks_any (A : Option Addr) (n c B : Nat) (xs : List Nat) (w : World) (h : Rd w B A n (f32s xs)) (hn : xs.length ≤ 2000000) :
    Calls Try.prog 9 #[.slice A n c] w fun e w' => e = .returned (.bool (picksB xs)) ∧ Below w.heap.size w w' := by
  have hl := h.lenF
  obtain rfl : xs.length = n := hl.out
  clear hl
  by_cases hin : inB xs.length 1 64 = true
  · by_cases hall : allP nonnegB xs = true
    · have hfin : Hid (picksB xs = posB (sumF xs)) := by show _ = _; unfold picksB; rw [hin, hall]; rfl
      go_enter Try.func9, Try.ntmps9
      go_wp2_with fail
      refine (isPicks_any _ _).mono ?_
      rintro e w2 ⟨rfl, rfl⟩
      rw [hin]
      clear hin
      go_wp2_with fail
      refine (hasNonneg_any A xs.length c B xs _ h hn).mono ?_
      rintro e w2 ⟨rfl, q, rfl⟩
      rw [hall]
      clear hall
      go_wp2_with fail
      refine (sumF_any A xs.length c B xs _ (h.drewN q) hn).mono ?_
      rintro e w2 ⟨r, rfl, hr, q2, rfl⟩
      go_wp2_with fail
      have hrd : Rd (((w.drewN q).drewN q2).alloc (.cells #[.float .f32 r] 40)) (w.heap.size + 1) (some ⟨w.heap.size, 0, none⟩) 1 (f32s [r]) := by
        refine ⟨rfl, fun _ => ⟨w.heap.size, 0, rfl, by omega, fun j u hu => ?_⟩⟩
        match j, hu with
        | 0, hu => simp [f32s] at hu; subst hu; simpa [Addr.add] using one_cell (w.drewN (q + q2)) 40 (.float .f32 r) 0 _ rfl
      refine (arePos_any _ 1 1 _ [r] _ (by first | exact hrd | (go_simp; exact hrd)) (by simp)).mono ?_
      rintro e w2 ⟨rfl, q3, rfl⟩
      have hps : allP posB [r] = posB (sumF xs) := by
        unfold allP
        rw [List.all_cons, List.all_nil, Bool.and_true]
        exact posB_congr (by rw [hr.out, sumF_cn])
      rw [hps]
      go_wp2
      go_ret
      exact ⟨ret_bool hfin.out.symm, below_drewN ((below_drewN' (q + q2)).alloc (Nat.le_refl _) _) q3⟩
    · have hall' : allP nonnegB xs = false := by simpa using hall
      have hfin : Hid (picksB xs = false) := by show _ = _; unfold picksB; rw [hall', Bool.false_and, Bool.and_false]
      clear hall
      go_enter Try.func9, Try.ntmps9
      go_wp2_with fail
      refine (isPicks_any _ _).mono ?_
      rintro e w2 ⟨rfl, rfl⟩
      rw [hin]
      clear hin
      go_wp2_with fail
      refine (hasNonneg_any A xs.length c B xs _ h hn).mono ?_
      rintro e w2 ⟨rfl, q, rfl⟩
      rw [hall']
      go_wp2
      go_ret
      exact ⟨ret_bool hfin.out.symm, below_drewN' q⟩
  · have hin' : inB (xs.length : Int) 1 64 = false := by simpa using hin
    have hfin : Hid (picksB xs = false) := by show _ = _; unfold picksB; rw [hin', Bool.false_and]
    clear hin
    go_enter Try.func9, Try.ntmps9
    go_wp2_with fail
    refine (isPicks_any _ _).mono ?_
    rintro e w2 ⟨rfl, rfl⟩
    rw [hin']
    go_wp2
    go_ret
    exact ⟨ret_bool hfin.out.symm, Below.refl _ _⟩
set_option maxHeartbeats 1000000 in
theorem l03Weights_any (A : Option Addr) (n c B : Nat) (xs : List Nat) (w : World) (h : Rd w B A n (f32s xs)) (hn : xs.length ≤ 2000000) :
    Calls Try.prog 42 #[.slice A n c] w fun e w' => e = .returned (.bool (picksB xs)) ∧ Below w.heap.size w w' := by
  have hl := h.lenF
  obtain rfl : xs.length = n := hl.out
  clear hl
  by_cases h1 : (xs.length : Int) < 1
  · have hno : Hid (picksB xs = false) := by show _ = _; unfold picksB; rw [inB_not (by omega), Bool.false_and]
    go_enter Try.func42, Try.ntmps42
    go_wp2
    go_ret
    exact ⟨ret_bool hno.out.symm, Below.refl _ _⟩
  by_cases h2 : (64 : Int) < (xs.length : Int)
  · have hno : Hid (picksB xs = false) := by show _ = _; unfold picksB; rw [inB_not (by omega), Bool.false_and]
    go_enter Try.func42, Try.ntmps42
    go_wp2
    go_ret
    exact ⟨ret_bool hno.out.symm, Below.refl _ _⟩
  have hin : Hid (inB (xs.length : Int) 1 64 = true) := inB_mk (by omega)
  go_enter Try.func42, Try.ntmps42
  go_wp2_with fail
  go_loopw [14] (fun i wr => ∃ k q : Nat, k ≤ xs.length ∧ i = .int .i64 k ∧ Hid (∀ (j x : Nat), j < k → xs[j]? = some x → nonnegB x = true) ∧ wr = w.drewN q) (fun i _ => xs.length - (intOf i).toNat)
  case atStart => exact ⟨0, 0, Nat.zero_le _, rfl, fun j x hj => absurd hj (by omega), rfl⟩
  case round =>
    obtain ⟨k, q, hk, rfl, hv, rfl⟩ := hrel
    by_cases hlt : k < xs.length
    · obtain ⟨b, off, x, rfl, hbB, hx, hc⟩ := h.atF hlt
      have hlt' : (k : Int) < (xs.length : Int) := by omega
      clear h
      by_cases hp : nonnegB x = true
      · have hvs : Hid (∀ (j x : Nat), j < k + 1 → xs[j]? = some x → nonnegB x = true) := by
          intro j y hj hy
          by_cases hjk : j < k
          · exact hv.out j y hjk hy
          · obtain rfl : j = k := by omega
            have := hx.out.symm.trans hy
            injection this with this
            rw [← this]; exact hp
        go_wp2_with fail
        refine (l02Least_any _ _).mono ?_
        rintro e w2 ⟨rfl, q2, rfl⟩
        rw [hp]
        clear hp
        go_wp2
        go_roundw
        case rel => exact ⟨k + 1, _, by omega, by go_num, hvs, rfl⟩
        case measure => simp only [intOf]; omega
      · have hp' : nonnegB x = false := by simpa using hp
        have hno : Hid (picksB xs = false) := by show _ = _; unfold picksB; rw [allP_false hx.out hp', Bool.false_and, Bool.and_false]
        go_wp2_with fail
        refine (l02Least_any _ _).mono ?_
        rintro e w2 ⟨rfl, q2, rfl⟩
        rw [hp']
        clear hp hp'
        go_wp2
        go_ret
        exact ⟨ret_bool hno.out.symm, below_drewN' _⟩
    · have hall := allP_true (p := nonnegB) (xs := xs) (fun j x hx => hv.out j x (by have := (List.getElem?_eq_some_iff.1 hx).1; omega) hx)
      have hfin : Hid (picksB xs = posB (sumF xs)) := by show _ = _; unfold picksB; rw [hin.out, hall]; rfl
      clear hall
      go_wp2_with fail
      refine (l03Sum_any A xs.length c B xs _ (h.drewN q) hn).mono ?_
      rintro e w2 ⟨r, rfl, hr, q2, rfl⟩
      go_wp2_with fail
      refine (l02Above_any _ _).mono ?_
      rintro e w2 ⟨rfl, q3, rfl⟩
      have hps : posB r = posB (sumF xs) := posB_congr (by rw [hr.out, sumF_cn])
      rw [hps]
      go_wp2
      go_ret
      exact ⟨ret_bool hfin.out.symm, below_drewN' _⟩
end Go.Proofs.Ytgemcjcghnpmdaa
