/- Lists of edges: what they are, and the reference's side. -/
import Derived.Test.YtgkbkbmhdhlffaaShapes
import Derived.Test.YtgkbkbmhdhlffaaSmall
namespace Go.Proofs.Ytgkbkbmhdhlffaa
open Go.RowKit
set_option maxRecDepth 100000
def lexB : Option (Int × Int) → Int × Int → Bool
  | none, _ => true
  | some p, x => decide (p.1 < x.1) || decide (p.1 = x.1 ∧ p.2 < x.2)
def edgeOk (n : Int) (p : Option (Int × Int)) (x : Int × Int) : Bool := inB x.1 0 (n - 1) && inB x.2 (x.1 + 1) (n - 1) && lexB p x
def edgeAt (xs : List Int) (k : Nat) : Int × Int := (xs.getD (2 * k) 0, xs.getD (2 * k + 1) 0)
def edgeBefore (xs : List Int) : Nat → Option (Int × Int)
  | 0 => none
  | k + 1 => some (edgeAt xs k)
def okAt (n : Int) (xs : List Int) (k : Nat) : Bool := edgeOk n (edgeBefore xs k) (edgeAt xs k)
def areEdges (xs : List Int) (n : Int) : Bool := inB n 1 64 && decide (xs.length % 2 = 0) && decide (xs.length ≤ 512) && (List.range (xs.length / 2)).all (okAt n xs)
theorem areEdges_no {xs : List Int} {n : Int} {k : Nat} (hk : k < xs.length / 2) (h : okAt n xs k = false) : areEdges xs n = false := by
  unfold areEdges
  rw [Bool.and_eq_false_iff]
  right
  rw [List.all_eq_false]
  exact ⟨k, by simpa using hk, by simp [h]⟩
theorem areEdges_yes {xs : List Int} {n : Int} (h1 : inB n 1 64 = true) (h2 : xs.length % 2 = 0) (h3 : xs.length ≤ 512) (h : ∀ k, k < xs.length / 2 → okAt n xs k = true) : areEdges xs n = true := by
  unfold areEdges
  simp only [h1, h2, h3, decide_true, Bool.true_and]
  rw [List.all_eq_true]
  intro k hk
  exact h k (by simpa using hk)
theorem edgeAt_of {xs : List Int} {k : Nat} {x y : Int} (hx : xs[2 * k]? = some x) (hy : xs[2 * k + 1]? = some y) : edgeAt xs k = (x, y) := by
  unfold edgeAt
  rw [List.getD_eq_getElem?_getD, List.getD_eq_getElem?_getD, hx, hy]; rfl
theorem l00In_q {b : Bool} {n lo hi : Int} {w : World} (h : inB n lo hi = b) : Calls Try.prog 20 #[.int .i64 n, .int .i64 lo, .int .i64 hi] w fun e w' => e = .returned (.bool b) ∧ ∃ m, w' = w.drewN m :=
  (l00In_any n lo hi w).mono fun e w' ⟨he, hw⟩ => ⟨by rw [he, h], 0, hw.symm⟩
set_option maxHeartbeats 1000000 in
theorem specEdges_any (A : Option Addr) (n c B : Nat) (xs : List Int) (k0 : Int) (w : World) (h : Rd w B A n (i64s xs)) (_ : B ≤ w.heap.size) (hn : n ≤ 1048576) (_ : Fit xs) (hk0 : -9223372036854775808 ≤ k0 ∧ k0 ≤ 9223372036854775807) :
    Calls Try.prog 27 #[.slice A n c, .int .i64 k0] w fun e w' => e = .returned (.bool (areEdges xs k0)) ∧ ∃ q, w' = w.drewN q := by
  have hl := h.lenI
  obtain rfl : xs.length = n := hl.out
  have hmod : Int.tmod (xs.length : Int) 2 = ((xs.length % 2 : Nat) : Int) := by rw [Int.tmod_eq_emod_of_nonneg (by omega)]; omega
  clear hl
  by_cases h1 : inB k0 1 64 = true
  · obtain ⟨h1a, h1b⟩ := inB_true h1
    by_cases h2 : xs.length % 2 = 0
    · by_cases h3 : xs.length ≤ 512
      · have h3' : (xs.length : Int) ≤ 512 := by omega
        rw [h2] at hmod
        go_enter Try.func27, Try.ntmps27
        go_wp2_with (go_at_call 43; refine (l04Count_any _ _).mono ?_; rintro e w' ⟨rfl, rfl⟩; rw [h1])
        clear hmod
        go_wp2
        go_loopw [5] (fun i wr => ∃ k m q : Nat, k ≤ xs.length / 2 ∧ m = 2 * k ∧ i = .int .i64 (m : Int) ∧ Hid (∀ j, j < k → okAt k0 xs j = true) ∧ wr = w.drewN q) (fun i _ => xs.length - (intOf i).toNat)
        case atStart => exact ⟨0, 0, 0, by omega, rfl, rfl, fun j hj => absurd hj (by omega), rfl⟩
        case round =>
          obtain ⟨k, m, q, hk, hm, rfl, hv, rfl⟩ := hrel
          by_cases hlt : k < xs.length / 2
          · obtain ⟨b, off, x, rfl, hbB, hx, hcx⟩ := h.atI (k := 2 * k) (by omega)
            obtain ⟨b', off', y, hb', hbB', hy, hcy⟩ := h.atI (k := 2 * k + 1) (by omega)
            obtain ⟨rfl, rfl⟩ : b = b' ∧ off = off' := by simpa using hb'
            have Hat := Lib.hid (edgeAt_of hx.out hy.out)
            clear hb' hbB' hx hy
            have hltm : (m : Int) < (xs.length : Int) := by omega
            have hltm1 : (m : Int) + 1 < (xs.length : Int) := by omega
            rw [← hm] at hcx hcy
            have Hm := Lib.hid hm
            have Hlt := Lib.hid hlt
            clear hm hlt hk
            have hwk : IntKind.i64.wrap (k0 - 1) = k0 - 1 := by rw [IntKind.wrap_i64]; omega
            have hwm : IntKind.i64.wrap ((m : Int) + 1) = (m : Int) + 1 := by rw [IntKind.wrap_i64]; omega
            by_cases hx1 : inB x 0 (k0 - 1) = true
            · obtain ⟨hxa, hxb⟩ := inB_true hx1
              have hwx : IntKind.i64.wrap (x + 1) = x + 1 := by rw [IntKind.wrap_i64]; omega
              by_cases hy1 : inB y (x + 1) (k0 - 1) = true
              · obtain ⟨hya, hyb⟩ := inB_true hy1
                cases k with
                | zero =>
                  obtain rfl : m = 0 := Hm.out
                  have hvs : Hid (∀ j, j < 0 + 1 → okAt k0 xs j = true) := by
                    intro j hj
                    obtain rfl : j = 0 := by omega
                    unfold okAt edgeOk; rw [Hat.out]; simp [hx1, hy1, edgeBefore, lexB]
                  have h0l := Hlt.out
                  have hcx0 : w.cell? ⟨b, off, none⟩ = some (.int .i64 x) := hcx
                  have hcy0 : w.cell? ⟨b, off + 1, none⟩ = some (.int .i64 y) := by simpa using hcy
                  clear Hat hv hcx hcy hwm Hm Hlt
                  go_wp2
                  go_quiet ((go_at_call 20; exact quiet_add (l00In_q (by assumption))))
                  go_wp2
                  go_quiet (fail)
                  go_wp2
                  go_roundw
                  case rel => exact ⟨0 + 1, 0 + 2, _, by omega, rfl, by go_num, hvs, rfl⟩
                  case measure => simp only [intOf]; omega
                | succ k =>
                  have hvk : ∀ j, j < k + 1 → okAt k0 xs j = true := hv.out
                  obtain ⟨b', off', x', hb', _, hx', hcx'⟩ := h.atI (k := 2 * k) (by have := Hlt.out; omega)
                  obtain ⟨rfl, rfl⟩ : b = b' ∧ off = off' := by simpa using hb'
                  obtain ⟨b', off', y', hb', _, hy', hcy'⟩ := h.atI (k := 2 * k + 1) (by have := Hlt.out; omega)
                  obtain ⟨rfl, rfl⟩ : b = b' ∧ off = off' := by simpa using hb'
                  have Hbe := Lib.hid (edgeAt_of hx'.out hy'.out)
                  clear hb' hx' hy'
                  have hmm := Hm.out
                  obtain ⟨m', hm'⟩ : ∃ m', m' = 2 * k := ⟨_, rfl⟩
                  rw [← hm'] at hcx' hcy'
                  have hwm2 : IntKind.i64.wrap ((m : Int) - 2) = (m' : Int) := by rw [IntKind.wrap_i64]; omega
                  have hwm1 : IntKind.i64.wrap ((m : Int) - 1) = (m' : Int) + 1 := by rw [IntKind.wrap_i64]; omega
                  have hl1 : (m' : Int) < (xs.length : Int) := by omega
                  have hl2 : (m' : Int) + 1 < (xs.length : Int) := by omega
                  have hm0 : (0 : Int) < (m : Int) := by omega
                  have hm0n : 0 < m := by omega
                  have hok : Hid (okAt k0 xs (k + 1) = (decide (x' < x) || decide (x' = x ∧ y' < y))) := by
                    show _ = _
                    unfold okAt edgeOk; rw [Hat.out]; simp only [hx1, hy1, edgeBefore, Hbe.out, lexB, Bool.true_and]
                  have Hvk := Lib.hid hvk
                  clear hmm hm' hvk hv Hat Hbe
                  by_cases hlx : x < x'
                  · have hr : Hid (areEdges xs k0 = false) := areEdges_no Hlt.out (by rw [hok.out]; simp; omega)
                    go_wp2
                    go_quiet ((go_at_call 20; exact quiet_add (l00In_q (by assumption))))
                    go_wp2
                    go_quiet (fail)
                    go_wp2
                    go_ret
                    exact ⟨by rw [hr.out]; rfl, _, by rw [World.drewN_drewN, World.drewN_drewN]⟩
                  · by_cases hex : x = x'
                    · subst hex
                      by_cases hly : y ≤ y'
                      · have hr : Hid (areEdges xs k0 = false) := areEdges_no Hlt.out (by rw [hok.out]; simp; omega)
                        go_wp2
                        go_quiet ((go_at_call 20; exact quiet_add (l00In_q (by assumption))))
                        go_wp2
                        go_quiet (fail)
                        go_wp2
                        go_ret
                        exact ⟨by rw [hr.out]; rfl, _, by rw [World.drewN_drewN, World.drewN_drewN]⟩
                      · have hvs : Hid (∀ j, j < k + 1 + 1 → okAt k0 xs j = true) := by
                          intro j hj
                          by_cases hjk : j < k + 1
                          · exact Hvk.out j hjk
                          · obtain rfl : j = k + 1 := by omega
                            rw [hok.out]; simp; omega
                        have hd2 : decide (y ≤ y') = false := by simpa using hly
                        go_wp2
                        go_quiet ((go_at_call 20; exact quiet_add (l00In_q (by assumption))))
                        go_wp2
                        go_quiet (fail)
                        go_wp2
                        go_roundw
                        case rel => exact ⟨k + 1 + 1, m + 2, _, by have := Hlt.out; omega, by have := Hm.out; omega, by go_num, hvs, rfl⟩
                        case measure => simp only [intOf]; omega
                    · have hvs : Hid (∀ j, j < k + 1 + 1 → okAt k0 xs j = true) := by
                        intro j hj
                        by_cases hjk : j < k + 1
                        · exact Hvk.out j hjk
                        · obtain rfl : j = k + 1 := by omega
                          rw [hok.out]; simp; omega
                      have hd1 : decide (x < x') = false := by simpa using hlx
                      have hd2 : (x == x') = false := by simpa using hex
                      go_wp2
                      go_quiet ((go_at_call 20; exact quiet_add (l00In_q (by assumption))))
                      go_wp2
                      go_quiet (fail)
                      go_wp2
                      go_roundw
                      case rel => exact ⟨k + 1 + 1, m + 2, _, by have := Hlt.out; omega, by have := Hm.out; omega, by go_num, hvs, rfl⟩
                      case measure => simp only [intOf]; omega
              · have hy2 : inB y (x + 1) (k0 - 1) = false := by simpa using hy1
                clear hy1
                have hr : Hid (areEdges xs k0 = false) := areEdges_no Hlt.out (by unfold okAt edgeOk; rw [Hat.out]; simp [hy2])
                clear Hat hv
                go_wp2
                go_quiet ((go_at_call 20; exact quiet_add (l00In_q (by assumption))))
                go_wp2
                go_ret
                exact ⟨by rw [hr.out]; rfl, _, World.drewN_drewN _ _ _⟩
            · have hx2 : inB x 0 (k0 - 1) = false := by simpa using hx1
              clear hx1
              have hr : Hid (areEdges xs k0 = false) := areEdges_no Hlt.out (by unfold okAt edgeOk; rw [Hat.out]; simp [hx2])
              clear Hat hv
              go_wp2
              go_quiet ((go_at_call 20; exact quiet_add (l00In_q (by assumption))))
              go_wp2
              go_ret
              exact ⟨by rw [hr.out]; rfl, _, World.drewN_drewN _ _ _⟩
          · obtain rfl : k = xs.length / 2 := by omega
            have hr := Lib.hid (areEdges_yes h1 h2 h3 hv.out)
            have hge : ¬ (m : Int) < (xs.length : Int) := by omega
            clear hv
            go_wp2
            go_ret
            exact ⟨by rw [hr.out]; rfl, _, rfl⟩
      · have hr : areEdges xs k0 = false := by unfold areEdges; simp [h3]
        have h3' : 512 < (xs.length : Int) := by omega
        rw [hr]
        rw [h2] at hmod
        clear hr
        go_enter Try.func27, Try.ntmps27
        go_wp2_with (go_at_call 43; refine (l04Count_any _ _).mono ?_; rintro e w' ⟨rfl, rfl⟩; rw [h1])
        go_ret
        exact ⟨rfl, 0, rfl⟩
    · have hr : areEdges xs k0 = false := by unfold areEdges; simp [h2]
      have h2' : xs.length % 2 = 1 := by omega
      rw [hr]
      rw [h2'] at hmod
      clear hr
      go_enter Try.func27, Try.ntmps27
      go_wp2_with (go_at_call 43; refine (l04Count_any _ _).mono ?_; rintro e w' ⟨rfl, rfl⟩; rw [h1])
      go_ret
      exact ⟨rfl, 0, rfl⟩
  · have hr : areEdges xs k0 = false := by unfold areEdges; simp [h1]
    rw [hr]
    clear hr
    have h1' : inB k0 1 64 = false := by simpa using h1
    go_enter Try.func27, Try.ntmps27
    go_wp2_with (go_at_call 43; refine (l04Count_any _ _).mono ?_; rintro e w' ⟨rfl, rfl⟩; rw [h1'])
    go_ret
    exact ⟨rfl, 0, rfl⟩
end Go.Proofs.Ytgkbkbmhdhlffaa
