/- slices.Sort of finite float32: the small functions that it calls: less, insertion, reversal. -/
import Derived.Test.YtmhhjegceibjoaaSrt
import Derived.Test.YtmhhjegceibjoaaShapes
import Derived.Test.YtmhhjegceibjoaaFloats
import Derived.BigQuiet
import Derived.Deep.QuietTactic
namespace Go.Proofs.Ytmhhjegceibjoaa
open Go.RowKit
set_option maxRecDepth 100000
attribute [local go_sem] run_store_float'
/-- A list of finite numbers in the block g. -/
structure Dt (w : World) (g n c : Nat) (xs : List Nat) : Prop where
  own : w.ownsRow g 23 1 (.slice (some ⟨g, 0, none⟩) n c) n (f32s xs)
  len : xs.length = n
  fin : AllF xs
theorem f32s_put (xs : List Nat) (j x : Nat) : (f32s xs).set j (.float .f32 x) = f32s (xs.set j x) := by simp [f32s, List.map_set]
theorem f32s_at {xs : List Nat} {j x : Nat} (h : xs[j]? = some x) : (f32s xs)[j]? = some (.float .f32 x) := by simp [f32s, h]
section
variable {w w' : World} {g n c : Nat} {xs : List Nat}
theorem Dt.cell (h : Dt w g n c xs) {i : Nat} (hi : i < n) : w.cell? ⟨g, i, none⟩ = some (.float .f32 (xs.getD i 0)) :=
  (h.own.cellAt i (by omega)).trans (f32s_at (getD_in (by have := h.len; omega)))
theorem Dt.fz (h : Dt w g n c xs) (i : Nat) : w.frozen? ⟨g, i, none⟩ = false := h.own.frozenAt i
theorem Dt.num (h : Dt w g n c xs) {i : Nat} (hi : i < n) : FinK .f32 (xs.getD i 0) := h.fin.at (by have := h.len; omega)
theorem Dt.drew (h : Dt w g n c xs) : Dt w.drew g n c xs := ⟨h.own, h.len, h.fin⟩
theorem Dt.drewN (h : Dt w g n c xs) (q : Nat) : Dt (w.drewN q) g n c xs := ⟨h.own, h.len, h.fin⟩
theorem Dt.swap (h : Dt w g n c xs) {i j : Nat} (hi : i < n) (hj : j < n) :
    Dt ((w.setCell ⟨g, i, none⟩ (.float .f32 (xs.getD j 0))).setCell ⟨g, j, none⟩ (.float .f32 (xs.getD i 0))) g n c (swapL xs i j) ∧ w.grownBy ((w.setCell ⟨g, i, none⟩ (.float .f32 (xs.getD j 0))).setCell ⟨g, j, none⟩ (.float .f32 (xs.getD i 0))) (some g) := by
  have s1 := h.own.stored i (.float .f32 (xs.getD j 0))
  rw [f32s_put] at s1
  have s2 := s1.1.stored j (.float .f32 (xs.getD i 0))
  rw [f32s_put] at s2
  have hl := h.len
  exact ⟨⟨s2.1, by rw [swapL_len]; exact hl, (Sw.swap (a := 0) (b := n) ⟨Nat.zero_le _, hi⟩ ⟨Nat.zero_le _, hj⟩ (by omega)).allF h.fin⟩, grown_trans' s1.2 s2.2⟩
theorem Dt.lt (h : Dt w g n c xs) (hn : 0 < n) : g < w.heap.size := (h.own.lt g rfl).2
end
theorem grownBy_drew {w w' : World} {row : Option Nat} (h : w.grownBy w' row) : w.grownBy w'.drew row := ⟨h.os, h.tape, h.output, h.size, h.block⟩
theorem grownBy_drewN {w w' : World} {row : Option Nat} (h : w.grownBy w' row) (q : Nat) : w.grownBy (w'.drewN q) row := ⟨h.os, h.tape, h.output, h.size, h.block⟩
/-- What a function leaves that puts the numbers from a up to b in another order. -/
def Fx (w : World) (g n c a b : Nat) (xs : List Nat) (P : List Nat → Prop) (w' : World) : Prop := ∃ ys, Hid (Dt w' g n c ys) ∧ Hid (w.grownBy w' (some g)) ∧ Hid (Sw a b xs ys) ∧ Hid (P ys)
def ltB (xs : List Nat) (i j : Nat) : Bool := flt .f32 (xs.getD i 0) (xs.getD j 0)
theorem ltB_true {xs : List Nat} {i j : Nat} (hi : FinK .f32 (xs.getD i 0)) (hj : FinK .f32 (xs.getD j 0)) : ltB xs i j = decide (kA xs i < kA xs j) := flt_KV hi hj
theorem isNaN_any (x : Nat) (w : World) (hx : FinK .f32 x) : Calls Try.prog 36 #[.float .f32 x] w fun e w' => e = .returned (.bool false) ∧ w' = w := by
  have h1 : (FloatKind.f32.format.order x x != some .eq) = false := by rw [order_self (FinK_not_nan hx)]; rfl
  go_enter Try.func36, Try.ntmps36
  go_wp2
  go_ret
  exact ⟨rfl, rfl⟩
theorem less_any (x y : Nat) (w : World) (hx : FinK .f32 x) : Calls Try.prog 26 #[.float .f32 x, .float .f32 y] w fun e w' => e = .returned (.bool (flt .f32 x y)) ∧ w' = w := by
  go_enter Try.func26, Try.ntmps26
  go_wp2_with fail
  refine (isNaN_any x _ hx).mono ?_
  rintro e w1 ⟨rfl, rfl⟩
  cases hl : flt .f32 x y with
  | true =>
    unfold flt at hl
    go_wp2
    go_ret
    exact ⟨by unfold flt; rw [hl]; rfl, rfl⟩
  | false =>
    unfold flt at hl
    go_wp2
    go_ret
    exact ⟨by unfold flt; rw [hl]; rfl, rfl⟩
theorem less_s {x y : Nat} {w : World} {b : Bool} (hx : FinK .f32 x) (hb : flt .f32 x y = b) : Calls Try.prog 26 #[.float .f32 x, .float .f32 y] w fun e w' => e = .returned (.bool b) ∧ w' = w :=
  (less_any x y w hx).mono fun _ _ ⟨he, hw⟩ => ⟨by rw [he, hb], hw⟩
theorem less_q {x y : Nat} {w : World} {b : Bool} (hx : FinK .f32 x) (hb : flt .f32 x y = b) : Calls Try.prog 26 #[.float .f32 x, .float .f32 y] w fun e w' => e = .returned (.bool b) ∧ ∃ m, w' = w.drewN m :=
  (less_any x y w hx).mono fun _ _ ⟨he, hw⟩ => ⟨by rw [he, hb], 0, hw⟩
set_option maxHeartbeats 2000000 in
theorem insSort_any (g n c a b : Nat) (xs : List Nat) (w : World) (h : Dt w g n c xs) (hab : a ≤ b) (hb : b ≤ n) (hn : n ≤ 100000) :
    Calls Try.prog 20 #[.slice (some ⟨g, 0, none⟩) n c, .int .i64 a, .int .i64 b] w fun e w' => e = .returned (.tuple #[]) ∧ Fx w g n c a b xs (Srt a b) w' := by
  have H := Lib.hid h
  clear h
  go_enter Try.func20, Try.ntmps20
  go_wp2_with fail
  go_loopw [6] (fun v wr => ∃ (i : Nat) (ys : List Nat), a + 1 ≤ i ∧ i ≤ n + 1 ∧ v = .int .i64 i ∧ Hid (Dt wr g n c ys) ∧ Hid (w.grownBy wr (some g)) ∧ Hid (Sw a b xs ys) ∧ Hid (Srt a i ys)) (fun v _ => n + 1 - (intOf v).toNat)
  case atStart => exact ⟨a + 1, xs, Nat.le_refl _, by omega, by go_num, H, World.grownBy.refl _ _, Sw.refl _ _ _, Srt.empty a xs (Nat.le_refl _)⟩
  case round =>
    obtain ⟨i, ys, hai, hin, rfl, hD, hG, hS, hT⟩ := hrel
    by_cases hlt : i < b
    · have hlt' : (i : Int) < (b : Int) := by omega
      have hI : Hid (Ins a i i ys) := Ins.start hT.out
      go_wp2_with fail
      go_loopw [7] (fun v wq => ∃ (j : Nat) (zs : List Nat), a ≤ j ∧ j ≤ i ∧ v = .int .i64 j ∧ Hid (Dt wq g n c zs) ∧ Hid (w.grownBy wq (some g)) ∧ Hid (Sw a b xs zs) ∧ Hid (Ins a i j zs)) (fun v _ => (intOf v).toNat)
      case atStart => exact ⟨i, ys, by omega, Nat.le_refl _, rfl, hD, hG, hS, hI⟩
      case round =>
        obtain ⟨j, zs, haj, hji, rfl, hD2, hG2, hS2, hI2⟩ := hrel
        by_cases hja : a < j
        · have hja' : (a : Int) < (j : Int) := by omega
          obtain ⟨p, hp⟩ : ∃ p : Nat, j = p + 1 := ⟨j - 1, by omega⟩
          have hw1 : IntKind.i64.wrap ((j : Int) - 1) = (p : Int) := by rw [IntKind.wrap_i64]; omega
          have hc1 := hD2.out.cell (i := j) (by omega)
          have hc2 := hD2.out.cell (i := p) (by omega)
          have hf1 := hD2.out.fz j
          have hf2 := hD2.out.fz p
          have hx1 := hD2.out.num (i := j) (by omega)
          have hx2 := hD2.out.num (i := p) (by omega)
          have hsw := hD2.out.swap (i := j) (j := p) (by omega) (by omega)
          have hlb := ltB_true hx1 hx2
          obtain ⟨x, hx⟩ : ∃ x, zs.getD j 0 = x := ⟨_, rfl⟩
          obtain ⟨y, hy⟩ : ∃ y, zs.getD p 0 = y := ⟨_, rfl⟩
          unfold ltB at hlb
          rw [hx, hy] at hlb hsw
          rw [hx] at hc1 hx1
          rw [hy] at hc2
          have hpn : (j : Int) < (n : Int) := by omega
          have hpn2 : (p : Int) < (n : Int) := by omega
          have Hp := Lib.hid hp
          have hjp : j ≠ p := by omega
          by_cases hless : kA zs j < kA zs p
          · rw [decide_eq_true hless] at hlb
            have HS := Lib.hid hsw.1
            have HG := Lib.hid (grown_trans' hG2.out hsw.2)
            have HW : Hid (Sw a b xs (swapL zs j p)) := hS2.out.trans (Sw.swap (by omega) (by omega) (by have := hS2.out.len; have := hD2.out.len; omega))
            have HI : Hid (Ins a i p (swapL zs j p)) := by
              have := hI2.out.step hja hji (by have := hD2.out.len; omega) (by rw [show j - 1 = p by omega]; exact hless)
              rw [show j - 1 = p by omega] at this
              exact this
            clear hsw hless hx hy hx2 hp
            go_wp2_with fail
            go_quiet ((go_at_call 26; exact Calls.quiet_of_same (less_s hx1 hlb)))
            go_wp2_with fail
            go_big_region
            go_wp2_with fail
            go_roundw
            case rel => exact ⟨p, swapL zs j p, by have := Hp.out; omega, by have := Hp.out; omega, by go_num, ⟨HS.out.own, HS.out.len, HS.out.fin⟩, ⟨HG.out.os, HG.out.tape, HG.out.output, HG.out.size, HG.out.block⟩, HW, HI⟩
            case measure => have := Hp.out; simp only [intOf]; omega
          · rw [decide_eq_false hless] at hlb
            have HT : Hid (Srt a (i + 1) zs) := hI2.out.stop haj (fun _ => by rw [show j - 1 = p by omega]; omega)
            clear hsw hless hf1 hf2 hx hy hx2 hp
            go_wp2_with fail
            go_quiet ((go_at_call 26; exact Calls.quiet_of_same (less_s hx1 hlb)))
            go_wp2_with fail
            go_roundw
            case rel => exact ⟨i + 1, zs, by omega, by omega, by go_num, ⟨hD2.out.own, hD2.out.len, hD2.out.fin⟩, ⟨hG2.out.os, hG2.out.tape, hG2.out.output, hG2.out.size, hG2.out.block⟩, hS2, HT⟩
            case measure => simp only [intOf]; omega
        · have hja' : decide ((j : Int) > (a : Int)) = false := decide_eq_false (by omega)
          have hja2 : ¬ (a : Int) < (j : Int) := by omega
          have HT : Hid (Srt a (i + 1) zs) := hI2.out.stop haj (fun hc => absurd hc hja)
          go_wp2_with fail
          go_quiet (fail)
          go_wp2_with fail
          go_roundw
          case rel => exact ⟨i + 1, zs, by omega, by omega, by go_num, ⟨hD2.out.own, hD2.out.len, hD2.out.fin⟩, ⟨hG2.out.os, hG2.out.tape, hG2.out.output, hG2.out.size, hG2.out.block⟩, hS2, HT⟩
          case measure => simp only [intOf]; omega
    · have hge : ¬ (i : Int) < (b : Int) := by omega
      have HT : Hid (Srt a b ys) := fun p q h1 h2 h3 => hT.out p q h1 h2 (by omega)
      go_wp2_with fail
      go_end0
      exact ⟨rfl, ys, hD, hG, hS, HT⟩
set_option maxHeartbeats 1000000 in
theorem revRange_any (g n c a b : Nat) (xs : List Nat) (w : World) (h : Dt w g n c xs) (hab : a < b) (hb : b ≤ n) (hn : n ≤ 100000) :
    Calls Try.prog 24 #[.slice (some ⟨g, 0, none⟩) n c, .int .i64 a, .int .i64 b] w fun e w' => e = .returned (.tuple #[]) ∧ Fx w g n c a b xs (fun _ => True) w' := by
  have H := Lib.hid h
  clear h
  go_enter Try.func24, Try.ntmps24
  go_wp2_with fail
  go_loopw [6, 7] (fun v u wr => ∃ (i j : Nat) (ys : List Nat), a ≤ i ∧ i ≤ b ∧ j ≤ b ∧ v = .int .i64 i ∧ u = .int .i64 ((j : Int) - 1) ∧ Hid (Dt wr g n c ys) ∧ Hid (w.grownBy wr (some g)) ∧ Hid (Sw a b xs ys)) (fun v _ _ => n + 1 - (intOf v).toNat)
  case atStart => exact ⟨a, b, xs, Nat.le_refl _, by omega, Nat.le_refl _, rfl, rfl, H, World.grownBy.refl _ _, Sw.refl _ _ _⟩
  case round =>
    obtain ⟨i, j, ys, hai, hib, hjb, rfl, rfl, hD, hG, hS⟩ := hrel
    by_cases hlt : (i : Int) < (j : Int) - 1
    · obtain ⟨p, hp⟩ : ∃ p : Nat, j = p + 1 := ⟨j - 1, by omega⟩
      subst hp
      have hp1 : ((p + 1 : Nat) : Int) - 1 = (p : Int) := by omega
      rw [hp1] at hlt ⊢
      have hc1 := hD.out.cell (i := i) (by omega)
      have hc2 := hD.out.cell (i := p) (by omega)
      have hf1 := hD.out.fz i
      have hf2 := hD.out.fz p
      have hsw := hD.out.swap (i := i) (j := p) (by omega) (by omega)
      have HS := Lib.hid hsw.1
      have HG := Lib.hid (grown_trans' hG.out hsw.2)
      have HW : Hid (Sw a b xs (swapL ys i p)) := hS.out.trans (Sw.swap (by omega) (by omega) (by have := hS.out.len; have := hD.out.len; omega))
      have hin : (i : Int) < (n : Int) := by omega
      have hpn : (p : Int) < (n : Int) := by omega
      clear hsw hp1
      go_wp2_with fail
      go_big_region
      go_wp2_with fail
      go_roundw
      case rel => exact ⟨i + 1, p, swapL ys i p, by omega, by omega, by omega, by go_num, by go_num, ⟨HS.out.own, HS.out.len, HS.out.fin⟩, ⟨HG.out.os, HG.out.tape, HG.out.output, HG.out.size, HG.out.block⟩, HW⟩
      case measure => simp only [intOf]; omega
    · go_wp2_with fail
      go_end0
      exact ⟨rfl, ys, hD, hG, hS, trivial⟩
end Go.Proofs.Ytmhhjegceibjoaa
