/- Texts that stand side by side: GapsI, PairsI, PeriodI. -/
import Derived.Test.YtlgpcojoonnlbaaZ00
import Derived.Test.YtlgpcojoonnlbaaBump
import Derived.Test.YtlgpcojoonnlbaaRange
import Derived.Test.YtlgpcojoonnlbaaWordsP
import Derived.StillTailTactics
import Derived.Maps.OwnOps
import Derived.Maps.OwnSet
section
/- GapsIn at the level 2^31: sixteen counts, their sum. -/
namespace Go.Proofs.Ytlgpcojoonnlbaa
open Go.RowKit
set_option maxRecDepth 100000
set_option maxHeartbeats 4000000 in
theorem implGaps_p (A : Option Addr) (n c B : Nat) (xs : List Int) (w : World) (h : Rd w B A n (i64s xs)) (hB : B ≤ w.heap.size) (hw : areWords xs = true) :
    Calls Try.prog 10 #[.slice A n c, .int .i64 2147483648] w fun e w' => ∃ v ys, e = .returned (.tuple #[v, .bool true]) ∧ Own w' w.heap.size 2 v (i64s ys) ∧ ys.length = 16 ∧ totN ys = max 0 ((smallN xs : Int) - 1) ∧ bdN ys xs.length ∧ Below w.heap.size w w' := by
  have hl := h.lenI
  obtain rfl : xs.length = n := hl.out
  have hx5 : xs.length ≤ 256 := by unfold areWords at hw; simp only [Bool.and_eq_true] at hw; have := inB_true hw.1; omega
  have hin := Lib.hid (fun (i : Nat) (x : Int) (hx : xs[i]? = some x) => allWords_at (xs := xs) (by unfold areWords at hw; simp only [Bool.and_eq_true] at hw; exact hw.2) hx)
  have HR := Lib.hid h
  have Hw := Lib.hid hw
  clear h hl hw
  obtain ⟨i0, hi0, hz0, hz1, hz2⟩ := info_parts info_i64'
  go_enter Try.func10, Try.ntmps10
  go_wp2_with first
    | (go_at_call 24; refine (implAreWords_any A xs.length c B xs _ HR.out (by omega)).mono ?_; rintro e w1 ⟨rfl, rfl⟩; rw [Hw.out])
    | (go_at_call 22; refine (within_any _ _ _ _).mono ?_; rintro e w' ⟨rfl, rfl⟩; rw [inB_mk (by omega)])
    | (at_make; refine wpList_make_full _ rfl _ _ 29 rfl w.heap.size 2 i0 (.int .i64 0) 1 Try.underlying29 hi0 hz0 hz1 _ _ _ _ 16 rfl rfl rfl rfl ?c1 ?c2 ?c3 ?_)
  case c1 => rw [hz2]; omega
  case c2 => unfold maxLen; omega
  case c3 => exact Nat.le_refl _
  intro w1 hown hgrow
  clear hi0 hz0 hz1 hz2
  have ho1 : Own w1 w.heap.size 2 (.slice (some ⟨w.heap.size, 0, none⟩) 16 16) (i64s (List.replicate 16 0)) := by
    unfold Own
    rw [madeCells_one] at hown
    simpa [i64s] using hown
  have HO := Lib.hid ho1
  have HB := Lib.hid ((Below.refl w.heap.size w).grown hgrow (Nat.le_refl _) (by simp))
  clear hown ho1 hgrow
  go_wp2
  go_loopw [7, 21] (fun b i wr => ∃ (k : Nat) (z : Int) (ys : List Int), k ≤ xs.length ∧ i = .int .i64 k ∧ b = .int .i64 z ∧ (-1 ≤ z ∧ z < k) ∧ ((z < 0 ∧ smallN (xs.take k) = 0) ∨ (0 ≤ z ∧ 1 ≤ smallN (xs.take k))) ∧ ys.length = 16 ∧ totN ys = max 0 ((smallN (xs.take k) : Int) - 1) ∧ bdN ys k ∧ Own wr w.heap.size 2 (.slice (some ⟨w.heap.size, 0, none⟩) 16 16) (i64s ys) ∧ Below w.heap.size w wr) (fun _ i _ => xs.length - (intOf i).toNat)
  case atStart => exact ⟨0, -1, _, Nat.zero_le _, rfl, rfl, by omega, .inl ⟨by omega, rfl⟩, by simp, by rw [totN_zero]; rfl, bdN_zero 16 (by omega), HO.out, HB.out⟩
  case round =>
    obtain ⟨k, z, ys, hk, rfl, rfl, hz, hs, hyl, hyt, hyb, hO, hbel⟩ := hrel
    have HO' := Lib.hid hO; have HB' := Lib.hid hbel
    have Hs := Lib.hid hs; have Hyt := Lib.hid hyt; have Hyb := Lib.hid hyb
    clear hO hbel hs hyt hyb
    by_cases hlt : k < xs.length
    · have hlt' : (k : Int) < (xs.length : Int) := by omega
      have hR2 := HR.out.below HB'.out hB
      obtain ⟨b, off, x, rfl, hbB, hx, hcx⟩ := hR2.atI (k := k) hlt
      obtain ⟨hx0, hx1⟩ := hin.out k x hx.out
      have hst := Lib.hid (smallN_take hx.out)
      clear hR2
      by_cases hge : x ≥ 2147483648
      · have hs2 : Hid (smallN (xs.take (k + 1)) = smallN (xs.take k)) := by show _ = _; rw [hst.out, if_neg (by omega)]; rfl
        clear hst
        go_wp2
        go_roundw
        case rel => exact ⟨k + 1, z, ys, by omega, by go_num, rfl, by omega, by rw [hs2.out]; exact Hs.out, hyl, by rw [hs2.out]; exact Hyt.out, bdN_mono Hyb.out (by omega), HO'.out, HB'.out⟩
        case measure => simp only [intOf]; omega
      · have hs2 : Hid (smallN (xs.take (k + 1)) = smallN (xs.take k) + 1) := by show _ = _; rw [hst.out, if_pos (by omega)]
        clear hst
        by_cases hz0 : z ≥ 0
        · have hs1 : Hid (1 ≤ smallN (xs.take k)) := by show _ ≤ _; rcases Hs.out with h | h <;> omega
          obtain ⟨e, he⟩ : ∃ e : Nat, e = (min ((k : Int) - z - 1) 15).toNat := ⟨_, rfl⟩
          have he16 : e < 16 := by omega
          obtain ⟨g, y, hA, hy, hcy, hfy⟩ := HO'.out.atI (k := e) (by omega)
          obtain rfl : w.heap.size = g := by injection hA with e; injection e
          have hyd : y = ys.getD e 0 := by rw [List.getD_eq_getElem?_getD, hy.out]; rfl
          have hyb2 := Hyb.out e
          rw [← hyd] at hyb2
          have hst := HO'.out.stored rfl e (y + 1)
          have hrow : ys.set e (y + 1) = bumpN ys e := by rw [bumpN, ← hyd]
          rw [hrow] at hst
          have HOs := Lib.hid hst.1
          have HBs := Lib.hid (HB'.out.setCell (p := ⟨w.heap.size, e, none⟩) (Nat.le_refl _) (.int .i64 (y + 1)))
          clear hst hrow hy hyd hA
          subst he
          go_wp2
          go_roundw
          case rel => exact ⟨k + 1, k, bumpN ys (min ((k : Int) - z - 1) 15).toNat, by omega, by go_num, rfl, by omega, .inr ⟨by omega, by rw [hs2.out]; omega⟩, by rw [bumpN_len]; exact hyl, by rw [bumpN_tot (by omega), hs2.out, Hyt.out]; have := hs1.out; omega, bdN_bump Hyb.out _, HOs.out, HBs.out⟩
          case measure => simp only [intOf]; omega
        · have hs1 : Hid (smallN (xs.take k) = 0) := by show _ = _; rcases Hs.out with h | h <;> omega
          go_wp2
          go_roundw
          case rel => exact ⟨k + 1, k, ys, by omega, by go_num, rfl, by omega, .inr ⟨by omega, by rw [hs2.out]; omega⟩, hyl, by rw [hs2.out, Hyt.out, hs1.out]; rfl, bdN_mono Hyb.out (by omega), HO'.out, HB'.out⟩
          case measure => simp only [intOf]; omega
    · obtain rfl : k = xs.length := by omega
      have hyt2 := Hyt.out
      rw [List.take_length] at hyt2
      have Hyt2 := Lib.hid hyt2
      clear hyt2 Hyt Hs
      go_wp2
      go_ret2
      exact ⟨_, ys, rfl, HO'.out, hyl, Hyt2.out, Hyb.out, HB'.out⟩
end Go.Proofs.Ytlgpcojoonnlbaa
end
section
/- PairsIn: d * d counts, and their sum. -/
namespace Go.Proofs.Ytlgpcojoonnlbaa
open Go.RowKit
set_option maxRecDepth 100000
set_option maxHeartbeats 4000000 in
theorem implPairs_p (A : Option Addr) (n c B d : Nat) (xs : List Int) (w : World) (h : Rd w B A n (i64s xs)) (hB : B ≤ w.heap.size) (hw : areWords xs = true) (hd : 1 ≤ d ∧ d ≤ 16) :
    Calls Try.prog 12 #[.slice A n c, .int .i64 d] w fun e w' => ∃ v ys, e = .returned (.tuple #[v, .bool true]) ∧ Own w' w.heap.size 2 v (i64s ys) ∧ ys.length = d * d ∧ totN ys = xs.length / 2 ∧ bdN ys xs.length ∧ Below w.heap.size w w' := by
  have hl := h.lenI
  obtain rfl : xs.length = n := hl.out
  have hx5 : xs.length ≤ 256 := by unfold areWords at hw; simp only [Bool.and_eq_true] at hw; have := inB_true hw.1; omega
  have hin := Lib.hid (fun (i : Nat) (x : Int) (hx : xs[i]? = some x) => allWords_at (xs := xs) (by unfold areWords at hw; simp only [Bool.and_eq_true] at hw; exact hw.2) hx)
  have HR := Lib.hid h
  have Hw := Lib.hid hw
  clear h hl hw
  have hd2 : 1 ≤ d * d ∧ d * d ≤ 256 := ⟨Nat.mul_le_mul hd.1 hd.1, Nat.mul_le_mul hd.2 hd.2⟩
  have hdd : (d : Int) * (d : Int) = ((d * d : Nat) : Int) := by rw [Int.natCast_mul]
  obtain ⟨D, hD⟩ : ∃ D, d * d = D := ⟨_, rfl⟩
  rw [hD] at hdd hd2
  have Hd := Lib.hid hD
  clear hD
  obtain ⟨i0, hi0, hz0, hz1, hz2⟩ := info_parts info_i64'
  go_enter Try.func12, Try.ntmps12
  go_wp2_with first
    | (go_at_call 24; refine (implAreWords_any A xs.length c B xs _ HR.out (by omega)).mono ?_; rintro e w1 ⟨rfl, rfl⟩; rw [Hw.out])
    | (go_at_call 22; refine (within_any _ _ _ _).mono ?_; rintro e w' ⟨rfl, rfl⟩; rw [inB_mk (by omega)])
    | (at_make; refine wpList_make_full _ rfl _ _ 29 rfl w.heap.size 2 i0 (.int .i64 0) 1 Try.underlying29 hi0 hz0 hz1 _ _ _ _ D rfl rfl rfl rfl ?c1 ?c2 ?c3 ?_)
  case c1 => rw [hz2]; omega
  case c2 => unfold maxLen; omega
  case c3 => exact Nat.le_refl _
  intro w1 hown hgrow
  clear hi0 hz0 hz1 hz2
  have ho1 : Own w1 w.heap.size 2 (.slice (some ⟨w.heap.size, 0, none⟩) D D) (i64s (List.replicate D 0)) := by
    unfold Own
    rw [madeCells_one] at hown
    simpa [i64s] using hown
  have HO := Lib.hid ho1
  have HB := Lib.hid ((Below.refl w.heap.size w).grown hgrow (Nat.le_refl _) (by simp))
  clear hown ho1 hgrow
  go_wp2
  go_loopw [7] (fun i wr => ∃ (k : Nat) (ys : List Int), 2 * k ≤ xs.length ∧ i = .int .i64 ((2 * k : Nat) : Int) ∧ ys.length = D ∧ Hid (totN ys = k) ∧ Hid (bdN ys k) ∧ Own wr w.heap.size 2 (.slice (some ⟨w.heap.size, 0, none⟩) D D) (i64s ys) ∧ Below w.heap.size w wr) (fun i _ => xs.length + 2 - (intOf i).toNat)
  case atStart => exact ⟨0, _, by omega, rfl, by simp, by show _ = _; rw [totN_zero]; rfl, bdN_zero D (by omega), HO.out, HB.out⟩
  case round =>
    obtain ⟨k, ys, hk, rfl, hyl, Ht, Hb, hO, hbel⟩ := hrel
    have HO' := Lib.hid hO; have HB' := Lib.hid hbel
    clear hO hbel
    obtain ⟨p, hp⟩ : ∃ p, 2 * k = p := ⟨_, rfl⟩
    rw [hp]
    have Hp := Lib.hid hp
    by_cases hlt : p + 1 < xs.length
    · have hlt' : (p : Int) + 1 < (xs.length : Int) := by omega
      have hlt2 : (p : Int) < (xs.length : Int) := by omega
      have hR2 := HR.out.below HB'.out hB
      obtain ⟨b, off, x, rfl, hbB, hx, hcx⟩ := hR2.atI (k := p) (by omega)
      obtain ⟨p1, hp1⟩ : ∃ p1, p + 1 = p1 := ⟨_, rfl⟩
      obtain ⟨b', off', y, hA', _, hy, hcy⟩ := hR2.atI (k := p1) (by omega)
      obtain ⟨rfl, rfl⟩ : b = b' ∧ off = off' := by injection hA' with e; injection e with e1 e2; exact ⟨e1, e2⟩
      obtain ⟨hx0, hx1⟩ := hin.out p x hx.out
      obtain ⟨hy0, hy1⟩ := hin.out p1 y hy.out
      clear hR2 hA'
      have Hk := Lib.hid hk
      clear hp hk
      obtain ⟨q1, hq1⟩ : ∃ q1 : Nat, x * (d : Int) / 4294967296 = (q1 : Int) := ⟨(x * (d : Int) / 4294967296).toNat, by have := (cell_in (w := x) (d := d) ⟨hx0, hx1⟩ (by omega)).1; omega⟩
      obtain ⟨q2, hq2⟩ : ∃ q2 : Nat, y * (d : Int) / 4294967296 = (q2 : Int) := ⟨(y * (d : Int) / 4294967296).toNat, by have := (cell_in (w := y) (d := d) ⟨hy0, hy1⟩ (by omega)).1; omega⟩
      have hb1 := cell_in (w := x) (d := d) ⟨hx0, hx1⟩ (by omega)
      have hb2 := cell_in (w := y) (d := d) ⟨hy0, hy1⟩ (by omega)
      rw [hq1] at hb1
      rw [hq2] at hb2
      have hcell := cells_in hb1 hb2
      have hxd : 0 ≤ x * (d : Int) ∧ x * (d : Int) ≤ 68719476720 := ⟨Int.mul_nonneg hx0 (by omega), by have := Int.mul_le_mul hx1 (show (d : Int) ≤ 16 by omega) (by omega) (by omega); omega⟩
      have hyd : 0 ≤ y * (d : Int) ∧ y * (d : Int) ≤ 68719476720 := ⟨Int.mul_nonneg hy0 (by omega), by have := Int.mul_le_mul hy1 (show (d : Int) ≤ 16 by omega) (by omega) (by omega); omega⟩
      have hqd : 0 ≤ (q1 : Int) * (d : Int) ∧ (q1 : Int) * (d : Int) ≤ 256 := ⟨Int.mul_nonneg (by omega) (by omega), by have := Int.mul_le_mul (show (q1 : Int) ≤ 16 by omega) (show (d : Int) ≤ 16 by omega) (by omega) (by omega); omega⟩
      rw [hdd] at hcell
      obtain ⟨e, he⟩ : ∃ e : Nat, (q1 : Int) * (d : Int) + (q2 : Int) = (e : Int) := ⟨((q1 : Int) * (d : Int) + (q2 : Int)).toNat, by omega⟩
      have heD : e < D := by omega
      have heD' : (e : Int) < (D : Int) := by omega
      obtain ⟨g, z, hA, hz, hcz, hfz⟩ := HO'.out.atI (k := e) (by omega)
      obtain rfl : w.heap.size = g := by injection hA with e; injection e
      have hzd : z = ys.getD e 0 := by rw [List.getD_eq_getElem?_getD, hz.out]; rfl
      have hzb2 := Hb.out e
      rw [← hzd] at hzb2
      have hst := (HO'.out.drewN 1).stored rfl e (z + 1)
      have hrow : ys.set e (z + 1) = bumpN ys e := by rw [bumpN, ← hzd]
      rw [hrow] at hst
      have HOs := Lib.hid hst.1
      have HBs := Lib.hid ((below_drewN HB'.out 1).setCell (p := ⟨w.heap.size, e, none⟩) (Nat.le_refl _) (.int .i64 (z + 1)))
      have hbt := Lib.hid (bumpN_tot (a := ys) (k := e) (by omega))
      have hbb := Lib.hid (bdN_bump Hb.out e)
      clear hst hrow hz hzd hA hcell hb1 hb2
      have hzk : z ≤ 1000 := by have := Hk.out; omega
      have hz0 := hzb2.1
      clear hzb2
      have hw1 : IntKind.i64.wrap (x * (d : Int)) = x * (d : Int) := by rw [IntKind.wrap_i64]; omega
      have hw1' : IntKind.i64.wrap (y * (d : Int)) = y * (d : Int) := by rw [IntKind.wrap_i64]; omega
      have ht1 : (x * (d : Int)).tdiv 4294967296 = (q1 : Int) := by rw [Int.tdiv_eq_ediv_of_nonneg hxd.1]; exact hq1
      have ht2 : (y * (d : Int)).tdiv 4294967296 = (q2 : Int) := by rw [Int.tdiv_eq_ediv_of_nonneg hyd.1]; exact hq2
      have hw2 : IntKind.i64.wrap (q1 : Int) = (q1 : Int) := by rw [IntKind.wrap_i64]; omega
      have hw2' : IntKind.i64.wrap (q2 : Int) = (q2 : Int) := by rw [IntKind.wrap_i64]; omega
      have hw3 : IntKind.i64.wrap ((q1 : Int) * (d : Int)) = (q1 : Int) * (d : Int) := by rw [IntKind.wrap_i64]; omega
      have hw4 : IntKind.i64.wrap ((p : Int) + 1) = (p1 : Int) := by rw [IntKind.wrap_i64]; omega
      have hp1l : (p1 : Int) < (xs.length : Int) := by omega
      have Hp1 := Lib.hid hp1
      clear hp1
      have hw5 : IntKind.i64.wrap (e : Int) = (e : Int) := by rw [IntKind.wrap_i64]; omega
      have hw6 : IntKind.i64.wrap (z + 1) = z + 1 := by rw [IntKind.wrap_i64]; omega
      go_wp2_with fail
      go_still_tail 23, (by kernel_rfl)
      change wpList _ _ _ _ _ wr.drew
      go_wp2
      go_roundw
      case rel => exact ⟨k + 1, bumpN ys e, by have := Hp.out; omega, by have := Hp.out; go_num, by rw [bumpN_len]; exact hyl, by show _ = _; rw [hbt.out, Ht.out]; omega, hbb.out, HOs.out, HBs.out⟩
      case measure => have := Hp.out; simp only [intOf]; omega
    · go_wp2
      go_ret2
      exact ⟨_, ys, rfl, HO'.out, by rw [hyl, Hd.out], by rw [Ht.out]; have := Hp.out; omega, bdN_mono Hb.out (by omega), HB'.out⟩
end Go.Proofs.Ytlgpcojoonnlbaa
end
section
/- SmallPeriod at the modulus 11 without a summand: a pure period that divides ten. -/
namespace Go.Proofs.Ytlgpcojoonnlbaa
open Go.RowKit Go.Maps
set_option maxRecDepth 100000
def seenM (a x : Nat) : Nat → DataW Unit
  | 0 => .map []
  | n + 1 => (seenM a x n).put (.int .i64 (perX a x n)) (.lit (.int .i64 n))
theorem seenM_isMap (a x : Nat) : ∀ n, IsMap (seenM a x n)
  | 0 => ⟨[], rfl⟩
  | n + 1 => by
    obtain ⟨es, h⟩ := seenM_isMap a x n
    unfold seenM
    rw [h]
    exact ⟨_, rfl⟩
theorem lit_ne {a b : Nat} (h : a ≠ b) : (Lit.int .i64 (a : Int)) ≠ Lit.int .i64 (b : Int) := fun e => h (by injection e with _ e; omega)
theorem seenM_not (a x : Nat) (v : Nat) : ∀ n, (∀ i, i < n → perX a x i ≠ v) → Maps.has (seenM a x n) (.int .i64 (v : Int)) = false
  | 0, _ => rfl
  | n + 1, h => by
    unfold seenM
    rw [has_put_other (lit_ne (fun e => h n (Nat.lt_succ_self n) e.symm)), seenM_not a x v n (fun i hi => h i (by omega))]
theorem seenM_at (a x : Nat) (j : Nat) : ∀ n, j < n → (∀ i, i < n → i ≠ j → perX a x i ≠ perX a x j) → Maps.has (seenM a x n) (.int .i64 (perX a x j : Int)) = true ∧ (seenM a x n).atKey (.int .i64 (perX a x j : Int)) (.lit (.int .i64 0)) = .lit (.int .i64 j)
  | 0, h, _ => by omega
  | n + 1, h, hd => by
    unfold seenM
    by_cases e : j = n
    · subst e
      exact ⟨has_put_same (seenM_isMap a x j) (by trivial) _, atKey_put_same (seenM_isMap a x j) (by trivial) _ _⟩
    · have hne := lit_ne (fun e2 : perX a x j = perX a x n => hd n (Nat.lt_succ_self n) (fun e3 => e e3.symm) e2.symm)
      rw [has_put_other hne, atKey_put_other hne]
      exact seenM_at a x j n (by omega) (fun i hi hij => hd i (by omega) hij)
theorem lawI : Keyed Try.prog 2 := int_keyed Try.underlying2
theorem zeroI (w : World) : (zeroValue 2).run Try.prog w = .ok (.int .i64 0) w := by kernel_rfl
theorem perX_lt (a x : Nat) (hx : x < 11) : ∀ n, perX a x n < 11
  | 0 => hx
  | n + 1 => Nat.mod_lt _ (by omega)
set_option maxHeartbeats 4000000 in
theorem implPeriod_p (a x : Nat) (w : World) (ha : 1 ≤ a ∧ a ≤ 10) (hx : 1 ≤ x ∧ x ≤ 10) :
    Calls Try.prog 17 #[.int .i64 11, .int .i64 a, .int .i64 0, .int .i64 x] w fun e w' => ∃ n : Nat, e = .returned (.tuple #[.int .i64 0, .int .i64 n, .bool true]) ∧ 1 ≤ n ∧ n ≤ 10 ∧ 10 % n = 0 ∧ Below w.heap.size w w' := by
  obtain ⟨N, hN1, hN10, hNd, hNx, hNi⟩ := per_law a (by omega) x (by omega) ha.1 hx.1
  have hmm := @run_makeMap Try.prog
  have HNx := Lib.hid hNx; have HNi := Lib.hid hNi; have HNd := Lib.hid hNd
  clear hNx hNi hNd
  go_enter Try.func17, Try.ntmps17
  go_wp2_with (go_at_call 22; refine (within_any _ _ _ _).mono ?_; rintro e w' ⟨rfl, rfl⟩; rw [inB_mk (by omega)])
  go_loopw [3, 12] (fun v i wr => ∃ (n p : Nat), n ≤ N ∧ i = .int .i64 n ∧ v = .int .i64 p ∧ Hid (p = perX a x n) ∧ wr.ownsMap Try.prog 2 (plainElem Try.prog 2) w.heap.size n (seenM a x n) ∧ Below w.heap.size w wr) (fun _ i _ => N + 1 - (intOf i).toNat)
  case atStart => exact ⟨0, x, Nat.zero_le _, rfl, rfl, rfl, World.ownsMap_made _ _ _ _, (Below.refl _ _).alloc (Nat.le_refl _) _⟩
  case round =>
    obtain ⟨n, p, hn, rfl, rfl, hp, hown, hbel⟩ := hrel
    have hp11 : p < 11 := by rw [hp.out]; exact perX_lt a x (by omega) n
    have hkey : keyOf Try.prog 2 (.int .i64 (p : Int)) = some (.int .i64 (p : Int)) := keyOf_int_mk Try.underlying2 (WalkArith.wf_i64 (by omega))
    have HB := Lib.hid hbel
    clear hbel
    by_cases hlt : n < N
    · have hno : Maps.has (seenM a x n) (.int .i64 (p : Int)) = false := by
        rw [hp.out]
        exact seenM_not a x _ n (fun i hi e => by have := HNi.out i n (by omega) hlt e; omega)
      have hap : 0 ≤ (a : Int) * (p : Int) ∧ (a : Int) * (p : Int) ≤ 100 := ⟨Int.mul_nonneg (by omega) (by omega), Int.mul_le_mul (show (a : Int) ≤ 10 by omega) (show (p : Int) ≤ 10 by omega) (by omega) (by omega)⟩
      have hp2 : Hid ((((a : Int) * (p : Int)) % 11).toNat = perX a x (n + 1)) := by
        show _ = _
        rw [perX, ← hp.out]
        have : ((a : Int) * (p : Int)) % 11 = ((a * p % 11 : Nat) : Int) := by push_cast; rfl
        omega
      go_wp2_with (first
        | (at_lookup; refine wpList_lookup_own_ok_int _ rfl _ _ 66 rfl 2 2 .i64 lawI Try.underlying66 Try.underlying2 (zeroI _) w.heap.size n _ rfl hown _ _ rfl hkey ?_; intro c hat hwc; rw [hno])
        | (at_mapUpdate; refine wpList_mapUpdate_own _ rfl _ _ _ 66 rfl 2 2 lawI Try.underlying66 _ w.heap.size n _ rfl hown (by unfold maxLen; omega) _ _ _ rfl rfl hkey _ [] (plainElem_int Try.underlying2 (WalkArith.wf_i64 (by omega))) ?_; intro w1 hown1 hgrow1)
        | go_in)
      go_roundw
      case rel => exact ⟨n + 1, (((a : Int) * (p : Int)) % 11).toNat, by omega, by go_num, by go_num, hp2, by rw [seenM, ← hp.out]; exact hown1, HB.out.grown hgrow1 HB.out.size (fun j hj => by cases hj; exact Nat.le_refl _)⟩
      case measure => simp only [intOf]; omega
    · obtain rfl : n = N := by omega
      have hx0 : perX a x 0 = p := by rw [hp.out, HNx.out]; rfl
      obtain ⟨hyes, hzero⟩ := seenM_at a x 0 n (by omega) (fun i hi hi0 e => hi0 (HNi.out i 0 hi (by omega) e))
      rw [hx0] at hyes hzero
      have Hz := Lib.hid hzero
      clear hzero hx0
      go_wp2_with (first
        | (at_lookup; refine wpList_lookup_own_ok_int _ rfl _ _ 66 rfl 2 2 .i64 lawI Try.underlying66 Try.underlying2 (zeroI _) w.heap.size n _ rfl hown _ _ rfl hkey ?_; intro c hat hwc; rw [hyes]; obtain rfl : c = 0 := (by rw [Hz.out] at hat; injection hat with hat; injection hat with _ hat; omega))
        | go_in)
      go_ret3
      exact ⟨n, rfl, hN1, hN10, HNd.out, HB.out⟩
end Go.Proofs.Ytlgpcojoonnlbaa
end
