/- Numbers with turned digits. -/
import Derived.Test.YticenfholnencaaOrder
import Derived.Test.YticenfholnencaaFin
import Derived.Test.YticenfholnencaaShapesF
namespace Go.Proofs.Yticenfholnencaa
open Go.RowKit
def turnFrom (base : Int) (D : List Int) : Nat → Int → Int → Int → Int × Int
  | 0, _, x, y => (x, y)
  | f + 1, n, x, y => if n = 0 then (x, y) else turnFrom base D f (n / base) (wrap64 (wrap64 (x * base) + D.getD (n % base).toNat 0)) (wrap64 (y * base))
def turnV (n base : Int) (D : List Int) : Nat := fop .quo .f32 (floatOfInt .f32 (turnFrom base D 17 n 0 1).1) (floatOfInt .f32 (turnFrom base D 17 n 0 1).2)
theorem turnFrom_zero {base : Int} {D : List Int} {f : Nat} {x y : Int} : turnFrom base D f 0 x y = (x, y) := by
  cases f with
  | zero => rfl
  | succ f => rw [turnFrom, if_pos rfl]
theorem turnFrom_step {base : Int} {D : List Int} {f : Nat} {n x y d : Int} (h : n ≠ 0) (hd : D[(n % base).toNat]? = some d) : turnFrom base D (f + 1) n x y = turnFrom base D f (n / base) (wrap64 (wrap64 (x * base) + d)) (wrap64 (y * base)) := by
  rw [turnFrom, if_neg h, List.getD, hd]; rfl
set_option maxHeartbeats 1000000 in
theorem implTurned_any (n base : Int) (A : Option Addr) (m c B : Nat) (D : List Int) (w : World) (hn : 0 ≤ n ∧ n ≤ 65535) (hb : 2 ≤ base ∧ base ≤ 16) (hD : (D.length : Int) = base) (h : Rd w B A m (i64s D)) :
    Calls Try.prog 64 #[.int .i64 n, .int .i64 base, .slice A m c] w fun e w' => ∃ r, e = .returned (.float .f32 r) ∧ Hid (cn .f32 r = turnV n base D) ∧ ∃ q, w' = w.drewN q := by
  have hl := h.lenI
  obtain rfl : D.length = m := hl.out
  clear hl
  have HR := Lib.hid h
  have HD := Lib.hid hD
  obtain ⟨hn0, hn1⟩ := hn
  obtain ⟨hb0, hb1⟩ := hb
  have hbz : ¬ base = 0 := by omega
  clear h hD
  obtain ⟨n0, rfl⟩ : ∃ n0, n0 = n := ⟨_, rfl⟩
  go_enter Try.func64, Try.ntmps64
  go_wp2
  go_loopw [0, 7, 8] (fun a x y wr => ∃ (f : Nat) (n' x' y' : Int), a = .int .i64 n' ∧ x = .int .i64 x' ∧ y = .int .i64 y' ∧ 0 ≤ n' ∧ n' < 2 ^ f ∧ n' ≤ 65535 ∧ f ≤ 17 ∧ Hid (turnFrom base D 17 n0 0 1 = turnFrom base D f n' x' y') ∧ wr = w) (fun a _ _ _ => (intOf a).toNat)
  case atStart => exact ⟨17, n0, 0, 1, rfl, rfl, rfl, hn0, by omega, by omega, by omega, rfl, rfl⟩
  case round =>
    obtain ⟨f, n', x', y', rfl, rfl, rfl, h0, hf, hle, hf17, htf, rfl⟩ := hrel
    by_cases hpos : 0 < n'
    · obtain ⟨f', rfl⟩ : ∃ f', f = f' + 1 := ⟨f - 1, by
        cases f with
        | zero => simp at hf; omega
        | succ f => omega⟩
      have hr0 : 0 ≤ n' % base := Int.emod_nonneg _ hbz
      have hr1 : n' % base < base := Int.emod_lt_of_pos _ (by omega)
      have hq0 : 0 ≤ n' / base := Int.ediv_nonneg h0 (by omega)
      have hq1 : n' / base < n' := Int.ediv_lt_of_lt_mul (by omega) (by
        have : n' * 2 ≤ n' * base := Int.mul_le_mul_of_nonneg_left hb0 h0
        omega)
      have hq2 : n' / base < 2 ^ f' := by
        refine Int.ediv_lt_of_lt_mul (by omega) ?_
        have h1 : (2 : Int) ^ (f' + 1) = 2 ^ f' * 2 := Int.pow_succ 2 f'
        have h2 : (2 : Int) ^ f' * 2 ≤ 2 ^ f' * base := Int.mul_le_mul_of_nonneg_left hb0 (Int.le_of_lt (Int.pow_pos (by omega)))
        rw [h1] at hf
        exact Int.lt_of_lt_of_le hf h2
      obtain ⟨rn, hrn⟩ : ∃ rn : Nat, n' % base = (rn : Int) := ⟨(n' % base).toNat, by omega⟩
      have hrl : rn < D.length := by have := HD.out; omega
      obtain ⟨b, off, d, rfl, hbB, hd, hcd⟩ := HR.out.atI hrl
      have hst := turnFrom_step (base := base) (D := D) (f := f') (n := n') (x := x') (y := y') (d := d) (by omega) (by rw [hrn, Int.toNat_natCast]; exact hd.out)
      have Hst := Lib.hid hst
      have Hq2 := Lib.hid hq2
      have hrl' : (rn : Int) < (D.length : Int) := by omega
      clear hst hq2 hf
      go_wp2
      exact ⟨⟨f', n' / base, _, _, rfl, rfl, rfl, hq0, Hq2.out, by omega, by omega, by show _ = _; rw [htf.out, Hst.out], trivial⟩, by simp only [intOf]; omega⟩
    · obtain rfl : n' = 0 := by omega
      have hend : Hid (turnFrom base D 17 n0 0 1 = (x', y')) := by show _ = _; rw [htf.out, turnFrom_zero]
      clear htf hf
      go_wp2_with (refine wpList_fop _ rfl .quo _ _ _ _ rfl rfl .f32 _ _ rfl rfl ?_; intro r q hr)
      go_ret
      exact ⟨r, rfl, by show _ = _; rw [hr.out, turnV, hend.out], q, rfl⟩
set_option maxHeartbeats 1000000 in
theorem specTurned_any (n base : Int) (A : Option Addr) (m c B : Nat) (D : List Int) (w : World) (hn : 0 ≤ n ∧ n ≤ 65535) (hb : 2 ≤ base ∧ base ≤ 16) (hD : (D.length : Int) = base) (h : Rd w B A m (i64s D)) :
    Calls Try.prog 62 #[.int .i64 n, .int .i64 base, .slice A m c] w fun e w' => ∃ r, e = .returned (.float .f32 r) ∧ Hid (cn .f32 r = turnV n base D) ∧ ∃ q, w' = w.drewN q := by
  have hl := h.lenI
  obtain rfl : D.length = m := hl.out
  clear hl
  have HR := Lib.hid h
  have HD := Lib.hid hD
  obtain ⟨hn0, hn1⟩ := hn
  obtain ⟨hb0, hb1⟩ := hb
  have hbz : ¬ base = 0 := by omega
  clear h hD
  obtain ⟨n0, rfl⟩ : ∃ n0, n0 = n := ⟨_, rfl⟩
  go_enter Try.func62, Try.ntmps62
  go_wp2
  go_loopw [0, 7, 8] (fun a x y wr => ∃ (f : Nat) (n' x' y' : Int), a = .int .i64 n' ∧ x = .int .i64 x' ∧ y = .int .i64 y' ∧ 0 ≤ n' ∧ n' < 2 ^ f ∧ n' ≤ 65535 ∧ f ≤ 17 ∧ Hid (turnFrom base D 17 n0 0 1 = turnFrom base D f n' x' y') ∧ wr = w) (fun a _ _ _ => (intOf a).toNat)
  case atStart => exact ⟨17, n0, 0, 1, rfl, rfl, rfl, hn0, by omega, by omega, by omega, rfl, rfl⟩
  case round =>
    obtain ⟨f, n', x', y', rfl, rfl, rfl, h0, hf, hle, hf17, htf, rfl⟩ := hrel
    by_cases hpos : 0 < n'
    · obtain ⟨f', rfl⟩ : ∃ f', f = f' + 1 := ⟨f - 1, by
        cases f with
        | zero => simp at hf; omega
        | succ f => omega⟩
      have hr0 : 0 ≤ n' % base := Int.emod_nonneg _ hbz
      have hr1 : n' % base < base := Int.emod_lt_of_pos _ (by omega)
      have hq0 : 0 ≤ n' / base := Int.ediv_nonneg h0 (by omega)
      have hq1 : n' / base < n' := Int.ediv_lt_of_lt_mul (by omega) (by
        have : n' * 2 ≤ n' * base := Int.mul_le_mul_of_nonneg_left hb0 h0
        omega)
      have hq2 : n' / base < 2 ^ f' := by
        refine Int.ediv_lt_of_lt_mul (by omega) ?_
        have h1 : (2 : Int) ^ (f' + 1) = 2 ^ f' * 2 := Int.pow_succ 2 f'
        have h2 : (2 : Int) ^ f' * 2 ≤ 2 ^ f' * base := Int.mul_le_mul_of_nonneg_left hb0 (Int.le_of_lt (Int.pow_pos (by omega)))
        rw [h1] at hf
        exact Int.lt_of_lt_of_le hf h2
      obtain ⟨rn, hrn⟩ : ∃ rn : Nat, n' % base = (rn : Int) := ⟨(n' % base).toNat, by omega⟩
      have hrl : rn < D.length := by have := HD.out; omega
      obtain ⟨b, off, d, rfl, hbB, hd, hcd⟩ := HR.out.atI hrl
      have hst := turnFrom_step (base := base) (D := D) (f := f') (n := n') (x := x') (y := y') (d := d) (by omega) (by rw [hrn, Int.toNat_natCast]; exact hd.out)
      have Hst := Lib.hid hst
      have Hq2 := Lib.hid hq2
      have hrl' : (rn : Int) < (D.length : Int) := by omega
      clear hst hq2 hf
      go_wp2
      exact ⟨⟨f', n' / base, _, _, rfl, rfl, rfl, hq0, Hq2.out, by omega, by omega, by show _ = _; rw [htf.out, Hst.out], trivial⟩, by simp only [intOf]; omega⟩
    · obtain rfl : n' = 0 := by omega
      have hend : Hid (turnFrom base D 17 n0 0 1 = (x', y')) := by show _ = _; rw [htf.out, turnFrom_zero]
      clear htf hf
      go_wp2_with (refine wpList_fop _ rfl .quo _ _ _ _ rfl rfl .f32 _ _ rfl rfl ?_; intro r q hr)
      go_ret
      exact ⟨r, rfl, by show _ = _; rw [hr.out, turnV, hend.out], q, rfl⟩
def turnedDig (n base : Int) (D : List Int) : Option Nat := if inB n 0 65535 && inB base 2 16 && decide ((D.length : Int) = base) && orderB D then some (turnV n base D) else none
theorem gaveFB_none {w w' : World} {r : Option Nat} (h : r = none) (hb : Below w.heap.size w w') : GaveFB w r (.returned (.tuple #[.float .f32 0, .bool false])) w' := by
  subst h
  exact ⟨0, false, rfl, rfl, cn_of_not (zero_not_nan .f32), hb⟩
theorem gaveFB_some {w w' : World} {r : Option Nat} {x y : Nat} (h : r = some y) (hx : cn .f32 x = y) (hb : Below w.heap.size w w') : GaveFB w r (.returned (.tuple #[.float .f32 x, .bool true])) w' := by
  subst h
  exact ⟨x, true, rfl, rfl, hx, hb⟩
theorem implTurnedDig : FnNNL_FB 51 turnedDig := by
  intro n base A m c B D w _ _ h hB hn hf hcap
  have hl := h.lenI
  obtain rfl : D.length = m := hl.out
  clear hl hf
  go_enter Try.func51, Try.ntmps51
  go_wp2_with fail
  refine (within_any _ _ _ _).mono ?_
  rintro e w1 ⟨rfl, rfl⟩
  cases h1 : inB n 0 65535 with
  | false =>
    have Hn : Hid (turnedDig n base D = none) := by show _ = _; simp [turnedDig, h1]
    clear h1
    go_wp2
    go_ret2
    exact gaveFB_none Hn.out (Below.refl _ _)
  | true =>
    have H1 := Lib.hid h1
    have hn1 := inB_true h1
    clear h1
    go_wp2_with fail
    refine (within_any _ _ _ _).mono ?_
    rintro e w1 ⟨rfl, rfl⟩
    cases h2 : inB base 2 16 with
    | false =>
      have Hn : Hid (turnedDig n base D = none) := by show _ = _; simp [turnedDig, h2]
      clear h2
      go_wp2
      go_ret2
      exact gaveFB_none Hn.out (Below.refl _ _)
    | true =>
      have H2 := Lib.hid h2
      have hb1 := inB_true h2
      clear h2
      by_cases hlen : (D.length : Int) = base
      · have hne : ((D.length : Int) != base) = false := by rw [hlen]; simp
        have Hlen := Lib.hid hlen
        clear hlen
        go_wp2_with fail
        refine (implOrder_any A D.length c B D _ h hB hn).mono ?_
        rintro e w2 ⟨rfl, hb⟩
        have HB := Lib.hid hb
        have HR := Lib.hid (h.below hb hB)
        clear hb h
        cases ho : orderB D with
        | false =>
          have Hn : Hid (turnedDig n base D = none) := by show _ = _; simp [turnedDig, ho]
          clear ho
          go_wp2
          go_ret2
          exact gaveFB_none Hn.out HB.out
        | true =>
          have Hn : Hid (turnedDig n base D = some (turnV n base D)) := by show _ = _; simp [turnedDig, ho, H1.out, H2.out, Hlen.out]
          clear ho
          go_wp2_with fail
          refine (implTurned_any n base A D.length c B D _ hn1 hb1 Hlen.out HR.out).mono ?_
          rintro e w3 ⟨r, rfl, hr, q, rfl⟩
          go_wp2
          go_ret2
          exact gaveFB_some Hn.out hr.out (below_drewN HB.out q)
      · have hne : ((D.length : Int) != base) = true := by simpa using hlen
        have Hn : Hid (turnedDig n base D = none) := by show _ = _; simp [turnedDig, hlen]
        clear hlen
        go_wp2
        go_ret2
        exact gaveFB_none Hn.out (Below.refl _ _)
theorem specTurnedDig : FnNNL_FB 50 turnedDig := by
  intro n base A m c B D w _ _ h hB hn hf hcap
  have hl := h.lenI
  obtain rfl : D.length = m := hl.out
  clear hl hf hcap
  go_enter Try.func50, Try.ntmps50
  go_wp2_with fail
  refine (l00In_any _ _ _ _).mono ?_
  rintro e w1 ⟨rfl, rfl⟩
  cases h1 : inB n 0 65535 with
  | false =>
    have Hn : Hid (turnedDig n base D = none) := by show _ = _; simp [turnedDig, h1]
    clear h1
    go_wp2
    go_ret2
    exact gaveFB_none Hn.out (Below.refl _ _)
  | true =>
    have H1 := Lib.hid h1
    have hn1 := inB_true h1
    clear h1
    go_wp2_with fail
    refine (l00In_any _ _ _ _).mono ?_
    rintro e w1 ⟨rfl, rfl⟩
    cases h2 : inB base 2 16 with
    | false =>
      have Hn : Hid (turnedDig n base D = none) := by show _ = _; simp [turnedDig, h2]
      clear h2
      go_wp2
      go_ret2
      exact gaveFB_none Hn.out (Below.refl _ _)
    | true =>
      have H2 := Lib.hid h2
      have hb1 := inB_true h2
      clear h2
      go_wp2_with fail
      refine (specOrder_any A D.length c B D _ h hB hn).mono ?_
      rintro e w2 ⟨rfl, hb⟩
      have HB := Lib.hid hb
      have HR := Lib.hid (h.below hb hB)
      clear hb h
      cases ho : orderB D with
      | false =>
        have Hn : Hid (turnedDig n base D = none) := by show _ = _; simp [turnedDig, ho]
        clear ho
        go_wp2
        go_ret2
        exact gaveFB_none Hn.out HB.out
      | true =>
        by_cases hlen : (D.length : Int) = base
        · have hne : ((D.length : Int) != base) = false := by rw [hlen]; simp
          have Hn : Hid (turnedDig n base D = some (turnV n base D)) := by show _ = _; simp [turnedDig, ho, H1.out, H2.out, hlen]
          have Hlen := Lib.hid hlen
          clear hlen ho
          go_wp2_with fail
          refine (specTurned_any n base A D.length c B D _ hn1 hb1 Hlen.out HR.out).mono ?_
          rintro e w3 ⟨r, rfl, hr, q, rfl⟩
          go_wp2
          go_ret2
          exact gaveFB_some Hn.out hr.out (below_drewN HB.out q)
        · have hne : ((D.length : Int) != base) = true := by simpa using hlen
          have Hn : Hid (turnedDig n base D = none) := by show _ = _; simp [turnedDig, hlen]
          clear hlen ho
          go_wp2
          go_ret2
          exact gaveFB_none Hn.out HB.out
end Go.Proofs.Yticenfholnencaa
