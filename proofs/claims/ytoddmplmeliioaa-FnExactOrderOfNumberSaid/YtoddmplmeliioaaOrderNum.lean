/- 'OrderOfNumber' of the program and of the reference: digits of a number, then the order of this code. -/
import Derived.Test.YtoddmplmeliioaaOrderCode
namespace Go.Proofs.Ytoddmplmeliioaa
open Go.RowKit

/-- What is left of a number behind j digits. -/
def restN (k : Nat) : Nat → Nat
  | 0 => k
  | j + 1 => restN k j / (j + 1)
/-- The digits of a number: the last one first made. -/
def digitN (k n i : Nat) : Int := ((restN k (n - 1 - i) % (n - i) : Nat) : Int)
def digitsN (k n : Nat) : List Int := (List.range n).map (digitN k n)
theorem digitsN_len (k n : Nat) : (digitsN k n).length = n := by simp [digitsN]
theorem digitsN_get (k n i : Nat) (h : i < n) : (digitsN k n)[i]? = some (digitN k n i) := by simp [digitsN, h]
theorem digitsN_ok (k n : Nat) : codeOk (digitsN k n) = true := by
  rw [codeOk_iff]
  intro i hi
  rw [digitsN_len] at hi
  unfold pickOk
  rw [digitsN_len, List.getD, digitsN_get k n i hi]
  refine inB_mk ?_
  show 0 ≤ digitN k n i ∧ digitN k n i ≤ _
  unfold digitN
  have := Nat.mod_lt (restN k (n - 1 - i)) (show 0 < n - i by omega)
  omega
def orderOfNumber (n k : Int) : Option (List Int) :=
  if inB n 1 20 = true ∧ 0 ≤ k ∧ restN k.toNat n.toNat = 0 then some (outAt (digitsN k.toNat n.toNat) n.toNat) else none
theorem orderOfNumber_short (n k : Int) : ((orderOfNumber n k).getD []).length ≤ 2000000 := by
  unfold orderOfNumber
  split
  · rename_i h
    have := inB_true h.1
    simp [outAt_len]; omega
  · simp
/-- The code when all but the first m digits have been made. -/
def partN (k n m : Nat) : List Int := List.replicate m 0 ++ (digitsN k n).drop m
theorem partN_len (k n m : Nat) (h : m ≤ n) : (partN k n m).length = n := by simp [partN, digitsN_len]; omega
theorem partN_set (k n m : Nat) (h : m < n) : (partN k n (m + 1)).set m (digitN k n m) = partN k n m := by
  unfold partN
  have e : (digitsN k n).drop m = digitN k n m :: (digitsN k n).drop (m + 1) := by
    rw [List.drop_eq_getElem_cons (by rw [digitsN_len]; exact h)]
    congr 1
    have := digitsN_get k n m h
    rw [List.getElem?_eq_getElem (by rw [digitsN_len]; exact h)] at this
    injection this
  rw [e, List.replicate_succ', List.append_assoc]
  rw [show ([(0 : Int)] ++ (digitsN k n).drop (m + 1)) = (0 : Int) :: (digitsN k n).drop (m + 1) from rfl]
  rw [set_append_here _ _ _ _ _ (by simp)]
theorem restN_le (k j : Nat) : restN k j ≤ k := by
  induction j with
  | zero => exact Nat.le_refl _
  | succ j ih => exact Nat.le_trans (Nat.div_le_self _ _) ih

set_option maxHeartbeats 2000000 in
theorem specOrderOfNumber : FnNN_LB 35 orderOfNumber := by
  intro n k w hn hk
  by_cases hin : inB n 1 20 = true
  · by_cases hk0 : 0 ≤ k
    · obtain ⟨n, rfl⟩ := Int.eq_ofNat_of_zero_le (show 0 ≤ n by have := inB_true hin; omega)
      obtain ⟨k, rfl⟩ := Int.eq_ofNat_of_zero_le hk0
      have hb := inB_true hin
      have hb1 : 1 ≤ n := by omega
      have hb2 : n ≤ 20 := by omega
      have hkk : k ≤ 9223372036854775807 := by omega
      obtain ⟨i0, hi, hz0, hz1, hz2⟩ := info_parts info_i64
      clear hn hk hk0
      go_enter Try.func35, Try.ntmps35
      go_wp2_with fail
      refine (l00In_any _ _ _ _).mono ?_
      rintro e w2 ⟨rfl, rfl⟩
      rw [hin]
      go_wp2_with (at_make; refine wpList_make_full _ rfl _ _ 32 rfl w.heap.size 2 i0 (.int .i64 0) 1 Try.underlying32 hi hz0 hz1 _ _ _ _ n rfl rfl rfl rfl ?c1 ?c2 ?c3 ?_)
      case c1 => rw [hz2]; omega
      case c2 => unfold maxLen; omega
      case c3 => exact Nat.le_refl _
      intro w1 hown hgrow
      have ho1 : Own w1 w.heap.size 2 (.slice (some ⟨w.heap.size, 0, none⟩) n n) (i64s (partN k n n)) := by
        unfold Own
        rw [i64s_length, partN_len k n n (Nat.le_refl _)]
        have e : i64s (partN k n n) = (madeCells #[Value.int .i64 0] n).toList := by
          rw [madeCells_one]
          simp [partN, i64s, List.drop_eq_nil_of_le, digitsN_len]
        rw [e]
        exact hown
      have hb1' : Below w.heap.size w w1 := (Below.refl _ _).grown hgrow (Nat.le_refl _) (by simp)
      have HO1 := Lib.hid ho1; have HB1 := Lib.hid hb1'
      have Hin := Lib.hid hin
      clear ho1 hb1' hown hgrow hi hz0 hz1 hz2 hin hb
      go_wp2_with fail
      go_loopw [1, 7] (fun q i wr => ∃ (m r : Nat), m ≤ n ∧ i = .int .i64 ((m : Int) - 1) ∧ q = .int .i64 r ∧ Hid (r = restN k (n - m)) ∧ r ≤ 9223372036854775807 ∧ Own wr w.heap.size 2 (.slice (some ⟨w.heap.size, 0, none⟩) n n) (i64s (partN k n m)) ∧ Below w.heap.size w wr) (fun _ i _ => (intOf i + 1).toNat)
      case atStart => exact ⟨n, k, Nat.le_refl _, by go_num, rfl, by show _ = _; rw [Nat.sub_self]; rfl, hkk, HO1.out, HB1.out⟩
      case round =>
        obtain ⟨m, r, hm, rfl, rfl, hr, hr1, hO, hbel⟩ := hrel
        have HO := Lib.hid hO; have HB := Lib.hid hbel
        have hs := hbel.size
        clear hO hbel HO1 HB1
        rcases Nat.eq_zero_or_pos m with h0 | h0
        · subst h0
          by_cases hrz : r = 0
          · subst hrz
            have hyes : Hid (orderOfNumber n k = some (outAt (digitsN k n) n)) := by
              show _ = _
              unfold orderOfNumber
              rw [if_pos ⟨Hin.out, by omega, by have := hr.out; rw [Nat.sub_zero] at this; exact this.symm⟩]
              rfl
            have hrd := HO.out.rdI
            have hpd : partN k n 0 = digitsN k n := by simp [partN]
            rw [hpd, digitsN_len] at hrd
            have Hrd := Lib.hid hrd
            clear hrd hpd hkk
            go_wp2_with fail
            refine (fromCode_any _ n n _ (digitsN k n) _ Hrd.out (Nat.le_refl _) (by rw [digitsN_len]; omega) (digitsN_ok k n)).mono ?_
            rintro e w2 ⟨v, rfl, ho, hb⟩
            rw [digitsN_len] at ho
            have HO2 := Lib.hid (ho.base_le hs); have HB2 := Lib.hid (HB.out.trans (hb.mono hs))
            clear ho hb
            go_wp2
            go_ret2
            exact ⟨_, _, rfl, by rw [hyes.out]; rfl, by rw [hyes.out]; exact HO2.out, HB2.out⟩
          · have hno : Hid (orderOfNumber n k = none) := by
              show _ = _
              unfold orderOfNumber
              rw [if_neg]
              rintro ⟨_, _, h3⟩
              have := hr.out
              rw [Nat.sub_zero] at this
              exact hrz (this.trans h3)
            have hrp : (0 : Int) < (r : Int) := by omega
            have Hrz := Lib.hid hrz
            clear hrz hkk
            go_wp2
            go_ret2
            exact ⟨_, _, rfl, by rw [hno.out]; rfl, by rw [hno.out]; exact own_none _ _ _, HB.out⟩
        · obtain ⟨m, rfl⟩ : ∃ q, m = q + 1 := ⟨m - 1, by omega⟩
          obtain ⟨g, x, hA, -, hcx, hfx⟩ := HO.out.atI (k := m) (by rw [partN_len k n (m + 1) hm]; omega)
          obtain rfl : w.heap.size = g := by simpa using hA
          have hi1 : ((m + 1 : Nat) : Int) - 1 = (m : Int) := by omega
          have hd1 : (n : Int) - (m : Int) = ((n - m : Nat) : Int) := by omega
          have hd2 : 1 ≤ n - m := by omega
          have hmn : (m : Int) < (n : Int) := by omega
          obtain ⟨dd, hdd⟩ : ∃ dd, dd = n - m := ⟨_, rfl⟩
          rw [← hdd] at hd1 hd2
          obtain ⟨md, hmd⟩ : ∃ md, md = r % dd := ⟨_, rfl⟩
          obtain ⟨qd, hqd⟩ : ∃ qd, qd = r / dd := ⟨_, rfl⟩
          have hmod : (r : Int) % (dd : Int) = (md : Int) := by rw [hmd]; exact (Int.natCast_emod _ _).symm
          have hdiv : (r : Int) / (dd : Int) = (qd : Int) := by rw [hqd]; exact (Int.natCast_ediv _ _).symm
          have hlt2 : md < dd := by rw [hmd]; exact Nat.mod_lt r (show 0 < dd by omega)
          have hle2 : qd ≤ r := by rw [hqd]; exact Nat.div_le_self r dd
          have Hmd := Lib.hid hmd; have Hqd := Lib.hid hqd
          clear hmd hqd
          rw [hi1]
          have Hdd := Lib.hid hdd; have Hmod := Lib.hid hmod; have Hdiv := Lib.hid hdiv
          have hrn : 0 ≤ (r : Int) % (dd : Int) := by rw [hmod]; omega
          have hrn2 : (r : Int) % (dd : Int) ≤ 20 := by rw [hmod]; omega
          have hdn : 0 ≤ (r : Int) / (dd : Int) := by rw [hdiv]; omega
          have hdn2 : (r : Int) / (dd : Int) ≤ 9223372036854775807 := by rw [hdiv]; omega
          clear hA hdd hi1 hkk hmod hdiv
          go_wp2
          go_roundw
          case rel =>
            have hs1 := (HO.out.stored rfl m (digitN k n m)).1
            rw [partN_set k n m (by omega)] at hs1
            have hdg : digitN k n m = ((md : Nat) : Int) := by unfold digitN; rw [Hmd.out, hr.out, Hdd.out, show n - 1 - m = n - (m + 1) by omega]
            rw [hdg] at hs1
            refine ⟨m, qd, by omega, rfl, by rw [← Hdiv.out], ?_, by omega, ?_, ?_⟩
            · show _ = _
              rw [Hqd.out, show n - m = (n - (m + 1)) + 1 by omega, restN, ← hr.out, Hdd.out, show n - (m + 1) + 1 = n - m by omega]
            · rw [Hmod.out]; exact hs1
            · exact HB.out.setCell (Nat.le_refl _) _
          case measure => simp only [intOf]; omega
    · have hno : Hid (orderOfNumber n k = none) := by
        show _ = _
        unfold orderOfNumber
        rw [if_neg]
        rintro ⟨_, h2, _⟩
        exact hk0 h2
      have hk' : k < 0 := by omega
      clear hk0
      go_enter Try.func35, Try.ntmps35
      go_wp2_with fail
      refine (l00In_any _ _ _ _).mono ?_
      rintro e w2 ⟨rfl, rfl⟩
      rw [hin]
      go_wp2
      go_ret2
      exact ⟨_, _, rfl, by rw [hno.out]; rfl, by rw [hno.out]; exact own_none _ _ _, Below.refl _ _⟩
  · have hno : Hid (orderOfNumber n k = none) := by
      show _ = _
      unfold orderOfNumber
      rw [if_neg]
      rintro ⟨h1, _⟩
      exact hin h1
    have hin' : inB n 1 20 = false := by simpa using hin
    clear hin
    go_enter Try.func35, Try.ntmps35
    go_wp2_with fail
    refine (l00In_any _ _ _ _).mono ?_
    rintro e w2 ⟨rfl, rfl⟩
    rw [hin']
    go_wp2
    go_ret2
    exact ⟨_, _, rfl, by rw [hno.out]; rfl, by rw [hno.out]; exact own_none _ _ _, Below.refl _ _⟩
set_option maxHeartbeats 2000000 in
theorem implOrderOfNumber : FnNN_LB 36 orderOfNumber := by
  intro n k w hn hk
  by_cases hin : inB n 1 20 = true
  · by_cases hk0 : 0 ≤ k
    · obtain ⟨n, rfl⟩ := Int.eq_ofNat_of_zero_le (show 0 ≤ n by have := inB_true hin; omega)
      obtain ⟨k, rfl⟩ := Int.eq_ofNat_of_zero_le hk0
      have hb := inB_true hin
      have hb1 : 1 ≤ n := by omega
      have hb2 : n ≤ 20 := by omega
      have hkk : k ≤ 9223372036854775807 := by omega
      obtain ⟨i0, hi, hz0, hz1, hz2⟩ := info_parts info_i64
      clear hn hk hk0
      go_enter Try.func36, Try.ntmps36
      go_wp2_with fail
      refine (within_any _ _ _ _).mono ?_
      rintro e w2 ⟨rfl, rfl⟩
      rw [hin]
      go_wp2_with (at_make; refine wpList_make_full _ rfl _ _ 32 rfl w.heap.size 2 i0 (.int .i64 0) 1 Try.underlying32 hi hz0 hz1 _ _ _ _ n rfl rfl rfl rfl ?c1 ?c2 ?c3 ?_)
      case c1 => rw [hz2]; omega
      case c2 => unfold maxLen; omega
      case c3 => exact Nat.le_refl _
      intro w1 hown hgrow
      have ho1 : Own w1 w.heap.size 2 (.slice (some ⟨w.heap.size, 0, none⟩) n n) (i64s (partN k n n)) := by
        unfold Own
        rw [i64s_length, partN_len k n n (Nat.le_refl _)]
        have e : i64s (partN k n n) = (madeCells #[Value.int .i64 0] n).toList := by
          rw [madeCells_one]
          simp [partN, i64s, List.drop_eq_nil_of_le, digitsN_len]
        rw [e]
        exact hown
      have hb1' : Below w.heap.size w w1 := (Below.refl _ _).grown hgrow (Nat.le_refl _) (by simp)
      have HO1 := Lib.hid ho1; have HB1 := Lib.hid hb1'
      have Hin := Lib.hid hin
      clear ho1 hb1' hown hgrow hi hz0 hz1 hz2 hin hb
      go_wp2_with fail
      go_loopw [1, 7] (fun q i wr => ∃ (m r : Nat), m ≤ n ∧ i = .int .i64 ((m : Int) - 1) ∧ q = .int .i64 r ∧ Hid (r = restN k (n - m)) ∧ r ≤ 9223372036854775807 ∧ Own wr w.heap.size 2 (.slice (some ⟨w.heap.size, 0, none⟩) n n) (i64s (partN k n m)) ∧ Below w.heap.size w wr) (fun _ i _ => (intOf i + 1).toNat)
      case atStart => exact ⟨n, k, Nat.le_refl _, by go_num, rfl, by show _ = _; rw [Nat.sub_self]; rfl, hkk, HO1.out, HB1.out⟩
      case round =>
        obtain ⟨m, r, hm, rfl, rfl, hr, hr1, hO, hbel⟩ := hrel
        have HO := Lib.hid hO; have HB := Lib.hid hbel
        have hs := hbel.size
        clear hO hbel HO1 HB1
        rcases Nat.eq_zero_or_pos m with h0 | h0
        · subst h0
          by_cases hrz : r = 0
          · subst hrz
            have hyes : Hid (orderOfNumber n k = some (outAt (digitsN k n) n)) := by
              show _ = _
              unfold orderOfNumber
              rw [if_pos ⟨Hin.out, by omega, by have := hr.out; rw [Nat.sub_zero] at this; exact this.symm⟩]
              rfl
            have hrd := HO.out.rdI
            have hpd : partN k n 0 = digitsN k n := by simp [partN]
            rw [hpd, digitsN_len] at hrd
            have Hrd := Lib.hid hrd
            clear hrd hpd hkk
            go_wp2_with fail
            refine (implOrderOfCode _ n n _ (digitsN k n) _ Hrd.out (Nat.le_refl _) (by rw [digitsN_len]; omega) (by
              intro x hx
              obtain ⟨i, hi⟩ := List.mem_iff_getElem?.1 hx
              have hil : i < n := by have := (List.getElem?_eq_some_iff.1 hi).1; rwa [digitsN_len] at this
              have h1 := (codeOk_iff _).1 (digitsN_ok k n) i (by rw [digitsN_len]; exact hil)
              unfold pickOk at h1
              rw [List.getD, hi, digitsN_len] at h1
              have := inB_true h1
              simp only [Option.getD_some] at this
              omega) (by unfold maxLen; omega)).mono ?_
            have hr2 : orderOfCode (digitsN k n) = some (outAt (digitsN k n) n) := by
              unfold orderOfCode
              rw [digitsN_len, if_pos ⟨inB_mk (by omega), digitsN_ok k n⟩]
            rw [hr2]
            rintro e w2 ⟨v, ok, rfl, hok, ho, hb⟩
            obtain rfl : ok = true := hok.out
            have HO2 := Lib.hid (ho.base_le hs); have HB2 := Lib.hid (HB.out.trans (hb.mono hs))
            clear ho hb hr2 hok
            go_wp2
            go_ret2
            exact ⟨_, _, rfl, by rw [hyes.out]; rfl, by rw [hyes.out]; exact HO2.out, HB2.out⟩
          · have hno : Hid (orderOfNumber n k = none) := by
              show _ = _
              unfold orderOfNumber
              rw [if_neg]
              rintro ⟨_, _, h3⟩
              have := hr.out
              rw [Nat.sub_zero] at this
              exact hrz (this.trans h3)
            have hrp : (0 : Int) < (r : Int) := by omega
            have Hrz := Lib.hid hrz
            clear hrz hkk
            go_wp2
            go_ret2
            exact ⟨_, _, rfl, by rw [hno.out]; rfl, by rw [hno.out]; exact own_none _ _ _, HB.out⟩
        · obtain ⟨m, rfl⟩ : ∃ q, m = q + 1 := ⟨m - 1, by omega⟩
          obtain ⟨g, x, hA, -, hcx, hfx⟩ := HO.out.atI (k := m) (by rw [partN_len k n (m + 1) hm]; omega)
          obtain rfl : w.heap.size = g := by simpa using hA
          have hi1 : ((m + 1 : Nat) : Int) - 1 = (m : Int) := by omega
          have hd1 : (n : Int) - (m : Int) = ((n - m : Nat) : Int) := by omega
          have hd2 : 1 ≤ n - m := by omega
          have hmn : (m : Int) < (n : Int) := by omega
          obtain ⟨dd, hdd⟩ : ∃ dd, dd = n - m := ⟨_, rfl⟩
          rw [← hdd] at hd1 hd2
          obtain ⟨md, hmd⟩ : ∃ md, md = r % dd := ⟨_, rfl⟩
          obtain ⟨qd, hqd⟩ : ∃ qd, qd = r / dd := ⟨_, rfl⟩
          have hmod : (r : Int) % (dd : Int) = (md : Int) := by rw [hmd]; exact (Int.natCast_emod _ _).symm
          have hdiv : (r : Int) / (dd : Int) = (qd : Int) := by rw [hqd]; exact (Int.natCast_ediv _ _).symm
          have hlt2 : md < dd := by rw [hmd]; exact Nat.mod_lt r (show 0 < dd by omega)
          have hle2 : qd ≤ r := by rw [hqd]; exact Nat.div_le_self r dd
          have Hmd := Lib.hid hmd; have Hqd := Lib.hid hqd
          clear hmd hqd
          rw [hi1]
          have Hdd := Lib.hid hdd; have Hmod := Lib.hid hmod; have Hdiv := Lib.hid hdiv
          have hrn : 0 ≤ (r : Int) % (dd : Int) := by rw [hmod]; omega
          have hrn2 : (r : Int) % (dd : Int) ≤ 20 := by rw [hmod]; omega
          have hdn : 0 ≤ (r : Int) / (dd : Int) := by rw [hdiv]; omega
          have hdn2 : (r : Int) / (dd : Int) ≤ 9223372036854775807 := by rw [hdiv]; omega
          clear hA hdd hi1 hkk hmod hdiv
          go_wp2
          go_roundw
          case rel =>
            have hs1 := (HO.out.stored rfl m (digitN k n m)).1
            rw [partN_set k n m (by omega)] at hs1
            have hdg : digitN k n m = ((md : Nat) : Int) := by unfold digitN; rw [Hmd.out, hr.out, Hdd.out, show n - 1 - m = n - (m + 1) by omega]
            rw [hdg] at hs1
            refine ⟨m, qd, by omega, rfl, by rw [← Hdiv.out], ?_, by omega, ?_, ?_⟩
            · show _ = _
              rw [Hqd.out, show n - m = (n - (m + 1)) + 1 by omega, restN, ← hr.out, Hdd.out, show n - (m + 1) + 1 = n - m by omega]
            · rw [Hmod.out]; exact hs1
            · exact HB.out.setCell (Nat.le_refl _) _
          case measure => simp only [intOf]; omega
    · have hno : Hid (orderOfNumber n k = none) := by
        show _ = _
        unfold orderOfNumber
        rw [if_neg]
        rintro ⟨_, h2, _⟩
        exact hk0 h2
      have hk' : k < 0 := by omega
      clear hk0
      go_enter Try.func36, Try.ntmps36
      go_wp2_with fail
      refine (within_any _ _ _ _).mono ?_
      rintro e w2 ⟨rfl, rfl⟩
      rw [hin]
      go_wp2
      go_ret2
      exact ⟨_, _, rfl, by rw [hno.out]; rfl, by rw [hno.out]; exact own_none _ _ _, Below.refl _ _⟩
  · have hno : Hid (orderOfNumber n k = none) := by
      show _ = _
      unfold orderOfNumber
      rw [if_neg]
      rintro ⟨h1, _⟩
      exact hin h1
    have hin' : inB n 1 20 = false := by simpa using hin
    clear hin
    go_enter Try.func36, Try.ntmps36
    go_wp2_with fail
    refine (within_any _ _ _ _).mono ?_
    rintro e w2 ⟨rfl, rfl⟩
    rw [hin']
    go_wp2
    go_ret2
    exact ⟨_, _, rfl, by rw [hno.out]; rfl, by rw [hno.out]; exact own_none _ _ _, Below.refl _ _⟩
end Go.Proofs.Ytoddmplmeliioaa
