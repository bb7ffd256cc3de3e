/- The code of an order: how many of the later numbers are less. -/
import Derived.Test.YticenfholnencaaOrder
namespace Go.Proofs.Yticenfholnencaa
open Go.RowKit
/-- How many of the first j numbers behind the k-th are less than it. -/
def cntL (xs : List Int) (k j : Nat) : Nat := ((xs.drop (k + 1)).take j).countP fun y => decide (y < xs.getD k 0)
def codeL (xs : List Int) : List Int := (List.range xs.length).map fun i => (cntL xs i (xs.length - i - 1) : Int)
theorem codeL_len (xs : List Int) : (codeL xs).length = xs.length := by simp [codeL]
theorem codeL_get {xs : List Int} {k : Nat} (h : k < xs.length) : (codeL xs)[k]? = some (cntL xs k (xs.length - k - 1) : Int) := by simp [codeL, h]
theorem cntL_le (xs : List Int) (k j : Nat) : cntL xs k j ≤ j := by
  unfold cntL
  exact Nat.le_trans List.countP_le_length (by rw [List.length_take]; omega)
theorem cntL_succ {xs : List Int} {k j : Nat} {x y : Int} (hx : xs[k]? = some x) (hy : xs[k + 1 + j]? = some y) : cntL xs k (j + 1) = cntL xs k j + if y < x then 1 else 0 := by
  unfold cntL
  have h : (xs.drop (k + 1))[j]? = some y := by rw [List.getElem?_drop]; exact hy
  have e : xs.getD k 0 = x := by rw [List.getD, hx]; rfl
  rw [take_succ_of h, List.countP_append, e]
  congr 1
  by_cases hc : y < x <;> simp [hc]
def rowL (xs : List Int) (k : Nat) : List Int := filled 0 (codeL xs) k xs.length
theorem rowL_len {xs : List Int} {k : Nat} (h : k ≤ xs.length) : (rowL xs k).length = xs.length := filled_len _ _ _ _ (codeL_len xs) h
theorem rowL_set0 {xs : List Int} {k : Nat} (h : k < xs.length) : (rowL xs k).set k 0 = rowL xs k := by
  unfold rowL filled
  rw [show xs.length - k = (xs.length - (k + 1)) + 1 from by omega, List.replicate_succ, set_append_here _ _ _ _ _ (by rw [List.length_take, codeL_len]; omega)]
theorem rowL_setN {xs : List Int} {k : Nat} (h : k < xs.length) : (rowL xs k).set k (cntL xs k (xs.length - k - 1) : Int) = rowL xs (k + 1) :=
  filled_set _ _ _ _ _ (codeL_get h) (codeL_len xs)
theorem rowL_all (xs : List Int) : rowL xs xs.length = codeL xs := filled_all _ _ _ (codeL_len xs)
theorem rowL_zero (xs : List Int) : i64s (rowL xs 0) = List.replicate xs.length (.int .i64 0) := by
  unfold rowL
  rw [filled_zero]
  simp [i64s]
theorem set_set_same {α : Type} (l : List α) (k : Nat) (a b : α) : (l.set k a).set k b = l.set k b := by simp
set_option maxHeartbeats 2000000 in
theorem implCode_any (A : Option Addr) (n c B : Nat) (xs : List Int) (w : World) (h : Rd w B A n (i64s xs)) (hB : B ≤ w.heap.size) (hn : xs.length ≤ 64) (hc : n ≤ c ∧ c ≤ maxLen) :
    Calls Try.prog 91 #[.slice A n c] w fun e w' => ∃ v, e = .returned v ∧ Own w' w.heap.size 2 v (i64s (codeL xs)) ∧ Below w.heap.size w w' := by
  have hl := h.lenI
  obtain rfl : xs.length = n := hl.out
  clear hl
  have HR := Lib.hid h
  clear h
  obtain ⟨hc1, hc2⟩ := hc
  unfold maxLen at hc2
  obtain ⟨i0, hi0, hz0, hz1, hz2⟩ := info_parts info_i64'
  go_enter Try.func91, Try.ntmps91
  go_wp2_with (at_make; refine wpList_make_full _ rfl _ _ 23 rfl w.heap.size 2 i0 (.int .i64 0) 1 Try.underlying23 hi0 hz0 hz1 _ _ _ _ xs.length rfl rfl rfl rfl ?c1 ?c2 ?c3 ?_)
  case c1 => rw [hz2]; omega
  case c2 => unfold maxLen; omega
  case c3 => exact Nat.le_refl _
  intro w1 hown hgrow
  clear hi0 hz0 hz1 hz2
  have ho1 : Own w1 w.heap.size 2 (.slice (some ⟨w.heap.size, 0, none⟩) xs.length xs.length) (i64s (rowL xs 0)) := by
    unfold Own
    rw [i64s_length, rowL_len (Nat.zero_le _), rowL_zero, ← madeCells_one]
    simpa using hown
  have HO := Lib.hid ho1
  have HB := Lib.hid ((Below.refl w.heap.size w).grown hgrow (Nat.le_refl _) (by simp))
  clear hown ho1 hgrow
  go_wp2
  go_loopw [13] (fun i wr => ∃ k : Nat, k ≤ xs.length ∧ i = .int .i64 k ∧ Own wr w.heap.size 2 (.slice (some ⟨w.heap.size, 0, none⟩) xs.length xs.length) (i64s (rowL xs k)) ∧ Below w.heap.size w wr) (fun i _ => xs.length - (intOf i).toNat)
  case atStart => exact ⟨0, Nat.zero_le _, rfl, HO.out, HB.out⟩
  case round =>
    obtain ⟨k, hk, rfl, hO, hbel⟩ := hrel
    have HO' := Lib.hid hO; have HB' := Lib.hid hbel
    clear hO hbel
    by_cases hlt : k < xs.length
    · have hR := HR.out.below HB'.out hB
      obtain ⟨b, off, x, rfl, hbB, hx, hcx⟩ := hR.atI (k := k) hlt
      have hlt' : (k : Int) < (xs.length : Int) := by omega
      have hle' : (k : Int) + 1 ≤ (xs.length : Int) := by omega
      have hlec : (k : Int) + 1 ≤ (c : Int) := by omega
      clear hR
      obtain ⟨wo, rfl⟩ : ∃ wo : World, wo = wr := ⟨_, rfl⟩
      go_wp2
      all_goals
        go_loopw [23] (fun i wr => ∃ j : Nat, j ≤ xs.length - k - 1 ∧ i = .int .i64 j ∧ Own wr w.heap.size 2 (.slice (some ⟨w.heap.size, 0, none⟩) xs.length xs.length) (i64s ((rowL xs k).set k (cntL xs k j : Int))) ∧ Below w.heap.size w wr) (fun i _ => xs.length - k - 1 - (intOf i).toNat)
        case atStart => exact ⟨0, Nat.zero_le _, rfl, (by rw [show (cntL xs k 0 : Int) = 0 by simp [cntL], rowL_set0 hlt]; exact HO'.out), HB'.out⟩
        case round =>
          obtain ⟨j, hj, rfl, hO2, hbel2⟩ := hrel
          have HO2 := Lib.hid hO2; have HB2 := Lib.hid hbel2
          clear hO2 hbel2
          by_cases hjl : j < xs.length - k - 1
          · first
            | (exfalso; omega)
            | (
                have hR2 := HR.out.below HB2.out hB
                obtain ⟨b', off', y, hb', hbB', hy, hcy⟩ := hR2.atI (k := k + 1 + j) (by omega)
                obtain ⟨rfl, rfl⟩ : b = b' ∧ off = off' := by simpa using hb'
                have Hsu := Lib.hid (cntL_succ hx.out hy.out)
                have hcl := cntL_le xs k j
                have hjl' : (j : Int) < ((xs.length - (k + 1) : Nat) : Int) := by omega
                have hcy2 : wr.cell? ⟨b, off + (k + 1) + j, none⟩ = some (.int .i64 y) := (by rw [Nat.add_assoc]; exact hcy)
                obtain ⟨g, z, hA, hz, hcz, hfz⟩ := HO2.out.atI (k := k) (by rw [List.length_set, rowL_len hk]; exact hlt)
                obtain rfl : w.heap.size = g := by injection hA with e; injection e
                have hz2 : ((cntL xs k j : Nat) : Int) = z := by
                  have := hz.out
                  rw [List.getElem?_set_self (by rw [rowL_len hk]; exact hlt)] at this
                  injection this
                subst hz2
                clear hR2 hb' hA
                by_cases hyx : y < x
                · have hst := HO2.out.stored rfl k ((cntL xs k j : Int) + 1)
                  rw [set_set_same] at hst
                  have e : ((cntL xs k j : Nat) : Int) + 1 = ((cntL xs k (j + 1) : Nat) : Int) := by rw [Hsu.out, if_pos hyx]; omega
                  have HOs : Hid (Own (wr.setCell ⟨w.heap.size, k, none⟩ (.int .i64 ((cntL xs k j : Int) + 1))) w.heap.size 2 (.slice (some ⟨w.heap.size, 0, none⟩) xs.length xs.length) (i64s ((rowL xs k).set k (cntL xs k (j + 1) : Int)))) := by
                    show Own _ _ _ _ _
                    have := hst.1
                    rw [e] at this ⊢
                    exact this
                  have HBs := Lib.hid (HB2.out.setCell (p := ⟨w.heap.size, k, none⟩) (Nat.le_refl _) (.int .i64 ((cntL xs k j : Int) + 1)))
                  clear hst e hz Hsu
                  generalize cntL xs k j = cc at hcl hcz HOs HBs ⊢
                  go_wp2
                  go_roundw
                  case rel => exact ⟨j + 1, by omega, by go_num, HOs.out, HBs.out⟩
                  case measure => simp only [intOf]; omega
                · have e : cntL xs k (j + 1) = cntL xs k j := by rw [Hsu.out, if_neg hyx]; rfl
                  have HOs : Hid (Own wr w.heap.size 2 (.slice (some ⟨w.heap.size, 0, none⟩) xs.length xs.length) (i64s ((rowL xs k).set k (cntL xs k (j + 1) : Int)))) := by rw [e]; exact HO2.out
                  clear e hz Hsu
                  generalize cntL xs k j = cc at hcl hcz ⊢
                  go_wp2
                  go_roundw
                  case rel => exact ⟨j + 1, by omega, by go_num, HOs.out, HB2.out⟩
                  case measure => simp only [intOf]; omega)
          · obtain rfl : j = xs.length - k - 1 := by omega
            have HO3 : Hid (Own wr w.heap.size 2 (.slice (some ⟨w.heap.size, 0, none⟩) xs.length xs.length) (i64s (rowL xs (k + 1)))) := by rw [← rowL_setN hlt]; exact HO2.out
            have hge : ¬ ((xs.length - k - 1 : Nat) : Int) < ((xs.length - (k + 1) : Nat) : Int) := by omega
            clear HO2
            go_wp2
            go_roundw
            case rel =>
              first
                | exact ⟨k + 1, by omega, by go_num, HO3.out, HB2.out⟩
                | exact ⟨.int .i64 k, .int .i64 x, _, .int .i64 ((k : Int) + 1), ⟨k + 1, by omega, by go_num, HO3.out, HB2.out⟩, rfl, rfl, rfl, rfl⟩
            case measure => simp only [intOf]; omega
    · obtain rfl : k = xs.length := by omega
      rw [rowL_all] at HO'
      go_wp2
      go_ret
      exact ⟨_, rfl, HO'.out, HB'.out⟩
set_option maxHeartbeats 2000000 in
theorem specCode_any (A : Option Addr) (n c B : Nat) (xs : List Int) (w : World) (h : Rd w B A n (i64s xs)) (hB : B ≤ w.heap.size) (hn : xs.length ≤ 64) :
    Calls Try.prog 90 #[.slice A n c] w fun e w' => ∃ v, e = .returned v ∧ Own w' w.heap.size 2 v (i64s (codeL xs)) ∧ Below w.heap.size w w' := by
  have hl := h.lenI
  obtain rfl : xs.length = n := hl.out
  clear hl
  have HR := Lib.hid h
  clear h
  obtain ⟨i0, hi0, hz0, hz1, hz2⟩ := info_parts info_i64'
  go_enter Try.func90, Try.ntmps90
  go_wp2_with (at_make; refine wpList_make_full _ rfl _ _ 23 rfl w.heap.size 2 i0 (.int .i64 0) 1 Try.underlying23 hi0 hz0 hz1 _ _ _ _ xs.length rfl rfl rfl rfl ?c1 ?c2 ?c3 ?_)
  case c1 => rw [hz2]; omega
  case c2 => unfold maxLen; omega
  case c3 => exact Nat.le_refl _
  intro w1 hown hgrow
  clear hi0 hz0 hz1 hz2
  have ho1 : Own w1 w.heap.size 2 (.slice (some ⟨w.heap.size, 0, none⟩) xs.length xs.length) (i64s (rowL xs 0)) := by
    unfold Own
    rw [i64s_length, rowL_len (Nat.zero_le _), rowL_zero, ← madeCells_one]
    simpa using hown
  have HO := Lib.hid ho1
  have HB := Lib.hid ((Below.refl w.heap.size w).grown hgrow (Nat.le_refl _) (by simp))
  clear hown ho1 hgrow
  go_wp2
  go_loopw [4, 5] (fun i _ wr => ∃ k : Nat, k ≤ xs.length ∧ i = .int .i64 k ∧ Own wr w.heap.size 2 (.slice (some ⟨w.heap.size, 0, none⟩) xs.length xs.length) (i64s (rowL xs k)) ∧ Below w.heap.size w wr) (fun i _ _ => xs.length - (intOf i).toNat)
  case atStart => exact ⟨0, Nat.zero_le _, rfl, HO.out, HB.out⟩
  case round =>
    obtain ⟨k, hk, rfl, hO, hbel⟩ := hrel
    have HO' := Lib.hid hO; have HB' := Lib.hid hbel
    clear hO hbel
    by_cases hlt : k < xs.length
    · have hlt' : (k : Int) < (xs.length : Int) := by omega
      obtain ⟨wo, rfl⟩ : ∃ wo : World, wo = wr := ⟨_, rfl⟩
      go_wp2
      go_loopw [5] (fun i wr => ∃ j : Nat, j ≤ xs.length - k - 1 ∧ i = .int .i64 ((k : Int) + 1 + j) ∧ Own wr w.heap.size 2 (.slice (some ⟨w.heap.size, 0, none⟩) xs.length xs.length) (i64s ((rowL xs k).set k (cntL xs k j : Int))) ∧ Below w.heap.size w wr) (fun i _ => xs.length + 1 - (intOf i).toNat)
      case atStart => exact ⟨0, Nat.zero_le _, by simp, (by rw [show (cntL xs k 0 : Int) = 0 by simp [cntL], rowL_set0 hlt]; exact HO'.out), HB'.out⟩
      case round =>
        obtain ⟨j, hj, rfl, hO2, hbel2⟩ := hrel
        have HO2 := Lib.hid hO2; have HB2 := Lib.hid hbel2
        clear hO2 hbel2
        by_cases hjl : j < xs.length - k - 1
        · have hR2 := HR.out.below HB2.out hB
          obtain ⟨b, off, x, rfl, hbB, hx, hcx⟩ := hR2.atI (k := k) hlt
          obtain ⟨b', off', y, hb', hbB', hy, hcy⟩ := hR2.atI (k := k + 1 + j) (by omega)
          obtain ⟨rfl, rfl⟩ : b = b' ∧ off = off' := by simpa using hb'
          have Hsu := Lib.hid (cntL_succ hx.out hy.out)
          have hcl := cntL_le xs k j
          obtain ⟨g, z, hA, hz, hcz, hfz⟩ := HO2.out.atI (k := k) (by rw [List.length_set, rowL_len hk]; exact hlt)
          obtain rfl : w.heap.size = g := by injection hA with e; injection e
          have hz2 : ((cntL xs k j : Nat) : Int) = z := by
            have := hz.out
            rw [List.getElem?_set_self (by rw [rowL_len hk]; exact hlt)] at this
            injection this
          subst hz2
          have hjl' : (k : Int) + 1 + (j : Int) < (xs.length : Int) := by omega
          have hjl0 : (0 : Int) ≤ (k : Int) + 1 + (j : Int) := by omega
          have hk0 : (0 : Int) ≤ (k : Int) := by omega
          have hcy2 : wr.cell? ⟨b, off + (k + 1 + j), none⟩ = some (.int .i64 y) := hcy
          clear hR2 hb' hA
          by_cases hyx : y < x
          · have hst := HO2.out.stored rfl k ((cntL xs k j : Int) + 1)
            rw [set_set_same] at hst
            have e : ((cntL xs k j : Nat) : Int) + 1 = ((cntL xs k (j + 1) : Nat) : Int) := by rw [Hsu.out, if_pos hyx]; omega
            have HOs : Hid (Own (wr.setCell ⟨w.heap.size, k, none⟩ (.int .i64 ((cntL xs k j : Int) + 1))) w.heap.size 2 (.slice (some ⟨w.heap.size, 0, none⟩) xs.length xs.length) (i64s ((rowL xs k).set k (cntL xs k (j + 1) : Int)))) := by
              show Own _ _ _ _ _
              have := hst.1
              rw [e] at this ⊢
              exact this
            have HBs := Lib.hid (HB2.out.setCell (p := ⟨w.heap.size, k, none⟩) (Nat.le_refl _) (.int .i64 ((cntL xs k j : Int) + 1)))
            clear hst e hz Hsu
            generalize cntL xs k j = cc at hcl hcz HOs HBs ⊢
            go_wp2
            go_quiet (fail)
            go_wp2
            go_roundw
            case rel => exact ⟨j + 1, by omega, by go_num, HOs.out, ⟨HBs.out.os, HBs.out.tape, HBs.out.output, HBs.out.size, HBs.out.block⟩⟩
            case measure => simp only [intOf]; omega
          · have e : cntL xs k (j + 1) = cntL xs k j := by rw [Hsu.out, if_neg hyx]; rfl
            have HOs : Hid (Own wr w.heap.size 2 (.slice (some ⟨w.heap.size, 0, none⟩) xs.length xs.length) (i64s ((rowL xs k).set k (cntL xs k (j + 1) : Int)))) := by rw [e]; exact HO2.out
            clear e hz Hsu
            generalize cntL xs k j = cc at hcl hcz ⊢
            go_wp2
            go_quiet (fail)
            go_wp2
            go_roundw
            case rel => exact ⟨j + 1, by omega, by go_num, HOs.out, ⟨HB2.out.os, HB2.out.tape, HB2.out.output, HB2.out.size, HB2.out.block⟩⟩
            case measure => simp only [intOf]; omega
        · obtain rfl : j = xs.length - k - 1 := by omega
          have HO3 : Hid (Own wr w.heap.size 2 (.slice (some ⟨w.heap.size, 0, none⟩) xs.length xs.length) (i64s (rowL xs (k + 1)))) := by rw [← rowL_setN hlt]; exact HO2.out
          have hge : ¬ (k : Int) + 1 + ((xs.length - k - 1 : Nat) : Int) < (xs.length : Int) := by omega
          clear HO2
          go_wp2
          go_roundw
          case rel => exact ⟨k + 1, by omega, by go_num, HO3.out, HB2.out⟩
          case measure => simp only [intOf]; omega
    · obtain rfl : k = xs.length := by omega
      rw [rowL_all] at HO'
      go_wp2
      go_ret
      exact ⟨_, rfl, HO'.out, HB'.out⟩
def codeOrd (xs : List Int) : Option (List Int) := if orderB xs then some (codeL xs) else none
theorem orderB_len {xs : List Int} (h : orderB xs = true) : 1 ≤ xs.length ∧ xs.length ≤ 64 := by
  unfold orderB at h
  simp only [Bool.and_eq_true] at h
  have := inB_true h.1
  omega
theorem codeOrd_short (xs : List Int) (h : xs.length ≤ 1048576) : ((codeOrd xs).getD []).length ≤ 2000000 := by
  unfold codeOrd
  split
  · simp [codeL_len]; omega
  · simp
theorem specCodeOrd : FnL_LB 46 codeOrd := by
  intro A n c B xs w h hB hn hf hcap
  have hl := h.lenI
  obtain rfl : xs.length = n := hl.out
  clear hl hf hcap
  go_enter Try.func46, Try.ntmps46
  go_wp2_with fail
  refine (specOrder_any A xs.length c B xs _ h hB hn).mono ?_
  rintro e w1 ⟨rfl, hb⟩
  have HB := Lib.hid hb
  have HR := Lib.hid (h.below hb hB)
  have hB1 : B ≤ w1.heap.size := Nat.le_trans hB hb.size
  clear hb h
  cases ho : orderB xs with
  | false =>
    have Hn : Hid (codeOrd xs = none) := by show _ = _; simp [codeOrd, ho]
    clear ho
    go_wp2
    go_ret2
    exact ⟨.slice none 0 0, false, rfl, by rw [Hn.out]; rfl, by rw [Hn.out]; exact own_none _ _ _, HB.out⟩
  | true =>
    have hol := orderB_len ho
    have Hn : Hid (codeOrd xs = some (codeL xs)) := by show _ = _; simp [codeOrd, ho]
    clear ho
    go_wp2_with fail
    refine (specCode_any A xs.length c B xs _ HR.out hB1 hol.2).mono ?_
    rintro e w2 ⟨v, rfl, hO, hb⟩
    have HO := Lib.hid hO
    have HB2 := Lib.hid (HB.out.trans (hb.mono HB.out.size))
    have hs1 := HB.out.size
    clear hO hb
    go_wp2
    go_ret2
    exact ⟨v, true, rfl, by rw [Hn.out]; rfl, by rw [Hn.out]; exact HO.out.base_le hs1, HB2.out⟩
theorem implCodeOrd : FnL_LB 47 codeOrd := by
  intro A n c B xs w h hB hn hf hcap
  have hl := h.lenI
  obtain rfl : xs.length = n := hl.out
  clear hl hf
  go_enter Try.func47, Try.ntmps47
  go_wp2_with fail
  refine (implOrder_any A xs.length c B xs _ h hB hn).mono ?_
  rintro e w1 ⟨rfl, hb⟩
  have HB := Lib.hid hb
  have HR := Lib.hid (h.below hb hB)
  have hB1 : B ≤ w1.heap.size := Nat.le_trans hB hb.size
  clear hb h
  cases ho : orderB xs with
  | false =>
    have Hn : Hid (codeOrd xs = none) := by show _ = _; simp [codeOrd, ho]
    clear ho
    go_wp2
    go_ret2
    exact ⟨.slice none 0 0, false, rfl, by rw [Hn.out]; rfl, by rw [Hn.out]; exact own_none _ _ _, HB.out⟩
  | true =>
    have hol := orderB_len ho
    have Hn : Hid (codeOrd xs = some (codeL xs)) := by show _ = _; simp [codeOrd, ho]
    clear ho
    go_wp2_with fail
    refine (implCode_any A xs.length c B xs _ HR.out hB1 hol.2 hcap).mono ?_
    rintro e w2 ⟨v, rfl, hO, hb⟩
    have HO := Lib.hid hO
    have HB2 := Lib.hid (HB.out.trans (hb.mono HB.out.size))
    have hs1 := HB.out.size
    clear hO hb
    go_wp2
    go_ret2
    exact ⟨v, true, rfl, by rw [Hn.out]; rfl, by rw [Hn.out]; exact HO.out.base_le hs1, HB2.out⟩
end Go.Proofs.Yticenfholnencaa
