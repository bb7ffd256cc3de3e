/- slices.Sort of finite float32: both partitions. -/
import Derived.Test.YtmhhjegceibjoaaSrtI
import Derived.Deep.DeepCutAuto
namespace Go.Proofs.Ytmhhjegceibjoaa
open Go.RowKit
set_option maxRecDepth 100000
attribute [local go_sem] run_store_float'
/-- Where a partition stands: the pivot lies at a, smaller ones up to i, the others behind j. -/
structure Pt (a b i j : Nat) (ys : List Nat) : Prop where
  low : ∀ q, a < q → q < i → kA ys q < kA ys a
  high : ∀ q, j < q → q < b → kA ys a ≤ kA ys q
theorem Pt.swap {a b i j : Nat} {ys : List Nat} (h : Pt a b i j ys) (hi : a < i) (hij : i < j) (hj : j < ys.length) (h1 : kA ys a ≤ kA ys i) (h2 : kA ys j < kA ys a) : Pt a b (i + 1) (j - 1) (swapL ys i j) := by
  have e := kA_swap (xs := ys) (i := i) (j := j) (by omega) (by omega)
  refine ⟨fun q q1 q2 => ?_, fun q q1 q2 => ?_⟩
  · rw [e q, e a, if_neg (show ¬ a = j by omega), if_neg (show ¬ a = i by omega), if_neg (by omega)]
    by_cases c : q = i
    · rw [if_pos c]; exact h2
    · rw [if_neg c]; exact h.low q q1 (by omega)
  · rw [e q, e a, if_neg (show ¬ a = j by omega), if_neg (show ¬ a = i by omega)]
    by_cases c : q = j
    · rw [if_pos c]; exact h1
    · rw [if_neg c, if_neg (by omega)]; exact h.high q (by omega) q2
/-- A partition's end. -/
def Cut (a b m : Nat) (ys : List Nat) : Prop := (∀ q, a ≤ q → q < m → kA ys q ≤ kA ys m) ∧ (∀ q, m < q → q < b → kA ys m ≤ kA ys q)
theorem Pt.end_ {a b j : Nat} {ys : List Nat} (h : Pt a b (j + 1) j ys) (haj : a ≤ j) (hj : j < ys.length) : Cut a b j (swapL ys j a) := by
  have e := kA_swap (xs := ys) (i := j) (j := a) (by omega) (by omega)
  have em : kA (swapL ys j a) j = kA ys a := by
    rw [e j]
    by_cases c : j = a
    · rw [if_pos c, c]
    · rw [if_neg c, if_pos rfl]
  refine ⟨fun q q1 q2 => ?_, fun q q1 q2 => ?_⟩
  · rw [em, e q]
    by_cases c : q = a
    · rw [if_pos c]
      have := h.low j (by omega) (by omega)
      omega
    · rw [if_neg c, if_neg (by omega)]
      have := h.low q (by omega) (by omega)
      omega
  · rw [em, e q, if_neg (by omega), if_neg (by omega)]
    exact h.high q q1 q2
/-- .. of numbers none of which is smaller than the pivot. -/
structure Pe (a b i j : Nat) (ys : List Nat) : Prop where
  low : ∀ q, a ≤ q → q < i → kA ys q ≤ kA ys a
  high : ∀ q, j < q → q < b → kA ys a < kA ys q
  all : ∀ q, a ≤ q → q < b → kA ys a ≤ kA ys q
theorem Pe.swap {a b i j : Nat} {ys : List Nat} (h : Pe a b i j ys) (hi : a < i) (hij : i < j) (hj : j < ys.length) (hjb : j < b) (h1 : kA ys a < kA ys i) (h2 : kA ys j ≤ kA ys a) : Pe a b (i + 1) (j - 1) (swapL ys i j) := by
  have e := kA_swap (xs := ys) (i := i) (j := j) (by omega) (by omega)
  have ea : kA (swapL ys i j) a = kA ys a := by rw [e a, if_neg (by omega), if_neg (by omega)]
  refine ⟨fun q q1 q2 => ?_, fun q q1 q2 => ?_, fun q q1 q2 => ?_⟩
  · rw [ea, e q, if_neg (by omega)]
    by_cases c : q = i
    · rw [if_pos c]; exact h2
    · rw [if_neg c]; exact h.low q q1 (by omega)
  · rw [ea, e q]
    by_cases c : q = j
    · rw [if_pos c]; exact h1
    · rw [if_neg c, if_neg (by omega)]; exact h.high q (by omega) q2
  · rw [ea, e q]
    by_cases c : q = j
    · rw [if_pos c]; omega
    · rw [if_neg c]
      by_cases c2 : q = i
      · rw [if_pos c2]; exact h.all j (by omega) hjb
      · rw [if_neg c2]; exact h.all q q1 q2
set_option maxHeartbeats 4000000 in
theorem partEq_any (g n c a b p : Nat) (xs : List Nat) (w : World) (h : Dt w g n c xs) (hap : a ≤ p) (hpb : p < b) (hb : b ≤ n) (hn : n ≤ 100000) (hlow : ∀ q, a ≤ q → q < b → kA xs p ≤ kA xs q) :
    Calls Try.prog 27 #[.slice (some ⟨g, 0, none⟩) n c, .int .i64 a, .int .i64 b, .int .i64 p] w fun e w' => ∃ m : Nat, e = .returned (.int .i64 m) ∧ (a < m ∧ m ≤ b) ∧ Fx w g n c a b xs (fun ys => ∀ q q', a ≤ q → q < m → q ≤ q' → q' < b → kA ys q ≤ kA ys q') w' := by
  have hD := Lib.hid h
  have hG : Hid (w.grownBy w (some g)) := World.grownBy.refl _ _
  obtain ⟨ys, hys⟩ : ∃ ys, xs = ys := ⟨_, rfl⟩
  rw [hys] at hD
  have Hys := Lib.hid hys
  have Hlow := Lib.hid hlow
  obtain ⟨jb, hjb⟩ : ∃ jb : Nat, b = jb + 1 := ⟨b - 1, by omega⟩
  have hjbi : (b : Int) - 1 = (jb : Int) := by omega
  have hbn : jb < n ∧ a ≤ jb ∧ p ≤ jb := by omega
  have Hjb := Lib.hid hjb
  clear h hys hlow hjb
  go_enter Try.func27, Try.ntmps27
  go_wp2_with fail
  have hsw0 := hD.out.swap (i := a) (j := p) (by omega) (by omega)
  have HS0 := Lib.hid hsw0.1
  have HG0 := Lib.hid (grown_trans' hG.out hsw0.2)
  clear hsw0
  go_upto_region 1 with fail
  go_cut [] (fun wx => Hid (Dt wx g n c (swapL ys a p)) ∧ Hid (w.grownBy wx (some g)))
  case first =>
    have hc1 := hD.out.cell (i := a) (by omega)
    have hc2 := hD.out.cell (i := p) (by omega)
    have hf1 := hD.out.fz a
    have hf2 := hD.out.fz p
    have hxn : (a : Int) < (n : Int) := by omega
    have hyn : (p : Int) < (n : Int) := by omega
    obtain ⟨u, hu⟩ : ∃ u, ys.getD a 0 = u := ⟨_, rfl⟩
    obtain ⟨v, hv⟩ : ∃ v, ys.getD p 0 = v := ⟨_, rfl⟩
    rw [hu, hv] at HS0 HG0
    rw [hu] at hc1
    rw [hv] at hc2
    clear hu hv
    by_cases hxy : a = p
    · have huv : u = v := by
        rw [← hxy] at hc2
        rw [hc1] at hc2
        injection hc2 with e
        injection e
      subst huv
      rw [← hxy] at hc2 hf2 HS0 HG0
      have hxy' : (p : Int) = (a : Int) := by omega
      have hxy2 : p = a := hxy.symm
      clear hc2 hf2 hxy
      go_wp2_with fail
      go_big_region
      go_wp2_with fail
      go_meet
      case rel => exact ⟨by rw [hxy2]; exact ⟨HS0.out.own, HS0.out.len, HS0.out.fin⟩, ⟨HG0.out.os, HG0.out.tape, HG0.out.output, HG0.out.size, HG0.out.block⟩⟩
    · go_wp2_with fail
      go_big_region
      go_wp2_with fail
      go_meet
      case rel => exact ⟨⟨HS0.out.own, HS0.out.len, HS0.out.fin⟩, ⟨HG0.out.os, HG0.out.tape, HG0.out.output, HG0.out.size, HG0.out.block⟩⟩
  case rest =>
    obtain ⟨HD2, HG2⟩ := hcut
    clear HS0 HG0 hD hG
    have hD := HD2
    have hG := HG2
    clear HD2 HG2
    have HW0 : Hid (Sw a b xs (swapL ys a p)) := by rw [Hys.out]; exact Sw.swap (by omega) (by omega) (by have := hD.out.len; rw [swapL_len] at this; omega)
    have HP0 : Hid (Pe a b (a + 1) jb (swapL ys a p)) := by
      have hl : ys.length = n := by have := hD.out.len; rwa [swapL_len] at this
      have e := kA_swap (xs := ys) (i := a) (j := p) (by omega) (by omega)
      have ea : kA (swapL ys a p) a = kA ys p := by
        rw [e a]
        by_cases c : a = p
        · rw [if_pos c, c]
        · rw [if_neg c, if_pos rfl]
      have hlow := Hlow.out
      rw [Hys.out] at hlow
      refine ⟨fun q q1 q2 => by rw [show q = a by omega]; exact Int.le_refl _, fun q q1 q2 => by have := Hjb.out; omega, fun q q1 q2 => ?_⟩
      rw [ea, e q]
      by_cases c : q = p
      · rw [if_pos c]; exact hlow a (Nat.le_refl _) (by omega)
      · rw [if_neg c]
        by_cases c2 : q = a
        · rw [if_pos c2]; exact Int.le_refl _
        · rw [if_neg c2]; exact hlow q q1 q2
    obtain ⟨y0, hy0⟩ : ∃ y0, swapL ys a p = y0 := ⟨_, rfl⟩
    rw [hy0] at hD HW0 HP0
    clear hy0 Hlow Hys
    go_wp2_with fail
    go_loopw [9, 10] (fun v u wr => ∃ (i j : Nat) (zs : List Nat), (a < i ∧ i ≤ j + 1) ∧ (a ≤ j ∧ j < b) ∧ v = .int .i64 i ∧ u = .int .i64 j ∧ Hid (Dt wr g n c zs) ∧ Hid (w.grownBy wr (some g)) ∧ Hid (Sw a b xs zs) ∧ Hid (Pe a b i j zs)) (fun v _ _ => n + 1 - (intOf v).toNat)
    case atStart => exact ⟨a + 1, jb, y0, by omega, by have := Hjb.out; omega, by go_num, by go_num, hD, hG, HW0, HP0⟩
    case round =>
      obtain ⟨i0, j0, zs, hi0, hj0, rfl, rfl, hD, hG, hW, hP⟩ := hrel
      go_wp2_with fail
      go_loopw [9] (fun v wq => ∃ (i q : Nat), (a < i ∧ i0 ≤ i ∧ i ≤ j0 + 1) ∧ v = .int .i64 i ∧ wq = wr.drewN q ∧ Hid (Pe a b i j0 zs)) (fun v _ => j0 + 2 - (intOf v).toNat)
      case atStart => exact ⟨i0, 0, by omega, rfl, rfl, hP⟩
      case round =>
        obtain ⟨i, q, hi, rfl, rfl, hP⟩ := hrel
        obtain ⟨bb, hbb⟩ : ∃ bb, (decide (i ≤ j0) && !ltB zs a i) = bb := ⟨_, rfl⟩
        have Hbb := Lib.hid hbb
        clear hbb
        go_upto_region 3 with fail
        go_cut [43] (fun s wx => s = .bool bb ∧ ∃ q', wx = wr.drewN q')
        case first =>
          by_cases hij : i ≤ j0
          · have hij' : (i : Int) ≤ (j0 : Int) := by omega
            have hc1 := hD.out.cell (i := a) (by omega)
            have hc2 := hD.out.cell (i := i) (by omega)
            have hx1 := hD.out.num (i := a) (by omega)
            have han : (a : Int) < (n : Int) := by omega
            have hin : (i : Int) < (n : Int) := by omega
            obtain ⟨x, hx⟩ : ∃ x, zs.getD a 0 = x := ⟨_, rfl⟩
            obtain ⟨y, hy⟩ : ∃ y, zs.getD i 0 = y := ⟨_, rfl⟩
            have hb2 := Hbb.out
            rw [decide_eq_true hij, Bool.true_and] at hb2
            unfold ltB at hb2
            rw [hx, hy] at hb2
            rw [hx] at hc1 hx1
            rw [hy] at hc2
            obtain ⟨bl, hbl⟩ : ∃ bl, flt .f32 x y = bl := ⟨_, rfl⟩
            rw [hbl] at hb2
            have HB2 := Lib.hid hb2
            clear hx hy hb2
            go_wp2_with fail
            go_quiet ((go_at_call 26; exact quiet_add (less_q hx1 hbl)))
            go_wp2_with fail
            go_meet
            case rel => exact ⟨by rw [← HB2.out], q + nq, by rw [World.drewN_drewN]⟩
          · have hij' : decide ((i : Int) ≤ (j0 : Int)) = false := decide_eq_false (by omega)
            have hb2 : Hid (false = bb) := by have := Hbb.out; rw [decide_eq_false hij, Bool.false_and] at this; exact this
            go_wp2_with fail
            go_quiet (fail)
            go_wp2_with fail
            go_meet
            case rel => exact ⟨by rw [← hb2.out], q + nq, by rw [World.drewN_drewN]⟩
        case rest =>
          obtain ⟨rfl, q', rfl⟩ := hcut
          cases bb with
          | true =>
            have hcc : i ≤ j0 ∧ kA zs i ≤ kA zs a := by
              have := Hbb.out
              rw [Bool.and_eq_true, Bool.not_eq_true', decide_eq_true_eq] at this
              have h2 := this.2
              rw [ltB_true (hD.out.num (by omega)) (hD.out.num (by omega))] at h2
              exact ⟨this.1, by have := of_decide_eq_false h2; omega⟩
            have HP : Hid (Pe a b (i + 1) j0 zs) := ⟨fun q q1 q2 => by
              by_cases e : q = i
              · rw [e]; exact hcc.2
              · exact hP.out.low q q1 (by omega), hP.out.high, hP.out.all⟩
            have hcc1 := hcc.1
            clear hcc hP
            go_wp2_with fail
            go_roundw
            case rel => exact ⟨i + 1, _, by omega, by go_num, rfl, HP⟩
            case measure => simp only [intOf]; omega
          | false =>
            have hst : Hid (i ≤ j0 → kA zs a < kA zs i) := fun hij => by
              have := Hbb.out
              rw [decide_eq_true hij, Bool.true_and, Bool.not_eq_false', ltB_true (hD.out.num (by omega)) (hD.out.num (by omega))] at this
              exact of_decide_eq_true this
            clear Hbb
            go_wp2_with fail
            go_loopw [10] (fun v wq => ∃ (j q : Nat), (a ≤ j ∧ i ≤ j + 1 ∧ j ≤ j0) ∧ v = .int .i64 j ∧ wq = wr.drewN q ∧ Hid (Pe a b i j zs)) (fun v _ => (intOf v).toNat)
            case atStart => exact ⟨j0, _, by omega, rfl, rfl, hP⟩
            case round =>
              obtain ⟨j, q3, hj, rfl, rfl, hP⟩ := hrel
              obtain ⟨bb, hbb⟩ : ∃ bb, (decide (i ≤ j) && ltB zs a j) = bb := ⟨_, rfl⟩
              have Hbb := Lib.hid hbb
              clear hbb
              go_upto_region 5 with fail
              go_cut [59] (fun s wx => s = .bool bb ∧ ∃ q', wx = wr.drewN q')
              case first =>
                by_cases hij : i ≤ j
                · have hij' : (i : Int) ≤ (j : Int) := by omega
                  have hc1 := hD.out.cell (i := a) (by omega)
                  have hc2 := hD.out.cell (i := j) (by omega)
                  have hx1 := hD.out.num (i := a) (by omega)
                  have han : (a : Int) < (n : Int) := by omega
                  have hin : (j : Int) < (n : Int) := by omega
                  obtain ⟨x, hx⟩ : ∃ x, zs.getD a 0 = x := ⟨_, rfl⟩
                  obtain ⟨y, hy⟩ : ∃ y, zs.getD j 0 = y := ⟨_, rfl⟩
                  have hb2 := Hbb.out
                  rw [decide_eq_true hij, Bool.true_and] at hb2
                  unfold ltB at hb2
                  rw [hx, hy] at hb2
                  rw [hx] at hc1 hx1
                  rw [hy] at hc2
                  clear hx hy Hbb
                  go_wp2_with fail
                  go_quiet ((go_at_call 26; exact quiet_add (less_q hx1 hb2)))
                  go_wp2_with fail
                  go_meet
                  case rel => exact ⟨rfl, q3 + nq, by rw [World.drewN_drewN]⟩
                · have hij' : decide ((i : Int) ≤ (j : Int)) = false := decide_eq_false (by omega)
                  have hb2 : Hid (false = bb) := by have := Hbb.out; rw [decide_eq_false hij, Bool.false_and] at this; exact this
                  go_wp2_with fail
                  go_quiet (fail)
                  go_wp2_with fail
                  go_meet
                  case rel => exact ⟨by rw [← hb2.out], q3 + nq, by rw [World.drewN_drewN]⟩
              case rest =>
                obtain ⟨rfl, q', rfl⟩ := hcut
                cases bb with
                | true =>
                  have hcc : i ≤ j ∧ kA zs a < kA zs j := by
                    have := Hbb.out
                    rw [Bool.and_eq_true, decide_eq_true_eq] at this
                    have h2 := this.2
                    rw [ltB_true (hD.out.num (by omega)) (hD.out.num (by omega))] at h2
                    exact ⟨this.1, of_decide_eq_true h2⟩
                  obtain ⟨j1, hj1⟩ : ∃ j1 : Nat, j = j1 + 1 := ⟨j - 1, by omega⟩
                  have hj1i : (j : Int) - 1 = (j1 : Int) := by omega
                  have HP : Hid (Pe a b i j1 zs) := ⟨hP.out.low, fun q q1 q2 => by
                    by_cases e : q = j
                    · rw [e]; exact hcc.2
                    · exact hP.out.high q (by omega) q2, hP.out.all⟩
                  have hb3 : a ≤ j1 ∧ i ≤ j1 + 1 ∧ j1 ≤ j0 ∧ j1 < j := by omega
                  clear hcc hP hj1
                  go_wp2_with fail
                  go_roundw
                  case rel => exact ⟨j1, _, by omega, by go_num, rfl, HP⟩
                  case measure => simp only [intOf]; omega
                | false =>
                  by_cases hij : j < i
                  · have hij' : (j : Int) < (i : Int) := by omega
                    have HQ : Hid (∀ q q', a ≤ q → q < i → q ≤ q' → q' < b → kA zs q ≤ kA zs q') := fun q q' q1 q2 q3 q4 => by
                      have := hP.out.low q q1 q2
                      have := hP.out.all q' (by omega) q4
                      omega
                    clear hst Hbb
                    go_wp2_with fail
                    go_ret
                    exact ⟨i, rfl, by omega, zs, ⟨hD.out.own, hD.out.len, hD.out.fin⟩, ⟨hG.out.os, hG.out.tape, hG.out.output, hG.out.size, hG.out.block⟩, hW, HQ⟩
                  · have hij' : ¬ (j : Int) < (i : Int) := by omega
                    have hjl : kA zs j ≤ kA zs a := by
                      have := Hbb.out
                      rw [decide_eq_true (show i ≤ j by omega), Bool.true_and, ltB_true (hD.out.num (by omega)) (hD.out.num (by omega))] at this
                      have := of_decide_eq_false this
                      omega
                    have hil := hst.out (by omega)
                    have hne : i ≠ j := fun e => by rw [e] at hil; omega
                    have hlt : i < j := by omega
                    have hc1 := hD.out.cell (i := i) (by omega)
                    have hc2 := hD.out.cell (i := j) (by omega)
                    have hf1 := hD.out.fz i
                    have hf2 := hD.out.fz j
                    have hin : (i : Int) < (n : Int) := by omega
                    have hjn : (j : Int) < (n : Int) := by omega
                    have hsw := hD.out.swap (i := i) (j := j) (by omega) (by omega)
                    have HS := Lib.hid hsw.1
                    have HG := Lib.hid (grown_trans' hG.out hsw.2)
                    have HW : Hid (Sw a b xs (swapL zs i j)) := hW.out.trans (Sw.swap (by omega) (by omega) (by have := hW.out.len; have := hD.out.len; omega))
                    obtain ⟨j1, hj1⟩ : ∃ j1 : Nat, j = j1 + 1 := ⟨j - 1, by omega⟩
                    have hj1i : (j : Int) - 1 = (j1 : Int) := by omega
                    have HP : Hid (Pe a b (i + 1) j1 (swapL zs i j)) := by
                      have := hP.out.swap (by omega) hlt (by have := hD.out.len; omega) (by omega) hil hjl
                      rw [show j - 1 = j1 by omega] at this
                      exact this
                    have hb3 : a ≤ j1 ∧ i ≤ j1 ∧ j1 < b := by omega
                    clear hsw hst Hbb hjl hil hP hj1
                    go_wp2_with fail
                    go_big_region
                    go_wp2_with fail
                    go_roundw
                    case rel => exact ⟨i + 1, j1, swapL zs i j, by omega, by omega, by go_num, by go_num, ⟨HS.out.own, HS.out.len, HS.out.fin⟩, ⟨HG.out.os, HG.out.tape, HG.out.output, HG.out.size, HG.out.block⟩, HW, HP⟩
                    case measure => simp only [intOf]; omega
--PART
end Go.Proofs.Ytmhhjegceibjoaa
