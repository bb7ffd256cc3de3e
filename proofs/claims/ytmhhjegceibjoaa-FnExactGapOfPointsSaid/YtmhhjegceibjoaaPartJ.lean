/- slices.Sort of finite float32: the partition. -/
import Derived.Test.YtmhhjegceibjoaaPartI
namespace Go.Proofs.Ytmhhjegceibjoaa
open Go.RowKit
set_option maxRecDepth 100000
attribute [local go_sem] run_store_float'
set_option maxHeartbeats 8000000 in
theorem part_any (g n c a b p : Nat) (xs : List Nat) (w : World) (h : Dt w g n c xs) (hap : a ≤ p) (hpb : p < b) (hb : b ≤ n) (hn : n ≤ 100000) :
    Calls Try.prog 28 #[.slice (some ⟨g, 0, none⟩) n c, .int .i64 a, .int .i64 b, .int .i64 p] w fun e w' => ∃ (m : Nat) (al : Bool), e = .returned (.tuple #[.int .i64 m, .bool al]) ∧ (a ≤ m ∧ m < b) ∧ Fx w g n c a b xs (Cut a b m) w' := by
  have hD := Lib.hid h
  have hG : Hid (w.grownBy w (some g)) := World.grownBy.refl _ _
  obtain ⟨ys, hys⟩ : ∃ ys, xs = ys := ⟨_, rfl⟩
  rw [hys] at hD
  have Hys := Lib.hid hys
  obtain ⟨j0, hjb⟩ : ∃ j0 : Nat, b = j0 + 1 := ⟨b - 1, by omega⟩
  have hjbi : (b : Int) - 1 = (j0 : Int) := by omega
  have hbn : j0 < n ∧ a ≤ j0 ∧ p ≤ j0 := by omega
  have Hjb := Lib.hid hjb
  clear h hys hjb
  go_enter Try.func28, Try.ntmps28
  go_wp2_with fail
  have hsw := hD.out.swap (i := a) (j := p) (by omega) (by omega)
  have HS := Lib.hid hsw.1
  have HG := Lib.hid (grown_trans' hG.out hsw.2)
  clear hsw
  go_upto_region 1 with fail
  go_cut [] (fun wx => Hid (Dt wx g n c (swapL ys a p)) ∧ Hid (w.grownBy wx (some g)))
  case first =>
    have hc1 := hD.out.cell (i := a) (by omega)
    have hc2 := hD.out.cell (i := p) (by omega)
    have hf1 := hD.out.fz a
    have hf2 := hD.out.fz p
    have hxn : (a : Int) < (n : Int) := by omega
    have hyn : (p : Int) < (n : Int) := by omega
    obtain ⟨u, hu⟩ : ∃ u, ys.getD a 0 = u := ⟨_, rfl⟩
    obtain ⟨v, hv⟩ : ∃ v, ys.getD p 0 = v := ⟨_, rfl⟩
    rw [hu, hv] at HS HG
    rw [hu] at hc1
    rw [hv] at hc2
    clear hu hv
    by_cases hxy : a = p
    · have huv : u = v := by
        rw [← hxy] at hc2
        rw [hc1] at hc2
        injection hc2 with e
        injection e
      subst huv
      rw [← hxy] at hc2 hf2 HS HG
      have hxy' : (p : Int) = (a : Int) := by omega
      have hxy2 : p = a := hxy.symm
      clear hc2 hf2 hxy
      go_wp2_with fail
      go_big_region
      go_wp2_with fail
      go_meet
      case rel => exact ⟨by rw [hxy2]; exact ⟨HS.out.own, HS.out.len, HS.out.fin⟩, ⟨HG.out.os, HG.out.tape, HG.out.output, HG.out.size, HG.out.block⟩⟩
    · go_wp2_with fail
      go_big_region
      go_wp2_with fail
      go_meet
      case rel => exact ⟨⟨HS.out.own, HS.out.len, HS.out.fin⟩, ⟨HG.out.os, HG.out.tape, HG.out.output, HG.out.size, HG.out.block⟩⟩
  case rest =>
    obtain ⟨HD2, HG2⟩ := hcut
    clear HS HG hD hG
    have hD := HD2
    have hG := HG2
    clear HD2 HG2
    have HW0 : Hid (Sw a b xs (swapL ys a p)) := by rw [Hys.out]; exact Sw.swap (by omega) (by omega) (by have := hD.out.len; rw [swapL_len] at this; omega)
    have hP : Hid (Pt a b (a + 1) j0 (swapL ys a p)) := ⟨fun q q1 q2 => by omega, fun q q1 q2 => by have := Hjb.out; omega⟩
    obtain ⟨zs, hy0⟩ : ∃ y0, swapL ys a p = y0 := ⟨_, rfl⟩
    rw [hy0] at hD HW0 hP
    have hW := HW0
    obtain ⟨i0, hi0e⟩ : ∃ i0, a + 1 = i0 := ⟨_, rfl⟩
    have hi0i : (a : Int) + 1 = (i0 : Int) := by omega
    rw [hi0e] at hP
    have hj0 : a ≤ j0 ∧ j0 < b := by have := Hjb.out; omega
    have hi0 : a < i0 ∧ i0 ≤ j0 + 1 := by omega
    clear hy0 Hys HW0 hi0e
    go_wp2_with fail
    go_loopw [10] (fun v wq => ∃ (i q : Nat), (a < i ∧ i0 ≤ i ∧ i ≤ j0 + 1) ∧ v = .int .i64 i ∧ wq = wc.drewN q ∧ Hid (Pt a b i j0 zs)) (fun v _ => j0 + 2 - (intOf v).toNat)
    case atStart => exact ⟨i0, 0, by omega, rfl, rfl, hP⟩
    case round =>
      obtain ⟨i, q, hi, rfl, rfl, hP⟩ := hrel
      obtain ⟨bb, hbb⟩ : ∃ bb, (decide (i ≤ j0) && ltB zs i a) = bb := ⟨_, rfl⟩
      have Hbb := Lib.hid hbb
      clear hbb
      go_upto_region 3 with fail
      go_cut [43] (fun s wx => s = .bool bb ∧ ∃ q', wx = wc.drewN q')
      case first =>
        by_cases hij : i ≤ j0
        · have hij' : (i : Int) ≤ (j0 : Int) := by omega
          have hc1 := hD.out.cell (i := a) (by omega)
          have hc2 := hD.out.cell (i := i) (by omega)
          have hx2 := hD.out.num (i := i) (by omega)
          have han : (a : Int) < (n : Int) := by omega
          have hkn : (i : Int) < (n : Int) := by omega
          obtain ⟨x, hx⟩ : ∃ x, zs.getD a 0 = x := ⟨_, rfl⟩
          obtain ⟨y, hy⟩ : ∃ y, zs.getD i 0 = y := ⟨_, rfl⟩
          have hb2 := Hbb.out
          rw [decide_eq_true hij, Bool.true_and] at hb2
          unfold ltB at hb2
          rw [hx, hy] at hb2
          rw [hx] at hc1
          rw [hy] at hc2 hx2
          obtain ⟨bl, hbl⟩ : ∃ bl, flt .f32 y x = bl := ⟨_, rfl⟩
          rw [hbl] at hb2
          have HB2 := Lib.hid hb2
          clear hx hy hb2
          go_wp2_with fail
          go_quiet ((go_at_call 26; exact quiet_add (less_q hx2 hbl)))
          go_wp2_with fail
          go_meet
          case rel => exact ⟨by rw [← HB2.out], q + nq, by rw [World.drewN_drewN]⟩
        · have hij' : decide ((i : Int) ≤ (j0 : Int)) = false := decide_eq_false (by omega)
          have hb2 : Hid (false = bb) := by have := Hbb.out; rw [decide_eq_false hij, Bool.false_and] at this; exact this
          go_wp2_with fail
          go_quiet (fail)
          go_wp2_with fail
          go_meet
          case rel => exact ⟨by rw [← hb2.out], q + nq, by rw [World.drewN_drewN]⟩
      case rest =>
        obtain ⟨rfl, q', rfl⟩ := hcut
        cases bb with
        | true =>
          have hcc : i ≤ j0 ∧ kA zs i < kA zs a := by
            have := Hbb.out
            rw [Bool.and_eq_true, decide_eq_true_eq] at this
            have h2 := this.2
            rw [ltB_true (hD.out.num (by omega)) (hD.out.num (by omega))] at h2
            exact ⟨this.1, of_decide_eq_true h2⟩
          have HP : Hid (Pt a b (i + 1) j0 zs) := ⟨fun q q1 q2 => by
            by_cases e : q = i
            · rw [e]; exact hcc.2
            · exact hP.out.low q q1 (by omega), hP.out.high⟩
          have hcc1 := hcc.1
          clear hcc hP
          go_wp2_with fail
          go_roundw
          case rel => exact ⟨i + 1, _, by omega, by go_num, rfl, HP⟩
          case measure => simp only [intOf]; omega
        | false =>
          have hst : Hid (i ≤ j0 → kA zs a ≤ kA zs i) := fun hij => by
            have := Hbb.out
            rw [decide_eq_true hij, Bool.true_and, ltB_true (hD.out.num (by omega)) (hD.out.num (by omega))] at this
            have := of_decide_eq_false this
            omega
          clear Hbb
          go_wp2_with fail
          go_loopw [11] (fun v wq => ∃ (j q : Nat), (a ≤ j ∧ i ≤ j + 1 ∧ j ≤ j0) ∧ v = .int .i64 j ∧ wq = wc.drewN q ∧ Hid (Pt a b i j zs)) (fun v _ => (intOf v).toNat)
          case atStart => exact ⟨j0, _, by omega, rfl, rfl, hP⟩
          case round =>
            obtain ⟨j, q3, hj, rfl, rfl, hP⟩ := hrel
            obtain ⟨bb, hbb⟩ : ∃ bb, (decide (i ≤ j) && !ltB zs j a) = bb := ⟨_, rfl⟩
            have Hbb := Lib.hid hbb
            clear hbb
            go_upto_region 5 with fail
            go_cut [60] (fun s wx => s = .bool bb ∧ ∃ q', wx = wc.drewN q')
            case first =>
              by_cases hij : i ≤ j
              · have hij' : (i : Int) ≤ (j : Int) := by omega
                have hc1 := hD.out.cell (i := a) (by omega)
                have hc2 := hD.out.cell (i := j) (by omega)
                have hx2 := hD.out.num (i := j) (by omega)
                have han : (a : Int) < (n : Int) := by omega
                have hkn : (j : Int) < (n : Int) := by omega
                obtain ⟨x, hx⟩ : ∃ x, zs.getD a 0 = x := ⟨_, rfl⟩
                obtain ⟨y, hy⟩ : ∃ y, zs.getD j 0 = y := ⟨_, rfl⟩
                have hb2 := Hbb.out
                rw [decide_eq_true hij, Bool.true_and] at hb2
                unfold ltB at hb2
                rw [hx, hy] at hb2
                rw [hx] at hc1
                rw [hy] at hc2 hx2
                obtain ⟨bl, hbl⟩ : ∃ bl, flt .f32 y x = bl := ⟨_, rfl⟩
                rw [hbl] at hb2
                have HB2 := Lib.hid hb2
                clear hx hy hb2
                go_wp2_with fail
                go_quiet ((go_at_call 26; exact quiet_add (less_q hx2 hbl)))
                go_wp2_with fail
                go_meet
                case rel => exact ⟨by rw [← HB2.out], q3 + nq, by rw [World.drewN_drewN]⟩
              · have hij' : decide ((i : Int) ≤ (j : Int)) = false := decide_eq_false (by omega)
                have hb2 : Hid (false = bb) := by have := Hbb.out; rw [decide_eq_false hij, Bool.false_and] at this; exact this
                go_wp2_with fail
                go_quiet (fail)
                go_wp2_with fail
                go_meet
                case rel => exact ⟨by rw [← hb2.out], q3 + nq, by rw [World.drewN_drewN]⟩
            case rest =>
              obtain ⟨rfl, q', rfl⟩ := hcut
              cases bb with
              | true =>
                have hcc : i ≤ j ∧ kA zs a ≤ kA zs j := by
                  have := Hbb.out
                  rw [Bool.and_eq_true, Bool.not_eq_true', decide_eq_true_eq] at this
                  have h2 := this.2
                  rw [ltB_true (hD.out.num (by omega)) (hD.out.num (by omega))] at h2
                  have h3 := of_decide_eq_false h2
                  exact ⟨this.1, by omega⟩
                obtain ⟨j1, hj1⟩ : ∃ j1 : Nat, j = j1 + 1 := ⟨j - 1, by omega⟩
                have hj1i : (j : Int) - 1 = (j1 : Int) := by omega
                have HP : Hid (Pt a b i j1 zs) := ⟨hP.out.low, fun q q1 q2 => by
                  by_cases e : q = j
                  · rw [e]; exact hcc.2
                  · exact hP.out.high q (by omega) q2⟩
                have hb3 : a ≤ j1 ∧ i ≤ j1 + 1 ∧ j1 ≤ j0 ∧ j1 < j := by omega
                clear hcc hP hj1
                go_wp2_with fail
                go_roundw
                case rel => exact ⟨j1, _, by omega, by go_num, rfl, HP⟩
                case measure => simp only [intOf]; omega
              | false =>
                by_cases hij : j < i
                · have hij' : (j : Int) < (i : Int) := by omega
                  have HQ : Hid (Cut a b j (swapL zs j a)) := by
                    have := hP.out
                    rw [show i = j + 1 by omega] at this
                    exact this.end_ (by omega) (by have := hD.out.len; omega)
                  clear hst Hbb
                  go_wp2_with fail
                  have hsw := hD.out.swap (i := j) (j := a) (by omega) (by omega)
                  have HS := Lib.hid hsw.1
                  have HG := Lib.hid (grown_trans' hG.out hsw.2)
                  clear hsw
                  go_upto_region 8 with fail
                  go_cut [] (fun wx => Hid (Dt wx g n c (swapL zs j a)) ∧ Hid (w.grownBy wx (some g)))
                  case first =>
                    have hc1 := hD.out.cell (i := j) (by omega)
                    have hc2 := hD.out.cell (i := a) (by omega)
                    have hf1 := hD.out.fz j
                    have hf2 := hD.out.fz a
                    have hxn : (j : Int) < (n : Int) := by omega
                    have hyn : (a : Int) < (n : Int) := by omega
                    obtain ⟨u, hu⟩ : ∃ u, zs.getD j 0 = u := ⟨_, rfl⟩
                    obtain ⟨v, hv⟩ : ∃ v, zs.getD a 0 = v := ⟨_, rfl⟩
                    rw [hu, hv] at HS HG
                    rw [hu] at hc1
                    rw [hv] at hc2
                    clear hu hv
                    by_cases hxy : j = a
                    · have huv : u = v := by
                        rw [← hxy] at hc2
                        rw [hc1] at hc2
                        injection hc2 with e
                        injection e
                      subst huv
                      rw [← hxy] at hc2 hf2 HS HG
                      have hxy' : (a : Int) = (j : Int) := by omega
                      have hxy2 : a = j := hxy.symm
                      clear hc2 hf2 hxy
                      go_wp2_with fail
                      go_big_region
                      go_wp2_with fail
                      go_meet
                      case rel => exact ⟨by rw [hxy2]; exact ⟨HS.out.own, HS.out.len, HS.out.fin⟩, ⟨HG.out.os, HG.out.tape, HG.out.output, HG.out.size, HG.out.block⟩⟩
                    · go_wp2_with fail
                      go_big_region
                      go_wp2_with fail
                      go_meet
                      case rel => exact ⟨⟨HS.out.own, HS.out.len, HS.out.fin⟩, ⟨HG.out.os, HG.out.tape, HG.out.output, HG.out.size, HG.out.block⟩⟩
                  case rest =>
                    obtain ⟨HD2, HG2⟩ := hcut
                    clear HS HG hD hG
                    have hD := HD2
                    have hG := HG2
                    clear HD2 HG2
                    have HW : Hid (Sw a b xs (swapL zs j a)) := hW.out.trans (Sw.swap (by omega) (by omega) (by have := hW.out.len; have := hD.out.len; rw [swapL_len] at this; omega))
                    go_wp2_with fail
                    go_ret2
                    exact ⟨j, true, rfl, by omega, _, hD, hG, HW, HQ⟩
                · have hij' : ¬ (j : Int) < (i : Int) := by omega
                  have hjl : kA zs j < kA zs a := by
                    have := Hbb.out
                    rw [decide_eq_true (show i ≤ j by omega), Bool.true_and, Bool.not_eq_false', ltB_true (hD.out.num (by omega)) (hD.out.num (by omega))] at this
                    exact of_decide_eq_true this
                  have hil := hst.out (by omega)
                  have hne : i ≠ j := fun e => by rw [e] at hil; omega
                  have hlt : i < j := by omega
                  have hc1 := hD.out.cell (i := i) (by omega)
                  have hc2 := hD.out.cell (i := j) (by omega)
                  have hf1 := hD.out.fz i
                  have hf2 := hD.out.fz j
                  have hin : (i : Int) < (n : Int) := by omega
                  have hjn : (j : Int) < (n : Int) := by omega
                  have hsw := hD.out.swap (i := i) (j := j) (by omega) (by omega)
                  have HS := Lib.hid hsw.1
                  have HG := Lib.hid (grown_trans' hG.out hsw.2)
                  have HW : Hid (Sw a b xs (swapL zs i j)) := hW.out.trans (Sw.swap (by omega) (by omega) (by have := hW.out.len; have := hD.out.len; omega))
                  obtain ⟨j1, hj1⟩ : ∃ j1 : Nat, j = j1 + 1 := ⟨j - 1, by omega⟩
                  have hj1i : (j : Int) - 1 = (j1 : Int) := by omega
                  have HP : Hid (Pt a b (i + 1) j1 (swapL zs i j)) := by
                    have := hP.out.swap (by omega) hlt (by have := hD.out.len; omega) hil hjl
                    rw [show j - 1 = j1 by omega] at this
                    exact this
                  have hb3 : a ≤ j1 ∧ i ≤ j1 ∧ j1 < b := by omega
                  clear hsw hst Hbb hjl hil hP hj1
                  go_wp2_with fail
                  go_big_region
                  go_wp2_with fail
                  go_loopw [10, 11] (fun v u wr => ∃ (i j : Nat) (zs : List Nat), (a < i ∧ i ≤ j + 1) ∧ (a ≤ j ∧ j < b) ∧ v = .int .i64 i ∧ u = .int .i64 j ∧ Hid (Dt wr g n c zs) ∧ Hid (w.grownBy wr (some g)) ∧ Hid (Sw a b xs zs) ∧ Hid (Pt a b i j zs)) (fun v _ _ => n + 1 - (intOf v).toNat)
                  case atStart => exact ⟨i + 1, j1, swapL zs i j, by omega, by omega, by go_num, by go_num, ⟨HS.out.own, HS.out.len, HS.out.fin⟩, ⟨HG.out.os, HG.out.tape, HG.out.output, HG.out.size, HG.out.block⟩, HW, HP⟩
                  case round =>
                    clear HS HG HW HP hD hG hW hc1 hc2 hf1 hf2 hin hjn hlt hne hij hij' hj hi hi0 hj0 hi0i hj1i hb3
                    obtain ⟨i0, j0, zs, hi0, hj0, rfl, rfl, hD, hG, hW, hP⟩ := hrel
                    go_wp2_with fail
                    go_loopw [10] (fun v wq => ∃ (i q : Nat), (a < i ∧ i0 ≤ i ∧ i ≤ j0 + 1) ∧ v = .int .i64 i ∧ wq = wr.drewN q ∧ Hid (Pt a b i j0 zs)) (fun v _ => j0 + 2 - (intOf v).toNat)
                    case atStart => exact ⟨i0, 0, by omega, rfl, rfl, hP⟩
                    case round =>
                      obtain ⟨i, q, hi, rfl, rfl, hP⟩ := hrel
                      obtain ⟨bb, hbb⟩ : ∃ bb, (decide (i ≤ j0) && ltB zs i a) = bb := ⟨_, rfl⟩
                      have Hbb := Lib.hid hbb
                      clear hbb
                      go_upto_region 13 with fail
                      go_cut [112] (fun s wx => s = .bool bb ∧ ∃ q', wx = wr.drewN q')
                      case first =>
                        by_cases hij : i ≤ j0
                        · have hij' : (i : Int) ≤ (j0 : Int) := by omega
                          have hc1 := hD.out.cell (i := a) (by omega)
                          have hc2 := hD.out.cell (i := i) (by omega)
                          have hx2 := hD.out.num (i := i) (by omega)
                          have han : (a : Int) < (n : Int) := by omega
                          have hkn : (i : Int) < (n : Int) := by omega
                          obtain ⟨x, hx⟩ : ∃ x, zs.getD a 0 = x := ⟨_, rfl⟩
                          obtain ⟨y, hy⟩ : ∃ y, zs.getD i 0 = y := ⟨_, rfl⟩
                          have hb2 := Hbb.out
                          rw [decide_eq_true hij, Bool.true_and] at hb2
                          unfold ltB at hb2
                          rw [hx, hy] at hb2
                          rw [hx] at hc1
                          rw [hy] at hc2 hx2
                          obtain ⟨bl, hbl⟩ : ∃ bl, flt .f32 y x = bl := ⟨_, rfl⟩
                          rw [hbl] at hb2
                          have HB2 := Lib.hid hb2
                          clear hx hy hb2
                          go_wp2_with fail
                          go_quiet ((go_at_call 26; exact quiet_add (less_q hx2 hbl)))
                          go_wp2_with fail
                          go_meet
                          case rel => exact ⟨by rw [← HB2.out], q + nq, by rw [World.drewN_drewN]⟩
                        · have hij' : decide ((i : Int) ≤ (j0 : Int)) = false := decide_eq_false (by omega)
                          have hb2 : Hid (false = bb) := by have := Hbb.out; rw [decide_eq_false hij, Bool.false_and] at this; exact this
                          go_wp2_with fail
                          go_quiet (fail)
                          go_wp2_with fail
                          go_meet
                          case rel => exact ⟨by rw [← hb2.out], q + nq, by rw [World.drewN_drewN]⟩
                      case rest =>
                        obtain ⟨rfl, q', rfl⟩ := hcut
                        cases bb with
                        | true =>
                          have hcc : i ≤ j0 ∧ kA zs i < kA zs a := by
                            have := Hbb.out
                            rw [Bool.and_eq_true, decide_eq_true_eq] at this
                            have h2 := this.2
                            rw [ltB_true (hD.out.num (by omega)) (hD.out.num (by omega))] at h2
                            exact ⟨this.1, of_decide_eq_true h2⟩
                          have HP : Hid (Pt a b (i + 1) j0 zs) := ⟨fun q q1 q2 => by
                            by_cases e : q = i
                            · rw [e]; exact hcc.2
                            · exact hP.out.low q q1 (by omega), hP.out.high⟩
                          have hcc1 := hcc.1
                          clear hcc hP
                          go_wp2_with fail
                          go_roundw
                          case rel => exact ⟨i + 1, _, by omega, by go_num, rfl, HP⟩
                          case measure => simp only [intOf]; omega
                        | false =>
                          have hst : Hid (i ≤ j0 → kA zs a ≤ kA zs i) := fun hij => by
                            have := Hbb.out
                            rw [decide_eq_true hij, Bool.true_and, ltB_true (hD.out.num (by omega)) (hD.out.num (by omega))] at this
                            have := of_decide_eq_false this
                            omega
                          clear Hbb
                          go_wp2_with fail
                          go_loopw [11] (fun v wq => ∃ (j q : Nat), (a ≤ j ∧ i ≤ j + 1 ∧ j ≤ j0) ∧ v = .int .i64 j ∧ wq = wr.drewN q ∧ Hid (Pt a b i j zs)) (fun v _ => (intOf v).toNat)
                          case atStart => exact ⟨j0, _, by omega, rfl, rfl, hP⟩
                          case round =>
                            obtain ⟨j, q3, hj, rfl, rfl, hP⟩ := hrel
                            obtain ⟨bb, hbb⟩ : ∃ bb, (decide (i ≤ j) && !ltB zs j a) = bb := ⟨_, rfl⟩
                            have Hbb := Lib.hid hbb
                            clear hbb
                            go_upto_region 15 with fail
                            go_cut [129] (fun s wx => s = .bool bb ∧ ∃ q', wx = wr.drewN q')
                            case first =>
                              by_cases hij : i ≤ j
                              · have hij' : (i : Int) ≤ (j : Int) := by omega
                                have hc1 := hD.out.cell (i := a) (by omega)
                                have hc2 := hD.out.cell (i := j) (by omega)
                                have hx2 := hD.out.num (i := j) (by omega)
                                have han : (a : Int) < (n : Int) := by omega
                                have hkn : (j : Int) < (n : Int) := by omega
                                obtain ⟨x, hx⟩ : ∃ x, zs.getD a 0 = x := ⟨_, rfl⟩
                                obtain ⟨y, hy⟩ : ∃ y, zs.getD j 0 = y := ⟨_, rfl⟩
                                have hb2 := Hbb.out
                                rw [decide_eq_true hij, Bool.true_and] at hb2
                                unfold ltB at hb2
                                rw [hx, hy] at hb2
                                rw [hx] at hc1
                                rw [hy] at hc2 hx2
                                obtain ⟨bl, hbl⟩ : ∃ bl, flt .f32 y x = bl := ⟨_, rfl⟩
                                rw [hbl] at hb2
                                have HB2 := Lib.hid hb2
                                clear hx hy hb2
                                go_wp2_with fail
                                go_quiet ((go_at_call 26; exact quiet_add (less_q hx2 hbl)))
                                go_wp2_with fail
                                go_meet
                                case rel => exact ⟨by rw [← HB2.out], q3 + nq, by rw [World.drewN_drewN]⟩
                              · have hij' : decide ((i : Int) ≤ (j : Int)) = false := decide_eq_false (by omega)
                                have hb2 : Hid (false = bb) := by have := Hbb.out; rw [decide_eq_false hij, Bool.false_and] at this; exact this
                                go_wp2_with fail
                                go_quiet (fail)
                                go_wp2_with fail
                                go_meet
                                case rel => exact ⟨by rw [← hb2.out], q3 + nq, by rw [World.drewN_drewN]⟩
                            case rest =>
                              obtain ⟨rfl, q', rfl⟩ := hcut
                              cases bb with
                              | true =>
                                have hcc : i ≤ j ∧ kA zs a ≤ kA zs j := by
                                  have := Hbb.out
                                  rw [Bool.and_eq_true, Bool.not_eq_true', decide_eq_true_eq] at this
                                  have h2 := this.2
                                  rw [ltB_true (hD.out.num (by omega)) (hD.out.num (by omega))] at h2
                                  have h3 := of_decide_eq_false h2
                                  exact ⟨this.1, by omega⟩
                                obtain ⟨j1, hj1⟩ : ∃ j1 : Nat, j = j1 + 1 := ⟨j - 1, by omega⟩
                                have hj1i : (j : Int) - 1 = (j1 : Int) := by omega
                                have HP : Hid (Pt a b i j1 zs) := ⟨hP.out.low, fun q q1 q2 => by
                                  by_cases e : q = j
                                  · rw [e]; exact hcc.2
                                  · exact hP.out.high q (by omega) q2⟩
                                have hb3 : a ≤ j1 ∧ i ≤ j1 + 1 ∧ j1 ≤ j0 ∧ j1 < j := by omega
                                clear hcc hP hj1
                                go_wp2_with fail
                                go_roundw
                                case rel => exact ⟨j1, _, by omega, by go_num, rfl, HP⟩
                                case measure => simp only [intOf]; omega
                              | false =>
                                by_cases hij : j < i
                                · have hij' : (j : Int) < (i : Int) := by omega
                                  have HQ : Hid (Cut a b j (swapL zs j a)) := by
                                    have := hP.out
                                    rw [show i = j + 1 by omega] at this
                                    exact this.end_ (by omega) (by have := hD.out.len; omega)
                                  clear hst Hbb
                                  go_wp2_with fail
                                  have hsw := hD.out.swap (i := j) (j := a) (by omega) (by omega)
                                  have HS := Lib.hid hsw.1
                                  have HG := Lib.hid (grown_trans' hG.out hsw.2)
                                  clear hsw
                                  go_upto_region 21 with fail
                                  go_cut [] (fun wx => Hid (Dt wx g n c (swapL zs j a)) ∧ Hid (w.grownBy wx (some g)))
                                  case first =>
                                    have hc1 := hD.out.cell (i := j) (by omega)
                                    have hc2 := hD.out.cell (i := a) (by omega)
                                    have hf1 := hD.out.fz j
                                    have hf2 := hD.out.fz a
                                    have hxn : (j : Int) < (n : Int) := by omega
                                    have hyn : (a : Int) < (n : Int) := by omega
                                    obtain ⟨u, hu⟩ : ∃ u, zs.getD j 0 = u := ⟨_, rfl⟩
                                    obtain ⟨v, hv⟩ : ∃ v, zs.getD a 0 = v := ⟨_, rfl⟩
                                    rw [hu, hv] at HS HG
                                    rw [hu] at hc1
                                    rw [hv] at hc2
                                    clear hu hv
                                    by_cases hxy : j = a
                                    · have huv : u = v := by
                                        rw [← hxy] at hc2
                                        rw [hc1] at hc2
                                        injection hc2 with e
                                        injection e
                                      subst huv
                                      rw [← hxy] at hc2 hf2 HS HG
                                      have hxy' : (a : Int) = (j : Int) := by omega
                                      have hxy2 : a = j := hxy.symm
                                      clear hc2 hf2 hxy
                                      go_wp2_with fail
                                      go_big_region
                                      go_wp2_with fail
                                      go_meet
                                      case rel => exact ⟨by rw [hxy2]; exact ⟨HS.out.own, HS.out.len, HS.out.fin⟩, ⟨HG.out.os, HG.out.tape, HG.out.output, HG.out.size, HG.out.block⟩⟩
                                    · go_wp2_with fail
                                      go_big_region
                                      go_wp2_with fail
                                      go_meet
                                      case rel => exact ⟨⟨HS.out.own, HS.out.len, HS.out.fin⟩, ⟨HG.out.os, HG.out.tape, HG.out.output, HG.out.size, HG.out.block⟩⟩
                                  case rest =>
                                    obtain ⟨HD2, HG2⟩ := hcut
                                    clear HS HG hD hG
                                    have hD := HD2
                                    have hG := HG2
                                    clear HD2 HG2
                                    have HW : Hid (Sw a b xs (swapL zs j a)) := hW.out.trans (Sw.swap (by omega) (by omega) (by have := hW.out.len; have := hD.out.len; rw [swapL_len] at this; omega))
                                    go_wp2_with fail
                                    go_ret2
                                    exact ⟨j, false, rfl, by omega, _, hD, hG, HW, HQ⟩
                                · have hij' : ¬ (j : Int) < (i : Int) := by omega
                                  have hjl : kA zs j < kA zs a := by
                                    have := Hbb.out
                                    rw [decide_eq_true (show i ≤ j by omega), Bool.true_and, Bool.not_eq_false', ltB_true (hD.out.num (by omega)) (hD.out.num (by omega))] at this
                                    exact of_decide_eq_true this
                                  have hil := hst.out (by omega)
                                  have hne : i ≠ j := fun e => by rw [e] at hil; omega
                                  have hlt : i < j := by omega
                                  have hc1 := hD.out.cell (i := i) (by omega)
                                  have hc2 := hD.out.cell (i := j) (by omega)
                                  have hf1 := hD.out.fz i
                                  have hf2 := hD.out.fz j
                                  have hin : (i : Int) < (n : Int) := by omega
                                  have hjn : (j : Int) < (n : Int) := by omega
                                  have hsw := hD.out.swap (i := i) (j := j) (by omega) (by omega)
                                  have HS := Lib.hid hsw.1
                                  have HG := Lib.hid (grown_trans' hG.out hsw.2)
                                  have HW : Hid (Sw a b xs (swapL zs i j)) := hW.out.trans (Sw.swap (by omega) (by omega) (by have := hW.out.len; have := hD.out.len; omega))
                                  obtain ⟨j1, hj1⟩ : ∃ j1 : Nat, j = j1 + 1 := ⟨j - 1, by omega⟩
                                  have hj1i : (j : Int) - 1 = (j1 : Int) := by omega
                                  have HP : Hid (Pt a b (i + 1) j1 (swapL zs i j)) := by
                                    have := hP.out.swap (by omega) hlt (by have := hD.out.len; omega) hil hjl
                                    rw [show j - 1 = j1 by omega] at this
                                    exact this
                                  have hb3 : a ≤ j1 ∧ i ≤ j1 ∧ j1 < b := by omega
                                  clear hsw hst Hbb hjl hil hP hj1
                                  go_wp2_with fail
                                  go_big_region
                                  go_wp2_with fail
                                  go_roundw
                                  case rel => exact ⟨i + 1, j1, swapL zs i j, by omega, by omega, by go_num, by go_num, ⟨HS.out.own, HS.out.len, HS.out.fin⟩, ⟨HG.out.os, HG.out.tape, HG.out.output, HG.out.size, HG.out.block⟩, HW, HP⟩
                                  case measure => simp only [intOf]; omega
end Go.Proofs.Ytmhhjegceibjoaa
