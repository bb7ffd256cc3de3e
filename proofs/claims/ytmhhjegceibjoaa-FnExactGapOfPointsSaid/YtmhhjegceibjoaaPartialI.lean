/- slices.Sort of finite float32: the partial insertion. -/
import Derived.Test.YtmhhjegceibjoaaSrtI
import Derived.Deep.DeepCutAuto
namespace Go.Proofs.Ytmhhjegceibjoaa
open Go.RowKit
set_option maxRecDepth 100000
attribute [local go_sem] run_store_float'
theorem Srt.snoc {a i : Nat} {ys : List Nat} (h : Srt a i ys) (hai : a < i) (hl : kA ys (i - 1) ≤ kA ys i) : Srt a (i + 1) ys := fun p q h1 h2 h3 => by
  by_cases e : q = i
  · by_cases e2 : p = i
    · rw [e, e2]; exact Int.le_refl _
    · have := h p (i - 1) h1 (by omega) (by omega)
      rw [e]; omega
  · exact h p q h1 h2 (by omega)
theorem Srt.shrink {a i j : Nat} {ys : List Nat} (h : Srt a i ys) (hj : j ≤ i) : Srt a j ys := fun p q h1 h2 h3 => h p q h1 h2 (by omega)
theorem Srt.far {a i x y : Nat} {ys : List Nat} (h : Srt a i ys) (hx : i ≤ x ∧ x < ys.length) (hy : i ≤ y ∧ y < ys.length) : Srt a i (swapL ys x y) := fun p q h1 h2 h3 => by
  have e := kA_swap (xs := ys) (i := x) (j := y) hx.2 hy.2
  rw [e p, e q, if_neg (by omega), if_neg (by omega), if_neg (by omega), if_neg (by omega)]
  exact h p q h1 h2 h3
/-- What the partial insertion gives. -/
def GavePart (w : World) (g n c a b : Nat) (xs : List Nat) (e : Ending) (w' : World) : Prop := ∃ r : Bool, e = .returned (.bool r) ∧ Fx w g n c a b xs (fun ys => r = true → Srt a b ys) w'
set_option maxHeartbeats 8000000 in
theorem partial_any (g n c a b : Nat) (xs : List Nat) (w : World) (h : Dt w g n c xs) (hab : a + 12 < b) (hb : b ≤ n) (hn : n ≤ 256) (hlb : Lb a b xs) :
    Calls Try.prog 25 #[.slice (some ⟨g, 0, none⟩) n c, .int .i64 a, .int .i64 b] w (GavePart w g n c a b xs) := by
  have H := Lib.hid h
  have HL := Lib.hid hlb
  have hxl : Hid (xs.length = n) := h.len
  clear h hlb
  go_enter Try.func25, Try.ntmps25
  go_wp2_with fail
  go_loopw [7, 8] (fun v u wr => ∃ (i k : Nat) (ys : List Nat), (a + 1 ≤ i ∧ i ≤ b) ∧ k ≤ 5 ∧ v = .int .i64 i ∧ u = .int .i64 k ∧ Hid (Dt wr g n c ys) ∧ Hid (w.grownBy wr (some g)) ∧ Hid (Sw a b xs ys) ∧ Hid (Srt a i ys)) (fun _ u _ => 6 - (intOf u).toNat)
  case atStart => exact ⟨a + 1, 0, xs, by omega, by omega, by go_num, rfl, H, World.grownBy.refl _ _, Sw.refl _ _ _, Srt.empty a xs (Nat.le_refl _)⟩
  case round =>
    obtain ⟨i0, k, ys, hi0, hk, rfl, rfl, hD, hG, hS, hT⟩ := hrel
    by_cases hk5 : k < 5
    · have hk5' : (k : Int) < 5 := by omega
      go_wp2_with fail
      go_loopw [7] (fun v wq => ∃ (i q : Nat), (a + 1 ≤ i ∧ i ≤ b) ∧ v = .int .i64 i ∧ wq = wr.drewN q ∧ Hid (Srt a i ys)) (fun v _ => b + 1 - (intOf v).toNat)
      case atStart => exact ⟨i0, 0, hi0, rfl, rfl, hT⟩
      case round =>
        obtain ⟨i, q, hi, rfl, rfl, hT⟩ := hrel
        obtain ⟨i1, hi1⟩ : ∃ i1 : Nat, i = i1 + 1 := ⟨i - 1, by omega⟩
        have hi1w : IntKind.i64.wrap ((i : Int) - 1) = (i1 : Int) := by rw [IntKind.wrap_i64]; omega
        have hi1i : (i : Int) - 1 = (i1 : Int) := by omega
        have hi1b : a ≤ i1 ∧ i1 < b := by omega
        have Hi1 := Lib.hid hi1
        clear hi1
        obtain ⟨bb, hbb⟩ : ∃ bb, (decide (i < b) && !ltB ys i i1) = bb := ⟨_, rfl⟩
        have Hbb := Lib.hid hbb
        clear hbb
        go_upto_region 5 with fail
        go_cut [32] (fun s wx => s = .bool bb ∧ ∃ q', wx = wr.drewN q')
        case first =>
          by_cases hij : i < b
          · have hij' : (i : Int) < (b : Int) := by omega
            have hc1 := hD.out.cell (i := i) (by omega)
            have hc2 := hD.out.cell (i := i1) (by omega)
            have hx2 := hD.out.num (i := i) (by omega)
            have hin : (i : Int) < (n : Int) := by omega
            have hin1 : (i1 : Int) < (n : Int) := by omega
            obtain ⟨x, hx⟩ : ∃ x, ys.getD i 0 = x := ⟨_, rfl⟩
            obtain ⟨y, hy⟩ : ∃ y, ys.getD i1 0 = y := ⟨_, rfl⟩
            have hb2 := Hbb.out
            rw [decide_eq_true hij, Bool.true_and] at hb2
            unfold ltB at hb2
            rw [hx, hy] at hb2
            rw [hx] at hc1 hx2
            rw [hy] at hc2
            obtain ⟨bl, hbl⟩ : ∃ bl, flt .f32 x y = bl := ⟨_, rfl⟩
            rw [hbl] at hb2
            have HB2 := Lib.hid hb2
            clear hx hy hb2 hi1i
            go_wp2_with fail
            go_quiet ((go_at_call 26; exact quiet_add (less_q hx2 hbl)))
            go_wp2_with fail
            go_meet
            case rel => exact ⟨by rw [← HB2.out], q + nq, by rw [World.drewN_drewN]⟩
          · have hij' : decide ((i : Int) < (b : Int)) = false := decide_eq_false (by omega)
            have hb2 : Hid (false = bb) := by have := Hbb.out; rw [decide_eq_false hij, Bool.false_and] at this; exact this
            go_wp2_with fail
            go_quiet (fail)
            go_wp2_with fail
            go_meet
            case rel => exact ⟨by rw [← hb2.out], q + nq, by rw [World.drewN_drewN]⟩
        case rest =>
          obtain ⟨rfl, q', rfl⟩ := hcut
          cases bb with
          | true =>
            have hcc : i < b ∧ kA ys i1 ≤ kA ys i := by
              have := Hbb.out
              rw [Bool.and_eq_true, Bool.not_eq_true', decide_eq_true_eq] at this
              have h2 := this.2
              rw [ltB_true (hD.out.num (by omega)) (hD.out.num (by omega))] at h2
              have h3 := of_decide_eq_false h2
              exact ⟨this.1, by omega⟩
            have HT : Hid (Srt a (i + 1) ys) := hT.out.snoc (by omega) (by rw [show i - 1 = i1 by omega]; exact hcc.2)
            have hcc1 := hcc.1
            clear hcc hT hi1w hi1i
            go_wp2_with fail
            go_roundw
            case rel => exact ⟨i + 1, _, by omega, by go_num, rfl, HT⟩
            case measure => simp only [intOf]; omega
          | false =>
            by_cases hib : i = b
            · have HT : Hid (Srt a b ys) := by rw [← hib]; exact hT.out
              have hib' : (i : Int) = (b : Int) := by omega
              have hbe : ((i : Int) == (b : Int)) = true := by simp [hib']
              have HD2 := Lib.hid (hD.out.drewN q')
              have HG2 := Lib.hid (grownBy_drewN hG.out q')
              clear hib hi1w hi1i Hbb hib'
              go_wp2_with fail
              go_ret
              exact ⟨true, rfl, ys, HD2, HG2, hS, fun _ => HT.out⟩
            · have hilt : i < b := by omega
              have hbe : ((i : Int) == (b : Int)) = false := by rw [beq_eq_false_iff_ne]; omega
              obtain ⟨l, hl⟩ : ∃ l : Nat, b = a + l := ⟨b - a, by omega⟩
              have hli : (b : Int) - (a : Int) = (l : Int) := by omega
              have Hl := Lib.hid hl
              clear hl
              by_cases h50 : l < 50
              · have h50' : (l : Int) < 50 := by omega
                have HT : Hid (false = true → Srt a b ys) := fun e => by cases e
                have HD2 := Lib.hid (hD.out.drewN q')
                have HG2 := Lib.hid (grownBy_drewN hG.out q')
                go_wp2_with fail
                go_ret
                exact ⟨false, rfl, ys, HD2, HG2, hS, HT⟩
              · have h50' : ¬ (l : Int) < 50 := by omega
                have hc1 := hD.out.cell (i := i) (by omega)
                have hc2 := hD.out.cell (i := i1) (by omega)
                have hf1 := hD.out.fz i
                have hf2 := hD.out.fz i1
                have hin : (i : Int) < (n : Int) := by omega
                have hin1 : (i1 : Int) < (n : Int) := by omega
                have hne : i ≠ i1 := by have := Hi1.out; omega
                have hsw := hD.out.swap (i := i) (j := i1) (by omega) (by omega)
                have HD2 : Hid (Dt (((wr.setCell ⟨g, i, none⟩ (.float .f32 (ys.getD i1 0))).setCell ⟨g, i1, none⟩ (.float .f32 (ys.getD i 0))).drewN q').drew g n c (swapL ys i i1)) := (hsw.1.drewN q').drew
                have HG2 : Hid (w.grownBy (((wr.setCell ⟨g, i, none⟩ (.float .f32 (ys.getD i1 0))).setCell ⟨g, i1, none⟩ (.float .f32 (ys.getD i 0))).drewN q').drew (some g)) := grownBy_drew (grownBy_drewN (grown_trans' hG.out hsw.2) q')
                have HS2 : Hid (Sw a b xs (swapL ys i i1)) := hS.out.trans (Sw.swap (by omega) (by omega) (by have := hS.out.len; have := hxl.out; omega))
                have HT2 : Hid (Srt a i1 (swapL ys i i1)) := (hT.out.shrink (by omega)).far (by have := hD.out.len; omega) (by have := hD.out.len; omega)
                obtain ⟨x, hx⟩ : ∃ x, ys.getD i 0 = x := ⟨_, rfl⟩
                obtain ⟨y, hy⟩ : ∃ y, ys.getD i1 0 = y := ⟨_, rfl⟩
                rw [hx, hy] at HD2 HG2
                rw [hx] at hc1
                rw [hy] at hc2
                clear hx hy hsw hib Hbb hT
                go_wp2_with fail
                go_big_region
                obtain ⟨zs, hzs⟩ : ∃ zs, swapL ys i i1 = zs := ⟨_, rfl⟩
                rw [hzs] at HD2 HS2 HT2
                obtain ⟨ia, hia⟩ : ∃ ia : Nat, i = a + ia := ⟨i - a, by omega⟩
                have hiai : (i : Int) - (a : Int) = (ia : Int) := by omega
                have Hia := Lib.hid hia
                clear hzs hia
                go_upto_if 61 with fail
                go_cut [9] (fun _ wx => ∃ zs, Hid (Dt wx g n c zs) ∧ Hid (w.grownBy wx (some g)) ∧ Hid (Sw a b xs zs) ∧ Hid (Srt a i zs))
                case first =>
                  by_cases h2 : 2 ≤ ia
                  · have h2' : (ia : Int) ≥ 2 := by omega
                    have hI : Hid (Ins a i1 i1 zs) := Ins.start HT2.out
                    go_wp2_with fail
                    go_loopw [9] (fun v wq => ∃ (j : Nat) (zs : List Nat), (a ≤ j ∧ j ≤ i1) ∧ v = .int .i64 j ∧ Hid (Dt wq g n c zs) ∧ Hid (w.grownBy wq (some g)) ∧ Hid (Sw a b xs zs) ∧ Hid (Ins a i1 j zs)) (fun v _ => (intOf v).toNat)
                    case atStart => exact ⟨i1, zs, by omega, by go_num, ⟨HD2.out.own, HD2.out.len, HD2.out.fin⟩, ⟨HG2.out.os, HG2.out.tape, HG2.out.output, HG2.out.size, HG2.out.block⟩, HS2, hI⟩
                    case round =>
                      clear HD2 HG2 HS2 HT2 hI hc1 hc2 hf1 hf2 hin hin1 hne
                      obtain ⟨j, zs, hj, rfl, hD, hG, hS, hI⟩ := hrel
                      by_cases hj1 : 1 ≤ j
                      · have hj1' : (j : Int) ≥ 1 := by omega
                        obtain ⟨p, hp⟩ : ∃ p : Nat, j = p + 1 := ⟨j - 1, by omega⟩
                        have hw1 : IntKind.i64.wrap ((j : Int) - 1) = (p : Int) := by rw [IntKind.wrap_i64]; omega
                        have hpi : (j : Int) - 1 = (p : Int) := by omega
                        have hc1 := hD.out.cell (i := j) (by omega)
                        have hc2 := hD.out.cell (i := p) (by omega)
                        have hf1 := hD.out.fz j
                        have hf2 := hD.out.fz p
                        have hx1 := hD.out.num (i := j) (by omega)
                        have hx2 := hD.out.num (i := p) (by omega)
                        have hlb2 := ltB_true hx1 hx2
                        have hjn : (j : Int) < (n : Int) := by omega
                        have hpn : (p : Int) < (n : Int) := by omega
                        have hjp : j ≠ p := by omega
                        have Hp := Lib.hid hp
                        have hlow : kA zs j < kA zs p → a < j := fun hc => by
                          rcases Nat.lt_or_ge a j with h | h
                          · exact h
                          · have e : j = a := by omega
                            have := (HL.out.sw hS.out (by have := hxl.out; omega)) a (by omega) (Nat.le_refl _) (by omega)
                            rw [show a - 1 = p by omega, ← e] at this
                            omega
                        obtain ⟨x, hx⟩ : ∃ x, zs.getD j 0 = x := ⟨_, rfl⟩
                        obtain ⟨y, hy⟩ : ∃ y, zs.getD p 0 = y := ⟨_, rfl⟩
                        have hsw := hD.out.swap (i := j) (j := p) (by omega) (by omega)
                        unfold ltB at hlb2
                        rw [hx, hy] at hlb2 hsw
                        rw [hx] at hc1 hx1
                        rw [hy] at hc2
                        by_cases hless : kA zs j < kA zs p
                        · rw [decide_eq_true hless] at hlb2
                          have haj := hlow hless
                          have HS := Lib.hid hsw.1
                          have HG := Lib.hid (grown_trans' hG.out hsw.2)
                          have HW : Hid (Sw a b xs (swapL zs j p)) := hS.out.trans (Sw.swap (by omega) (by omega) (by have := hS.out.len; have := hxl.out; omega))
                          have HI : Hid (Ins a i1 p (swapL zs j p)) := by
                            have := hI.out.step haj hj.2 (by have := hD.out.len; omega) (by rw [show j - 1 = p by omega]; exact hless)
                            rw [show j - 1 = p by omega] at this
                            exact this
                          have hap : a ≤ p := by omega
                          clear hsw hless hx hy hx2 hp hlow
                          go_wp2_with fail
                          go_quiet ((go_at_call 26; exact Calls.quiet_of_same (less_s hx1 hlb2)))
                          go_wp2_with fail
                          go_big_region
                          go_wp2_with fail
                          go_roundw
                          case rel => exact ⟨p, swapL zs j p, by have := Hp.out; omega, by go_num, ⟨HS.out.own, HS.out.len, HS.out.fin⟩, ⟨HG.out.os, HG.out.tape, HG.out.output, HG.out.size, HG.out.block⟩, HW, HI⟩
                          case measure => have := Hp.out; simp only [intOf]; omega
                        · rw [decide_eq_false hless] at hlb2
                          have HT : Hid (Srt a i zs) := by
                            have := hI.out.stop hj.1 (fun _ => by rw [show j - 1 = p by omega]; omega)
                            rw [← Hi1.out] at this
                            exact this
                          clear hsw hless hf1 hf2 hx hy hx2 hp hlow
                          go_wp2_with fail
                          go_quiet ((go_at_call 26; exact Calls.quiet_of_same (less_s hx1 hlb2)))
                          go_wp2_with fail
                          go_meet
                          case rel => exact ⟨zs, ⟨hD.out.own, hD.out.len, hD.out.fin⟩, ⟨hG.out.os, hG.out.tape, hG.out.output, hG.out.size, hG.out.block⟩, hS, HT⟩
                      · have hj1' : ¬ (j : Int) ≥ 1 := by omega
                        have HT : Hid (Srt a i zs) := by
                          have := hI.out.stop hj.1 (fun _ => by omega)
                          rw [← Hi1.out] at this
                          exact this
                        go_wp2_with fail
                        go_meet
                        case rel => exact ⟨zs, hD, hG, hS, HT⟩
                  · have h2' : ¬ (ia : Int) ≥ 2 := by omega
                    have HT : Hid (Srt a i zs) := Srt.empty a zs (by have := Hia.out; omega)
                    go_wp2_with fail
                    go_meet
                    case rel => exact ⟨zs, ⟨HD2.out.own, HD2.out.len, HD2.out.fin⟩, ⟨HG2.out.os, HG2.out.tape, HG2.out.output, HG2.out.size, HG2.out.block⟩, HS2, HT⟩
                case rest =>
                  clear HD2 HG2 HS2 HT2 hc1 hc2 hf1 hf2 hin1 hne
                  obtain ⟨zs, hD, hG, hS, hT⟩ := hcut
                  obtain ⟨ib, hib⟩ : ∃ ib : Nat, b = i + ib := ⟨b - i, by omega⟩
                  have hibi : (b : Int) - (i : Int) = (ib : Int) := by omega
                  have Hib := Lib.hid hib
                  clear hib
                  by_cases h2 : 2 ≤ ib
                  · have h2' : (ib : Int) ≥ 2 := by omega
                    go_wp2_with fail
                    go_loopw [10] (fun v wq => ∃ (j : Nat) (zs : List Nat), (i + 1 ≤ j ∧ j ≤ b) ∧ v = .int .i64 j ∧ Hid (Dt wq g n c zs) ∧ Hid (w.grownBy wq (some g)) ∧ Hid (Sw a b xs zs) ∧ Hid (Srt a i zs)) (fun v _ => b + 1 - (intOf v).toNat)
                    case atStart => exact ⟨i + 1, zs, by omega, by go_num, hD, hG, hS, hT⟩
                    case round =>
                      clear hD hG hS hT
                      obtain ⟨j, zs, hj, rfl, hD, hG, hS, hT⟩ := hrel
                      by_cases hjb : j < b
                      · have hjb' : (j : Int) < (b : Int) := by omega
                        obtain ⟨p, hp⟩ : ∃ p : Nat, j = p + 1 := ⟨j - 1, by omega⟩
                        have hw1 : IntKind.i64.wrap ((j : Int) - 1) = (p : Int) := by rw [IntKind.wrap_i64]; omega
                        have hc1 := hD.out.cell (i := j) (by omega)
                        have hc2 := hD.out.cell (i := p) (by omega)
                        have hf1 := hD.out.fz j
                        have hf2 := hD.out.fz p
                        have hx1 := hD.out.num (i := j) (by omega)
                        have hjn : (j : Int) < (n : Int) := by omega
                        have hpn : (p : Int) < (n : Int) := by omega
                        have hjp : j ≠ p := by omega
                        have hpb : i ≤ p ∧ a ≤ p ∧ p < b := by omega
                        obtain ⟨x, hx⟩ : ∃ x, zs.getD j 0 = x := ⟨_, rfl⟩
                        obtain ⟨y, hy⟩ : ∃ y, zs.getD p 0 = y := ⟨_, rfl⟩
                        have hsw := hD.out.swap (i := j) (j := p) (by omega) (by omega)
                        rw [hx, hy] at hsw
                        rw [hx] at hc1 hx1
                        rw [hy] at hc2
                        obtain ⟨bl, hbl⟩ : ∃ bl, flt .f32 x y = bl := ⟨_, rfl⟩
                        have HS := Lib.hid hsw.1
                        have HG := Lib.hid (grown_trans' hG.out hsw.2)
                        have HW : Hid (Sw a b xs (swapL zs j p)) := hS.out.trans (Sw.swap (by omega) (by omega) (by have := hS.out.len; have := hxl.out; omega))
                        have HT : Hid (Srt a i (swapL zs j p)) := hT.out.far (by have := hD.out.len; omega) (by have := hD.out.len; omega)
                        clear hsw hx hy hp
                        cases bl with
                        | true =>
                          go_wp2_with fail
                          go_quiet ((go_at_call 26; exact Calls.quiet_of_same (less_s hx1 hbl)))
                          go_wp2_with fail
                          go_big_region
                          go_wp2_with fail
                          go_roundw
                          case rel => exact ⟨j + 1, swapL zs j p, by omega, by go_num, ⟨HS.out.own, HS.out.len, HS.out.fin⟩, ⟨HG.out.os, HG.out.tape, HG.out.output, HG.out.size, HG.out.block⟩, HW, HT⟩
                          case measure => simp only [intOf]; omega
                        | false =>
                          clear HS HG HW HT hf1 hf2
                          go_wp2_with fail
                          go_quiet ((go_at_call 26; exact Calls.quiet_of_same (less_s hx1 hbl)))
                          go_wp2_with fail
                          go_roundw
                          case rel => exact ⟨i, k + 1, zs, by omega, by omega, rfl, by go_num, ⟨hD.out.own, hD.out.len, hD.out.fin⟩, ⟨hG.out.os, hG.out.tape, hG.out.output, hG.out.size, hG.out.block⟩, hS, hT⟩
                          case measure => simp only [intOf]; omega
                      · have hjb' : ¬ (j : Int) < (b : Int) := by omega
                        go_wp2_with fail
                        go_roundw
                        case rel => exact ⟨i, k + 1, zs, by omega, by omega, rfl, by go_num, hD, hG, hS, hT⟩
                        case measure => simp only [intOf]; omega
                  · have h2' : ¬ (ib : Int) ≥ 2 := by omega
                    go_wp2_with fail
                    go_roundw
                    case rel => exact ⟨i, k + 1, zs, by omega, by omega, rfl, by go_num, hD, hG, hS, hT⟩
                    case measure => simp only [intOf]; omega
    · have hk5' : ¬ (k : Int) < 5 := by omega
      have HT : Hid (false = true → Srt a b ys) := fun e => by cases e
      go_wp2_with fail
      go_ret
      exact ⟨false, rfl, ys, hD, hG, hS, HT⟩
end Go.Proofs.Ytmhhjegceibjoaa
