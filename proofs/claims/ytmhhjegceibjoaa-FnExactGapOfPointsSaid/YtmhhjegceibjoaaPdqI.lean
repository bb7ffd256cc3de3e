/- slices.Sort of finite float32, whole: the pattern-defeating quicksort and what calls it. -/
import Derived.Test.YtmhhjegceibjoaaPdqP
import Derived.Test.YtmhhjegceibjoaaPartialI
import Derived.Test.YtmhhjegceibjoaaBreakJ
import Derived.Test.YtmhhjegceibjoaaHeapI
import Derived.Deep.DeepCutAuto
namespace Go.Proofs.Ytmhhjegceibjoaa
open Go.RowKit
set_option maxRecDepth 100000
theorem Dt.of_below {w w' : World} {g n c : Nat} {xs : List Nat} (h : Dt w g n c xs) (hn : 0 < n) (hb : Below w.heap.size w w') : Dt w' g n c xs :=
  h.grown (row := none) ⟨hb.os, hb.tape, hb.output, hb.size, fun k hk _ => hb.block k hk⟩ (by simp)
theorem grown_below {w w' w'' : World} {g : Nat} (h : w.grownBy w' (some g)) (hb : Below w'.heap.size w' w'') : w.grownBy w'' (some g) :=
  ⟨hb.os.trans h.os, hb.tape.trans h.tape, hb.output.trans h.output, Nat.le_trans h.size hb.size, fun k hk hn => (hb.block k (Nat.lt_of_lt_of_le hk h.size)).trans (h.block k hk hn)⟩
/-- The sort of so many places. -/
def Pdq (L : Nat) : Prop := ∀ (g n c a b : Nat) (lim : Int) (xs : List Nat) (w : World), b - a ≤ L → Dt w g n c xs → a ≤ b → b ≤ n → n ≤ 256 → 0 ≤ lim → lim ≤ 100 → Lb a b xs →
    Calls Try.prog 17 #[.slice (some ⟨g, 0, none⟩) n c, .int .i64 a, .int .i64 b, .int .i64 lim] w fun e w' => e = .returned (.tuple #[]) ∧ Fx w g n c a b xs (Srt a b) w'
set_option maxHeartbeats 16000000 in
theorem pdq_step (L : Nat) (ih : ∀ L', L' < L → Pdq L') : Pdq L := by
  intro g n c a b lim xs w hL h hab hb hn hl0 hl1 hlb
  have H := Lib.hid h
  have HX : Hid (St a b xs a b xs) := St.start hlb
  have hxl : Hid (xs.length = n) := h.len
  have IH := Lib.hid ih
  clear h hlb ih
  go_enter Try.func17, Try.ntmps17
  go_wp2_with fail
  go_loopw [1, 2, 3, 8, 9] (fun v1 v2 v3 v8 v9 wr => ∃ (a' b' : Nat) (lim : Int) (bal par : Bool) (ys : List Nat), (a ≤ a' ∧ a' ≤ b' ∧ b' ≤ b) ∧ (0 ≤ lim ∧ lim ≤ 100) ∧ v1 = .int .i64 a' ∧ v2 = .int .i64 b' ∧ v3 = .int .i64 lim ∧ v8 = .bool bal ∧ v9 = .bool par ∧ Hid (Dt wr g n c ys) ∧ Hid (w.grownBy wr (some g)) ∧ Hid (St a b xs a' b' ys)) (fun v1 v2 _ _ _ _ => (intOf v2 - intOf v1).toNat)
  case atStart => exact ⟨a, b, lim, true, true, xs, by omega, by omega, rfl, rfl, rfl, rfl, rfl, H, World.grownBy.refl _ _, HX⟩
  case round =>
    clear hl0 hl1
    obtain ⟨a', b', lim, bal, par, ys, ha', hlim, rfl, rfl, rfl, rfl, rfl, hD, hG, hX⟩ := hrel
    obtain ⟨l, hl⟩ : ∃ l : Nat, b' = a' + l := ⟨b' - a', by omega⟩
    have hli : (b' : Int) - (a' : Int) = (l : Int) := by omega
    have Hl := Lib.hid hl
    have hlb : l ≤ 256 := by omega
    have hyl : Hid (ys.length = n) := hD.out.len
    by_cases h12 : l ≤ 12
    · have h12' : (l : Int) ≤ 12 := by omega
      clear hl
      go_wp2_with fail
      refine (insSort_any g n c a' b' ys _ hD.out (by omega) (by omega) (by omega)).mono ?_
      rintro e wq ⟨rfl, zs, hD2, hG2, hS2, hT2⟩
      have HG := Lib.hid (grown_trans' hG.out hG2.out)
      have HX := Lib.hid (hX.out.more hS2.out (by omega) (by omega) (by have := hyl.out; omega))
      have HT := Lib.hid (HX.out.end_ hT2.out)
      have HS := Lib.hid HX.out.sw
      go_wp2_with fail
      (try simp only [Exit.inBlock, Exit.then])
      refine bodyPost_ret (results_none rfl _ _ _) rfl ?_
      exact ⟨rfl, zs, hD2, HG, HS, HT⟩
    · have h12' : ¬ (l : Int) ≤ 12 := by omega
      have hlt : a' + 12 < b' := by omega
      clear hl
      by_cases hz : lim = 0
      · have hz' : (lim == 0) = true := by simp [hz]
        clear hz
        go_wp2_with fail
        refine (heapSort_any g n c a' b' ys _ hD.out (by omega) (by omega) (by omega)).mono ?_
        rintro e wq ⟨rfl, zs, hD2, hG2, hS2, hT2⟩
        have HG := Lib.hid (grown_trans' hG.out hG2.out)
        have HX := Lib.hid (hX.out.more hS2.out (by omega) (by omega) (by have := hyl.out; omega))
        have HT := Lib.hid (HX.out.end_ hT2.out)
        have HS := Lib.hid HX.out.sw
        go_wp2_with fail
        (try simp only [Exit.inBlock, Exit.then])
        refine bodyPost_ret (results_none rfl _ _ _) rfl ?_
        exact ⟨rfl, zs, hD2, HG, HS, HT⟩
      · have hz' : (lim == 0) = false := by rw [beq_eq_false_iff_ne]; exact hz
        have hlm : 1 ≤ lim := by omega
        clear hz
        go_upto_if 35 with fail
        go_cut [3] (fun s3 wx => ∃ (lim2 : Int) (zs : List Nat), s3 = .int .i64 lim2 ∧ (0 ≤ lim2 ∧ lim2 ≤ 100) ∧ Hid (Dt wx g n c zs) ∧ Hid (w.grownBy wx (some g)) ∧ Hid (St a b xs a' b' zs))
        case first =>
          cases bal with
          | true =>
            go_wp2_with fail
            go_meet
            case rel => exact ⟨lim, ys, rfl, by omega, hD, hG, hX⟩
          | false =>
            go_wp2_with fail
            refine (break_any g n c a' b' ys _ hD.out hlt (by omega) hn).mono ?_
            rintro e wq ⟨rfl, zs, hD2, hG2, hS2, _⟩
            have HG := Lib.hid (grown_trans' hG.out hG2.out)
            have HX := Lib.hid (hX.out.more hS2.out (by omega) (by omega) (by have := hyl.out; omega))
            go_wp2_with fail
            go_meet
            case rel => exact ⟨lim - 1, zs, rfl, by omega, hD2, HG, HX⟩
        case rest =>
          clear hD hG hX hz' hlm hlim hyl
          obtain ⟨lim2, ys, rfl, hlim, hD, hG, hX⟩ := hcut
          have hyl : Hid (ys.length = n) := hD.out.len
          go_wp2_with fail
          refine (choose_any g n c a' b' ys _ hD.out hlt (by omega) (by omega)).mono ?_
          rintro e wq ⟨p, ht, rfl, hp, hht, hbq⟩
          have hD2 := Lib.hid (hD.out.of_below (by omega) hbq.out)
          have hG2 := Lib.hid (grown_below hG.out hbq.out)
          clear hD hG hbq
          go_upto_if 50 with fail
          go_cut [11, 12] (fun s11 s12 wx => ∃ (p : Nat) (ht : Int) (zs : List Nat), s11 = .int .i64 p ∧ s12 = .int .i64 ht ∧ (a' ≤ p ∧ p < b') ∧ (0 ≤ ht ∧ ht ≤ 2) ∧ Hid (Dt wx g n c zs) ∧ Hid (w.grownBy wx (some g)) ∧ Hid (St a b xs a' b' zs))
          case first =>
            by_cases h2 : ht = 2
            · have h2' : (ht == 2) = true := by simp [h2]
              obtain ⟨b1, hb1⟩ : ∃ b1 : Nat, b' = b1 + 1 := ⟨b' - 1, by omega⟩
              have hb1i : (b' : Int) - 1 = (b1 : Int) := by omega
              obtain ⟨pa, hpa⟩ : ∃ pa : Nat, p = a' + pa := ⟨p - a', by omega⟩
              have hpai : (p : Int) - (a' : Int) = (pa : Int) := by omega
              obtain ⟨p2, hp2⟩ : ∃ p2 : Nat, b1 = pa + p2 := ⟨b1 - pa, by omega⟩
              have hp2i : (b1 : Int) - (pa : Int) = (p2 : Int) := by omega
              have hpb2 : a' ≤ p2 ∧ p2 < b' := by omega
              clear h2 hb1 hpa hp2
              go_wp2_with fail
              refine (revRange_any g n c a' b' ys _ hD2.out (by omega) (by omega) (by omega)).mono ?_
              rintro e wq2 ⟨rfl, zs, hD3, hG3, hS3, _⟩
              have HG := Lib.hid (grown_trans' hG2.out hG3.out)
              have HX := Lib.hid (hX.out.more hS3.out (by omega) (by omega) (by have := hyl.out; omega))
              go_wp2_with fail
              go_meet
              case rel => exact ⟨p2, 1, zs, rfl, rfl, hpb2, by omega, hD3, HG, HX⟩
            · have h2' : (ht == 2) = false := by rw [beq_eq_false_iff_ne]; exact h2
              clear h2
              go_wp2_with fail
              go_meet
              case rel => exact ⟨p, ht, ys, rfl, rfl, hp, hht, hD2, hG2, hX⟩
          case rest =>
            clear hD2 hG2 hX hyl hp hht
            obtain ⟨p, ht, ys, rfl, rfl, hp, hht, hD, hG, hX⟩ := hcut
            have hyl : Hid (ys.length = n) := hD.out.len
            go_upto_region 15 with fail
            go_cut [68] (fun s wx => ∃ bq, s = .bool bq ∧ wx = wc)
            case first =>
              by_cases h1 : ht = 1
              · have h1' : (ht == 1) = true := by simp [h1]
                clear h1
                cases bal <;> cases par
                · go_wp2_with fail
                  go_meet
                  case rel => exact ⟨_, rfl, rfl⟩
                · go_wp2_with fail
                  go_meet
                  case rel => exact ⟨_, rfl, rfl⟩
                · go_wp2_with fail
                  go_meet
                  case rel => exact ⟨_, rfl, rfl⟩
                · go_wp2_with fail
                  go_meet
                  case rel => exact ⟨_, rfl, rfl⟩
              · have h1' : (ht == 1) = false := by rw [beq_eq_false_iff_ne]; exact h1
                clear h1
                cases bal <;> cases par
                · go_wp2_with fail
                  go_meet
                  case rel => exact ⟨_, rfl, rfl⟩
                · go_wp2_with fail
                  go_meet
                  case rel => exact ⟨_, rfl, rfl⟩
                · go_wp2_with fail
                  go_meet
                  case rel => exact ⟨_, rfl, rfl⟩
                · go_wp2_with fail
                  go_meet
                  case rel => exact ⟨_, rfl, rfl⟩
            case rest =>
              obtain ⟨bq, rfl, rfl⟩ := hcut
              go_upto_if 68 with fail
              go_cut [] (fun wx => ∃ zs : List Nat, Hid (Dt wx g n c zs) ∧ Hid (w.grownBy wx (some g)) ∧ Hid (St a b xs a' b' zs))
              case first =>
                cases bq with
                | true =>
                  go_wp2_with fail
                  refine (partial_any g n c a' b' ys _ hD.out hlt (by omega) hn hX.out.lb).mono ?_
                  rintro e wq ⟨r, rfl, zs, hD2, hG2, hS2, hT2⟩
                  have HG := Lib.hid (grown_trans' hG.out hG2.out)
                  have HX := Lib.hid (hX.out.more hS2.out (by omega) (by omega) (by have := hyl.out; omega))
                  cases r with
                  | true =>
                    have HT := Lib.hid (HX.out.end_ (hT2.out rfl))
                    have HS := Lib.hid HX.out.sw
                    go_wp2_with fail
                    (try simp only [Exit.inBlock, Exit.then])
                    refine bodyPost_ret (results_none rfl _ _ _) rfl ?_
                    exact ⟨rfl, zs, hD2, HG, HS, HT⟩
                  | false =>
                    go_wp2_with fail
                    go_meet
                    case rel => exact ⟨zs, hD2, HG, HX⟩
                | false =>
                  go_wp2_with fail
                  go_meet
                  case rel => exact ⟨ys, hD, hG, hX⟩
              case rest =>
                clear hD hG hX hyl hht
                obtain ⟨ys, hD, hG, hX⟩ := hcut
                have hyl : Hid (ys.length = n) := hD.out.len
                have hpn := hD.out.num (i := p) (by omega)
                obtain ⟨bb, hbb⟩ : ∃ bb, (decide (0 < a') && !ltB ys (a' - 1) p) = bb := ⟨_, rfl⟩
                have Hbb := Lib.hid hbb
                clear hbb
                go_upto_region 17 with fail
                go_cut [87] (fun s wx => s = .bool bb ∧ Hid (Dt wx g n c ys) ∧ Hid (w.grownBy wx (some g)))
                case first =>
                  by_cases h0 : 0 < a'
                  · have h0' : (0 : Int) < (a' : Int) := by omega
                    obtain ⟨a1, ha1⟩ : ∃ a1 : Nat, a' = a1 + 1 := ⟨a' - 1, by omega⟩
                    have hw1 : IntKind.i64.wrap ((a' : Int) - 1) = (a1 : Int) := by rw [IntKind.wrap_i64]; omega
                    have hc1 := hD.out.cell (i := a1) (by omega)
                    have hc2 := hD.out.cell (i := p) (by omega)
                    have hx1 := hD.out.num (i := a1) (by omega)
                    have ha1n : (a1 : Int) < (n : Int) := by omega
                    have hpn' : (p : Int) < (n : Int) := by omega
                    have hb2 := Hbb.out
                    rw [decide_eq_true h0, Bool.true_and, show a' - 1 = a1 by omega] at hb2
                    obtain ⟨x, hx⟩ : ∃ x, ys.getD a1 0 = x := ⟨_, rfl⟩
                    obtain ⟨y, hy⟩ : ∃ y, ys.getD p 0 = y := ⟨_, rfl⟩
                    unfold ltB at hb2
                    rw [hx, hy] at hb2
                    rw [hx] at hc1 hx1
                    rw [hy] at hc2
                    obtain ⟨bl, hbl⟩ : ∃ bl, flt .f32 x y = bl := ⟨_, rfl⟩
                    rw [hbl] at hb2
                    have HB2 := Lib.hid hb2
                    clear hx hy hb2 ha1
                    go_wp2_with fail
                    go_quiet ((go_at_call 26; exact Calls.quiet_of_same (less_s hx1 hbl)))
                    go_wp2_with fail
                    go_meet
                    case rel => exact ⟨by rw [← HB2.out], ⟨hD.out.own, hD.out.len, hD.out.fin⟩, ⟨hG.out.os, hG.out.tape, hG.out.output, hG.out.size, hG.out.block⟩⟩
                  · have h0' : decide ((a' : Int) > 0) = false := decide_eq_false (by omega)
                    have h0'' : ¬ (0 : Int) < (a' : Int) := by omega
                    have hb2 : Hid (false = bb) := by have := Hbb.out; rw [decide_eq_false h0, Bool.false_and] at this; exact this
                    go_wp2_with fail
                    go_quiet (fail)
                    go_wp2_with fail
                    go_meet
                    case rel => exact ⟨by rw [← hb2.out], ⟨hD.out.own, hD.out.len, hD.out.fin⟩, ⟨hG.out.os, hG.out.tape, hG.out.output, hG.out.size, hG.out.block⟩⟩
                case rest =>
                  clear hD hG
                  obtain ⟨rfl, hD, hG⟩ := hcut
                  cases bb with
                  | true =>
                    have hlow : ∀ q, a' ≤ q → q < b' → kA ys p ≤ kA ys q := by
                      have := Hbb.out
                      rw [Bool.and_eq_true, Bool.not_eq_true', decide_eq_true_eq] at this
                      have h2 := this.2
                      rw [ltB_true (hD.out.num (by omega)) (hD.out.num (by omega))] at h2
                      have h3 := of_decide_eq_false h2
                      intro q q1 q2
                      have := hX.out.lb q this.1 q1 q2
                      omega
                    clear Hbb
                    go_wp2_with fail
                    refine (partEq_any g n c a' b' p ys _ hD.out hp.1 hp.2 (by omega) (by omega) hlow).mono ?_
                    rintro e wq ⟨m, rfl, hm, zs, hD2, hG2, hS2, hT2⟩
                    have HG := Lib.hid (grown_trans' hG.out hG2.out)
                    have HX := Lib.hid ((hX.out.more hS2.out (by omega) (by omega) (by have := hyl.out; omega)).eq (by omega) hm.1 hT2.out)
                    clear hlow
                    go_wp2_with fail
                    go_roundw
                    case rel => exact ⟨m, b', lim2, bal, par, zs, by omega, hlim, rfl, rfl, rfl, rfl, rfl, hD2, HG, HX⟩
                    case measure => simp only [intOf]; omega
                  | false =>
                    clear Hbb
                    go_wp2_with fail
                    refine (part_any g n c a' b' p ys _ hD.out hp.1 hp.2 (by omega) (by omega)).mono ?_
                    rintro e wq ⟨m, al, rfl, hm, zs, hD2, hG2, hS2, hT2⟩
                    have HG := Lib.hid (grown_trans' hG.out hG2.out)
                    have HX := Lib.hid (hX.out.more hS2.out (by omega) (by omega) (by have := hyl.out; omega))
                    have hzl : Hid (zs.length = n) := hD2.out.len
                    clear hD hG hG2 hX
                    obtain ⟨lf, hlf⟩ : ∃ lf : Nat, m = a' + lf := ⟨m - a', by omega⟩
                    have hlfi : (m : Int) - (a' : Int) = (lf : Int) := by omega
                    obtain ⟨rt, hrt⟩ : ∃ rt : Nat, b' = m + rt := ⟨b' - m, by omega⟩
                    have hrti : (b' : Int) - (m : Int) = (rt : Int) := by omega
                    obtain ⟨th, hth⟩ : ∃ th : Nat, th = l / 8 := ⟨_, rfl⟩
                    have hthd : (l : Int).tdiv 8 = (th : Int) := by rw [Int.tdiv_eq_ediv_of_nonneg (by omega)]; omega
                    have hthw : IntKind.i64.wrap (th : Int) = (th : Int) := by rw [IntKind.wrap_i64]; omega
                    clear hlf hrt hth
                    by_cases hside : lf < rt
                    · have hside' : (lf : Int) < (rt : Int) := by omega
                      go_wp2_with fail
                      refine ((IH.out (m - a') (by omega)) g n c a' m lim2 zs _ (Nat.le_refl _) hD2.out hm.1 (by omega) hn hlim.1 hlim.2 (HX.out.lbL (by omega))).mono ?_
                      rintro e wq2 ⟨rfl, us, hD3, hG3, hS3, hT3⟩
                      have HG2 := Lib.hid (grown_trans' HG.out hG3.out)
                      have HX2 := Lib.hid (HX.out.left (by omega) hm.1 hm.2 (by omega) (by have := hzl.out; omega) hT2.out hS3.out hT3.out)
                      go_wp2_with fail
                      go_roundw
                      case rel => exact ⟨m + 1, b', lim2, _, al, us, by omega, hlim, by go_num, rfl, rfl, rfl, rfl, hD3, HG2, HX2⟩
                      case measure => simp only [intOf]; omega
                    · have hside' : ¬ (lf : Int) < (rt : Int) := by omega
                      obtain ⟨m1, hm1⟩ : ∃ m1 : Nat, m1 = m + 1 := ⟨_, rfl⟩
                      have hm1i : (m : Int) + 1 = (m1 : Int) := by omega
                      have Hm1 := Lib.hid hm1
                      have hm1b : m1 ≤ b' ∧ m1 ≤ n := by omega
                      have hlb1 : Lb m1 b' zs := by rw [hm1]; exact HX.out.lbR hT2.out
                      have hL1 : b' - m1 < L := by omega
                      clear hm1
                      go_wp2_with fail
                      refine ((IH.out (b' - m1) hL1) g n c m1 b' lim2 zs _ (Nat.le_refl _) hD2.out hm1b.1 (by omega) hn hlim.1 hlim.2 hlb1).mono ?_
                      rintro e wq2 ⟨rfl, us, hD3, hG3, hS3, hT3⟩
                      have HG2 := Lib.hid (grown_trans' HG.out hG3.out)
                      have HX2 : Hid (St a b xs a' m us) := by
                        have h3 := hS3.out
                        have h4 := hT3.out
                        rw [Hm1.out] at h3 h4
                        exact HX.out.right (by omega) hm.1 hm.2 (by omega) (by have := hzl.out; omega) hT2.out h3 h4
                      go_wp2_with fail
                      go_roundw
                      case rel => exact ⟨a', m, lim2, _, al, us, by omega, hlim, rfl, rfl, rfl, rfl, rfl, hD3, HG2, HX2⟩
                      case measure => simp only [intOf]; omega
theorem pdq_any (L : Nat) : Pdq L := by
  induction L using Nat.strongRecOn with
  | _ L ih => exact pdq_step L ih
end Go.Proofs.Ytmhhjegceibjoaa
