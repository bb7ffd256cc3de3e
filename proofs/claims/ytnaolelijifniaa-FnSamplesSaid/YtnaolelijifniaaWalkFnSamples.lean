/- The statement FnSamples, walked. -/
import Derived.Test.YtnaolelijifniaaKp
import Derived.Test.YtnaolelijifniaaB10
import Derived.Test.YtnaolelijifniaaSampLaw
import Derived.Deep.RegionWith
import Derived.Deep.DeepCutAuto
import Derived.BigQuiet
namespace Go.Proofs.Ytnaolelijifniaa
open Go.RowKit
theorem b10At_b (A : Option Addr) (n c B : Nat) (xs : List Int) (i m : Int) (w : World) (h : Rd w B A n (u8s xs)) (hb : Bytes xs) (hi : 0 ≤ i ∧ i ≤ 1000000) (hm : 1 ≤ m ∧ m ≤ 1000000) :
    Calls Try.prog 6 #[.slice A n c, .int .i64 i, .int .i64 m] w fun e w' => ∃ x, e = .returned (.int .i64 x) ∧ (0 ≤ x ∧ x < m) ∧ Hid (Below w.heap.size w w') :=
  (b10At_any A n c B xs i m w h hb hi hm).mono fun _ _ ⟨x, he, hx, hq⟩ => ⟨x, he, hx, quiet_below hq⟩
set_option maxRecDepth 100000 in
set_option maxHeartbeats 40000000 in
theorem walk_FnSamples (w : World) (A0 : Option Addr) (n0 c0 : Nat) (xs0 : List Int) (hr0 : Rd w w.heap.size A0 n0 (u8s xs0)) (hm0 : n0 ≤ maxLen) (hb0 : Bytes xs0)
    (A1 : Option Addr) (n1 c1 : Nat) (xs1 : List Int) (hr1 : Rd w w.heap.size A1 n1 (u8s xs1)) (hm1 : n1 ≤ maxLen) (hb1 : Bytes xs1) :
    Calls Try.prog 3 #[.slice A0 n0 c0, .slice A1 n1 c1] w fun e w' => e = .returned (.bool true) ∧ Below w.heap.size w w' := by
  have Hr0 := Lib.hid hr0; have Hr1 := Lib.hid hr1; have Hb0 := Lib.hid hb0; have Hb1 := Lib.hid hb1
  clear hr0 hr1 hb0 hb1
  go_enter Try.func3, Try.ntmps3
  go_wp2_with fail
  refine (b10Long_any A0 A1 n0 c0 n1 c1 _ hm0 hm1).mono ?_
  rintro e w1 ⟨rfl, rfl⟩
  clear hm0 hm1
  by_cases hbig : 1048576 < n0 ∨ 1048576 < n1
  · rw [decide_eq_true hbig]
    go_wp2
    go_ret
    exact ⟨rfl, Below.refl _ _⟩
  · rw [decide_eq_false hbig]
    clear hbig
    have K := Lib.hid (Kp.refl w1)
    go_wp2_with fail
    refine (b10Seed_any A0 n0 c0 w1.heap.size xs0 w1 Hr0.out Hb0.out (Nat.le_refl _)).mono ?_
    rintro e w2 ⟨sd, hsd, rfl, hb2⟩
    unfold Sd.val
    have Hsd := Lib.hid hsd
    have K2 := Lib.hid ((K.out.next hb2).push sd)
    clear K hb2 hsd
    have K := K2
    clear K2
    go_wp2_with fail
    refine (b10At_b A1 n1 c1 w1.heap.size xs1 0 20 _ (Hr1.out.below K.out.below (Nat.le_refl _)) Hb1.out (by omega) (by omega)).mono ?_
    rintro e w3 ⟨n', rfl, hn', hb3⟩
    have K3 := Lib.hid (K.out.next hb3.out)
    clear K hb3
    have K := K3
    clear K3
    obtain ⟨m, rfl⟩ : ∃ m : Nat, n' = (m : Int) := ⟨n'.toNat, by omega⟩
    have hm20 : m < 20 := by omega
    clear hn'
    go_wp2_with fail
    refine (b10At_b A1 n1 c1 w1.heap.size xs1 1 (1 + (m : Int) + 1) _ (Hr1.out.below K.out.below (Nat.le_refl _)) Hb1.out (by omega) (by omega)).mono ?_
    rintro e w4 ⟨k, rfl, hk, hb4⟩
    have K4 := Lib.hid (K.out.next hb4.out)
    clear K hb4
    have K := K4
    clear K4
    rw [show (1 : Int) + (m : Int) = ((1 + m : Nat) : Int) by omega] at hk ⊢
    have hN1 : 1 ≤ 1 + m ∧ 1 + m ≤ 20 := by omega
    clear hm20
    generalize 1 + m = N at hk hN1 ⊢
    have hn : -9223372036854775808 ≤ (N : Int) ∧ (N : Int) ≤ 9223372036854775807 := by omega
    have hkf : -9223372036854775808 ≤ k ∧ k ≤ 9223372036854775807 := by omega
    have GA := cards_good (s := sd) (n := (N : Int))
    have GB := sample_good (s := sd) (n := (N : Int)) (k := k)
    have GC := return_good (s := sd) (n := (N : Int)) (k := k)
    have LA := cards_short sd.kind sd.a sd.b (N : Int)
    have LB := sample_short sd.kind sd.a sd.b (N : Int) k
    have LC := returnSeed_short sd (N : Int) k
    obtain ⟨rA, hrA⟩ : ∃ r, r = cardsSeed sd (N : Int) := ⟨_, rfl⟩
    obtain ⟨sA, hsA⟩ : ∃ s, s = (rA.map Prod.fst).getD Sd.zero := ⟨_, rfl⟩
    obtain ⟨okA, hoA⟩ : ∃ s, s = rA.isSome := ⟨_, rfl⟩
    obtain ⟨lA, hlA⟩ : ∃ s, s = (rA.map Prod.snd).getD [] := ⟨_, rfl⟩
    change (((cardsSeed sd (N : Int)).map Prod.snd).getD []).length ≤ 2000000 at LA
    rw [← hrA, ← hlA] at GA LA
    have HRA := Lib.hid hrA; have HSA := Lib.hid hsA; have HOA := Lib.hid hoA; have HLA := Lib.hid hlA; have HGA := Lib.hid GA; have HNA := Lib.hid LA
    clear hrA hsA hoA hlA GA LA
    obtain ⟨rB, hrB⟩ : ∃ r, r = sampleSeed sd (N : Int) k := ⟨_, rfl⟩
    obtain ⟨sB, hsB⟩ : ∃ s, s = (rB.map Prod.fst).getD Sd.zero := ⟨_, rfl⟩
    obtain ⟨okB, hoB⟩ : ∃ s, s = rB.isSome := ⟨_, rfl⟩
    obtain ⟨lB, hlB⟩ : ∃ s, s = (rB.map Prod.snd).getD [] := ⟨_, rfl⟩
    change (((sampleSeed sd (N : Int) k).map Prod.snd).getD []).length ≤ 2000000 at LB
    rw [← hrB, ← hlB] at GB LB
    have HRB := Lib.hid hrB; have HSB := Lib.hid hsB; have HOB := Lib.hid hoB; have HLB := Lib.hid hlB; have HGB := Lib.hid GB; have HNB := Lib.hid LB
    clear hrB hsB hoB hlB GB LB
    obtain ⟨rC, hrC⟩ : ∃ r, r = returnSeed sd (N : Int) k := ⟨_, rfl⟩
    obtain ⟨sC, hsC⟩ : ∃ s, s = (rC.map Prod.fst).getD Sd.zero := ⟨_, rfl⟩
    obtain ⟨okC, hoC⟩ : ∃ s, s = rC.isSome := ⟨_, rfl⟩
    obtain ⟨lC, hlC⟩ : ∃ s, s = (rC.map Prod.snd).getD [] := ⟨_, rfl⟩
    change (((returnSeed sd (N : Int) k).map Prod.snd).getD []).length ≤ 2000000 at LC
    rw [← hrC, ← hlC] at GC LC
    have HRC := Lib.hid hrC; have HSC := Lib.hid hsC; have HOC := Lib.hid hoC; have HLC := Lib.hid hlC; have HGC := Lib.hid GC; have HNC := Lib.hid LC
    clear hrC hsC hoC hlC GC LC
    have bs0 := (K.out.box (w2.heap.size, sd) (by simp)).c0
    have bs1 := (K.out.box (w2.heap.size, sd) (by simp)).c1
    have bs2 := (K.out.box (w2.heap.size, sd) (by simp)).c2
    simp only at bs0 bs1 bs2
    go_wp2_with fail
    clear bs0 bs1 bs2
    refine (implCards_any sd.kind sd.a sd.b (N : Int) _ Hsd.out hn).mono ?_
    intro e w5 hgave
    rw [show (⟨sd.kind, sd.a, sd.b⟩ : Sd) = sd from rfl, ← HRA.out] at hgave
    obtain ⟨AIA, cIA, rfl, hrd, hbl⟩ := gaveSLB_use hgave HSA HOA HLA
    clear hgave
    have K2 := Lib.hid (((K.out.next hbl.out).add hrd.out).push sA)
    clear K hrd hbl
    have K := K2
    clear K2
    have bs0 := (K.out.box (w2.heap.size, sd) (by simp)).c0
    have bs1 := (K.out.box (w2.heap.size, sd) (by simp)).c1
    have bs2 := (K.out.box (w2.heap.size, sd) (by simp)).c2
    simp only at bs0 bs1 bs2
    go_wp2_with fail
    clear bs0 bs1 bs2
    refine (implSample_any sd.kind sd.a sd.b (N : Int) k _ Hsd.out hn hkf).mono ?_
    intro e w6 hgave
    rw [show (⟨sd.kind, sd.a, sd.b⟩ : Sd) = sd from rfl, ← HRB.out] at hgave
    obtain ⟨AIB, cIB, rfl, hrd, hbl⟩ := gaveSLB_use hgave HSB HOB HLB
    clear hgave
    have K2 := Lib.hid (((K.out.next hbl.out).add hrd.out).push sB)
    clear K hrd hbl
    have K := K2
    clear K2
    have bs0 := (K.out.box (w2.heap.size, sd) (by simp)).c0
    have bs1 := (K.out.box (w2.heap.size, sd) (by simp)).c1
    have bs2 := (K.out.box (w2.heap.size, sd) (by simp)).c2
    simp only at bs0 bs1 bs2
    go_wp2_with fail
    clear bs0 bs1 bs2
    refine (implReturn_any sd.kind sd.a sd.b (N : Int) k _ Hsd.out hn hkf).mono ?_
    intro e w7 hgave
    rw [show (⟨sd.kind, sd.a, sd.b⟩ : Sd) = sd from rfl, ← HRC.out] at hgave
    obtain ⟨AIC, cIC, rfl, hrd, hbl⟩ := gaveSLB_use hgave HSC HOC HLC
    clear hgave
    have K2 := Lib.hid (((K.out.next hbl.out).add hrd.out).push sC)
    clear K hrd hbl
    have K := K2
    clear K2
    have bs0 := (K.out.box (w2.heap.size, sd) (by simp)).c0
    have bs1 := (K.out.box (w2.heap.size, sd) (by simp)).c1
    have bs2 := (K.out.box (w2.heap.size, sd) (by simp)).c2
    simp only at bs0 bs1 bs2
    go_wp2_with fail
    clear bs0 bs1 bs2
    refine (specCards_any sd.kind sd.a sd.b (N : Int) _ Hsd.out hn).mono ?_
    intro e w8 hgave
    rw [show (⟨sd.kind, sd.a, sd.b⟩ : Sd) = sd from rfl, ← HRA.out] at hgave
    obtain ⟨ASA, cSA, rfl, hrd, hbl⟩ := gaveSLB_use hgave HSA HOA HLA
    clear hgave
    have K2 := Lib.hid (((K.out.next hbl.out).add hrd.out).push sA)
    clear K hrd hbl
    have K := K2
    clear K2
    have bs0 := (K.out.box (w2.heap.size, sd) (by simp)).c0
    have bs1 := (K.out.box (w2.heap.size, sd) (by simp)).c1
    have bs2 := (K.out.box (w2.heap.size, sd) (by simp)).c2
    simp only at bs0 bs1 bs2
    go_wp2_with fail
    clear bs0 bs1 bs2
    refine (specSample_any sd.kind sd.a sd.b (N : Int) k _ Hsd.out hn hkf).mono ?_
    intro e w9 hgave
    rw [show (⟨sd.kind, sd.a, sd.b⟩ : Sd) = sd from rfl, ← HRB.out] at hgave
    obtain ⟨ASB, cSB, rfl, hrd, hbl⟩ := gaveSLB_use hgave HSB HOB HLB
    clear hgave
    have K2 := Lib.hid (((K.out.next hbl.out).add hrd.out).push sB)
    clear K hrd hbl
    have K := K2
    clear K2
    have bs0 := (K.out.box (w2.heap.size, sd) (by simp)).c0
    have bs1 := (K.out.box (w2.heap.size, sd) (by simp)).c1
    have bs2 := (K.out.box (w2.heap.size, sd) (by simp)).c2
    simp only at bs0 bs1 bs2
    go_wp2_with fail
    clear bs0 bs1 bs2
    refine (specReturn_any sd.kind sd.a sd.b (N : Int) k _ Hsd.out hn hkf).mono ?_
    intro e w10 hgave
    rw [show (⟨sd.kind, sd.a, sd.b⟩ : Sd) = sd from rfl, ← HRC.out] at hgave
    obtain ⟨ASC, cSC, rfl, hrd, hbl⟩ := gaveSLB_use hgave HSC HOC HLC
    clear hgave
    have K2 := Lib.hid (((K.out.next hbl.out).add hrd.out).push sC)
    clear K hrd hbl
    have K := K2
    clear K2
    have bs0 := (K.out.box (w2.heap.size, sd) (by simp)).c0
    have bs1 := (K.out.box (w2.heap.size, sd) (by simp)).c1
    have bs2 := (K.out.box (w2.heap.size, sd) (by simp)).c2
    simp only at bs0 bs1 bs2
    go_upto_region 12 with fail
    clear bs0 bs1 bs2
    obtain ⟨w11, hw11⟩ : ∃ v, v = w10.alloc (.cells #[.int .i64 sC.kind, .int .u64 sC.a, .int .u64 sC.b] 26) := ⟨_, rfl⟩
    rw [← hw11] at K ⊢
    clear hw11
    go_cut [153] from 99 to 153 (fun s wc => s = .bool false ∧ ∃ q, wc = w11.drewN q)
    case first => as_aux_lemma =>
      clear HSA HSB HSC HLA HLB HLC HOA HOB HOC HRA HRB HRC HGA HGB HGC Hr0 Hr1 Hb0 Hb1 Hsd hk hN1 hn hkf

      cases okA
      · cases okB
        · cases okC
          · skip
            go_wp2_with fail
            go_meet
            case rel => exact ⟨rfl, 0, rfl⟩
          · skip
            have bC00 := (K.out.box (w7.heap.size, sC) (by simp)).c0
            have bC01 := (K.out.box (w7.heap.size, sC) (by simp)).c1
            have bC02 := (K.out.box (w7.heap.size, sC) (by simp)).c2
            have bC10 := (K.out.box (w10.heap.size, sC) (by simp)).c0
            have bC11 := (K.out.box (w10.heap.size, sC) (by simp)).c1
            have bC12 := (K.out.box (w10.heap.size, sC) (by simp)).c2
            simp only at bC00 bC01 bC02 bC10 bC11 bC12
            have eC0 : (sC.kind != sC.kind) = false := by simp
            have eC1 : (sC.a != sC.a) = false := by simp
            have eC2 : (sC.b != sC.b) = false := by simp
            have RCI := Lib.hid (K.out.row (AIC, lC) (by simp))
            have RCS := Lib.hid (K.out.row (ASC, lC) (by simp))
            go_wp2_with fail
            refine (b10Ints_same _ _ _ _ _ _ w11.heap.size w11.heap.size lC _ RCI.out RCS.out (by have := HNC.out; unfold maxLen; omega)).mono ?_
            rintro e w' ⟨rfl, q0, rfl⟩
            go_wp2_with fail
            go_meet
            case rel => exact ⟨rfl, _, rfl⟩
        · cases okC
          · skip
            have bB00 := (K.out.box (w6.heap.size, sB) (by simp)).c0
            have bB01 := (K.out.box (w6.heap.size, sB) (by simp)).c1
            have bB02 := (K.out.box (w6.heap.size, sB) (by simp)).c2
            have bB10 := (K.out.box (w9.heap.size, sB) (by simp)).c0
            have bB11 := (K.out.box (w9.heap.size, sB) (by simp)).c1
            have bB12 := (K.out.box (w9.heap.size, sB) (by simp)).c2
            simp only at bB00 bB01 bB02 bB10 bB11 bB12
            have eB0 : (sB.kind != sB.kind) = false := by simp
            have eB1 : (sB.a != sB.a) = false := by simp
            have eB2 : (sB.b != sB.b) = false := by simp
            have RBI := Lib.hid (K.out.row (AIB, lB) (by simp))
            have RBS := Lib.hid (K.out.row (ASB, lB) (by simp))
            go_wp2_with fail
            refine (b10Ints_same _ _ _ _ _ _ w11.heap.size w11.heap.size lB _ RBI.out RBS.out (by have := HNB.out; unfold maxLen; omega)).mono ?_
            rintro e w' ⟨rfl, q0, rfl⟩
            go_wp2_with fail
            go_meet
            case rel => exact ⟨rfl, _, rfl⟩
          · skip
            have bB00 := (K.out.box (w6.heap.size, sB) (by simp)).c0
            have bB01 := (K.out.box (w6.heap.size, sB) (by simp)).c1
            have bB02 := (K.out.box (w6.heap.size, sB) (by simp)).c2
            have bB10 := (K.out.box (w9.heap.size, sB) (by simp)).c0
            have bB11 := (K.out.box (w9.heap.size, sB) (by simp)).c1
            have bB12 := (K.out.box (w9.heap.size, sB) (by simp)).c2
            simp only at bB00 bB01 bB02 bB10 bB11 bB12
            have eB0 : (sB.kind != sB.kind) = false := by simp
            have eB1 : (sB.a != sB.a) = false := by simp
            have eB2 : (sB.b != sB.b) = false := by simp
            have RBI := Lib.hid (K.out.row (AIB, lB) (by simp))
            have RBS := Lib.hid (K.out.row (ASB, lB) (by simp))
            have bC00 := (K.out.box (w7.heap.size, sC) (by simp)).c0
            have bC01 := (K.out.box (w7.heap.size, sC) (by simp)).c1
            have bC02 := (K.out.box (w7.heap.size, sC) (by simp)).c2
            have bC10 := (K.out.box (w10.heap.size, sC) (by simp)).c0
            have bC11 := (K.out.box (w10.heap.size, sC) (by simp)).c1
            have bC12 := (K.out.box (w10.heap.size, sC) (by simp)).c2
            simp only at bC00 bC01 bC02 bC10 bC11 bC12
            have eC0 : (sC.kind != sC.kind) = false := by simp
            have eC1 : (sC.a != sC.a) = false := by simp
            have eC2 : (sC.b != sC.b) = false := by simp
            have RCI := Lib.hid (K.out.row (AIC, lC) (by simp))
            have RCS := Lib.hid (K.out.row (ASC, lC) (by simp))
            go_wp2_with fail
            refine (b10Ints_same _ _ _ _ _ _ w11.heap.size w11.heap.size lB _ RBI.out RBS.out (by have := HNB.out; unfold maxLen; omega)).mono ?_
            rintro e w' ⟨rfl, q0, rfl⟩
            go_wp2_with fail
            refine (b10Ints_same _ _ _ _ _ _ w11.heap.size w11.heap.size lC _ (RCI.out.drewN (q0)) (RCS.out.drewN (q0)) (by have := HNC.out; unfold maxLen; omega)).mono ?_
            rintro e w' ⟨rfl, q1, rfl⟩
            go_wp2_with fail
            go_meet
            case rel => exact ⟨rfl, _, rfl⟩
      · cases okB
        · cases okC
          · skip
            have bA00 := (K.out.box (w5.heap.size, sA) (by simp)).c0
            have bA01 := (K.out.box (w5.heap.size, sA) (by simp)).c1
            have bA02 := (K.out.box (w5.heap.size, sA) (by simp)).c2
            have bA10 := (K.out.box (w8.heap.size, sA) (by simp)).c0
            have bA11 := (K.out.box (w8.heap.size, sA) (by simp)).c1
            have bA12 := (K.out.box (w8.heap.size, sA) (by simp)).c2
            simp only at bA00 bA01 bA02 bA10 bA11 bA12
            have eA0 : (sA.kind != sA.kind) = false := by simp
            have eA1 : (sA.a != sA.a) = false := by simp
            have eA2 : (sA.b != sA.b) = false := by simp
            have RAI := Lib.hid (K.out.row (AIA, lA) (by simp))
            have RAS := Lib.hid (K.out.row (ASA, lA) (by simp))
            go_wp2_with fail
            refine (b10Ints_same _ _ _ _ _ _ w11.heap.size w11.heap.size lA _ RAI.out RAS.out (by have := HNA.out; unfold maxLen; omega)).mono ?_
            rintro e w' ⟨rfl, q0, rfl⟩
            go_wp2_with fail
            go_meet
            case rel => exact ⟨rfl, _, rfl⟩
          · skip
            have bA00 := (K.out.box (w5.heap.size, sA) (by simp)).c0
            have bA01 := (K.out.box (w5.heap.size, sA) (by simp)).c1
            have bA02 := (K.out.box (w5.heap.size, sA) (by simp)).c2
            have bA10 := (K.out.box (w8.heap.size, sA) (by simp)).c0
            have bA11 := (K.out.box (w8.heap.size, sA) (by simp)).c1
            have bA12 := (K.out.box (w8.heap.size, sA) (by simp)).c2
            simp only at bA00 bA01 bA02 bA10 bA11 bA12
            have eA0 : (sA.kind != sA.kind) = false := by simp
            have eA1 : (sA.a != sA.a) = false := by simp
            have eA2 : (sA.b != sA.b) = false := by simp
            have RAI := Lib.hid (K.out.row (AIA, lA) (by simp))
            have RAS := Lib.hid (K.out.row (ASA, lA) (by simp))
            have bC00 := (K.out.box (w7.heap.size, sC) (by simp)).c0
            have bC01 := (K.out.box (w7.heap.size, sC) (by simp)).c1
            have bC02 := (K.out.box (w7.heap.size, sC) (by simp)).c2
            have bC10 := (K.out.box (w10.heap.size, sC) (by simp)).c0
            have bC11 := (K.out.box (w10.heap.size, sC) (by simp)).c1
            have bC12 := (K.out.box (w10.heap.size, sC) (by simp)).c2
            simp only at bC00 bC01 bC02 bC10 bC11 bC12
            have eC0 : (sC.kind != sC.kind) = false := by simp
            have eC1 : (sC.a != sC.a) = false := by simp
            have eC2 : (sC.b != sC.b) = false := by simp
            have RCI := Lib.hid (K.out.row (AIC, lC) (by simp))
            have RCS := Lib.hid (K.out.row (ASC, lC) (by simp))
            go_wp2_with fail
            refine (b10Ints_same _ _ _ _ _ _ w11.heap.size w11.heap.size lA _ RAI.out RAS.out (by have := HNA.out; unfold maxLen; omega)).mono ?_
            rintro e w' ⟨rfl, q0, rfl⟩
            go_wp2_with fail
            refine (b10Ints_same _ _ _ _ _ _ w11.heap.size w11.heap.size lC _ (RCI.out.drewN (q0)) (RCS.out.drewN (q0)) (by have := HNC.out; unfold maxLen; omega)).mono ?_
            rintro e w' ⟨rfl, q1, rfl⟩
            go_wp2_with fail
            go_meet
            case rel => exact ⟨rfl, _, rfl⟩
        · cases okC
          · skip
            have bA00 := (K.out.box (w5.heap.size, sA) (by simp)).c0
            have bA01 := (K.out.box (w5.heap.size, sA) (by simp)).c1
            have bA02 := (K.out.box (w5.heap.size, sA) (by simp)).c2
            have bA10 := (K.out.box (w8.heap.size, sA) (by simp)).c0
            have bA11 := (K.out.box (w8.heap.size, sA) (by simp)).c1
            have bA12 := (K.out.box (w8.heap.size, sA) (by simp)).c2
            simp only at bA00 bA01 bA02 bA10 bA11 bA12
            have eA0 : (sA.kind != sA.kind) = false := by simp
            have eA1 : (sA.a != sA.a) = false := by simp
            have eA2 : (sA.b != sA.b) = false := by simp
            have RAI := Lib.hid (K.out.row (AIA, lA) (by simp))
            have RAS := Lib.hid (K.out.row (ASA, lA) (by simp))
            have bB00 := (K.out.box (w6.heap.size, sB) (by simp)).c0
            have bB01 := (K.out.box (w6.heap.size, sB) (by simp)).c1
            have bB02 := (K.out.box (w6.heap.size, sB) (by simp)).c2
            have bB10 := (K.out.box (w9.heap.size, sB) (by simp)).c0
            have bB11 := (K.out.box (w9.heap.size, sB) (by simp)).c1
            have bB12 := (K.out.box (w9.heap.size, sB) (by simp)).c2
            simp only at bB00 bB01 bB02 bB10 bB11 bB12
            have eB0 : (sB.kind != sB.kind) = false := by simp
            have eB1 : (sB.a != sB.a) = false := by simp
            have eB2 : (sB.b != sB.b) = false := by simp
            have RBI := Lib.hid (K.out.row (AIB, lB) (by simp))
            have RBS := Lib.hid (K.out.row (ASB, lB) (by simp))
            go_wp2_with fail
            refine (b10Ints_same _ _ _ _ _ _ w11.heap.size w11.heap.size lA _ RAI.out RAS.out (by have := HNA.out; unfold maxLen; omega)).mono ?_
            rintro e w' ⟨rfl, q0, rfl⟩
            go_wp2_with fail
            refine (b10Ints_same _ _ _ _ _ _ w11.heap.size w11.heap.size lB _ (RBI.out.drewN (q0)) (RBS.out.drewN (q0)) (by have := HNB.out; unfold maxLen; omega)).mono ?_
            rintro e w' ⟨rfl, q1, rfl⟩
            go_wp2_with fail
            go_meet
            case rel => exact ⟨rfl, _, rfl⟩
          · skip
            have bA00 := (K.out.box (w5.heap.size, sA) (by simp)).c0
            have bA01 := (K.out.box (w5.heap.size, sA) (by simp)).c1
            have bA02 := (K.out.box (w5.heap.size, sA) (by simp)).c2
            have bA10 := (K.out.box (w8.heap.size, sA) (by simp)).c0
            have bA11 := (K.out.box (w8.heap.size, sA) (by simp)).c1
            have bA12 := (K.out.box (w8.heap.size, sA) (by simp)).c2
            simp only at bA00 bA01 bA02 bA10 bA11 bA12
            have eA0 : (sA.kind != sA.kind) = false := by simp
            have eA1 : (sA.a != sA.a) = false := by simp
            have eA2 : (sA.b != sA.b) = false := by simp
            have RAI := Lib.hid (K.out.row (AIA, lA) (by simp))
            have RAS := Lib.hid (K.out.row (ASA, lA) (by simp))
            have bB00 := (K.out.box (w6.heap.size, sB) (by simp)).c0
            have bB01 := (K.out.box (w6.heap.size, sB) (by simp)).c1
            have bB02 := (K.out.box (w6.heap.size, sB) (by simp)).c2
            have bB10 := (K.out.box (w9.heap.size, sB) (by simp)).c0
            have bB11 := (K.out.box (w9.heap.size, sB) (by simp)).c1
            have bB12 := (K.out.box (w9.heap.size, sB) (by simp)).c2
            simp only at bB00 bB01 bB02 bB10 bB11 bB12
            have eB0 : (sB.kind != sB.kind) = false := by simp
            have eB1 : (sB.a != sB.a) = false := by simp
            have eB2 : (sB.b != sB.b) = false := by simp
            have RBI := Lib.hid (K.out.row (AIB, lB) (by simp))
            have RBS := Lib.hid (K.out.row (ASB, lB) (by simp))
            have bC00 := (K.out.box (w7.heap.size, sC) (by simp)).c0
            have bC01 := (K.out.box (w7.heap.size, sC) (by simp)).c1
            have bC02 := (K.out.box (w7.heap.size, sC) (by simp)).c2
            have bC10 := (K.out.box (w10.heap.size, sC) (by simp)).c0
            have bC11 := (K.out.box (w10.heap.size, sC) (by simp)).c1
            have bC12 := (K.out.box (w10.heap.size, sC) (by simp)).c2
            simp only at bC00 bC01 bC02 bC10 bC11 bC12
            have eC0 : (sC.kind != sC.kind) = false := by simp
            have eC1 : (sC.a != sC.a) = false := by simp
            have eC2 : (sC.b != sC.b) = false := by simp
            have RCI := Lib.hid (K.out.row (AIC, lC) (by simp))
            have RCS := Lib.hid (K.out.row (ASC, lC) (by simp))
            go_wp2_with fail
            refine (b10Ints_same _ _ _ _ _ _ w11.heap.size w11.heap.size lA _ RAI.out RAS.out (by have := HNA.out; unfold maxLen; omega)).mono ?_
            rintro e w' ⟨rfl, q0, rfl⟩
            go_wp2_with fail
            refine (b10Ints_same _ _ _ _ _ _ w11.heap.size w11.heap.size lB _ (RBI.out.drewN (q0)) (RBS.out.drewN (q0)) (by have := HNB.out; unfold maxLen; omega)).mono ?_
            rintro e w' ⟨rfl, q1, rfl⟩
            go_wp2_with fail
            refine (b10Ints_same _ _ _ _ _ _ w11.heap.size w11.heap.size lC _ (RCI.out.drewN (q0 + q1)) (RCS.out.drewN (q0 + q1)) (by have := HNC.out; unfold maxLen; omega)).mono ?_
            rintro e w' ⟨rfl, q2, rfl⟩
            go_wp2_with fail
            go_meet
            case rel => exact ⟨rfl, _, rfl⟩
    case rest => as_aux_lemma =>
      obtain ⟨rfl, q, rfl⟩ := hcut
      clear HRA HRB HRC HSA HSB HSC HOA HOB HOC HLA HLB HLC
      have K12 := Lib.hid (K.out.drewN q)
      clear K
      have K := K12
      clear K12
      generalize w11.drewN q = w12 at K ⊢
      obtain ⟨i0, hi0, hz0, hz1, hz2⟩ := info_parts info_boolS
      go_wp2_with (at_make; refine wpList_make_full _ rfl _ _ 34 rfl w12.heap.size 4 i0 (.bool false) 1 Try.underlying34 hi0 hz0 hz1 _ _ _ _ N rfl rfl rfl rfl ?c1 ?c2 ?c3 ?_)
      case c1 => rw [hz2]; omega
      case c2 => unfold maxLen; omega
      case c3 => exact Nat.le_refl _
      intro w13 hown hgrow
      have hown' : w13.ownsRow w12.heap.size 4 1 (.slice (some ⟨w12.heap.size, 0, none⟩) N N) N (boolsS (memL (lA.take 0) N)) := by
        rw [List.take_zero, memL_nil, ← madeCells_one]; simpa using hown
      have HO := Lib.hid hown'
      have HB := Lib.hid ((Below.refl w12.heap.size w12).grown hgrow (Nat.le_refl _) (by simp))
      clear hown hown' hgrow hi0 hz0 hz1 hz2
      obtain ⟨gb, hgb⟩ : ∃ gb, gb = w12.heap.size := ⟨_, rfl⟩
      rw [← hgb] at HO ⊢
      have Hgb := Lib.hid hgb
      clear hgb
      go_wp2
      go_loopw [158] (fun i wr => ∃ j : Nat, j ≤ lA.length ∧ i = .int .i64 j ∧ wr.ownsRow gb 4 1 (.slice (some ⟨gb, 0, none⟩) N N) N (boolsS (memL (lA.take j) N)) ∧ Below w12.heap.size w12 wr) (fun i _ => lA.length - (intOf i).toNat)
      case atStart => exact ⟨0, Nat.zero_le _, rfl, HO.out, HB.out⟩
      case round =>
        obtain ⟨j, hj, rfl, hO, hbel⟩ := hrel
        have HO2 := Lib.hid hO; have HB2 := Lib.hid hbel
        clear hO hbel HO HB
        by_cases hlt : j < lA.length
        · have hNl := HNA.out
          have hlt' : (j : Int) < (lA.length : Int) := by omega
          have hj0 : (0 : Int) ≤ (j : Int) := by omega
          obtain ⟨b, off, x, hA, hbl, hx, hc⟩ := ((K.out.row (AIA, lA) (by simp)).below HB2.out (Nat.le_refl _)).atI hlt
          simp only at hA hx
          subst hA
          have hxm := HGA.out.2 x (List.mem_of_getElem? hx.out)
          obtain ⟨jn, rfl⟩ : ∃ jn : Nat, x = (jn : Int) := ⟨x.toNat, by omega⟩
          have hjn : jn < N := by omega
          have hjn0 : ¬ (jn : Int) < 0 := by omega
          have hjn1 : ¬ (N : Int) ≤ (jn : Int) := by omega
          have hjn2 : (jn : Int) < (N : Int) := by omega
          have hnot : (jn : Int) ∉ lA.take j := by
            intro hm
            obtain ⟨i, hi⟩ := List.mem_iff_getElem?.1 hm
            rw [List.getElem?_take] at hi
            split at hi
            · have := nodup_get.1 HGA.out.1 i j _ hi hx.out
              omega
            · cases hi
          have hcp := (HO2.out.cellAt jn (by omega)).trans (memL_get hjn)
          rw [decide_eq_false hnot] at hcp
          have hfp := HO2.out.frozenAt jn
          have hst := HO2.out.stored jn (.bool true)
          rw [memL_set, ← take_succ_of hx.out] at hst
          have HOs := Lib.hid hst.1
          have HBs := Lib.hid (HB2.out.setCell (p := ⟨gb, jn, none⟩) (by show w12.heap.size ≤ gb; have := Hgb.out; omega) (.bool true))
          have hbg : b ≠ gb := by have := Hgb.out; omega
          clear hst hxm hnot
          go_wp2
          go_roundw
          case rel => exact ⟨j + 1, by omega, by go_num, HOs.out, HBs.out⟩
          case measure => simp only [intOf]; omega
        · obtain rfl : j = lA.length := by omega
          have hnl : ¬ (lA.length : Int) < (lA.length : Int) := by omega
          have K12 := Lib.hid (K.out.next HB2.out)
          clear HO2 HB2 Hgb hlt hj K
          have K := K12
          clear K12
          obtain ⟨wo, rfl⟩ : ∃ wo : World, wo = wr := ⟨_, rfl⟩
          go_wp2
          go_loopw [192] (fun i wr => ∃ j q : Nat, j ≤ lB.length ∧ i = .int .i64 j ∧ wr = wo.drewN q) (fun i _ => lB.length - (intOf i).toNat)
          case atStart => exact ⟨0, 0, Nat.zero_le _, rfl, rfl⟩
          case round =>
            obtain ⟨j, q, hj, rfl, rfl⟩ := hrel
            have hNl := HNB.out
            by_cases hlt : j < lB.length
            · have hlt' : (j : Int) < (lB.length : Int) := by omega
              have hj0 : (0 : Int) ≤ (j : Int) := by omega
              have hrow := K.out.row (AIB, lB) (by simp)
              obtain ⟨b, off, x, hA, hbl, hx, hc⟩ := hrow.atI hlt
              simp only at hA hx
              have hxm := HGB.out.2 x (List.mem_of_getElem? hx.out)
              have hx0 : ¬ x < 0 := by omega
              have hx1 : ¬ (N : Int) ≤ x := by omega
              have hx0d : decide (x < 0) = false := decide_eq_false hx0
              have hx1d : decide ((N : Int) ≤ x) = false := decide_eq_false hx1
              clear hxm
              by_cases hj1 : j = 0
              · subst hj1
                simp only [Nat.add_zero] at hc
                subst hA
                clear hrow
                go_wp2_with fail
                go_big_quiet (fail)
                go_wp2
                go_roundw
                case rel => exact ⟨0 + 1, q + nq, by omega, by go_num, by first | rfl | exact World.drewN_drewN _ _ _⟩
                case measure => simp only [intOf]; omega
              · obtain ⟨i, hij⟩ : ∃ i : Nat, i + 1 = j := ⟨j - 1, by omega⟩
                obtain ⟨b2, off2, y, hA2, hbl2, hy, hc2⟩ := hrow.atI (k := i) (by simp only; omega)
                simp only at hA2 hy
                subst hA
                obtain ⟨rfl, rfl⟩ : b = b2 ∧ off = off2 := by cases hA2; exact ⟨rfl, rfl⟩
                have hyx : ¬ x ≤ y := by
                  have h1 := (List.getElem?_eq_some_iff.1 hy.out)
                  have h2 := (List.getElem?_eq_some_iff.1 hx.out)
                  have := List.pairwise_iff_getElem.1 HGB.out.1 i j h1.1 h2.1 (by omega)
                  rw [h1.2, h2.2] at this
                  omega
                have hi0 : (0 : Int) < (j : Int) := by omega
                have hjp : 0 < j := by omega
                have hjpd : decide (0 < j) = true := decide_eq_true hjp
                have hi0d : decide ((0 : Int) < (j : Int)) = true := decide_eq_true hi0
                have hyxd : decide (x ≤ y) = false := decide_eq_false hyx
                have hie : (j : Int) - 1 = (i : Int) := by omega
                have hi1 : (0 : Int) ≤ (i : Int) := by omega
                have hi2 : (i : Int) < (lB.length : Int) := by omega
                have Hij := Lib.hid hij
                clear hrow hA2 hy hj1 hij
                go_wp2_with fail
                go_big_quiet (fail)
                go_wp2
                go_roundw
                case rel => exact ⟨j + 1, q + nq, by omega, by go_num, by first | rfl | exact World.drewN_drewN _ _ _⟩
                case measure => simp only [intOf]; omega
            · obtain rfl : j = lB.length := by omega
              have hnl : ¬ (lB.length : Int) < (lB.length : Int) := by omega
              clear hlt hj hNl
              have K12 := Lib.hid (K.out.drewN q)
              clear K
              have K := K12
              clear K12
              generalize wo.drewN q = wp at K ⊢
              go_wp2
              go_loopw [227] (fun i wr => ∃ j q : Nat, j ≤ lC.length ∧ i = .int .i64 j ∧ wr = wp.drewN q) (fun i _ => lC.length - (intOf i).toNat)
              case atStart => exact ⟨0, 0, Nat.zero_le _, rfl, rfl⟩
              case round =>
                obtain ⟨j, q, hj, rfl, rfl⟩ := hrel
                have hNl := HNC.out
                by_cases hlt : j < lC.length
                · have hlt' : (j : Int) < (lC.length : Int) := by omega
                  have hj0 : (0 : Int) ≤ (j : Int) := by omega
                  obtain ⟨b, off, x, hA, hbl, hx, hc⟩ := (K.out.row (AIC, lC) (by simp)).atI hlt
                  simp only at hA hx
                  have hxm := HGC.out x (List.mem_of_getElem? hx.out)
                  have hx0 : ¬ x < 0 := by omega
                  have hx1 : ¬ (N : Int) ≤ x := by omega
                  clear hxm
                  subst hA
                  go_wp2
                  go_roundw
                  case rel => exact ⟨j + 1, q, by omega, by go_num, rfl⟩
                  case measure => simp only [intOf]; omega
                · obtain rfl : j = lC.length := by omega
                  have hnl : ¬ (lC.length : Int) < (lC.length : Int) := by omega
                  clear hlt hj hNl
                  have K12 := Lib.hid (K.out.drewN q)
                  clear K
                  have K := K12
                  clear K12
                  generalize wp.drewN q = wq at K ⊢
                  obtain ⟨wr0, hwr0⟩ : ∃ v, v = wq.alloc (.cells #[] 2) := ⟨_, rfl⟩
                  go_wp2
                  have hO0 : Own (wq.alloc (.cells #[] 2)) wq.heap.size 2 (.slice (some ⟨wq.heap.size, 0, none⟩) 0 0) (i64s (sevens 0)) := own_newI wq (Nat.le_refl _)
                  have hB0 : Below wq.heap.size wq (wq.alloc (.cells #[] 2)) := (Below.refl _ _).alloc (Nat.le_refl _) _
                  go_loopw [30, 31] (fun v i wr => ∃ j : Nat, j ≤ N ∧ i = .int .i64 j ∧ Own wr wq.heap.size 2 v (i64s (sevens j)) ∧ Below wq.heap.size wq wr) (fun _ i _ => N - (intOf i).toNat)
                  case atStart => exact ⟨0, Nat.zero_le _, rfl, hO0, hB0⟩
                  case round =>
                    obtain ⟨j, hj, rfl, hO, hbel⟩ := hrel
                    have HO := Lib.hid hO; have HB := Lib.hid hbel
                    have hsz := hbel.size
                    clear hO hbel hO0 hB0
                    by_cases hlt : j < N
                    · have hlt' : (j : Int) < (N : Int) := by omega
                      go_wp2_with (at_builtin; go_must (refine emitI wr rfl _ _ rfl wq.heap.size u30 (sevens j) rfl HO.out (7 * (j : Int) - 3) rfl ?c1 hsz ?_))
                      case c1 => rw [sevens_len]; omega
                      intro v' w3 hO' hgr hor
                      rw [← sevens_succ] at hO'
                      have HO' := Lib.hid hO'
                      have HB3 := Lib.hid (HB.out.grown hgr HB.out.size (fun g e => (HO.out.lt g e).1))
                      clear hO' hgr hor
                      go_wp2
                      go_roundw
                      case rel => exact ⟨j + 1, by omega, by go_num, HO'.out, HB3.out⟩
                      case measure => simp only [intOf]; omega
                    · obtain rfl : j = N := by omega
                      have hnl : ¬ (j : Int) < (j : Int) := by omega
                      clear hlt hj hsz
                      have K12 := Lib.hid (K.out.next HB.out)
                      clear K
                      have K := K12
                      clear K12
                      obtain ⟨A30, c30, h30, hc30⟩ := HO.out.shapeI
                      subst h30
                      rw [sevens_len] at HO hc30 ⊢
                      obtain ⟨wo, rfl⟩ : ∃ wo : World, wo = wr := ⟨_, rfl⟩
                      go_wp2_with fail
                      refine (b10At_b A1 n1 c1 w1.heap.size xs1 2 6 _ (Hr1.out.below K.out.below (Nat.le_refl _)) Hb1.out (by omega) (by omega)).mono ?_
                      rintro e wr ⟨kp, rfl, hkp, hb3⟩
                      have hrd30 := HO.out.rdI
                      rw [sevens_len] at hrd30
                      have Hrd30 := Lib.hid ((hrd30.below hb3.out (Nat.le_refl _)).more hb3.out.size)
                      have K3 := Lib.hid (K.out.next hb3.out)
                      clear K hb3 HO HB hrd30
                      have K := K3
                      clear K3
                      obtain ⟨kn, rfl⟩ : ∃ kn : Nat, kp = (kn : Int) := ⟨kp.toNat, by omega⟩
                      obtain ⟨M, hM⟩ : ∃ M : Nat, M = 1 + kn := ⟨_, rfl⟩
                      have hM1 : 1 ≤ M ∧ M ≤ 6 := by omega
                      have hMk : (1 : Int) + (kn : Int) = (M : Int) := by omega
                      clear hM hkp
                      have GD := stream_good (s := sd) (n := j) (k := (M : Int))
                      have LD := stream_short sd.kind sd.a sd.b (sevens j) (M : Int) (by rw [sevens_len]; omega)
                      obtain ⟨rD, hrD⟩ : ∃ r, r = streamSeed sd (sevens j) (M : Int) := ⟨_, rfl⟩
                      obtain ⟨sD, hsD⟩ : ∃ s, s = (rD.map Prod.fst).getD Sd.zero := ⟨_, rfl⟩
                      obtain ⟨okD, hoD⟩ : ∃ s, s = rD.isSome := ⟨_, rfl⟩
                      obtain ⟨lD, hlD⟩ : ∃ s, s = (rD.map Prod.snd).getD [] := ⟨_, rfl⟩
                      change (((streamSeed sd (sevens j) (M : Int)).map Prod.snd).getD []).length ≤ 2000000 at LD
                      rw [← hrD, ← hlD] at GD LD
                      rw [Int.toNat_natCast] at GD
                      have HRD := Lib.hid hrD; have HSD := Lib.hid hsD; have HOD := Lib.hid hoD; have HLD := Lib.hid hlD; have HGD := Lib.hid GD; have HND := Lib.hid LD
                      clear hrD hsD hoD hlD GD LD
                      have hMf : -9223372036854775808 ≤ (M : Int) ∧ (M : Int) ≤ 9223372036854775807 := by omega
                      have bs0 := (K.out.box (w2.heap.size, sd) (by simp)).c0
                      have bs1 := (K.out.box (w2.heap.size, sd) (by simp)).c1
                      have bs2 := (K.out.box (w2.heap.size, sd) (by simp)).c2
                      simp only at bs0 bs1 bs2
                      go_wp2_with fail
                      clear bs0 bs1 bs2
                      refine (implStream_any sd.kind sd.a sd.b A30 j c30 wr.heap.size (sevens j) (M : Int) _ Hsd.out Hrd30.out (Nat.le_refl _) (by rw [sevens_len]; omega) (sevens_fit (by omega)) hc30.out hMf).mono ?_
                      intro e w14 hgave
                      rw [show (⟨sd.kind, sd.a, sd.b⟩ : Sd) = sd from rfl, ← HRD.out] at hgave
                      obtain ⟨AID, cID, rfl, hrd, hbl⟩ := gaveSLB_use hgave HSD HOD HLD
                      clear hgave
                      have K2 := Lib.hid (((K.out.next hbl.out).add hrd.out).push sD)
                      have Hrd31 := Lib.hid ((Hrd30.out.below hbl.out (Nat.le_refl _)).alloc hbl.out.size (.cells #[.int .i64 sD.kind, .int .u64 sD.a, .int .u64 sD.b] 26))
                      have hle14 : wr.heap.size ≤ (w14.alloc (.cells #[.int .i64 sD.kind, .int .u64 sD.a, .int .u64 sD.b] 26)).heap.size := Nat.le_trans hbl.out.size ((Below.refl w14.heap.size w14).alloc (Nat.le_refl _) _).size
                      clear K hrd hbl Hrd30
                      have K := K2
                      clear K2
                      have bs0 := (K.out.box (w2.heap.size, sd) (by simp)).c0
                      have bs1 := (K.out.box (w2.heap.size, sd) (by simp)).c1
                      have bs2 := (K.out.box (w2.heap.size, sd) (by simp)).c2
                      simp only at bs0 bs1 bs2
                      go_wp2_with fail
                      clear bs0 bs1 bs2
                      refine (specStream_any sd.kind sd.a sd.b A30 j c30 wr.heap.size (sevens j) (M : Int) _ Hsd.out Hrd31.out hle14 (by rw [sevens_len]; omega) (sevens_fit (by omega)) hc30.out hMf).mono ?_
                      intro e w15 hgave
                      rw [show (⟨sd.kind, sd.a, sd.b⟩ : Sd) = sd from rfl, ← HRD.out] at hgave
                      obtain ⟨ASD, cSD, rfl, hrd, hbl⟩ := gaveSLB_use hgave HSD HOD HLD
                      clear hgave hle14 Hrd31
                      have K2 := Lib.hid (((K.out.next hbl.out).add hrd.out).push sD)
                      clear K hrd hbl
                      have K := K2
                      clear K2
                      go_upto_region 42 with fail
                      obtain ⟨w16, hw16⟩ : ∃ v, v = w15.alloc (.cells #[.int .i64 sD.kind, .int .u64 sD.a, .int .u64 sD.b] 26) := ⟨_, rfl⟩
                      rw [← hw16] at K ⊢
                      clear hw16
                      go_cut [299] from 275 to 299 (fun s wc => s = .bool false ∧ ∃ q, wc = w16.drewN q)
                      case first => as_aux_lemma =>
                        clear HSD HLD HRD HGA HGB HGC
                        cases okD
                        · go_wp2_with fail
                          go_meet
                          case rel => exact ⟨rfl, 0, rfl⟩
                        · have bD00 := (K.out.box (w14.heap.size, sD) (by simp)).c0
                          have bD01 := (K.out.box (w14.heap.size, sD) (by simp)).c1
                          have bD02 := (K.out.box (w14.heap.size, sD) (by simp)).c2
                          have bD10 := (K.out.box (w15.heap.size, sD) (by simp)).c0
                          have bD11 := (K.out.box (w15.heap.size, sD) (by simp)).c1
                          have bD12 := (K.out.box (w15.heap.size, sD) (by simp)).c2
                          simp only at bD00 bD01 bD02 bD10 bD11 bD12
                          have eD0 : (sD.kind != sD.kind) = false := by simp
                          have eD1 : (sD.a != sD.a) = false := by simp
                          have eD2 : (sD.b != sD.b) = false := by simp
                          have RDI := Lib.hid (K.out.row (AID, lD) (by simp))
                          have RDS := Lib.hid (K.out.row (ASD, lD) (by simp))
                          have Hlen := Lib.hid (HGD.out.2.2 HOD.out.symm)
                          go_wp2_with fail
                          refine (b10Ints_same _ _ _ _ _ _ w16.heap.size w16.heap.size lD _ RDI.out RDS.out (by have := HND.out; unfold maxLen; omega)).mono ?_
                          rintro e w' ⟨rfl, q0, rfl⟩
                          have hmn : min (j : Int) (M : Int) = (lD.length : Int) := by have := Hlen.out; omega
                          have hle0 : ((lD.length : Int) != (lD.length : Int)) = false := by simp
                          clear Hlen
                          go_wp2_with fail
                          go_meet
                          case rel => exact ⟨rfl, _, rfl⟩
                      case rest => as_aux_lemma =>
                        obtain ⟨rfl, q, rfl⟩ := hcut
                        have K2 := Lib.hid (K.out.drewN q)
                        clear K
                        have K := K2
                        clear K2
                        generalize w16.drewN q = wv at K ⊢
                        have hNd := HND.out
                        go_wp2
                        go_loopw [302] (fun i wr => ∃ i' q : Nat, i' ≤ lD.length ∧ i = .int .i64 i' ∧ wr = wv.drewN q) (fun i _ => lD.length - (intOf i).toNat)
                        case atStart => exact ⟨0, 0, Nat.zero_le _, rfl, rfl⟩
                        case round =>
                          obtain ⟨i, q, hi, rfl, rfl⟩ := hrel
                          by_cases hlt : i < lD.length
                          · have hlt' : (i : Int) < (lD.length : Int) := by omega
                            have hi0 : (0 : Int) ≤ (i : Int) := by omega
                            have hrow := K.out.row (AID, lD) (by simp)
                            obtain ⟨b, off, x, hA, hbl, hx, hc⟩ := hrow.atI hlt
                            simp only at hA hx
                            subst hA
                            obtain ⟨a, han, hax⟩ := HGD.out.2.1 x (List.mem_of_getElem? hx.out)
                            have hx1 : (x + 3) % 7 = 0 := by omega
                            have hx2 : ¬ x < -3 := by omega
                            have hx3 : ¬ 7 * (j : Int) - 10 < x := by omega
                            have hx4 : 0 ≤ x + 3 ∧ x ≤ 200 := by omega
                            have Hrow := Lib.hid hrow
                            clear hax han hrow
                            obtain ⟨wz, hwz⟩ : ∃ wz, wz = wv.drewN q := ⟨_, rfl⟩
                            have hcz : wz.cell? ⟨b, off + i, none⟩ = some (.int .i64 x) := by rw [hwz]; exact hc
                            have Hrz : Hid (Rd wz wv.heap.size (some ⟨b, off, none⟩) lD.length (i64s lD)) := by rw [hwz]; exact Hrow.out.drewN q
                            rw [← hwz]
                            have Hwz := Lib.hid hwz
                            clear hwz hc Hrow
                            go_wp2
                            go_loopw [40] (fun v wr => ∃ j' q : Nat, j' ≤ i ∧ v = .int .i64 j' ∧ wr = wz.drewN q) (fun v _ => i - (intOf v).toNat)
                            case atStart => exact ⟨0, 0, Nat.zero_le _, rfl, rfl⟩
                            case round =>
                              obtain ⟨j', q2, hj', rfl, rfl⟩ := hrel
                              by_cases hlt2 : j' < i
                              · have hlt2' : (j' : Int) < (i : Int) := by omega
                                have hj0 : (0 : Int) ≤ (j' : Int) := by omega
                                have hjl : (j' : Int) < (lD.length : Int) := by omega
                                obtain ⟨b2, off2, y, hA2, hbl2, hy, hc2⟩ := Hrz.out.atI (k := j') (by omega)
                                obtain ⟨rfl, rfl⟩ : b = b2 ∧ off = off2 := by cases hA2; exact ⟨rfl, rfl⟩
                                have hxy : (x == y) = false := by
                                  have hne : x ≠ y := by
                                    intro e
                                    have := nodup_get.1 HGD.out.1 i j' x hx.out (by rw [e]; exact hy.out)
                                    omega
                                  simp [hne]
                                clear hA2 hy
                                go_wp2_with fail
                                go_quiet (fail)
                                go_wp2
                                go_roundw
                                case rel => exact ⟨j' + 1, q2 + nq, by omega, by go_num, by first | rfl | exact World.drewN_drewN _ _ _⟩
                                case measure => simp only [intOf]; omega
                              · obtain rfl : j' = i := by omega
                                have hnl2 : ¬ (j' : Int) < (j' : Int) := by omega
                                go_wp2
                                go_roundw
                                case rel => exact ⟨j' + 1, q + q2, by omega, by go_num, by rw [Hwz.out]; exact World.drewN_drewN _ _ _⟩
                                case measure => simp only [intOf]; omega
                          · obtain rfl : i = lD.length := by omega
                            have hnl : ¬ (lD.length : Int) < (lD.length : Int) := by omega
                            go_wp2
                            go_ret
                            exact ⟨rfl, K.out.below.trans ((below_drewN' q).mono (by have := K.out.le; omega))⟩
end Go.Proofs.Ytnaolelijifniaa
