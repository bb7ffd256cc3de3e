/- The statement FnWords, walked. -/
import Derived.Test.YtlgpcojoonnlbaaFwB
import Derived.Test.YtlgpcojoonnlbaaR8
import Derived.Test.YtlgpcojoonnlbaaBitsI
import Derived.Test.YtlgpcojoonnlbaaRunsI
import Derived.Test.YtlgpcojoonnlbaaZ03
import Derived.Test.YtlgpcojoonnlbaaZ02
import Derived.Test.YtlgpcojoonnlbaaRankI
import Derived.Test.YtlgpcojoonnlbaaLatI
import Derived.Test.YtlgpcojoonnlbaaMeetJ
import Derived.Test.YtlgpcojoonnlbaaMeetL
import Derived.Test.YtlgpcojoonnlbaaChiPos
import Derived.Test.YtlgpcojoonnlbaaEmitF
import Derived.Deep.DeepCutAuto
namespace Go.Proofs.Ytlgpcojoonnlbaa
open Go.RowKit
set_option maxRecDepth 100000 in
set_option maxHeartbeats 16000000 in
theorem walk_FnWords (w : World) (A0 : Option Addr) (n0 c0 : Nat) (xs0 : List Int) (hr0 : Rd w w.heap.size A0 n0 (u8s xs0)) (hm0 : n0 ≤ maxLen) (hb0 : Bytes xs0)
    (A1 : Option Addr) (n1 c1 : Nat) (xs1 : List Int) (hr1 : Rd w w.heap.size A1 n1 (u8s xs1)) (hm1 : n1 ≤ maxLen) (hb1 : Bytes xs1) :
    Calls Try.prog 3 #[.slice A0 n0 c0, .slice A1 n1 c1] w fun e w' => e = .returned (.bool true) ∧ Below w.heap.size w w' := by
  have K := Lib.hid (((Kq.refl w).add hr0).add hr1)
  have Hb0 := Lib.hid hb0; have Hb1 := Lib.hid hb1; have Hm1 := Lib.hid hm1
  clear hr0 hr1 hb0 hb1
  go_enter Try.func3, Try.ntmps3
  go_wp2_with fail
  refine (r8Long_any A0 A1 n0 c0 n1 c1 _ hm0 hm1).mono ?_
  rintro e w1 ⟨rfl, rfl⟩
  clear hm0 hm1
  by_cases hbig : 48 < n0 ∨ 48 < n1
  · rw [decide_eq_true hbig]
    go_wp2
    go_ret
    exact ⟨rfl, Below.refl _ _⟩
  · rw [decide_eq_false hbig]
    clear hbig
    go_wp2_with fail
    refine (r8Seed_v A0 n0 c0 w1.heap.size xs0 w1 (K.out.row (A0, n0, u8s xs0) (by simp)) Hb0.out (Nat.le_refl _)).mono ?_
    rintro e w2 ⟨sd, hsd, hvd, rfl, hb2⟩
    unfold Sd.val
    have Hsd := Lib.hid hsd
    have Hvd := Lib.hid hvd
    have K2 := Lib.hid ((K.out.next hb2).alloc (.cells #[.int .i64 sd.kind, .int .u64 sd.a, .int .u64 sd.b] 26))
    have hs := SeedAt.new w2 sd.kind sd.a sd.b
    have Hs := Lib.hid hs
    clear K hb2 hsd hvd hs
    go_wp2_with fail
    refine (r8At_any A1 n1 c1 _ xs1 0 40 _ (K2.out.row (A1, n1, u8s xs1) (by simp)) Hb1.out Hm1.out (by omega) (by omega)).mono ?_
    rintro e w3 ⟨x, rfl, hx, hw3⟩
    obtain ⟨n, hn⟩ : ∃ n : Nat, (2 : Int) + (x : Int) = (n : Int) := ⟨2 + x, by omega⟩
    have hn2 : 2 ≤ n ∧ n ≤ 41 := by omega
    rw [hw3] at K2 Hs
    clear hw3 hx
    have hs0 := Hs.out.c0
    have hs1 := Hs.out.c1
    have hs2 := Hs.out.c2
    simp only at hs0 hs1 hs2
    go_wp2_with fail
    refine (implWordsOf_any sd.kind sd.a sd.b (n : Int) _ Hsd.out (by omega)).mono ?_
    intro e w4 hgave
    obtain ⟨A, c, rfl, hcap, hrd, hb⟩ := gaveSLB_got hgave (wordsOf_some Hvd.out (n := n) (by omega)) (wordsN_length n sd)
    have hW := wordsN_are (n := n) (by omega) (by omega) sd
    have hlen := wordsN_length n sd
    obtain ⟨t, ht⟩ : ∃ t, nthSd n sd = t := ⟨_, rfl⟩
    obtain ⟨xs, hxs⟩ : ∃ xs, wordsN n sd = xs := ⟨_, rfl⟩
    rw [hxs] at hrd hW hlen
    rw [ht]
    have HW := Lib.hid hW
    have Hlen := Lib.hid hlen
    have Hcap := Lib.hid hcap
    have K := Lib.hid (((K2.out.next hb).add hrd).alloc (.cells #[.int .i64 t.kind, .int .u64 t.a, .int .u64 t.b] 26))
    clear K2 hgave hrd hb hW hlen ht hxs hcap Hs hs0 hs1 hs2 Hsd Hvd
    obtain ⟨m, hm⟩ : ∃ m : Nat, (32 : Int) * (n : Int) = (m : Int) := ⟨32 * n, by omega⟩
    go_wp2_with fail
    refine (implBits_p A n c _ m xs _ (K.out.row (A, n, i64s xs) (by simp)) (Nat.le_refl _) HW.out (by have := Hlen.out; omega)).mono ?_
    rintro e w5 ⟨v5, rfl, hO, hb⟩
    obtain ⟨A5, c5, rfl, _, _, hrd⟩ := Own.shapeV (n := m) hO (by rw [bolS_length, bitsW_len])
    obtain ⟨bs, hbs⟩ : ∃ bs, bitsW xs m = bs := ⟨_, rfl⟩
    rw [hbs] at hrd
    have Hbs := Lib.hid hbs
    have hbl : bs.length = m := by rw [← hbs, bitsW_len]
    have Hbl := Lib.hid hbl
    have K2 := Lib.hid ((K.out.next hb).add hrd)
    clear K hO hrd hb hbs hbl
    have K := K2
    clear K2
    go_wp2_with fail
    refine (implRuns_p A5 m c5 _ bs _ (K.out.row (A5, m, bolS bs) (by simp)) (Nat.le_refl _) (by have := Hbl.out; omega)).mono ?_
    rintro e w6 ⟨v6, rs, rfl, hO, hl, htot, hsum, hbd, hb⟩
    obtain ⟨A6, c6, rfl, _, _, hrd⟩ := Own.shapeV (n := 16) hO (by rw [i64s_length]; exact hl)
    rw [Hbl.out] at hsum hbd
    have Hrl := Lib.hid hl; have Hrt := Lib.hid htot; have Hrs := Lib.hid hsum; have Hrb := Lib.hid hbd
    have K2 := Lib.hid ((K.out.next hb).add hrd)
    clear K hO hrd hb hl htot hsum hbd
    have K := K2
    clear K2
    go_wp2_with fail
    refine (implGaps_p A n c _ xs _ (K.out.row (A, n, i64s xs) (by simp)) (Nat.le_refl _) HW.out).mono ?_
    rintro e w7 ⟨v7, gs, rfl, hO, hl, htot, hgb, hb⟩
    obtain ⟨A7, c7, rfl, _, _, hrd⟩ := Own.shapeV (n := 16) hO (by rw [i64s_length]; exact hl)
    rw [Hlen.out] at hgb
    have Hgl := Lib.hid hl; have Hgt := Lib.hid htot; have Hgb := Lib.hid hgb
    clear hgb
    have K2 := Lib.hid ((K.out.next hb).add hrd)
    clear K hO hrd hb hl htot
    have K := K2
    clear K2
    go_wp2_with fail
    refine (implHands_p A n c _ xs _ (K.out.row (A, n, i64s xs) (by simp)) (Nat.le_refl _) HW.out).mono ?_
    rintro e w8 ⟨v8, hs, rfl, hO, hl, htot, hbd, hb⟩
    obtain ⟨A8, c8, rfl, _, _, hrd⟩ := Own.shapeV (n := 7) hO (by rw [i64s_length]; exact hl)
    rw [Hlen.out] at htot hbd
    have Hhl := Lib.hid hl; have Hht := Lib.hid htot; have Hhb := Lib.hid hbd
    have K2 := Lib.hid ((K.out.next hb).add hrd)
    clear K hO hrd hb hl htot hbd
    have K := K2
    clear K2
    go_wp2_with fail
    refine (r8At_any A1 n1 c1 _ xs1 1 5 _ (K.out.row (A1, n1, u8s xs1) (by simp)) Hb1.out Hm1.out (by omega) (by omega)).mono ?_
    rintro e w9 ⟨x, rfl, hx, rfl⟩
    obtain ⟨d, hd⟩ : ∃ d : Nat, (1 : Int) + (x : Int) = (d : Int) := ⟨1 + x, by omega⟩
    have hd5 : 1 ≤ d ∧ d ≤ 5 := by omega
    clear hx
    go_wp2_with fail
    refine (implPairs_p A n c _ d xs _ (K.out.row (A, n, i64s xs) (by simp)) (Nat.le_refl _) HW.out (by omega)).mono ?_
    rintro e w10 ⟨v10, ps, rfl, hO, hl, htot, hbd, hb⟩
    obtain ⟨D, hD⟩ : ∃ D : Nat, d * d = D := ⟨_, rfl⟩
    rw [hD] at hl
    obtain ⟨A10, c10, rfl, _, _, hrd⟩ := Own.shapeV (n := D) hO (by rw [i64s_length]; exact hl)
    have hD25 : 1 ≤ D ∧ D ≤ 25 := by rw [← hD]; exact ⟨Nat.mul_le_mul hd5.1 hd5.1, Nat.mul_le_mul hd5.2 hd5.2⟩
    have hdd : (d : Int) * (d : Int) = (D : Int) := by rw [← hD, Int.natCast_mul]
    rw [Hlen.out] at htot hbd
    have Hpl := Lib.hid hl; have Hpt := Lib.hid htot; have Hpb := Lib.hid hbd; have HDd := Lib.hid hD
    have K2 := Lib.hid ((K.out.next hb).add hrd)
    clear K hO hrd hb hl htot hbd hD
    have K := K2
    clear K2
    go_wp2
    go_loop [21, 22, 23] (fun l q i => ∃ (k : Nat) (y z : Int), k ≤ 16 ∧ i = .int .i64 k ∧ l = .int .i64 y ∧ q = .int .i64 z ∧ Hid (y = wsumN 0 (rs.take k)) ∧ Hid (z = totN (rs.take k)) ∧ (0 ≤ y ∧ y ≤ 30000 * (k : Int)) ∧ (0 ≤ z ∧ z ≤ 30000 * (k : Int))) (fun _ _ i => 16 - (intOf i).toNat)
    case atStart => exact ⟨0, 0, 0, by omega, rfl, rfl, rfl, rfl, rfl, by omega, by omega⟩
    case round => as_aux_lemma =>
      obtain ⟨k, y, z, hk, rfl, rfl, rfl, hy, hz, hyb, hzb⟩ := hrel
      by_cases hlt : k < 16
      · have hlt' : (k : Int) < 16 := by omega
        obtain ⟨g6, o6, u, rfl, hgB, hu, hcu⟩ := (K.out.row (A6, 16, i64s rs) (by simp)).atI (k := k) hlt
        have hub := Hrb.out k
        rw [List.getD_eq_getElem?_getD, hu.out, Option.getD_some] at hub
        obtain ⟨hu0, hu1⟩ := hub
        have hpr : 0 ≤ ((k : Int) + 1) * u ∧ ((k : Int) + 1) * u ≤ 16 * 1312 := ⟨Int.mul_nonneg (by omega) hu0, Int.mul_le_mul (by omega) (by omega) hu0 (by omega)⟩
        have hy2 : Hid (y + ((k : Int) + 1) * u = wsumN 0 (rs.take (k + 1))) := by show _ = _; rw [wsumN_take hu.out, hy.out]
        have hz2 : Hid (z + u = totN (rs.take (k + 1))) := by show _ = _; rw [totN_take hu.out, hz.out]
        clear hu hy hz
        go_wp2
        go_round
        case rel => exact ⟨k + 1, _, z + u, by omega, by go_num, rfl, rfl, hy2, hz2, by omega, by omega⟩
        case measure => simp only [intOf]; omega
      · obtain rfl : k = 16 := by omega
        have hys : Hid (y ≤ m) := by
          have := hy.out
          rw [← Hrl.out, List.take_length] at this
          show _ ≤ _
          rw [this]; exact Hrs.out
        have hzc : Hid (z = (chgN bs : Int)) := by
          have := hz.out
          rw [← Hrl.out, List.take_length] at this
          show _ = _
          rw [this]; exact Hrt.out
        clear hy hz Hrb Hrs Hrt
        go_wp2
        go_loopw [24, 25] (fun q i wr => ∃ (k p h : Nat) (z : Int), Hid (k = p + 1) ∧ k ≤ m ∧ i = .int .i64 k ∧ q = .int .i64 z ∧ Hid (z + (chgN (bs.drop p) : Int) = chgN bs + 1) ∧ (0 ≤ z ∧ z ≤ (k : Int)) ∧ wr = w10.drewN h) (fun _ i _ => m - (intOf i).toNat)
        case atStart => exact ⟨1, 0, 0, 1, rfl, by omega, rfl, rfl, by show _ = _; rw [List.drop_zero]; omega, by omega, rfl⟩
        case round => as_aux_lemma =>
          obtain ⟨k, p, h, z', hkp, hk, rfl, rfl, hz, hzb, rfl⟩ := hrel
          by_cases hlt : k < m
          · have hlt' : (k : Int) < (m : Int) := by omega
            have hp' : (p : Int) < (m : Int) := by have := hkp.out; omega
            have hw1 : IntKind.i64.wrap ((k : Int) - 1) = (p : Int) := by have := hkp.out; rw [IntKind.wrap_i64]; omega
            have hR := (K.out.row (A5, m, bolS bs) (by simp))
            obtain ⟨g5, o5, u, hA5, hgB, hu, hcu⟩ := hR.atT (k := k) hlt
            obtain ⟨g5', o5', u', hA5', hgB', hu', hcu'⟩ := hR.atT (k := p) (show p < m by have := hkp.out; omega)
            have hA5q : A5 = some ⟨g5, o5, none⟩ := hA5
            have hA5r : A5 = some ⟨g5', o5', none⟩ := hA5'
            obtain ⟨rfl, rfl⟩ : g5 = g5' ∧ o5 = o5' := by rw [hA5q] at hA5r; injection hA5r with e; injection e with e1 e2; exact ⟨e1, e2⟩
            clear hA5 hA5' hA5r
            subst hA5q
            have hch := chgN_at hu'.out
            rw [← hkp.out, hu.out] at hch
            clear hR
            by_cases hxx : u = u'
            · have hch2 : Hid (chgN (bs.drop p) = chgN (bs.drop k)) := by show _ = _; rw [hch, if_pos (by rw [hxx])]; omega
              have hz2 : Hid (z' + (chgN (bs.drop k) : Int) = chgN bs + 1) := by show _ = _; rw [← hch2.out]; exact hz.out
              have hb : (u' != u') = false := by simp
              subst hxx
              clear hch hu hu' hz hch2
              go_wp2_with fail
              go_quiet (fail)
              go_wp2
              go_roundw
              case rel => exact ⟨k + 1, k, _, z', rfl, by omega, by go_num, rfl, hz2, by omega, rfl⟩
              case measure => simp only [intOf]; omega
            · have hch2 : Hid (chgN (bs.drop p) = 1 + chgN (bs.drop k)) := by show _ = _; rw [hch, if_neg (by simp [hxx])]
              have hz2 : Hid (z' + 1 + (chgN (bs.drop k) : Int) = chgN bs + 1) := by show _ = _; have := hz.out; rw [hch2.out] at this; omega
              have hb : (u == u') = false := by rw [beq_eq_false_iff_ne]; exact hxx
              clear hch hu hu' hz hch2 hxx
              go_wp2_with fail
              go_quiet (fail)
              go_wp2
              go_roundw
              case rel => exact ⟨k + 1, k, _, z' + 1, rfl, by omega, by go_num, by go_num, hz2, by omega, rfl⟩
              case measure => simp only [intOf]; omega
          · have hkm : k = m := by omega
            have hze : z = z' := by
              have h1 := hz.out
              have hpm : p + 1 = bs.length := by rw [Hbl.out, ← hkm]; exact hkp.out.symm
              have h2 := chgN_at (List.getElem?_eq_getElem (show p < bs.length by omega))
              rw [List.getElem?_eq_none (show bs.length ≤ p + 1 by omega), if_neg (by simp), chgN_end (show bs.length ≤ p + 1 by omega)] at h2
              rw [h2] at h1
              have := hzc.out
              omega
            have K2 := Lib.hid (K.out.drewN h)
            generalize w10.drewN h = w11 at K2 ⊢
            subst hze
            have hys' := hys.out
            clear K hz hzc hys hkm hkp
            have K := K2
            clear K2
            go_wp2
            go_loopw [26, 27] (fun q i wr => ∃ (k s h : Nat), k ≤ n ∧ i = .int .i64 k ∧ q = .int .i64 s ∧ Hid (s = smallN (xs.take k)) ∧ s ≤ k ∧ wr = w11.drewN h) (fun _ i _ => n - (intOf i).toNat)
            case atStart => exact ⟨0, 0, 0, by omega, rfl, rfl, rfl, by omega, rfl⟩
            case round => as_aux_lemma =>
              obtain ⟨k, s, h, hk, rfl, rfl, hs, hsk, rfl⟩ := hrel
              by_cases hlt : k < n
              · have hlt' : (k : Int) < (n : Int) := by omega
                obtain ⟨gA, oA, x, hA, hgB, hx, hcx⟩ := (K.out.row (A, n, i64s xs) (by simp)).atI (k := k) hlt
                have hA' : A = some ⟨gA, oA, none⟩ := hA
                obtain ⟨hx0, hx1⟩ := allWords_at (xs := xs) (by have := HW.out; unfold areWords at this; simp only [Bool.and_eq_true] at this; exact this.2) hx.out
                obtain ⟨j1, hj1⟩ : ∃ j1, 32 * k = j1 := ⟨_, rfl⟩
                obtain ⟨j2, hj2⟩ : ∃ j2, 32 * k + 31 = j2 := ⟨_, rfl⟩
                have hR := (K.out.row (A5, m, bolS bs) (by simp))
                obtain ⟨g5, o5, u1, hA5, hgB1, hu1, hcu1⟩ := hR.atT (k := j1) (show j1 < m by omega)
                obtain ⟨g5', o5', u2, hA5', hgB2, hu2, hcu2⟩ := hR.atT (k := j2) (show j2 < m by omega)
                have hA5q : A5 = some ⟨g5, o5, none⟩ := hA5
                have hA5r : A5 = some ⟨g5', o5', none⟩ := hA5'
                obtain ⟨rfl, rfl⟩ : g5 = g5' ∧ o5 = o5' := by rw [hA5q] at hA5r; injection hA5r with e; injection e with e1 e2; exact ⟨e1, e2⟩
                have e1 : u1 = decide (x ≥ 2147483648) := by
                  have := hu1.out
                  rw [← Hbs.out, bitsW, List.getElem?_map, List.getElem?_range (by omega), Option.map_some] at this
                  injection this with this
                  rw [← this, ← hj1]
                  exact bitW_first hx.out ⟨hx0, hx1⟩
                have e2 : u2 = (x % 2 == 1) := by
                  have := hu2.out
                  rw [← Hbs.out, bitsW, List.getElem?_map, List.getElem?_range (by omega), Option.map_some] at this
                  injection this with this
                  rw [← this, ← hj2]
                  exact bitW_last hx.out ⟨hx0, hx1⟩
                have hw1 : IntKind.i64.wrap (32 * (k : Int)) = (j1 : Int) := by rw [IntKind.wrap_i64]; omega
                have hw2 : IntKind.i64.wrap ((j1 : Int) + 31) = (j2 : Int) := by rw [IntKind.wrap_i64]; omega
                have hj1m : (j1 : Int) < (m : Int) := by omega
                have hj2m : (j2 : Int) < (m : Int) := by omega
                have htm : x.tmod 2 = x % 2 := Int.tmod_eq_emod_of_nonneg hx0
                obtain ⟨r, hr⟩ : ∃ r, x % 2 = r := ⟨_, rfl⟩
                rw [hr] at htm e2
                have hwr : IntKind.i64.wrap r = r := by rw [IntKind.wrap_i64]; omega
                have hru : (r == 1) = u2 := e2.symm
                have hst := Lib.hid (smallN_take hx.out)
                clear hA hA5 hA5' hA5r hR hu1 hu2 hj1 hj2 e2 hx hr
                subst hA' hA5q
                by_cases hxx : x < 2147483648
                · have hs2 : Hid (s + 1 = smallN (xs.take (k + 1))) := by show _ = _; rw [hst.out, if_pos hxx, hs.out]
                  obtain rfl : u1 = false := by rw [e1]; exact decide_eq_false (by omega)
                  have hge : ¬ x ≥ 2147483648 := by omega
                  clear e1 hst hs
                  go_wp2_with fail
                  go_quiet (fail)
                  go_wp2
                  go_roundw
                  case rel => exact ⟨k + 1, s + 1, _, by omega, by go_num, by go_num, hs2, by omega, rfl⟩
                  case measure => simp only [intOf]; omega
                · have hs2 : Hid (s = smallN (xs.take (k + 1))) := by show _ = _; rw [hst.out, if_neg hxx, hs.out]; omega
                  obtain rfl : u1 = true := by rw [e1]; exact decide_eq_true (by omega)
                  have hge : x ≥ 2147483648 := by omega
                  clear e1 hst hs
                  go_wp2_with fail
                  go_quiet (fail)
                  go_wp2
                  go_roundw
                  case rel => exact ⟨k + 1, s, _, by omega, by go_num, by go_num, hs2, by omega, rfl⟩
                  case measure => simp only [intOf]; omega
              · have hkn : k = n := by omega
                have hsm : Hid (s = smallN xs) := by
                  have := hs.out
                  rw [hkn, ← Hlen.out, List.take_length] at this
                  exact this
                have K2 := Lib.hid (K.out.drewN h)
                generalize w11.drewN h = w12 at K2 ⊢
                clear K hs hkn
                have K := K2
                clear K2
                go_wp2_with fail
                refine (r8Sum_any A7 16 c7 _ gs _ (K.out.row (A7, 16, i64s gs) (by simp)) (by omega) (bdN_mono Hgb.out (by omega))).mono ?_
                rintro e wq ⟨rfl, rfl⟩
                have hmx : max 0 ((s : Int) - 1) = totN gs := by rw [Hgt.out, hsm.out]
                obtain ⟨G, hG⟩ : ∃ G, totN gs = G := ⟨_, rfl⟩
                rw [hG] at hmx ⊢
                clear hG
                go_wp2_with fail
                clear hmx
                refine (r8Sum_any A8 7 c8 _ hs _ (K.out.row (A8, 7, i64s hs) (by simp)) (by omega) (bdN_mono Hhb.out (by omega))).mono ?_
                rintro e wq ⟨rfl, rfl⟩
                rw [Hht.out]
                go_wp2_with fail
                refine (r8Sum_any A10 D c10 _ ps _ (K.out.row (A10, D, i64s ps) (by simp)) (by omega) (bdN_mono Hpb.out (by omega))).mono ?_
                rintro e wq ⟨rfl, rfl⟩
                rw [Hpt.out]
                obtain ⟨F, hF⟩ : ∃ F : Nat, min (n : Int) 12 = (F : Int) := ⟨(min (n : Int) 12).toNat, by omega⟩
                have hF12 : 2 ≤ F ∧ F ≤ 12 ∧ F ≤ n := by omega
                have hFc : F ≤ c := by have := Hcap.out.1; omega
                obtain ⟨gA, oA, x0, hA, _, hx0, _⟩ := (K.out.row (A, n, i64s xs) (by simp)).atI (k := 0) (show 0 < n by omega)
                have hA' : A = some ⟨gA, oA, none⟩ := hA
                clear hA
                subst hA'
                obtain ⟨gA', oA', x1, hA2, _, hx1, _⟩ := (K.out.row (some ⟨gA, oA, none⟩, n, i64s xs) (by simp)).atI (k := 1) (show 1 < n by omega)
                have hbd0 := allWords_at (xs := xs) (by have := HW.out; unfold areWords at this; simp only [Bool.and_eq_true] at this; exact this.2) hx0.out
                have hbd1 := allWords_at (xs := xs) (by have := HW.out; unfold areWords at this; simp only [Bool.and_eq_true] at this; exact this.2) hx1.out
                obtain ⟨a, ha⟩ : ∃ a : Nat, x0 = (a : Int) := ⟨x0.toNat, by omega⟩
                obtain ⟨b, hb⟩ : ∃ b : Nat, x1 = (b : Int) := ⟨x1.toNat, by omega⟩
                subst ha hb
                obtain ⟨fs, hfs⟩ : ∃ fs, xs.take F = fs := ⟨_, rfl⟩
                have HFW : Hid (areWords fs = true) := by rw [← hfs]; exact areWords_take HW.out (by omega)
                have HFl : Hid (fs.length = F) := by show _ = _; rw [← hfs, List.length_take, Hlen.out]; omega
                have H0 : Hid (fs[0]? = some (a : Int)) := by show _ = _; rw [← hfs, List.getElem?_take, if_pos (by omega)]; exact hx0.out
                have H1 : Hid (fs[1]? = some (b : Int)) := by show _ = _; rw [← hfs, List.getElem?_take, if_pos (by omega)]; exact hx1.out
                have X0 := Lib.hid hx0.out; have X1 := Lib.hid hx1.out
                have K2 : Hid (Kq w1 w12 ((some ⟨gA, oA, none⟩, F, i64s fs) :: _)) := K.out.add (by have := (K.out.row (some ⟨gA, oA, none⟩, n, i64s xs) (by simp)).take (m := F) (show F ≤ n by omega); rw [i64s_take, hfs] at this; exact this)
                clear K hA2 hx0 hx1 hfs
                have K := K2
                clear K2
                have ha32 : a < 4294967296 := by omega
                have hb32 : b < 4294967296 := by omega
                clear hbd0 hbd1
                go_wp2_with fail
                refine (implRank_p (some ⟨gA, oA, none⟩) F c _ fs _ (K.out.row (some ⟨gA, oA, none⟩, F, i64s fs) (by simp)) (Nat.le_refl _) HFW.out (by have := HFl.out; omega)).mono ?_
                rintro e w13 ⟨rfl, hb13⟩
                have K2 := Lib.hid (K.out.next hb13)
                clear K hb13
                have K := K2
                clear K2
                obtain ⟨R, hR⟩ : ∃ R, rankN 32 (fs.map Int.toNat) = R := ⟨_, rfl⟩
                have hRF : R ≤ F := by rw [← hR]; have := rankN_le 32 (fs.map Int.toNat); rw [List.length_map, HFl.out] at this; exact this
                have HRz : Hid (R < 1 → a = 0) := fun h => rank_zero HFW.out H0.out (by rw [hR]; exact h)
                have HRs : Hid (rankN 32 ((fs ++ [((a ^^^ b : Nat) : Int)]).map Int.toNat) = R) := by show _ = _; rw [rank_same HFW.out H0.out H1.out, hR]
                rw [hR]
                clear hR
                have Ho := Lib.hid (own_newI w13 (Nat.le_refl _))
                have Hc := Lib.hid (rd_cells ((K.out.row (some ⟨gA, oA, none⟩, F, i64s fs) (by simp)).alloc (Nat.le_refl _) (.cells #[] 2)))
                go_wp2_with (at_builtin; go_must (refine emitAllI rfl _ _ rfl w13.heap.size (.slice (some ⟨w13.heap.size, 0, none⟩) 0 0) [] rfl Ho.out ⟨gA, oA, none⟩ F c fs rfl HFl.out Hc.out ?c1 ?c2 ?_))
                case c1 => simp; omega
                case c2 => simp
                intro v14 w14 hO14 hg14
                have hB14 := below_ownGrown ((Below.refl _ _).alloc (Nat.le_refl _) _) Ho.out hg14 (Nat.le_refl _) (Nat.le_refl _)
                have hs14 : w13.heap.size ≤ w14.heap.size := hB14.size
                have HO14 := Lib.hid hO14
                have HB14 := Lib.hid hB14
                clear hO14 hg14 hB14 Ho Hc
                obtain ⟨zz, hzz⟩ : ∃ zz : Nat, a ^^^ b = zz := ⟨_, rfl⟩
                have hxor : bits .xor .i64 (a : Int) (b : Int) = (zz : Int) := by rw [← hzz]; exact xor_of a b ha32 hb32
                have hzz32 : zz < 4294967296 := by rw [← hzz]; exact Nat.xor_lt_two_pow (n := 32) ha32 hb32
                rw [hzz] at HRs
                clear hzz
                have hR14 := (K.out.row (some ⟨gA, oA, none⟩, F, i64s fs) (by simp)).below HB14.out (Nat.le_refl _)
                obtain ⟨q1, q2, y0, hq, _, hy0, hcy0⟩ := hR14.atI (k := 0) (show 0 < F by omega)
                obtain ⟨q3, q4, y1, hq', _, hy1, hcy1⟩ := hR14.atI (k := 1) (show 1 < F by omega)
                obtain ⟨rfl, rfl⟩ : gA = q1 ∧ oA = q2 := by injection hq with e; injection e with e1 e2; exact ⟨e1, e2⟩
                obtain ⟨rfl, rfl⟩ : gA = q3 ∧ oA = q4 := by injection hq' with e; injection e with e1 e2; exact ⟨e1, e2⟩
                obtain rfl : y0 = (a : Int) := by have := hy0.out.symm.trans H0.out; simpa using this
                obtain rfl : y1 = (b : Int) := by have := hy1.out.symm.trans H1.out; simpa using this
                rw [Nat.add_zero] at hcy0
                have hne14 : v14.ownBlock ≠ some w14.heap.size := fun e => by have := HO14.out.lt _ e; omega
                have hge14 := Lib.hid (fun k (e : v14.ownBlock = some k) => (HO14.out.lt k e).1)
                have G1 : Hid (w14.grownBy (w14.drew.alloc (.cells #[.int .i64 (zz : Int)] 2)) (some w14.heap.size)) := grown_trans' (grown_drew' _ _) (World.grownBy_alloc _ _ _)
                have C1 : Hid ((w14.drew.alloc (.cells #[.int .i64 (zz : Int)] 2)).cell? ⟨w14.heap.size, 0, none⟩ = some (.int .i64 (zz : Int))) := by show _ = _; have := one_cell w14.drew 2 (.int .i64 (zz : Int)) 0 (.int .i64 (zz : Int)) rfl; simpa [Addr.add] using this
                have B1 : Hid (Below w13.heap.size w14 (w14.drew.alloc (.cells #[.int .i64 (zz : Int)] 2))) := (Below.refl _ _).drew.alloc hs14 _
                have hF0 : 0 < F := by omega
                have hF0' : (0 : Int) < (F : Int) := by omega
                have hF1' : (1 : Int) < (F : Int) := by omega
                have hfl63 : fs.length ≤ 2000000 := by have := HFl.out; omega
                clear hR14 hy0 hy1 hq hq'
                go_upto_region 42 with fail
                go_cut [31] from 279 to 288 (fun s wx => ∃ v, s = v ∧ Own wx w13.heap.size 2 v (i64s (fs ++ [(zz : Int)])) ∧ Below w13.heap.size w14 wx)
                case first => as_aux_lemma =>
                  go_region_law (first
                    | (refine step_emitI rfl (.tmp 279) (.tmp 287) rfl w13.heap.size v14 fs (by simp [Act.eval]) HO14.out w14.heap.size hne14 G1.out (zz : Int) w14.heap.size (by simp [Act.eval]) C1.out hfl63 hs14 ?_
                       intro v15 w15 hO15 hg15 hor15
                       have HO15 := Lib.hid hO15
                       have HB15 := Lib.hid (B1.out.grown hg15 (Nat.le_trans hs14 B1.out.size) (fun k e => hge14.out k e))
                       clear hO15 hg15 hor15))
                  all_goals
                    go_wp2_with fail
                    go_meet
                    case rel => exact ⟨_, rfl, HO15.out, HB15.out⟩
                case rest => as_aux_lemma =>
                  obtain ⟨v15, rfl, hO15, hB15⟩ := hcut
                  have K2 := Lib.hid (K.out.next (HB14.out.trans hB15))
                  clear K HB14 hB15 HO14 hne14 hge14 G1 C1 B1 hcy0 hcy1
                  have K := K2
                  clear K2
                  obtain ⟨F1, hF1⟩ : ∃ F1, F + 1 = F1 := ⟨_, rfl⟩
                  obtain ⟨A15, c15, rfl, _, _, hrd15⟩ := Own.shapeV (n := F1) hO15 (by rw [i64s_length, List.length_append, HFl.out]; exact hF1)
                  have HW15 : Hid (areWords (fs ++ [(zz : Int)]) = true) := by
                    refine areWords_mk ?_ ?_ (fun x hx => ?_)
                    · rw [List.length_append, HFl.out]; simp
                    · rw [List.length_append, HFl.out]; simp; omega
                    · rcases List.mem_append.1 hx with h | h
                      · exact areWords_mem HFW.out x h
                      · rw [List.mem_singleton.1 h]; omega
                  have Hrd15 := Lib.hid hrd15
                  clear hO15 hrd15
                  go_wp2_with fail
                  refine (implRank_p A15 F1 c15 _ _ _ Hrd15.out (Nat.le_refl _) HW15.out (by rw [List.length_append, HFl.out]; simp; omega)).mono ?_
                  rintro e w16 ⟨rfl, hb16⟩
                  rw [HRs.out]
                  have K2 := Lib.hid (K.out.next hb16)
                  clear K hb16 Hrd15 HW15 HRs
                  have K := K2
                  clear K2
                  have h2c : 2 ≤ c := by have := Hcap.out.1; omega
                  have h2c' : (2 : Int) ≤ (c : Int) := by omega
                  have htwo : xs.take 2 = [(a : Int), (b : Int)] := by
                    apply List.ext_getElem?
                    intro i
                    match i with
                    | 0 => rw [List.getElem?_take, if_pos (by omega), X0.out]; rfl
                    | 1 => rw [List.getElem?_take, if_pos (by omega), X1.out]; rfl
                    | i + 2 => rw [List.getElem?_eq_none (by rw [List.length_take]; omega), List.getElem?_eq_none (by simp)]
                  have hrd2 : Rd w16 w16.heap.size (some ⟨gA, oA, none⟩) 2 (i64s [(a : Int), (b : Int)]) := by
                    have := (K.out.row (some ⟨gA, oA, none⟩, n, i64s xs) (by simp)).take (m := 2) (show 2 ≤ n by omega)
                    rw [i64s_take, htwo] at this
                    exact this
                  have Hrd2 := Lib.hid hrd2
                  have Ho := Lib.hid (own_newI w16.drew (Nat.le_refl _))
                  have Hra := Lib.hid (hrd2.drew.alloc (Nat.le_refl _) (.cells #[] 2))
                  have Hba : Hid (Below w16.heap.size w16 (w16.drew.alloc (.cells #[] 2))) := (Below.refl _ _).drew.alloc (Nat.le_refl _) _
                  clear hrd2 htwo
                  go_upto_region 44 with fail
                  go_cut [34] from 294 to 300 (fun s wx => ∃ v, s = v ∧ Own wx w16.heap.size 2 v (i64s [(a : Int), (b : Int), (a : Int), (b : Int)]) ∧ Below w16.heap.size w16 wx)
                  case first => as_aux_lemma =>
                    go_region_law (first
                      | (refine step_emitAllI rfl (.tmp 294) (.tmp 296) rfl w16.heap.size (.slice (some ⟨w16.heap.size, 0, none⟩) 0 0) [] (by simp [Act.eval, Act.put]) Ho.out ⟨gA, oA, none⟩ 2 c [(a : Int), (b : Int)] (by simp [Act.eval, Act.put]) rfl (rd_cells Hra.out) (by simp) (by simp) ?_
                         intro v17 w17 hO17 hg17
                         have HO17 := Lib.hid hO17
                         have HB17 := Lib.hid (below_ownGrown Hba.out Ho.out hg17 (Nat.le_refl _) (Nat.le_refl _))
                         have HR17 := Lib.hid (Hra.out.ownGrown Ho.out hg17 (by simp) (Nat.le_refl _))
                         clear hO17 hg17)
                      | (refine step_emitAllI rfl (.tmp 297) (.tmp 299) rfl w16.heap.size v17 [(a : Int), (b : Int)] (by simp [Act.eval, Act.put]) HO17.out ⟨gA, oA, none⟩ 2 c [(a : Int), (b : Int)] (by simp [Act.eval, Act.put]) rfl (rd_cells HR17.out) (by simp) HB17.out.size ?_
                         intro v18 w18 hO18 hg18
                         have HO18 := Lib.hid hO18
                         have HB18 := Lib.hid (below_ownGrown HB17.out HO17.out hg18 (Nat.le_refl _) (Nat.le_refl _))
                         clear hO18 hg18))
                    all_goals
                      go_wp2_with fail
                      go_meet
                      case rel => exact ⟨_, rfl, HO18.out, HB18.out⟩
                  case rest => as_aux_lemma =>
                    obtain ⟨v18, rfl, hO18, hB18⟩ := hcut
                    obtain ⟨A18, c18, rfl, hcl18, hcm18, hrd18⟩ := Own.shapeV (n := 4) hO18 (by simp)
                    have K2 := Lib.hid (K.out.next hB18)
                    have HW18 : Hid (areWords [(a : Int), (b : Int), (a : Int), (b : Int)] = true) := areWords_mk (by simp) (by simp) (fun x hx => by
                      simp only [List.mem_cons, List.not_mem_nil, or_false] at hx
                      rcases hx with h | h | h | h <;> omega)
                    have Hrd18 := Lib.hid hrd18
                    clear K hO18 hB18 hrd18 Hra Hba Hrd2 Ho
                    have K := K2
                    clear K2
                    obtain ⟨p1, p2, hmr, hp1⟩ := meet_twice HW18.out
                    have Hmr := Lib.hid hmr
                    clear hmr
                    go_wp2_with fail
                    refine (implMeetings A18 4 c18 _ [(a : Int), (b : Int), (a : Int), (b : Int)] 1 _ Hrd18.out (Nat.le_refl _) (by simp) (fit_words HW18.out) ⟨hcl18, hcm18⟩ (by omega)).mono ?_
                    intro e w19 hgave
                    obtain ⟨rfl, hb19⟩ := gaveNNB_got hgave Hmr.out
                    have K2 := Lib.hid (K.out.next hb19)
                    clear K hb19 hgave Hrd18 HW18 Hmr
                    have K := K2
                    clear K2
                    go_wp2_with fail
                    refine (implMeetings (some ⟨gA, oA, none⟩) n c _ xs 4294967296 _ (K.out.row (some ⟨gA, oA, none⟩, n, i64s xs) (by simp)) (Nat.le_refl _) (by have := Hlen.out; omega) (fit_words HW.out) Hcap.out (by omega)).mono ?_
                    intro e w20 hgave
                    obtain ⟨rfl, hb20⟩ := gaveNNB_got hgave (meet_all HW.out)
                    have K2 := Lib.hid (K.out.next hb20)
                    clear K hb20 hgave
                    have K := K2
                    clear K2
                    rw [Hlen.out]
                    obtain ⟨e1, he1⟩ : ∃ e1 : Nat, n - 1 = e1 := ⟨_, rfl⟩
                    obtain ⟨e2, he2⟩ : ∃ e2 : Nat, n - 1 - 1 = e2 := ⟨_, rfl⟩
                    rw [he1] at he2
                    rw [he1, he2]
                    have hm1 : (n : Int) - 1 = (e1 : Int) := by omega
                    have hm2 : (n : Int) - 2 = (e2 : Int) := by omega
                    clear he1 he2
                    have hRF' : (R : Int) ≤ (F : Int) := by omega
                    have hcw0 : w20.cell? ⟨gA, oA, none⟩ = some (.int .i64 (a : Int)) := by
                      obtain ⟨q1, q2, y0, hq, _, hy0, hcy0⟩ := (K.out.row (some ⟨gA, oA, none⟩, F, i64s fs) (by simp)).atI (k := 0) (show 0 < F by omega)
                      obtain ⟨rfl, rfl⟩ : gA = q1 ∧ oA = q2 := by injection hq with e; injection e with e1 e2; exact ⟨e1, e2⟩
                      obtain rfl : y0 = (a : Int) := by have := hy0.out.symm.trans H0.out; simpa using this
                      rwa [Nat.add_zero] at hcy0
                    go_upto_region 47 with fail
                    go_cut [363] from 313 to 363 (fun s wx => s = .bool false ∧ wx = w20)
                    case first => as_aux_lemma =>
                      by_cases hR1 : R < 1
                      · have hR1' : (R : Int) < 1 := by omega
                        have ha0 : (a : Int) = 0 := by have := HRz.out hR1; omega
                        go_wp2_with fail
                        go_meet
                        case rel => exact ⟨by rw [decide_eq_false (show ¬ F < R by omega), decide_eq_false (show ¬ p1 < 2 by omega)]; rfl, rfl⟩
                      · have hR1' : ¬ (R : Int) < 1 := by omega
                        go_wp2_with fail
                        go_meet
                        case rel => exact ⟨by rw [decide_eq_false (show ¬ F < R by omega), decide_eq_false (show ¬ p1 < 2 by omega)]; rfl, rfl⟩
                    case rest => as_aux_lemma =>
                      obtain ⟨rfl, rfl⟩ := hcut
                      clear hcw0
                      obtain ⟨q, hq⟩ : ∃ q, shF d = q := ⟨_, rfl⟩
                      have hqd : fop .quo .f32 1065353216 (floatOfInt .f32 (D : Int)) = q := by rw [← hq, shF, HDd.out]
                      have hqn : isNaNB .f32 q = false := by
                        rw [← hq]
                        obtain ⟨d', hd'⟩ : ∃ d', d = d' + 1 := ⟨d - 1, by omega⟩
                        rw [hd']; exact shF_num d' (by omega)
                      have Hq := Lib.hid hq
                      have hquo := fun (t : TypeId) (w : World) => run_fop_num2 (P := Try.prog) hqd hqn t w
                      clear hq hqd hqn
                      go_wp2
                      go_loopw [41, 42] (fun v i wr => ∃ k : Nat, k ≤ D ∧ i = .int .i64 k ∧ Own wr wc.heap.size 45 v (f32s (List.replicate k q)) ∧ Below wc.heap.size wc wr) (fun _ i _ => D - (intOf i).toNat)
                      case atStart => exact ⟨0, Nat.zero_le _, rfl, own_new wc _ (Nat.le_refl _), (Below.refl _ _).alloc (Nat.le_refl _) _⟩
                      case round => as_aux_lemma =>
                        obtain ⟨k, hk, rfl, hO, hB⟩ := hrel
                        have HO := Lib.hid hO; have HB := Lib.hid hB
                        clear hO hB
                        by_cases hlt : k < D
                        · have hlt' : (k : Int) < (D : Int) := by omega
                          have hsz := HB.out.size
                          have hlk := Lib.hid (List.length_replicate (n := k) (a := q))
                          go_wp2_with (at_builtin; go_must (refine emitF2 wr rfl _ _ rfl wc.heap.size u41 (List.replicate k q) rfl HO.out q rfl ?c1 hsz ?_))
                          case c1 => rw [hlk.out]; omega
                          intro v' w3 hO' hg hor
                          have hrep : List.replicate k q ++ [q] = List.replicate (k + 1) q := by rw [List.replicate_succ']
                          rw [hrep] at hO'
                          have HO' := Lib.hid hO'
                          have HB' := Lib.hid (HB.out.grown hg hsz (fun g hg => (HO.out.lt g hg).1))
                          clear hO' hg hor hrep
                          go_wp2
                          go_roundw
                          case rel => exact ⟨k + 1, by omega, by go_num, HO'.out, HB'.out⟩
                          case measure => simp only [intOf]; omega
                        · have hkD : k = D := by omega
                          have K2 := Lib.hid (K.out.next HB.out)
                          have hO := HO.out
                          rw [hkD] at hO
                          obtain ⟨A21, c21, rfl, hcl21, hcm21, hrd21⟩ := Own.shapeV (n := D) hO (by simp)
                          clear K HO HB hO hkD hquo
                          have K := K2
                          clear K2
                          obtain ⟨y1, hchi, hnan, hlt0⟩ := chi_ps hd5 (Hpl.out.trans HDd.out.symm) Hpb.out Hpt.out hn2
                          rw [HDd.out, Hq.out] at hchi
                          have Hchi := Lib.hid hchi
                          have Hnan := Lib.hid hnan
                          clear hchi hnan Hq
                          go_wp2_with fail
                          refine (implChi A10 D c10 _ ps A21 D c21 _ (List.replicate D q) _ (K.out.row (A10, D, i64s ps) (by simp)) (Nat.le_refl _) (by have := Hpl.out; omega) (fit_bd Hpb.out (by omega)) ⟨by assumption, by assumption⟩ hrd21 (Nat.le_refl _) (by simp; omega) ⟨hcl21, hcm21⟩).mono ?_
                          intro e w22 hgave
                          obtain ⟨rfl, hb22⟩ := gaveFB_got hgave Hchi.out Hnan.out
                          have K2 := Lib.hid (K.out.next hb22)
                          clear K hb22 hgave hrd21 Hchi Hnan
                          have K := K2
                          clear K2
                          go_wp2_with fail
                          refine (r8At_any A1 n1 c1 _ xs1 2 10 _ (K.out.row (A1, n1, u8s xs1) (by simp)) Hb1.out Hm1.out (by omega) (by omega)).mono ?_
                          rintro e w23 ⟨x2, rfl, hx2, rfl⟩
                          obtain ⟨pa, hpa⟩ : ∃ d : Nat, (1 : Int) + (x2 : Int) = (d : Int) := ⟨1 + x2, by omega⟩
                          have hpa5 : 1 ≤ pa ∧ pa ≤ 10 := by omega
                          clear hx2
                          go_wp2_with fail
                          refine (r8At_any A1 n1 c1 _ xs1 3 10 _ (K.out.row (A1, n1, u8s xs1) (by simp)) Hb1.out Hm1.out (by omega) (by omega)).mono ?_
                          rintro e w24 ⟨x3, rfl, hx3, rfl⟩
                          obtain ⟨px, hpx⟩ : ∃ d : Nat, (1 : Int) + (x3 : Int) = (d : Int) := ⟨1 + x3, by omega⟩
                          have hpx5 : 1 ≤ px ∧ px ≤ 10 := by omega
                          clear hx3
                          go_wp2_with fail
                          refine (implPeriod_p pa px _ hpa5 hpx5).mono ?_
                          rintro e w25 ⟨N, rfl, hN1, hN10, hNd, hb25⟩
                          have K2 := Lib.hid (K.out.next hb25)
                          clear K hb25
                          have K := K2
                          clear K2
                          have hN1' : (1 : Int) ≤ (N : Int) := by omega
                          have hN10' : (N : Int) ≤ 10 := by omega
                          have hNd' : (10 : Int) % (N : Int) = 0 := by rw [show (10 : Int) = ((10 : Nat) : Int) from rfl, ← Int.natCast_emod, hNd]; rfl
                          have hNd2 : (10 : Int).tmod (N : Int) = 0 := by rw [Int.tmod_eq_emod_of_nonneg (by omega)]; exact hNd'
                          have hN0 : ¬ (N : Int) = 0 := by omega
                          go_wp2_with fail
                          refine (r8At_any A1 n1 c1 _ xs1 4 200 _ (K.out.row (A1, n1, u8s xs1) (by simp)) Hb1.out Hm1.out (by omega) (by omega)).mono ?_
                          rintro e w26 ⟨x4, rfl, hx4, rfl⟩
                          obtain ⟨M, hM⟩ : ∃ d : Nat, (2 : Int) + (x4 : Int) = (d : Int) := ⟨2 + x4, by omega⟩
                          have hM5 : 2 ≤ M ∧ M ≤ 201 := by omega
                          clear hx4 hNd' hNd2 hNd
                          go_wp2_with fail
                          refine (r8At_any A1 n1 c1 _ xs1 5 (M : Int) _ (K.out.row (A1, n1, u8s xs1) (by simp)) Hb1.out Hm1.out (by omega) (by omega)).mono ?_
                          rintro e w27 ⟨mu, rfl, hmu, rfl⟩
                          go_wp2_with fail
                          refine (implLat_p (M : Int) (mu : Int) _ (by omega) (by omega)).mono ?_
                          rintro e w28 ⟨nn, bb, rfl, rfl, g1, g2, g3, g4, g5, g6⟩
                          have G5 := Lib.hid g5; have G6 := Lib.hid g6; have G4 := Lib.hid g4
                          obtain ⟨hMM0, hMM1⟩ := mul_in (a := (M : Int)) (b := (M : Int)) (p := 201) (q := 201) (by omega) (by omega)
                          have hbb16 : bb < 202 := sq_lt (by omega) (by omega)
                          obtain ⟨hbb0, hbb1⟩ := mul_in (a := bb) (b := bb) (p := 202) (q := 202) (by omega) (by omega)
                          clear g5 g6
                          go_wp2_with fail
                          go_loop [56, 57] (fun b v => ∃ (k : Nat) (z : Int), k ≤ 16 ∧ v = .int .i64 k ∧ b = .int .i64 z ∧ nn ≤ z ∧ 0 ≤ z ∧ z ≤ (M : Int) * (M : Int) ∧ Hid (∀ u : Int, 1 ≤ u → u < (k : Int) → z ≤ latN M mu u)) (fun _ v => 16 - (intOf v).toNat)
                          case atStart => exact ⟨0, (M : Int) * (M : Int), by omega, rfl, rfl, by omega, hMM0, Int.le_refl _, fun u h1 h2 => by omega⟩
                          case round => as_aux_lemma =>
                            obtain ⟨k, z, hk, rfl, rfl, hnz, hz0, hzM, hall⟩ := hrel
                            by_cases hlt : k < 16
                            · have hlt' : (k : Int) ≤ 15 := by omega
                              obtain ⟨hak0, hak1⟩ := mul_in (a := (mu : Int)) (b := (k : Int)) (p := 201) (q := 15) (by omega) (by omega)
                              obtain ⟨r, hr⟩ : ∃ r, (mu : Int) * (k : Int) % (M : Int) = r := ⟨_, rfl⟩
                              have hr0 : 0 ≤ r ∧ r < (M : Int) := by rw [← hr]; exact ⟨Int.emod_nonneg _ (by omega), Int.emod_lt_of_pos _ (by omega)⟩
                              have hM0 : ¬ (M : Int) = 0 := by omega
                              obtain ⟨u, hu⟩ : ∃ u, (if (M : Int) - r < r then (M : Int) - r else r) = u := ⟨_, rfl⟩
                              have hu' : min r ((M : Int) - r) = u := by rw [← hu]; split <;> omega
                              have hu0 : 0 ≤ u ∧ u ≤ 201 := by rw [← hu]; split <;> omega
                              have hN : Hid (latN M mu k = u * u + (k : Int) * (k : Int)) := by
                                show _ = _
                                have e : latU M mu k = u := by
                                  unfold latU
                                  rw [hr, ← hu]
                                  by_cases c : r ≤ (M : Int) - r
                                  · rw [if_pos c, if_neg (by omega)]
                                  · rw [if_neg c, if_pos (by omega)]
                                rw [latN, e]
                              obtain ⟨huu0, huu1⟩ := mul_in (a := u) (b := u) (p := 201) (q := 201) hu0 hu0
                              obtain ⟨hkk0, hkk1⟩ := mul_in (a := (k : Int)) (b := (k : Int)) (p := 15) (q := 15) (by omega) (by omega)
                              by_cases hk0 : k = 0
                              · subst hk0
                                have hall0 : Hid (∀ u : Int, 1 ≤ u → u < (((0 : Nat) + 1 : Nat) : Int) → z ≤ latN M mu u) := fun u h1 h2 => by omega
                                clear hu hu' hN hr hall
                                go_wp2_with fail
                                go_round
                                case rel => exact ⟨1, z, by omega, by go_num, rfl, hnz, hz0, hzM, fun u h1 h2 => by omega⟩
                                case measure => simp only [intOf]; omega
                              · have hkne : ((k : Int) != 0) = true := by simp; omega
                                have hkne2 : ¬ (k : Int) = 0 := by omega
                                have hnk : nn ≤ u * u + (k : Int) * (k : Int) := by rw [← hN.out]; exact G5.out k (by omega)
                                obtain ⟨zz, hzz⟩ : ∃ zz, u * u + (k : Int) * (k : Int) = zz := ⟨_, rfl⟩
                                have hall2 : Hid (∀ v : Int, 1 ≤ v → v < ((k + 1 : Nat) : Int) → min z zz ≤ latN M mu v) := fun v h1 h2 => by
                                  by_cases e : v = (k : Int)
                                  · rw [e, hN.out, hzz]; omega
                                  · have := hall.out v h1 (by omega); omega
                                obtain ⟨z2, hz2⟩ : ∃ z2, min z zz = z2 := ⟨_, rfl⟩
                                rw [hz2] at hall2
                                have hz2' : (if zz < z then zz else z) = z2 := by rw [← hz2]; split <;> omega
                                have hz2b : nn ≤ z2 ∧ 0 ≤ z2 ∧ z2 ≤ (M : Int) * (M : Int) := by omega
                                clear hN hall
                                by_cases hu00 : u = 0
                                · have he0 : min z ((k : Int) * (k : Int)) = z2 := by rw [← hz2, ← hzz, hu00]; simp
                                  go_wp2_with fail
                                  go_round
                                  case rel => exact ⟨k + 1, z2, by omega, by go_num, rfl, hz2b.1, hz2b.2.1, hz2b.2.2, hall2⟩
                                  case measure => simp only [intOf]; omega
                                · go_wp2_with fail
                                  go_round
                                  case rel => exact ⟨k + 1, z2, by omega, by go_num, rfl, hz2b.1, hz2b.2.1, hz2b.2.2, hall2⟩
                                  case measure => simp only [intOf]; omega
                            · obtain rfl : k = 16 := by omega
                              have hend := Lib.hid (best_end (a := (mu : Int)) G6.out G4.out hnz hzM (fun u h1 h2 => hall.out u h1 h2))
                              clear hall G4 G5 G6
                              by_cases h225 : nn > 225
                              · go_wp2_with fail
                                go_ret
                                exact ⟨rfl, K.out.below⟩
                              · obtain rfl := hend.out (by omega)
                                go_wp2_with fail
                                go_ret
                                exact ⟨rfl, K.out.below⟩
end Go.Proofs.Ytlgpcojoonnlbaa
