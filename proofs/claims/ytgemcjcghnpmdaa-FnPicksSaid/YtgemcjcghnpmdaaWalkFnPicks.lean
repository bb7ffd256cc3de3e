/- The statement FnPicks, walked. -/
import Derived.Test.YtgemcjcghnpmdaaPkW
import Derived.Test.YtgemcjcghnpmdaaSplitI
import Derived.Test.YtgemcjcghnpmdaaAliasSeed
import Derived.Deep.DeepCutAuto
import Derived.StillTailTactics
import Derived.Deep.QuietTactic
import Derived.BigQuiet
namespace Go.Proofs.Ytgemcjcghnpmdaa
open Go.RowKit
attribute [local go_sem] run_store_float'
set_option maxRecDepth 100000 in
set_option maxHeartbeats 16000000 in
theorem walk_FnPicks (w : World) (A0 : Option Addr) (n0 c0 : Nat) (xs0 : List Int) (hr0 : Rd w w.heap.size A0 n0 (u8s xs0)) (hm0 : n0 ≤ maxLen) (hb0 : Bytes xs0)
    (A1 : Option Addr) (n1 c1 : Nat) (xs1 : List Int) (hr1 : Rd w w.heap.size A1 n1 (u8s xs1)) (hm1 : n1 ≤ maxLen) (hb1 : Bytes xs1) :
    Calls Try.prog 3 #[.slice A0 n0 c0, .slice A1 n1 c1] w fun e w' => e = .returned (.bool true) ∧ Below w.heap.size w w' := by
  have K := Lib.hid (((Kx.refl w).add hr0).add hr1)
  have Hb0 := Lib.hid hb0; have Hb1 := Lib.hid hb1
  clear hr0 hr1 hb0 hb1
  go_enter Try.func3, Try.ntmps3
  go_wp2_with fail
  refine (b10Long_any A0 A1 n0 c0 n1 c1 _ hm0 hm1).mono ?_
  rintro e w1 ⟨rfl, rfl⟩
  clear hm0 hm1
  by_cases hbig : 1048576 < n0 ∨ 1048576 < n1
  · rw [decide_eq_true hbig]
    go_wp2
    go_ret
    exact ⟨rfl, Below.refl _ _⟩
  · rw [decide_eq_false hbig]
    clear hbig
    go_wp2_with fail
    refine (b10Seed_v A0 n0 c0 w1.heap.size xs0 w1 (K.out.row (A0, n0, u8s xs0) (by simp)) Hb0.out (Nat.le_refl _)).mono ?_
    rintro e w2 ⟨sd, hsd, hvd, rfl, hb2⟩
    unfold Sd.val
    have Hsd := Lib.hid hsd
    have Hvd := Lib.hid hvd
    have K2 := Lib.hid ((K.out.next hb2).push (.cells #[.int .i64 sd.kind, .int .u64 sd.a, .int .u64 sd.b] 26))
    have hg0 : w1.heap.size ≤ w2.heap.size := hb2.size
    obtain ⟨g0, hgg⟩ : ∃ g0, w2.heap.size = g0 := ⟨_, rfl⟩
    clear K hb2 hsd hvd
    have K := K2
    clear K2
    go_wp2_with fail
    refine (b10At_b A1 n1 c1 _ xs1 0 12 _ (K.out.row (A1, n1, u8s xs1) (by simp)) Hb1.out (by omega) (by omega)).mono ?_
    rintro e w3 ⟨x0, rfl, hx0, hb3⟩
    rw [hgg] at K
    have K2 := Lib.hid (K.out.next hb3.out)
    obtain ⟨n, hn⟩ : ∃ n : Nat, (1 : Int) + (x0 : Int) = (n : Int) := ⟨1 + x0, by omega⟩
    have hn1 : 1 ≤ n ∧ n ≤ 12 := by omega
    clear K hb3 hx0 hgg
    have K := K2
    clear K2
    go_wp2_with fail
    refine (b10Picks_v A1 n1 c1 _ xs1 n _ (K.out.row (A1, n1, u8s xs1) (by simp)) Hb1.out (Nat.le_refl _) (by omega)).mono ?_
    rintro e w4 ⟨v4, ks, rfl, hO, hkl, hks, hb4⟩
    obtain ⟨A, c, rfl, hcl, hcm, hrd⟩ := Own.shapeV (n := n) hO (by rw [f32s_length, List.length_map]; exact hkl)
    have K2 := Lib.hid ((K.out.next hb4).add hrd)
    have Hkl := Lib.hid hkl
    have Hcap : Hid (n ≤ c ∧ c ≤ maxLen) := ⟨hcl, hcm⟩
    clear K hO hrd hb4 hkl hcl hcm
    have K := K2
    clear K2
    have Hp : Hid (picksB (ks.map wtF) = true) := picks_wt (by have := Hkl.out; omega) (by have := Hkl.out; omega) hks.out
    have Hst : Hid (ASok n (doneS (ks.map wtF))) := by
      have := (startS_ok Hp.out).run (ks.map wtF).length
      rw [List.length_map, Hkl.out] at this
      show ASok n (runS (ks.map wtF).length _)
      rw [List.length_map, Hkl.out]
      exact this
    obtain ⟨sh, hsh⟩ : ∃ sh, lastSh (doneS (ks.map wtF)) n = sh := ⟨_, rfl⟩
    obtain ⟨ot, hot⟩ : ∃ ot, (doneS (ks.map wtF)).ot = ot := ⟨_, rfl⟩
    have Hal : Hid (aliasR (ks.map wtF) = some (sh, ot)) := by
      show _ = _
      unfold aliasR
      rw [if_pos Hp.out, List.length_map, Hkl.out, hsh, hot]
    have Hav : Hid (aliasB sh ot = true) := by
      have := aliasR_valid Hp.out
      rw [List.length_map, Hkl.out, hsh, hot] at this
      exact this
    have Hshl : Hid (sh.length = n) := by show _ = _; rw [← hsh]; exact (lastSh_len _ _).trans Hst.out.sh
    have Hotl : Hid (ot.length = n) := by show _ = _; rw [← hot]; exact Hst.out.ot
    have Hoto : Hid (∀ (i : Nat) (y : Int), ot[i]? = some y → 0 ≤ y ∧ y < (n : Int)) := by rw [← hot]; exact Hst.out.oko
    obtain ⟨lo, hi, u0, hlh, hch, hu⟩ := alias_near (ks := ks) (by have := Hkl.out; omega) (by have := Hkl.out; omega) hks.out
    rw [Hkl.out, hsh] at hlh
    rw [Hkl.out, hot] at hch
    rw [Hkl.out] at hu
    have Hlh := Lib.hid hlh; have Hch := Lib.hid hch; have Hu := Lib.hid hu
    clear hsh hot hlh hch hu Hst
    go_wp2_with fail
    refine (implAliasOf A n c _ (ks.map wtF) _ (K.out.row (A, n, f32s (ks.map wtF)) (by simp)) (Nat.le_refl _) (by rw [List.length_map]; have := Hkl.out; omega) Hcap.out).mono ?_
    intro e w5 hgave
    obtain ⟨A5, A5', c5, c5', rfl, hr5, hr5', hb5⟩ := gaveAB_got hgave Hal.out Hshl.out Hotl.out
    have K2 := Lib.hid ((((K.out.next hb5).add hr5).add hr5').push (.cells #[.slice A5 n c5, .slice A5' n c5'] 33))
    obtain ⟨g8, hg8⟩ : ∃ g8, w5.heap.size = g8 := ⟨_, rfl⟩
    have hg08 : g0 < g8 := by have := (Array.getElem?_eq_some_iff.1 (K.out.blk (g0, _) (by simp; rfl))).1; have := hb5.size; simp only at *; omega
    clear K hgave hr5 hr5' hb5
    have K := K2
    clear K2
    rw [hg8] at K
    go_wp2_with fail
    refine (implPicks_any A n c _ (ks.map wtF) _ (K.out.row (A, n, f32s (ks.map wtF)) (by simp)) (by rw [List.length_map]; have := Hkl.out; omega)).mono ?_
    rintro e w6 ⟨rfl, hb6⟩
    rw [Hp.out]
    have K2 := Lib.hid (K.out.next hb6)
    clear K hb6
    have K := K2
    clear K2
    have ha8 : AlAt w6 g8 33 (.slice A5 n c5) (.slice A5' n c5') := K.out.blk (g8, _) (by simp)
    have q0 := ha8.c0
    have q1 := ha8.c1
    clear ha8
    go_wp2_with fail
    refine (implAlias_any A5 n c5 A5' n c5' _ sh ot _ (K.out.row (A5, n, f32s sh) (by simp)) (K.out.row (A5', n, i64s ot) (by simp)) (Nat.le_refl _) (by omega) (by omega)).mono ?_
    rintro e w7 ⟨rfl, hb7⟩
    rw [Hav.out]
    have K2 := Lib.hid (K.out.next hb7)
    clear K hb7 q0 q1
    have K := K2
    clear K2
    have ha8 : AlAt w7 g8 33 (.slice A5 n c5) (.slice A5' n c5') := K.out.blk (g8, _) (by simp)
    have q0 := ha8.c0
    have q1 := ha8.c1
    clear ha8
    go_wp2_with fail
    refine (specAlias_any A5 n c5 A5' n c5' _ sh ot _ (K.out.row (A5, n, f32s sh) (by simp)) (K.out.row (A5', n, i64s ot) (by simp)) (Nat.le_refl _) (by omega) (by omega)).mono ?_
    rintro e w8 ⟨rfl, hb8⟩
    rw [Hav.out]
    have K2 := Lib.hid (K.out.next hb8)
    clear K hb8 q0 q1
    have K := K2
    clear K2
    have ha8 : AlAt w8 g8 33 (.slice A5 n c5) (.slice A5' n c5') := K.out.blk (g8, _) (by simp)
    have q0 := ha8.c0
    have q1 := ha8.c1
    clear ha8
    have hmk := fun w => run_make_row' (P := Try.prog) 39 38 (.float .f64 0) 8 Try.underlying39 info_f64 rfl .i64 .i64 n (by omega) (by omega) w
    go_wp2
    have hmade : (w8.alloc (.cells (madeCells #[.float .f64 0] n) 38)).ownsRow w8.heap.size 38 1 (.slice (some ⟨w8.heap.size, 0, none⟩) n n) n (f64s (List.replicate n 0)) := by
      have := own_made' w8 (.float .f64 0) n w8.heap.size 38 (Nat.le_refl _) (by unfold maxLen; omega)
      simpa [f64s] using this
    have Hmade := Lib.hid hmade
    have hbA : Hid (Below w8.heap.size w8 (w8.alloc (.cells (madeCells #[.float .f64 0] n) 38))) := (Below.refl _ _).alloc (Nat.le_refl _) _
    obtain ⟨gC, hgC⟩ : ∃ gC, w8.heap.size = gC := ⟨_, rfl⟩
    rw [hgC] at Hmade hbA
    clear hmade hmk
    generalize w8.alloc (.cells (madeCells #[.float .f64 0] n) 38) = w9 at Hmade hbA ⊢
    rw [hgC]
    have HgC := Lib.hid hgC
    clear hgC
    go_wp2
    go_loopw [10, 100] (fun q i wr => ∃ (k y : Nat) (cs : List Nat), k ≤ n ∧ q = .float .f64 y ∧ i = .int .i64 k ∧ Hid (In .f64 (65536 * sumTo k (fun j => (ks.getD j 0 : Int))) (65536 * sumTo k (fun j => (ks.getD j 0 : Int))) y) ∧ Hid (cs.length = n) ∧ Hid (∀ i, i < n → In .f64 (chLo lo hi (fun j => ot.getD j 0) k i) (chLo hi lo (fun j => ot.getD j 0) k i) (cs.getD i 0)) ∧ Hid (wr.ownsRow gC 38 1 (.slice (some ⟨gC, 0, none⟩) n n) n (f64s cs)) ∧ Hid (Below gC w8 wr)) (fun _ i _ => n - (intOf i).toNat)
    case atStart => exact ⟨0, 0, List.replicate n 0, Nat.zero_le _, rfl, rfl, zero64_In, (by show _ = _; simp), (fun i hi => by rw [List.getD_eq_getElem?_getD, List.getElem?_replicate, if_pos hi]; exact zero64_In), Hmade, hbA⟩
    case round =>
      obtain ⟨k, y, cs, hk, rfl, rfl, hy, hcl, hcs, hO, hB⟩ := hrel
      have KR := Lib.hid (K.out.next (by rw [HgC.out]; exact hB.out))
      by_cases hlt : k < n
      · have hlt' : (k : Int) < (n : Int) := by omega
        --HB
        obtain ⟨kk, hkk⟩ : ∃ kk, ks[k]? = some kk := ⟨_, List.getElem?_eq_getElem (by have := Hkl.out; omega)⟩
        have hkr := hks.out kk (List.mem_of_getElem? hkk)
        have hkd : ks.getD k 0 = kk := getD_get hkk
        have hR := (KR.out.row (A, n, f32s (ks.map wtF)) (by simp))
        obtain ⟨b, off, x, hA, _, hx, hcx⟩ := hR.atF (k := k) hlt
        have hA' : A = some ⟨b, off, none⟩ := hA
        obtain rfl : x = wtF kk := by have := hx.out; rw [List.getElem?_map, hkk] at this; simpa using this.symm
        have ix := wt_In hkr.2
        have hsum0 : 0 ≤ sumTo k (fun j => (ks.getD j 0 : Int)) := by have := sumTo_le (n := k) (f := fun _ => 0) (g := fun j => (ks.getD j 0 : Int)) (fun j _ => by omega); rw [sumTo_const] at this; omega
        have hsum1 : sumTo k (fun j => (ks.getD j 0 : Int)) ≤ k * 16 := by
          have := sumTo_le (n := k) (f := fun j => (ks.getD j 0 : Int)) (g := fun _ => 16) (fun j hj => by
            have e : ks[j]? = some (ks[j]'(by have := Hkl.out; omega)) := List.getElem?_eq_getElem _
            rw [getD_get e]
            have := hks.out _ (List.getElem_mem (by have := Hkl.out; omega : j < ks.length))
            omega)
          rw [sumTo_const] at this
          exact this
        have iy := hy.out.add (ix.widen (by unfold lim; omega) (by unfold lim; omega)) (by unfold lim; omega) (by unfold lim; omega)
        have hsumS : sumTo (k + 1) (fun j => (ks.getD j 0 : Int)) = sumTo k (fun j => (ks.getD j 0 : Int)) + (kk : Int) := by rw [← hkd]; rfl
        obtain ⟨y2, hy2⟩ : ∃ y2, fop .add .f64 y (widen (wtF kk)) = y2 := ⟨_, rfl⟩
        rw [hy2] at iy
        have Iy : Hid (In .f64 (65536 * sumTo (k + 1) (fun j => (ks.getD j 0 : Int))) (65536 * sumTo (k + 1) (fun j => (ks.getD j 0 : Int))) y2) := by show In _ _ _ _; rw [hsumS, Int.mul_add]; exact iy
        have hyn := iy.num
        have hcv := fun w => run_widen_num (P := Try.prog) 40 38 rfl Try.underlying38 w (wtF kk) ix.num
        have hadd := fun (t : TypeId) (w : World) => run_fop_num2 (P := Try.prog) hy2 hyn t w
        obtain ⟨s, hs⟩ : ∃ s, sh[k]? = some s := ⟨_, List.getElem?_eq_getElem (by have := Hshl.out; omega)⟩
        obtain ⟨oz, hoz⟩ : ∃ oz, ot[k]? = some oz := ⟨_, List.getElem?_eq_getElem (by have := Hotl.out; omega)⟩
        have hozr := Hoto.out k oz hoz
        obtain ⟨o, ho⟩ : ∃ o : Nat, oz = (o : Int) := ⟨oz.toNat, by omega⟩
        subst ho
        have hon : o < n := by omega
        have hon' : (o : Int) < (n : Int) := by omega
        have is := Hlh.out k hlt
        rw [getD_get hs] at is
        have is64 := is.1.widen (by unfold lim; omega) (by unfold lim; omega)
        have hlo : ∀ j, j < n → -1000 ≤ lo j ∧ lo j ≤ 262145 := fun j hj => by have := Hlh.out j hj; omega
        have hhi : ∀ j, j < n → -1000 ≤ hi j ∧ hi j ≤ 262145 := fun j hj => by have := Hlh.out j hj; omega
        obtain ⟨d1, d2, d3, e1, n1_, e2, n2_, e3, n3_, hnew⟩ := cs_step (o := o) hcl.out hlt hon hcs.out is64 (fun i hi_ => by
          have b1 := chLo_bd (ot := fun j => ot.getD j 0) hlo hhi i k hk
          have b2 := chLo_bd (ot := fun j => ot.getD j 0) hhi hlo i k hk
          omega) (by omega)
        have hod : ot.getD k 0 = (o : Int) := getD_get hoz
        have Hnew : Hid (∀ i, i < n → In .f64 (chLo lo hi (fun j => ot.getD j 0) (k + 1) i) (chLo hi lo (fun j => ot.getD j 0) (k + 1) i) (((cs.set k d1).set o d3).getD i 0)) := fun i hi_ => by
          rw [chLo_step, chLo_step]
          have := hnew.out i hi_
          simp only [hod]
          exact this
        have hcv2 := fun w => run_widen_num (P := Try.prog) 40 38 rfl Try.underlying38 w s is.1.num
        have hadd1 := fun (t : TypeId) (w : World) => run_fop_num2 (P := Try.prog) e1 n1_ t w
        have hadd2 := fun (t : TypeId) (w : World) => run_fop_num2 (P := Try.prog) e2 n2_ t w
        have hadd3 := fun (t : TypeId) (w : World) => run_fop_num2 (P := Try.prog) e3 n3_ t w
        obtain ⟨u1, hu1⟩ : ∃ u1, cs.getD k 0 = u1 := ⟨_, rfl⟩
        obtain ⟨u2, hu2⟩ : ∃ u2, (cs.set k d1).getD o 0 = u2 := ⟨_, rfl⟩
        rw [hu1] at hadd1
        rw [hu2] at hadd3
        have hck : wr.cell? ⟨gC, k, none⟩ = some (.float .f64 u1) := (hO.out.cellAt k (by omega)).trans (f64s_get (by rw [← hu1]; exact (List.getElem?_eq_getElem (by have := hcl.out; omega)).trans (by rw [List.getD_eq_getElem?_getD, List.getElem?_eq_getElem (by have := hcl.out; omega)]; rfl)))
        have hfk := hO.out.frozenAt k
        have ha8 : AlAt wr g8 33 (.slice A5 n c5) (.slice A5' n c5') := KR.out.blk (g8, _) (by simp)
        have q0 := ha8.c0
        have q1 := ha8.c1
        have hR5 := (KR.out.row (A5, n, f32s sh) (by simp))
        obtain ⟨b5, off5, s', hA5, _, hs', hcs5⟩ := hR5.atF (k := k) hlt
        obtain rfl : s' = s := by have := hs'.out.symm.trans hs; simpa using this
        have hA5' : A5 = some ⟨b5, off5, none⟩ := hA5
        have Hs := Lib.hid hs
        have Hoz := Lib.hid hoz
        have Hcl := hcl
        have hst := hO.out.stored k (.float .f64 d1)
        rw [f64s_set] at hst
        have HO2 : Hid ((wr.setCell ⟨gC, k, none⟩ (.float .f64 d1)).drew.ownsRow gC 38 1 (.slice (some ⟨gC, 0, none⟩) n n) n (f64s (cs.set k d1))) := hst.1
        have HB2 : Hid (Below gC w8 (wr.setCell ⟨gC, k, none⟩ (.float .f64 d1)).drew) := (hB.out.setCell (p := ⟨gC, k, none⟩) (Nat.le_refl _) _).drew
        clear hx hA hR hR5 hA5 hs hs' hoz hozr is is64 hlo hhi hnew hkk hkd ix iy hyn hsum0 hsum1 hsumS ha8 hst hcs e1 e2 e3 n1_ n2_ n3_ hu1 hy2 hcl
        subst hA' hA5'
        go_wp2_with fail
        go_still_tail 12, (by kernel_rfl)
        change wpList _ _ _ _ _ wr.drew
        go_wp2_with fail
        generalize (wr.setCell ⟨gC, k, none⟩ (.float .f64 d1)).drew = wB at HO2 HB2 ⊢
        clear hck hfk q0 q1 KR hO hB hcx hcs5
        have KR := Lib.hid (K.out.next (by rw [HgC.out]; exact HB2.out))
        have hck : wB.cell? ⟨gC, o, none⟩ = some (.float .f64 u2) := (HO2.out.cellAt o (by omega)).trans (f64s_get (by rw [← hu2]; exact (List.getElem?_eq_getElem (by rw [List.length_set]; have := Hcl.out; omega)).trans (by rw [List.getD_eq_getElem?_getD, List.getElem?_eq_getElem (by rw [List.length_set]; have := Hcl.out; omega)]; rfl)))
        have hfk := HO2.out.frozenAt o
        have ha8 : AlAt wB g8 33 (.slice (some ⟨b5, off5, none⟩) n c5) (.slice A5' n c5') := KR.out.blk (g8, _) (by simp)
        have q0 := ha8.c0
        have q1 := ha8.c1
        obtain ⟨bb, ff, s'', hA5, _, hs', hcs5⟩ := (KR.out.row (some ⟨b5, off5, none⟩, n, f32s sh) (by simp)).atF (k := k) hlt
        obtain rfl : s'' = s' := by have := hs'.out.symm.trans Hs.out; simpa using this
        obtain ⟨rfl, rfl⟩ : b5 = bb ∧ off5 = ff := by injection hA5 with e; injection e with e1 e2; exact ⟨e1, e2⟩
        obtain ⟨b6, off6, o', hA6, _, ho', hco⟩ := (KR.out.row (A5', n, i64s ot) (by simp)).atI (k := k) hlt
        obtain rfl : o' = (o : Int) := by have := ho'.out.symm.trans Hoz.out; simpa using this
        have hA6' : A5' = some ⟨b6, off6, none⟩ := hA6
        have hst := HO2.out.stored o (.float .f64 d3)
        rw [f64s_set] at hst
        have HO3 : Hid ((wB.setCell ⟨gC, o, none⟩ (.float .f64 d3)).drew.ownsRow gC 38 1 (.slice (some ⟨gC, 0, none⟩) n n) n (f64s ((cs.set k d1).set o d3))) := hst.1
        have HB3 : Hid (Below gC w8 (wB.setCell ⟨gC, o, none⟩ (.float .f64 d3)).drew) := (HB2.out.setCell (p := ⟨gC, o, none⟩) (Nat.le_refl _) _).drew
        clear ha8 hA5 hs' hA6 ho' hst hu2
        subst hA6'
        go_still_tail 17, (by kernel_rfl)
        change wpList _ _ _ _ _ wB.drew
        go_wp2_with fail
        go_roundw
        case rel => exact ⟨k + 1, y2, (cs.set k d1).set o d3, by omega, rfl, by go_num, Iy, (by show _ = _; rw [List.length_set, List.length_set]; exact Hcl.out), Hnew, HO3, HB3⟩
        case measure => simp only [intOf]; omega
        --HE
      · obtain rfl : k = n := by omega
        have HS1 : Hid (1 ≤ sumL ks ∧ sumL ks ≤ 192) := ⟨sumL_pos (by have := Hkl.out; omega) hks.out, sumL_le (by have := Hkl.out; omega) hks.out⟩
        have Hy : Hid (In .f64 (65536 * (sumL ks : Int)) (65536 * (sumL ks : Int)) y) := by
          have := hy.out
          have e := sumL_to ks
          rw [Hkl.out] at e
          rw [← e] at this
          exact this
        have Hkb : Hid (∀ j, j < k → (ks.getD j 0 : Int) ≤ (sumL ks : Int)) := fun j hj => by
          have e := sumL_to ks
          rw [Hkl.out] at e
          rw [e]
          have := sumTo_up (f := fun j => (ks.getD j 0 : Int)) (c := 0) hj (fun j _ => by omega) (by omega)
          simpa using this
        clear K hy hB HgC Hmade hbA
        have K := KR
        clear KR
        go_wp2
        go_loopw [142] (fun i wq => ∃ (j q : Nat), j ≤ k ∧ i = .int .i64 j ∧ wq = wr.drewN q) (fun i _ => k - (intOf i).toNat)
        case atStart => exact ⟨0, 0, Nat.zero_le _, rfl, rfl⟩
        case round =>
          obtain ⟨j, q, hj, rfl, rfl⟩ := hrel
          by_cases hlt2 : j < k
          · have hlt' : (j : Int) < (k : Int) := by omega
            --HB
            obtain ⟨kk, hkk⟩ : ∃ kk, ks[j]? = some kk := ⟨_, List.getElem?_eq_getElem (by have := Hkl.out; omega)⟩
            have hkr := hks.out kk (List.mem_of_getElem? hkk)
            have hkd : ks.getD j 0 = kk := getD_get hkk
            have hkb := Hkb.out j hlt2
            rw [hkd] at hkb
            have hR := (K.out.row (A, k, f32s (ks.map wtF)) (by simp))
            obtain ⟨b, off, x, hA, _, hx, hcx⟩ := hR.atF (k := j) hlt2
            have hA' : A = some ⟨b, off, none⟩ := hA
            obtain rfl : x = wtF kk := by have := hx.out; rw [List.getElem?_map, hkk] at this; simpa using this.symm
            have ix := wt_In hkr.2
            have ix64 := ix.widen (by unfold lim; omega) (by unfold lim; omega)
            obtain ⟨u1, hu1⟩ : ∃ u1, cs.getD j 0 = u1 := ⟨_, rfl⟩
            have hch := Hch.out j hlt2
            have hcc := hcs.out j hlt2
            have huu := Hu.out j hlt2
            rw [hkd] at huu
            rw [hu1] at hcc
            obtain ⟨z1, z2, z3, z4, z5⟩ := near_gap hn1.1 hn1.2 (k := (kk : Int)) (S := (sumL ks : Int)) (by omega) (by have := HS1.out; omega) hkb hcc hch.1 hch.2 ix64 Hy.out (nf_In (by omega)) huu.1 huu.2
            obtain ⟨p1, hp1⟩ : ∃ p1, fop .quo .f64 u1 (floatOfInt .f64 (k : Int)) = p1 := ⟨_, rfl⟩
            obtain ⟨p2, hp2⟩ : ∃ p2, fop .quo .f64 (widen (wtF kk)) y = p2 := ⟨_, rfl⟩
            rw [hp1] at z1 z3 z4 z5
            rw [hp2] at z2 z3 z4 z5
            have hgap := gap_small z5
            have hcv := fun w => run_widen_num (P := Try.prog) 40 38 rfl Try.underlying38 w (wtF kk) ix.num
            have hq1 := fun (t : TypeId) (w : World) => run_fop_num2 (P := Try.prog) hp1 z1 t w
            have hq2 := fun (t : TypeId) (w : World) => run_fop_num2 (P := Try.prog) hp2 z2 t w
            have hck : wr.cell? ⟨gC, j, none⟩ = some (.float .f64 u1) := (hO.out.cellAt j (by omega)).trans (f64s_get (by rw [← hu1]; exact (List.getElem?_eq_getElem (by have := hcl.out; omega)).trans (by rw [List.getD_eq_getElem?_getD, List.getElem?_eq_getElem (by have := hcl.out; omega)]; rfl)))
            have hn0 : (k : Int) ≠ 0 := by omega
            clear hR hA hx hkk hkd hkb ix ix64 hu1 hch hcc huu z1 z2 z5 hp1 hp2 hkr
            subst hA'
            go_wp2_with fail
            go_quiet ((go_at_call 12; exact quiet_add (b10Gap_q _ _ _ z3 z4)))
            go_wp2
            go_roundw
            case rel => exact ⟨j + 1, _, by omega, by go_num, rfl⟩
            case measure => simp only [intOf]; omega
            --HE
          · obtain rfl : k = j := by omega
            have K2 := Lib.hid (K.out.drewN q)
            generalize wr.drewN q = wA at K2 ⊢
            clear K hO hcl hcs Hch Hu Hlh Hy Hkb HS1 hlt hlt2
            have K := K2
            clear K2
            --MIDDLE
            have hs : SeedAt _ g0 sd := K.out.blk (g0, _) (by simp)
            have f0 := hs.c0
            have f1 := hs.c1
            have f2 := hs.c2
            clear hs
            go_wp2_with fail
            refine (implPickSeed_any sd.kind sd.a sd.b A k c _ (ks.map wtF) _ Hsd.out (K.out.row (A, k, f32s (ks.map wtF)) (by simp)) (Nat.le_refl _) (by rw [List.length_map]; have := Hkl.out; omega) Hcap.out).mono ?_
            intro e wB hg
            obtain ⟨sp, xp, okp, rfl, Np, hb⟩ := gaveSNB_names hg
            have K2 := Lib.hid ((K.out.next hb.out).push (.cells #[.int .i64 sp.kind, .int .u64 sp.a, .int .u64 sp.b] 26))
            obtain ⟨gAp, hgAp⟩ : ∃ g, wB.heap.size = g := ⟨_, rfl⟩
            rw [hgAp] at K2
            clear K hg hb f0 f1 f2
            have K := K2
            clear K2
            obtain rfl : okp = true := by
              have := Np.out.1
              unfold pickSeed at this
              rw [show validB ⟨sd.kind, sd.a, sd.b⟩ = true from Hvd.out, Hp.out] at this
              simpa using this
            have hs : SeedAt _ g0 sd := K.out.blk (g0, _) (by simp)
            have f0 := hs.c0
            have f1 := hs.c1
            have f2 := hs.c2
            clear hs
            go_wp2_with fail
            clear hgAp
            refine (specPickSeed_any sd.kind sd.a sd.b A k c _ (ks.map wtF) _ Hsd.out (K.out.row (A, k, f32s (ks.map wtF)) (by simp)) (Nat.le_refl _) (by rw [List.length_map]; have := Hkl.out; omega) Hcap.out).mono ?_
            intro e wC hg
            obtain ⟨rfl, hb⟩ := gaveSNB_same hg Np
            have K2 := Lib.hid ((K.out.next hb.out).push (.cells #[.int .i64 sp.kind, .int .u64 sp.a, .int .u64 sp.b] 26))
            obtain ⟨gBp, hgBp⟩ : ∃ g, wC.heap.size = g := ⟨_, rfl⟩
            rw [hgBp] at K2
            clear K hg hb f0 f1 f2
            have K := K2
            clear K2
            have hs : SeedAt _ g0 sd := K.out.blk (g0, _) (by simp)
            have f0 := hs.c0
            have f1 := hs.c1
            have f2 := hs.c2
            clear hs
            have ha8 : AlAt _ g8 33 (.slice A5 k c5) (.slice A5' k c5') := K.out.blk (g8, _) (by simp)
            have q0 := ha8.c0
            have q1 := ha8.c1
            clear ha8
            go_wp2_with fail
            clear hgBp
            refine (implAliasSeed_any sd.kind sd.a sd.b A5 k c5 A5' k c5' _ sh ot _ Hsd.out (K.out.row (A5, k, f32s sh) (by simp)) (K.out.row (A5', k, i64s ot) (by simp)) (Nat.le_refl _) (by omega) (by omega)).mono ?_
            intro e wD hg
            obtain ⟨sa, xa, oka, rfl, Na, hb⟩ := gaveSNB_names hg
            have K2 := Lib.hid ((K.out.next hb.out).push (.cells #[.int .i64 sa.kind, .int .u64 sa.a, .int .u64 sa.b] 26))
            obtain ⟨gAa, hgAa⟩ : ∃ g, wD.heap.size = g := ⟨_, rfl⟩
            rw [hgAa] at K2
            clear K hg hb f0 f1 f2 q0 q1
            have K := K2
            clear K2
            have hs : SeedAt _ g0 sd := K.out.blk (g0, _) (by simp)
            have f0 := hs.c0
            have f1 := hs.c1
            have f2 := hs.c2
            clear hs
            have ha8 : AlAt _ g8 33 (.slice A5 k c5) (.slice A5' k c5') := K.out.blk (g8, _) (by simp)
            have q0 := ha8.c0
            have q1 := ha8.c1
            clear ha8
            go_wp2_with fail
            clear hgAa
            refine (specAliasSeed_any sd.kind sd.a sd.b A5 k c5 A5' k c5' _ sh ot _ Hsd.out (K.out.row (A5, k, f32s sh) (by simp)) (K.out.row (A5', k, i64s ot) (by simp)) (Nat.le_refl _) (by omega) (by omega)).mono ?_
            intro e wE hg
            obtain ⟨rfl, hb⟩ := gaveSNB_same hg Na
            have K2 := Lib.hid ((K.out.next hb.out).push (.cells #[.int .i64 sa.kind, .int .u64 sa.a, .int .u64 sa.b] 26))
            obtain ⟨gBa, hgBa⟩ : ∃ g, wE.heap.size = g := ⟨_, rfl⟩
            rw [hgBa] at K2
            clear K hg hb f0 f1 f2 q0 q1
            have K := K2
            clear K2
            go_wp2_with fail
            clear hgBa
            refine (b10At_b A1 n1 c1 _ xs1 1 60 _ (K.out.row (A1, n1, u8s xs1) (by simp)) Hb1.out (by omega) (by omega)).mono ?_
            rintro e wF ⟨m, rfl, hm, hb⟩
            have K2 := Lib.hid (K.out.next hb.out)
            clear K hb
            have K := K2
            clear K2
            have hs : SeedAt _ g0 sd := K.out.blk (g0, _) (by simp)
            have f0 := hs.c0
            have f1 := hs.c1
            have f2 := hs.c2
            clear hs
            go_wp2_with fail
            refine (implSplit sd.kind sd.a sd.b (m : Int) A k c _ (ks.map wtF) _ Hsd.out (by omega) (K.out.row (A, k, f32s (ks.map wtF)) (by simp)) (Nat.le_refl _) (by rw [List.length_map]; have := Hkl.out; omega) Hcap.out).mono ?_
            intro e wG hg
            obtain ⟨ss, ls, Bs, ds, oks, rfl, Ns, hrd, hb⟩ := gaveSLB_names hg
            have K2 := Lib.hid (((K.out.next hb.out).add hrd.out).push (.cells #[.int .i64 ss.kind, .int .u64 ss.a, .int .u64 ss.b] 26))
            obtain ⟨gAs, hgAs⟩ : ∃ g, wG.heap.size = g := ⟨_, rfl⟩
            rw [hgAs] at K2
            clear K hg hb f0 f1 f2 hrd
            have K := K2
            clear K2
            have hs : SeedAt _ g0 sd := K.out.blk (g0, _) (by simp)
            have f0 := hs.c0
            have f1 := hs.c1
            have f2 := hs.c2
            clear hs
            go_wp2_with fail
            clear hgAs
            refine (specSplit sd.kind sd.a sd.b (m : Int) A k c _ (ks.map wtF) _ Hsd.out (by omega) (K.out.row (A, k, f32s (ks.map wtF)) (by simp)) (Nat.le_refl _) (by rw [List.length_map]; have := Hkl.out; omega) Hcap.out).mono ?_
            intro e wH hg
            obtain ⟨Cs, es, rfl, hrd, hb⟩ := gaveSLB_same hg Ns
            have K2 := Lib.hid (((K.out.next hb.out).add hrd.out).push (.cells #[.int .i64 ss.kind, .int .u64 ss.a, .int .u64 ss.b] 26))
            obtain ⟨gBs, hgBs⟩ : ∃ g, wH.heap.size = g := ⟨_, rfl⟩
            rw [hgBs] at K2
            clear K hg hb f0 f1 f2 hrd
            have K := K2
            clear K2
            have hA : SeedAt _ gAp sp := K.out.blk (gAp, _) (by simp)
            have a0 := hA.c0
            have a1 := hA.c1
            have a2 := hA.c2
            have hB : SeedAt _ gBp sp := K.out.blk (gBp, _) (by simp)
            have b0 := hB.c0
            have b1 := hB.c1
            have b2 := hB.c2
            clear hA hB
            have d0 : (sp.kind != sp.kind) = false := by simp
            have d1 : (sp.a != sp.a) = false := by simp
            have d2 : (sp.b != sp.b) = false := by simp
            have d3 : (xp != xp) = false := by simp
            have d4 : (xa != xa) = false := by simp
            have d5 : (oka != oka) = false := by simp
            have d6 : (oks != oks) = false := by simp
            have HL : Hid ((oks = true → splitR ⟨sd.kind, sd.a, sd.b⟩ (m : Int) (ks.map wtF) = some (ss, ls)) ∧ (oks = false → ls = [])) := names_L Ns
            have Hsl : Hid (ls.length ≤ 12 ∧ Upto ls 1000 ∧ (oks = true → sumI ls = (m : Int))) := by
              cases oks with
              | false => rw [HL.out.2 rfl]; exact ⟨by simp, fun i x hx => by simp at hx, fun e => by cases e⟩
              | true =>
                have h := splitR_sum (HL.out.1 rfl)
                exact ⟨by rw [h.2.2, List.length_map, Hkl.out]; exact hn1.2, splitR_upto (HL.out.1 rfl), fun _ => h.1⟩
            clear HL Ns Np Na
            go_upto_region 31 with fail
            clear hgBs
            generalize (wH.alloc (.cells #[.int .i64 ss.kind, .int .u64 ss.a, .int .u64 ss.b] 26)) = wZ at K a0 a1 a2 b0 b1 b2 ⊢
            go_cut [243] from 208 to 243 (fun s wx => s = .bool false ∧ ∃ q, wx = wZ.drewN q)
            case first =>
              cases oks with
              | false =>
                go_wp2_with fail
                go_meet
                case rel => exact ⟨rfl, 0, rfl⟩
              | true =>
                go_wp2_with fail
                refine (b10Ints_same Bs Cs ls.length ls.length ds es _ _ ls _ (K.out.row (Bs, ls.length, i64s ls) (by simp)) (K.out.row (Cs, ls.length, i64s ls) (by simp)) (by have := Hsl.out.1; unfold maxLen; omega)).mono ?_
                rintro e wx ⟨rfl, q, rfl⟩
                go_wp2_with fail
                go_meet
                case rel => exact ⟨rfl, q, rfl⟩
            case rest =>
              obtain ⟨rfl, q2, rfl⟩ := hcut
              have K2 := Lib.hid (K.out.drewN q2)
              generalize wZ.drewN q2 = wY at K2 ⊢
              clear K a0 a1 a2 b0 b1 b2 d0 d1 d2 d3 d4 d5 d6
              have K := K2
              clear K2
              go_wp2_with fail
              go_loop [33, 246] (fun v i => ∃ j : Nat, j ≤ ls.length ∧ i = .int .i64 j ∧ v = .int .i64 (sumI (ls.take j))) (fun _ i => ls.length - (intOf i).toNat)
              case atStart => exact ⟨0, Nat.zero_le _, rfl, rfl⟩
              case round =>
                obtain ⟨j, hj, rfl, rfl⟩ := hrel
                by_cases hlt : j < ls.length
                · have hlt' : (j : Int) < (ls.length : Int) := by omega
                  obtain ⟨b, off, x, hA, _, hx, hcx⟩ := (K.out.row (Bs, ls.length, i64s ls) (by simp)).atI (k := j) hlt
                  have hA' : Bs = some ⟨b, off, none⟩ := hA
                  have hn : sumI (ls.take (j + 1)) = sumI (ls.take j) + x := by rw [take_succ_of hx.out, sumI_snoc]
                  have hb1 := sumI_bd Hsl.out.2.1 (by omega) j
                  have hb2 := Hsl.out.2.1 j x hx.out
                  have hl12 := Hsl.out.1
                  obtain ⟨a, ha⟩ : ∃ a, sumI (ls.take j) = a := ⟨_, rfl⟩
                  rw [ha] at hb1 hn ⊢
                  have Hn := Lib.hid hn
                  clear hn ha hx hA
                  subst hA'
                  go_wp2_with fail
                  go_round
                  case rel => exact ⟨j + 1, by omega, by go_num, by rw [Hn.out]⟩
                  case measure => simp only [intOf]; omega
                · obtain rfl : j = ls.length := by omega
                  rw [List.take_length]
                  obtain ⟨a, ha⟩ : ∃ a, sumI ls = a := ⟨_, rfl⟩
                  have Ha := Lib.hid ha
                  rw [ha]
                  clear ha
                  go_upto_region 39 with fail
                  go_cut [261] from 256 to 261 (fun s wx => s = .bool false ∧ wx = wY)
                  case first =>
                    cases oks with
                    | false =>
                      go_wp2_with fail
                      go_meet
                      case rel => exact ⟨rfl, rfl⟩
                    | true =>
                      obtain rfl : a = (m : Int) := Ha.out.symm.trans (Hsl.out.2.2 rfl)
                      have hne : ((m : Int) != (m : Int)) = false := by simp
                      go_wp2_with fail
                      go_meet
                      case rel => exact ⟨rfl, rfl⟩
                  case rest =>
                    obtain ⟨rfl, rfl⟩ := hcut
                    clear Ha Hsl
                    go_wp2_with fail
                    go_loopw [35, 36] (fun v i wr => ∃ (j : Nat) (xs : List Int), j ≤ k ∧ i = .int .i64 j ∧ Hid (xs.length = j) ∧ Hid (∀ x ∈ xs, 0 ≤ x ∧ x < 20) ∧ Own wr wc.heap.size 2 v (i64s xs) ∧ Below wc.heap.size wc wr) (fun _ i _ => k - (intOf i).toNat)
                    case atStart => exact ⟨0, [], Nat.zero_le _, rfl, rfl, (fun x hx => by simp at hx), own_new wc _ (Nat.le_refl _), (Below.refl _ _).alloc (Nat.le_refl _) _⟩
                    case round =>
                      obtain ⟨j, xs, hj, rfl, hxl, hxb, hO, hB⟩ := hrel
                      have KR := Lib.hid (K.out.next hB)
                      have HO := Lib.hid hO; have HB := Lib.hid hB
                      clear hO hB
                      by_cases hlt2 : j < k
                      · have hlt' : (j : Int) < (k : Int) := by omega
                        go_wp2_with fail
                        refine (b10At_b A0 n0 c0 _ xs0 (j : Int) 20 _ (KR.out.row (A0, n0, u8s xs0) (by simp)) Hb0.out (by omega) (by omega)).mono ?_
                        rintro e wq ⟨y, rfl, hy, hb⟩
                        have HO2 := Lib.hid (HO.out.below hb.out (Nat.le_refl _))
                        have HB2 := Lib.hid (HB.out.trans (hb.out.mono HB.out.size))
                        have hsz := HB2.out.size
                        clear HO HB KR hb
                        go_wp2_with (at_builtin; go_must (refine emitI wq rfl _ _ rfl wc.heap.size u35 xs rfl HO2.out (y : Int) rfl ?c1 hsz ?_))
                        case c1 => rw [hxl.out]; omega
                        intro v' w3 hO' hg hor
                        have HO' := Lib.hid hO'
                        have HB' := Lib.hid (below_ownGrown HB2.out HO2.out hg (Nat.le_refl _) (Nat.le_refl _))
                        have hxl2 : Hid ((xs ++ [(y : Int)]).length = j + 1) := by show _ = _; rw [List.length_append, hxl.out]; rfl
                        have hxb2 : Hid (∀ x ∈ xs ++ [(y : Int)], 0 ≤ x ∧ x < 20) := fun x hx => by
                          rcases List.mem_append.1 hx with h | h
                          · exact hxb.out x h
                          · rw [List.mem_singleton.1 h]; omega
                        clear hO' hg hor
                        go_wp2
                        go_roundw
                        case rel => exact ⟨j + 1, xs ++ [(y : Int)], by omega, by go_num, hxl2, hxb2, HO'.out, HB'.out⟩
                        case measure => simp only [intOf]; omega
                      · obtain rfl : k = j := by omega
                        obtain ⟨A9, c9, rfl, hcl9, hcm9, hrd9⟩ := Own.shapeV (n := k) HO.out (by rw [i64s_length]; exact hxl.out)
                        have K2 := Lib.hid (KR.out.add hrd9)
                        have Hc9 : Hid (k ≤ c9 ∧ c9 ≤ maxLen) := ⟨hcl9, hcm9⟩
                        clear K KR HO HB hrd9 hcl9 hcm9 hlt2 hlt
                        have K := K2
                        clear K2
                        have Haw : Hid (areW xs = true) := areW_mk (by have := hxl.out; omega) (by have := hxl.out; omega) (fun x hx => by have := hxb.out x hx; omega)
                        obtain ⟨tr, htr⟩ : ∃ tr, nodes xs xs.length = tr := ⟨_, rfl⟩
                        have htl : Hid (tr.length = k) := by show _ = _; rw [← htr, nodes_len, hxl.out]
                        have Htr := Lib.hid htr
                        have Hft : Hid (Fit tr) := fun x hx => by
                          rw [← htr] at hx
                          obtain ⟨q, hq, rfl⟩ := List.mem_map.1 hx
                          have := seg_bd xs (q + 1 - low (q + 1)) (q + 1) (areW_parts Haw.out).2.2 (q + 1) (by omega)
                          have hq2 := List.mem_range.1 hq
                          have := hxl.out
                          omega
                        clear htr
                        go_wp2_with fail
                        refine (implTreeOf A9 k c9 _ xs _ (K.out.row (A9, k, i64s xs) (by simp)) (Nat.le_refl _) (by have := hxl.out; omega) (fun x hx => by have := hxb.out x hx; omega) Hc9.out).mono ?_
                        intro e w10 hg
                        obtain ⟨A10, c10, rfl, hc10, hrd, hb⟩ := gaveLB_got hg ((treeOfL_yes Haw.out).trans (by rw [Htr.out])) htl.out
                        have K2 := Lib.hid ((K.out.next hb).add hrd)
                        have Hc10 := Lib.hid hc10
                        clear K hg hrd hb hc10
                        have K := K2
                        clear K2
                        go_wp2_with fail
                        refine (b10At_b A1 n1 c1 _ xs1 2 (k : Int) _ (K.out.row (A1, n1, u8s xs1) (by simp)) Hb1.out (by omega) (by omega)).mono ?_
                        rintro e w11 ⟨tt, rfl, htt, hb⟩
                        have K2 := Lib.hid (K.out.next hb.out)
                        clear K hb
                        have K := K2
                        clear K2
                        go_wp2_with fail
                        refine (b10At_b A1 n1 c1 _ xs1 3 9 _ (K.out.row (A1, n1, u8s xs1) (by simp)) Hb1.out (by omega) (by omega)).mono ?_
                        rintro e w12 ⟨bb, rfl, hbb, hb⟩
                        have K2 := Lib.hid (K.out.next hb.out)
                        clear K hb
                        have K := K2
                        clear K2
                        have htk : tt < k := by omega
                        have hxt : xs.getD tt 0 + (bb : Int) ≤ 1000000 := by
                          have e : xs[tt]? = some (xs[tt]'(by have := hxl.out; omega)) := List.getElem?_eq_getElem _
                          rw [getD_get e]
                          have := hxb.out _ (List.getElem_mem (by have := hxl.out; omega : tt < xs.length))
                          omega
                        have hadd := treeAdd_nodes (b := (bb : Int)) Haw.out (i := tt) (by have := hxl.out; omega) (by omega) hxt
                        obtain ⟨ys, hys⟩ : ∃ ys, xs.set tt (xs.getD tt 0 + (bb : Int)) = ys := ⟨_, rfl⟩
                        rw [hys, Htr.out] at hadd
                        have hyl : Hid (ys.length = k) := by show _ = _; rw [← hys, List.length_set, hxl.out]
                        have hyx : xs.length = ys.length := hxl.out.trans hyl.out.symm
                        rw [hyx] at hadd
                        obtain ⟨us, hus⟩ : ∃ us, nodes ys ys.length = us := ⟨_, rfl⟩
                        rw [hus] at hadd
                        have Hadd := Lib.hid hadd
                        have Hus := Lib.hid hus
                        have hul : Hid (us.length = k) := by show _ = _; rw [← hus, nodes_len, hyl.out]
                        have Hsum : Hid (∀ j : Nat, sumI (ys.take j) = sumI (xs.take j) + (if tt < j then (bb : Int) else 0)) := fun j => by rw [← hys]; exact sumI_take_set (by have := hxl.out; omega) _ j
                        have Hfu : Hid (Fit us) := fun x hx => by
                          rw [← hus] at hx
                          obtain ⟨q, hq, rfl⟩ := List.mem_map.1 hx
                          have := seg_bd ys (q + 1 - low (q + 1)) (q + 1) (areW_parts Hadd.out.2).2.2 (q + 1) (by omega)
                          have hq2 := List.mem_range.1 hq
                          have := hyl.out
                          omega
                        clear hadd hus hys hyx hxt
                        go_wp2_with fail
                        refine (implTreeAdd A10 k c10 _ tr (tt : Int) (bb : Int) _ (K.out.row (A10, k, i64s tr) (by simp)) (Nat.le_refl _) (by have := htl.out; omega) Hft.out Hc10.out (by omega) (by omega)).mono ?_
                        intro e w13 hg
                        obtain ⟨A13, c13, rfl, hc13, hrd, hb⟩ := gaveLB_got hg Hadd.out.1 hul.out
                        have K2 := Lib.hid ((K.out.next hb).add hrd)
                        have Hc13 := Lib.hid hc13
                        clear K hg hrd hb hc13
                        have K := K2
                        clear K2
                        go_wp2_with fail
                        go_loopw [43, 44] (fun v i wr => ∃ j : Nat, j ≤ k + 1 ∧ i = .int .i64 j ∧ v = .int .i64 (sumI (xs.take j)) ∧ Hid (Below w13.heap.size w13 wr)) (fun _ i _ => k + 1 - (intOf i).toNat)
                        case atStart => exact ⟨0, by omega, rfl, rfl, Below.refl _ _⟩
                        case round =>
                          obtain ⟨j, hj, rfl, rfl, hB⟩ := hrel
                          have KR := Lib.hid (K.out.next hB.out)
                          have hup : Upto xs 20 := fun i x hx => by have := hxb.out x (List.mem_of_getElem? hx); omega
                          have hbd := sumI_bd hup (by omega) j
                          by_cases hlt3 : j ≤ k
                          · have hlt' : (j : Int) ≤ (k : Int) := by omega
                            have hs1 : treeSum tr (j : Int) = some (sumI (xs.take j)) := by
                              have := treeSum_nodes Haw.out (i := j) (by have := hxl.out; omega)
                              rw [Htr.out, seg_zero] at this
                              exact this
                            have hs2 : treeSum us (j : Int) = some (sumI (xs.take j) + (if tt < j then (bb : Int) else 0)) := by
                              have := treeSum_nodes Hadd.out.2 (i := j) (by have := hyl.out; omega)
                              rw [Hus.out, seg_zero, Hsum.out] at this
                              exact this
                            obtain ⟨a, ha⟩ : ∃ a, sumI (xs.take j) = a := ⟨_, rfl⟩
                            have Ha := Lib.hid ha
                            rw [ha] at hbd hs1 hs2 ⊢
                            have S1 := Lib.hid hs1; have S2 := Lib.hid hs2
                            clear hs1 hs2 ha hup
                            go_wp2_with fail
                            refine (implTreeSum A10 k c10 _ tr (j : Int) _ (KR.out.row (A10, k, i64s tr) (by simp)) (Nat.le_refl _) (by have := htl.out; omega) Hft.out Hc10.out (by omega)).mono ?_
                            intro e wp hg
                            obtain ⟨rfl, hb⟩ := gaveNB_got hg S1.out
                            have K2 := Lib.hid (KR.out.next hb)
                            have HB2 := Lib.hid (hB.out.trans (hb.mono hB.out.size))
                            clear KR hg hb S1
                            have KR := K2
                            clear K2
                            go_wp2_with fail
                            refine (implTreeSum A13 k c13 _ us (j : Int) _ (KR.out.row (A13, k, i64s us) (by simp)) (Nat.le_refl _) (by have := hul.out; omega) Hfu.out Hc13.out (by omega)).mono ?_
                            intro e wq hg
                            obtain ⟨rfl, hb⟩ := gaveNB_got hg S2.out
                            have K2 := Lib.hid (KR.out.next hb)
                            have HB3 := Lib.hid (HB2.out.trans (hb.mono HB2.out.size))
                            clear KR hg hb S2 HB2
                            have KR := K2
                            clear K2
                            have haa : (a != a) = false := by simp
                            by_cases htj : tt < j
                            · rw [if_pos htj]
                              have htj' : (tt : Int) < (j : Int) := by omega
                              have hab : (a + (bb : Int) != a + (bb : Int)) = false := by simp
                              by_cases hjk : j < k
                              · have hjk' : (j : Int) < (k : Int) := by omega
                                obtain ⟨b, off, x, hA, _, hx, hcx⟩ := (KR.out.row (A9, k, i64s xs) (by simp)).atI (k := j) hjk
                                have hA' : A9 = some ⟨b, off, none⟩ := hA
                                have hn : Hid (sumI (xs.take (j + 1)) = a + x) := by show _ = _; rw [take_succ_of hx.out, sumI_snoc, Ha.out]
                                have hxr := hxb.out x (List.mem_of_getElem? hx.out)
                                clear hA hx
                                subst hA'
                                go_wp2_with fail
                                go_roundw
                                case rel => exact ⟨j + 1, by omega, by go_num, by rw [hn.out], HB3⟩
                                case measure => simp only [intOf]; omega
                              · have hjk' : ¬ (j : Int) < (k : Int) := by omega
                                have hn : Hid (sumI (xs.take (j + 1)) = a) := by show _ = _; rw [List.take_of_length_le (by have := hxl.out; omega)]; have := Ha.out; rwa [List.take_of_length_le (by have := hxl.out; omega)] at this
                                go_wp2_with fail
                                go_roundw
                                case rel => exact ⟨j + 1, by omega, by go_num, by rw [hn.out], HB3⟩
                                case measure => simp only [intOf]; omega
                            · rw [if_neg htj]
                              have htj' : ¬ (tt : Int) < (j : Int) := by omega
                              have hjk : j < k := by omega
                              have hjk' : (j : Int) < (k : Int) := by omega
                              have hab : (a + 0 != a + 0) = false := by simp
                              obtain ⟨b, off, x, hA, _, hx, hcx⟩ := (KR.out.row (A9, k, i64s xs) (by simp)).atI (k := j) hjk
                              have hA' : A9 = some ⟨b, off, none⟩ := hA
                              have hn : Hid (sumI (xs.take (j + 1)) = a + x) := by show _ = _; rw [take_succ_of hx.out, sumI_snoc, Ha.out]
                              have hxr := hxb.out x (List.mem_of_getElem? hx.out)
                              clear hA hx
                              subst hA'
                              go_wp2_with fail
                              go_roundw
                              case rel => exact ⟨j + 1, by omega, by go_num, by rw [hn.out], HB3⟩
                              case measure => simp only [intOf]; omega
                          · have hgt : ¬ (j : Int) ≤ (k : Int) := by omega
                            clear K hB hup hbd
                            have K := KR
                            clear KR
                            have hs : SeedAt _ g0 sd := K.out.blk (g0, _) (by simp)
                            have f0 := hs.c0
                            have f1 := hs.c1
                            have f2 := hs.c2
                            clear hs
                            go_wp2_with fail
                            refine (implTreeSeed_any sd.kind sd.a sd.b A10 k c10 _ tr _ Hsd.out (K.out.row (A10, k, i64s tr) (by simp)) (Nat.le_refl _) (by have := htl.out; omega) Hft.out Hc10.out).mono ?_
                            intro e wp hg
                            obtain ⟨st, xt, okt, rfl, Nt, hb⟩ := gaveSNB_names hg
                            have K2 := Lib.hid ((K.out.next hb.out).push (.cells #[.int .i64 st.kind, .int .u64 st.a, .int .u64 st.b] 26))
                            clear K hg hb f0 f1 f2
                            have K := K2
                            clear K2
                            have hs : SeedAt _ g0 sd := K.out.blk (g0, _) (by simp)
                            have f0 := hs.c0
                            have f1 := hs.c1
                            have f2 := hs.c2
                            clear hs
                            go_wp2_with fail
                            refine (specTreeSeed_any sd.kind sd.a sd.b A10 k c10 _ tr _ Hsd.out (K.out.row (A10, k, i64s tr) (by simp)) (Nat.le_refl _) (by have := htl.out; omega) Hft.out Hc10.out).mono ?_
                            intro e wq hg
                            obtain ⟨rfl, hb⟩ := gaveSNB_same hg Nt
                            have K2 := Lib.hid ((K.out.next hb.out).alloc (.cells #[.int .i64 st.kind, .int .u64 st.a, .int .u64 st.b] 26))
                            clear K hg hb f0 f1 f2
                            have K := K2
                            clear K2
                            cases okt with
                            | false =>
                              go_wp2_with fail
                              go_ret
                              exact ⟨rfl, K.out.below⟩
                            | true =>
                              have hin := treeSeed_in Haw.out (by rw [Htr.out]; exact names_N Nt rfl)
                              obtain ⟨l, hl⟩ : ∃ l : Nat, xt = (l : Int) := ⟨xt.toNat, by omega⟩
                              subst hl
                              have hlk : l < k := by have := hin.2.1; have := hxl.out; omega
                              have hlk' : (l : Int) < (k : Int) := by omega
                              obtain ⟨b, off, x, hA, _, hx, hcx⟩ := (K.out.row (A9, k, i64s xs) (by simp)).atI (k := l) hlk
                              have hA' : A9 = some ⟨b, off, none⟩ := hA
                              have hpos : 0 < x := by have := hin.2.2; rw [Int.toNat_natCast, getD_get hx.out] at this; exact this
                              have hll : ((l : Int) == (l : Int)) = true := by simp
                              clear hA hx hin Nt
                              subst hA'
                              go_wp2_with fail
                              go_ret
                              exact ⟨rfl, K.out.below⟩
end Go.Proofs.Ytgemcjcghnpmdaa
