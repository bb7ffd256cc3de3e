/- CardsSeed: cards in a drawn order. -/
import Derived.Test.YtnaolelijifniaaStream
import Derived.Test.YtnaolelijifniaaReverse
namespace Go.Proofs.Ytnaolelijifniaa
open Go.RowKit
theorem swapAt_eq {l : List Int} {i j : Nat} {x y : Int} (hi : l[i]? = some x) (hj : l[j]? = some y) : swapAt l i j = (l.set i y).set j x := by
  unfold swapAt
  rw [List.getD, List.getD, hi, hj]
  rfl
theorem swaps_step {ls ps out : List Int} {k : Nat} {l p : Int} (hl : ls[k]? = some l) (hp : ps[k]? = some p) : swaps (ls.drop k) (ps.drop k) out = swaps (ls.drop (k + 1)) (ps.drop (k + 1)) (swapAt out (l - 1).toNat p.toNat) := by
  rw [drop_cons hl, drop_cons hp, swaps]
theorem swaps_end {ls ps out : List Int} {k : Nat} (h : ps.length ≤ k) : swaps (ls.drop k) (ps.drop k) out = out := by
  rw [List.drop_eq_nil_of_le h]
  cases ls.drop k <;> rfl
theorem downTo_get {m k : Nat} (h : k < m) : (downTo m)[k]? = some ((m : Int) - k + 1) := by
  induction m generalizing k with
  | zero => omega
  | succ m ih =>
    rw [downTo]
    cases k with
    | zero => simp; omega
    | succ k => rw [List.getElem?_cons_succ, ih (by omega)]; congr 1; omega
theorem drawAll_lt {ls : List Int} {s t : Sd} {xs : List Int} (h : drawAll ls s = some (t, xs)) : ∀ (k : Nat) (l x : Int), ls[k]? = some l → xs[k]? = some x → 0 ≤ x ∧ x < l := by
  induction ls generalizing s t xs with
  | nil => intro k l x hl; simp at hl
  | cons l0 ls ih =>
    unfold drawAll at h
    split at h
    · cases h
    · rename_i t1 y hb
      cases hd : drawAll ls t1 with
      | none => rw [hd] at h; cases h
      | some r =>
        rw [hd] at h
        simp only [Option.map_some, Option.some.injEq, Prod.mk.injEq] at h
        rw [← h.2]
        intro k l x hl hx
        cases k with
        | zero =>
          simp only [List.getElem?_cons_zero, Option.some.injEq] at hl hx
          subst hl hx
          unfold belowS at hb
          split at hb
          · rename_i hc
            simp only [Bool.and_eq_true] at hc
            have h1 := inB_true hc.2
            exact tried_lt (by omega) hb
          · cases hb
        | succ k =>
          rw [List.getElem?_cons_succ] at hl hx
          exact ih (t := r.1) (xs := r.2) (by rw [hd]) k l x hl hx
theorem cardsGo_none {m : Nat} {s : Sd} {out : List Int} (h : tried ((m : Int) + 2) 64 s = none) : cardsGo (m + 1) s out = none := by
  rw [cardsGo, h]
theorem cardsGo_some {m : Nat} {s t : Sd} {out : List Int} {p : Int} (h : tried ((m : Int) + 2) 64 s = some (t, p)) : cardsGo (m + 1) s out = cardsGo m t (swapAt out (m + 1) p.toNat) := by
  rw [cardsGo, h]
theorem cards_short (k a b : Int) (n : Int) : (((cardsSeed ⟨k, a, b⟩ n).map Prod.snd).getD []).length ≤ 2000000 := cardsSeed_short ⟨k, a, b⟩ n
set_option maxHeartbeats 1000000 in
theorem specCards_any : FnSN_SLB 10 cardsSeed := by
  intro k0 a0 b0 n w hs hn
  have hz0 : ((w.alloc (.cells #[.int .i64 k0, .int .u64 a0, .int .u64 b0] 26)).alloc (.cells #[.int .i64 0, .int .u64 0, .int .u64 0] 26)).heap.size = w.heap.size + 2 := by rw [size_alloc', size_alloc']
  have hg : SeedAt ((w.alloc (.cells #[.int .i64 k0, .int .u64 a0, .int .u64 b0] 26)).alloc (.cells #[.int .i64 0, .int .u64 0, .int .u64 0] 26)) w.heap.size ⟨k0, a0, b0⟩ := (SeedAt.new w k0 a0 b0).alloc _
  have hz : SeedAt ((w.alloc (.cells #[.int .i64 k0, .int .u64 a0, .int .u64 b0] 26)).alloc (.cells #[.int .i64 0, .int .u64 0, .int .u64 0] 26)) (w.heap.size + 1) ⟨0, 0, 0⟩ := SeedAt.new1 w _ 0 0 0
  have hBl : Below w.heap.size w ((w.alloc (.cells #[.int .i64 k0, .int .u64 a0, .int .u64 b0] 26)).alloc (.cells #[.int .i64 0, .int .u64 0, .int .u64 0] 26)) := ((Below.refl _ _).alloc (Nat.le_refl _) _).alloc (by rw [size_alloc']; omega) _
  go_enter Try.func10, Try.ntmps10
  go_wp2_with fail
  refine (specIs_any ⟨k0, a0, b0⟩ _ _ hs hg).mono ?_
  rintro e w1 ⟨rfl, rfl⟩
  generalize (w.alloc (.cells #[.int .i64 k0, .int .u64 a0, .int .u64 b0] 26)).alloc (.cells #[.int .i64 0, .int .u64 0, .int .u64 0] 26) = w1 at hz0 hg hz hBl ⊢
  obtain ⟨s, hsd⟩ : ∃ s : Sd, s = ⟨k0, a0, b0⟩ := ⟨_, rfl⟩
  rw [← hsd] at hs hg ⊢
  have Hs0 : Hid ((⟨k0, a0, b0⟩ : Sd) = s) := hsd.symm
  have HB := Lib.hid hBl; have Hz := Lib.hid hz; have Hg := Lib.hid hg; have Hk : Hid s.ok := hs
  have Hz0 := Lib.hid hz0
  clear hBl hz hg hs hz0 hsd
  have u0 := Hz.out.c0
  have u1 := Hz.out.c1
  have u2 := Hz.out.c2
  have v0 := Hz.out.fz 0
  have v1 := Hz.out.fz 1
  have v2 := Hz.out.fz 2
  simp only at u0 u1 u2
  cases hv : validB s with
  | false =>
    have Hn : Hid (cardsSeed ⟨k0, a0, b0⟩ n = none) := by show _ = _; rw [Hs0.out]; simp [cardsSeed, hv]
    go_wp2
    (try simp only [Exit.inBlock, Exit.then])
    refine bodyPost_ret (results_s3 rfl _ rfl (Hz.out.set3 0 0 0)) rfl ?_
    exact gaveSLB_none Hn.out (below_set3 HB.out (by omega) _ _ _)
  | true =>
    have Hv := Lib.hid hv
    clear hv
    go_wp2_with fail
    refine (items_any _ _).mono ?_
    rintro e w2 ⟨rfl, rfl⟩
    cases hi : inB n 1 64 with
    | false =>
      have Hn : Hid (cardsSeed ⟨k0, a0, b0⟩ n = none) := by show _ = _; rw [Hs0.out]; simp [cardsSeed, hi]
      clear hi
      go_wp2
      (try simp only [Exit.inBlock, Exit.then])
      refine bodyPost_ret (results_s3 rfl _ rfl (Hz.out.set3 0 0 0)) rfl ?_
      exact gaveSLB_none Hn.out (below_set3 HB.out (by omega) _ _ _)
    | true =>
      have hnb := inB_true hi
      obtain ⟨nn, rfl⟩ : ∃ nn : Nat, n = (nn : Int) + 1 := ⟨(n - 1).toNat, by omega⟩
      have hr : cardsSeed ⟨k0, a0, b0⟩ ((nn : Int) + 1) = cardsGo nn s (upFrom 0 (nn + 1)) := by
        rw [Hs0.out]
        unfold cardsSeed
        rw [Hv.out, hi]
        have e1 : ((nn : Int) + 1 - 1).toNat = nn := by omega
        have e2 : ((nn : Int) + 1).toNat = nn + 1 := by omega
        rw [e1, e2]
        rfl
      have Hr := Lib.hid hr
      clear hi hr hn u0 u1 u2 v0 v1 v2
      go_wp2
      go_loopw [7, 8] (fun v i wr => ∃ k : Nat, k ≤ nn + 1 ∧ i = .int .i64 k ∧ Own wr (w.heap.size + 2) 2 v (i64s (upFrom 0 k)) ∧ SeedAt wr w.heap.size s ∧ SeedAt wr (w.heap.size + 1) Sd.zero ∧ Below w.heap.size w wr) (fun _ i _ => nn + 1 - (intOf i).toNat)
      case atStart => exact ⟨0, by omega, rfl, own_newI w1 (by rw [Hz0.out]; omega), Hg.out.alloc _, Hz.out.alloc _, HB.out.alloc HB.out.size _⟩
      case round =>
        obtain ⟨k, hk, rfl, hO, hg', hz', hbel⟩ := hrel
        have HO := Lib.hid hO; have HB' := Lib.hid hbel; have Hz' := Lib.hid hz'; have Hg' := Lib.hid hg'
        clear hO hbel hz' hg'
        have hsz' : w.heap.size + 2 ≤ wr.heap.size := by have := Hz'.out.lt; omega
        by_cases hlt : k < nn + 1
        · have hlt' : (k : Int) < (nn : Int) + 1 := by omega
          go_wp2_with (at_builtin; go_must (refine emitI wr rfl _ _ rfl (w.heap.size + 2) u7 (upFrom 0 k) rfl HO.out (k : Int) rfl ?c1 hsz' ?_))
          case c1 => rw [upFrom_len]; omega
          intro v' w3 hO' hgr hor
          have e := upFrom_succ 0 k
          rw [Int.zero_add] at e
          rw [← e] at hO'
          have HO' := Lib.hid hO'
          have hge : ∀ j, u7.ownBlock = some j → w.heap.size + 2 ≤ j := fun j e => (HO.out.lt j e).1
          have HB3 := Lib.hid (HB'.out.grown hgr HB'.out.size (fun j e => by have := hge j e; omega))
          have HG3 := Lib.hid (Hg'.out.grown hgr (fun e => by have := hge _ e.symm; omega))
          have HZ3 := Lib.hid (Hz'.out.grown hgr (fun e => by have := hge _ e.symm; omega))
          clear hO' hgr hor hge e
          go_wp2
          go_roundw
          case rel => exact ⟨k + 1, by omega, by go_num, HO'.out, HG3.out, HZ3.out, HB3.out⟩
          case measure => simp only [intOf]; omega
        · obtain rfl : k = nn + 1 := by omega
          obtain ⟨A7, c7, h7, hc7⟩ := HO.out.shapeI
          subst h7
          rw [upFrom_len] at HO ⊢
          have Hlo := Lib.hid (fun g => (HO.out.lt g : _))
          have hnl : ¬ ((nn + 1 : Nat) : Int) < (nn : Int) + 1 := by omega
          have hok : (upFrom 0 (nn + 1)).length = nn + 1 := upFrom_len _ _
          clear hsz'
          obtain ⟨wo, rfl⟩ : ∃ wo : World, wo = wr := ⟨_, rfl⟩
          go_wp2
          go_loopw [9] (fun i wr => ∃ (j : Nat) (ol : List Int) (s' : Sd), j ≤ nn ∧ i = .int .i64 j ∧ Hid (cardsGo nn s (upFrom 0 (nn + 1)) = cardsGo j s' ol) ∧ Hid (ol.length = nn + 1) ∧ s'.ok ∧ Own wr (w.heap.size + 2) 2 (.slice A7 (nn + 1) c7) (i64s ol) ∧ SeedAt wr w.heap.size s' ∧ SeedAt wr (w.heap.size + 1) Sd.zero ∧ Below w.heap.size w wr) (fun i _ => (intOf i).toNat)
          case atStart => exact ⟨nn, upFrom 0 (nn + 1), s, Nat.le_refl _, by go_num, rfl, hok, Hk.out, HO.out, Hg'.out, Hz'.out, HB'.out⟩
          case round =>
            obtain ⟨j, ol, s', hj, rfl, hcg, hol, hs', hO, hg2, hz2, hbel⟩ := hrel
            have HO2 := Lib.hid hO; have HB2 := Lib.hid hbel; have HZ2 := Lib.hid hz2; have HG2 := Lib.hid hg2; have Hk2 := Lib.hid hs'
            clear hO hbel hz2 hg2 hs'
            have hsz2 : w.heap.size + 2 ≤ wr.heap.size := by have := HZ2.out.lt; omega
            by_cases hj1 : 1 ≤ j
            · obtain ⟨jj, rfl⟩ : ∃ jj, j = jj + 1 := ⟨j - 1, by omega⟩
              have hj1' : (1 : Int) ≤ ((jj + 1 : Nat) : Int) := by omega
              go_wp2_with fail
              have e2 : ((jj : Int) + 1 + 1) = (jj : Int) + 2 := by omega
              refine (specTried2 s' w.heap.size _ _ Hk2.out (by omega) HG2.out).mono ?_
              rintro e w2 ⟨hor, hgr⟩
              have HB3 := Lib.hid (HB2.out.grown hgr HB2.out.size (fun _ h => by cases h; exact Nat.le_refl _))
              have HZ3 := Lib.hid (HZ2.out.grown hgr (by simp))
              have HO3 := Lib.hid (HO2.out.kept hgr (.inr (fun e => by have := HO2.out.lt _ e; omega)))
              clear hgr
              rw [e2] at hor
              rcases hor with ⟨ht, y, rfl⟩ | ⟨t, p, ht, rfl, hg3⟩
              · have Hn : Hid (cardsSeed ⟨k0, a0, b0⟩ ((nn : Int) + 1) = none) := by show _ = _; rw [Hr.out, hcg.out, cardsGo_none ht]
                have u0 := HZ3.out.c0
                have u1 := HZ3.out.c1
                have u2 := HZ3.out.c2
                have v0 := HZ3.out.fz 0
                have v1 := HZ3.out.fz 1
                have v2 := HZ3.out.fz 2
                clear ht e2
                go_wp2
                (try simp only [Exit.inBlock, Exit.then])
                refine bodyPost_ret (results_s3 (s := ⟨0, 0, 0⟩) (g := w.heap.size + 1) rfl _ rfl (by exact HZ3.out.set3 0 0 0)) rfl ?_
                exact gaveSLB_none Hn.out (below_set3 HB3.out (by omega) _ _ _)
              · have Htr : Hid (cardsGo nn s (upFrom 0 (nn + 1)) = cardsGo jj t (swapAt ol (jj + 1) p.toNat)) := by show _ = _; rw [hcg.out, cardsGo_some ht]
                have Hto := Lib.hid (tried_ok Hk2.out ht)
                have hpb := tried_lt (by omega) ht
                obtain ⟨pn, rfl⟩ : ∃ pn : Nat, p = (pn : Int) := ⟨p.toNat, by omega⟩
                have Hg3 := Lib.hid hg3
                clear ht hg3 e2
                have hil : jj + 1 < ol.length := by have := hol.out; omega
                have hpl : pn < ol.length := by have := hol.out; omega
                obtain ⟨g, x, hA, hx, hcx, hfx⟩ := HO3.out.atI hil
                obtain ⟨g', y, hA', hy, hcy, hfy⟩ := HO3.out.atI hpl
                subst hA
                obtain rfl : g = g' := by injection hA' with e; injection e
                have hgg : w.heap.size + 2 ≤ g := (HO3.out.lt g rfl).1
                have hS1 := HO3.out.stored rfl (jj + 1) y
                have hS2 := hS1.1.stored rfl pn x
                have HS : Hid (Own ((w2.setCell ⟨g, jj + 1, none⟩ (.int .i64 y)).setCell ⟨g, pn, none⟩ (.int .i64 x)) (w.heap.size + 2) 2 (.slice (some ⟨g, 0, none⟩) (nn + 1) c7) (i64s (swapAt ol (jj + 1) pn))) := by rw [swapAt_eq hx.out hy.out]; exact hS2.1
                have HGs := Lib.hid ((Hg3.out.far (p := ⟨g, jj + 1, none⟩) (by show w.heap.size ≠ g; omega) (.int .i64 y)).far (p := ⟨g, pn, none⟩) (by show w.heap.size ≠ g; omega) (.int .i64 x))
                have HZs := Lib.hid ((HZ3.out.far (p := ⟨g, jj + 1, none⟩) (by show w.heap.size + 1 ≠ g; omega) (.int .i64 y)).far (p := ⟨g, pn, none⟩) (by show w.heap.size + 1 ≠ g; omega) (.int .i64 x))
                have HBs := Lib.hid ((HB3.out.setCell (p := ⟨g, jj + 1, none⟩) (by show w.heap.size ≤ g; omega) (.int .i64 y)).setCell (p := ⟨g, pn, none⟩) (by show w.heap.size ≤ g; omega) (.int .i64 x))
                have hln : Hid ((swapAt ol (jj + 1) pn).length = nn + 1) := by show _ = _; rw [swapAt_len]; exact hol.out
                have hi' : ((jj + 1 : Nat) : Int) < ((nn + 1 : Nat) : Int) := by omega
                have hi2 : (jj : Int) + 1 < (nn : Int) + 1 := by omega
                have hp2 : (pn : Int) < (nn : Int) + 1 := by omega
                have hp0 : (0 : Int) ≤ (pn : Int) := by omega
                clear hS1 hS2 hA' hil hpl
                rw [Int.toNat_natCast] at Htr
                by_cases hpe : pn = jj + 1
                · subst hpe
                  obtain rfl : x = y := by have := hx.out.symm.trans hy.out; injection this
                  go_wp2
                  go_roundw
                  case rel => exact ⟨jj, swapAt ol (jj + 1) (jj + 1), t, by omega, by go_num, Htr, hln, Hto.out, HS.out, HGs.out, HZs.out, HBs.out⟩
                  case measure => simp only [intOf]; omega
                · have hpe2 : ¬ jj + 1 = pn := fun e => hpe e.symm
                  go_wp2
                  go_roundw
                  case rel => exact ⟨jj, swapAt ol (jj + 1) pn, t, by omega, by go_num, Htr, hln, Hto.out, HS.out, HGs.out, HZs.out, HBs.out⟩
                  case measure => simp only [intOf]; omega
            · obtain rfl : j = 0 := by omega
              have hfin : Hid (cardsSeed ⟨k0, a0, b0⟩ ((nn : Int) + 1) = some (s', ol)) := by show _ = _; rw [Hr.out, hcg.out]; rfl
              have c0 := HG2.out.c0
              have c1 := HG2.out.c1
              have c2 := HG2.out.c2
              have u0 := HZ2.out.c0
              have u1 := HZ2.out.c1
              have u2 := HZ2.out.c2
              have v0 := HZ2.out.fz 0
              have v1 := HZ2.out.fz 1
              have v2 := HZ2.out.fz 2
              obtain ⟨k9, a9, b9⟩ := s'
              clear hcg
              go_wp2
              (try simp only [Exit.inBlock, Exit.then])
              refine bodyPost_ret (results_s3 (s := ⟨k9, a9, b9⟩) (g := w.heap.size + 1) rfl _ rfl (by exact HZ2.out.set3 k9 a9 b9)) rfl ?_
              exact gaveSLB_some (s := ⟨k9, a9, b9⟩) hfin.out ((HO2.out.kept (grown_set3 _ _ _ _ _) (.inr (fun e => by have := HO2.out.lt _ e; omega))).base_le (by omega)) (below_set3 HB2.out (by omega) _ _ _)
theorem fit_downTo {m : Nat} (h : m ≤ 100000) : Fit (downTo m) := by
  intro x hx
  obtain ⟨k, hk⟩ := List.mem_iff_getElem?.1 hx
  have hkm : k < m := by have := (List.getElem?_eq_some_iff.1 hk).1; rwa [downTo_len] at this
  rw [downTo_get hkm] at hk
  injection hk with hk
  omega
set_option maxRecDepth 100000 in
set_option maxHeartbeats 1000000 in
theorem implCards_any : FnSN_SLB 7 cardsSeed := by
  intro k0 a0 b0 n w hs hn
  have hz0 : ((w.alloc (.cells #[.int .i64 k0, .int .u64 a0, .int .u64 b0] 26)).alloc (.cells #[.int .i64 0, .int .u64 0, .int .u64 0] 26)).heap.size = w.heap.size + 2 := by rw [size_alloc', size_alloc']
  have hg : SeedAt ((w.alloc (.cells #[.int .i64 k0, .int .u64 a0, .int .u64 b0] 26)).alloc (.cells #[.int .i64 0, .int .u64 0, .int .u64 0] 26)) w.heap.size ⟨k0, a0, b0⟩ := (SeedAt.new w k0 a0 b0).alloc _
  have hz : SeedAt ((w.alloc (.cells #[.int .i64 k0, .int .u64 a0, .int .u64 b0] 26)).alloc (.cells #[.int .i64 0, .int .u64 0, .int .u64 0] 26)) (w.heap.size + 1) ⟨0, 0, 0⟩ := SeedAt.new1 w _ 0 0 0
  have hBl : Below w.heap.size w ((w.alloc (.cells #[.int .i64 k0, .int .u64 a0, .int .u64 b0] 26)).alloc (.cells #[.int .i64 0, .int .u64 0, .int .u64 0] 26)) := ((Below.refl _ _).alloc (Nat.le_refl _) _).alloc (by rw [size_alloc']; omega) _
  have Hk : Hid (Sd.ok ⟨k0, a0, b0⟩) := hs
  clear hs
  go_enter Try.func7, Try.ntmps7
  go_wp2_with fail
  refine (isPicks_any _ _).mono ?_
  rintro e w1 ⟨rfl, rfl⟩
  generalize (w.alloc (.cells #[.int .i64 k0, .int .u64 a0, .int .u64 b0] 26)).alloc (.cells #[.int .i64 0, .int .u64 0, .int .u64 0] 26) = w1 at hz0 hg hz hBl ⊢
  have HB := Lib.hid hBl; have Hz := Lib.hid hz; have Hg := Lib.hid hg
  clear hBl hz hg hz0
  have hle1 : w.heap.size ≤ w1.heap.size := HB.out.size
  cases hi : inB n 1 64 with
  | false =>
    have Hn : Hid (cardsSeed ⟨k0, a0, b0⟩ n = none) := by show _ = _; simp [cardsSeed, hi]
    have u0 := Hz.out.c0
    have u1 := Hz.out.c1
    have u2 := Hz.out.c2
    have v0 := Hz.out.fz 0
    have v1 := Hz.out.fz 1
    have v2 := Hz.out.fz 2
    simp only at u0 u1 u2
    clear hi
    go_wp2
    (try simp only [Exit.inBlock, Exit.then])
    refine bodyPost_ret (results_s3 rfl _ rfl (Hz.out.set3 0 0 0)) rfl ?_
    exact gaveSLB_none Hn.out (below_set3 HB.out (by omega) _ _ _)
  | true =>
    have hnb := inB_true hi
    obtain ⟨nn, rfl⟩ : ∃ nn : Nat, n = (nn : Int) + 1 := ⟨(n - 1).toNat, by omega⟩
    have hr := cards_join ⟨k0, a0, b0⟩ ((nn : Int) + 1) Hk.out hi
    have e1 : ((nn : Int) + 1 - 1).toNat = nn := by omega
    have e2 : ((nn : Int) + 1).toNat = nn + 1 := by omega
    rw [e1, e2, downTo_rev] at hr
    have Hr := Lib.hid hr
    clear hi hr hn e1 e2
    go_wp2_with fail
    refine (numbersFrom_any 2 ((nn : Int) + 1) nn _ (by omega) (by omega) (by omega) (by omega)).mono ?_
    rintro e w2 ⟨v, rfl, ho, hb⟩
    obtain ⟨A2, c2, rfl, hcap2⟩ := ho.shapeI
    have HO2 := Lib.hid ho
    have HB2 := Lib.hid (HB.out.trans (hb.mono hle1))
    have Hz2 := Lib.hid (Hz.out.below hb Hz.out.lt)
    have Hg2 := Lib.hid (Hg.out.below hb Hg.out.lt)
    have hlt1 := Hz.out.lt
    clear hb ho hcap2 HB Hz Hg
    go_wp2_with fail
    refine (reverseI_any A2 _ c2 w1.heap.size (upFrom 2 nn) _ HO2.out (by rw [upFrom_len]; omega)).mono ?_
    rintro e w3 ⟨rfl, ho, hgr⟩
    have hge2 : ∀ j, Value.ownBlock (.slice A2 (upFrom 2 nn).length c2) = some j → w1.heap.size ≤ j := fun j e => (HO2.out.lt j e).1
    have HB3 := Lib.hid (HB2.out.grown hgr HB2.out.size (fun j e => Nat.le_trans hle1 (hge2 j e)))
    have Hz3 := Lib.hid (Hz2.out.grown hgr (fun e => by have := hge2 _ e.symm; omega))
    have Hg3 := Lib.hid (Hg2.out.grown hgr (fun e => by have := hge2 _ e.symm; omega))
    rw [downTo_rev] at ho
    have hol : (upFrom 2 nn).length = nn := upFrom_len _ _
    rw [hol] at ho ⊢
    have HL3 := Lib.hid ho
    have hr3 := ho.rdI
    rw [downTo_len] at hr3
    have HLR : Hid (Rd w3 w3.heap.size A2 nn (i64s (downTo nn))) := hr3
    have hle3 : w.heap.size ≤ w3.heap.size := HB3.out.size
    clear ho hgr hge2 HO2 HB2 Hz2 Hg2 hol hr3
    have c0 := Hg3.out.c0
    have c1 := Hg3.out.c1
    have c2' := Hg3.out.c2
    simp only at c0 c1 c2'
    go_wp2_with fail
    refine (implBelowAll_any k0 a0 b0 A2 _ c2 _ (downTo nn) _ Hk.out HLR.out (Nat.le_refl _) (by rw [downTo_len]; omega) (fit_downTo (by omega))).mono ?_
    rintro e w5 ⟨k1, a1, b1, v, ok, rfl, hok, hsd, ho, hb⟩
    clear c0 c1 c2'
    have hg5 := Hg3.out.below hb Hg3.out.lt
    have f0 := hg5.fz 0
    have f1 := hg5.fz 1
    have f2 := hg5.fz 2
    have y0 := hg5.c0
    have y1 := hg5.c1
    have y2 := hg5.c2
    simp only at y0 y1 y2
    have Hg6 := Lib.hid (hg5.set3 k1 a1 b1)
    have Hz6 := Lib.hid ((Hz3.out.below hb Hz3.out.lt).far3 (g' := w.heap.size) (by omega) k1 a1 b1)
    have HB6 := Lib.hid (below_set3 (HB3.out.trans (hb.mono hle3)) (Nat.le_refl _) k1 a1 b1)
    have HL6 := Lib.hid ((HL3.out.below hb (Nat.le_refl _)).kept (grown_set3 w5 w.heap.size k1 a1 b1) (.inr (fun e => by have := (HL3.out.lt _ e).1; omega)))
    have hapl := (HL3.out.apart ho (Nat.le_refl _))
    have hlt3 := Hg3.out.lt
    have HO6 := Lib.hid (ho.kept (grown_set3 w5 w.heap.size k1 a1 b1) (.inr (fun e => by have := (ho.lt _ e).1; have := Hg3.out.lt; omega)))
    have u0 := Hz6.out.c0
    have u1 := Hz6.out.c1
    have u2 := Hz6.out.c2
    have v0 := Hz6.out.fz 0
    have v1 := Hz6.out.fz 1
    have v2 := Hz6.out.fz 2
    simp only at u0 u1 u2
    have hw35 : w3.heap.size ≤ w5.heap.size := hb.size
    clear ho hb hg5 HL3 HLR Hg3 Hz3 HB3
    cases hbs : belowAllS ⟨k0, a0, b0⟩ (downTo nn) with
    | none =>
      rw [hbs] at hok hsd
      obtain rfl : ok = false := hok.out
      obtain ⟨rfl, rfl, rfl⟩ : k1 = 0 ∧ a1 = 0 ∧ b1 = 0 := by have := hsd.out; simpa [Sd.zero] using this
      have Hn : Hid (cardsSeed ⟨k0, a0, b0⟩ ((nn : Int) + 1) = none) := by show _ = _; rw [Hr.out, hbs]; rfl
      clear hbs hok hsd
      go_wp2
      (try simp only [Exit.inBlock, Exit.then])
      refine bodyPost_ret (results_s3 (s := ⟨0, 0, 0⟩) (g := w.heap.size + 1) rfl _ rfl (by exact Hz6.out.set3 0 0 0)) rfl ?_
      exact gaveSLB_none Hn.out (below_set3 HB6.out (by omega) _ _ _)
    | some r =>
      obtain ⟨t, picks⟩ := r
      rw [hbs] at hok hsd HO6
      obtain rfl : ok = true := hok.out
      obtain rfl : (⟨k1, a1, b1⟩ : Sd) = t := hsd.out
      have hbb := belowAllS_some hbs
      have hpl : picks.length = nn := (drawAll_length hbb.2).trans (downTo_len _)
      have Hpl := Lib.hid hpl
      have Hpn := Lib.hid (drawAll_lt hbb.2)
      have HR2 : Hid (cardsSeed ⟨k0, a0, b0⟩ ((nn : Int) + 1) = some (⟨k1, a1, b1⟩, swaps (downTo nn) picks (upFrom 0 (nn + 1)))) := by show _ = _; rw [Hr.out, hbs]; rfl
      have HOp : Hid (Own (((w5.setCell ⟨w.heap.size, 0, none⟩ (.int .i64 k1)).setCell ⟨w.heap.size, 1, none⟩ (.int .u64 a1)).setCell ⟨w.heap.size, 2, none⟩ (.int .u64 b1)) w3.heap.size 2 v (i64s picks)) := HO6.out
      obtain ⟨Ap, cp, rfl, hcapp⟩ := HOp.out.shapeI
      clear hbs hok hsd HO6 hbb hpl hcapp
      go_wp2_with fail
      generalize ((w5.setCell ⟨w.heap.size, 0, none⟩ (.int .i64 k1)).setCell ⟨w.heap.size, 1, none⟩ (.int .u64 a1)).setCell ⟨w.heap.size, 2, none⟩ (.int .u64 b1) = w6 at Hg6 Hz6 HB6 HL6 HOp ⊢
      clear f0 f1 f2 y0 y1 y2 u0 u1 u2 v0 v1 v2
      have hle6 : w.heap.size ≤ w6.heap.size := HB6.out.size
      have hlt6 := Hz6.out.lt
      refine (numbersFrom_any 0 (nn : Int) (nn + 1) _ (by omega) (by omega) (by omega) (by omega)).mono ?_
      rintro e w7 ⟨vo, rfl, ho, hb⟩
      have HG7 := Lib.hid (Hg6.out.below hb Hg6.out.lt)
      have HZ7 := Lib.hid (Hz6.out.below hb Hz6.out.lt)
      have HB7 := Lib.hid (HB6.out.trans (hb.mono hle6))
      have HP7 := Lib.hid (HOp.out.below hb (Nat.le_refl _))
      have HL7 := Lib.hid (HL6.out.below hb (Nat.le_refl _))
      have hap1 := HOp.out.apart ho (Nat.le_refl _)
      have hap2 := HL6.out.apart ho (Nat.le_refl _)
      have HO7 := Lib.hid ho
      obtain ⟨Ao, co, rfl, hcapo⟩ := ho.shapeI
      rw [upFrom_len] at HO7 hap1 hap2 ⊢
      have Hap1 := Lib.hid hap1
      have Hap2 := Lib.hid hap2
      have hg7 : ∀ g, Value.ownBlock (.slice Ao (nn + 1) co) = some g → w.heap.size + 2 ≤ g := fun g e => by have := (HO7.out.lt g e).1; omega
      have Hg7 := Lib.hid hg7
      clear hb ho hap1 hap2 hcapo hg7 HB6 Hg6 Hz6 HL6 HOp
      go_wp2
      go_loopw [37] (fun i wr => ∃ (k : Nat) (ol : List Int), k ≤ picks.length ∧ i = .int .i64 k ∧ Hid (swaps (downTo nn) picks (upFrom 0 (nn + 1)) = swaps ((downTo nn).drop k) (picks.drop k) ol) ∧ Hid (ol.length = nn + 1) ∧ Own wr w.heap.size 2 (.slice Ao (nn + 1) co) (i64s ol) ∧ Own wr w3.heap.size 2 (.slice Ap picks.length cp) (i64s picks) ∧ Own wr w1.heap.size 2 (.slice A2 nn c2) (i64s (downTo nn)) ∧ SeedAt wr w.heap.size ⟨k1, a1, b1⟩ ∧ SeedAt wr (w.heap.size + 1) Sd.zero ∧ Below w.heap.size w wr) (fun i _ => picks.length - (intOf i).toNat)
      case atStart => exact ⟨0, upFrom 0 (nn + 1), Nat.zero_le _, rfl, rfl, upFrom_len _ _, HO7.out.base_le hle6, HP7.out, HL7.out, HG7.out, HZ7.out, HB7.out⟩
      case round =>
        obtain ⟨k, ol, hk, rfl, hsw, hol, hO, hP, hL, hg', hz', hbel⟩ := hrel
        have HO := Lib.hid hO; have HB' := Lib.hid hbel; have Hz' := Lib.hid hz'; have Hg' := Lib.hid hg'; have HP' := Lib.hid hP; have HL' := Lib.hid hL
        clear hO hbel hz' hg' hP hL
        by_cases hlt : k < picks.length
        · have hlt' : (k : Int) < (picks.length : Int) := by omega
          have hkn : k < nn := by have := Hpl.out; omega
          obtain ⟨gp, p, hAp, hp, hcp, _⟩ := HP'.out.atI hlt
          subst hAp
          obtain ⟨gl, l, hAl, hl, hcl, _⟩ := HL'.out.atI (k := k) (by rw [downTo_len]; exact hkn)
          subst hAl
          have hpb := Hpn.out k l p hl.out hp.out
          have hlv : l = (nn : Int) - k + 1 := by have := hl.out; rw [downTo_get hkn] at this; injection this with this; exact this.symm
          have Hst := Lib.hid (swaps_step (out := ol) hl.out hp.out)
          obtain ⟨pn, rfl⟩ : ∃ pn : Nat, p = (pn : Int) := ⟨p.toNat, by omega⟩
          obtain ⟨ii, hii⟩ : ∃ ii : Nat, l = (ii : Int) + 1 := ⟨(l - 1).toNat, by omega⟩
          subst hii
          have hil : ii < ol.length := by have := hol.out; omega
          have hpl : pn < ol.length := by have := hol.out; omega
          obtain ⟨g, x, hA, hx, hcx, hfx⟩ := HO.out.atI hil
          obtain ⟨g', y, hA', hy, hcy, hfy⟩ := HO.out.atI hpl
          subst hA
          obtain rfl : g = g' := by injection hA' with e; injection e
          have hgg : w.heap.size + 2 ≤ g := Hg7.out g rfl
          have hgp : gp ≠ g := fun e => Hap1.out gp rfl (by rw [e]; rfl)
          have hgl : gl ≠ g := fun e => Hap2.out gl rfl (by rw [e]; rfl)
          have hS1 := HO.out.stored rfl ii y
          have hS2 := hS1.1.stored rfl pn x
          have HS : Hid (Own ((wr.setCell ⟨g, ii, none⟩ (.int .i64 y)).setCell ⟨g, pn, none⟩ (.int .i64 x)) w.heap.size 2 (.slice (some ⟨g, 0, none⟩) (nn + 1) co) (i64s (swapAt ol ii pn))) := by rw [swapAt_eq hx.out hy.out]; exact hS2.1
          have HPs := Lib.hid ((HP'.out.kept hS1.2 (.inr (fun e => hgp (by injection e)))).kept hS2.2 (.inr (fun e => hgp (by injection e))))
          have HLs := Lib.hid ((HL'.out.kept hS1.2 (.inr (fun e => hgl (by injection e)))).kept hS2.2 (.inr (fun e => hgl (by injection e))))
          have HGs := Lib.hid ((Hg'.out.far (p := ⟨g, ii, none⟩) (by show w.heap.size ≠ g; omega) (.int .i64 y)).far (p := ⟨g, pn, none⟩) (by show w.heap.size ≠ g; omega) (.int .i64 x))
          have HZs := Lib.hid ((Hz'.out.far (p := ⟨g, ii, none⟩) (by show w.heap.size + 1 ≠ g; omega) (.int .i64 y)).far (p := ⟨g, pn, none⟩) (by show w.heap.size + 1 ≠ g; omega) (.int .i64 x))
          have HBs := Lib.hid ((HB'.out.setCell (p := ⟨g, ii, none⟩) (by show w.heap.size ≤ g; omega) (.int .i64 y)).setCell (p := ⟨g, pn, none⟩) (by show w.heap.size ≤ g; omega) (.int .i64 x))
          have hln : Hid ((swapAt ol ii pn).length = nn + 1) := by show _ = _; rw [swapAt_len]; exact hol.out
          have Htr : Hid (swaps (downTo nn) picks (upFrom 0 (nn + 1)) = swaps ((downTo nn).drop (k + 1)) (picks.drop (k + 1)) (swapAt ol ii pn)) := by
            show _ = _
            have e1 : ((ii : Int) + 1 - 1).toNat = ii := by omega
            rw [hsw.out, Hst.out, e1, Int.toNat_natCast]
          have hi2 : (ii : Int) < (nn : Int) + 1 := by omega
          have hp2 : (pn : Int) < (nn : Int) + 1 := by omega
          have hi0 : (0 : Int) ≤ (ii : Int) := by omega
          have hp0 : (0 : Int) ≤ (pn : Int) := by omega
          have hkn' : (k : Int) < (nn : Int) := by omega
          have hlw : wrap64 ((ii : Int) + 1 - 1) = (ii : Int) := by unfold wrap64; omega
          clear hS1 hS2 hA' hil hpl hlv Hst hpb hsw
          by_cases hpe : pn = ii
          · subst hpe
            obtain rfl : x = y := by have := hx.out.symm.trans hy.out; injection this
            go_wp2
            go_big_region
            go_wp2
            go_roundw
            case rel => exact ⟨k + 1, swapAt ol pn pn, by omega, by go_num, Htr, hln, HS.out, HPs.out, HLs.out, HGs.out, HZs.out, ⟨HBs.out.os, HBs.out.tape, HBs.out.output, HBs.out.size, HBs.out.block⟩⟩
            case measure => simp only [intOf]; omega
          · have hpe2 : ¬ ii = pn := fun e => hpe e.symm
            go_wp2
            go_big_region
            go_wp2
            go_roundw
            case rel => exact ⟨k + 1, swapAt ol ii pn, by omega, by go_num, Htr, hln, HS.out, HPs.out, HLs.out, HGs.out, HZs.out, ⟨HBs.out.os, HBs.out.tape, HBs.out.output, HBs.out.size, HBs.out.block⟩⟩
            case measure => simp only [intOf]; omega
        · obtain rfl : k = picks.length := by omega
          have hfin : Hid (swaps (downTo nn) picks (upFrom 0 (nn + 1)) = ol) := by show _ = _; rw [hsw.out]; exact swaps_end (Nat.le_refl _)
          have c0 := Hg'.out.c0
          have c1 := Hg'.out.c1
          have c2'' := Hg'.out.c2
          have u0 := Hz'.out.c0
          have u1 := Hz'.out.c1
          have u2 := Hz'.out.c2
          have v0 := Hz'.out.fz 0
          have v1 := Hz'.out.fz 1
          have v2 := Hz'.out.fz 2
          simp only at c0 c1 c2''
          clear hsw
          go_wp2
          (try simp only [Exit.inBlock, Exit.then])
          refine bodyPost_ret (results_s3 (s := ⟨k1, a1, b1⟩) (g := w.heap.size + 1) rfl _ rfl (by exact Hz'.out.set3 k1 a1 b1)) rfl ?_
          exact gaveSLB_some (s := ⟨k1, a1, b1⟩) (by rw [HR2.out, hfin.out]) (HO.out.kept (grown_set3 _ _ _ _ _) (.inr (fun e => by have := Hg7.out _ e; omega))) (below_set3 HB'.out (by omega) _ _ _)
end Go.Proofs.Ytnaolelijifniaa
