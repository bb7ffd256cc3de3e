/- SampleSeed: both walks. -/
import Derived.Test.YtnaolelijifniaaSample
namespace Go.Proofs.Ytnaolelijifniaa
open Go.RowKit
set_option maxRecDepth 100000 in
set_option maxHeartbeats 2000000 in
theorem specSample_any : FnSNN_SLB 11 sampleSeed := by
  intro k0 a0 b0 n k w hs hn hk
  have hz0 : ((w.alloc (.cells #[.int .i64 k0, .int .u64 a0, .int .u64 b0] 26)).alloc (.cells #[.int .i64 0, .int .u64 0, .int .u64 0] 26)).heap.size = w.heap.size + 2 := by rw [size_alloc', size_alloc']
  have hg : SeedAt ((w.alloc (.cells #[.int .i64 k0, .int .u64 a0, .int .u64 b0] 26)).alloc (.cells #[.int .i64 0, .int .u64 0, .int .u64 0] 26)) w.heap.size ⟨k0, a0, b0⟩ := (SeedAt.new w k0 a0 b0).alloc _
  have hz : SeedAt ((w.alloc (.cells #[.int .i64 k0, .int .u64 a0, .int .u64 b0] 26)).alloc (.cells #[.int .i64 0, .int .u64 0, .int .u64 0] 26)) (w.heap.size + 1) ⟨0, 0, 0⟩ := SeedAt.new1 w _ 0 0 0
  have hBl : Below w.heap.size w ((w.alloc (.cells #[.int .i64 k0, .int .u64 a0, .int .u64 b0] 26)).alloc (.cells #[.int .i64 0, .int .u64 0, .int .u64 0] 26)) := ((Below.refl _ _).alloc (Nat.le_refl _) _).alloc (by rw [size_alloc']; omega) _
  go_enter Try.func11, Try.ntmps11
  go_wp2_with fail
  refine (specIs_any ⟨k0, a0, b0⟩ _ _ hs hg).mono ?_
  rintro e w1 ⟨rfl, rfl⟩
  generalize (w.alloc (.cells #[.int .i64 k0, .int .u64 a0, .int .u64 b0] 26)).alloc (.cells #[.int .i64 0, .int .u64 0, .int .u64 0] 26) = w1 at hz0 hg hz hBl ⊢
  obtain ⟨s, hsd⟩ : ∃ s : Sd, s = ⟨k0, a0, b0⟩ := ⟨_, rfl⟩
  rw [← hsd] at hs hg ⊢
  have Hs0 : Hid ((⟨k0, a0, b0⟩ : Sd) = s) := hsd.symm
  have HB := Lib.hid hBl; have Hz := Lib.hid hz; have Hg := Lib.hid hg; have Hk : Hid s.ok := hs
  have Hz0 := Lib.hid hz0
  clear hBl hz hg hs hz0 hsd
  have u0 := Hz.out.c0
  have u1 := Hz.out.c1
  have u2 := Hz.out.c2
  have v0 := Hz.out.fz 0
  have v1 := Hz.out.fz 1
  have v2 := Hz.out.fz 2
  simp only at u0 u1 u2
  cases hv : validB s with
  | false =>
    have Hn : Hid (sampleSeed ⟨k0, a0, b0⟩ n k = none) := by show _ = _; rw [Hs0.out]; simp [sampleSeed, hv]
    go_wp2
    (try simp only [Exit.inBlock, Exit.then])
    refine bodyPost_ret (results_s3 rfl _ rfl (Hz.out.set3 0 0 0)) rfl ?_
    exact gaveSLB_none Hn.out (below_set3 HB.out (by omega) _ _ _)
  | true =>
    have Hv := Lib.hid hv
    clear hv
    go_wp2_with fail
    refine (items_any _ _).mono ?_
    rintro e w2 ⟨rfl, rfl⟩
    cases hi : inB n 1 64 with
    | false =>
      have Hn : Hid (sampleSeed ⟨k0, a0, b0⟩ n k = none) := by show _ = _; rw [Hs0.out]; simp [sampleSeed, hi]
      clear hi
      go_wp2
      (try simp only [Exit.inBlock, Exit.then])
      refine bodyPost_ret (results_s3 rfl _ rfl (Hz.out.set3 0 0 0)) rfl ?_
      exact gaveSLB_none Hn.out (below_set3 HB.out (by omega) _ _ _)
    | true =>
      have hnb := inB_true hi
      have Hi := Lib.hid hi
      clear hi
      go_wp2_with fail
      refine (l00In_any _ _ _ _).mono ?_
      rintro e w2 ⟨rfl, rfl⟩
      cases hik : inB k 0 n with
      | false =>
        have Hn : Hid (sampleSeed ⟨k0, a0, b0⟩ n k = none) := by show _ = _; rw [Hs0.out]; simp [sampleSeed, hik]
        clear hik
        go_wp2
        (try simp only [Exit.inBlock, Exit.then])
        refine bodyPost_ret (results_s3 rfl _ rfl (Hz.out.set3 0 0 0)) rfl ?_
        exact gaveSLB_none Hn.out (below_set3 HB.out (by omega) _ _ _)
      | true =>
        have hkb := inB_true hik
        obtain ⟨nn, rfl⟩ : ∃ nn : Nat, n = (nn : Int) := ⟨n.toNat, by omega⟩
        obtain ⟨kk, rfl⟩ : ∃ kk : Nat, k = (kk : Int) := ⟨k.toNat, by omega⟩
        have hr : sampleSeed ⟨k0, a0, b0⟩ (nn : Int) (kk : Int) = (sampleGo (upFrom ((nn : Int) - kk + 1) kk) s []).map fun r => (r.1, sortedI r.2) := by
          rw [Hs0.out]
          unfold sampleSeed
          rw [Hv.out, Hi.out, hik, Int.toNat_natCast]
          rfl
        have Hr := Lib.hid hr
        clear hik hr hn hk u0 u1 u2 v0 v1 v2
        obtain ⟨lo, hlo⟩ : ∃ lo : Nat, lo = nn - kk := ⟨_, rfl⟩
        have hloI : (nn : Int) - (kk : Int) = (lo : Int) := by omega
        rw [hloI] at Hr
        have hlok : (lo : Int) ≤ 64 := by omega
        have Hlo : Hid (lo + kk = nn) := by show _ = _; omega
        have HloI := Lib.hid hloI
        clear hlo hloI
        obtain ⟨i0, hi0, hz0, hz1, hz2⟩ := info_parts info_boolS
        have hsz1 : w.heap.size + 2 ≤ w1.heap.size := by rw [Hz0.out]; omega
        go_wp2_with (at_make; refine wpList_make_full _ rfl _ _ 34 rfl (w.heap.size + 2) 4 i0 (.bool false) 1 Try.underlying34 hi0 hz0 hz1 _ _ _ _ nn rfl rfl rfl rfl ?c1 ?c2 ?c3 ?_)
        case c1 => rw [hz2]; omega
        case c2 => unfold maxLen; omega
        case c3 => exact hsz1
        intro w2 hown hgrow
        have hown' : w2.ownsRow (w.heap.size + 2) 4 1 (.slice (some ⟨w1.heap.size, 0, none⟩) nn nn) nn (boolsS (memL [] nn)) := by
          rw [memL_nil, ← madeCells_one]; simpa using hown
        have HO := Lib.hid hown'
        have HB2 := Lib.hid (HB.out.grown hgrow HB.out.size (by simp))
        have HG2 := Lib.hid (Hg.out.grown hgrow (by simp))
        have HZ2 := Lib.hid (Hz.out.grown hgrow (by simp))
        clear hown hown' hgrow hi0 hz0 hz1 hz2 HB Hg Hz
        obtain ⟨gb, hgb⟩ : ∃ gb, gb = w1.heap.size := ⟨_, rfl⟩
        rw [← hgb] at HO hsz1 ⊢
        clear hgb
        go_wp2
        go_loopw [10] (fun i wr => ∃ (m : Nat) (ol : List Int) (s' : Sd), m ≤ kk ∧ i = .int .i64 ((lo + m : Nat) : Int) ∧ Hid (sampleGo (upFrom ((lo : Int) + 1) kk) s [] = sampleGo ((upFrom ((lo : Int) + 1) kk).drop m) s' ol) ∧ Hid (ol.Nodup) ∧ Hid (∀ x ∈ ol, 0 ≤ x ∧ x < ((lo + m : Nat) : Int)) ∧ s'.ok ∧ wr.ownsRow (w.heap.size + 2) 4 1 (.slice (some ⟨gb, 0, none⟩) nn nn) nn (boolsS (memL ol nn)) ∧ SeedAt wr w.heap.size s' ∧ SeedAt wr (w.heap.size + 1) Sd.zero ∧ Below w.heap.size w wr) (fun i _ => nn + 1 - (intOf i).toNat)
        case atStart => exact ⟨0, [], s, Nat.zero_le _, by rw [Nat.add_zero, HloI.out], rfl, List.nodup_nil, fun x hx => absurd hx (by simp), Hk.out, HO.out, HG2.out, HZ2.out, HB2.out⟩
        case round =>
          obtain ⟨m, ol, s', hm, rfl, hsg, hnd, hbd, hs', hO, hg', hz', hbel⟩ := hrel
          have HO' := Lib.hid hO; have HB' := Lib.hid hbel; have HZ' := Lib.hid hz'; have HG' := Lib.hid hg'; have Hk' := Lib.hid hs'
          clear hO hbel hz' hg' hs'
          obtain ⟨jj, hjj⟩ : ∃ jj : Nat, jj = lo + m := ⟨_, rfl⟩
          rw [← hjj] at hbd ⊢
          have Hjj := Lib.hid hjj
          clear hjj
          by_cases hlt : m < kk
          · have hjn : jj < nn := by have := Hlo.out; have := Hjj.out; omega
            have hjn' : (jj : Int) < (nn : Int) := by omega
            have hget : (upFrom ((lo : Int) + 1) kk)[m]? = some ((jj : Int) + 1) := by rw [upFrom_get _ _ _ hlt]; have := Hjj.out; congr 1; omega
            have Hdr := Lib.hid (drop_cons hget)
            clear hget
            go_wp2_with fail
            refine (specTried2 s' w.heap.size _ _ Hk'.out (by omega) HG'.out).mono ?_
            rintro e w3 ⟨hor, hgr⟩
            have HB3 := Lib.hid (HB'.out.grown hgr HB'.out.size (fun _ h => by cases h; exact Nat.le_refl _))
            have HZ3 := Lib.hid (HZ'.out.grown hgr (by simp))
            have HO3 := Lib.hid (World.ownsRow.kept HO'.out hgr (.inr (fun e => absurd (show gb = w.heap.size by injection e) (by omega))))
            clear hgr
            rcases hor with ⟨ht, y, rfl⟩ | ⟨t, p, ht, rfl, hg3⟩
            · have Hn : Hid (sampleSeed ⟨k0, a0, b0⟩ (nn : Int) (kk : Int) = none) := by show _ = _; rw [Hr.out, hsg.out, Hdr.out, sampleGo_none ht]; rfl
              have u0 := HZ3.out.c0
              have u1 := HZ3.out.c1
              have u2 := HZ3.out.c2
              have v0 := HZ3.out.fz 0
              have v1 := HZ3.out.fz 1
              have v2 := HZ3.out.fz 2
              clear ht
              go_wp2
              (try simp only [Exit.inBlock, Exit.then])
              refine bodyPost_ret (results_s3 (s := ⟨0, 0, 0⟩) (g := w.heap.size + 1) rfl _ rfl (by exact HZ3.out.set3 0 0 0)) rfl ?_
              exact gaveSLB_none Hn.out (below_set3 HB3.out (by omega) _ _ _)
            · have hpb := tried_lt (by omega) ht
              have Htr : Hid (sampleGo (upFrom ((lo : Int) + 1) kk) s [] = sampleGo ((upFrom ((lo : Int) + 1) kk).drop (m + 1)) t (ol ++ [if p ∈ ol then (jj : Int) + 1 - 1 else p])) := by show _ = _; rw [hsg.out, Hdr.out, sampleGo_some ht]
              have Hto := Lib.hid (tried_ok Hk'.out ht)
              have hke := sample_keep (l := (jj : Int) + 1) hnd.out (fun x hx => by have := hbd.out x hx; omega) (by omega) hpb
              have Hke := Lib.hid hke
              obtain ⟨pn, rfl⟩ : ∃ pn : Nat, p = (pn : Int) := ⟨p.toNat, by omega⟩
              have Hg3 := Lib.hid hg3
              clear ht hg3 hke
              have hpn : pn < nn := by omega
              have hpn' : (pn : Int) < (nn : Int) := by omega
              have hcp := (HO3.out.cellAt pn (by omega)).trans (memL_get hpn)
              have hfp := HO3.out.frozenAt pn
              by_cases hmem : (pn : Int) ∈ ol
              · rw [decide_eq_true hmem] at hcp
                rw [if_pos hmem, show (jj : Int) + 1 - 1 = (jj : Int) by omega] at Htr Hke
                have hcj := (HO3.out.cellAt jj (by omega)).trans (memL_get hjn)
                have hfj := HO3.out.frozenAt jj
                obtain ⟨u, hu⟩ : ∃ u, u = Value.bool (decide ((jj : Int) ∈ ol)) := ⟨_, rfl⟩
                rw [← hu] at hcj
                have hst := HO3.out.stored jj (.bool true)
                rw [memL_set] at hst
                have HOs := Lib.hid hst.1
                have HGs := Lib.hid (Hg3.out.far (p := ⟨gb, jj, none⟩) (by show w.heap.size ≠ gb; omega) (.bool true))
                have HZs := Lib.hid (HZ3.out.far (p := ⟨gb, jj, none⟩) (by show w.heap.size + 1 ≠ gb; omega) (.bool true))
                have HBs := Lib.hid (HB3.out.setCell (p := ⟨gb, jj, none⟩) (by show w.heap.size ≤ gb; omega) (.bool true))
                clear hmem hst hu
                go_wp2
                go_roundw
                case rel => exact ⟨m + 1, ol ++ [(jj : Int)], t, by omega, by have := Hjj.out; go_num, Htr, Hke.out.1, fun x hx => by have := Hke.out.2 x hx; have := Hjj.out; omega, Hto.out, HOs.out, HGs.out, HZs.out, HBs.out⟩
                case measure => simp only [intOf]; omega
              · rw [decide_eq_false hmem] at hcp
                rw [if_neg hmem] at Htr Hke
                have hst := HO3.out.stored pn (.bool true)
                rw [memL_set] at hst
                have HOs := Lib.hid hst.1
                have HGs := Lib.hid (Hg3.out.far (p := ⟨gb, pn, none⟩) (by show w.heap.size ≠ gb; omega) (.bool true))
                have HZs := Lib.hid (HZ3.out.far (p := ⟨gb, pn, none⟩) (by show w.heap.size + 1 ≠ gb; omega) (.bool true))
                have HBs := Lib.hid (HB3.out.setCell (p := ⟨gb, pn, none⟩) (by show w.heap.size ≤ gb; omega) (.bool true))
                clear hmem hst
                go_wp2
                go_roundw
                case rel => exact ⟨m + 1, ol ++ [(pn : Int)], t, by omega, by have := Hjj.out; go_num, Htr, Hke.out.1, fun x hx => by have := Hke.out.2 x hx; have := Hjj.out; omega, Hto.out, HOs.out, HGs.out, HZs.out, HBs.out⟩
                case measure => simp only [intOf]; omega
          · obtain rfl : m = kk := by omega
            obtain rfl : jj = nn := by have := Hlo.out; have := Hjj.out; omega
            have hfin : Hid (sampleSeed ⟨k0, a0, b0⟩ (jj : Int) (m : Int) = some (s', inOrd ol jj)) := by
              show _ = _
              rw [Hr.out, hsg.out, List.drop_eq_nil_of_le (by rw [upFrom_len]; exact Nat.le_refl _), inOrd_sorted hnd.out hbd.out]
              rfl
            have hnl : ¬ (jj : Int) < (jj : Int) := by omega
            obtain ⟨wo, rfl⟩ : ∃ wo : World, wo = wr := ⟨_, rfl⟩
            have hgw : gb < wo.heap.size := (World.ownsRow.lt HO'.out gb rfl).2
            have hlew : w.heap.size + 2 ≤ wo.heap.size := by omega
            clear hsg
            go_wp2
            go_loopw [13, 59] (fun v i wr => ∃ q : Nat, q ≤ jj ∧ i = .int .i64 q ∧ Own wr wo.heap.size 2 v (i64s (inOrd ol q)) ∧ wr.ownsRow (w.heap.size + 2) 4 1 (.slice (some ⟨gb, 0, none⟩) jj jj) jj (boolsS (memL ol jj)) ∧ SeedAt wr w.heap.size s' ∧ SeedAt wr (w.heap.size + 1) Sd.zero ∧ wo.heap.size ≤ wr.heap.size ∧ Below w.heap.size w wr) (fun _ i _ => jj - (intOf i).toNat)
            case atStart => exact ⟨0, Nat.zero_le _, rfl, own_newI wo (Nat.le_refl _), HO'.out.alloc _, HG'.out.alloc _, HZ'.out.alloc _, by rw [size_alloc']; omega, HB'.out.alloc HB'.out.size _⟩
            case round =>
              obtain ⟨q, hq, rfl, hO, hR, hg', hz', hle2, hbel⟩ := hrel
              have HO2 := Lib.hid hO; have HR2 := Lib.hid hR; have HB2 := Lib.hid hbel; have HZ2 := Lib.hid hz'; have HG2 := Lib.hid hg'
              clear hO hR hbel hz' hg'
              by_cases hql : q < jj
              · have hql' : (q : Int) < (jj : Int) := by omega
                have hcq := (HR2.out.cellAt q (by omega)).trans (memL_get hql)
                have Hsu := Lib.hid (inOrd_succ ol q)
                have hil := inOrd_len ol q
                by_cases hmem : (q : Int) ∈ ol
                · rw [decide_eq_true hmem] at hcq
                  have hsu : inOrd ol (q + 1) = inOrd ol q ++ [(q : Int)] := by rw [Hsu.out, if_pos hmem]
                  have Hsu2 := Lib.hid hsu
                  clear hmem hsu
                  go_wp2_with (at_builtin; go_must (refine emitI wr rfl _ _ rfl wo.heap.size u13 (inOrd ol q) rfl HO2.out (q : Int) rfl ?c1 hle2 ?_))
                  case c1 => omega
                  intro v' w3 hO' hgr hor
                  rw [← Hsu2.out] at hO'
                  have HO' := Lib.hid hO'
                  have hge : ∀ j, u13.ownBlock = some j → wo.heap.size ≤ j := fun j e => (HO2.out.lt j e).1
                  have HB3 := Lib.hid (HB2.out.grown hgr HB2.out.size (fun j e => by have := hge j e; omega))
                  have HG3 := Lib.hid (HG2.out.grown hgr (fun e => by have := hge _ e.symm; omega))
                  have HZ3 := Lib.hid (HZ2.out.grown hgr (fun e => by have := hge _ e.symm; omega))
                  have HR3 := Lib.hid (World.ownsRow.kept HR2.out hgr (.inr (fun e => by have := hge gb e.symm; omega)))
                  have hle3 : wo.heap.size ≤ w3.heap.size := Nat.le_trans hle2 hgr.size
                  clear hO' hgr hor hge
                  go_wp2
                  go_roundw
                  case rel => exact ⟨q + 1, by omega, by go_num, HO'.out, HR3.out, HG3.out, HZ3.out, hle3, HB3.out⟩
                  case measure => simp only [intOf]; omega
                · rw [decide_eq_false hmem] at hcq
                  have hsu : inOrd ol (q + 1) = inOrd ol q := by rw [Hsu.out, if_neg hmem, List.append_nil]
                  have HO' : Hid (Own wr wo.heap.size 2 u13 (i64s (inOrd ol (q + 1)))) := by rw [hsu]; exact HO2.out
                  clear hmem hsu
                  go_wp2
                  go_roundw
                  case rel => exact ⟨q + 1, by omega, by go_num, HO'.out, HR2.out, HG2.out, HZ2.out, hle2, HB2.out⟩
                  case measure => simp only [intOf]; omega
              · obtain rfl : q = jj := by omega
                have c0 := HG2.out.c0
                have c1 := HG2.out.c1
                have c2 := HG2.out.c2
                have u0 := HZ2.out.c0
                have u1 := HZ2.out.c1
                have u2 := HZ2.out.c2
                have v0 := HZ2.out.fz 0
                have v1 := HZ2.out.fz 1
                have v2 := HZ2.out.fz 2
                obtain ⟨k9, a9, b9⟩ := s'
                go_wp2
                (try simp only [Exit.inBlock, Exit.then])
                refine bodyPost_ret (results_s3 (s := ⟨k9, a9, b9⟩) (g := w.heap.size + 1) rfl _ rfl (by exact HZ2.out.set3 k9 a9 b9)) rfl ?_
                exact gaveSLB_some (s := ⟨k9, a9, b9⟩) hfin.out ((HO2.out.kept (grown_set3 _ _ _ _ _) (.inr (fun e => by have := HO2.out.lt _ e; omega))).base_le (by omega)) (below_set3 HB2.out (by omega) _ _ _)
/-- slices.Index over int64: whether the number is there. -/
theorem indexI_any (A : Option Addr) (n c B : Nat) (xs : List Int) (x : Int) (w : World) (h : Rd w B A n (i64s xs)) (hn : xs.length ≤ 100000) :
    Calls Try.prog 35 #[.slice A n c, .int .i64 x] w fun e w' => ∃ k : Int, e = .returned (.int .i64 k) ∧ Hid (decide (k ≥ 0) = decide (x ∈ xs)) ∧ w' = w := by
  have hl := h.lenI
  obtain rfl : xs.length = n := hl.out
  clear hl
  have HR := Lib.hid h
  clear h
  go_enter Try.func35, Try.ntmps35
  go_wp2
  go_loopw [8] (fun i wr => ∃ k : Nat, k ≤ xs.length ∧ i = .int .i64 k ∧ Hid (∀ (j : Nat) (y : Int), j < k → xs[j]? = some y → y ≠ x) ∧ wr = w) (fun i _ => xs.length - (intOf i).toNat)
  case atStart => exact ⟨0, Nat.zero_le _, rfl, fun j y hj => absurd hj (by omega), rfl⟩
  case round =>
    obtain ⟨k, hk, rfl, hv, rfl⟩ := hrel
    by_cases hlt : k < xs.length
    · obtain ⟨b, off, y, hA, hbB, hy, hc⟩ := HR.out.atI hlt
      subst hA
      have hlt' : (k : Int) < (xs.length : Int) := by omega
      have h0 : (0 : Int) ≤ (k : Int) := by omega
      by_cases hxy : x = y
      · subst hxy
        have hm : Hid (decide (x ∈ xs) = true) := decide_eq_true (List.mem_of_getElem? hy.out)
        go_wp2
        go_ret
        exact ⟨k, rfl, by show _ = _; rw [hm.out]; simp, rfl⟩
      · have hxb : (x == y) = false := by simpa using hxy
        have hvs : Hid (∀ (j : Nat) (z : Int), j < k + 1 → xs[j]? = some z → z ≠ x) := by
          intro j z hj hz
          by_cases hjk : j < k
          · exact hv.out j z hjk hz
          · obtain rfl : j = k := by omega
            have := hy.out.symm.trans hz
            injection this with this
            rw [← this]; exact fun e => hxy e.symm
        clear hxy
        go_wp2
        go_roundw
        case rel => exact ⟨k + 1, by omega, by go_num, hvs, trivial⟩
        case measure => simp only [intOf]; omega
    · have hm : Hid (decide (x ∈ xs) = false) := by
        show _ = _
        rw [decide_eq_false_iff_not]
        intro hx
        obtain ⟨j, hj⟩ := List.mem_iff_getElem?.1 hx
        exact hv.out j x (by have := (List.getElem?_eq_some_iff.1 hj).1; omega) hj rfl
      go_wp2
      go_ret
      exact ⟨-1, rfl, by show _ = _; rw [hm.out]; simp, rfl⟩
theorem containsI_any (A : Option Addr) (n c B : Nat) (xs : List Int) (x : Int) (w : World) (h : Rd w B A n (i64s xs)) (hn : xs.length ≤ 100000) :
    Calls Try.prog 23 #[.slice A n c, .int .i64 x] w fun e w' => e = .returned (.bool (decide (x ∈ xs))) ∧ w' = w := by
  go_enter Try.func23, Try.ntmps23
  go_wp2_with fail
  refine (indexI_any A n c B xs x _ h hn).mono ?_
  rintro e w1 ⟨k, rfl, hk, rfl⟩
  go_wp2
  go_ret
  exact ⟨ret_bool hk.out, rfl⟩
theorem le_allocS (w : World) (o : Obj) : w.heap.size ≤ (w.alloc o).heap.size := by rw [size_alloc']; omega
set_option maxRecDepth 100000 in
set_option maxHeartbeats 2000000 in
theorem implSample_any : FnSNN_SLB 8 sampleSeed := by
  intro k0 a0 b0 n k w hs hn hk
  have hz0 : ((w.alloc (.cells #[.int .i64 k0, .int .u64 a0, .int .u64 b0] 26)).alloc (.cells #[.int .i64 0, .int .u64 0, .int .u64 0] 26)).heap.size = w.heap.size + 2 := by rw [size_alloc', size_alloc']
  have hg : SeedAt ((w.alloc (.cells #[.int .i64 k0, .int .u64 a0, .int .u64 b0] 26)).alloc (.cells #[.int .i64 0, .int .u64 0, .int .u64 0] 26)) w.heap.size ⟨k0, a0, b0⟩ := (SeedAt.new w k0 a0 b0).alloc _
  have hz : SeedAt ((w.alloc (.cells #[.int .i64 k0, .int .u64 a0, .int .u64 b0] 26)).alloc (.cells #[.int .i64 0, .int .u64 0, .int .u64 0] 26)) (w.heap.size + 1) ⟨0, 0, 0⟩ := SeedAt.new1 w _ 0 0 0
  have hBl : Below w.heap.size w ((w.alloc (.cells #[.int .i64 k0, .int .u64 a0, .int .u64 b0] 26)).alloc (.cells #[.int .i64 0, .int .u64 0, .int .u64 0] 26)) := ((Below.refl _ _).alloc (Nat.le_refl _) _).alloc (by rw [size_alloc']; omega) _
  have Hk : Hid (Sd.ok ⟨k0, a0, b0⟩) := hs
  clear hs
  go_enter Try.func8, Try.ntmps8
  go_wp2_with fail
  refine (isPicks_any _ _).mono ?_
  rintro e w1 ⟨rfl, rfl⟩
  generalize (w.alloc (.cells #[.int .i64 k0, .int .u64 a0, .int .u64 b0] 26)).alloc (.cells #[.int .i64 0, .int .u64 0, .int .u64 0] 26) = w1 at hz0 hg hz hBl ⊢
  have HB := Lib.hid hBl; have Hz := Lib.hid hz; have Hg := Lib.hid hg
  clear hBl hz hg hz0
  have hle1 : w.heap.size ≤ w1.heap.size := HB.out.size
  have u0 := Hz.out.c0
  have u1 := Hz.out.c1
  have u2 := Hz.out.c2
  have v0 := Hz.out.fz 0
  have v1 := Hz.out.fz 1
  have v2 := Hz.out.fz 2
  simp only at u0 u1 u2
  cases hi : inB n 1 64 with
  | false =>
    have Hn : Hid (sampleSeed ⟨k0, a0, b0⟩ n k = none) := by show _ = _; simp [sampleSeed, hi]
    clear hi
    go_wp2
    (try simp only [Exit.inBlock, Exit.then])
    refine bodyPost_ret (results_s3 rfl _ rfl (Hz.out.set3 0 0 0)) rfl ?_
    exact gaveSLB_none Hn.out (below_set3 HB.out (by omega) _ _ _)
  | true =>
    have hnb := inB_true hi
    have Hi := Lib.hid hi
    clear hi
    go_wp2_with fail
    refine (within_any _ _ _ _).mono ?_
    rintro e w2 ⟨rfl, rfl⟩
    cases hik : inB k 0 n with
    | false =>
      have Hn : Hid (sampleSeed ⟨k0, a0, b0⟩ n k = none) := by show _ = _; simp [sampleSeed, hik]
      clear hik
      go_wp2
      (try simp only [Exit.inBlock, Exit.then])
      refine bodyPost_ret (results_s3 rfl _ rfl (Hz.out.set3 0 0 0)) rfl ?_
      exact gaveSLB_none Hn.out (below_set3 HB.out (by omega) _ _ _)
    | true =>
      have hkb := inB_true hik
      have hr := sample_join ⟨k0, a0, b0⟩ n k Hk.out Hi.out hik
      obtain ⟨nn, rfl⟩ : ∃ nn : Nat, n = (nn : Int) := ⟨n.toNat, by omega⟩
      obtain ⟨kk, rfl⟩ : ∃ kk : Nat, k = (kk : Int) := ⟨k.toNat, by omega⟩
      rw [Int.toNat_natCast] at hr
      have Hr := Lib.hid hr
      obtain ⟨ls, hls⟩ : ∃ ls, ls = upFrom ((nn : Int) - kk + 1) kk := ⟨_, rfl⟩
      rw [← hls] at Hr
      have hll : ls.length = kk := by rw [hls, upFrom_len]
      have hfit : Fit ls := by
        rw [hls]
        intro x hx
        have := memI_upFrom.1 hx
        omega
      have hlg : ∀ (j : Nat) (l : Int), ls[j]? = some l → l = (nn : Int) - kk + 1 + j := by
        intro j l hl
        have hj : j < kk := by have := (List.getElem?_eq_some_iff.1 hl).1; omega
        rw [hls, upFrom_get _ _ _ hj] at hl
        injection hl with hl
        exact hl.symm
      have Hll := Lib.hid hll; have Hfit := Lib.hid hfit; have Hlg := Lib.hid hlg; have Hls := Lib.hid hls
      have hkn : (kk : Int) ≤ (nn : Int) := hkb.2
      clear hik hr hn hk u0 u1 u2 v0 v1 v2 hll hfit hlg hls
      go_wp2_with fail
      refine (numbersFrom_any ((nn : Int) - kk + 1) (nn : Int) kk _ (by omega) (by omega) (by omega) (by omega)).mono ?_
      rintro e w2 ⟨v, rfl, ho, hb⟩
      rw [← Hls.out] at ho
      obtain ⟨A2, c2, rfl, hcap2⟩ := ho.shapeI
      have HO2 := Lib.hid ho
      have HB2 := Lib.hid (HB.out.trans (hb.mono hle1))
      have Hz2 := Lib.hid (Hz.out.below hb Hz.out.lt)
      have Hg2 := Lib.hid (Hg.out.below hb Hg.out.lt)
      have hlt1 := Hz.out.lt
      have hle2 : w.heap.size ≤ w2.heap.size := HB2.out.size
      obtain ⟨lc, hlc⟩ : ∃ lc, lc = ls.length := ⟨_, rfl⟩
      have Hlc := Lib.hid hlc
      clear hb ho hcap2 HB Hz Hg hlc
      have c0 := Hg2.out.c0
      have c1 := Hg2.out.c1
      have c2' := Hg2.out.c2
      simp only at c0 c1 c2'
      go_wp2_with fail
      refine (implBelowAll_any k0 a0 b0 A2 _ c2 _ ls _ Hk.out HO2.out.rdI (Nat.le_refl _) (by have := Hll.out; omega) Hfit.out).mono ?_
      rintro e w5 ⟨k1, a1, b1, v, ok, rfl, hok, hsd, ho, hb⟩
      clear c0 c1 c2'
      have hg5 := Hg2.out.below hb Hg2.out.lt
      have f0 := hg5.fz 0
      have f1 := hg5.fz 1
      have f2 := hg5.fz 2
      have y0 := hg5.c0
      have y1 := hg5.c1
      have y2 := hg5.c2
      simp only at y0 y1 y2
      have Hg6 := Lib.hid (hg5.set3 k1 a1 b1)
      have Hz6 := Lib.hid ((Hz2.out.below hb Hz2.out.lt).far3 (g' := w.heap.size) (by omega) k1 a1 b1)
      have HB6 := Lib.hid (below_set3 (HB2.out.trans (hb.mono hle2)) (Nat.le_refl _) k1 a1 b1)
      have HL6 := Lib.hid ((HO2.out.below hb (Nat.le_refl _)).kept (grown_set3 w5 w.heap.size k1 a1 b1) (.inr (fun e => by have := (HO2.out.lt _ e).1; omega)))
      have HO6 := Lib.hid (ho.kept (grown_set3 w5 w.heap.size k1 a1 b1) (.inr (fun e => by have := (ho.lt _ e).1; have := Hg2.out.lt; omega)))
      have u0 := Hz6.out.c0
      have u1 := Hz6.out.c1
      have u2 := Hz6.out.c2
      have v0 := Hz6.out.fz 0
      have v1 := Hz6.out.fz 1
      have v2 := Hz6.out.fz 2
      simp only at u0 u1 u2
      clear ho hb hg5 HO2 Hg2 Hz2 HB2
      cases hbs : belowAllS ⟨k0, a0, b0⟩ ls with
      | none =>
        rw [hbs] at hok hsd
        obtain rfl : ok = false := hok.out
        obtain ⟨rfl, rfl, rfl⟩ : k1 = 0 ∧ a1 = 0 ∧ b1 = 0 := by have := hsd.out; simpa [Sd.zero] using this
        have Hn : Hid (sampleSeed ⟨k0, a0, b0⟩ (nn : Int) (kk : Int) = none) := by show _ = _; rw [Hr.out, hbs]; rfl
        clear hbs hok hsd
        go_wp2
        (try simp only [Exit.inBlock, Exit.then])
        refine bodyPost_ret (results_s3 (s := ⟨0, 0, 0⟩) (g := w.heap.size + 1) rfl _ rfl (by exact Hz6.out.set3 0 0 0)) rfl ?_
        exact gaveSLB_none Hn.out (below_set3 HB6.out (by omega) _ _ _)
      | some r =>
        obtain ⟨t, picks⟩ := r
        rw [hbs] at hok hsd HO6
        obtain rfl : ok = true := hok.out
        obtain rfl : (⟨k1, a1, b1⟩ : Sd) = t := hsd.out
        have hbb := belowAllS_some hbs
        have hpl : picks.length = kk := (drawAll_length hbb.2).trans Hll.out
        have Hpl := Lib.hid hpl
        have HR2 : Hid (sampleSeed ⟨k0, a0, b0⟩ (nn : Int) (kk : Int) = some (⟨k1, a1, b1⟩, sortedI (sampleP ls picks []))) := by show _ = _; rw [Hr.out, hbs]; rfl
        have HOp : Hid (Own (((w5.setCell ⟨w.heap.size, 0, none⟩ (.int .i64 k1)).setCell ⟨w.heap.size, 1, none⟩ (.int .u64 a1)).setCell ⟨w.heap.size, 2, none⟩ (.int .u64 b1)) w2.heap.size 2 v (i64s picks)) := HO6.out
        obtain ⟨Ap, cp, rfl, hcapp⟩ := HOp.out.shapeI
        clear hbs hok hsd HO6 hbb hpl hcapp
        obtain ⟨w6, hw6⟩ : ∃ w6, w6 = (((w5.setCell ⟨w.heap.size, 0, none⟩ (.int .i64 k1)).setCell ⟨w.heap.size, 1, none⟩ (.int .u64 a1)).setCell ⟨w.heap.size, 2, none⟩ (.int .u64 b1)) := ⟨_, rfl⟩
        rw [← hw6] at Hg6 Hz6 HB6 HL6 HOp
        have Hw6 := Lib.hid hw6
        clear hw6
        have hlt6 := Hz6.out.lt
        have hpg : ∀ g, Value.ownBlock (.slice Ap picks.length cp) = some g → g < w6.heap.size := fun g e => (HOp.out.lt g e).2
        have hlg2 : ∀ g, Value.ownBlock (.slice A2 ls.length c2) = some g → g < w6.heap.size := fun g e => (HL6.out.lt g e).2
        have Hpg := Lib.hid hpg; have Hlg2 := Lib.hid hlg2
        clear hpg hlg2
        go_wp2
        clear u0 u1 u2 v0 v1 v2 f0 f1 f2 y0 y1 y2
        go_loopw [12, 44] (fun v i wr => ∃ (q : Nat) (ol : List Int), q ≤ picks.length ∧ i = .int .i64 q ∧ Hid (sampleP ls picks [] = sampleP (ls.drop q) (picks.drop q) ol) ∧ Hid (ol.length = q) ∧ Own wr w6.heap.size 2 v (i64s ol) ∧ Own wr w2.heap.size 2 (.slice Ap picks.length cp) (i64s picks) ∧ Own wr w1.heap.size 2 (.slice A2 ls.length c2) (i64s ls) ∧ SeedAt wr w.heap.size ⟨k1, a1, b1⟩ ∧ SeedAt wr (w.heap.size + 1) Sd.zero ∧ w6.heap.size ≤ wr.heap.size ∧ Below w.heap.size w wr) (fun _ i _ => picks.length - (intOf i).toNat)
        case atStart =>
          have hw6 := Hw6.out
          subst hw6
          have hnew := own_newI (base := (((w5.setCell ⟨w.heap.size, 0, none⟩ (.int .i64 k1)).setCell ⟨w.heap.size, 1, none⟩ (.int .u64 a1)).setCell ⟨w.heap.size, 2, none⟩ (.int .u64 b1)).heap.size) (((w5.setCell ⟨w.heap.size, 0, none⟩ (.int .i64 k1)).setCell ⟨w.heap.size, 1, none⟩ (.int .u64 a1)).setCell ⟨w.heap.size, 2, none⟩ (.int .u64 b1)) (Nat.le_refl _)
          exact ⟨0, [], Nat.zero_le _, rfl, rfl, rfl, by first | exact hnew | simpa using hnew, HOp.out.below ((Below.refl _ _).alloc (Nat.le_refl _) _) (Nat.le_refl _), HL6.out.below ((Below.refl _ _).alloc (Nat.le_refl _) _) (Nat.le_refl _), Hg6.out.alloc _, Hz6.out.alloc _, le_allocS _ _, HB6.out.alloc HB6.out.size _⟩
        case round =>
          obtain ⟨q, ol, hq, rfl, hsp, hol, hO, hP, hL, hg', hz', hle', hbel⟩ := hrel
          have HO := Lib.hid hO; have HB' := Lib.hid hbel; have Hz' := Lib.hid hz'; have Hg' := Lib.hid hg'; have HP' := Lib.hid hP; have HL' := Lib.hid hL
          clear hO hbel hz' hg' hP hL
          by_cases hlt : q < picks.length
          · have hlt' : (q : Int) < (picks.length : Int) := by omega
            obtain ⟨gp, p, hAp, hp, hcp, _⟩ := HP'.out.atI hlt
            subst hAp
            have hql : q < ls.length := by have := Hpl.out; have := Hll.out; omega
            have hql' : (q : Int) < (ls.length : Int) := by omega
            obtain ⟨gl, l, hAl, hl, hcl, _⟩ := HL'.out.atI hql
            subst hAl
            have hlv := Hlg.out q l hl.out
            have hkk := Hpl.out
            have Hst := Lib.hid (sampleP_step (out := ol) hl.out hp.out)
            have hlb : 1 ≤ l ∧ l ≤ 100 := by omega
            obtain ⟨A7, c7, h7, hc7⟩ := HO.out.shapeI
            subst h7
            have hge : ∀ j, Value.ownBlock (.slice A7 ol.length c7) = some j → w6.heap.size ≤ j := fun j e => (HO.out.lt j e).1
            have Hge := Lib.hid hge
            have hol64 : ol.length ≤ 100000 := by have := hol.out; omega
            have hp64 : picks.length ≤ 64 := by omega
            clear hge hlv hkk
            go_wp2_with fail
            refine (containsI_any A7 ol.length c7 _ ol p _ HO.out.rdI hol64).mono ?_
            rintro e w7 ⟨rfl, hw7⟩
            subst hw7
            by_cases hmem : p ∈ ol
            · rw [decide_eq_true hmem]
              rw [if_pos hmem] at Hst
              clear hmem
              go_wp2_with (at_builtin; go_must (refine emitI w7 rfl _ _ rfl w6.heap.size (.slice A7 ol.length c7) ol rfl HO.out (l - 1) rfl ?c1 hle' ?_))
              case c1 => omega
              intro v' w8 hO' hgr hor
              have HO8 := Lib.hid hO'
              have HB8 := Lib.hid (HB'.out.grown hgr HB'.out.size (fun j e => by have := Hge.out j e; omega))
              have HG8 := Lib.hid (Hg'.out.grown hgr (fun e => by have := Hge.out _ e.symm; omega))
              have HZ8 := Lib.hid (Hz'.out.grown hgr (fun e => by have := Hge.out _ e.symm; omega))
              have HP8 := Lib.hid (HP'.out.kept hgr (.inr (fun e => by have := Hge.out gp e.symm; have := Hpg.out gp rfl; omega)))
              have HL8 := Lib.hid (HL'.out.kept hgr (.inr (fun e => by have := Hge.out gl e.symm; have := Hlg2.out gl rfl; omega)))
              have hle8 : w6.heap.size ≤ w8.heap.size := Nat.le_trans hle' hgr.size
              have Hnx : Hid (sampleP ls picks [] = sampleP (ls.drop (q + 1)) (picks.drop (q + 1)) (ol ++ [l - 1])) := by show _ = _; rw [hsp.out, Hst.out]
              clear hO' hgr hor hsp Hst
              go_wp2
              go_roundw
              case rel => exact ⟨q + 1, ol ++ [l - 1], by omega, by go_num, Hnx, by show _ = _; rw [List.length_append, hol.out]; rfl, HO8.out, HP8.out, HL8.out, HG8.out, HZ8.out, hle8, HB8.out⟩
              case measure => simp only [intOf]; omega
            · rw [decide_eq_false hmem]
              rw [if_neg hmem] at Hst
              clear hmem
              go_wp2_with (at_builtin; go_must (refine emitI w7 rfl _ _ rfl w6.heap.size (.slice A7 ol.length c7) ol rfl HO.out p rfl ?c1 hle' ?_))
              case c1 => omega
              intro v' w8 hO' hgr hor
              have HO8 := Lib.hid hO'
              have HB8 := Lib.hid (HB'.out.grown hgr HB'.out.size (fun j e => by have := Hge.out j e; omega))
              have HG8 := Lib.hid (Hg'.out.grown hgr (fun e => by have := Hge.out _ e.symm; omega))
              have HZ8 := Lib.hid (Hz'.out.grown hgr (fun e => by have := Hge.out _ e.symm; omega))
              have HP8 := Lib.hid (HP'.out.kept hgr (.inr (fun e => by have := Hge.out gp e.symm; have := Hpg.out gp rfl; omega)))
              have HL8 := Lib.hid (HL'.out.kept hgr (.inr (fun e => by have := Hge.out gl e.symm; have := Hlg2.out gl rfl; omega)))
              have hle8 : w6.heap.size ≤ w8.heap.size := Nat.le_trans hle' hgr.size
              have Hnx : Hid (sampleP ls picks [] = sampleP (ls.drop (q + 1)) (picks.drop (q + 1)) (ol ++ [p])) := by show _ = _; rw [hsp.out, Hst.out]
              clear hO' hgr hor hsp Hst
              go_wp2
              go_roundw
              case rel => exact ⟨q + 1, ol ++ [p], by omega, by go_num, Hnx, by show _ = _; rw [List.length_append, hol.out]; rfl, HO8.out, HP8.out, HL8.out, HG8.out, HZ8.out, hle8, HB8.out⟩
              case measure => simp only [intOf]; omega
          · obtain rfl : q = picks.length := by omega
            have hfin : Hid (sampleP ls picks [] = ol) := by show _ = _; rw [hsp.out]; exact sampleP_end (Nat.le_refl _)
            obtain ⟨A7, c7, h7, hc7⟩ := HO.out.shapeI
            subst h7
            have hge : ∀ j, Value.ownBlock (.slice A7 ol.length c7) = some j → w6.heap.size ≤ j := fun j e => (HO.out.lt j e).1
            have Hge := Lib.hid hge
            have hol64 : ol.length ≤ 1048576 := by have := hol.out; have := Hpl.out; omega
            clear hge hsp
            go_wp2_with fail
            refine (sortI_any A7 ol.length c7 w6.heap.size ol _ HO.out hol64).mono ?_
            rintro e w8 ⟨rfl, hO', hgr⟩
            have HO8 := Lib.hid hO'
            have HB8 := Lib.hid (HB'.out.grown hgr HB'.out.size (fun j e => by have := Hge.out j e; omega))
            have HG8 := Lib.hid (Hg'.out.grown hgr (fun e => by have := Hge.out _ e.symm; omega))
            have HZ8 := Lib.hid (Hz'.out.grown hgr (fun e => by have := Hge.out _ e.symm; omega))
            clear hO' hgr
            have c0 := HG8.out.c0
            have c1 := HG8.out.c1
            have c2'' := HG8.out.c2
            have u0 := HZ8.out.c0
            have u1 := HZ8.out.c1
            have u2 := HZ8.out.c2
            have v0 := HZ8.out.fz 0
            have v1 := HZ8.out.fz 1
            have v2 := HZ8.out.fz 2
            simp only at c0 c1 c2''
            go_wp2
            (try simp only [Exit.inBlock, Exit.then])
            refine bodyPost_ret (results_s3 (s := ⟨k1, a1, b1⟩) (g := w.heap.size + 1) rfl _ rfl (by exact HZ8.out.set3 k1 a1 b1)) rfl ?_
            exact gaveSLB_some (s := ⟨k1, a1, b1⟩) (by rw [HR2.out, hfin.out]) ((HO8.out.kept (grown_set3 _ _ _ _ _) (.inr (fun e => by have := HO8.out.lt _ e; omega))).base_le (by omega)) (below_set3 HB8.out (by omega) _ _ _)
end Go.Proofs.Ytnaolelijifniaa
