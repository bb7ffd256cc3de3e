/- SplitCounts: the program's walk. -/
import Derived.Test.YtgemcjcghnpmdaaSplit
import Derived.Test.YtgemcjcghnpmdaaAliasI
namespace Go.Proofs.Ytgemcjcghnpmdaa
open Go.RowKit
set_option maxRecDepth 100000
theorem aliasR_some_valid {xs S : List Nat} {O : List Int} (h : aliasR xs = some (S, O)) : aliasB S O = true := by
  unfold aliasR at h
  by_cases hp : picksB xs = true
  · rw [if_pos hp] at h
    injection h with h
    injection h with h1 h2
    rw [← h1, ← h2]
    exact aliasR_valid hp
  · rw [if_neg hp] at h; cases h
theorem splitR_short (k a b n : Int) (xs : List Nat) (_ : xs.length ≤ 1048576) : (((splitR ⟨k, a, b⟩ n xs).map Prod.snd).getD []).length ≤ 2000000 := by
  cases h : splitR ⟨k, a, b⟩ n xs with
  | none => simp
  | some r =>
    unfold splitR at h
    split at h
    · cases ha : aliasR xs with
      | none => rw [ha] at h; cases h
      | some p =>
        obtain ⟨S, O⟩ := p
        rw [ha] at h
        have h1 := splitGo_len S O _ _ _ _ h
        rw [List.length_replicate] at h1
        show r.2.length ≤ _
        omega
    · cases h
set_option maxHeartbeats 4000000 in
theorem implSplit : FnSNFl_SLB 17 splitR := by
  intro k0 a0 b0 m A n c B xs w hs hm h hB hn hcap
  have hl := h.lenF
  obtain rfl : xs.length = n := hl.out
  obtain ⟨w0, hw0⟩ : ∃ w0, w0 = ((w.alloc (.cells #[.int .i64 k0, .int .u64 a0, .int .u64 b0] 26)).alloc (.cells #[.int .i64 0, .int .u64 0, .int .u64 0] 26)) := ⟨_, rfl⟩
  have hz0 : w0.heap.size = w.heap.size + 2 := by rw [hw0, size_alloc', size_alloc']
  have hg : SeedAt w0 w.heap.size ⟨k0, a0, b0⟩ := by rw [hw0]; exact (SeedAt.new w k0 a0 b0).alloc _
  have hz : SeedAt w0 (w.heap.size + 1) ⟨0, 0, 0⟩ := by rw [hw0]; exact SeedAt.new1 w _ 0 0 0
  have hBl : Below w.heap.size w w0 := by rw [hw0]; exact ((Below.refl _ _).alloc (Nat.le_refl _) _).alloc (by rw [size_alloc']; omega) _
  obtain ⟨s0, hs0⟩ : ∃ s0 : Sd, s0 = ⟨k0, a0, b0⟩ := ⟨_, rfl⟩
  rw [← hs0] at hs hg
  have HR := Lib.hid (h.below hBl hB)
  have HB := Lib.hid hBl; have Hz := Lib.hid hz; have Hg := Lib.hid hg; have Hk : Hid s0.ok := hs
  have Hs0 := Lib.hid hs0
  clear hBl hz hg hs h hl
  go_enter Try.func17, Try.ntmps17
  go_wp2_with fail
  rw [← hw0]
  clear hw0
  rw [← hs0]
  clear hs0
  refine (implAliasOf A xs.length c B xs _ HR.out (by omega) hn hcap).mono ?_
  rintro e w2 ⟨v, v', ok, rfl, hok, ho, ho', hap, hb⟩
  have hle0 : w.heap.size ≤ w0.heap.size := HB.out.size
  have hle2 : w0.heap.size ≤ w2.heap.size := hb.size
  have hz2 := Hz.out.below hb Hz.out.lt
  have hB2 := HB.out.trans (hb.mono hle0)
  cases hr : aliasR xs with
  | none =>
    rw [hr] at hok
    obtain rfl : ok = false := hok.out
    have Hn : Hid (splitR ⟨k0, a0, b0⟩ m xs = none) := by show _ = _; rw [← Hs0.out]; simp [splitR, hr]
    rw [hr] at ho ho'
    simp only [Option.map_none, Option.getD_none] at ho ho'
    obtain ⟨A1, c1, rfl, -⟩ := ho.shapeF
    obtain ⟨A1', c1', rfl, -⟩ := ho'.shapeI
    rw [List.length_nil, List.length_nil]
    have hz3 := Lib.hid (hz2.alloc (.cells #[.slice A1 0 c1, .slice A1' 0 c1'] 33))
    have hB3 := Lib.hid (hB2.alloc hB2.size (.cells #[.slice A1 0 c1, .slice A1' 0 c1'] 33))
    have u0 := hz3.out.c0
    have u1 := hz3.out.c1
    have u2 := hz3.out.c2
    have v0 := hz3.out.fz 0
    have v1 := hz3.out.fz 1
    have v2 := hz3.out.fz 2
    simp only at u0 u1 u2
    clear hok ho ho' hap hb hr hz2 hB2
    go_wp2
    (try simp only [Exit.inBlock, Exit.then])
    refine bodyPost_ret (results_s3 rfl _ rfl (hz3.out.set3 0 0 0)) rfl ?_
    exact gaveSLB_no Hn.out (below_set3 hB3.out (by omega) _ _ _)
  | some r =>
    obtain ⟨S, O⟩ := r
    rw [hr] at hok ho ho'
    obtain rfl : ok = true := hok.out
    obtain ⟨⟨hn1, hn2⟩, hS, hO, hOin⟩ := alias_some hr
    simp only [Option.map_some, Option.getD_some] at ho ho'
    obtain ⟨A1, c1, rfl, -⟩ := ho.shapeF
    obtain ⟨A1', c1', rfl, -⟩ := ho'.shapeI
    obtain ⟨gS, rfl, hS1, hS2, -⟩ := own_addr' ho (by rw [f32s_length]; omega)
    obtain ⟨gO, rfl, hO1, hO2, -⟩ := own_addr' ho' (by rw [i64s_length]; omega)
    unfold Own at ho ho'
    rw [f32s_length] at ho
    rw [i64s_length] at ho'
    rw [hS] at ho ⊢
    rw [hO] at ho' ⊢
    have hg2 := Hg.out.below hb Hg.out.lt
    have ha3 := AlAt.new w2 33 (.slice (some ⟨gS, 0, none⟩) xs.length c1) (.slice (some ⟨gO, 0, none⟩) xs.length c1')
    have hg3 := hg2.alloc (.cells #[.slice (some ⟨gS, 0, none⟩) xs.length c1, .slice (some ⟨gO, 0, none⟩) xs.length c1'] 33)
    have hz3 := hz2.alloc (.cells #[.slice (some ⟨gS, 0, none⟩) xs.length c1, .slice (some ⟨gO, 0, none⟩) xs.length c1'] 33)
    have hB3 := hB2.alloc hB2.size (.cells #[.slice (some ⟨gS, 0, none⟩) xs.length c1, .slice (some ⟨gO, 0, none⟩) xs.length c1'] 33)
    have ho3 := World.ownsRow.alloc ho (.cells #[.slice (some ⟨gS, 0, none⟩) xs.length c1, .slice (some ⟨gO, 0, none⟩) xs.length c1'] 33)
    have ho3' := World.ownsRow.alloc ho' (.cells #[.slice (some ⟨gS, 0, none⟩) xs.length c1, .slice (some ⟨gO, 0, none⟩) xs.length c1'] 33)
    have hz4 : (w2.alloc (.cells #[.slice (some ⟨gS, 0, none⟩) xs.length c1, .slice (some ⟨gO, 0, none⟩) xs.length c1'] 33)).heap.size = w2.heap.size + 1 := size_alloc' _ _
    have Hr := Lib.hid hr
    have Hval := Lib.hid (aliasR_some_valid hr)
    clear hok hap hr hz2 hB2 hg2 ho ho' hb
    have u0 := hg3.c0
    have u1 := hg3.c1
    have u2 := hg3.c2
    go_wp2_with fail
    generalize w2.alloc (.cells #[.slice (some ⟨gS, 0, none⟩) xs.length c1, .slice (some ⟨gO, 0, none⟩) xs.length c1'] 33) = wa at ha3 hg3 hz3 hB3 ho3 ho3' hz4 u0 u1 u2 ⊢
    refine (implValid_any s0 _ Hk.out).mono ?_
    rintro e w3 ⟨rfl, hb3⟩
    have HG3 := Lib.hid (hg3.below hb3 hg3.lt)
    have HZ3 := Lib.hid (hz3.below hb3 hz3.lt)
    have HA3 := Lib.hid (ha3.below hb3 ha3.lt)
    have HB3 := Lib.hid (hB3.trans (hb3.mono hB3.size))
    have HS3 := Lib.hid (World.ownsRow.kept ho3 (row := none) ⟨hb3.os, hb3.tape, hb3.output, hb3.size, fun k hk _ => hb3.block k hk⟩ (.inr (fun e => by cases e)))
    have HO3 := Lib.hid (World.ownsRow.kept ho3' (row := none) ⟨hb3.os, hb3.tape, hb3.output, hb3.size, fun k hk _ => hb3.block k hk⟩ (.inr (fun e => by cases e)))
    have hz5 : w2.heap.size + 1 ≤ w3.heap.size := by have := hb3.size; omega
    clear hg3 hz3 ha3 hB3 ho3 ho3' hb3 hz4 u0 u1 u2
    have z0 := HZ3.out.c0
    have z1 := HZ3.out.c1
    have z2 := HZ3.out.c2
    have v0 := HZ3.out.fz 0
    have v1 := HZ3.out.fz 1
    have v2 := HZ3.out.fz 2
    simp only at z0 z1 z2
    cases hv : validB s0 with
    | false =>
      have Hn : Hid (splitR ⟨k0, a0, b0⟩ m xs = none) := by show _ = _; rw [← Hs0.out]; simp [splitR, hv]
      clear hv
      go_wp2
      (try simp only [Exit.inBlock, Exit.then])
      refine bodyPost_ret (results_s3 rfl _ rfl (HZ3.out.set3 0 0 0)) rfl ?_
      exact gaveSLB_no Hn.out (below_set3 HB3.out (by omega) _ _ _)
    | true =>
      have Hv := Lib.hid hv
      clear hv
      go_wp2_with fail
      refine (within_any _ _ _ _).mono ?_
      rintro e w3' ⟨rfl, rfl⟩
      cases hi : inB m 0 1000 with
      | false =>
        have Hn : Hid (splitR ⟨k0, a0, b0⟩ m xs = none) := by show _ = _; rw [← Hs0.out]; simp [splitR, hi]
        clear hi
        go_wp2
        (try simp only [Exit.inBlock, Exit.then])
        refine bodyPost_ret (results_s3 rfl _ rfl (HZ3.out.set3 0 0 0)) rfl ?_
        exact gaveSLB_no Hn.out (below_set3 HB3.out (by omega) _ _ _)
      | true =>
        obtain ⟨hm0, hm1⟩ := inB_true hi
        have hfin : Hid (splitR ⟨k0, a0, b0⟩ m xs = splitGo S O m.toNat s0 (List.replicate xs.length 0)) := by show _ = _; rw [← Hs0.out]; simp [splitR, Hv.out, hi, Hr.out]
        clear hi z0 z1 z2 v0 v1 v2
        obtain ⟨mm, rfl⟩ : ∃ mm : Nat, m = mm := ⟨m.toNat, by omega⟩
        rw [Int.toNat_natCast] at hfin
        obtain ⟨i0, hi0, hz0', hz1', hz2'⟩ := info_parts info_i64'
        have hbs3 := HB3.out.size
        go_wp2_with (at_make; refine wpList_make_full _ rfl _ _ 31 rfl w.heap.size 2 i0 (.int .i64 0) 1 Try.underlying31 hi0 hz0' hz1' _ _ _ _ xs.length rfl rfl rfl rfl ?c1 ?c2 ?c3 ?_)
        case c1 => rw [hz2']; omega
        case c2 => unfold maxLen; omega
        case c3 => exact hbs3
        intro w4 hown hgrow
        clear hi0 hz0' hz1' hz2'
        obtain ⟨gr, hgr'⟩ : ∃ gr, gr = w3.heap.size := ⟨_, rfl⟩
        rw [← hgr'] at hown ⊢
        have hlt : gr < w4.heap.size := by have := (World.ownsRow.lt hown _ rfl).2; exact this
        have hrow : w4.ownsRow w.heap.size 2 1 (.slice (some ⟨gr, 0, none⟩) xs.length xs.length) xs.length (i64s (List.replicate xs.length 0)) := by
          rw [madeCells_one] at hown
          simpa [i64s] using hown
        have HG4 := Lib.hid (HG3.out.grown hgrow (fun e => by cases e))
        have HZ4 := Lib.hid (HZ3.out.grown hgrow (fun e => by cases e))
        have HA4 := Lib.hid (HA3.out.grown hgrow (fun e => by cases e))
        have HB4 := Lib.hid (HB3.out.grown hgrow hbs3 (by simp))
        have HS4 := Lib.hid (World.ownsRow.kept HS3.out hgrow (.inr (fun e => by cases e)))
        have HO4 := Lib.hid (World.ownsRow.kept HO3.out hgrow (.inr (fun e => by cases e)))
        have HW4 := Lib.hid hrow
        clear hown hgrow hrow HG3 HZ3 HA3 HB3 HS3 HO3
        have HOin := Lib.hid hOin
        have Hup := Lib.hid (zeros_upto xs.length 0 (by omega))
        have Hm : Hid ((mm : Int) ≤ 1000) := hm1
        have Hgr : Hid (w2.heap.size + 1 ≤ gr) := by show _ ≤ _; omega
        clear hOin hbs3 hgr'
        go_wp2
        go_loopw [37] (fun i wr => ∃ (j d : Nat) (k2 a2 b2 : Int) (row : List Int), j + d = mm ∧ i = .int .i64 j ∧ Hid (Sd.ok ⟨k2, a2, b2⟩) ∧ Hid (validB ⟨k2, a2, b2⟩ = true) ∧ SeedAt wr w.heap.size ⟨k2, a2, b2⟩ ∧ SeedAt wr (w.heap.size + 1) ⟨0, 0, 0⟩ ∧ AlAt wr w2.heap.size 33 (.slice (some ⟨gS, 0, none⟩) xs.length c1) (.slice (some ⟨gO, 0, none⟩) xs.length c1') ∧ wr.ownsRow w0.heap.size 40 1 (.slice (some ⟨gS, 0, none⟩) xs.length c1) xs.length (f32s S) ∧ wr.ownsRow w0.heap.size 2 1 (.slice (some ⟨gO, 0, none⟩) xs.length c1') xs.length (i64s O) ∧ wr.ownsRow w.heap.size 2 1 (.slice (some ⟨gr, 0, none⟩) xs.length xs.length) xs.length (i64s row) ∧ Hid (row.length = xs.length) ∧ Hid (Upto row j) ∧ Hid (splitGo S O d ⟨k2, a2, b2⟩ row = splitGo S O mm s0 (List.replicate xs.length 0)) ∧ Below w.heap.size w wr) (fun i _ => mm - (intOf i).toNat)
        case atStart =>
          obtain ⟨k2, a2, b2⟩ := s0
          exact ⟨0, mm, k2, a2, b2, _, by omega, rfl, Hk.out, Hv.out, HG4.out, HZ4.out, HA4.out, HS4.out, HO4.out, HW4.out, by show _ = _; simp, zeros_upto _ _ (by omega), rfl, HB4.out⟩
        case round =>
          obtain ⟨j, d, k2, a2, b2, row, hj, rfl, Ht, Hvt, h1, h2, h3, h4, h5, h6, Hrl, Hu, Hgo, h7⟩ := hrel
          have HG := Lib.hid h1; have HZ := Lib.hid h2; have HA := Lib.hid h3; have HS := Lib.hid h4; have HO' := Lib.hid h5; have HW := Lib.hid h6; have HB' := Lib.hid h7
          have u0 := h1.c0
          have u1 := h1.c1
          have u2 := h1.c2
          simp only at u0 u1 u2
          clear h1 h2 h3 h4 h5 h6 h7
          by_cases hlj : j < mm
          · have hlj' : (j : Int) < (mm : Int) := by omega
            obtain ⟨d, rfl⟩ : ∃ d', d = d' + 1 := ⟨d - 1, by omega⟩
            have x0 := HA.out.c0
            have x1 := HA.out.c1
            go_wp2_with fail
            refine (implAliasSeed_any k2 a2 b2 (some ⟨gS, 0, none⟩) xs.length c1 (some ⟨gO, 0, none⟩) xs.length c1' _ S O _ Ht.out (Rd.of_own HS.out) (Rd.of_own HO'.out) (Nat.le_refl _) hn hn).mono ?_
            rintro e w5 ⟨k3, a3, b3, y, ok, rfl, hok, hsd, hy, hb5⟩
            have hal : aliasSeed ⟨k2, a2, b2⟩ S O = match tried S.length 64 ⟨k2, a2, b2⟩ with | none => none | some (t, i) => some (nextSd t, aliasPick S O (shareOf t) i.toNat) := by unfold aliasSeed; rw [Hvt.out, Hval.out]; rfl
            clear u0 u1 u2 x0 x1
            have hg6 := (HG.out.below hb5 HG.out.lt).alloc (.cells #[.int .i64 k3, .int .u64 a3, .int .u64 b3] 26)
            have hz6 := (HZ.out.below hb5 HZ.out.lt).alloc (.cells #[.int .i64 k3, .int .u64 a3, .int .u64 b3] 26)
            have ha6 := (HA.out.below hb5 HA.out.lt).alloc (.cells #[.int .i64 k3, .int .u64 a3, .int .u64 b3] 26)
            have hB5 := HB'.out.trans (hb5.mono HB'.out.size)
            have hB6 := hB5.alloc hB5.size (.cells #[.int .i64 k3, .int .u64 a3, .int .u64 b3] 26)
            have gb : wr.grownBy w5 none := ⟨hb5.os, hb5.tape, hb5.output, hb5.size, fun k hk _ => hb5.block k hk⟩
            have hS6 := World.ownsRow.alloc (World.ownsRow.kept HS.out gb (.inr (fun e => by cases e))) (.cells #[.int .i64 k3, .int .u64 a3, .int .u64 b3] 26)
            have hO6 := World.ownsRow.alloc (World.ownsRow.kept HO'.out gb (.inr (fun e => by cases e))) (.cells #[.int .i64 k3, .int .u64 a3, .int .u64 b3] 26)
            have hW6 := World.ownsRow.alloc (World.ownsRow.kept HW.out gb (.inr (fun e => by cases e))) (.cells #[.int .i64 k3, .int .u64 a3, .int .u64 b3] 26)
            have hn6 := SeedAt.new w5 k3 a3 b3
            cases ht : tried S.length 64 ⟨k2, a2, b2⟩ with
            | none =>
              rw [hal, ht] at hok
              obtain rfl : ok = false := hok.out
              have Hn : Hid (splitR ⟨k0, a0, b0⟩ mm xs = none) := by show _ = _; rw [hfin.out, ← Hgo.out, splitGo_none ht]
              have Hz6 := Lib.hid hz6; have HB6 := Lib.hid hB6
              have z0 := hz6.c0
              have z1 := hz6.c1
              have z2 := hz6.c2
              have v0 := hz6.fz 0
              have v1 := hz6.fz 1
              have v2 := hz6.fz 2
              simp only at z0 z1 z2
              clear ht hok hsd hy hal hb5 hg6 hz6 ha6 hB5 hB6 gb hS6 hO6 hW6 hn6
              go_wp2
              (try simp only [Exit.inBlock, Exit.then])
              refine bodyPost_ret (results_s3 rfl _ rfl (Hz6.out.set3 0 0 0)) rfl ?_
              exact gaveSLB_no Hn.out (below_set3 HB6.out (by omega) _ _ _)
            | some r =>
              obtain ⟨t', p⟩ := r
              rw [hal, ht] at hok hsd hy
              obtain rfl : ok = true := hok.out
              have hsd' : (⟨k3, a3, b3⟩ : Sd) = nextSd t' := hsd.out
              have hy' : y = aliasPick S O (shareOf t') p.toNat := hy.out
              have hp := tried_lt (by omega) ht
              have Ht5 : Hid (Sd.ok ⟨k3, a3, b3⟩) := by show Sd.ok _; rw [hsd']; exact nextSd_ok (tried_ok Ht.out ht)
              have Hv5 : Hid (validB ⟨k3, a3, b3⟩ = true) := by show _ = _; rw [hsd', validB_next (tried_ok Ht.out ht), tried_valid' Ht.out ht, Hvt.out]
              have hin := pick_in HOin.out (i := p.toNat) (by omega) (by omega) (shareOf t')
              rw [← hy'] at hin
              obtain ⟨hp0, hp1⟩ := hin
              obtain ⟨q, rfl⟩ : ∃ q : Nat, y = q := ⟨y.toNat, by omega⟩
              have Hgo2 : Hid (splitGo S O d ⟨k3, a3, b3⟩ (cntAt row q) = splitGo S O mm s0 (List.replicate xs.length 0)) := by show _ = _; rw [← Hgo.out, splitGo_some ht, ← hy', hsd']
              have hql : q < xs.length := by omega
              have hql' : (q : Int) < (xs.length : Int) := by omega
              obtain ⟨x, hx⟩ : ∃ x, row[q]? = some x := ⟨_, List.getElem?_eq_getElem (by rw [Hrl.out]; exact hql)⟩
              obtain ⟨hx0, hx1⟩ := Hu.out q x hx
              have hsz6 := hb5.size
              have hgr7 := grown_set3 (w5.alloc (.cells #[.int .i64 k3, .int .u64 a3, .int .u64 b3] 26)) w.heap.size k3 a3 b3
              have hG7 := hg6.set3 k3 a3 b3
              have hW7 := own_off hW6 hgr7 (by have := Hgr.out; omega)
              have hcx := (World.ownsRow.cellAt hW7 q (by omega)).trans (i64s_get' hx)
              have hfx := World.ownsRow.frozenAt hW7 q
              have hst := World.ownsRow.stored hW7 q (.int .i64 (x + 1))
              rw [i64s_set, show row.set q (x + 1) = cntAt row q by unfold cntAt; rw [Int.toNat_natCast, List.getD_eq_getElem?_getD, hx]; rfl] at hst
              have hgrb := Hgr.out
              have HW8 := Lib.hid hst.1
              have HG8 := Lib.hid (hG7.grown hst.2 (fun e => by injection e with e; omega))
              have HZ8 := Lib.hid ((hz6.grown hgr7 (fun e => by injection e with e; omega)).grown hst.2 (fun e => by injection e with e; omega))
              have HA8 := Lib.hid ((ha6.grown hgr7 (fun e => by injection e with e; omega)).grown hst.2 (fun e => by injection e with e; omega))
              have HS8 := Lib.hid (own_off (own_off hS6 hgr7 (by omega)) hst.2 (by omega))
              have HO8 := Lib.hid (own_off (own_off hO6 hgr7 (by omega)) hst.2 (by omega))
              have hB7 := hB6.grown hgr7 hB6.size (fun q hq => by injection hq with hq; omega)
              have HB8 := Lib.hid (hB7.grown hst.2 hB7.size (fun q hq => by injection hq with hq; omega))
              have Hrl6 : Hid ((cntAt row q).length = xs.length) := by show _ = _; rw [cntAt_len]; exact Hrl.out
              have Hu6 : Hid (Upto (cntAt row q) ((j + 1 : Nat) : Int)) := Hu.out.cnt q (by omega)
              have hxb : x ≤ 1000 := by have := Hm.out; omega
              have n0 := hn6.c0
              have n1 := hn6.c1
              have n2 := hn6.c2
              have g0 := hg6.c0
              have g1 := hg6.c1
              have g2 := hg6.c2
              have gf0 := hg6.fz 0
              have gf1 := hg6.fz 1
              have gf2 := hg6.fz 2
              simp only at n0 n1 n2 g0 g1 g2
              clear ht hok hsd hy hal hb5 hg6 hz6 ha6 hB5 hB6 gb hS6 hO6 hW6 hn6 hsd' hy' hx hst hG7 hW7 hgr7 hB7 hx1 hgrb hsz6
              go_wp2
              go_roundw
              case rel => exact ⟨j + 1, d, k3, a3, b3, cntAt row q, by omega, by go_num, Ht5.out, Hv5.out, HG8.out, HZ8.out, HA8.out, HS8.out, HO8.out, HW8.out, Hrl6.out, Hu6.out, Hgo2.out, HB8.out⟩
              case measure => simp only [intOf]; omega
          · obtain rfl : d = 0 := by omega
            have z0 := HZ.out.c0
            have z1 := HZ.out.c1
            have z2 := HZ.out.c2
            have v0 := HZ.out.fz 0
            have v1 := HZ.out.fz 1
            have v2 := HZ.out.fz 2
            simp only at z0 z1 z2
            have hO9 : Own wr w.heap.size 2 (.slice (some ⟨gr, 0, none⟩) xs.length xs.length) (i64s row) := by unfold Own; rw [i64s_length, Hrl.out]; exact HW.out
            have HO9 := Lib.hid hO9
            have hgn : gr ≠ w.heap.size + 1 := by have := Hgr.out; omega
            clear hO9
            go_wp2
            (try simp only [Exit.inBlock, Exit.then])
            refine bodyPost_ret (results_s3 rfl _ rfl (HZ.out.set3 k2 a2 b2)) rfl ?_
            exact gaveSLB_so (s := ⟨k2, a2, b2⟩) (by rw [hfin.out, ← Hgo.out]; rfl) (HO9.out.kept (grown_set3 _ _ _ _ _) (.inr (fun e => by injection e with e; exact hgn e))) (below_set3 HB'.out (by omega) _ _ _)
end Go.Proofs.Ytgemcjcghnpmdaa
