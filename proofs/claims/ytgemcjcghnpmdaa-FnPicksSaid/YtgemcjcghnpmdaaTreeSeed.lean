/- TreeSeed: an index drawn by the weights of a tree. -/
import Derived.Test.YtgemcjcghnpmdaaTreeSumW
import Derived.Test.YtgemcjcghnpmdaaShapesS
namespace Go.Proofs.Ytgemcjcghnpmdaa
open Go.RowKit
/-- The index at which the sum of the weights goes beyond x. -/
def findAt : List Int → Int → Int
  | [], _ => 0
  | w :: ws, x => if w ≤ x then 1 + findAt ws (x - w) else 0
theorem findAt_step {ws : List Int} {i : Nat} {y w : Int} (hw : ws[i]? = some w) (h : w ≤ y) : (i : Int) + findAt (ws.drop i) y = ((i + 1 : Nat) : Int) + findAt (ws.drop (i + 1)) (y - w) := by
  have hlt : i < ws.length := (List.getElem?_eq_some_iff.1 hw).1
  rw [List.drop_eq_getElem_cons hlt]
  have : ws[i] = w := by rw [List.getElem?_eq_getElem hlt] at hw; exact Option.some.inj hw
  rw [this, findAt, if_pos h]
  omega
theorem findAt_stop {ws : List Int} {i : Nat} {y w : Int} (hw : ws[i]? = some w) (h : ¬ w ≤ y) : (i : Int) + findAt (ws.drop i) y = i := by
  have hlt : i < ws.length := (List.getElem?_eq_some_iff.1 hw).1
  rw [List.drop_eq_getElem_cons hlt]
  have : ws[i] = w := by rw [List.getElem?_eq_getElem hlt] at hw; exact Option.some.inj hw
  rw [this, findAt, if_neg h]
  omega
def treeSeed (s : Sd) (xs : List Int) : Option (Sd × Int) :=
  match treeLeaves xs with
  | none => none
  | some ws => (belowS s (sumI (seg ws 0 ws.length))).map fun r => (r.1, findAt ws r.2)
theorem belowS_some {s t : Sd} {n x : Int} (h : belowS s n = some (t, x)) : (1 ≤ n ∧ n ≤ 4294967296) ∧ 0 ≤ x ∧ x < n := by
  unfold belowS at h
  split at h
  · rename_i hc
    simp only [Bool.and_eq_true] at hc
    have h1 := inB_true hc.2
    exact ⟨h1, tried_lt (by omega) h⟩
  · cases h
set_option maxHeartbeats 1000000 in
theorem implTreeSeed_any : FnSL_SNB 23 treeSeed := by
  intro k0 a0 b0 A n c B xs w hs h hB hn hf hcap
  have hl := h.lenI
  obtain rfl : xs.length = n := hl.out
  clear hl
  have hz0 : ((w.alloc (.cells #[.int .i64 k0, .int .u64 a0, .int .u64 b0] 26)).alloc (.cells #[.int .i64 0, .int .u64 0, .int .u64 0] 26)).heap.size = w.heap.size + 2 := by rw [size_alloc', size_alloc']
  have hb0 : Below w.heap.size w ((w.alloc (.cells #[.int .i64 k0, .int .u64 a0, .int .u64 b0] 26)).alloc (.cells #[.int .i64 0, .int .u64 0, .int .u64 0] 26)) := ((Below.refl _ _).alloc (Nat.le_refl _) _).alloc (by rw [size_alloc']; omega) _
  have hg0 : SeedAt ((w.alloc (.cells #[.int .i64 k0, .int .u64 a0, .int .u64 b0] 26)).alloc (.cells #[.int .i64 0, .int .u64 0, .int .u64 0] 26)) w.heap.size ⟨k0, a0, b0⟩ := (SeedAt.new w k0 a0 b0).alloc _
  have hz1 : SeedAt ((w.alloc (.cells #[.int .i64 k0, .int .u64 a0, .int .u64 b0] 26)).alloc (.cells #[.int .i64 0, .int .u64 0, .int .u64 0] 26)) (w.heap.size + 1) ⟨0, 0, 0⟩ := SeedAt.new1 w _ 0 0 0
  have hr0 := h.below hb0 hB
  have H0 := Lib.hid h; have HB0 := Lib.hid hb0; have HG0 := Lib.hid hg0; have HZ0 := Lib.hid hz1; have HR0 := Lib.hid hr0; have Hsz := Lib.hid hz0; have Hs := Lib.hid hs; have Hf := Lib.hid hf
  have hBs : B ≤ w.heap.size := hB
  clear h hb0 hg0 hz1 hr0 hz0 hs hf
  go_enter Try.func23, Try.ntmps23
  go_wp2_with fail
  refine (weightsOf_any A xs.length c B xs _ HR0.out (Nat.le_trans hBs HB0.out.size) hn).mono ?_
  cases hr : treeLeaves xs with
  | none =>
    rintro e w2 ⟨v, ok, ws, rfl, hok, -, ho, hb⟩
    obtain rfl : ok = false := hok.out
    have hz2 := HZ0.out.below hb (by rw [Hsz.out]; omega)
    have HB2 := Lib.hid (HB0.out.trans (hb.mono HB0.out.size))
    have Hr : Hid (treeSeed ⟨k0, a0, b0⟩ xs = none) := by show _ = _; unfold treeSeed; rw [hr]
    have u0 := hz2.c0
    have u1 := hz2.c1
    have u2 := hz2.c2
    have v0 := hz2.fz 0
    have v1 := hz2.fz 1
    have v2 := hz2.fz 2
    clear ho hb hr hok
    go_wp2
    (try simp only [Exit.inBlock, Exit.then])
    refine bodyPost_ret (results_s3 rfl _ rfl (hz2.set3 0 0 0)) rfl ?_
    exact gaveSNB_none Hr.out (below_set3 HB2.out (by omega) _ _ _)
  | some ws =>
    obtain ⟨hwl, hwa⟩ := treeLeaves_some hr
    obtain ⟨h1, h64, hall⟩ := areW_parts hwa
    have Hall := Lib.hid hall
    have Hr : Hid (treeSeed ⟨k0, a0, b0⟩ xs = (belowS ⟨k0, a0, b0⟩ (sumI (seg ws 0 ws.length))).map fun r => (r.1, findAt ws r.2)) := by show _ = _; unfold treeSeed; rw [hr]
    have Hts : Hid (treeSum xs (xs.length : Int) = some (sumI (seg ws 0 ws.length))) := by
      show _ = _
      unfold treeSum
      rw [hr]
      simp only
      rw [if_pos (inB_mk ⟨by omega, by omega⟩), Int.toNat_natCast, hwl]
    rintro e w2 ⟨v, ok, ws', rfl, hok, hws, ho, hb⟩
    obtain rfl : ok = true := hok.out
    obtain rfl : ws = ws' := (Option.some.inj (hws.out rfl)).symm
    obtain ⟨A', c', rfl, hcap'⟩ := ho.shapeI
    have HZ2 := Lib.hid (HZ0.out.below hb (by rw [Hsz.out]; omega))
    have HG2 := Lib.hid (HG0.out.below hb (by rw [Hsz.out]; omega))
    have HB2 := Lib.hid (HB0.out.trans (hb.mono HB0.out.size))
    have HR2 := Lib.hid (HR0.out.below hb (Nat.le_trans hBs HB0.out.size))
    have HO2 := Lib.hid ho
    have hsz2 : B ≤ w2.heap.size := Nat.le_trans hBs HB2.out.size
    clear ho hb hr hok hws hwa hall hwl
    go_wp2_with fail
    refine (implTreeSum A xs.length c B xs (xs.length : Int) _ HR2.out hsz2 hn Hf.out hcap (by omega)).mono ?_
    rw [Hts.out]
    rintro e w3 ⟨sm, ok2, rfl, hok2, hsm, hb3⟩
    obtain rfl : ok2 = true := hok2.out
    obtain rfl : sm = sumI (seg ws 0 ws.length) := hsm.out
    have HZ3 := Lib.hid (HZ2.out.below hb3 HZ2.out.lt)
    have HG3 := Lib.hid (HG2.out.below hb3 HG2.out.lt)
    have HB3 := Lib.hid (HB2.out.trans (hb3.mono HB2.out.size))
    have HO3 := Lib.hid (HO2.out.below hb3 (Nat.le_refl _))
    clear hb3 hok2 hsm
    have hbd := seg_bd ws 0 ws.length Hall.out 64 (by omega)
    obtain ⟨sm, hsmd⟩ : ∃ sm, sm = sumI (seg ws 0 ws.length) := ⟨_, rfl⟩
    rw [← hsmd] at hbd Hr ⊢
    have Hsm := Lib.hid hsmd
    clear hsmd
    have c0 := HG3.out.c0
    have c1 := HG3.out.c1
    have c2 := HG3.out.c2
    simp only at c0 c1 c2
    go_wp2_with fail
    refine (implBelow_any ⟨k0, a0, b0⟩ sm _ Hs.out (by omega)).mono ?_
    rintro e w4 ⟨k1, a1, b1, x, ok, rfl, hok, hsd, hx, hb4⟩
    have hg4 := HG3.out.below hb4 HG3.out.lt
    have HZ4 := Lib.hid (HZ3.out.below hb4 HZ3.out.lt)
    have HB4 := Lib.hid (HB3.out.trans (hb4.mono HB3.out.size))
    have HO4 := Lib.hid (HO3.out.below hb4 (Nat.le_refl _))
    clear hb4 c0 c1 c2
    have f0 := hg4.fz 0
    have f1 := hg4.fz 1
    have f2 := hg4.fz 2
    have c0 := hg4.c0
    have c1 := hg4.c1
    have c2 := hg4.c2
    have u0 := HZ4.out.c0
    have u1 := HZ4.out.c1
    have u2 := HZ4.out.c2
    have v0 := HZ4.out.fz 0
    have v1 := HZ4.out.fz 1
    have v2 := HZ4.out.fz 2
    simp only at c0 c1 c2
    have Hz5 := Lib.hid (HZ4.out.far3 (g' := w.heap.size) (by omega) k1 a1 b1)
    have Hg5 := Lib.hid (hg4.set3 k1 a1 b1)
    have HB5 := Lib.hid (below_set3 HB4.out (Nat.le_refl _) k1 a1 b1)
    cases hbs : belowS ⟨k0, a0, b0⟩ sm with
    | none =>
      rw [hbs] at hok hsd hx
      obtain rfl : ok = false := hok.out
      have Hn : Hid (treeSeed ⟨k0, a0, b0⟩ xs = none) := by show _ = _; rw [Hr.out, hbs]; rfl
      clear hbs hg4
      go_wp2
      (try simp only [Exit.inBlock, Exit.then])
      refine bodyPost_ret (results_s3 rfl _ rfl (Hz5.out.set3 0 0 0)) rfl ?_
      exact gaveSNB_none Hn.out (below_set3 HB5.out (by omega) _ _ _)
    | some r =>
      obtain ⟨t, x'⟩ := r
      obtain ⟨hb1, hx0, hx1⟩ := belowS_some hbs
      have Hn : Hid (treeSeed ⟨k0, a0, b0⟩ xs = some (t, findAt ws x')) := by show _ = _; rw [Hr.out, hbs]; rfl
      rw [hbs] at hok hsd hx
      obtain rfl : ok = true := hok.out
      obtain rfl : x = x' := hx.out
      obtain rfl : (⟨k1, a1, b1⟩ : Sd) = t := hsd.out
      clear hbs hg4 hok hsd hx
      have HO5 := Lib.hid (HO4.out.kept (grown_set3 w4 w.heap.size k1 a1 b1) (.inr (fun e => by have := (HO4.out.lt _ e).1; rw [Hsz.out] at this; omega)))
      have hcw : ws.length ≤ c' ∧ c' ≤ maxLen := hcap'.out
      unfold maxLen at hcw
      go_wp2
      generalize (((w4.setCell ⟨w.heap.size, 0, none⟩ (.int .i64 k1)).setCell ⟨w.heap.size, 1, none⟩ (.int .u64 a1)).setCell ⟨w.heap.size, 2, none⟩ (.int .u64 b1)) = w5 at Hz5 Hg5 HB5 HO5 ⊢
      clear c0 c1 c2 f0 f1 f2 u0 u1 u2 v0 v1 v2
      go_loop [11, 12] (fun y i => ∃ (j : Nat) (q : Int), j < ws.length ∧ i = .int .i64 j ∧ y = .int .i64 q ∧ Hid (q = x - sumI (seg ws 0 j)) ∧ 0 ≤ q ∧ q ≤ 64000000 ∧ Hid (findAt ws x = (j : Int) + findAt (ws.drop j) q)) (fun _ i => ws.length - (intOf i).toNat)
      case atStart => exact ⟨0, x, by omega, rfl, rfl, by show _ = _; rw [seg_self]; simp [sumI], hx0, by omega, by show _ = _; simp⟩
      case round =>
        obtain ⟨j, q, hj, rfl, rfl, hq, hq0, hq1, hfa⟩ := hrel
        obtain ⟨bb, off, wt, rfl, -, hwt, hc⟩ := HO5.out.rdI.atI (k := j) hj
        have hwb : 0 ≤ wt ∧ wt ≤ 1000000 := by
          have := hwt.out
          cases hin : inB wt 0 1000000 with
          | true => exact inB_true hin
          | false => have h2 := allW_false this hin; rw [Hall.out] at h2; cases h2
        by_cases hle : wt ≤ q
        · have hsum : q - wt = x - sumI (seg ws 0 (j + 1)) := by rw [seg_succ hwt.out (by omega), sumI_snoc, hq.out]; omega
          have hj1 : j + 1 < ws.length := by
            by_cases hjj : j + 1 < ws.length
            · exact hjj
            · have e1 : j + 1 = ws.length := by omega
              rw [e1, ← Hsm.out] at hsum
              omega
          have Hsum := Lib.hid hsum
          have Hst := Lib.hid (findAt_step hwt.out hle)
          have hji : (j : Int) < (ws.length : Int) := by omega
          clear hsum
          go_wp2
          go_round
          case rel => exact ⟨j + 1, q - wt, hj1, by go_num, rfl, Hsum, by omega, by omega, by show _ = _; rw [hfa.out, Hst.out]⟩
          case measure => simp only [intOf]; omega
        · have Hst := Lib.hid (findAt_stop hwt.out hle)
          have hji : (j : Int) < (ws.length : Int) := by omega
          have c0 := Hg5.out.c0
          have c1 := Hg5.out.c1
          have c2 := Hg5.out.c2
          have u0 := Hz5.out.c0
          have u1 := Hz5.out.c1
          have u2 := Hz5.out.c2
          have v0 := Hz5.out.fz 0
          have v1 := Hz5.out.fz 1
          have v2 := Hz5.out.fz 2
          simp only at c0 c1 c2
          go_wp2
          (try simp only [Exit.inBlock, Exit.then])
          refine bodyPost_ret (results_s3 rfl _ rfl (Hz5.out.set3 _ _ _)) rfl ?_
          exact gaveSNB_some (s := ⟨k1, a1, b1⟩) (by rw [Hn.out, hfa.out, Hst.out]) (below_set3 HB5.out (by omega) _ _ _)
set_option maxHeartbeats 1000000 in
theorem specTreeSeed_any : FnSL_SNB 24 treeSeed := by
  intro k0 a0 b0 A n c B xs w hs h hB hn hf hcap
  have hl := h.lenI
  obtain rfl : xs.length = n := hl.out
  clear hl
  have hz0 : ((w.alloc (.cells #[.int .i64 k0, .int .u64 a0, .int .u64 b0] 26)).alloc (.cells #[.int .i64 0, .int .u64 0, .int .u64 0] 26)).heap.size = w.heap.size + 2 := by rw [size_alloc', size_alloc']
  have hb0 : Below w.heap.size w ((w.alloc (.cells #[.int .i64 k0, .int .u64 a0, .int .u64 b0] 26)).alloc (.cells #[.int .i64 0, .int .u64 0, .int .u64 0] 26)) := ((Below.refl _ _).alloc (Nat.le_refl _) _).alloc (by rw [size_alloc']; omega) _
  have hg0 : SeedAt ((w.alloc (.cells #[.int .i64 k0, .int .u64 a0, .int .u64 b0] 26)).alloc (.cells #[.int .i64 0, .int .u64 0, .int .u64 0] 26)) w.heap.size ⟨k0, a0, b0⟩ := (SeedAt.new w k0 a0 b0).alloc _
  have hz1 : SeedAt ((w.alloc (.cells #[.int .i64 k0, .int .u64 a0, .int .u64 b0] 26)).alloc (.cells #[.int .i64 0, .int .u64 0, .int .u64 0] 26)) (w.heap.size + 1) ⟨0, 0, 0⟩ := SeedAt.new1 w _ 0 0 0
  have hr0 := h.below hb0 hB
  have HB0 := Lib.hid hb0; have HG0 := Lib.hid hg0; have HZ0 := Lib.hid hz1; have HR0 := Lib.hid hr0; have Hsz := Lib.hid hz0; have Hs := Lib.hid hs
  have hBs : B ≤ w.heap.size := hB
  clear h hb0 hg0 hz1 hr0 hz0 hs hf
  go_enter Try.func24, Try.ntmps24
  go_wp2_with fail
  refine (l03Leaves_any A xs.length c B xs _ HR0.out (Nat.le_trans hBs HB0.out.size) hn).mono ?_
  rintro e w2 ⟨v, ok, rfl, hok, ho, hb⟩
  have HZ2 := Lib.hid (HZ0.out.below hb (by rw [Hsz.out]; omega))
  have HG2 := Lib.hid (HG0.out.below hb (by rw [Hsz.out]; omega))
  have HB2 := Lib.hid (HB0.out.trans (hb.mono HB0.out.size))
  have Ho := Lib.hid ho; have Hok := hok
  clear ho hb hok
  have u0 := HZ2.out.c0
  have u1 := HZ2.out.c1
  have u2 := HZ2.out.c2
  have v0 := HZ2.out.fz 0
  have v1 := HZ2.out.fz 1
  have v2 := HZ2.out.fz 2
  simp only at u0 u1 u2
  go_wp2_with fail
  refine (specIs_any ⟨k0, a0, b0⟩ _ _ Hs.out HG2.out).mono ?_
  rintro e w3 ⟨rfl, rfl⟩
  cases hv : validB ⟨k0, a0, b0⟩ with
  | false =>
    have Hn : Hid (treeSeed ⟨k0, a0, b0⟩ xs = none) := by
      show _ = _
      unfold treeSeed
      cases treeLeaves xs with
      | none => rfl
      | some ws => simp [belowS, hv]
    go_wp2
    (try simp only [Exit.inBlock, Exit.then])
    refine bodyPost_ret (results_s3 rfl _ rfl (HZ2.out.set3 0 0 0)) rfl ?_
    exact gaveSNB_none Hn.out (below_set3 HB2.out (by omega) _ _ _)
  | true =>
    have Hv := Lib.hid hv
    clear hv
    cases hr : treeLeaves xs with
    | none =>
      have Hn : Hid (treeSeed ⟨k0, a0, b0⟩ xs = none) := by show _ = _; unfold treeSeed; rw [hr]
      rw [hr] at Hok
      obtain rfl : ok = false := Hok.out
      clear hr
      go_wp2
      (try simp only [Exit.inBlock, Exit.then])
      refine bodyPost_ret (results_s3 rfl _ rfl (HZ2.out.set3 0 0 0)) rfl ?_
      exact gaveSNB_none Hn.out (below_set3 HB2.out (by omega) _ _ _)
    | some ws =>
      obtain ⟨hwl, hwa⟩ := treeLeaves_some hr
      obtain ⟨h1, h64, hall⟩ := areW_parts hwa
      have Hall := Lib.hid hall
      have Hr : Hid (treeSeed ⟨k0, a0, b0⟩ xs = (belowS ⟨k0, a0, b0⟩ (sumI (seg ws 0 ws.length))).map fun r => (r.1, findAt ws r.2)) := by show _ = _; unfold treeSeed; rw [hr]
      rw [hr] at Hok Ho
      obtain rfl : ok = true := Hok.out
      have ho := Ho.out
      simp only [Option.getD_some] at ho
      obtain ⟨A', c', rfl, hcap'⟩ := ho.shapeI
      have HO2 := Lib.hid ho
      clear hr Ho Hok ho hwa hall hwl
      go_wp2_with fail
      refine (l03First_any A' ws.length c' _ ws.length ws _ HO2.out.rdI h64 Hall.out (Nat.le_refl _)).mono ?_
      rintro e w3 ⟨rfl, rfl⟩
      have hbd := seg_bd ws 0 ws.length Hall.out 64 (by omega)
      obtain ⟨sm, hsmd⟩ : ∃ sm, sm = sumI (seg ws 0 ws.length) := ⟨_, rfl⟩
      rw [← hsmd] at hbd Hr ⊢
      have Hsm := Lib.hid hsmd
      clear hsmd
      by_cases hsm1 : 1 ≤ sm
      · have hbl : belowS ⟨k0, a0, b0⟩ sm = tried sm 64 ⟨k0, a0, b0⟩ := by unfold belowS; rw [Hv.out, inB_mk ⟨hsm1, by omega⟩]; rfl
        rw [hbl] at Hr
        clear hbl u0 u1 u2 v0 v1 v2
        go_wp2_with fail
        refine (specTried_any ⟨k0, a0, b0⟩ _ sm _ Hs.out (by omega) HG2.out).mono ?_
        rintro e w4 ⟨x, ok, rfl, hok, hx, ⟨s', hg4, hs', hse⟩, hgr⟩
        have HZ4 := Lib.hid (HZ2.out.grown hgr (by simp))
        have HB4 := Lib.hid (HB2.out.grown hgr HB2.out.size (fun _ h => by cases h; exact Nat.le_refl _))
        have HO4 := Lib.hid (HO2.out.kept hgr (.inr (fun e => by have := (HO2.out.lt _ e).1; rw [Hsz.out] at this; omega)))
        have u0 := HZ4.out.c0
        have u1 := HZ4.out.c1
        have u2 := HZ4.out.c2
        have v0 := HZ4.out.fz 0
        have v1 := HZ4.out.fz 1
        have v2 := HZ4.out.fz 2
        simp only at u0 u1 u2
        clear hgr
        cases hbs : tried sm 64 ⟨k0, a0, b0⟩ with
        | none =>
          rw [hbs] at hok
          obtain rfl : ok = false := hok.out
          have Hn : Hid (treeSeed ⟨k0, a0, b0⟩ xs = none) := by show _ = _; rw [Hr.out, hbs]; rfl
          clear hbs hg4 hs' hse hx hok
          go_wp2
          (try simp only [Exit.inBlock, Exit.then])
          refine bodyPost_ret (results_s3 rfl _ rfl (HZ4.out.set3 0 0 0)) rfl ?_
          exact gaveSNB_none Hn.out (below_set3 HB4.out (by omega) _ _ _)
        | some r =>
          obtain ⟨t, x'⟩ := r
          obtain ⟨hx0, hx1⟩ := tried_lt (by omega) hbs
          have Hn : Hid (treeSeed ⟨k0, a0, b0⟩ xs = some (t, findAt ws x')) := by show _ = _; rw [Hr.out, hbs]; rfl
          rw [hbs] at hok hx hse
          obtain rfl : ok = true := hok.out
          obtain rfl : x = x' := hx.out
          obtain rfl : s' = t := hse rfl
          have Hg4 := Lib.hid hg4
          clear hbs hg4 hs' hse hx hok u0 u1 u2 v0 v1 v2
          have hcw : ws.length ≤ c' ∧ c' ≤ maxLen := hcap'.out
          unfold maxLen at hcw
          go_wp2
          go_loop [12] (fun i => ∃ (j : Nat), j < ws.length ∧ i = .int .i64 j ∧ Hid (sumI (seg ws 0 j) ≤ x) ∧ Hid (findAt ws x = (j : Int) + findAt (ws.drop j) (x - sumI (seg ws 0 j)))) (fun i => ws.length - (intOf i).toNat)
          case atStart => exact ⟨0, by omega, rfl, by show _ ≤ _; rw [seg_self]; exact hx0, by show _ = _; rw [seg_self]; simp [sumI]⟩
          case round =>
            obtain ⟨j, hj, rfl, hle0, hfa⟩ := hrel
            obtain ⟨bb, off, wt, -, -, hwt, -⟩ := HO4.out.rdI.atI (k := j) hj
            have hsum : sumI (seg ws 0 (j + 1)) = sumI (seg ws 0 j) + wt := by rw [seg_succ hwt.out (by omega), sumI_snoc]
            have Hsum := Lib.hid hsum
            clear hsum
            go_wp2_with fail
            refine (l03First_any A' ws.length c' _ (j + 1) ws _ HO4.out.rdI h64 Hall.out hj).mono ?_
            rintro e w5 ⟨rfl, rfl⟩
            obtain ⟨s1, hs1⟩ : ∃ s1, s1 = sumI (seg ws 0 (j + 1)) := ⟨_, rfl⟩
            rw [← hs1]
            have Hs1 := Lib.hid hs1
            clear hs1
            by_cases hle : s1 ≤ x
            · have hj1 : j + 1 < ws.length := by
                by_cases hjj : j + 1 < ws.length
                · exact hjj
                · have e1 : j + 1 = ws.length := by omega
                  have e2 := Hs1.out
                  rw [e1, ← Hsm.out] at e2
                  omega
              have hwle : wt ≤ x - sumI (seg ws 0 j) := by have := Hsum.out; have := Hs1.out; omega
              have hst := findAt_step hwt.out hwle
              have he : x - sumI (seg ws 0 j) - wt = x - sumI (seg ws 0 (j + 1)) := by have := Hsum.out; omega
              rw [he] at hst
              have Hst := Lib.hid hst
              have Hle : Hid (sumI (seg ws 0 (j + 1)) ≤ x) := by show _ ≤ _; rw [← Hs1.out]; exact hle
              clear hst he hwle
              go_wp2
              go_round
              case rel => exact ⟨j + 1, hj1, by go_num, Hle, by show _ = _; rw [hfa.out, Hst.out]⟩
              case measure => simp only [intOf]; omega
            · have hwle : ¬ wt ≤ x - sumI (seg ws 0 j) := by have := Hsum.out; have := Hs1.out; omega
              have Hst := Lib.hid (findAt_stop hwt.out hwle)
              clear hwle
              have c0 := Hg4.out.c0
              have c1 := Hg4.out.c1
              have c2 := Hg4.out.c2
              have u0 := HZ4.out.c0
              have u1 := HZ4.out.c1
              have u2 := HZ4.out.c2
              have v0 := HZ4.out.fz 0
              have v1 := HZ4.out.fz 1
              have v2 := HZ4.out.fz 2
              simp only at u0 u1 u2
              go_wp2
              (try simp only [Exit.inBlock, Exit.then])
              refine bodyPost_ret (results_s3 rfl _ rfl (HZ4.out.set3 _ _ _)) rfl ?_
              exact gaveSNB_some (by rw [Hn.out, hfa.out, Hst.out]) (below_set3 HB4.out (by omega) _ _ _)
      · have Hn : Hid (treeSeed ⟨k0, a0, b0⟩ xs = none) := by
          show _ = _
          rw [Hr.out]
          unfold belowS
          rw [inB_not (by omega), Bool.and_false]
          rfl
        go_wp2
        (try simp only [Exit.inBlock, Exit.then])
        refine bodyPost_ret (results_s3 rfl _ rfl (HZ2.out.set3 0 0 0)) rfl ?_
        exact gaveSNB_none Hn.out (below_set3 HB2.out (by omega) _ _ _)
end Go.Proofs.Ytgemcjcghnpmdaa
