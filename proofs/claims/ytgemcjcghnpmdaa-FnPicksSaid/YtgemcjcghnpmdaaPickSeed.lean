/- PickSeed: an index drawn by weights. -/
import Derived.Test.YtgemcjcghnpmdaaPicks
import Derived.Test.YtgemcjcghnpmdaaShare
import Derived.Test.YtgemcjcghnpmdaaShapesS
namespace Go.Proofs.Ytgemcjcghnpmdaa
open Go.RowKit
/-- The first index whose sum goes beyond a bound; else the last index with a weight. -/
def pickFrom (bound : Nat) : List Nat → Nat → Nat → Nat → Nat
  | [], _, _, last => last
  | x :: xs, i, all, last => if fgt .f32 (fop .add .f32 all x) bound then i else pickFrom bound xs (i + 1) (fop .add .f32 all x) (if fgt .f32 x 0 then i else last)
theorem pickFrom_drop (bound : Nat) {xs : List Nat} {k x : Nat} (hx : xs[k]? = some x) (all last : Nat) : pickFrom bound (xs.drop k) k all last = if fgt .f32 (fop .add .f32 all x) bound then k else pickFrom bound (xs.drop (k + 1)) (k + 1) (fop .add .f32 all x) (if fgt .f32 x 0 then k else last) := by
  have hlt : k < xs.length := (List.getElem?_eq_some_iff.1 hx).1
  have e : xs[k] = x := by rw [List.getElem?_eq_getElem hlt] at hx; exact Option.some.inj hx
  rw [List.drop_eq_getElem_cons hlt, e, pickFrom]
theorem pickFrom_le (bound : Nat) (xs : List Nat) (i all last n : Nat) (hl : last ≤ n) (hi : i + xs.length ≤ n) : pickFrom bound xs i all last ≤ n := by
  induction xs generalizing i all last with
  | nil => exact hl
  | cons x xs ih =>
    simp only [List.length_cons] at hi
    unfold pickFrom
    split
    · omega
    · refine ih (i + 1) _ _ ?_ (by omega)
      split <;> omega
def pickBound (u : Nat) (xs : List Nat) : Nat := fop .mul .f32 u (sumF xs)
def pickSeed (s : Sd) (xs : List Nat) : Option (Sd × Int) :=
  if validB s && picksB xs then some (nextSd s, (pickFrom (pickBound (shareOf s) xs) xs 0 0 0 : Int)) else none
theorem fop_both {op : BinOp} {k : FloatKind} {x y x' y' : Nat} (hx : cn k x = x') (hy : cn k y = y') : fop op k x y = fop op k x' y' := by
  rw [← hx, ← hy, fop_cn]
theorem fgt_both {k : FloatKind} {x y x' y' : Nat} (hx : cn k x = x') (hy : cn k y = y') : (k.format.order x y == some Ordering.gt) = fgt k x' y' := by
  unfold fgt; rw [← hx, ← hy, order_cn]
set_option maxHeartbeats 1000000 in
theorem pick_any (A : Option Addr) (n c B : Nat) (xs : List Nat) (u : Nat) (w : World) (h : Rd w B A n (f32s xs)) (hn : xs.length ≤ 2000000) :
    Calls Try.prog 40 #[.slice A n c, .float .f32 u] w fun e w' => e = .returned (.int .i64 (pickFrom (pickBound u xs) xs 0 0 0 : Nat)) ∧ ∃ q, w' = w.drewN q := by
  have hl := h.lenF
  obtain rfl : xs.length = n := hl.out
  clear hl
  go_enter Try.func40, Try.ntmps40
  go_wp2_with fail
  refine (sumF_any A xs.length c B xs _ h hn).mono ?_
  rintro e w1 ⟨sm, rfl, hsm, q0, rfl⟩
  have tok : True := trivial
  go_wp2_with (have := tok; clear this tok; refine wpList_fop _ rfl .mul _ _ _ _ rfl rfl .f32 _ _ rfl rfl ?_; intro bd q1 hbd)
  have Hbd : Hid (cn .f32 bd = pickBound u xs) := by show _ = _; rw [hbd.out]; unfold pickBound; rw [← fop_cn .mul .f32 u sm, ← fop_cn .mul .f32 u (sumF xs), hsm.out, sumF_cn]
  clear hbd hsm
  go_loopw [6, 7, 16] (fun a l i wr => ∃ k r last q : Nat, k ≤ xs.length ∧ i = .int .i64 k ∧ a = .float .f32 r ∧ l = .int .i64 last ∧ last ≤ xs.length ∧ Hid (pickFrom (pickBound u xs) xs 0 0 0 = pickFrom (pickBound u xs) (xs.drop k) k (cn .f32 r) last) ∧ wr = w.drewN q) (fun _ _ i _ => xs.length - (intOf i).toNat)
  case atStart => exact ⟨0, 0, 0, q0 + q1, Nat.zero_le _, rfl, rfl, rfl, Nat.zero_le _, by show _ = _; rw [cn_of_not (zero_not_nan .f32)]; rfl, rfl⟩
  case round =>
    obtain ⟨k, r, last, q, hk, rfl, rfl, rfl, hlast, hpf, rfl⟩ := hrel
    by_cases hlt : k < xs.length
    · obtain ⟨b, off, x, rfl, _, hx, hc⟩ := h.atF hlt
      have hlt' : (k : Int) < (xs.length : Int) := by omega
      have hst := pickFrom_drop (pickBound u xs) hx.out (cn .f32 r) last
      have Hst := Lib.hid hst
      clear h hst
      have tok : True := trivial
      go_wp2_with (have := tok; clear this tok; refine wpList_fop _ rfl .add _ _ _ _ rfl rfl .f32 _ _ rfl rfl ?_; intro r2 q2 hr2)
      · rename_i h1
        have hr2c : cn .f32 r2 = fop .add .f32 (cn .f32 r) x := by rw [hr2.out]; exact fop_both rfl rfl |>.trans (by rw [← fop_cn .add .f32 (cn .f32 r) x, cn_cn])
        rw [fgt_both hr2c Hbd.out] at h1
        go_ret
        exact ⟨ret_int (by rw [hpf.out, Hst.out, if_pos h1]), _, rfl⟩
      · rename_i h1 h2
        have hr2c : cn .f32 r2 = fop .add .f32 (cn .f32 r) x := by rw [hr2.out]; exact fop_both rfl rfl |>.trans (by rw [← fop_cn .add .f32 (cn .f32 r) x, cn_cn])
        rw [fgt_both hr2c Hbd.out] at h1
        have h3 : fgt .f32 x 0 = true := h2
        exact ⟨⟨k + 1, r2, k, _, by omega, by go_num, rfl, rfl, by omega, by show _ = _; rw [hpf.out, Hst.out, if_neg (by rw [h1]; decide), if_pos h3, hr2c], rfl⟩, by simp only [intOf]; omega⟩
      · rename_i h1 h2
        have hr2c : cn .f32 r2 = fop .add .f32 (cn .f32 r) x := by rw [hr2.out]; exact fop_both rfl rfl |>.trans (by rw [← fop_cn .add .f32 (cn .f32 r) x, cn_cn])
        rw [fgt_both hr2c Hbd.out] at h1
        have h3 : ¬ fgt .f32 x 0 = true := by unfold fgt; rw [h2]; decide
        exact ⟨⟨k + 1, r2, last, _, by omega, by go_num, rfl, rfl, by omega, by show _ = _; rw [hpf.out, Hst.out, if_neg (by rw [h1]; decide), if_neg h3, hr2c], rfl⟩, by simp only [intOf]; omega⟩
    · obtain rfl : k = xs.length := by omega
      go_wp2
      go_ret
      exact ⟨ret_int (by rw [hpf.out, List.drop_length]; rfl), _, rfl⟩
set_option maxHeartbeats 1000000 in
theorem implPickSeed_any : FnSFl_SNB 13 pickSeed := by
  intro k0 a0 b0 A n c B xs w hs h hB hn hcap
  have hl := h.lenF
  obtain rfl : xs.length = n := hl.out
  clear hl
  have hz0 : ((w.alloc (.cells #[.int .i64 k0, .int .u64 a0, .int .u64 b0] 26)).alloc (.cells #[.int .i64 0, .int .u64 0, .int .u64 0] 26)).heap.size = w.heap.size + 2 := by rw [size_alloc', size_alloc']
  go_enter Try.func13, Try.ntmps13
  go_wp2_with fail
  refine (implValid_any ⟨k0, a0, b0⟩ _ hs).mono ?_
  rintro e w1 ⟨rfl, hb1⟩
  rw [hz0] at hb1
  have hBl : Below w.heap.size w w1 := (((Below.refl _ _).alloc (Nat.le_refl _) _).alloc (by rw [size_alloc']; omega) _).trans (hb1.mono (by omega))
  have hg : SeedAt w1 w.heap.size ⟨k0, a0, b0⟩ := ((SeedAt.new w k0 a0 b0).alloc _).below hb1 (by omega)
  have hz : SeedAt w1 (w.heap.size + 1) ⟨0, 0, 0⟩ := (SeedAt.new1 w _ 0 0 0).below hb1 (by omega)
  clear hz0 hb1
  have HB := Lib.hid hBl; have Hz := Lib.hid hz; have Hg := Lib.hid hg; have Hk : Hid (Sd.ok ⟨k0, a0, b0⟩) := hs
  have HR := Lib.hid (h.below hBl hB)
  have hB1 : B ≤ w1.heap.size := Nat.le_trans hB hBl.size
  clear hBl hz hg hs h
  have u0 := Hz.out.c0
  have u1 := Hz.out.c1
  have u2 := Hz.out.c2
  have v0 := Hz.out.fz 0
  have v1 := Hz.out.fz 1
  have v2 := Hz.out.fz 2
  simp only at u0 u1 u2
  cases hv : validB ⟨k0, a0, b0⟩ with
  | false =>
    have Hn : Hid (pickSeed ⟨k0, a0, b0⟩ xs = none) := by show _ = _; simp [pickSeed, hv]
    go_wp2
    (try simp only [Exit.inBlock, Exit.then])
    refine bodyPost_ret (results_s3 rfl _ rfl (Hz.out.set3 0 0 0)) rfl ?_
    exact gaveSNB_none Hn.out (below_set3 HB.out (by omega) _ _ _)
  | true =>
    have Hv := Lib.hid hv
    clear hv u0 u1 u2 v0 v1 v2
    go_wp2_with fail
    refine (implPicks_any A xs.length c B xs _ HR.out (by omega)).mono ?_
    rintro e w2 ⟨rfl, hb2⟩
    have Hz2 := Lib.hid (Hz.out.below hb2 Hz.out.lt)
    have Hg2 := Lib.hid (Hg.out.below hb2 Hg.out.lt)
    have HB2 := Lib.hid (HB.out.trans (hb2.mono HB.out.size))
    have HR2 := Lib.hid (HR.out.below hb2 hB1)
    have hB2 : B ≤ w2.heap.size := Nat.le_trans hB1 hb2.size
    clear hb2
    cases hp : picksB xs with
    | false =>
      have Hn : Hid (pickSeed ⟨k0, a0, b0⟩ xs = none) := by show _ = _; simp [pickSeed, hp]
      have u0 := Hz2.out.c0
      have u1 := Hz2.out.c1
      have u2 := Hz2.out.c2
      have v0 := Hz2.out.fz 0
      have v1 := Hz2.out.fz 1
      have v2 := Hz2.out.fz 2
      simp only at u0 u1 u2
      go_wp2
      (try simp only [Exit.inBlock, Exit.then])
      refine bodyPost_ret (results_s3 rfl _ rfl (Hz2.out.set3 0 0 0)) rfl ?_
      exact gaveSNB_none Hn.out (below_set3 HB2.out (by omega) _ _ _)
    | true =>
      have Hr : Hid (pickSeed ⟨k0, a0, b0⟩ xs = some (nextSd ⟨k0, a0, b0⟩, (pickFrom (pickBound (shareOf ⟨k0, a0, b0⟩) xs) xs 0 0 0 : Int))) := by show _ = _; simp [pickSeed, Hv.out, hp]
      clear hp
      have c0 := Hg2.out.c0
      have c1 := Hg2.out.c1
      have c2 := Hg2.out.c2
      simp only at c0 c1 c2
      go_wp2_with fail
      refine (implShare_any ⟨k0, a0, b0⟩ _ Hk.out).mono ?_
      rintro e w3 ⟨u, rfl, hu, hb3⟩
      have hg3 := Hg2.out.below hb3 Hg2.out.lt
      have hz3 := Hz2.out.below hb3 Hz2.out.lt
      have HB3 := Lib.hid (HB2.out.trans (hb3.mono HB2.out.size))
      have hr3 := HR2.out.below hb3 hB2
      clear hb3 c0 c1 c2
      obtain ⟨t, ht⟩ : ∃ t, t = nextSd ⟨k0, a0, b0⟩ := ⟨_, rfl⟩
      rw [← ht] at Hr ⊢
      clear ht
      obtain ⟨k1, a1, b1⟩ := t
      unfold Sd.val
      have c0 := hg3.c0
      have c1 := hg3.c1
      have c2 := hg3.c2
      have f0 := hg3.fz 0
      have f1 := hg3.fz 1
      have f2 := hg3.fz 2
      simp only at c0 c1 c2
      have Hg4 := Lib.hid (hg3.set3 k1 a1 b1)
      have Hz4 := Lib.hid (hz3.far3 (g' := w.heap.size) (by omega) k1 a1 b1)
      have HB4 := Lib.hid (below_set3 HB3.out (Nat.le_refl _) k1 a1 b1)
      have HR4 := Lib.hid (((hr3.setCell (p := ⟨w.heap.size, 0, none⟩) hB (.int .i64 k1)).setCell (p := ⟨w.heap.size, 1, none⟩) hB (.int .u64 a1)).setCell (p := ⟨w.heap.size, 2, none⟩) hB (.int .u64 b1))
      go_wp2_with fail
      generalize (((w3.setCell ⟨w.heap.size, 0, none⟩ (.int .i64 k1)).setCell ⟨w.heap.size, 1, none⟩ (.int .u64 a1)).setCell ⟨w.heap.size, 2, none⟩ (.int .u64 b1)) = w5 at Hg4 Hz4 HB4 HR4 ⊢
      clear c0 c1 c2 f0 f1 f2 hg3 hz3 hr3
      have c0 := Hg4.out.c0
      have c1 := Hg4.out.c1
      have c2 := Hg4.out.c2
      have u0 := Hz4.out.c0
      have u1 := Hz4.out.c1
      have u2 := Hz4.out.c2
      have v0 := Hz4.out.fz 0
      have v1 := Hz4.out.fz 1
      have v2 := Hz4.out.fz 2
      have HR6 := Lib.hid (((HR4.out.setCell (p := ⟨w.heap.size + 1, 0, none⟩) (by show B ≤ w.heap.size + 1; omega) (.int .i64 k1)).setCell (p := ⟨w.heap.size + 1, 1, none⟩) (by show B ≤ w.heap.size + 1; omega) (.int .u64 a1)).setCell (p := ⟨w.heap.size + 1, 2, none⟩) (by show B ≤ w.heap.size + 1; omega) (.int .u64 b1))
      have hz6 := Hz4.out.set3 k1 a1 b1
      have hb6 := below_set3 HB4.out (g := w.heap.size + 1) (by omega) k1 a1 b1
      have Hz6 := Lib.hid hz6; have Hb6 := Lib.hid hb6
      clear hz6 hb6
      have hpb : pickBound u xs = pickBound (shareOf ⟨k0, a0, b0⟩) xs := by unfold pickBound; rw [← hu.out, ← fop_cn .mul .f32 u (sumF xs), ← fop_cn .mul .f32 (cn .f32 u) (sumF xs), cn_cn]
      have Hpb := Lib.hid hpb
      clear hpb
      go_region_with (first
        | (refine (pick_any A xs.length c B xs u _ HR4.out.drew (by omega)).mono ?_; rintro e w7 ⟨rfl, q, rfl⟩)
        | (refine (pick_any A xs.length c B xs u _ HR6.out.drew (by omega)).mono ?_; rintro e w7 ⟨rfl, q, rfl⟩)
        | (refine (pick_any A xs.length c B xs u (((w5.drew.setCell ⟨w.heap.size + 1, 0, none⟩ (.int .i64 k1)).setCell ⟨w.heap.size + 1, 1, none⟩ (.int .u64 a1)).setCell ⟨w.heap.size + 1, 2, none⟩ (.int .u64 b1)) HR6.out (by omega)).mono ?_; rintro e w7 ⟨rfl, q, rfl⟩))
      all_goals go_wp2
      all_goals
        (try simp only [Exit.inBlock, Exit.then])
        refine bodyPost_ret (results_s3 (s := ⟨k1, a1, b1⟩) (g := w.heap.size + 1) rfl _ rfl (by exact Hz6.out)) rfl ?_
        exact gaveSNB_some (s := ⟨k1, a1, b1⟩) (by rw [Hr.out, ← Hpb.out]) ⟨Hb6.out.os, Hb6.out.tape, Hb6.out.output, Hb6.out.size, Hb6.out.block⟩
set_option maxHeartbeats 1000000 in
theorem specPickSeed_any : FnSFl_SNB 14 pickSeed := by
  intro k0 a0 b0 A n c B xs w hs h hB hn hcap
  have hl := h.lenF
  obtain rfl : xs.length = n := hl.out
  clear hl
  have hz0 : ((w.alloc (.cells #[.int .i64 k0, .int .u64 a0, .int .u64 b0] 26)).alloc (.cells #[.int .i64 0, .int .u64 0, .int .u64 0] 26)).heap.size = w.heap.size + 2 := by rw [size_alloc', size_alloc']
  have hg : SeedAt ((w.alloc (.cells #[.int .i64 k0, .int .u64 a0, .int .u64 b0] 26)).alloc (.cells #[.int .i64 0, .int .u64 0, .int .u64 0] 26)) w.heap.size ⟨k0, a0, b0⟩ := (SeedAt.new w k0 a0 b0).alloc _
  have hz : SeedAt ((w.alloc (.cells #[.int .i64 k0, .int .u64 a0, .int .u64 b0] 26)).alloc (.cells #[.int .i64 0, .int .u64 0, .int .u64 0] 26)) (w.heap.size + 1) ⟨0, 0, 0⟩ := SeedAt.new1 w _ 0 0 0
  have hBl : Below w.heap.size w ((w.alloc (.cells #[.int .i64 k0, .int .u64 a0, .int .u64 b0] 26)).alloc (.cells #[.int .i64 0, .int .u64 0, .int .u64 0] 26)) := ((Below.refl _ _).alloc (Nat.le_refl _) _).alloc (by rw [size_alloc']; omega) _
  have hr := h.below hBl hB
  go_enter Try.func14, Try.ntmps14
  go_wp2_with fail
  refine (specIs_any ⟨k0, a0, b0⟩ _ _ hs hg).mono ?_
  rintro e w1 ⟨rfl, rfl⟩
  generalize (w.alloc (.cells #[.int .i64 k0, .int .u64 a0, .int .u64 b0] 26)).alloc (.cells #[.int .i64 0, .int .u64 0, .int .u64 0] 26) = w1 at hz0 hg hz hBl hr ⊢
  have HB := Lib.hid hBl; have Hz := Lib.hid hz; have Hg := Lib.hid hg; have Hk : Hid (Sd.ok ⟨k0, a0, b0⟩) := hs
  have HR := Lib.hid hr
  have hB1 : B ≤ w1.heap.size := Nat.le_trans hB hBl.size
  clear hBl hz hg hs h hr hz0
  have u0 := Hz.out.c0
  have u1 := Hz.out.c1
  have u2 := Hz.out.c2
  have v0 := Hz.out.fz 0
  have v1 := Hz.out.fz 1
  have v2 := Hz.out.fz 2
  simp only at u0 u1 u2
  cases hv : validB ⟨k0, a0, b0⟩ with
  | false =>
    have Hn : Hid (pickSeed ⟨k0, a0, b0⟩ xs = none) := by show _ = _; simp [pickSeed, hv]
    go_wp2
    (try simp only [Exit.inBlock, Exit.then])
    refine bodyPost_ret (results_s3 rfl _ rfl (Hz.out.set3 0 0 0)) rfl ?_
    exact gaveSNB_none Hn.out (below_set3 HB.out (by omega) _ _ _)
  | true =>
    have Hv := Lib.hid hv
    clear hv u0 u1 u2 v0 v1 v2
    go_wp2_with fail
    refine (l03Weights_any A xs.length c B xs _ HR.out (by omega)).mono ?_
    rintro e w2 ⟨rfl, hb2⟩
    have Hz2 := Lib.hid (Hz.out.below hb2 Hz.out.lt)
    have Hg2 := Lib.hid (Hg.out.below hb2 Hg.out.lt)
    have HB2 := Lib.hid (HB.out.trans (hb2.mono HB.out.size))
    have HR2 := Lib.hid (HR.out.below hb2 hB1)
    have hB2 : B ≤ w2.heap.size := Nat.le_trans hB1 hb2.size
    clear hb2
    cases hp : picksB xs with
    | false =>
      have Hn : Hid (pickSeed ⟨k0, a0, b0⟩ xs = none) := by show _ = _; simp [pickSeed, hp]
      have u0 := Hz2.out.c0
      have u1 := Hz2.out.c1
      have u2 := Hz2.out.c2
      have v0 := Hz2.out.fz 0
      have v1 := Hz2.out.fz 1
      have v2 := Hz2.out.fz 2
      simp only at u0 u1 u2
      go_wp2
      (try simp only [Exit.inBlock, Exit.then])
      refine bodyPost_ret (results_s3 rfl _ rfl (Hz2.out.set3 0 0 0)) rfl ?_
      exact gaveSNB_none Hn.out (below_set3 HB2.out (by omega) _ _ _)
    | true =>
      have Hr : Hid (pickSeed ⟨k0, a0, b0⟩ xs = some (nextSd ⟨k0, a0, b0⟩, (pickFrom (pickBound (shareOf ⟨k0, a0, b0⟩) xs) xs 0 0 0 : Int))) := by show _ = _; simp [pickSeed, Hv.out, hp]
      clear hp
      go_wp2_with fail
      refine (specShare_any ⟨k0, a0, b0⟩ _ _ Hk.out Hg2.out).mono ?_
      rintro e w3 ⟨u, rfl, hu, hg3, hgr⟩
      have Hg3 := Lib.hid hg3
      have Hz3 := Lib.hid (Hz2.out.grown hgr (by simp))
      have HB3 := Lib.hid (HB2.out.grown hgr HB2.out.size (fun _ h => by cases h; exact Nat.le_refl _))
      have HR3 := Lib.hid (HR2.out.grown hgr hB2 (fun _ h => by cases h; exact hB))
      clear hgr hg3
      go_wp2_with fail
      refine (l03Sum_any A xs.length c B xs _ HR3.out (by omega)).mono ?_
      rintro e w4 ⟨sm, rfl, hsm, q0, rfl⟩
      have tok : True := trivial
      go_wp2_with (have := tok; clear this tok; refine wpList_fop _ rfl .mul _ _ _ _ rfl rfl .f32 _ _ rfl rfl ?_; intro bd q1 hbd)
      have Hbd : Hid (cn .f32 bd = pickBound (shareOf ⟨k0, a0, b0⟩) xs) := by
        show _ = _
        rw [hbd.out]
        unfold pickBound
        rw [← hu.out, ← fop_cn .mul .f32 u sm, ← fop_cn .mul .f32 (cn .f32 u) (sumF xs), hsm.out, sumF_cn, cn_cn]
      clear hbd hsm
      obtain ⟨bound, hbo⟩ : ∃ x, x = pickBound (shareOf ⟨k0, a0, b0⟩) xs := ⟨_, rfl⟩
      rw [← hbo] at Hbd Hr
      clear hbo
      go_loopw [8, 9, 25] (fun a l i wr => ∃ k r last q : Nat, k ≤ xs.length ∧ i = .int .i64 k ∧ a = .float .f32 r ∧ l = .int .i64 last ∧ last ≤ xs.length ∧ Hid (pickFrom bound xs 0 0 0 = pickFrom bound (xs.drop k) k (cn .f32 r) last) ∧ wr = w3.drewN q) (fun _ _ i _ => xs.length - (intOf i).toNat)
      case atStart => exact ⟨0, 0, 0, q0 + q1, Nat.zero_le _, rfl, rfl, rfl, Nat.zero_le _, by show _ = _; rw [cn_of_not (zero_not_nan .f32)]; rfl, rfl⟩
      case round =>
        obtain ⟨k, r, last, q, hk, rfl, rfl, rfl, hlast, hpf, rfl⟩ := hrel
        have c0 := Hg3.out.c0
        have c1 := Hg3.out.c1
        have c2 := Hg3.out.c2
        have u0 := Hz3.out.c0
        have u1 := Hz3.out.c1
        have u2 := Hz3.out.c2
        have v0 := Hz3.out.fz 0
        have v1 := Hz3.out.fz 1
        have v2 := Hz3.out.fz 2
        simp only at u0 u1 u2
        by_cases hlt : k < xs.length
        · obtain ⟨b, off, x, rfl, _, hx, hc⟩ := HR3.out.atF hlt
          have hlt' : (k : Int) < (xs.length : Int) := by omega
          have hst := pickFrom_drop bound hx.out (cn .f32 r) last
          have Hst := Lib.hid hst
          clear hst
          have tok : True := trivial
          go_wp2_with (have := tok; clear this tok; refine wpList_fop _ rfl .add _ _ _ _ rfl rfl .f32 _ _ rfl rfl ?_; intro r2 q2 hr2)
          · rename_i h1
            have hr2c : cn .f32 r2 = fop .add .f32 (cn .f32 r) x := by rw [hr2.out]; exact fop_both rfl rfl |>.trans (by rw [← fop_cn .add .f32 (cn .f32 r) x, cn_cn])
            rw [fgt_both hr2c Hbd.out] at h1
            (try simp only [Exit.inBlock, Exit.then])
            refine bodyPost_ret (results_s3 (s := nextSd ⟨k0, a0, b0⟩) (g := w.heap.size + 1) rfl _ rfl (by exact Hz3.out.set3 _ _ _)) rfl ?_
            have hb6 := below_set3 HB3.out (g := w.heap.size + 1) (by omega) (nextSd ⟨k0, a0, b0⟩).kind (nextSd ⟨k0, a0, b0⟩).a (nextSd ⟨k0, a0, b0⟩).b
            exact gaveSNB_some (by rw [Hr.out, hpf.out, Hst.out, if_pos h1]) ⟨hb6.os, hb6.tape, hb6.output, hb6.size, hb6.block⟩
          · rename_i h1 h2
            have hr2c : cn .f32 r2 = fop .add .f32 (cn .f32 r) x := by rw [hr2.out]; exact fop_both rfl rfl |>.trans (by rw [← fop_cn .add .f32 (cn .f32 r) x, cn_cn])
            rw [fgt_both hr2c Hbd.out] at h1
            have h3 : fgt .f32 x 0 = true := h2
            exact ⟨⟨k + 1, r2, k, _, by omega, by go_num, rfl, rfl, by omega, by show _ = _; rw [hpf.out, Hst.out, if_neg (by rw [h1]; decide), if_pos h3, hr2c], rfl⟩, by simp only [intOf]; omega⟩
          · rename_i h1 h2
            have hr2c : cn .f32 r2 = fop .add .f32 (cn .f32 r) x := by rw [hr2.out]; exact fop_both rfl rfl |>.trans (by rw [← fop_cn .add .f32 (cn .f32 r) x, cn_cn])
            rw [fgt_both hr2c Hbd.out] at h1
            have h3 : ¬ fgt .f32 x 0 = true := by unfold fgt; rw [h2]; decide
            exact ⟨⟨k + 1, r2, last, _, by omega, by go_num, rfl, rfl, by omega, by show _ = _; rw [hpf.out, Hst.out, if_neg (by rw [h1]; decide), if_neg h3, hr2c], rfl⟩, by simp only [intOf]; omega⟩
        · obtain rfl : k = xs.length := by omega
          go_wp2
          (try simp only [Exit.inBlock, Exit.then])
          refine bodyPost_ret (results_s3 (s := nextSd ⟨k0, a0, b0⟩) (g := w.heap.size + 1) rfl _ rfl (by exact Hz3.out.set3 _ _ _)) rfl ?_
          have hb6 := below_set3 HB3.out (g := w.heap.size + 1) (by omega) (nextSd ⟨k0, a0, b0⟩).kind (nextSd ⟨k0, a0, b0⟩).a (nextSd ⟨k0, a0, b0⟩).b
          exact gaveSNB_some (by rw [Hr.out, hpf.out, List.drop_length]; rfl) ⟨hb6.os, hb6.tape, hb6.output, hb6.size, hb6.block⟩
end Go.Proofs.Ytgemcjcghnpmdaa
