/- SplitCounts: how often each index is drawn by an alias; plain law and the reference's walk. -/
import Derived.Test.YtgemcjcghnpmdaaAliasT
import Derived.Test.YtgemcjcghnpmdaaAliasSeed
namespace Go.Proofs.Ytgemcjcghnpmdaa
open Go.RowKit
set_option maxRecDepth 100000
def cntAt (row : List Int) (p : Int) : List Int := row.set p.toNat (row.getD p.toNat 0 + 1)
def splitGo (S : List Nat) (O : List Int) : Nat → Sd → List Int → Option (Sd × List Int)
  | 0, s, row => some (s, row)
  | k + 1, s, row => match tried S.length 64 s with
    | none => none
    | some (t, i) => splitGo S O k (nextSd t) (cntAt row (aliasPick S O (shareOf t) i.toNat))
def splitR (s : Sd) (n : Int) (xs : List Nat) : Option (Sd × List Int) :=
  if validB s && inB n 0 1000 then match aliasR xs with
    | none => none
    | some (S, O) => splitGo S O n.toNat s (List.replicate xs.length 0)
  else none
theorem splitGo_none {S : List Nat} {O : List Int} {k : Nat} {s : Sd} {row : List Int} (h : tried S.length 64 s = none) : splitGo S O (k + 1) s row = none := by rw [splitGo, h]
theorem splitGo_some {S : List Nat} {O : List Int} {k : Nat} {s t : Sd} {i : Int} {row : List Int} (h : tried S.length 64 s = some (t, i)) : splitGo S O (k + 1) s row = splitGo S O k (nextSd t) (cntAt row (aliasPick S O (shareOf t) i.toNat)) := by rw [splitGo, h]
theorem cntAt_len (row : List Int) (p : Int) : (cntAt row p).length = row.length := by simp [cntAt]
/-- All numbers lie between 0 and m. -/
def Upto (row : List Int) (m : Int) : Prop := ∀ (i : Nat) (x : Int), row[i]? = some x → 0 ≤ x ∧ x ≤ m
theorem Upto.cnt {row : List Int} {m : Int} (h : Upto row m) (p : Int) (hm : 0 ≤ m) : Upto (cntAt row p) (m + 1) := by
  intro i x hx
  unfold cntAt at hx
  rw [List.getElem?_set] at hx
  by_cases e : p.toNat = i
  · rw [if_pos e] at hx
    by_cases hl : p.toNat < row.length
    · rw [if_pos hl] at hx
      injection hx with hx
      have := h p.toNat _ (List.getElem?_eq_getElem hl)
      rw [List.getD_eq_getElem?_getD, List.getElem?_eq_getElem hl, Option.getD_some] at hx
      omega
    · rw [if_neg hl] at hx; cases hx
  · rw [if_neg e] at hx
    have := h i x hx
    omega
theorem splitGo_len (S : List Nat) (O : List Int) : ∀ k s row r, splitGo S O k s row = some r → r.2.length = row.length
  | 0, s, row, r, h => by simp only [splitGo, Option.some.injEq] at h; rw [← h]
  | k + 1, s, row, r, h => by
    cases ht : tried S.length 64 s with
    | none => rw [splitGo_none ht] at h; cases h
    | some p =>
      obtain ⟨t, i⟩ := p
      rw [splitGo_some ht] at h
      rw [splitGo_len S O k _ _ r h, cntAt_len]
theorem pick_in {S : List Nat} {O : List Int} (hO : ∀ y ∈ O, 0 ≤ y ∧ y < (S.length : Int)) {i : Nat} (hi : i < S.length) (hl : O.length = S.length) (u : Nat) : 0 ≤ aliasPick S O u i ∧ aliasPick S O u i < (S.length : Int) := by
  unfold aliasPick
  split
  · omega
  · have e : O[i]? = some (O[i]'(by omega)) := List.getElem?_eq_getElem _
    rw [List.getD_eq_getElem?_getD, e, Option.getD_some]
    exact hO _ (List.getElem_mem _)
def FnSNFl_SLB (f : Nat) (r : Sd → Int → List Nat → Option (Sd × List Int)) : Prop :=
  ∀ (k a b : Int) (m : Int) (A : Option Addr) (n c B : Nat) (xs : List Nat) (w : World), Sd.ok ⟨k, a, b⟩ → (-9223372036854775808 ≤ m ∧ m ≤ 9223372036854775807) → Rd w B A n (f32s xs) → B ≤ w.heap.size → xs.length ≤ 1048576 → n ≤ c ∧ c ≤ maxLen →
    Calls Try.prog f #[.agg #[.int .i64 k, .int .u64 a, .int .u64 b], .int .i64 m, .slice A n c] w (GaveSLB w (r ⟨k, a, b⟩ m xs))

set_option maxHeartbeats 1000000 in
theorem specPick2 (s : Sd) (g ga : Nat) (gS gO c c' bs : Nat) (xs : List Nat) (ys : List Int) (w : World) (hs : s.ok) (h1 : 1 ≤ xs.length) (h64 : xs.length ≤ 64) (hyl : ys.length = xs.length)
    (hg : SeedAt w g s) (ha : AlAt w ga 33 (.slice (some ⟨gS, 0, none⟩) xs.length c) (.slice (some ⟨gO, 0, none⟩) ys.length c')) (hne : ga ≠ g) (hx : w.ownsRow bs 40 1 (.slice (some ⟨gS, 0, none⟩) xs.length c) xs.length (f32s xs)) (hy : w.ownsRow bs 2 1 (.slice (some ⟨gO, 0, none⟩) ys.length c') ys.length (i64s ys)) (hgS : gS ≠ g) (hgO : gO ≠ g) :
    Calls Try.prog 46 #[.pointer (some ⟨g, 0, none⟩), .pointer (some ⟨ga, 0, none⟩)] w fun e w' =>
      ((tried xs.length 64 s = none ∧ e = .returned (.tuple #[.int .i64 0, .bool false])) ∨ (∃ t i, tried xs.length 64 s = some (t, i) ∧ e = .returned (.tuple #[.int .i64 (aliasPick xs ys (shareOf t) i.toNat), .bool true]) ∧ SeedAt w' g (nextSd t))) ∧ w.grownBy w' (some g) := by
  have Hk : Hid s.ok := hs
  have Hg := Lib.hid hg; have Ha := Lib.hid ha; have Hx := Lib.hid hx; have Hy := Lib.hid hy
  have hgw := hg.lt
  clear hs hg ha hx hy
  have c0 := Ha.out.c0
  go_enter Try.func46, Try.ntmps46
  go_wp2_with fail
  clear c0
  refine (specTried2 s g _ _ Hk.out (by omega) Hg.out).mono ?_
  rintro e w2 ⟨hor, hgr⟩
  rcases hor with ⟨ht, y, rfl⟩ | ⟨t, p, ht, rfl, hg2⟩
  · have Ht := Lib.hid ht
    have Hgr := Lib.hid hgr
    clear ht hgr
    go_wp2
    go_ret2
    exact ⟨.inl ⟨Ht.out, rfl⟩, Hgr.out⟩
  · have hp := tried_lt (by omega) ht
    have Hto := Lib.hid (tried_ok Hk.out ht)
    have Ht := Lib.hid ht
    obtain ⟨i, rfl⟩ : ∃ i : Nat, p = (i : Int) := ⟨p.toNat, by omega⟩
    have hi : i < xs.length := by omega
    have Ha2 := Lib.hid (Ha.out.grown hgr (by simpa using hne))
    have hx2 := World.ownsRow.kept Hx.out hgr (.inr (fun e => by injection e with e; exact hgS e))
    have hy2 := World.ownsRow.kept Hy.out hgr (.inr (fun e => by injection e with e; exact hgO e))
    have hgw2 := hg2.lt
    have Hgr := Lib.hid hgr
    have Hg2 := Lib.hid hg2
    clear ht hgr hg2 Ha Hx Hy Hg
    have a0 := Ha2.out.c0
    have a1 := Ha2.out.c1
    obtain ⟨x, hxi⟩ : ∃ x, xs[i]? = some x := ⟨_, List.getElem?_eq_getElem hi⟩
    obtain ⟨y, hyi⟩ : ∃ y, ys[i]? = some y := ⟨_, List.getElem?_eq_getElem (by omega)⟩
    have hcx : w2.cell? ⟨gS, i, none⟩ = some (.float .f32 x) := (World.ownsRow.cellAt hx2 i (by omega)).trans (by simp [f32s, hxi])
    have hcy : w2.cell? ⟨gO, i, none⟩ = some (.int .i64 y) := (World.ownsRow.cellAt hy2 i (by omega)).trans (by simp [i64s, hyi])
    have hb : gS < w2.heap.size := (World.ownsRow.lt hx2 gS rfl).2
    have hb' : gO < w2.heap.size := (World.ownsRow.lt hy2 gO rfl).2
    have Hxi := Lib.hid hxi; have Hyi := Lib.hid hyi
    clear hx2 hy2 hxi hyi
    have hi' : (i : Int) < (xs.length : Int) := by omega
    have hi2 : (i : Int) < (ys.length : Int) := by omega
    go_wp2
    go_region_with (first
      | (go_at_call 43
         refine (specShare_any t g _ Hto.out Hg2.out.drew).mono ?_
         rintro e w3 ⟨u, rfl, hu, hg3, hgr3⟩
         have Ha3 := Lib.hid (Ha2.out.drew.grown hgr3 (by simpa using hne))
         have b0 := Ha3.out.c0
         have b1 := Ha3.out.c1
         have hcx3 : w3.cell? ⟨gS, i, none⟩ = some (.float .f32 x) := (World.cell?_of_block (hgr3.block gS (by show gS < w2.heap.size; omega) (fun e => by injection e with e; exact hgS e))).trans hcx
         have hcy3 : w3.cell? ⟨gO, i, none⟩ = some (.int .i64 y) := (World.cell?_of_block (hgr3.block gO (by show gO < w2.heap.size; omega) (fun e => by injection e with e; exact hgO e))).trans hcy
         have Hg3 := Lib.hid hg3
         have Hgr3 := Lib.hid (grown_trans (grown_trans Hgr.out (grown_drew' _ _)) hgr3)
         clear hg3 hgr3))
    all_goals
      go_wp2
      all_goals (try simp only [Exit.inBlock, Exit.then])
      all_goals refine bodyPost_ret (results_tmp2 rfl _ _ _) rfl ?_
      all_goals refine ⟨.inr ⟨t, (i : Int), Ht.out, ?_, Hg3.out⟩, Hgr3.out⟩
      all_goals
        unfold aliasPick flt
        rw [← order_l hu.out, Int.toNat_natCast]
        have ex : xs.getD i 0 = x := by rw [List.getD, Hxi.out]; rfl
        have ey : ys.getD i 0 = y := by rw [List.getD, Hyi.out]; rfl
        rw [ex, ey]
        first
          | (have hc : (FloatKind.f32.format.order u x == some Ordering.lt) = true := by assumption
             rw [if_pos hc]
             rfl)
          | (have hc : (FloatKind.f32.format.order u x == some Ordering.lt) = false := by assumption
             rw [if_neg (by rw [hc]; decide)]
             rfl)
theorem gaveSLB_no {w w' : World} {r : Option (Sd × List Int)} (h : r = none) (hb : Below w.heap.size w w') : GaveSLB w r (.returned (.tuple #[.agg #[.int .i64 0, .int .u64 0, .int .u64 0], .slice none 0 0, .bool false])) w' := by
  subst h; exact ⟨0, 0, 0, _, false, rfl, rfl, rfl, own_none _ _ _, hb⟩
theorem gaveSLB_so {w w' : World} {r : Option (Sd × List Int)} {s : Sd} {v : Value} {l : List Int} (h : r = some (s, l)) (ho : Own w' w.heap.size 2 v (i64s l)) (hb : Below w.heap.size w w') : GaveSLB w r (.returned (.tuple #[.agg #[.int .i64 s.kind, .int .u64 s.a, .int .u64 s.b], v, .bool true])) w' := by
  subst h; exact ⟨s.kind, s.a, s.b, v, true, rfl, rfl, rfl, ho, hb⟩
theorem own_off {b : Nat} {e : TypeId} {k : Nat} {xs : List Value} {w w' : World} {g g' : Nat} {c m : Nat} (h : w.ownsRow b e 1 (.slice (some ⟨g, 0, none⟩) m c) k xs) (hg : w.grownBy w' (some g')) (hne : g ≠ g') : w'.ownsRow b e 1 (.slice (some ⟨g, 0, none⟩) m c) k xs :=
  World.ownsRow.kept h hg (.inr (fun e => by injection e with e; exact hne e))
theorem alias_some {xs : List Nat} {S : List Nat} {O : List Int} (h : aliasR xs = some (S, O)) : (1 ≤ xs.length ∧ xs.length ≤ 64) ∧ S.length = xs.length ∧ O.length = xs.length ∧ ∀ y ∈ O, 0 ≤ y ∧ y < (S.length : Int) := by
  unfold aliasR at h
  by_cases hp : picksB xs = true
  · rw [if_pos hp] at h
    injection h with h
    injection h with h1 h2
    have hd := (startS_ok hp).run xs.length
    have hl : S.length = xs.length := by rw [← h1]; exact (lastSh_len _ _).trans hd.sh
    refine ⟨?_, hl, by rw [← h2]; exact hd.ot, ?_⟩
    · unfold picksB at hp
      rw [Bool.and_eq_true] at hp
      have := inB_true hp.1
      omega
    · intro y hy
      rw [← h2] at hy
      obtain ⟨i, hi⟩ := List.mem_iff_getElem?.1 hy
      rw [hl]
      exact hd.oko i y hi
  · rw [if_neg hp] at h; cases h
theorem own_addr' {w : World} {b : Nat} {e : TypeId} {A : Option Addr} {m c : Nat} {xs : List Value} (h : Own w b e (.slice A m c) xs) (hn : 1 ≤ xs.length) : ∃ g, A = some ⟨g, 0, none⟩ ∧ b ≤ g ∧ g < w.heap.size ∧ m = xs.length := by
  obtain ⟨g, c', e1, _, hg⟩ := own_addr h hn
  simp only [Value.slice.injEq] at e1
  obtain ⟨rfl, rfl, rfl⟩ := e1
  exact ⟨g, rfl, (h.lt g rfl).1, hg, rfl⟩
theorem zeros_upto (n : Nat) (m : Int) (hm : 0 ≤ m) : Upto (List.replicate n 0) m := by
  intro i x hx
  have := List.mem_of_getElem? hx
  rw [List.mem_replicate] at this
  omega
set_option maxHeartbeats 4000000 in
theorem specSplit : FnSNFl_SLB 18 splitR := by
  intro k0 a0 b0 m A n c B xs w hs hm h hB hn hcap
  have hl := h.lenF
  obtain rfl : xs.length = n := hl.out
  obtain ⟨w0, hw0⟩ : ∃ w0, w0 = ((w.alloc (.cells #[.int .i64 k0, .int .u64 a0, .int .u64 b0] 26)).alloc (.cells #[.int .i64 0, .int .u64 0, .int .u64 0] 26)) := ⟨_, rfl⟩
  have hz0 : w0.heap.size = w.heap.size + 2 := by rw [hw0, size_alloc', size_alloc']
  have hg : SeedAt w0 w.heap.size ⟨k0, a0, b0⟩ := by rw [hw0]; exact (SeedAt.new w k0 a0 b0).alloc _
  have hz : SeedAt w0 (w.heap.size + 1) ⟨0, 0, 0⟩ := by rw [hw0]; exact SeedAt.new1 w _ 0 0 0
  have hBl : Below w.heap.size w w0 := by rw [hw0]; exact ((Below.refl _ _).alloc (Nat.le_refl _) _).alloc (by rw [size_alloc']; omega) _
  obtain ⟨s0, hs0⟩ : ∃ s0 : Sd, s0 = ⟨k0, a0, b0⟩ := ⟨_, rfl⟩
  rw [← hs0] at hs hg
  have HR := Lib.hid (h.below hBl hB)
  have HB := Lib.hid hBl; have Hz := Lib.hid hz; have Hg := Lib.hid hg; have Hk : Hid s0.ok := hs
  have Hs0 := Lib.hid hs0
  clear hBl hz hg hs h hl
  go_enter Try.func18, Try.ntmps18
  go_wp2_with fail
  rw [← hw0]
  clear hw0
  rw [← hs0]
  clear hs0
  refine (specIs_any s0 _ _ Hk.out Hg.out).mono ?_
  rintro e w1 ⟨rfl, rfl⟩
  have u0 := Hz.out.c0
  have u1 := Hz.out.c1
  have u2 := Hz.out.c2
  have v0 := Hz.out.fz 0
  have v1 := Hz.out.fz 1
  have v2 := Hz.out.fz 2
  simp only at u0 u1 u2
  cases hv : validB s0 with
  | false =>
    have Hn : Hid (splitR ⟨k0, a0, b0⟩ m xs = none) := by show _ = _; rw [← Hs0.out]; simp [splitR, hv]
    clear hv
    go_wp2
    (try simp only [Exit.inBlock, Exit.then])
    refine bodyPost_ret (results_s3 rfl _ rfl (Hz.out.set3 0 0 0)) rfl ?_
    exact gaveSLB_no Hn.out (below_set3 HB.out (by omega) _ _ _)
  | true =>
    have Hv := Lib.hid hv
    clear hv
    go_wp2_with fail
    refine (l00In_any _ _ _ _).mono ?_
    rintro e w0 ⟨rfl, rfl⟩
    cases hi : inB m 0 1000 with
    | false =>
      have Hn : Hid (splitR ⟨k0, a0, b0⟩ m xs = none) := by show _ = _; rw [← Hs0.out]; simp [splitR, hi]
      clear hi
      go_wp2
      (try simp only [Exit.inBlock, Exit.then])
      refine bodyPost_ret (results_s3 rfl _ rfl (Hz.out.set3 0 0 0)) rfl ?_
      exact gaveSLB_no Hn.out (below_set3 HB.out (by omega) _ _ _)
    | true =>
      obtain ⟨hm0, hm1⟩ := inB_true hi
      have Hi := Lib.hid hi
      clear hi u0 u1 u2 v0 v1 v2
      go_wp2_with fail
      refine (specAliasOf A xs.length c B xs _ HR.out (by omega) hn hcap).mono ?_
      rintro e w2 ⟨v, v', ok, rfl, hok, ho, ho', hap, hb⟩
      have hle0 : w.heap.size ≤ w1.heap.size := HB.out.size
      have hle2 : w1.heap.size ≤ w2.heap.size := hb.size
      have hz2 := Hz.out.below hb Hz.out.lt
      have hB2 := HB.out.trans (hb.mono hle0)
      cases hr : aliasR xs with
      | none =>
        rw [hr] at hok
        obtain rfl : ok = false := hok.out
        have Hn : Hid (splitR ⟨k0, a0, b0⟩ m xs = none) := by show _ = _; rw [← Hs0.out]; simp [splitR, Hv.out, Hi.out, hr]
        rw [hr] at ho ho'
        simp only [Option.map_none, Option.getD_none] at ho ho'
        obtain ⟨A1, c1, rfl, -⟩ := ho.shapeF
        obtain ⟨A1', c1', rfl, -⟩ := ho'.shapeI
        rw [List.length_nil, List.length_nil]
        have hz3 := Lib.hid (hz2.alloc (.cells #[.slice A1 0 c1, .slice A1' 0 c1'] 33))
        have hB3 := Lib.hid (hB2.alloc hB2.size (.cells #[.slice A1 0 c1, .slice A1' 0 c1'] 33))
        have u0 := hz3.out.c0
        have u1 := hz3.out.c1
        have u2 := hz3.out.c2
        have v0 := hz3.out.fz 0
        have v1 := hz3.out.fz 1
        have v2 := hz3.out.fz 2
        simp only at u0 u1 u2
        clear hok ho ho' hap hb hr hz2 hB2
        go_wp2
        (try simp only [Exit.inBlock, Exit.then])
        refine bodyPost_ret (results_s3 rfl _ rfl (hz3.out.set3 0 0 0)) rfl ?_
        exact gaveSLB_no Hn.out (below_set3 hB3.out (by omega) _ _ _)
      | some r =>
        obtain ⟨S, O⟩ := r
        rw [hr] at hok ho ho'
        obtain rfl : ok = true := hok.out
        obtain ⟨⟨hn1, hn2⟩, hS, hO, hOin⟩ := alias_some hr
        simp only [Option.map_some, Option.getD_some] at ho ho'
        obtain ⟨A1, c1, rfl, -⟩ := ho.shapeF
        obtain ⟨A1', c1', rfl, -⟩ := ho'.shapeI
        have hfin : Hid (splitR ⟨k0, a0, b0⟩ m xs = splitGo S O m.toNat s0 (List.replicate xs.length 0)) := by show _ = _; rw [← Hs0.out]; simp [splitR, Hv.out, Hi.out, hr]
        obtain ⟨gS, rfl, hS1, hS2, -⟩ := own_addr' ho (by rw [f32s_length]; omega)
        obtain ⟨gO, rfl, hO1, hO2, -⟩ := own_addr' ho' (by rw [i64s_length]; omega)
        unfold Own at ho ho'
        rw [f32s_length] at ho
        rw [i64s_length] at ho'
        rw [hS] at ho ⊢
        rw [hO] at ho' ⊢
        obtain ⟨mm, rfl⟩ : ∃ mm : Nat, m = mm := ⟨m.toNat, by omega⟩
        rw [Int.toNat_natCast] at hfin
        have hg2 := Hg.out.below hb Hg.out.lt
        have ha3 := AlAt.new w2 33 (.slice (some ⟨gS, 0, none⟩) xs.length c1) (.slice (some ⟨gO, 0, none⟩) xs.length c1')
        have hg3 := hg2.alloc (.cells #[.slice (some ⟨gS, 0, none⟩) xs.length c1, .slice (some ⟨gO, 0, none⟩) xs.length c1'] 33)
        have hz3 := hz2.alloc (.cells #[.slice (some ⟨gS, 0, none⟩) xs.length c1, .slice (some ⟨gO, 0, none⟩) xs.length c1'] 33)
        have hB3 := hB2.alloc hB2.size (.cells #[.slice (some ⟨gS, 0, none⟩) xs.length c1, .slice (some ⟨gO, 0, none⟩) xs.length c1'] 33)
        have ho3 := World.ownsRow.alloc ho (.cells #[.slice (some ⟨gS, 0, none⟩) xs.length c1, .slice (some ⟨gO, 0, none⟩) xs.length c1'] 33)
        have ho3' := World.ownsRow.alloc ho' (.cells #[.slice (some ⟨gS, 0, none⟩) xs.length c1, .slice (some ⟨gO, 0, none⟩) xs.length c1'] 33)
        have hz4 : (w2.alloc (.cells #[.slice (some ⟨gS, 0, none⟩) xs.length c1, .slice (some ⟨gO, 0, none⟩) xs.length c1'] 33)).heap.size = w2.heap.size + 1 := size_alloc' _ _
        obtain ⟨i0, hi0, hz0', hz1', hz2'⟩ := info_parts info_i64'
        have Hhap := Lib.hid hap
        clear hok hap hr hz2 hB2 hg2 ho ho' hb
        go_wp2_with (at_make; refine wpList_make_full _ rfl _ _ 31 rfl w.heap.size 2 i0 (.int .i64 0) 1 Try.underlying31 hi0 hz0' hz1' _ _ _ _ xs.length rfl rfl rfl rfl ?c1 ?c2 ?c3 ?_)
        case c1 => rw [hz2']; omega
        case c2 => unfold maxLen; omega
        case c3 => rw [hz4]; omega
        intro w4 hown hgrow
        clear hi0 hz0' hz1' hz2'
        have hlt : w2.heap.size + 1 < w4.heap.size := by have := (World.ownsRow.lt hown _ rfl).2; exact this
        have hrow : w4.ownsRow w.heap.size 2 1 (.slice (some ⟨w2.heap.size + 1, 0, none⟩) xs.length xs.length) xs.length (i64s (List.replicate xs.length 0)) := by
          rw [madeCells_one] at hown
          simpa [i64s] using hown
        have HG4 := Lib.hid (hg3.grown hgrow (fun e => by cases e))
        have HZ4 := Lib.hid (hz3.grown hgrow (fun e => by cases e))
        have HA4 := Lib.hid (ha3.grown hgrow (fun e => by cases e))
        have HB4 := Lib.hid (hB3.grown hgrow hB3.size (by simp))
        have HS4 := Lib.hid (World.ownsRow.kept ho3 hgrow (.inr (fun e => by cases e)))
        have HO4 := Lib.hid (World.ownsRow.kept ho3' hgrow (.inr (fun e => by cases e)))
        have HW4 := Lib.hid hrow
        try rw [hz4]
        clear hown hgrow hrow hg3 hz3 ha3 hB3 ho3 ho3' hz4
        have HOin := Lib.hid hOin
        have Hup := Lib.hid (zeros_upto xs.length 0 (by omega))
        have Hm : Hid ((mm : Int) ≤ 1000) := hm1
        clear hOin
        go_wp2
        go_loopw [1] (fun i wr => ∃ (j : Nat) (t : Sd) (row : List Int), j ≤ mm ∧ i = .int .i64 j ∧ Hid t.ok ∧ SeedAt wr w.heap.size t ∧ SeedAt wr (w.heap.size + 1) ⟨0, 0, 0⟩ ∧ AlAt wr w2.heap.size 33 (.slice (some ⟨gS, 0, none⟩) xs.length c1) (.slice (some ⟨gO, 0, none⟩) xs.length c1') ∧ wr.ownsRow w1.heap.size 40 1 (.slice (some ⟨gS, 0, none⟩) xs.length c1) xs.length (f32s S) ∧ wr.ownsRow w1.heap.size 2 1 (.slice (some ⟨gO, 0, none⟩) xs.length c1') xs.length (i64s O) ∧ wr.ownsRow w.heap.size 2 1 (.slice (some ⟨w2.heap.size + 1, 0, none⟩) xs.length xs.length) xs.length (i64s row) ∧ Hid (row.length = xs.length) ∧ Hid (Upto row (1000 - j)) ∧ Hid (splitGo S O j t row = splitGo S O mm s0 (List.replicate xs.length 0)) ∧ Below w.heap.size w wr) (fun i _ => (intOf i).toNat)
        case atStart => exact ⟨mm, s0, _, Nat.le_refl _, rfl, Hk.out, HG4.out, HZ4.out, HA4.out, HS4.out, HO4.out, HW4.out, by show _ = _; simp, zeros_upto _ _ (by omega), rfl, HB4.out⟩
        case round =>
          obtain ⟨j, t, row, hj, rfl, Ht, h1, h2, h3, h4, h5, h6, Hrl, Hu, Hgo, h7⟩ := hrel
          have HG := Lib.hid h1; have HZ := Lib.hid h2; have HA := Lib.hid h3; have HS := Lib.hid h4; have HO' := Lib.hid h5; have HW := Lib.hid h6; have HB' := Lib.hid h7
          clear h1 h2 h3 h4 h5 h6 h7
          cases j with
          | zero =>
            obtain ⟨k9, a9, b9⟩ := t
            have u0 := HG.out.c0
            have u1 := HG.out.c1
            have u2 := HG.out.c2
            have z0 := HZ.out.c0
            have z1 := HZ.out.c1
            have z2 := HZ.out.c2
            have v0 := HZ.out.fz 0
            have v1 := HZ.out.fz 1
            have v2 := HZ.out.fz 2
            simp only at u0 u1 u2 z0 z1 z2
            have hO9 : Own wr w.heap.size 2 (.slice (some ⟨w2.heap.size + 1, 0, none⟩) xs.length xs.length) (i64s row) := by unfold Own; rw [i64s_length, Hrl.out]; exact HW.out
            have HO9 := Lib.hid hO9
            clear hO9
            go_wp2
            (try simp only [Exit.inBlock, Exit.then])
            refine bodyPost_ret (results_s3 rfl _ rfl (HZ.out.set3 k9 a9 b9)) rfl ?_
            exact gaveSLB_so (s := ⟨k9, a9, b9⟩) (by rw [hfin.out, ← Hgo.out]; rfl) (HO9.out.kept (grown_set3 _ _ _ _ _) (.inr (fun e => by injection e with e; have e' : w2.heap.size + 1 = w.heap.size + 1 := e; omega))) (below_set3 HB'.out (by omega) _ _ _)
          | succ j =>
            have hpos : (0 : Int) < ((j + 1 : Nat) : Int) := by omega
            have hneg : ((j + 1 : Nat) : Int) - 1 = (j : Int) := by omega
            go_wp2_with fail
            refine (specPick2 t w.heap.size w2.heap.size gS gO c1 c1' w1.heap.size S O _ Ht.out (by omega) (by omega) (by omega) HG.out (by rw [hS, hO]; exact HA.out) (by omega) (by rw [hS]; exact HS.out) (by rw [hO]; exact HO'.out) (by omega) (by omega)).mono ?_
            rintro e w5 ⟨hor, hgr⟩
            have HZ5 := Lib.hid (HZ.out.grown hgr (by simp))
            have HB5 := Lib.hid (HB'.out.grown hgr HB'.out.size (fun q hq => by injection hq with hq; omega))
            rcases hor with ⟨ht, rfl⟩ | ⟨t', p, ht, rfl, hg5⟩
            · have Hn : Hid (splitR ⟨k0, a0, b0⟩ mm xs = none) := by show _ = _; rw [hfin.out, ← Hgo.out, splitGo_none ht]
              have z0 := HZ5.out.c0
              have z1 := HZ5.out.c1
              have z2 := HZ5.out.c2
              have v0 := HZ5.out.fz 0
              have v1 := HZ5.out.fz 1
              have v2 := HZ5.out.fz 2
              simp only at z0 z1 z2
              clear ht hgr
              go_wp2
              (try simp only [Exit.inBlock, Exit.then])
              refine bodyPost_ret (results_s3 rfl _ rfl (HZ5.out.set3 0 0 0)) rfl ?_
              exact gaveSLB_no Hn.out (below_set3 HB5.out (by omega) _ _ _)
            · have hp := tried_lt (by omega) ht
              have Ht5 : Hid (nextSd t').ok := nextSd_ok (tried_ok Ht.out ht)
              obtain ⟨pp, hpp⟩ : ∃ pp, pp = aliasPick S O (shareOf t') p.toNat := ⟨_, rfl⟩
              have hin := pick_in HOin.out (i := p.toNat) (by omega) (by omega) (shareOf t')
              rw [← hpp] at hin ⊢
              obtain ⟨hp0, hp1⟩ := hin
              obtain ⟨q, rfl⟩ : ∃ q : Nat, pp = q := ⟨pp.toNat, by omega⟩
              have Hgo2 : Hid (splitGo S O j (nextSd t') (cntAt row q) = splitGo S O mm s0 (List.replicate xs.length 0)) := by show _ = _; rw [← Hgo.out, splitGo_some ht, ← hpp]
              have hql : q < xs.length := by omega
              have hql' : (q : Int) < (xs.length : Int) := by omega
              obtain ⟨x, hx⟩ : ∃ x, row[q]? = some x := ⟨_, List.getElem?_eq_getElem (by rw [Hrl.out]; exact hql)⟩
              obtain ⟨hx0, hx1⟩ := Hu.out q x hx
              have hW5 := own_off HW.out hgr (by omega)
              have hcx : w5.cell? ⟨w2.heap.size + 1, q, none⟩ = some (.int .i64 x) := (World.ownsRow.cellAt hW5 q (by omega)).trans (i64s_get' hx)
              have hfx := World.ownsRow.frozenAt hW5 q
              have hst := World.ownsRow.stored hW5 q (.int .i64 (x + 1))
              rw [i64s_set, show row.set q (x + 1) = cntAt row q by unfold cntAt; rw [Int.toNat_natCast, List.getD_eq_getElem?_getD, hx]; rfl] at hst
              have HW6 := Lib.hid hst.1
              have HG6 := Lib.hid (hg5.grown hst.2 (fun e => by injection e with e; omega))
              have HZ6 := Lib.hid (HZ5.out.grown hst.2 (fun e => by injection e with e; omega))
              have HA6 := Lib.hid ((HA.out.grown hgr (fun e => by injection e with e; omega)).grown hst.2 (fun e => by injection e with e; omega))
              have HS6 := Lib.hid (own_off (own_off HS.out hgr (by omega)) hst.2 (by omega))
              have HO6 := Lib.hid (own_off (own_off HO'.out hgr (by omega)) hst.2 (by omega))
              have HB6 := Lib.hid (HB5.out.grown hst.2 HB5.out.size (fun q hq => by injection hq with hq; omega))
              have Hrl6 : Hid ((cntAt row q).length = xs.length) := by show _ = _; rw [cntAt_len]; exact Hrl.out
              have Hu6 : Hid (Upto (cntAt row q) (1000 - j)) := by have := Hu.out.cnt q (by have := Hm.out; omega); show Upto _ _; rw [show (1000 : Int) - (j : Int) = 1000 - ((j + 1 : Nat) : Int) + 1 by omega]; exact this
              have hxb : x ≤ 1000 := by omega
              have Hjm : Hid (j ≤ mm) := by show _ ≤ _; omega
              clear ht hgr hg5 hx hst hW5 hpp hx1
              go_wp2
              go_roundw
              case rel => exact ⟨j, nextSd t', cntAt row q, Hjm.out, by go_num, Ht5.out, HG6.out, HZ6.out, HA6.out, HS6.out, HO6.out, HW6.out, Hrl6.out, Hu6.out, Hgo2.out, HB6.out⟩
              case measure => simp only [intOf]; omega
end Go.Proofs.Ytgemcjcghnpmdaa
