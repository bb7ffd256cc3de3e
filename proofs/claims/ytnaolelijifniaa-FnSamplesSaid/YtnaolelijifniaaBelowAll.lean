/- Numbers drawn below each of a list of limits. -/
import Derived.Test.YtnaolelijifniaaWordsOf
namespace Go.Proofs.Ytnaolelijifniaa
open Go.RowKit
def drawAll : List Int → Sd → Option (Sd × List Int)
  | [], s => some (s, [])
  | l :: ls, s => match belowS s l with
    | none => none
    | some (t, x) => (drawAll ls t).map fun r => (r.1, x :: r.2)
def belowAllS (s : Sd) (ls : List Int) : Option (Sd × List Int) := if validB s then drawAll ls s else none
theorem belowS_ok {s t : Sd} {n x : Int} (h : s.ok) (hb : belowS s n = some (t, x)) : t.ok := by
  unfold belowS at hb
  split at hb
  · exact tried_ok h hb
  · cases hb
theorem drawAll_length {ls : List Int} {s t : Sd} {xs : List Int} (h : drawAll ls s = some (t, xs)) : xs.length = ls.length := by
  induction ls generalizing s t xs with
  | nil => simp only [drawAll, Option.some.injEq, Prod.mk.injEq] at h; rw [← h.2]
  | cons l ls ih =>
    unfold drawAll at h
    split at h
    · cases h
    · rename_i t1 x hb
      cases hd : drawAll ls t1 with
      | none => rw [hd] at h; cases h
      | some r =>
        rw [hd] at h
        simp only [Option.map_some, Option.some.injEq, Prod.mk.injEq] at h
        rw [← h.2, List.length_cons, List.length_cons, ih (t := r.1) (xs := r.2) (by rw [hd])]
def withPre (ol : List Int) (r : Option (Sd × List Int)) : Option (Sd × List Int) := r.map fun r => (r.1, ol ++ r.2)
theorem withPre_nil (r : Option (Sd × List Int)) : withPre [] r = r := by cases r <;> rfl
theorem withPre_none {ol ls : List Int} {l : Int} {s : Sd} (h : belowS s l = none) : withPre ol (drawAll (l :: ls) s) = none := by
  unfold drawAll withPre; rw [h]; rfl
theorem withPre_some {ol ls : List Int} {l x : Int} {s t : Sd} (h : belowS s l = some (t, x)) : withPre ol (drawAll (l :: ls) s) = withPre (ol ++ [x]) (drawAll ls t) := by
  rw [drawAll, h]
  unfold withPre
  cases hd : drawAll ls t with
  | none => simp [hd]
  | some r => simp [hd]
set_option maxHeartbeats 1000000 in
theorem implBelowAll_any (k0 a0 b0 : Int) (A : Option Addr) (n c B : Nat) (ls : List Int) (w : World) (hs : Sd.ok ⟨k0, a0, b0⟩) (h : Rd w B A n (i64s ls)) (hB : B ≤ w.heap.size) (hn : ls.length ≤ 100000) (hf : Fit ls) :
    Calls Try.prog 21 #[.agg #[.int .i64 k0, .int .u64 a0, .int .u64 b0], .slice A n c] w (GaveSLB w (belowAllS ⟨k0, a0, b0⟩ ls)) := by
  have hl := h.lenI
  obtain rfl : ls.length = n := hl.out
  clear hl
  have Hf := Lib.hid hf
  clear hf
  have hz0 : ((w.alloc (.cells #[.int .i64 k0, .int .u64 a0, .int .u64 b0] 26)).alloc (.cells #[.int .i64 0, .int .u64 0, .int .u64 0] 26)).heap.size = w.heap.size + 2 := by rw [size_alloc', size_alloc']
  go_enter Try.func21, Try.ntmps21
  go_wp2_with fail
  refine (implValid_any ⟨k0, a0, b0⟩ _ hs).mono ?_
  rintro e w1 ⟨rfl, hb1⟩
  rw [hz0] at hb1
  have hBl : Below w.heap.size w w1 := (((Below.refl _ _).alloc (Nat.le_refl _) _).alloc (by rw [size_alloc']; omega) _).trans (hb1.mono (by omega))
  have hg : SeedAt w1 w.heap.size ⟨k0, a0, b0⟩ := ((SeedAt.new w k0 a0 b0).alloc _).below hb1 (by omega)
  have hz : SeedAt w1 (w.heap.size + 1) ⟨0, 0, 0⟩ := (SeedAt.new1 w _ 0 0 0).below hb1 (by omega)
  have hsz1 : w.heap.size + 2 ≤ w1.heap.size := by have := hb1.size; rw [hz0] at this; exact this
  clear hz0 hb1
  obtain ⟨s, hsd⟩ : ∃ s : Sd, s = ⟨k0, a0, b0⟩ := ⟨_, rfl⟩
  rw [← hsd] at hs hg ⊢
  have HB := Lib.hid hBl; have Hsd := Lib.hid hsd; have Hz := Lib.hid hz; have Hg := Lib.hid hg; have Hk : Hid s.ok := hs
  clear hBl hsd hz hg hs
  cases hv : validB s with
  | false =>
    have Hr : Hid (belowAllS ⟨k0, a0, b0⟩ ls = none) := by rw [← Hsd.out]; show _ = _; simp [belowAllS, hv]
    have u0 := Hz.out.c0
    have u1 := Hz.out.c1
    have u2 := Hz.out.c2
    have v0 := Hz.out.fz 0
    have v1 := Hz.out.fz 1
    have v2 := Hz.out.fz 2
    go_wp2
    (try simp only [Exit.inBlock, Exit.then])
    refine bodyPost_ret (results_s3 rfl _ rfl (Hz.out.set3 0 0 0)) rfl ?_
    exact gaveSLB_none Hr.out (below_set3 HB.out (by omega) _ _ _)
  | true =>
    have Hr : Hid (belowAllS ⟨k0, a0, b0⟩ ls = drawAll ls s) := by rw [← Hsd.out]; show _ = _; simp [belowAllS, hv]
    clear hv
    go_wp2
    go_loopw [7, 20] (fun v i wr => ∃ (k : Nat) (ol : List Int) (s' : Sd), k ≤ ls.length ∧ i = .int .i64 k ∧ Hid (drawAll ls s = withPre ol (drawAll (ls.drop k) s')) ∧ ol.length = k ∧ s'.ok ∧ Own wr (w.heap.size + 2) 2 v (i64s ol) ∧ SeedAt wr w.heap.size s' ∧ SeedAt wr (w.heap.size + 1) Sd.zero ∧ Below w.heap.size w wr) (fun _ i _ => ls.length - (intOf i).toNat)
    case atStart => exact ⟨0, [], s, by omega, rfl, by show _ = _; rw [withPre_nil]; rfl, rfl, Hk.out, own_newI w1 hsz1, Hg.out.alloc _, Hz.out.alloc _, HB.out.alloc HB.out.size _⟩
    case round =>
      obtain ⟨k, ol, s', hk, rfl, htr, hol, hs', hO, hg', hz', hbel⟩ := hrel
      have HO := Lib.hid hO; have HB' := Lib.hid hbel; have Hz' := Lib.hid hz'; have Hk' := Lib.hid hs'
      have Htr : Hid (drawAll ls s = withPre ol (drawAll (ls.drop k) s')) := htr
      clear hO hbel hz' hs' htr
      by_cases hlt : k < ls.length
      · obtain ⟨bb, off, l, rfl, hbB, hl, hcl⟩ := h.atI (k := k) hlt
        have hcl1 := (HB'.out.cell (p := ⟨bb, off + k, none⟩) (by show bb < _; omega)).trans hcl
        have hlf := Hf.out.get hl.out
        have hdr : ls.drop k = l :: ls.drop (k + 1) := by rw [List.drop_eq_getElem_cons hlt]; congr 1; have := hl.out; rw [List.getElem?_eq_getElem hlt] at this; exact Option.some.inj this
        have Hdr := Lib.hid hdr
        clear hcl hdr
        have c0 := hg'.c0
        have c1 := hg'.c1
        have c2 := hg'.c2
        go_wp2_with fail
        refine (implBelow_any s' l _ Hk'.out hlf).mono ?_
        rintro e w2 ⟨k1, a1, b1, x, ok, rfl, hok, hsd2, hx, hb2⟩
        have hg2 := hg'.below hb2 hg'.lt
        have Hz2 := Lib.hid (Hz'.out.below hb2 Hz'.out.lt)
        have HO2 := Lib.hid (HO.out.below hb2 (Nat.le_refl _))
        have HB2 := Lib.hid (HB'.out.trans (hb2.mono HB'.out.size))
        have hle2 : w.heap.size ≤ w2.heap.size := HB2.out.size
        clear hb2 hg' c0 c1 c2 hlf
        cases hbs : belowS s' l with
        | none =>
          rw [hbs] at hok hsd2 hx
          obtain rfl : ok = false := hok.out
          have hsd3 : k1 = 0 ∧ a1 = 0 ∧ b1 = 0 := by have := hsd2.out; simpa [Sd.zero] using this
          obtain ⟨rfl, rfl, rfl⟩ := hsd3
          have Hn : Hid (drawAll ls s = none) := by show _ = _; rw [Htr.out, Hdr.out]; exact withPre_none hbs
          have hz3 := Hz2.out.alloc (.cells #[.int .i64 0, .int .u64 0, .int .u64 0] 26)
          have u0 := hz3.c0
          have u1 := hz3.c1
          have u2 := hz3.c2
          have v0 := hz3.fz 0
          have v1 := hz3.fz 1
          have v2 := hz3.fz 2
          clear hbs hg2
          go_wp2
          (try simp only [Exit.inBlock, Exit.then])
          refine bodyPost_ret (results_s3 rfl _ rfl (hz3.set3 0 0 0)) rfl ?_
          exact gaveSLB_none (by rw [Hr.out, Hn.out]) (below_set3 (HB2.out.alloc hle2 _) (by omega) _ _ _)
        | some r =>
          obtain ⟨t, x'⟩ := r
          have hto := belowS_ok Hk'.out hbs
          have Hw : Hid (drawAll ls s = withPre (ol ++ [x']) (drawAll (ls.drop (k + 1)) t)) := by show _ = _; rw [Htr.out, Hdr.out]; exact withPre_some hbs
          have hxb : 0 ≤ x' ∧ x' ≤ 4294967296 := by
            unfold belowS at hbs
            split at hbs
            · rename_i hc
              simp only [Bool.and_eq_true] at hc
              have h1 := inB_true hc.2
              have h2 := tried_lt (by omega) hbs
              omega
            · cases hbs
          rw [hbs] at hok hsd2 hx
          obtain rfl : ok = true := hok.out
          obtain rfl : x = x' := hx.out
          obtain rfl : (⟨k1, a1, b1⟩ : Sd) = t := hsd2.out
          have Hto := Lib.hid hto
          have Hxb := Lib.hid hxb
          clear hbs hok hsd2 hx hto hxb
          have Hg3 := Lib.hid (hg2.alloc (.cells #[.int .i64 k1, .int .u64 a1, .int .u64 b1] 26))
          have Hz3 := Lib.hid (Hz2.out.alloc (.cells #[.int .i64 k1, .int .u64 a1, .int .u64 b1] 26))
          have HO3 := Lib.hid (HO2.out.below ((Below.refl w2.heap.size w2).alloc (Nat.le_refl _) (.cells #[.int .i64 k1, .int .u64 a1, .int .u64 b1] 26)) (Nat.le_refl _))
          have HB3 := Lib.hid (HB2.out.alloc hle2 (.cells #[.int .i64 k1, .int .u64 a1, .int .u64 b1] 26))
          have Hn3 := Lib.hid (SeedAt.new w2 k1 a1 b1)
          clear hg2
          go_wp2_with fail
          generalize w2.alloc (.cells #[.int .i64 k1, .int .u64 a1, .int .u64 b1] 26) = w3 at Hg3 Hz3 HO3 HB3 Hn3 ⊢
          have m0 := Hn3.out.c0
          have m1 := Hn3.out.c1
          have m2 := Hn3.out.c2
          have hgw : w.heap.size < w3.heap.size := Hg3.out.lt
          have hx3 := Hg3.out
          have x0 := Hg3.out.c0
          have x1 := Hg3.out.c1
          have x2 := Hg3.out.c2
          have f0 := Hg3.out.fz 0
          have f1 := Hg3.out.fz 1
          have f2 := Hg3.out.fz 2
          have hol63 : ol.length ≤ 2000000 := by omega
          have hb3 : w.heap.size + 2 ≤ w3.heap.size := by have := Hz3.out.lt; omega
          have hne : u7.ownBlock ≠ some w.heap.size := fun e => by have := HO3.out.lt _ e; omega
          have hnz : ∀ (v' : Value) (w' : World), (v'.ownBlock = u7.ownBlock ∨ ∃ k, v'.ownBlock = some k ∧ w'.heap.size ≤ k) → w.heap.size + 2 ≤ w'.heap.size → v'.ownBlock ≠ some w.heap.size ∧ v'.ownBlock ≠ some (w.heap.size + 1) := by
            intro v' w' hor hle
            rcases hor with h | ⟨k, h, hk⟩
            · rw [h]
              exact ⟨hne, fun e => by have := HO3.out.lt _ e; omega⟩
            · rw [h]
              exact ⟨fun e => by cases e; omega, fun e => by cases e; omega⟩
          have Hnz := Lib.hid hnz
          clear hnz
          -- the three worlds in which the element may be appended
          have G1 : Hid (w3.grownBy (w3.drew.alloc (.cells #[.int .i64 x] 2)) (some w.heap.size)) := grown_trans (grown_drew' _ _) (World.grownBy_alloc _ _ _)
          have C1 : Hid ((w3.drew.alloc (.cells #[.int .i64 x] 2)).cell? ⟨w3.heap.size, 0, none⟩ = some (.int .i64 x)) := cell_of_row _ _ 0 _ 2 (0, 0) (heap_alloc_new w3.drew _)
          have S1 : Hid (SeedAt (w3.drew.alloc (.cells #[.int .i64 x] 2)) w.heap.size s') := Hg3.out.drew.alloc _
          have hy := Hg3.out.alloc (.cells #[.int .i64 x] 2)
          have y0 := hy.c0
          have y1 := hy.c1
          have y2 := hy.c2
          have e0 := hy.fz 0
          have e1 := hy.fz 1
          have e2 := hy.fz 2
          have hny := Hn3.out.alloc (.cells #[.int .i64 x] 2)
          have r0 := hny.c0
          have r1 := hny.c1
          have r2 := hny.c2
          have N1 : Hid (SeedAt (w3.drew.alloc (.cells #[.int .i64 x] 2)) w2.heap.size ⟨k1, a1, b1⟩) := Hn3.out.drew.alloc _
          have hne2 : u7.ownBlock ≠ some w2.heap.size := fun e => by have := HO2.out.lt _ e; omega
          clear hy hny
          have hne1 : u7.ownBlock ≠ some (w.heap.size + 1) := fun e => by have := HO3.out.lt _ e; omega
          have hge : ∀ k, u7.ownBlock = some k → w.heap.size ≤ k := fun k e => by have := HO3.out.lt _ e; omega
          have Hge := Lib.hid hge
          clear hge
          have Z1 : Hid (SeedAt (w3.drew.alloc (.cells #[.int .i64 x] 2)) (w.heap.size + 1) Sd.zero) := Hz3.out.drew.alloc _
          have B1 : Hid (Below w.heap.size w (w3.drew.alloc (.cells #[.int .i64 x] 2))) := HB3.out.drew.alloc HB3.out.size _
          have G2 : Hid (w3.grownBy ((((w3.drew.alloc (.cells #[.int .i64 x] 2)).setCell ⟨w.heap.size, 0, none⟩ (.int .i64 k1)).setCell ⟨w.heap.size, 1, none⟩ (.int .u64 a1)).setCell ⟨w.heap.size, 2, none⟩ (.int .u64 b1)) (some w.heap.size)) := grown_trans G1.out (grown_set3 _ _ _ _ _)
          have C2 : Hid (((((w3.drew.alloc (.cells #[.int .i64 x] 2)).setCell ⟨w.heap.size, 0, none⟩ (.int .i64 k1)).setCell ⟨w.heap.size, 1, none⟩ (.int .u64 a1)).setCell ⟨w.heap.size, 2, none⟩ (.int .u64 b1)).cell? ⟨w3.heap.size, 0, none⟩ = some (.int .i64 x)) := by
            have hh := ((Below.heap_setCell ((w3.drew.alloc (.cells #[.int .i64 x] 2)).setCell ⟨w.heap.size, 0, none⟩ (.int .i64 k1) |>.setCell ⟨w.heap.size, 1, none⟩ (.int .u64 a1)) ⟨w.heap.size, 2, none⟩ (.int .u64 b1) w3.heap.size (by show w3.heap.size ≠ w.heap.size; omega)).trans (Below.heap_setCell ((w3.drew.alloc (.cells #[.int .i64 x] 2)).setCell ⟨w.heap.size, 0, none⟩ (.int .i64 k1)) ⟨w.heap.size, 1, none⟩ (.int .u64 a1) w3.heap.size (by show w3.heap.size ≠ w.heap.size; omega))).trans (Below.heap_setCell (w3.drew.alloc (.cells #[.int .i64 x] 2)) ⟨w.heap.size, 0, none⟩ (.int .i64 k1) w3.heap.size (by show w3.heap.size ≠ w.heap.size; omega))
            exact (World.cell?_of_block hh).trans C1.out
          have S2 : Hid (SeedAt ((((w3.drew.alloc (.cells #[.int .i64 x] 2)).setCell ⟨w.heap.size, 0, none⟩ (.int .i64 k1)).setCell ⟨w.heap.size, 1, none⟩ (.int .u64 a1)).setCell ⟨w.heap.size, 2, none⟩ (.int .u64 b1)) w.heap.size ⟨k1, a1, b1⟩) := S1.out.set3 _ _ _
          have Z2 : Hid (SeedAt ((((w3.drew.alloc (.cells #[.int .i64 x] 2)).setCell ⟨w.heap.size, 0, none⟩ (.int .i64 k1)).setCell ⟨w.heap.size, 1, none⟩ (.int .u64 a1)).setCell ⟨w.heap.size, 2, none⟩ (.int .u64 b1)) (w.heap.size + 1) Sd.zero) := Z1.out.far3 (by omega) _ _ _
          have B2 : Hid (Below w.heap.size w ((((w3.drew.alloc (.cells #[.int .i64 x] 2)).setCell ⟨w.heap.size, 0, none⟩ (.int .i64 k1)).setCell ⟨w.heap.size, 1, none⟩ (.int .u64 a1)).setCell ⟨w.heap.size, 2, none⟩ (.int .u64 b1))) := below_set3 B1.out (Nat.le_refl _) _ _ _
          have hsz : (((w3.drew.setCell ⟨w.heap.size, 0, none⟩ (.int .i64 k1)).setCell ⟨w.heap.size, 1, none⟩ (.int .u64 a1)).setCell ⟨w.heap.size, 2, none⟩ (.int .u64 b1)).heap.size = w3.heap.size := by simp [World.setCell]
          have G3 : Hid (w3.grownBy ((((w3.drew.setCell ⟨w.heap.size, 0, none⟩ (.int .i64 k1)).setCell ⟨w.heap.size, 1, none⟩ (.int .u64 a1)).setCell ⟨w.heap.size, 2, none⟩ (.int .u64 b1)).alloc (.cells #[.int .i64 x] 2)) (some w.heap.size)) := grown_trans (grown_trans (grown_drew' _ _) (grown_set3 _ _ _ _ _)) (World.grownBy_alloc _ _ _)
          have C3 : Hid (((((w3.drew.setCell ⟨w.heap.size, 0, none⟩ (.int .i64 k1)).setCell ⟨w.heap.size, 1, none⟩ (.int .u64 a1)).setCell ⟨w.heap.size, 2, none⟩ (.int .u64 b1)).alloc (.cells #[.int .i64 x] 2)).cell? ⟨w3.heap.size, 0, none⟩ = some (.int .i64 x)) := by
            have hh := cell_of_row ((((w3.drew.setCell ⟨w.heap.size, 0, none⟩ (.int .i64 k1)).setCell ⟨w.heap.size, 1, none⟩ (.int .u64 a1)).setCell ⟨w.heap.size, 2, none⟩ (.int .u64 b1)).alloc (.cells #[.int .i64 x] 2)) _ 0 _ 2 (0, 0) (heap_alloc_new (((w3.drew.setCell ⟨w.heap.size, 0, none⟩ (.int .i64 k1)).setCell ⟨w.heap.size, 1, none⟩ (.int .u64 a1)).setCell ⟨w.heap.size, 2, none⟩ (.int .u64 b1)) (.cells #[.int .i64 x] 2))
            rw [hsz] at hh
            exact hh
          have S3 : Hid (SeedAt ((((w3.drew.setCell ⟨w.heap.size, 0, none⟩ (.int .i64 k1)).setCell ⟨w.heap.size, 1, none⟩ (.int .u64 a1)).setCell ⟨w.heap.size, 2, none⟩ (.int .u64 b1)).alloc (.cells #[.int .i64 x] 2)) w.heap.size ⟨k1, a1, b1⟩) := (Hg3.out.drew.set3 _ _ _).alloc _
          have Z3 : Hid (SeedAt ((((w3.drew.setCell ⟨w.heap.size, 0, none⟩ (.int .i64 k1)).setCell ⟨w.heap.size, 1, none⟩ (.int .u64 a1)).setCell ⟨w.heap.size, 2, none⟩ (.int .u64 b1)).alloc (.cells #[.int .i64 x] 2)) (w.heap.size + 1) Sd.zero) := (Hz3.out.drew.far3 (by omega) _ _ _).alloc _
          have B3 : Hid (Below w.heap.size w ((((w3.drew.setCell ⟨w.heap.size, 0, none⟩ (.int .i64 k1)).setCell ⟨w.heap.size, 1, none⟩ (.int .u64 a1)).setCell ⟨w.heap.size, 2, none⟩ (.int .u64 b1)).alloc (.cells #[.int .i64 x] 2))) := (below_set3 HB3.out.drew (Nat.le_refl _) _ _ _).alloc (by rw [hsz]; omega) _
          have hw1 : w.heap.size + 2 ≤ (w3.drew.alloc (.cells #[.int .i64 x] 2)).heap.size := Nat.le_trans hb3 G1.out.size
          have HW1 := Lib.hid hw1
          clear hsz hw1
          go_region_law (first
            | (refine step_emitI rfl (.tmp 35) (.tmp 37) rfl (w.heap.size + 2) u7 ol (by simp [Act.eval]) HO3.out w.heap.size hne G1.out x w3.heap.size (by simp [Act.eval]) C1.out hol63 hb3 ?_
               intro v' w4 hO' hg4 hor
               have hs4 := S1.out.grown hg4 (fun e => hne e.symm)
               have hn4 := N1.out.grown hg4 (fun e => hne2 e.symm)
               have t0 := hn4.c0
               have t1 := hn4.c1
               have t2 := hn4.c2
               have p0 := hs4.c0
               have p1 := hs4.c1
               have p2 := hs4.c2
               have q0 := hs4.fz 0
               have q1 := hs4.fz 1
               have q2 := hs4.fz 2
               have HOF := Lib.hid (hO'.kept (grown_set3 w4 w.heap.size k1 a1 b1) (.inr (Hnz.out v' _ hor HW1.out).1))
               have HSF := Lib.hid (hs4.set3 k1 a1 b1)
               have HZF := Lib.hid ((Z1.out.grown hg4 (fun e => hne1 e.symm)).far3 (g' := w.heap.size) (by omega) k1 a1 b1)
               have HBF := Lib.hid (below_set3 (B1.out.grown hg4 B1.out.size Hge.out) (Nat.le_refl _) k1 a1 b1)
               clear hO' hg4 hor hs4 hn4)
            | (refine step_emitI rfl (.tmp 35) (.tmp 37) rfl (w.heap.size + 2) u7 ol (by simp [Act.eval, Act.put]) HO3.out w.heap.size hne G2.out x w3.heap.size (by simp [Act.eval, Act.put]) C2.out hol63 hb3 ?_
               intro v' w4 hO' hg4 hor
               have HSF := Lib.hid (S2.out.grown hg4 (fun e => hne e.symm))
               have HZF := Lib.hid (Z2.out.grown hg4 (fun e => hne1 e.symm))
               have HBF := Lib.hid (B2.out.grown hg4 B2.out.size Hge.out)
               have HOF := Lib.hid hO'
               clear hO' hg4 hor)
            | (refine step_emitI rfl (.tmp 35) (.tmp 37) rfl (w.heap.size + 2) u7 ol (by simp [Act.eval, Act.put]) HO3.out w.heap.size hne G3.out x w3.heap.size (by simp [Act.eval, Act.put]) C3.out hol63 hb3 ?_
               intro v' w4 hO' hg4 hor
               have HSF := Lib.hid (S3.out.grown hg4 (fun e => hne e.symm))
               have HZF := Lib.hid (Z3.out.grown hg4 (fun e => hne1 e.symm))
               have HBF := Lib.hid (B3.out.grown hg4 B3.out.size Hge.out)
               have HOF := Lib.hid hO'
               clear hO' hg4 hor))
          all_goals
            go_wp2
            go_roundw
            case rel => exact ⟨k + 1, ol ++ [x], ⟨k1, a1, b1⟩, by omega, by go_num, Hw, by simp [hol], Hto.out, HOF.out, HSF.out, HZF.out, HBF.out⟩
            case measure => simp [intOf]; omega
      · obtain rfl : k = ls.length := by omega
        have c0 := hg'.c0
        have c1 := hg'.c1
        have c2 := hg'.c2
        have u0 := Hz'.out.c0
        have u1 := Hz'.out.c1
        have u2 := Hz'.out.c2
        have v0 := Hz'.out.fz 0
        have v1 := Hz'.out.fz 1
        have v2 := Hz'.out.fz 2
        go_wp2
        (try simp only [Exit.inBlock, Exit.then])
        refine bodyPost_ret (results_s3 rfl _ rfl (Hz'.out.set3 _ _ _)) rfl ?_
        exact gaveSLB_some (by rw [Hr.out, Htr.out, List.drop_length]; simp [drawAll, withPre]) ((HO.out.kept (grown_set3 _ _ _ _ _) (.inr (fun e => by have := HO.out.lt _ e; omega))).base_le (by omega)) (below_set3 HB'.out (by omega) _ _ _)
end Go.Proofs.Ytnaolelijifniaa
