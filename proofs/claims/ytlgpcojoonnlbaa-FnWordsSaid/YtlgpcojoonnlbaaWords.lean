/- Words of a seed, one after another: both functions. -/
import Derived.Test.YtlgpcojoonnlbaaTried
import Derived.Test.YtlgpcojoonnlbaaRange
import Derived.Deep.RegionLaw
namespace Go.Proofs.Ytlgpcojoonnlbaa
open Go.RowKit
theorem grown_own {w w2 w3 : World} {r : Option Nat} {base : Nat} {e : TypeId} {v : Value} {xs : List Value} (h : w.grownBy w2 r) (hO : Own w2 base e v xs) (hb : w.heap.size ≤ base) (hg : w2.grownBy w3 v.ownBlock) : w.grownBy w3 r :=
  ⟨hg.os.trans h.os, hg.tape.trans h.tape, hg.output.trans h.output, Nat.le_trans h.size hg.size, fun i hi hn => (hg.block i (Nat.lt_of_lt_of_le hi h.size) (fun e => by have := hO.lt _ e.symm; omega)).trans (h.block i hi hn)⟩
/-- An element appended, as one step of a region that draws its order: the slice is the call's own, the world has moved at one block besides since. -/
theorem step_emitI {w0 w : World} {ops : Array Oper} {o : Oper} {a : Act} {K : Act → World → Prop} {Q : Exit → Act → World → Prop} {E : Prop} (hgd : o.guard = none) (s x : Operand)
    (ho : o.op = .call { callee := .builtin .append, args := #[s, x], argTypes := #[29, 29] })
    (base : Nat) (v : Value) (xs : List Int) (hs : a.eval s = v) (hown : Own w0 base 2 v (i64s xs)) (gs : Nat) (hne : v.ownBlock ≠ some gs) (hgr : w0.grownBy w (some gs)) (u : Int) (h : Nat) (hx : a.eval x = .slice (some ⟨h, 0, none⟩) 1 1) (hc : w.cell? ⟨h, 0, none⟩ = some (.int .i64 u))
    (h63 : xs.length ≤ 2000000) (hbase : base ≤ w0.heap.size)
    (hK : ∀ v' w', Own w' base 2 v' (i64s (xs ++ [u])) → w.grownBy w' v.ownBlock → (v'.ownBlock = v.ownBlock ∨ ∃ k, v'.ownBlock = some k ∧ w.heap.size ≤ k) → K (a.put o.dst v') w') :
    if Region.wanted o (yielded ops a.tmps) = true then Oper.wp Try.prog o a w K Q else E := by
  have hw : Region.wanted o (yielded ops a.tmps) = true := by simp [Region.wanted, hgd]
  rw [if_pos hw]
  obtain ⟨i0, hi0, hz0, hz1, hz2⟩ := info_parts info_i64'
  have hown1 : Own w base 2 v (i64s xs) := hown.kept hgr (.inr hne)
  have hown' : w.ownsRow base 2 1 v xs.length (i64s xs) := by have := hown1; unfold Own at this; rwa [i64s_length] at this
  obtain ⟨v', w', hrun, h2, h3, _, h5⟩ := run_append_own_at (P := Try.prog) w base 29 o.type 2 i0 (.int .i64 0) 1 8 Try.underlying29 hi0 hz0 hz1 hz2 rfl (by decide) v xs.length (i64s xs) hown' ⟨h, 0, none⟩ 1 1 [.int .i64 u] rfl (fun j u' hu => by
    cases j with
    | zero => simp only [List.getElem?_cons_zero, Option.some.injEq] at hu; subst hu; simpa [Addr.add] using hc
    | succ j => simp at hu) (one_one _ rfl) (by unfold maxLen; omega) (by omega) (Nat.le_trans hbase hgr.size)
  unfold Oper.wp
  simp only [execOp, ho, resolve, invoke, builtin, Sem.run_bind, Sem.run_pure, Result.andThen_ok, List.map_toArray, List.map_cons, List.map_nil, hs, hx, hrun]
  refine hK v' w' ?_ h3 ?_
  · unfold Own
    rw [i64s_snoc, List.length_append, i64s_length]
    exact h2
  · rcases h5 with h5 | h5
    · exact .inl h5
    · exact .inr ⟨_, h5, Nat.le_refl _⟩
theorem implWords_any (s : Sd) (n : Int) (w : World) (hs : s.ok) (hn : 0 ≤ n ∧ n ≤ 100000) :
    Calls Try.prog 23 #[s.val, .int .i64 n] w fun e w' => ∃ v, e = .returned (.tuple #[(nthSd n.toNat s).val, v]) ∧ Own w' w.heap.size 2 v (i64s (wordsN n.toNat s)) ∧ Below w.heap.size w w' := by
  obtain ⟨hn0, hn1⟩ := hn
  have Hk : Hid s.ok := hs
  clear hs
  have hz0 : ((w.alloc (.cells #[.int .i64 s.kind, .int .u64 s.a, .int .u64 s.b] 26)).alloc (.cells #[.int .i64 0, .int .u64 0, .int .u64 0] 26)).heap.size = w.heap.size + 2 := by rw [size_alloc', size_alloc']
  unfold Sd.val
  go_enter Try.func23, Try.ntmps23
  go_wp2
  go_loopw [6, 11] (fun v i wr => ∃ (k : Nat) (ol : List Int), (k : Int) ≤ n ∧ i = .int .i64 k ∧ Hid (ol = wordsN k s) ∧ Own wr (w.heap.size + 2) 2 v (i64s ol) ∧ SeedAt wr w.heap.size (nthSd k s) ∧ SeedAt wr (w.heap.size + 1) Sd.zero ∧ Below w.heap.size w wr) (fun _ i _ => (n - intOf i).toNat)
  case atStart => exact ⟨0, _, by omega, rfl, rfl, by have h1 := own_newI ((w.alloc (.cells #[.int .i64 s.kind, .int .u64 s.a, .int .u64 s.b] 26)).alloc (.cells #[.int .i64 0, .int .u64 0, .int .u64 0] 26)) (Nat.le_of_eq hz0.symm); rw [hz0] at h1; exact h1, ((SeedAt.new w s.kind s.a s.b).alloc _).alloc _, (SeedAt.new1 w _ 0 0 0).alloc _, (((Below.refl _ _).alloc (Nat.le_refl _) _).alloc (by rw [size_alloc']; omega) _).alloc (by rw [hz0]; omega) _⟩
  case round =>
    obtain ⟨k, ol, hk, rfl, hol, hO, hg', hz', hbel⟩ := hrel
    have HO := Lib.hid hO; have HB' := Lib.hid hbel; have Hz' := Lib.hid hz'
    clear hO hbel hz'
    by_cases hlt : (k : Int) < n
    · have hbd := wordOf_ok (nthSd k s)
      obtain ⟨x, hx⟩ : ∃ x, x = wordOf (nthSd k s) := ⟨_, rfl⟩
      have Hx := Lib.hid hx
      have c0 := hg'.c0
      have c1 := hg'.c1
      have c2 := hg'.c2
      go_wp2_with fail
      refine (implNext_any (nthSd k s) _ (nthSd_ok Hk.out k)).mono ?_
      rintro e w2 ⟨rfl, hb2⟩
      have hg2 := hg'.below hb2 hg'.lt
      have Hz2 := Lib.hid (Hz'.out.below hb2 Hz'.out.lt)
      have HO2 := Lib.hid (HO.out.below hb2 (Nat.le_refl _))
      have HB2 := Lib.hid (HB'.out.trans (hb2.mono HB'.out.size))
      rw [← hx] at hbd ⊢
      clear hb2 hg' c0 c1 c2 hx
      obtain ⟨t, ht⟩ : ∃ t, t = nextSd (nthSd k s) := ⟨_, rfl⟩
      rw [← ht]
      have Ht := Lib.hid ht
      clear ht
      obtain ⟨k1, a1, b1⟩ := t
      unfold Sd.val
      have hle2 : w.heap.size ≤ w2.heap.size := HB2.out.size
      have Hg3 := Lib.hid (hg2.alloc (.cells #[.int .i64 k1, .int .u64 a1, .int .u64 b1] 26))
      have Hz3 := Lib.hid (Hz2.out.alloc (.cells #[.int .i64 k1, .int .u64 a1, .int .u64 b1] 26))
      have HO3 := Lib.hid (HO2.out.below ((Below.refl w2.heap.size w2).alloc (Nat.le_refl _) (.cells #[.int .i64 k1, .int .u64 a1, .int .u64 b1] 26)) (Nat.le_refl _))
      have HB3 := Lib.hid (HB2.out.alloc hle2 (.cells #[.int .i64 k1, .int .u64 a1, .int .u64 b1] 26))
      have Hn3 := Lib.hid (SeedAt.new w2 k1 a1 b1)
      clear hg2
      go_wp2_with fail
      generalize w2.alloc (.cells #[.int .i64 k1, .int .u64 a1, .int .u64 b1] 26) = w3 at Hg3 Hz3 HO3 HB3 Hn3 ⊢
      have m0 := Hn3.out.c0
      have m1 := Hn3.out.c1
      have m2 := Hn3.out.c2
      have hgw : w.heap.size < w3.heap.size := Hg3.out.lt
      have hx3 := Hg3.out
      have x0 := Hg3.out.c0
      have x1 := Hg3.out.c1
      have x2 := Hg3.out.c2
      have f0 := Hg3.out.fz 0
      have f1 := Hg3.out.fz 1
      have f2 := Hg3.out.fz 2
      have hol63 : ol.length ≤ 2000000 := by rw [hol.out, wordsN_length]; omega
      have hb3 : w.heap.size + 2 ≤ w3.heap.size := by have := Hz3.out.lt; omega
      have hne : u6.ownBlock ≠ some w.heap.size := fun e => by have := HO3.out.lt _ e; omega
      have hnz : ∀ (v' : Value) (w' : World), (v'.ownBlock = u6.ownBlock ∨ ∃ k, v'.ownBlock = some k ∧ w'.heap.size ≤ k) → w.heap.size + 2 ≤ w'.heap.size → v'.ownBlock ≠ some w.heap.size ∧ v'.ownBlock ≠ some (w.heap.size + 1) := by
        intro v' w' hor hle
        rcases hor with h | ⟨k, h, hk⟩
        · rw [h]
          exact ⟨hne, fun e => by have := HO3.out.lt _ e; omega⟩
        · rw [h]
          exact ⟨fun e => by cases e; omega, fun e => by cases e; omega⟩
      have Hnz := Lib.hid hnz
      clear hnz
      -- the three worlds in which the element may be appended
      have G1 : Hid (w3.grownBy (w3.drew.alloc (.cells #[.int .i64 x] 2)) (some w.heap.size)) := grown_trans (grown_drew' _ _) (World.grownBy_alloc _ _ _)
      have C1 : Hid ((w3.drew.alloc (.cells #[.int .i64 x] 2)).cell? ⟨w3.heap.size, 0, none⟩ = some (.int .i64 x)) := cell_of_row _ _ 0 _ 2 (0, 0) (heap_alloc_new w3.drew _)
      have S1 : Hid (SeedAt (w3.drew.alloc (.cells #[.int .i64 x] 2)) w.heap.size (nthSd k s)) := Hg3.out.drew.alloc _
      have hy := Hg3.out.alloc (.cells #[.int .i64 x] 2)
      have y0 := hy.c0
      have y1 := hy.c1
      have y2 := hy.c2
      have e0 := hy.fz 0
      have e1 := hy.fz 1
      have e2 := hy.fz 2
      have hny := Hn3.out.alloc (.cells #[.int .i64 x] 2)
      have r0 := hny.c0
      have r1 := hny.c1
      have r2 := hny.c2
      have N1 : Hid (SeedAt (w3.drew.alloc (.cells #[.int .i64 x] 2)) w2.heap.size ⟨k1, a1, b1⟩) := Hn3.out.drew.alloc _
      have hne2 : u6.ownBlock ≠ some w2.heap.size := fun e => by have := HO2.out.lt _ e; omega
      clear hy hny
      have hne1 : u6.ownBlock ≠ some (w.heap.size + 1) := fun e => by have := HO3.out.lt _ e; omega
      have hge : ∀ k, u6.ownBlock = some k → w.heap.size ≤ k := fun k e => by have := HO3.out.lt _ e; omega
      have Hge := Lib.hid hge
      clear hge
      have Z1 : Hid (SeedAt (w3.drew.alloc (.cells #[.int .i64 x] 2)) (w.heap.size + 1) Sd.zero) := Hz3.out.drew.alloc _
      have B1 : Hid (Below w.heap.size w (w3.drew.alloc (.cells #[.int .i64 x] 2))) := HB3.out.drew.alloc HB3.out.size _
      have G2 : Hid (w3.grownBy ((((w3.drew.alloc (.cells #[.int .i64 x] 2)).setCell ⟨w.heap.size, 0, none⟩ (.int .i64 k1)).setCell ⟨w.heap.size, 1, none⟩ (.int .u64 a1)).setCell ⟨w.heap.size, 2, none⟩ (.int .u64 b1)) (some w.heap.size)) := grown_trans G1.out (grown_set3 _ _ _ _ _)
      have C2 : Hid (((((w3.drew.alloc (.cells #[.int .i64 x] 2)).setCell ⟨w.heap.size, 0, none⟩ (.int .i64 k1)).setCell ⟨w.heap.size, 1, none⟩ (.int .u64 a1)).setCell ⟨w.heap.size, 2, none⟩ (.int .u64 b1)).cell? ⟨w3.heap.size, 0, none⟩ = some (.int .i64 x)) := by
        have hh := ((Below.heap_setCell ((w3.drew.alloc (.cells #[.int .i64 x] 2)).setCell ⟨w.heap.size, 0, none⟩ (.int .i64 k1) |>.setCell ⟨w.heap.size, 1, none⟩ (.int .u64 a1)) ⟨w.heap.size, 2, none⟩ (.int .u64 b1) w3.heap.size (by show w3.heap.size ≠ w.heap.size; omega)).trans (Below.heap_setCell ((w3.drew.alloc (.cells #[.int .i64 x] 2)).setCell ⟨w.heap.size, 0, none⟩ (.int .i64 k1)) ⟨w.heap.size, 1, none⟩ (.int .u64 a1) w3.heap.size (by show w3.heap.size ≠ w.heap.size; omega))).trans (Below.heap_setCell (w3.drew.alloc (.cells #[.int .i64 x] 2)) ⟨w.heap.size, 0, none⟩ (.int .i64 k1) w3.heap.size (by show w3.heap.size ≠ w.heap.size; omega))
        exact (World.cell?_of_block hh).trans C1.out
      have S2 : Hid (SeedAt ((((w3.drew.alloc (.cells #[.int .i64 x] 2)).setCell ⟨w.heap.size, 0, none⟩ (.int .i64 k1)).setCell ⟨w.heap.size, 1, none⟩ (.int .u64 a1)).setCell ⟨w.heap.size, 2, none⟩ (.int .u64 b1)) w.heap.size ⟨k1, a1, b1⟩) := S1.out.set3 _ _ _
      have Z2 : Hid (SeedAt ((((w3.drew.alloc (.cells #[.int .i64 x] 2)).setCell ⟨w.heap.size, 0, none⟩ (.int .i64 k1)).setCell ⟨w.heap.size, 1, none⟩ (.int .u64 a1)).setCell ⟨w.heap.size, 2, none⟩ (.int .u64 b1)) (w.heap.size + 1) Sd.zero) := Z1.out.far3 (by omega) _ _ _
      have B2 : Hid (Below w.heap.size w ((((w3.drew.alloc (.cells #[.int .i64 x] 2)).setCell ⟨w.heap.size, 0, none⟩ (.int .i64 k1)).setCell ⟨w.heap.size, 1, none⟩ (.int .u64 a1)).setCell ⟨w.heap.size, 2, none⟩ (.int .u64 b1))) := below_set3 B1.out (Nat.le_refl _) _ _ _
      have hsz : (((w3.drew.setCell ⟨w.heap.size, 0, none⟩ (.int .i64 k1)).setCell ⟨w.heap.size, 1, none⟩ (.int .u64 a1)).setCell ⟨w.heap.size, 2, none⟩ (.int .u64 b1)).heap.size = w3.heap.size := by simp [World.setCell]
      have G3 : Hid (w3.grownBy ((((w3.drew.setCell ⟨w.heap.size, 0, none⟩ (.int .i64 k1)).setCell ⟨w.heap.size, 1, none⟩ (.int .u64 a1)).setCell ⟨w.heap.size, 2, none⟩ (.int .u64 b1)).alloc (.cells #[.int .i64 x] 2)) (some w.heap.size)) := grown_trans (grown_trans (grown_drew' _ _) (grown_set3 _ _ _ _ _)) (World.grownBy_alloc _ _ _)
      have C3 : Hid (((((w3.drew.setCell ⟨w.heap.size, 0, none⟩ (.int .i64 k1)).setCell ⟨w.heap.size, 1, none⟩ (.int .u64 a1)).setCell ⟨w.heap.size, 2, none⟩ (.int .u64 b1)).alloc (.cells #[.int .i64 x] 2)).cell? ⟨w3.heap.size, 0, none⟩ = some (.int .i64 x)) := by
        have hh := cell_of_row ((((w3.drew.setCell ⟨w.heap.size, 0, none⟩ (.int .i64 k1)).setCell ⟨w.heap.size, 1, none⟩ (.int .u64 a1)).setCell ⟨w.heap.size, 2, none⟩ (.int .u64 b1)).alloc (.cells #[.int .i64 x] 2)) _ 0 _ 2 (0, 0) (heap_alloc_new (((w3.drew.setCell ⟨w.heap.size, 0, none⟩ (.int .i64 k1)).setCell ⟨w.heap.size, 1, none⟩ (.int .u64 a1)).setCell ⟨w.heap.size, 2, none⟩ (.int .u64 b1)) (.cells #[.int .i64 x] 2))
        rw [hsz] at hh
        exact hh
      have S3 : Hid (SeedAt ((((w3.drew.setCell ⟨w.heap.size, 0, none⟩ (.int .i64 k1)).setCell ⟨w.heap.size, 1, none⟩ (.int .u64 a1)).setCell ⟨w.heap.size, 2, none⟩ (.int .u64 b1)).alloc (.cells #[.int .i64 x] 2)) w.heap.size ⟨k1, a1, b1⟩) := (Hg3.out.drew.set3 _ _ _).alloc _
      have Z3 : Hid (SeedAt ((((w3.drew.setCell ⟨w.heap.size, 0, none⟩ (.int .i64 k1)).setCell ⟨w.heap.size, 1, none⟩ (.int .u64 a1)).setCell ⟨w.heap.size, 2, none⟩ (.int .u64 b1)).alloc (.cells #[.int .i64 x] 2)) (w.heap.size + 1) Sd.zero) := (Hz3.out.drew.far3 (by omega) _ _ _).alloc _
      have B3 : Hid (Below w.heap.size w ((((w3.drew.setCell ⟨w.heap.size, 0, none⟩ (.int .i64 k1)).setCell ⟨w.heap.size, 1, none⟩ (.int .u64 a1)).setCell ⟨w.heap.size, 2, none⟩ (.int .u64 b1)).alloc (.cells #[.int .i64 x] 2))) := (below_set3 HB3.out.drew (Nat.le_refl _) _ _ _).alloc (by rw [hsz]; omega) _
      have hosucc : Hid (ol ++ [x] = wordsN (k + 1) s) := by show _ = _; rw [wordsN_succ, hol.out, Hx.out]
      have hsuc : Hid ((⟨k1, a1, b1⟩ : Sd) = nthSd (k + 1) s) := by show _ = _; rw [nthSd_succ]; exact Ht.out
      have hw1 : w.heap.size + 2 ≤ (w3.drew.alloc (.cells #[.int .i64 x] 2)).heap.size := Nat.le_trans hb3 G1.out.size
      have HW1 := Lib.hid hw1
      clear hsz hw1
      go_region_law (first
        | (refine step_emitI rfl (.tmp 19) (.tmp 21) rfl (w.heap.size + 2) u6 ol (by simp [Act.eval]) HO3.out w.heap.size hne G1.out x w3.heap.size (by simp [Act.eval]) C1.out hol63 hb3 ?_
           intro v' w4 hO' hg4 hor
           have hs4 := S1.out.grown hg4 (fun e => hne e.symm)
           have hn4 := N1.out.grown hg4 (fun e => hne2 e.symm)
           have t0 := hn4.c0
           have t1 := hn4.c1
           have t2 := hn4.c2
           have p0 := hs4.c0
           have p1 := hs4.c1
           have p2 := hs4.c2
           have q0 := hs4.fz 0
           have q1 := hs4.fz 1
           have q2 := hs4.fz 2
           have HOF := Lib.hid (hO'.kept (grown_set3 w4 w.heap.size k1 a1 b1) (.inr (Hnz.out v' _ hor HW1.out).1))
           have HSF := Lib.hid (hs4.set3 k1 a1 b1)
           have HZF := Lib.hid ((Z1.out.grown hg4 (fun e => hne1 e.symm)).far3 (g' := w.heap.size) (by omega) k1 a1 b1)
           have HBF := Lib.hid (below_set3 (B1.out.grown hg4 B1.out.size Hge.out) (Nat.le_refl _) k1 a1 b1)
           clear hO' hg4 hor hs4 hn4)
        | (refine step_emitI rfl (.tmp 19) (.tmp 21) rfl (w.heap.size + 2) u6 ol (by simp [Act.eval, Act.put]) HO3.out w.heap.size hne G2.out x w3.heap.size (by simp [Act.eval, Act.put]) C2.out hol63 hb3 ?_
           intro v' w4 hO' hg4 hor
           have HSF := Lib.hid (S2.out.grown hg4 (fun e => hne e.symm))
           have HZF := Lib.hid (Z2.out.grown hg4 (fun e => hne1 e.symm))
           have HBF := Lib.hid (B2.out.grown hg4 B2.out.size Hge.out)
           have HOF := Lib.hid hO'
           clear hO' hg4 hor)
        | (refine step_emitI rfl (.tmp 19) (.tmp 21) rfl (w.heap.size + 2) u6 ol (by simp [Act.eval, Act.put]) HO3.out w.heap.size hne G3.out x w3.heap.size (by simp [Act.eval, Act.put]) C3.out hol63 hb3 ?_
           intro v' w4 hO' hg4 hor
           have HSF := Lib.hid (S3.out.grown hg4 (fun e => hne e.symm))
           have HZF := Lib.hid (Z3.out.grown hg4 (fun e => hne1 e.symm))
           have HBF := Lib.hid (B3.out.grown hg4 B3.out.size Hge.out)
           have HOF := Lib.hid hO'
           clear hO' hg4 hor))
      all_goals
        go_wp2
        go_roundw
        case rel => exact ⟨k + 1, ol ++ [x], by omega, by go_num, hosucc, HOF.out, by rw [← hsuc.out]; exact HSF.out, HZF.out, HBF.out⟩
        case measure => simp [intOf]; omega
    · have en : n.toNat = k := by omega
      have c0 := hg'.c0
      have c1 := hg'.c1
      have c2 := hg'.c2
      have u0 := Hz'.out.c0
      have u1 := Hz'.out.c1
      have u2 := Hz'.out.c2
      have v0 := Hz'.out.fz 0
      have v1 := Hz'.out.fz 1
      have v2 := Hz'.out.fz 2
      go_wp2
      (try simp only [Exit.inBlock, Exit.then])
      refine bodyPost_ret (results_s2 rfl _ rfl (Hz'.out.set3 _ _ _)) rfl ?_
      exact ⟨u6, rfl, by rw [← hol.out]; exact (HO.out.kept (grown_set3 _ _ _ _ _) (.inr (fun e => by have := HO.out.lt _ e; omega))).base_le (by omega), below_set3 HB'.out (by omega) _ _ _⟩
end Go.Proofs.Ytlgpcojoonnlbaa
