/- MeetingsIn: how many numbers of a list are equal to one before them, by Sort and Compact; both functions. -/
import Derived.Test.YtlgpcojoonnlbaaZ00
namespace Go.Proofs.Ytlgpcojoonnlbaa
open Go.RowKit Go.Sort
set_option maxRecDepth 100000
theorem compact_len (zs : List Int) : ∀ m, m ≤ zs.length → (Lib.compactUpTo zs.toArray m).length = runsN zs m
  | 0, _ => rfl
  | m + 1, hm => by
    have ih := compact_len zs m (by omega)
    unfold Lib.compactUpTo at ih ⊢
    rw [List.range_succ, List.filter_append, List.map_append, List.length_append, ih, runsN]
    congr 1
    have e1 : zs.toArray[m]! = zs[m] := by simp [show m < zs.length by omega]
    have e2 : zs[m]? = some zs[m] := List.getElem?_eq_getElem (by omega)
    have e3 : zs.toArray[m - 1]! = zs[m - 1] := by simp [show m - 1 < zs.length by omega]
    have e4 : zs[m - 1]? = some zs[m - 1] := List.getElem?_eq_getElem (by omega)
    have hk : Lib.keeps zs.toArray m = decide (m = 0 ∨ zs[m]? ≠ zs[m - 1]?) := by
      unfold Lib.keeps
      rw [e1, e3, e2, e4]
      simp
    by_cases h : m = 0 ∨ zs[m]? ≠ zs[m - 1]?
    · rw [List.filter_cons_of_pos (by rw [hk]; exact decide_eq_true h), if_pos h]; rfl
    · rw [List.filter_cons_of_neg (by rw [hk, decide_eq_false h]; simp), if_neg h]; rfl
theorem compact_any (A : Option Addr) (n c base : Nat) (xs : List Int) (w : World) (h : Own w base 2 (.slice A n c) (i64s xs)) (hn : xs.length ≤ 1048576) :
    Calls Try.prog 42 #[.slice A n c] w fun e w' => e = .returned (.slice A (runsN xs xs.length) c) ∧ w.grownBy w' (Value.ownBlock (.slice A n c)) := by
  have hl : n = xs.length := by have := h.rd.1; rwa [i64s_length] at this
  subst hl
  have h' := h
  unfold Own at h'
  rw [i64s_length] at h'
  rcases h'.2 with ⟨hv, h0⟩ | ⟨g, cap, cur, hv, hbase, hb, h1, h2, h3, h4⟩
  · simp only [Value.slice.injEq] at hv
    obtain ⟨rfl, hx, rfl⟩ := hv
    have hnil : xs = [] := List.length_eq_zero_iff.1 (by omega)
    subst hnil
    refine (Go.Proofs.AnyG.slices_Compact_int_empty Try.mComp none 0 w).mono ?_
    rintro e w' ⟨rfl, rfl⟩
    exact ⟨rfl, World.grownBy.refl _ _⟩
  · simp only [Value.slice.injEq] at hv
    obtain ⟨rfl, -, rfl⟩ := hv
    rw [Nat.mul_one] at h4
    have hH := Go.holds_of_blockI hb (ss := xs) h4
    refine (Go.Proofs.AnyG.slices_Compact_int Try.mComp g 0 c xs w hH (by omega) h1).mono ?_
    rintro e w' ⟨rfl, q, rfl⟩
    refine ⟨?_, by have hg := Go.grownBy_sortedI (w := w) (g := g) (n := q) (os := #[]) (Lib.compact xs ++ List.replicate (xs.length - (Lib.compact xs).length) 0).toArray; rw [Go.Sort.grow_empty] at hg; exact hg⟩
    unfold Lib.compact
    rw [compact_len xs xs.length (Nat.le_refl _)]
theorem meetings_any (A : Option Addr) (n c B : Nat) (xs : List Int) (w : World) (h : Rd w B A n (i64s xs)) (hB : B ≤ w.heap.size) (hn : xs.length ≤ 1048576) :
    Calls Try.prog 31 #[.slice A n c] w fun e w' => e = .returned (.int .i64 (eqN xs : Int)) ∧ Below w.heap.size w w' := by
  have hl := h.lenI
  obtain rfl : xs.length = n := hl.out
  clear hl
  have hsl := sortedI_len xs
  have hrun := runs_sorted xs
  go_enter Try.func31, Try.ntmps31
  go_wp2_with fail
  refine (cloneI_any A xs.length c B xs _ h hB hn).mono ?_
  rintro e w1 ⟨v, rfl, ho, hb⟩
  obtain ⟨A1, c1, rfl, hcap⟩ := ho.shapeI
  have HB1 := Lib.hid hb; have HO1 := Lib.hid ho
  clear hb ho h
  go_wp2_with fail
  refine (sortI_any A1 xs.length c1 w.heap.size xs _ HO1.out hn).mono ?_
  rintro e w2 ⟨rfl, ho, hgr⟩
  have HO2 := Lib.hid ho
  have HB2 := Lib.hid (below_ownGrown HB1.out HO1.out hgr (Nat.le_refl _) (Nat.le_refl _))
  clear ho hgr HO1 HB1
  obtain ⟨r, hr⟩ : ∃ r, r = runsN (sortedI xs) (sortedI xs).length := ⟨_, rfl⟩
  rw [← hr] at hrun
  have Hr := Lib.hid hr
  clear hr hsl
  go_wp2_with fail
  refine (compact_any A1 xs.length c1 w.heap.size (sortedI xs) _ HO2.out (by rw [sortedI_len]; exact hn)).mono ?_
  rintro e w3 ⟨rfl, hgr⟩
  rw [← Hr.out]
  have HB3 := Lib.hid (below_ownGrown HB2.out HO2.out hgr (Nat.le_refl _) (Nat.le_refl _))
  have hsub : (xs.length : Int) - (r : Int) = (eqN xs : Int) := by omega
  clear hgr
  go_wp2
  go_ret
  exact ⟨ret_int (by first | rfl | omega | exact hsub), HB3.out⟩
theorem grown_drew' (a : World) (r : Option Nat) : a.grownBy a.drew r := ⟨rfl, rfl, rfl, Nat.le_refl _, fun _ _ _ => rfl⟩
theorem nnb_none {w w' : World} {r : Option (Int × Int)} (h : r = none) (hb : Below w.heap.size w w') : GaveNNB w r (.returned (.tuple #[.int .i64 0, .int .i64 0, .bool false])) w' := by
  subst h; exact ⟨0, 0, false, rfl, rfl, rfl, rfl, hb⟩
theorem nnb_some {w w' : World} {r : Option (Int × Int)} {x y : Int} (h : r = some (x, y)) (hb : Below w.heap.size w w') : GaveNNB w r (.returned (.tuple #[.int .i64 x, .int .i64 y, .bool true])) w' := by
  subst h; exact ⟨x, y, true, rfl, rfl, rfl, rfl, hb⟩
theorem quotL_zero (xs : List Int) (s : Int) : quotL (xs.take 0) s = [] := rfl
set_option maxHeartbeats 20000000 in
theorem implMeetings : FnLN_NNB 15 meetR := by
  intro A n c B xs s w h hB hn hf hcap hs
  have hl := h.lenI
  obtain rfl : xs.length = n := hl.out
  have Hc := Lib.hid (implAreWords_any A xs.length c B xs w h hn)
  have HR := Lib.hid h
  clear h hl hf hcap
  cases hv : areWords xs with
  | false =>
    have hr : Hid (meetR xs s = none) := by show _ = _; simp [meetR, hv]
    rw [hv] at Hc
    clear hv
    go_enter Try.func15, Try.ntmps15
    go_wp2_with fail
    refine Hc.out.mono ?_
    rintro e w1 ⟨rfl, rfl⟩
    go_wp2
    go_ret3
    exact nnb_none hr.out (Below.refl _ _)
  | true =>
    rw [hv] at Hc
    cases hi : inB s 1 4294967296 with
    | false =>
      have hr : Hid (meetR xs s = none) := by show _ = _; simp [meetR, hi]
      clear hv
      go_enter Try.func15, Try.ntmps15
      go_wp2_with fail
      refine Hc.out.mono ?_
      rintro e w1 ⟨rfl, rfl⟩
      go_wp2_with fail
      refine (within_any _ _ _ _).mono ?_
      rintro e w1 ⟨rfl, rfl⟩
      rw [hi]
      clear hi
      go_wp2
      go_ret3
      exact nnb_none hr.out (Below.refl _ _)
    | true =>
      obtain ⟨hs1, hs2⟩ := inB_true hi
      have hr : Hid (meetR xs s = some ((eqN (quotL xs s) : Int), (eqN (lessL (sortedI (quotL xs s)) xs.length) : Int))) := by show _ = _; simp [meetR, hv, hi]
      have hall : allWords xs = true := by unfold areWords at hv; rw [Bool.and_eq_true] at hv; exact hv.2
      obtain ⟨hlen1, hlen⟩ : 1 ≤ xs.length ∧ xs.length ≤ 256 := by unfold areWords at hv; rw [Bool.and_eq_true] at hv; have := inB_true hv.1; omega
      have Hall := Lib.hid hall
      have hs0 : ¬ s = 0 := by omega
      clear hv hall
      go_enter Try.func15, Try.ntmps15
      go_wp2_with fail
      refine Hc.out.mono ?_
      rintro e w1 ⟨rfl, rfl⟩
      go_wp2_with fail
      refine (within_any _ _ _ _).mono ?_
      rintro e w1 ⟨rfl, rfl⟩
      rw [hi]
      clear hi
      go_wp2
      have hz1 : (w.alloc (.cells #[] 2)).heap.size = w.heap.size + 1 := by show (w.heap.push _).size = _; simp
      have hol : Own ((w.alloc (.cells #[] 2)).alloc (.cells #[] 2)) w.heap.size 2 (.slice (some ⟨w.heap.size, 0, none⟩) 0 0) (i64s []) := (own_newI w (Nat.le_refl _)).below ((Below.refl _ _).alloc (Nat.le_refl _) _) (Nat.le_refl _)
      have hoa := own_newI (w.alloc (.cells #[] 2)) (base := w.heap.size) (by omega)
      rw [hz1] at hoa
      have HOl := Lib.hid hol; have HOa := Lib.hid hoa
      have HB0 := Lib.hid (((Below.refl w.heap.size w).alloc (Nat.le_refl _) (.cells #[] 2)).alloc (by rw [hz1]; omega) (.cells #[] 2))
      clear hol hoa hz1
      go_loopw [7, 24] (fun v i wr => ∃ k : Nat, k ≤ xs.length ∧ i = .int .i64 k ∧ Own wr w.heap.size 2 v (i64s (quotL (xs.take k) s)) ∧ Hid (v.ownBlock ≠ some (w.heap.size + 1)) ∧ Own wr w.heap.size 2 (.slice (some ⟨w.heap.size + 1, 0, none⟩) 0 0) (i64s []) ∧ Below w.heap.size w wr) (fun _ i _ => xs.length - (intOf i).toNat)
      case atStart => exact ⟨0, Nat.zero_le _, rfl, HOl.out, by show ¬ _; simp [Value.ownBlock], HOa.out, HB0.out⟩
      case round =>
        obtain ⟨k, hk, rfl, hO, hne, hOa, hbel⟩ := hrel
        have HO := Lib.hid hO; have HOa := Lib.hid hOa; have HB' := Lib.hid hbel
        clear hO hOa hbel
        have hsz := HB'.out.size
        by_cases hlt : k < xs.length
        · have hlt' : (k : Int) < (xs.length : Int) := by omega
          obtain ⟨b, off, x, rfl, hbB, hx, hcx⟩ := (HR.out.below HB'.out hB).atI (k := k) hlt
          obtain ⟨hx0, hx1⟩ := allWords_at Hall.out hx.out
          obtain ⟨y, hy⟩ : ∃ y, y = x / s := ⟨_, rfl⟩
          have hq : Int.tdiv x s = y := by rw [Int.tdiv_eq_ediv_of_nonneg hx0, hy]
          have hy0 : 0 ≤ y := by rw [hy]; exact Int.ediv_nonneg hx0 (by omega)
          have hy1 : y ≤ 4294967295 := by rw [hy]; exact Int.le_trans (Int.ediv_le_self _ hx0) hx1
          have hnext : Hid (quotL (xs.take (k + 1)) s = quotL (xs.take k) s ++ [y]) := by show _ = _; rw [quotL_take s hx.out, hy]
          have Hsz := Lib.hid (HOa.out.lt _ rfl).2
          clear hy
          go_wp2_with (at_builtin; go_must (refine emitI wr rfl _ _ rfl w.heap.size u7 (quotL (xs.take k) s) rfl HO.out y rfl ?c1 hsz ?_))
          case c1 => rw [quotL_len, List.length_take]; omega
          intro v' w3 hO' hg3 hor
          rw [← hnext.out] at hO'
          have HO' := Lib.hid hO'
          have HB3 := Lib.hid (below_ownGrown HB'.out HO.out hg3 (Nat.le_refl _) (Nat.le_refl _))
          have HOa3 := Lib.hid (HOa.out.kept hg3 (.inr (fun e => hne.out (e.symm.trans rfl))))
          have hne3 : Hid (v'.ownBlock ≠ some (w.heap.size + 1)) := by
            show ¬ _
            rcases hor with h | ⟨k', h, hk'⟩
            · rw [h]; exact hne.out
            · rw [h]; intro e; cases e; have := Hsz.out; omega
          clear hO' hg3 hor
          go_wp2
          go_roundw
          case rel => exact ⟨k + 1, by omega, by go_num, HO'.out, hne3, HOa3.out, HB3.out⟩
          case measure => simp only [intOf]; omega
        · obtain rfl : k = xs.length := by omega
          have hO := HO.out
          rw [List.take_length] at hO
          obtain ⟨A1, c1, rfl, hcap1⟩ := hO.shapeI
          have hql := quotL_len xs s
          rw [hql] at hO ⊢
          obtain ⟨g1, x0, rfl, _⟩ := hO.atI (k := 0) (by rw [hql]; omega)
          obtain ⟨qs, hqs⟩ : ∃ qs, qs = quotL xs s := ⟨_, rfl⟩
          have hin : ∀ x ∈ qs, 0 ≤ x ∧ x ≤ 4294967295 := by
            intro x hx
            obtain ⟨i, hi⟩ := List.mem_iff_getElem?.1 hx
            rw [hqs] at hi
            exact quotL_in Hall.out hs1 hi
          rw [← hqs] at hO hql hr
          have Hin := Lib.hid hin
          have HO1 := Lib.hid hO
          have Hql := Lib.hid hql
          have hge : Hid (g1 ≠ w.heap.size + 1) := fun e => hne.out (by rw [← e]; rfl)
          clear hO HO hqs hin hql hne
          go_wp2_with fail
          refine (sortI_any _ xs.length c1 w.heap.size qs _ HO1.out (by have := Hql.out; omega)).mono ?_
          rintro e w2 ⟨rfl, ho, hgr⟩
          have hsl := sortedI_len qs
          rw [Hql.out] at hsl
          have HO2 := Lib.hid ho
          have HOa2 := Lib.hid (HOa.out.kept hgr (.inr (fun e => hge.out (by injection e with e; exact e.symm))))
          have HB2 := Lib.hid (below_ownGrown HB'.out HO1.out hgr (Nat.le_refl _) (Nat.le_refl _))
          have hle2 : w.heap.size ≤ w2.heap.size := HB2.out.size
          have Hsl := Lib.hid hsl
          clear ho hgr hsl
          go_wp2
          go_loopw [8, 11] (fun v i wr => ∃ k : Nat, 1 ≤ k ∧ k ≤ xs.length ∧ i = .int .i64 k ∧ Own wr w.heap.size 2 v (i64s (lessL (sortedI qs) k)) ∧ Hid (v.ownBlock ≠ some g1) ∧ Own wr w.heap.size 2 (.slice (some ⟨g1, 0, none⟩) xs.length c1) (i64s (sortedI qs)) ∧ Below w.heap.size w wr) (fun _ i _ => xs.length - (intOf i).toNat)
          case atStart => exact ⟨1, Nat.le_refl _, by omega, rfl, HOa2.out, fun e => hge.out (by injection e with e; exact e.symm), HO2.out, HB2.out⟩
          case round =>
            obtain ⟨k, hk1, hk, rfl, hO, hne, hOl, hbel⟩ := hrel
            have HO := Lib.hid hO; have HOl := Lib.hid hOl; have HB3 := Lib.hid hbel
            clear hO hOl hbel
            by_cases hlt : k < xs.length
            · have hlt' : (k : Int) < (xs.length : Int) := by omega
              obtain ⟨p, hp⟩ : ∃ p, p = k - 1 := ⟨_, rfl⟩
              obtain ⟨g, x, hA, hx, hcx, hfx⟩ := HOl.out.atI (k := k) (by have := Hsl.out; omega)
              obtain ⟨g', y, hA', hy, hcy, hfy⟩ := HOl.out.atI (k := p) (by have := Hsl.out; omega)
              obtain rfl : g1 = g := by injection hA with e; injection e
              obtain rfl : g1 = g' := by injection hA' with e; injection e
              obtain ⟨hx0, hx1⟩ := sortedI_all Hin.out hx.out
              obtain ⟨hy0, hy1⟩ := sortedI_all Hin.out hy.out
              have hwp : IntKind.i64.wrap ((k : Int) - 1) = (p : Int) := by rw [IntKind.wrap_i64]; omega
              have hpx : (p : Int) < (xs.length : Int) := by omega
              obtain ⟨z, hz⟩ : ∃ z, z = x - y := ⟨_, rfl⟩
              have hwz : IntKind.i64.wrap (x - y) = z := by rw [IntKind.wrap_i64]; omega
              have hnext : Hid (lessL (sortedI qs) (k + 1) = lessL (sortedI qs) k ++ [z]) := by
                show _ = _
                rw [hz]
                exact lessL_succ hk1 hx.out (by rw [← hp]; exact hy.out)
              have hl63 : (lessL (sortedI qs) k).length ≤ 2000000 := by rw [lessL_len]; omega
              have hb3 : w.heap.size ≤ wr.heap.size := HB3.out.size
              have hne0 : u8.ownBlock ≠ some wr.heap.size := fun e => by have := HO.out.lt _ e; omega
              have G1 : Hid (wr.grownBy (wr.drew.alloc (.cells #[.int .i64 z] 2)) (some wr.heap.size)) := grown_trans' (grown_drew' _ _) (World.grownBy_alloc _ _ _)
              have C1 : Hid ((wr.drew.alloc (.cells #[.int .i64 z] 2)).cell? ⟨wr.heap.size, 0, none⟩ = some (.int .i64 z)) := by show _ = _; have := one_cell wr.drew 2 (.int .i64 z) 0 (.int .i64 z) rfl; simpa [Addr.add] using this
              have B1 : Hid (Below w.heap.size w (wr.drew.alloc (.cells #[.int .i64 z] 2))) := HB3.out.drew.alloc HB3.out.size _
              have hgl : g1 < wr.heap.size := (HOl.out.lt g1 rfl).2
              have OL : Hid (Own (wr.drew.alloc (.cells #[.int .i64 z] 2)) w.heap.size 2 (.slice (some ⟨g1, 0, none⟩) xs.length c1) (i64s (sortedI qs))) := HOl.out.kept G1.out (.inr (fun e => by injection e with e; have e' : g1 = wr.heap.size := e; omega))
              have hge' : ∀ k, u8.ownBlock = some k → w.heap.size ≤ k := fun k e => by have := HO.out.lt _ e; omega
              have hszA : wr.heap.size ≤ (wr.drew.alloc (.cells #[.int .i64 z] 2)).heap.size := G1.out.size
              have HszA := Lib.hid hszA
              have Hge := Lib.hid hge'
              have Hz := Lib.hid hz
              have Hp := Lib.hid hp
              have Hgl := Lib.hid hgl
              clear hx hy hz hge' hA hA' hfx hfy hp hszA hgl
              go_wp2
              go_region_law (first
                | (refine step_emitI rfl (.tmp 43) (.tmp 54) rfl w.heap.size u8 (lessL (sortedI qs) k) (by simp [Act.eval]) HO.out wr.heap.size hne0 G1.out z wr.heap.size (by simp [Act.eval]) C1.out hl63 hb3 ?_
                   intro v' w4 hO' hg4 hor
                   have HOF := Lib.hid hO'
                   have HBF := Lib.hid (B1.out.grown hg4 B1.out.size Hge.out)
                   have HLF := Lib.hid (OL.out.kept hg4 (.inr (fun e => hne.out (e.symm.trans rfl))))
                   have hnF : Hid (v'.ownBlock ≠ some g1) := by
                     show ¬ _
                     rcases hor with h | ⟨k', h, hk'⟩
                     · rw [h]; exact hne.out
                     · rw [h]; intro e; have e' : k' = g1 := by injection e
                       have h3 : wr.heap.size ≤ k' := Nat.le_trans HszA.out hk'
                       have := Hgl.out; omega
                   clear hO' hg4 hor))
              all_goals
                go_wp2
                go_roundw
                case rel => exact ⟨k + 1, by omega, by omega, by go_num, by rw [hnext.out]; exact HOF.out, hnF, HLF.out, HBF.out⟩
                case measure => simp only [intOf]; omega
            · obtain rfl : k = xs.length := by omega
              have hO := HO.out
              obtain ⟨A3, c3, rfl, hcap3⟩ := hO.shapeI
              have hll := lessL_len (sortedI qs) xs.length
              obtain ⟨m, hm⟩ : ∃ m, m = (lessL (sortedI qs) xs.length).length := ⟨_, rfl⟩
              rw [← hm] at hO hll ⊢
              have HR3 := Lib.hid (by have := hO.rdI; rwa [← hm] at this : Rd wr wr.heap.size A3 m (i64s (lessL (sortedI qs) xs.length)))
              have HRq := Lib.hid (by have := HOl.out.rdI; rwa [Hsl.out] at this : Rd wr wr.heap.size (some ⟨g1, 0, none⟩) xs.length (i64s (sortedI qs)))
              have Hll := Lib.hid hll
              have hr2 : Hid (meetR xs s = some ((eqN (sortedI qs) : Int), (eqN (lessL (sortedI qs) xs.length) : Int))) := by show _ = _; rw [hr.out, eqN_sorted]
              clear hO HO hm hll hr
              go_wp2_with fail
              refine (meetings_any _ xs.length c1 _ (sortedI qs) _ HRq.out (Nat.le_refl _) (by have := Hsl.out; omega)).mono ?_
              rintro e w4 ⟨rfl, hb4⟩
              have HR4 := Lib.hid (HR3.out.below hb4 (Nat.le_refl _))
              have hle4 := hb4.size
              have HB4 := Lib.hid (HB3.out.trans (hb4.mono HB3.out.size))
              clear hb4
              go_wp2_with fail
              refine (meetings_any A3 m c3 _ (lessL (sortedI qs) xs.length) _ HR4.out hle4 (by rw [lessL_len]; omega)).mono ?_
              rintro e w5 ⟨rfl, hb5⟩
              have HB5 := Lib.hid (HB4.out.trans (hb5.mono HB4.out.size))
              clear hb5
              go_wp2
              go_ret3
              exact nnb_some hr2.out HB5.out
end Go.Proofs.Ytlgpcojoonnlbaa
