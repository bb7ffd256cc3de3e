/- spec.CodeOfTree: the reference's walk. -/
import Derived.Test.YtgkbkbmhdhlffaaCodeQ
import Derived.Test.YtgkbkbmhdhlffaaTreeF
import Derived.Test.YtgkbkbmhdhlffaaCycles
namespace Go.Proofs.Ytgkbkbmhdhlffaa
open Go.RowKit
theorem grown_set1N (w : World) (g i : Nat) (u : Value) : w.grownBy (w.setCell ⟨g, i, none⟩ u) (some g) :=
  ⟨rfl, rfl, rfl, by simp [World.setCell], fun k _ hk => Below.heap_setCell w _ u k (fun e => hk (by rw [e]))⟩
theorem rowN_base {w : World} {base b : Nat} {e : TypeId} {v : Value} {n : Nat} {xs : List Value} (h : w.ownsRow base e 1 v n xs) (hb : b ≤ base) : w.ownsRow b e 1 v n xs := by
  refine ⟨h.1, ?_⟩
  rcases h.2 with hn | ⟨g, cap, cur, hv, h1, rest⟩
  · exact .inl hn
  · exact .inr ⟨g, cap, cur, hv, by omega, rest⟩
theorem own_setN {wr : World} {b g i : Nat} {e : TypeId} {x : Value} {xs : List Value} {z : Value} (h : Own wr b e x xs) (hn : x.ownBlock ≠ some g) : Own (wr.setCell ⟨g, i, none⟩ z) b e x xs := h.kept (grown_set1N wr g i z) (.inr hn)
/-- What stands in memory: degrees, marks and code. -/
structure Sp (w : World) (g6 g7 c6 N m : Nat) (E F : List Ed) (C : List Nat) (ov : Value) (wr : World) : Prop where
  dg : Own wr w.heap.size 2 (.slice (some ⟨g6, 0, none⟩) m c6) (i64s (rowOf m (deg F)))
  gn : wr.ownsRow w.heap.size 4 1 (.slice (some ⟨g7, 0, none⟩) N N) N (bools (goneL E F))
  ou : Own wr (g7 + 1) 2 ov (i64s (natsI C))
  sz : g7 + 1 ≤ wr.heap.size
  bl : Below w.heap.size w wr
theorem Sp.gone {w wr : World} {g6 g7 c6 N m i : Nat} {E F : List Ed} {C : List Nat} {ov : Value} {e : Ed} (h : Sp w g6 g7 c6 N m E F C ov wr) (hN : N = 2 * E.length) (hi : i < N) (he : E[i / 2]? = some e) : wr.cell? ⟨g7, i, none⟩ = some (.bool (decide (e ∉ F))) ∧ wr.frozen? ⟨g7, i, none⟩ = false :=
  ⟨(h.gn.cellAt i (by omega)).trans (bools_get (goneL_at he (by omega))), h.gn.frozenAt i⟩
theorem Sp.degs {w wr : World} {g6 g7 c6 N m u : Nat} {E F : List Ed} {C : List Nat} {ov : Value} (h : Sp w g6 g7 c6 N m E F C ov wr) (hu : u < m) : wr.cell? ⟨g6, u, none⟩ = some (.int .i64 ((deg F u : Nat) : Int)) ∧ wr.frozen? ⟨g6, u, none⟩ = false := by
  obtain ⟨g, z, hA, hz, hc, hf⟩ := h.dg.atI (k := u) (by rw [rowOf_len]; omega)
  obtain rfl : g6 = g := by injection hA with e; injection e
  have hz2 := hz.out
  rw [rowOf_at _ hu] at hz2
  obtain rfl : z = ((deg F u : Nat) : Int) := (Option.some.inj hz2).symm
  exact ⟨hc, hf⟩
/-- The marks and degrees of one leaf more. -/
theorem Sp.taken {w wr : World} {g6 g7 c6 N m i v : Nat} {E F : List Ed} {C : List Nat} {ov : Value} {e : Ed} (h : Sp w g6 g7 c6 N m E F C ov wr) (h67 : g6 < g7) (hE : EdOk E m) (hN : N = 2 * E.length) (hi : i < N) (he : E[i / 2]? = some e) (hd : deg F v = 1) (hf : F.find? (touch v) = some e) (hov : other v e ≠ v) :
    Sp w g6 g7 c6 N m E (without F v) C ov ((((wr.setCell ⟨g7, i, none⟩ (.bool true)).setCell ⟨g7, flipN i, none⟩ (.bool true)).setCell ⟨g6, v, none⟩ (.int .i64 0)).setCell ⟨g6, other v e, none⟩ (.int .i64 (((deg F (other v e) - 1 : Nat)) : Int))) := by
  have h6 : w.heap.size ≤ g6 := (h.dg.lt g6 (by simp [Value.ownBlock])).1
  have h7 : w.heap.size ≤ g7 := by omega
  have n67 : (Value.slice (some ⟨g6, 0, none⟩) m c6).ownBlock ≠ some g7 := by simp [Value.ownBlock]; omega
  have no6 : ov.ownBlock ≠ some g6 := fun e => by have := (h.ou.lt g6 e).1; omega
  have no7 : ov.ownBlock ≠ some g7 := fun e => by have := (h.ou.lt g7 e).1; omega
  have hr : ((rowOf m (deg F)).set v 0).set (other v e) (((deg F (other v e) - 1 : Nat)) : Int) = rowOf m (deg (without F v)) := by
    have h1 := rowOf_set m v 0 (deg F)
    have h2 : (rowOf m (deg F)).set v 0 = rowOf m (updN (deg F) v 0) := h1
    rw [h2, rowOf_set]
    exact rowOf_ext fun u _ => deg_step hd hf hov
  have d1 := own_setN (i := flipN i) (z := .bool true) (own_setN (i := i) (z := .bool true) h.dg n67) n67
  have d2 := ((d1.stored rfl v 0).1.stored rfl (other v e) (((deg F (other v e) - 1 : Nat)) : Int)).1
  rw [hr] at d2
  have s1 := ((h.gn.stored i (.bool true)).1.stored (flipN i) (.bool true)).1
  rw [bools_set, bools_set, goneL_set hE he (by omega) hd hf] at s1
  have s2 := s1.kept (grown_set1N _ g6 v (.int .i64 0)) (.inr (by simp [Value.ownBlock]; omega))
  have s3 := s2.kept (grown_set1N _ g6 (other v e) (.int .i64 (((deg F (other v e) - 1 : Nat)) : Int))) (.inr (by simp [Value.ownBlock]; omega))
  exact ⟨d2, s3, own_setN (own_setN (own_setN (own_setN h.ou no7) no7) no6) no6, by simpa [World.setCell] using h.sz, (((h.bl.setCell (p := ⟨g7, i, none⟩) h7 _).setCell (p := ⟨g7, flipN i, none⟩) h7 _).setCell (p := ⟨g6, v, none⟩) h6 _).setCell (p := ⟨g6, other v e, none⟩) h6 _⟩
theorem Sp.emit {w wr w' : World} {g6 g7 c6 N m : Nat} {E F : List Ed} {C C' : List Nat} {ov v' : Value} (h : Sp w g6 g7 c6 N m E F C ov wr) (h67 : g6 < g7) (hb : w.heap.size ≤ g6) (hO : Own w' (g7 + 1) 2 v' (i64s (natsI C'))) (hg : wr.grownBy w' ov.ownBlock) : Sp w g6 g7 c6 N m E F C' v' w' where
  dg := h.dg.kept hg (.inr fun e => by have h9 : g7 + 1 ≤ g6 := (h.ou.lt g6 e.symm).1; omega)
  gn := h.gn.kept hg (.inr fun e => by have h9 : g7 + 1 ≤ g7 := (h.ou.lt g7 e.symm).1; omega)
  ou := hO
  sz := Nat.le_trans h.sz hg.size
  bl := below_ownGrown h.bl h.ou hg (Nat.le_refl _) (by omega)
theorem Sp.drewN {w wr : World} {g6 g7 c6 N m : Nat} {E F : List Ed} {C : List Nat} {ov : Value} (h : Sp w g6 g7 c6 N m E F C ov wr) (q : Nat) : Sp w g6 g7 c6 N m E F C ov (wr.drewN q) := ⟨h.dg.drewN q, h.gn, h.ou.drewN q, h.sz, below_drewN h.bl q⟩
set_option maxRecDepth 20000 in
set_option maxHeartbeats 4000000 in
theorem specCode : FnLN_LB 10 codeR := by
  intro A n c B xs k0 w h hB hn hf hcap hk0
  have hl := h.lenI
  obtain rfl : xs.length = n := hl.out
  have hc := specEdges_any A xs.length c B xs k0 w h hB hn hf hk0
  have Hc := Lib.hid hc
  have HR := Lib.hid h
  clear hc h hl hf
  cases hv : areEdges xs k0 with
  | false =>
    have hr : Hid (codeR xs k0 = none) := codeR_no (by rintro ⟨h, -⟩; rw [hv] at h; cases h)
    rw [hv] at Hc
    clear hv
    go_enter Try.func10, Try.ntmps10
    go_wp2_with fail
    refine Hc.out.mono ?_
    rintro e w1 ⟨rfl, q, rfl⟩
    have HB1 := Lib.hid (below_drewN' (B := w.heap.size) (w := w) q)
    go_wp2
    go_ret2
    exact ⟨_, _, rfl, by rw [hr.out]; rfl, by rw [hr.out]; exact own_none _ _ _, HB1.out⟩
  | true =>
    rw [hv] at Hc
    obtain ⟨E, hxE, hE, hE2, hk1, hk2⟩ := areEdges_pairs hv
    by_cases h2 : k0 < 2
    · have hr : Hid (codeR xs k0 = none) := codeR_no (by rintro ⟨-, h, -⟩; omega)
      clear hv hxE hE
      go_enter Try.func10, Try.ntmps10
      go_wp2_with fail
      refine Hc.out.mono ?_
      rintro e w1 ⟨rfl, q, rfl⟩
      have HB1 := Lib.hid (below_drewN' (B := w.heap.size) (w := w) q)
      go_wp2
      go_ret2
      exact ⟨_, _, rfl, by rw [hr.out]; rfl, by rw [hr.out]; exact own_none _ _ _, HB1.out⟩
    obtain ⟨m, rfl⟩ : ∃ m : Nat, k0 = (m : Int) := ⟨k0.toNat, by omega⟩
    rw [Int.toNat_natCast] at hE
    subst hxE
    have hfl := flatI_len E
    by_cases h3 : ¬ ((flatI E).length : Int) = 2 * ((m : Int) - 1)
    · have hr : Hid (codeR (flatI E) (m : Int) = none) := codeR_no (by rintro ⟨-, -, h⟩; exact h3 h)
      have hnb : (((flatI E).length : Int) != 2 * ((m : Int) - 1)) = true := by simp [bne]; omega
      clear hv hE hfl
      go_enter Try.func10, Try.ntmps10
      go_wp2_with fail
      refine Hc.out.mono ?_
      rintro e w1 ⟨rfl, q, rfl⟩
      have HB1 := Lib.hid (below_drewN' (B := w.heap.size) (w := w) q)
      go_wp2
      go_ret2
      exact ⟨_, _, rfl, by rw [hr.out]; rfl, by rw [hr.out]; exact own_none _ _ _, HB1.out⟩
    obtain ⟨K, hmK⟩ : ∃ K : Nat, m = K + 2 := ⟨m - 2, by omega⟩
    have hEl : E.length = K + 1 := by omega
    have HE := Lib.hid hE
    have Hr : Hid (codeR (flatI E) (m : Int) = (strip m K E).map fun r => natsI r.1) := by
      subst hmK
      exact codeR_flat hE hEl (by omega)
    have HM0 : Hid (Mid3 E E (List.range m) [] m K K) := by
      subst hmK
      exact Mid3.start hE hEl
    have Hv := Lib.hid hv
    have HmK := Lib.hid hmK
    have hKm : K ≤ 62 := by omega
    have HEl := Lib.hid hEl
    obtain ⟨N, hN⟩ : ∃ N, N = (flatI E).length := ⟨_, rfl⟩
    have HN : Hid (N = 2 * E.length) := hN.trans hfl
    have hN3 : (N : Int) = 2 * ((m : Int) - 1) := by omega
    have hnb : ((N : Int) != 2 * ((m : Int) - 1)) = false := by simp [bne]; omega
    have h512 : N ≤ 512 := by omega
    have h1N : 1 ≤ N := by omega
    rw [← hN] at HR Hc hn hcap ⊢
    clear hv hE hfl hEl hmK h3 hN hN3
    go_enter Try.func10, Try.ntmps10
    go_wp2_with fail
    refine Hc.out.mono ?_
    rintro e w1 ⟨rfl, q, rfl⟩
    have HB1 := Lib.hid (below_drewN' (B := w.heap.size) (w := w) q)
    have HR1 := Lib.hid (HR.out.below HB1.out hB)
    have hs1 := HB1.out.size
    clear Hc
    go_wp2_with fail
    refine (specDeg_any A N c B (flatI E) m _ HR1.out (by omega) Hv.out).mono ?_
    rintro e w2 ⟨v2, rfl, hO2, hb2⟩
    rw [Int.toNat_natCast] at hO2
    have hrow : degRow m (flatI E) = rowOf m (deg E) := by
      apply List.ext_getElem?
      intro i
      by_cases hi : i < m
      · rw [degRow_at HE.out hi, rowOf_at _ hi]
      · rw [List.getElem?_eq_none (by rw [degRow_len]; omega), List.getElem?_eq_none (by rw [rowOf_len]; omega)]
    rw [hrow] at hO2
    obtain ⟨A6, c6, rfl, hc6⟩ := hO2.shapeI
    obtain ⟨g6, z6, hA6, -⟩ := hO2.atI (k := 0) (by rw [rowOf_len]; omega)
    subst hA6
    rw [rowOf_len] at hO2 hc6 ⊢
    have hg6 : w.heap.size ≤ g6 ∧ g6 < w2.heap.size := ⟨Nat.le_trans hs1 (hO2.lt g6 (by simp [Value.ownBlock])).1, (hO2.lt g6 (by simp [Value.ownBlock])).2⟩
    have HO2 := Lib.hid (hO2.base_le hs1)
    have HB2 := Lib.hid (HB1.out.trans (hb2.mono hs1))
    have hs2 := HB2.out.size
    clear hO2 hb2 hrow HB1 HR1 hs1 hc6
    obtain ⟨i0, hi0, hz0, hz1, hz2⟩ := info_parts info_bool
    go_wp2_with (at_make; refine wpList_make_full _ rfl _ _ 41 rfl w2.heap.size 4 i0 (.bool false) 1 Try.underlying41 hi0 hz0 hz1 _ _ _ _ N rfl rfl rfl rfl ?c1 ?c2 ?c3 ?_)
    case c1 => rw [hz2]; omega
    case c2 => unfold maxLen; omega
    case c3 => exact Nat.le_refl _
    intro w3 hown hgrow
    clear hi0 hz0 hz1 hz2
    have hgn : w3.ownsRow w.heap.size 4 1 (.slice (some ⟨w2.heap.size, 0, none⟩) N N) N (bools (goneL E E)) := by
      rw [madeCells_one] at hown
      rw [goneL_0, ← HN.out]
      refine rowN_base ?_ hs2
      simpa [bools] using hown
    have hgz : w2.heap.size < w3.heap.size := (World.ownsRow.lt hgn w2.heap.size rfl).2
    have hSp : Sp w g6 w2.heap.size c6 N m E E [] (.slice (some ⟨w3.heap.size, 0, none⟩) 0 0) (w3.alloc (.cells #[] 2)) := by
      have hd := HO2.out.kept hgrow (.inr (by simp [Value.ownBlock]))
      have hb : Below w.heap.size w w3 := HB2.out.grown hgrow hs2 (by simp)
      exact ⟨hd.below ((Below.refl w3.heap.size w3).alloc (Nat.le_refl _) _) (Nat.le_refl _), World.ownsRow.kept hgn (World.grownBy_alloc w3 _ none) (.inr (by simp [Value.ownBlock])), own_newI w3 (by omega), by simp; omega, hb.alloc (by omega) _⟩
    have HSp := Lib.hid hSp
    clear hown hgrow hgn hSp HO2 HB2
    generalize w2.heap.size = g7 at hg6 HSp hs2 hgz ⊢
    go_wp2
    go_loopw [8] (fun ov wr => ∃ (k : Nat) (F : List Ed) (V C : List Nat), Hid (Mid3 E F V C m K k) ∧ Hid (Sp w g6 g7 c6 N m E F C ov wr)) (fun ov _ => K - lenOf ov)
    case atStart => exact ⟨K, E, _, [], HM0.out, HSp.out⟩
    case round =>
      clear HSp HM0
      obtain ⟨k, F, V, C, hM, hS⟩ := hrel
      obtain ⟨A8, c8, hu8, hc8⟩ := hS.out.ou.shapeI
      subst hu8
      have hCl : Hid ((natsI C).length + k = K) := by show _ = _; rw [natsI_len]; exact hM.out.cl
      generalize hLC : (natsI C).length = lc at hCl hc8 hS ⊢
      have HLC := Lib.hid hLC
      clear hLC
      cases k with
      | zero =>
        have hlc : ¬ (lc : Int) < (m : Int) - 2 := by have := hCl.out; have := HmK.out; omega
        have hlc2 : lc ≤ 62 := by have := hCl.out; omega
        have hst : Hid (strip m K E = some (C, F)) := hM.out.last
        have Hr2 : Hid (codeR (flatI E) (m : Int) = some (natsI C)) := by show _ = _; rw [Hr.out, hst.out]; rfl
        have hOu : Own wr (g7 + 1) 2 (.slice A8 lc c8) (i64s (natsI C)) := hS.out.ou
        have HRd : Hid (Rd wr wr.heap.size A8 lc (i64s (natsI C))) := by have := hOu.rdI; rw [HLC.out] at this; exact this
        have HOu := Lib.hid hOu
        have HB := Lib.hid hS.out.bl
        have hE' : Hid (EdOk E (K + 2)) := by have := HE.out; rwa [HmK.out] at this
        have hst' : Hid (strip (K + 2) K E = some (C, F)) := by have := hst.out; rwa [HmK.out] at this
        have hwr := HB.out.size
        clear hOu hS hM hst Hr
        go_wp2_with fail
        refine (treeE_any A8 lc c8 wr.heap.size K E (C, F) _ HRd.out (Nat.le_refl _) hE'.out HEl.out hKm hst'.out).mono ?_
        rintro e w4 ⟨v4, rfl, hO4, hb4⟩
        obtain ⟨A12, c12, rfl, hc12⟩ := hO4.shapeI
        have HO4 := Lib.hid hO4
        have HOu4 := Lib.hid (HOu.out.below hb4 (Nat.le_refl _))
        have HB4 := Lib.hid (HB.out.trans (hb4.mono hwr))
        have HR4 := Lib.hid (HR.out.below HB4.out hB)
        have hfl : Hid ((flatI E).length = N) := by show _ = _; rw [flatI_len, HN.out]
        rw [hfl.out] at hc12 ⊢
        clear hO4 hb4 HOu HB HRd hE' hst'
        go_wp2
        go_loopw [13] (fun i wr => ∃ (j q : Nat), j ≤ N ∧ i = .int .i64 j ∧ wr = w4.drewN q) (fun i _ => N - (intOf i).toNat)
        case atStart => exact ⟨0, 0, Nat.zero_le _, rfl, rfl⟩
        case round =>
          obtain ⟨j, q, hj, rfl, rfl⟩ := hrel
          by_cases hjN : j < N
          · have hjI : (j : Int) < (N : Int) := by omega
            obtain ⟨b, off, x, rfl, hbB, hx, hcx⟩ := HR4.out.atI (k := j) hjN
            obtain ⟨gt, y, hA, hy, hcy, -⟩ := HO4.out.atI (k := j) (by rw [hfl.out]; exact hjN)
            subst hA
            obtain rfl : x = y := by have h1 := hx.out; rw [hy.out] at h1; exact (Option.some.inj h1).symm
            have hne : (x != x) = false := by simp
            clear hx hy
            go_wp2
            go_quiet (fail)
            go_wp2
            go_roundw
            case rel => exact ⟨j + 1, _, by omega, by go_num, rfl⟩
            case measure => simp only [intOf]; omega
          · obtain rfl : j = N := by omega
            go_wp2
            go_ret2
            exact ⟨_, _, rfl, by rw [Hr2.out]; rfl, by rw [Hr2.out]; exact (HOu4.out.drewN q).base_le (by omega), below_drewN HB4.out q⟩
      | succ k =>
        have hlc : (lc : Int) < (m : Int) - 2 := by have := hCl.out; have := HmK.out; omega
        have hlc2 : lc ≤ 62 := by have := hCl.out; omega
        obtain ⟨L, hLm, hne, hend⟩ : ∃ L, L ≤ m ∧ Hid (∀ u, u < L → deg F u ≠ 1) ∧ Hid ((L = m ∧ leafOf F m = none) ∨ (L < m ∧ leafOf F m = some L ∧ deg F L = 1)) := by
          cases hlf : leafOf F m with
          | none => exact ⟨m, Nat.le_refl _, leaf_not hlf, .inl ⟨rfl, rfl⟩⟩
          | some v =>
            obtain ⟨h1, h2, h3⟩ := leaf_get hlf
            exact ⟨v, by omega, h3, .inr ⟨h1, rfl, h2⟩⟩
        go_wp2
        go_loopw [9] (fun i wl => ∃ l : Nat, l ≤ L ∧ i = .int .i64 l ∧ wl = wr) (fun i _ => L - (intOf i).toNat)
        case atStart => exact ⟨0, Nat.zero_le _, rfl, rfl⟩
        case round =>
          obtain ⟨l, hl, rfl, rfl⟩ := hrel
          by_cases hlL : l < L
          · have hlI : (l : Int) < (m : Int) := by omega
            obtain ⟨hcz, hfz⟩ := hS.out.degs (u := l) (by omega)
            have hn1 := hne.out l hlL
            generalize deg F l = z at hcz hn1
            have hn2 : (((z : Nat) : Int) != 1) = true := by simp [bne]; omega
            have hn3 : ¬ ((z : Nat) : Int) = 1 := by omega
            go_wp2
            go_roundw
            case rel => exact ⟨l + 1, by omega, by go_num, trivial⟩
            case measure => simp only [intOf]; omega
          · obtain rfl : L = l := by omega
            clear hlL hl
            rcases hend.out with ⟨hLm2, hlf⟩ | ⟨hLm2, hlf, hd⟩
            · have Hr2 : Hid (codeR (flatI E) (m : Int) = none) := by show _ = _; rw [Hr.out, hM.out.none hlf]; rfl
              have HB := Lib.hid hS.out.bl
              subst hLm2
              clear hlf hS hM
              go_wp2
              go_ret2
              exact ⟨_, _, rfl, by rw [Hr2.out]; rfl, by rw [Hr2.out]; exact own_none _ _ _, HB.out⟩
            · obtain ⟨hcz, hfz⟩ := hS.out.degs (u := L) hLm2
              rw [hd] at hcz
              have hLI : (L : Int) < (m : Int) := by omega
              have hLn : ¬ (L : Int) = (m : Int) := by omega
              have hLb : ((L : Int) == (m : Int)) = false := by rw [beq_eq_false_iff_ne]; exact hLn
              obtain ⟨is, e, hisN, hei, heF, hfd, hxi, hxo, hov, hA, hB'⟩ := leaf_place HE.out hM.out.sub hd
              have HM2 := Lib.hid (hM.out.step hlf hfd)
              rw [← HN.out] at hisN
              have Hei := Lib.hid hei; have HeF := Lib.hid heF; have Hfd := Lib.hid hfd; have Hxi := Lib.hid hxi; have Hxo := Lib.hid hxo; have Hov := Lib.hid hov; have HA := Lib.hid hA; have HBf := Lib.hid hB'; have Hd := Lib.hid hd
              have hcn : other L e < m := by
                have := other_ne hM.out.gr heF (find_mem hfd).2
                exact hM.out.gr.lt _ this.1
              have hdc1 : 1 ≤ deg F (other L e) := by
                have := deg_without (u := other L e) hd hfd
                rw [if_pos (touch_iff.2 (by unfold other; split <;> simp_all))] at this
                omega
              have hdc2 : deg F (other L e) ≤ 64 := by
                have h1 : deg F (other L e) ≤ F.length := List.countP_le_length
                have := hM.out.fl
                have := hCl.out
                omega
              clear hei heF hfd hxi hxo hov hA hB' hlf hd hend hne hM
              go_wp2
              go_loopw [8, 10] (fun ov i wl => ∃ (j : Nat) (F1 : List Ed) (C1 : List Nat), j ≤ N ∧ i = .int .i64 j ∧ Hid ((j ≤ is ∧ F1 = F ∧ C1 = C) ∨ (is < j ∧ F1 = without F L ∧ C1 = C ++ [other L e])) ∧ Hid (Sp w g6 g7 c6 N m E F1 C1 ov wl)) (fun _ i _ => N - (intOf i).toNat)
              case atStart => exact ⟨0, F, C, Nat.zero_le _, rfl, .inl ⟨Nat.zero_le _, rfl, rfl⟩, hS.out⟩
              case round =>
                clear hS hcz hfz
                obtain ⟨j, F1, C1, hj, rfl, hph, hS⟩ := hrel
                by_cases hjN : j < N
                · have hjI : (j : Int) < (N : Int) := by omega
                  obtain ⟨b, off, x, rfl, hbB, hx, hcx⟩ := (HR.out.below hS.out.bl hB).atI (k := j) hjN
                  obtain ⟨ej, hej⟩ : ∃ ej, E[j / 2]? = some ej := ⟨_, List.getElem?_eq_getElem (by have := HN.out; omega)⟩
                  obtain ⟨hcg, hfg⟩ := hS.out.gone HN.out hjN hej
                  have hskip : Hid (¬ (j = is ∧ F1 = F) → ej ∈ F1 → x ≠ (L : Int)) := by
                    intro hno hin hxL
                    have hxv := hx.out
                    rw [hxL] at hxv
                    rcases hph.out with ⟨h1, h2, -⟩ | ⟨h1, h2, -⟩
                    · rw [h2] at hin
                      by_cases h4 : j = is
                      · exact hno ⟨h4, h2⟩
                      · exact HA.out j ej h4 hej hxv hin
                    · rw [h2] at hin
                      exact HBf.out j ej hej hxv hin
                  by_cases htake : j = is ∧ j ≤ is ∧ F1 = F ∧ C1 = C
                  · obtain ⟨rfl, -, rfl, rfl⟩ := htake
                    obtain rfl : ej = e := by rw [Hei.out] at hej; exact (Option.some.inj hej).symm
                    obtain rfl : x = (L : Int) := by have := hx.out; rw [Hxi.out] at this; exact (Option.some.inj this).symm
                    rw [decide_eq_false (by simpa using HeF.out)] at hcg
                    have hfj : flipN j < N := by rw [HN.out]; exact flip_lt (by have := HN.out; omega)
                    obtain ⟨b2, off2, y, hbe, hbB2, hy, hcy⟩ := (HR.out.below hS.out.bl hB).atI (k := flipN j) hfj
                    obtain ⟨rfl, rfl⟩ : b = b2 ∧ off = off2 := by simpa using hbe
                    obtain rfl : y = ((other L ej : Nat) : Int) := by have := hy.out; rw [Hxo.out] at this; exact (Option.some.inj this).symm
                    obtain ⟨hcg2, hfg2⟩ := hS.out.gone HN.out (i := flipN j) hfj (by rw [flip_half]; exact hej)
                    obtain ⟨hcz, hfz⟩ := hS.out.degs (u := L) hLm2
                    rw [Hd.out] at hcz
                    obtain ⟨hcc, hfc⟩ := hS.out.degs (u := other L ej) hcn
                    have hS2 := hS.out.taken hg6.2 HE.out HN.out hjN hej Hd.out Hfd.out Hov.out
                    rw [show (((deg F1 (other L ej) - 1 : Nat)) : Int) = ((deg F1 (other L ej) : Nat) : Int) - 1 by omega] at hS2
                    have HS2 := Lib.hid hS2
                    have hxor := xor1 j (by omega)
                    have hfI : ((flipN j : Nat) : Int) < (N : Int) := by omega
                    have hcI : ((other L ej : Nat) : Int) < (m : Int) := by omega
                    have hoL : ¬ other L ej = L := Hov.out
                    have hLo : ¬ L = other L ej := fun e => Hov.out e.symm
                    have hjf : ¬ j = flipN j := by unfold flipN; split <;> omega
                    have hfj2 : ¬ flipN j = j := fun e => hjf e.symm
                    have hbn6 : ¬ b = g6 := by omega
                    have hbn7 : ¬ b = g7 := by omega
                    have h67 : ¬ g6 = g7 := by omega
                    have h76 : ¬ g7 = g6 := by omega
                    have hsz2 : g7 + 1 ≤ wr.heap.size := hS.out.sz
                    have hph2 : Hid (j < j + 1 ∧ without F1 L = without F1 L ∧ C1 ++ [other L ej] = C1 ++ [other L ej]) := ⟨by omega, rfl, rfl⟩
                    clear hS2 hbe hx hy hej hskip hph
                    generalize hdc : deg F1 (other L ej) = dc at hcc hdc1 hdc2 HS2
                    have Hdc := Lib.hid hdc
                    clear hdc
                    generalize hoc : other L ej = oc at *
                    generalize hfq : flipN j = fq at *
                    clear hoc hfq
                    obtain ⟨W, hW⟩ : ∃ W, W = (((wr.setCell ⟨g7, j, none⟩ (.bool true)).setCell ⟨g7, fq, none⟩ (.bool true)).setCell ⟨g6, L, none⟩ (.int .i64 0)).setCell ⟨g6, oc, none⟩ (.int .i64 ((dc : Int) - 1)) := ⟨_, rfl⟩
                    have HW := Lib.hid hW
                    have hWs : Hid (W.heap.size = wr.heap.size) := by show _ = _; rw [hW]; simp [World.setCell]
                    rw [← hW] at HS2
                    have hWsz : g7 + 1 ≤ W.heap.size := HS2.out.sz
                    have hCl63 : (natsI C1).length ≤ 2000000 := by rw [HLC.out]; omega
                    clear hW
                    go_wp2_with (at_builtin; rw [← HW.out]; go_must (refine emitI W rfl _ _ rfl (g7 + 1) u8 (natsI C1) rfl HS2.out.ou ((oc : Nat) : Int) (by rw [hWs.out]; rfl) hCl63 hWsz ?_))
                    intro v' w7 hO' hg hor
                    have hcc2 : natsI C1 ++ [((oc : Nat) : Int)] = natsI (C1 ++ [oc]) := by simp [natsI]
                    rw [hcc2] at hO'
                    have HS7 := Lib.hid (HS2.out.emit hg6.2 hg6.1 hO' hg)
                    clear hO' hg hor hcc2
                    go_wp2
                    go_roundw
                    case rel => exact ⟨j + 1, _, _, by omega, by go_num, .inr ⟨by omega, rfl, rfl⟩, HS7.out⟩
                    case measure => simp only [intOf]; omega
                  · have hsk := Lib.hid (hskip.out (fun h => htake ⟨h.1, by omega, h.2, by
                      rcases hph.out with ⟨-, -, h3⟩ | ⟨h1, -, -⟩
                      · exact h3
                      · omega⟩))
                    have hnx : Hid ((j + 1 ≤ is ∧ F1 = F ∧ C1 = C) ∨ (is < j + 1 ∧ F1 = without F L ∧ C1 = C ++ [other L e])) := by
                      rcases hph.out with ⟨h1, h2, h3⟩ | ⟨h1, h2, h3⟩
                      · by_cases h4 : j = is
                        · exact absurd ⟨h4, h1, h2, h3⟩ htake
                        · exact .inl ⟨by omega, h2, h3⟩
                      · exact .inr ⟨by omega, h2, h3⟩
                    clear hph htake hskip hx hej
                    by_cases hin : ej ∈ F1
                    · rw [decide_eq_false (by simpa using hin)] at hcg
                      have hxL := hsk.out hin
                      have hxb : (x != (L : Int)) = true := by simp [bne]; exact hxL
                      clear hin hsk
                      go_wp2
                      go_roundw
                      case rel => exact ⟨j + 1, F1, C1, by omega, by go_num, hnx, hS.out⟩
                      case measure => simp only [intOf]; omega
                    · rw [decide_eq_true hin] at hcg
                      clear hin hsk
                      go_wp2
                      go_roundw
                      case rel => exact ⟨j + 1, F1, C1, by omega, by go_num, hnx, hS.out⟩
                      case measure => simp only [intOf]; omega
                · obtain ⟨rfl, rfl⟩ : F1 = without F L ∧ C1 = C ++ [other L e] := by
                    rcases hph.out with ⟨h1, -, -⟩ | ⟨-, h2, h3⟩
                    · omega
                    · exact ⟨h2, h3⟩
                  obtain rfl : j = N := by omega
                  obtain ⟨A9, c9, hu9, -⟩ := hS.out.ou.shapeI
                  subst hu9
                  have hl9 : (natsI (C ++ [other L e])).length = lc + 1 := by rw [natsI_len, List.length_append, List.length_singleton, ← natsI_len C, HLC.out]
                  rw [hl9] at hS ⊢
                  have hCl2 := hCl.out
                  clear hph hl9 hCl
                  go_wp2
                  go_roundw
                  case rel => exact ⟨k, _, _, _, HM2.out, hS.out⟩
                  case measure => simp only [lenOf]; omega
end Go.Proofs.Ytgkbkbmhdhlffaa
