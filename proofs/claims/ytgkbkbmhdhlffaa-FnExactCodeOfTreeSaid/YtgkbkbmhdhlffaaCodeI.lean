/- impl.CodeOfTree: the code of a tree. -/
import Derived.Test.YtgkbkbmhdhlffaaCodeP
import Derived.Test.YtgkbkbmhdhlffaaJoin
import Derived.Test.YtgkbkbmhdhlffaaClone
import Derived.Test.YtgkbkbmhdhlffaaEdgesI
namespace Go.Proofs.Ytgkbkbmhdhlffaa
open Go.RowKit
/-- What stands behind some rounds of the program. -/
structure Mid (E F : List Ed) (V : List Nat) (C : List Nat) (m k : Nat) : Prop where
  ok : EdOk F m
  gr : Gr F V m
  cn : Conn F V
  vl : V.length = k + 2
  fl : F.length = k + 1
  cl : C.length + k + 2 = m
  st : strip m (m - 2) E = (strip m k F).map fun r => (C ++ r.1, r.2)
theorem Mid.start {E : List Ed} {k : Nat} (h : EdOk E (k + 2)) (hc : Conn E (List.range (k + 2))) (hl : E.length = k + 1) : Mid E E (List.range (k + 2)) [] (k + 2) k where
  ok := h
  gr := h.gr
  cn := hc
  vl := List.length_range
  fl := hl
  cl := by simp
  st := by
    rw [show k + 2 - 2 = k by omega]
    cases strip (k + 2) k E <;> simp
theorem Mid.step {E F : List Ed} {V C : List Nat} {m k v : Nat} {e : Ed} (h : Mid E F V C m (k + 1)) (hv : leafOf F m = some v) (he : F.find? (touch v) = some e) : Mid E (without F v) (V.erase v) (C ++ [other v e]) m k := by
  obtain ⟨h1, h2, h3⟩ := leaf_get hv
  have hx := find_mem he
  have ho := other_ne h.gr hx.1 hx.2
  refine ⟨h.ok.sub List.filter_sublist, h.gr.step, h.cn.step h.gr h2 he, ?_, ?_, ?_, ?_⟩
  · have := len_erase ho.2.2; have := h.vl; omega
  · have := len_without h2; have := h.fl; omega
  · have := h.cl; rw [List.length_append, List.length_singleton]; omega
  · rw [h.st, strip_step hv he]
    cases strip m k (without F v) <;> simp
set_option maxHeartbeats 4000000 in
theorem implCode : FnLN_LB 11 codeR := by
  intro A n c B xs k0 w h hB hn hf hcap hk0
  have hl := h.lenI
  obtain rfl : xs.length = n := hl.out
  have hc := implAreEdges A xs.length c B xs k0 w h hB hn hf hcap hk0
  have Hc := Lib.hid hc
  have HR := Lib.hid h
  clear hc h hl hf
  cases hv : areEdges xs k0 with
  | false =>
    have hr : Hid (codeR xs k0 = none) := codeR_no (by rintro ⟨h, -⟩; rw [hv] at h; cases h)
    rw [hv] at Hc
    clear hv
    go_enter Try.func11, Try.ntmps11
    go_wp2_with fail
    refine Hc.out.mono ?_
    rintro e w1 ⟨rfl, hb1⟩
    have HB1 := Lib.hid hb1
    clear hb1
    go_wp2
    go_ret2
    exact ⟨_, _, rfl, by rw [hr.out]; rfl, by rw [hr.out]; exact own_none _ _ _, HB1.out⟩
  | true =>
    rw [hv] at Hc
    obtain ⟨E, hxE, hE, hE2, hk1, hk2⟩ := areEdges_pairs hv
    by_cases h2 : k0 < 2
    · have hr : Hid (codeR xs k0 = none) := codeR_no (by rintro ⟨-, h, -⟩; omega)
      clear hv hxE hE
      go_enter Try.func11, Try.ntmps11
      go_wp2_with fail
      refine Hc.out.mono ?_
      rintro e w1 ⟨rfl, hb1⟩
      have HB1 := Lib.hid hb1
      clear hb1
      go_wp2
      go_ret2
      exact ⟨_, _, rfl, by rw [hr.out]; rfl, by rw [hr.out]; exact own_none _ _ _, HB1.out⟩
    obtain ⟨m, rfl⟩ : ∃ m : Nat, k0 = (m : Int) := ⟨k0.toNat, by omega⟩
    rw [Int.toNat_natCast] at hE
    subst hxE
    have hfl := flatI_len E
    by_cases h3 : ¬ ((flatI E).length : Int) = 2 * ((m : Int) - 1)
    · have hr : Hid (codeR (flatI E) (m : Int) = none) := codeR_no (by rintro ⟨-, -, h⟩; exact h3 h)
      clear hv hE hfl
      go_enter Try.func11, Try.ntmps11
      go_wp2_with fail
      refine Hc.out.mono ?_
      rintro e w1 ⟨rfl, hb1⟩
      have HB1 := Lib.hid hb1
      clear hb1
      go_wp2
      go_ret2
      exact ⟨_, _, rfl, by rw [hr.out]; rfl, by rw [hr.out]; exact own_none _ _ _, HB1.out⟩
    obtain ⟨K, hmK⟩ : ∃ K : Nat, m = K + 2 := ⟨m - 2, by omega⟩
    have hEl : E.length = K + 1 := by omega
    have HE := Lib.hid hE
    have Hr : Hid (codeR (flatI E) (m : Int) = (strip m K E).map fun r => natsI r.1) := by
      subst hmK
      exact codeR_flat hE hEl (by omega)
    have HmK := Lib.hid hmK
    have hKm : K ≤ 62 := by omega
    have HEl := Lib.hid hEl
    have h3 : ((flatI E).length : Int) = 2 * ((m : Int) - 1) := by omega
    have h512 : (flatI E).length ≤ 512 := by omega
    clear hv hE hfl hEl hmK
    go_enter Try.func11, Try.ntmps11
    go_wp2_with fail
    refine Hc.out.mono ?_
    rintro e w1 ⟨rfl, hb1⟩
    have HB1 := Lib.hid hb1
    have HR1 := Lib.hid (HR.out.below hb1 hB)
    have hs1 := hb1.size
    clear hb1 HR
    go_wp2_with fail
    refine (joined_any A (flatI E).length c B E m _ HR1.out (by omega) HE.out (by omega) (by omega) (by omega)).mono ?_
    rintro e w2 ⟨b, rfl, hbc, hb2⟩
    have HB2 := Lib.hid (HB1.out.trans (hb2.mono hs1))
    have HR2 := Lib.hid (HR1.out.below hb2 (by omega))
    have hs2 := HB2.out.size
    clear hb2 HR1 HB1 hs1
    cases b with
    | false =>
      have hr : Hid (codeR (flatI E) (m : Int) = none) := by
        show _ = _
        rw [Hr.out]
        cases hst : strip m K E with
        | none => rfl
        | some r => exact absurd (hbc.2 (strip_conn K HE.out.gr (by rw [List.length_range]; exact HmK.out) HEl.out hst)) (by simp)
      clear hbc
      go_wp2
      go_ret2
      exact ⟨_, _, rfl, by rw [hr.out]; rfl, by rw [hr.out]; exact own_none _ _ _, HB2.out⟩
    | true =>
      have HC := Lib.hid (hbc.1 rfl)
      clear hbc h3
      go_wp2_with fail
      refine (cloneI_any A (flatI E).length c B (flatI E) _ HR2.out (by omega) hn).mono ?_
      rintro e w3 ⟨v3, rfl, hO3, hb3⟩
      have HO3 := Lib.hid (hO3.base_le hs2)
      have HB3 := Lib.hid (HB2.out.trans (hb3.mono hs2))
      have hs3 := HB3.out.size
      have HM0 : Hid (Mid E E (List.range m) [] m K) := by
        have hmK := HmK.out
        have hE := HE.out
        have hC := HC.out
        subst hmK
        exact Mid.start hE hC HEl.out
      clear hO3 hb3 HB2 HR2 HC
      go_wp2
      go_loopw [6, 7, 37] (fun lv cv i wr => ∃ (k j : Nat) (F : List Ed) (V C : List Nat), Hid (k + j = K) ∧ i = .int .i64 (j : Int) ∧ Hid (Mid E F V C m k) ∧ Own wr w.heap.size 2 lv (i64s (flatI F)) ∧ Own wr w.heap.size 2 cv (i64s (natsI C)) ∧ Apart lv cv ∧ Below w.heap.size w wr) (fun _ _ i _ => K - (intOf i).toNat)
      case atStart =>
        have hn1 := own_newI w3 (base := w3.heap.size) (Nat.le_refl _)
        exact ⟨K, 0, E, _, [], rfl, rfl, HM0.out, HO3.out.below ((Below.refl w3.heap.size w3).alloc (Nat.le_refl _) _) (Nat.le_refl _), hn1.base_le hs3, HO3.out.apart hn1 (Nat.le_refl _), HB3.out.alloc hs3 _⟩
      case round =>
        obtain ⟨k, j, F, V, C, hkj, rfl, hM, hL, hO, hap, hbel⟩ := hrel
        have HL := Lib.hid hL; have HO := Lib.hid hO; have HA := Lib.hid hap; have HB := Lib.hid hbel
        have hs := hbel.size
        clear hL hO hap hbel
        have hjm : (j : Int) ≤ (m : Int) - 2 := by have := hkj.out; have := HmK.out; omega
        cases k with
        | zero =>
          have hj2 : ¬ (j : Int) < (m : Int) - 2 := by have := hkj.out; have := HmK.out; omega
          have hr : Hid (codeR (flatI E) (m : Int) = some (natsI C)) := by
            show _ = _
            rw [Hr.out]
            have := hM.out.st
            rw [show m - 2 = K by have := HmK.out; omega] at this
            rw [this]
            simp [strip]
          go_wp2
          go_ret2
          exact ⟨_, _, rfl, by rw [hr.out]; rfl, by rw [hr.out]; exact HO.out, HB.out⟩
        | succ k =>
          have hj2 : (j : Int) < (m : Int) - 2 := by have := hkj.out; have := HmK.out; omega
          have hFl : F.length ≤ 64 := by have := hM.out.fl; have := hkj.out; omega
          have hfF := flatI_len F
          obtain ⟨v, hv⟩ := leaf_there hM.out.gr hM.out.cn (by rw [hM.out.vl]; omega) (by rw [hM.out.vl, hM.out.fl])
          have hg := leaf_get hv
          obtain ⟨A6, c6, rfl, hc6⟩ := HL.out.shapeI
          have Hv := Lib.hid hv; have Hg := Lib.hid hg; have HfF := Lib.hid hfF
          clear hv hg hfF
          go_wp2_with fail
          refine (implDeg_any A6 (flatI F).length c6 wr.heap.size (flatI F) m wr HL.out.rdI (Nat.le_refl _) (areEdges_flat hM.out.ok (by omega) (by omega) (by omega))).mono ?_
          rintro e w4 ⟨v4, rfl, hO4, hb4⟩
          rw [Int.toNat_natCast] at hO4
          obtain ⟨A8, c8, rfl, hc8⟩ := hO4.shapeI
          have HD := Lib.hid hO4.rdI
          have hDl : (degRow m (flatI F)).length ≤ 2000000 := by rw [degRow_len]; omega
          have HL4 := Lib.hid (HL.out.below hb4 (Nat.le_refl _)); have HO4 := Lib.hid (HO.out.below hb4 (Nat.le_refl _)); have HB4 := Lib.hid (HB.out.trans (hb4.mono hs))
          have hs4 := HB4.out.size
          clear hO4 hb4 HL HO HB
          go_wp2_with fail
          refine (index_any A8 _ c8 _ _ 1 _ HD.out hDl).mono ?_
          rintro e w5 ⟨kk, rfl, rfl, hkk⟩
          obtain rfl : kk = (v : Int) := leaf_idx hM.out.ok Hv.out hkk
          clear hkk hDl HD hc8
          go_wp2_with fail
          refine (index_any A6 _ c6 _ _ (v : Int) _ HL4.out.rdI (by have := HfF.out; omega)).mono ?_
          rintro e w6 ⟨ki, rfl, rfl, hki⟩
          obtain ⟨i, rfl, hi, -⟩ : ∃ i : Nat, ki = (i : Int) ∧ (flatI F)[i]? = some (v : Int) ∧ True := by
            rcases hki with ⟨-, hno⟩ | ⟨i, rfl, hi, -⟩
            · exfalso
              obtain ⟨e, he⟩ := edge_ex Hg.out.2.1
              have hm := find_mem he
              obtain ⟨q, hq⟩ := List.mem_iff_getElem?.1 hm.1
              rcases touch_iff.1 hm.2 with h | h
              · exact hno (List.mem_iff_getElem?.2 ⟨2 * q, by rw [← h]; exact flatI_0 hq⟩)
              · exact hno (List.mem_iff_getElem?.2 ⟨2 * q + 1, by rw [← h]; exact flatI_1 hq⟩)
            · exact ⟨i, rfl, hi, trivial⟩
          obtain ⟨e, hiF, hfind, hfl, hdel⟩ := code_step hM.out.ok Hg.out.2.1 hi
          have hM2 := Lib.hid (hM.out.step Hv.out hfind)
          have Hdel := Lib.hid hdel
          have hCl : (natsI C).length ≤ 2000000 := by rw [natsI_len]; have := hM.out.cl; omega
          have hfq : flipN i < (flatI F).length := by rw [flatI_len]; exact flip_lt hiF
          obtain ⟨g, y, hA6, hy, hcy, hfy⟩ := HL4.out.atI (k := flipN i) hfq
          obtain rfl : y = ((other v e : Nat) : Int) := by have := hy.out; rw [hfl] at this; exact (Option.some.inj this).symm
          subst hA6
          have hxor := xor1 i (by omega)
          have hand := andn1 i (by omega)
          have hfqI : ((flipN i : Nat) : Int) < ((flatI F).length : Int) := by omega
          have hi2 : i / 2 * 2 + 2 ≤ (flatI F).length := by rw [HfF.out]; omega
          have hi2b : i / 2 * 2 ≤ 1000 := by omega
          have hsn : Hid (natsI C ++ [((other v e : Nat) : Int)] = natsI (C ++ [other v e])) := by show _ = _; simp [natsI]
          generalize flipN i = fq at hxor hfq hy hcy hfy hfqI hfl
          generalize i / 2 * 2 = i2 at hand hi2 Hdel hi2b
          clear hki hi hfind hfl hdel hM hy
          go_wp2_with (at_builtin; go_must (refine emitI w6 rfl _ _ rfl w.heap.size u7 (natsI C) rfl HO4.out ((other v e : Nat) : Int) rfl hCl hs4 ?_))
          intro v' w7 hO' hg hor
          have hL' := HL4.out.grown hg HA.out
          have ap' := HL4.out.apart_grown HA.out hor
          have hB' := below_ownGrown HB4.out HO4.out hg (Nat.le_refl _) (Nat.le_refl _)
          rw [hsn.out] at hO'
          have HL' := Lib.hid hL'; have HO' := Lib.hid hO'; have HB' := Lib.hid hB'; have HA' := Lib.hid ap'
          clear hL' ap' hB' hO' hg hor HL4 HB4 HA hcy hfy HO4
          go_wp2_with fail
          refine (delete2_any _ (flatI F).length c6 _ i2 (flatI F) _ HL'.out hi2 (by have := HfF.out; omega)).mono ?_
          rintro e8 w8 ⟨v8, rfl, hL8, hg8, hob⟩
          rw [Hdel.out] at hL8
          have hO8 := HO'.out.grown hg8 HA'.out.symm
          have hB8 := below_ownGrown HB'.out HL'.out hg8 (Nat.le_refl _) (Nat.le_refl _)
          have ap8 : Apart v8 v' := fun j hj => HA'.out j (hob ▸ hj)
          have HL8 := Lib.hid hL8; have HO8 := Lib.hid hO8; have HB8 := Lib.hid hB8; have HA8 := Lib.hid ap8
          clear hL8 hO8 hB8 ap8 hg8 hob HL' HO' HB' HA'
          go_wp2
          go_roundw
          case rel => exact ⟨k, j + 1, without F v, V.erase v, C ++ [other v e], by have := hkj.out; show _ = _; omega, by go_num, hM2.out, HL8.out, HO8.out, HA8.out, HB8.out⟩
          case measure => have := hkj.out; simp only [intOf]; omega
end Go.Proofs.Ytgkbkbmhdhlffaa
