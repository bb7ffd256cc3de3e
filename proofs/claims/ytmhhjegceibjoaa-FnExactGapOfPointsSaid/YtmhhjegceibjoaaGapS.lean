/- GapOfPoints: the reference's function. -/
import Derived.Test.YtmhhjegceibjoaaGapI
namespace Go.Proofs.Ytmhhjegceibjoaa
open Go.RowKit
set_option maxRecDepth 100000
attribute [local go_sem] run_store_float'
set_option maxHeartbeats 4000000 in
theorem ascend_any (ad : Addr) (n c B : Nat) (xs : List Nat) (w : World) (h : Rd w B (some ad) n (f32s xs)) (hB : B ≤ w.heap.size) (h1 : 1 ≤ n) (hn : n ≤ 256) (hf : AllF xs) :
    Calls Try.prog 10 #[.slice (some ad) n c] w fun e w' => ∃ (g c' : Nat) (ys : List Nat), e = .returned (.slice (some ⟨g, 0, none⟩) n c') ∧ Hid (Dt w' g n c' ys) ∧ Hid (ys.Perm xs) ∧ Hid (Srt 0 n ys) ∧ Hid (Below w.heap.size w w') := by
  have hl := h.lenF
  obtain rfl : xs.length = n := hl.out
  clear hl
  have hc : ∀ (j : Nat) (u : Value), (f32s xs)[j]? = some u → (w.alloc (.cells #[] 23)).cell? (ad.add j) = some u := by
    intro j u hu
    have hj : j < xs.length := by have := (List.getElem?_eq_some_iff.1 hu).1; rwa [f32s_length] at this
    obtain ⟨b, off, e, hb, hcc⟩ := h.2 (by omega)
    cases e
    rw [Addr.add_lit]
    exact (World.cell?_alloc_lt w _ _ (by show b < _; omega)).trans (hcc j u hu)
  have Hc := Lib.hid hc
  have Hf := Lib.hid hf
  have Ho := Lib.hid (own_new w 23 (Nat.le_refl _) : Own _ w.heap.size 23 _ (f32s []))
  clear hc h hf
  go_enter Try.func10, Try.ntmps10
  go_wp2_with (at_builtin; go_must (refine emitAllF rfl _ _ rfl w.heap.size (.slice (some ⟨w.heap.size, 0, none⟩) 0 0) [] rfl Ho.out ad xs.length c xs rfl rfl Hc.out ?c1 ?c2 ?_))
  case c1 => simp; omega
  case c2 => show w.heap.size ≤ (w.heap.push _).size; simp
  intro v' w3 hO' hg
  have HB := Lib.hid (below_ownGrown ((Below.refl _ _).alloc (Nat.le_refl _) _) Ho.out hg (Nat.le_refl _) (Nat.le_refl _))
  obtain ⟨n, hnx⟩ : ∃ n, xs.length = n := ⟨_, rfl⟩
  obtain ⟨g, c', rfl, hgb, hD0⟩ := own_dt (xs := xs) hO' hnx (by omega) Hf.out
  have hD := Lib.hid hD0
  have Hnx := Lib.hid hnx
  rw [hnx] at h1 hn
  clear hO' hg hD0 Ho Hc hnx
  go_wp2_with fail
  go_loopw [4] (fun v wr => ∃ (i : Nat) (ys : List Nat), (1 ≤ i ∧ i ≤ n + 1) ∧ v = .int .i64 i ∧ Hid (Dt wr g n c' ys) ∧ Hid (w3.grownBy wr (some g)) ∧ Hid (Sw 0 n xs ys) ∧ Hid (Srt 0 i ys)) (fun v _ => n + 1 - (intOf v).toNat)
  case atStart => exact ⟨1, xs, by omega, rfl, hD, World.grownBy.refl _ _, Sw.refl _ _ _, Srt.empty 0 xs (Nat.le_refl _)⟩
  case round =>
    clear hD
    obtain ⟨i, ys, hin, rfl, hD, hG, hS, hT⟩ := hrel
    by_cases hlt : i < n
    · have hlt' : (i : Int) < (n : Int) := by omega
      have hI : Hid (Ins 0 i i ys) := Ins.start hT.out
      go_wp2_with fail
      go_loopw [5] (fun v wq => ∃ (j : Nat) (zs : List Nat), j ≤ i ∧ v = .int .i64 j ∧ Hid (Dt wq g n c' zs) ∧ Hid (w3.grownBy wq (some g)) ∧ Hid (Sw 0 n xs zs) ∧ Hid (Ins 0 i j zs)) (fun v _ => (intOf v).toNat)
      case atStart => exact ⟨i, ys, Nat.le_refl _, rfl, hD, hG, hS, hI⟩
      case round =>
        clear hD hG hS hI hT
        obtain ⟨j, zs, hji, rfl, hD, hG, hS, hI⟩ := hrel
        by_cases hj0 : 0 < j
        · have hj0' : (0 : Int) < (j : Int) := by omega
          obtain ⟨p, hp⟩ : ∃ p : Nat, j = p + 1 := ⟨j - 1, by omega⟩
          have hw1 : IntKind.i64.wrap ((j : Int) - 1) = (p : Int) := by rw [IntKind.wrap_i64]; omega
          have hpi : (j : Int) - 1 = (p : Int) := by omega
          have hc1 := hD.out.cell (i := j) (by omega)
          have hc2 := hD.out.cell (i := p) (by omega)
          have hf1 := hD.out.fz j
          have hf2 := hD.out.fz p
          have hx1 := hD.out.num (i := j) (by omega)
          have hx2 := hD.out.num (i := p) (by omega)
          have hsw := hD.out.swap (i := j) (j := p) (by omega) (by omega)
          have hlb := ltB_true hx1 hx2
          obtain ⟨x, hx⟩ : ∃ x, zs.getD j 0 = x := ⟨_, rfl⟩
          obtain ⟨y, hy⟩ : ∃ y, zs.getD p 0 = y := ⟨_, rfl⟩
          unfold ltB flt at hlb
          rw [hx, hy] at hlb hsw
          rw [hx] at hc1
          rw [hy] at hc2
          have hjn : (j : Int) < (n : Int) := by omega
          have hpn : (p : Int) < (n : Int) := by omega
          have hjp : j ≠ p := by omega
          have Hp := Lib.hid hp
          by_cases hless : kA zs j < kA zs p
          · rw [decide_eq_true hless] at hlb
            have HS := Lib.hid hsw.1
            have HG := Lib.hid (grown_trans' hG.out hsw.2)
            have HW : Hid (Sw 0 n xs (swapL zs j p)) := hS.out.trans (Sw.swap (by omega) (by omega) (by have := hS.out.len; have := hD.out.len; omega))
            have HI : Hid (Ins 0 i p (swapL zs j p)) := by
              have := hI.out.step hj0 hji (by have := hD.out.len; omega) (by rw [show j - 1 = p by omega]; exact hless)
              rw [show j - 1 = p by omega] at this
              exact this
            clear hsw hless hx hy hx1 hx2 hp
            go_wp2_with fail
            go_quiet (fail)
            go_wp2_with fail
            go_roundw
            case rel => exact ⟨p, swapL zs j p, by have := Hp.out; omega, by go_num, ⟨HS.out.own, HS.out.len, HS.out.fin⟩, ⟨HG.out.os, HG.out.tape, HG.out.output, HG.out.size, HG.out.block⟩, HW, HI⟩
            case measure => have := Hp.out; simp only [intOf]; omega
          · rw [decide_eq_false hless] at hlb
            have HT : Hid (Srt 0 (i + 1) zs) := hI.out.stop (Nat.zero_le _) (fun _ => by rw [show j - 1 = p by omega]; omega)
            clear hsw hless hf1 hf2 hx hy hx1 hx2 hp
            go_wp2_with fail
            go_quiet (fail)
            go_wp2_with fail
            go_roundw
            case rel => exact ⟨i + 1, zs, by omega, by go_num, ⟨hD.out.own, hD.out.len, hD.out.fin⟩, ⟨hG.out.os, hG.out.tape, hG.out.output, hG.out.size, hG.out.block⟩, hS, HT⟩
            case measure => simp only [intOf]; omega
        · obtain rfl : j = 0 := by omega
          have HT : Hid (Srt 0 (i + 1) zs) := hI.out.stop (Nat.le_refl _) (fun hc => absurd hc (by omega))
          go_wp2_with fail
          go_quiet (fail)
          go_wp2_with fail
          go_roundw
          case rel => exact ⟨i + 1, zs, by omega, by go_num, ⟨hD.out.own, hD.out.len, hD.out.fin⟩, ⟨hG.out.os, hG.out.tape, hG.out.output, hG.out.size, hG.out.block⟩, hS, HT⟩
          case measure => simp only [intOf]; omega
    · have hge : ¬ (i : Int) < (n : Int) := by omega
      have HT : Hid (Srt 0 n ys) := hT.out.shrink (by omega)
      have HBB : Hid (Below w.heap.size w _) := HB.out.grown hG.out (by have := HB.out.size; omega) (fun k e => by injection e with e; omega)
      go_wp2_with fail
      go_ret
      exact ⟨g, c', by rw [Hnx.out]; rfl, ys, by rw [Hnx.out]; exact hD, hS.out.perm, by rw [Hnx.out]; exact HT, HBB⟩
def grF (a b : Nat) : Nat := if fgt .f32 b a then b else a
theorem greater_any (a b : Nat) (w : World) : Calls Try.prog 11 #[.float .f32 a, .float .f32 b] w fun e w' => e = .returned (.float .f32 (grF a b)) ∧ w' = w := by
  cases h : fgt .f32 b a with
  | true =>
    have e : grF a b = b := by unfold grF; rw [if_pos h]
    rw [e]
    unfold fgt at h
    go_enter Try.func11, Try.ntmps11
    go_wp2
    go_ret
    exact ⟨rfl, rfl⟩
  | false =>
    have e : grF a b = a := by unfold grF; rw [if_neg (by rw [h]; simp)]
    rw [e]
    unfold fgt at h
    go_enter Try.func11, Try.ntmps11
    go_wp2
    go_ret
    exact ⟨rfl, rfl⟩
theorem grF_all {a b : Nat} (ha : FinK .f32 a) (hb : FinK .f32 b) (wa : Wd a) (wb : Wd b) : FinK .f32 (grF a b) ∧ KV .f32 (grF a b) = max (KV .f32 a) (KV .f32 b) ∧ Wd (grF a b) := by
  unfold grF
  rw [fgt_KV hb ha]
  by_cases h : KV .f32 a < KV .f32 b
  · rw [decide_eq_true h, if_pos rfl]; exact ⟨hb, by omega, wb⟩
  · rw [decide_eq_false h, if_neg (by simp)]; exact ⟨ha, by omega, wa⟩
theorem neg_one : FinK .f32 3212836864 ∧ KV .f32 3212836864 = -1065353216 := ⟨(Rn.const (k := .f32) (lo := -1065353216) (hi := -1065353216) (by decide +kernel)).1, by decide +kernel⟩
set_option maxHeartbeats 4000000 in
theorem specGap : FnFl_FB 4 gapR := by
  intro A n c B xs w h hB hn hcap
  have hl := h.lenF
  have HR := Lib.hid h
  clear h hcap
  go_enter Try.func4, Try.ntmps4
  by_cases h1 : n < 1
  · have h1' : (n : Int) < 1 := by omega
    have hr : Hid (gapR xs = none) := gapR_no (by have := hl.out; omega)
    clear HR
    go_wp2_with fail
    go_ret2
    exact gaveFB_no hr.out (Below.refl _ _)
  · have h1' : ¬ (n : Int) < 1 := by omega
    by_cases h2 : 256 < n
    · have h2' : (256 : Int) < (n : Int) := by omega
      have hr : Hid (gapR xs = none) := gapR_no (by have := hl.out; omega)
      clear HR
      go_wp2_with fail
      go_ret2
      exact gaveFB_no hr.out (Below.refl _ _)
    · have h2' : ¬ (256 : Int) < (n : Int) := by omega
      go_wp2_with fail
      go_loop [4] (fun v => ∃ k : Nat, k ≤ n ∧ v = .int .i64 k ∧ Hid (∀ (j x : Nat), j < k → xs[j]? = some x → partB x = true)) (fun v => n - (intOf v).toNat)
      case atStart => exact ⟨0, Nat.zero_le _, rfl, fun j x hj => absurd hj (by omega)⟩
      case round =>
        obtain ⟨k, hk, rfl, hv⟩ := hrel
        by_cases hlt : k < n
        · have hlt' : (k : Int) < (n : Int) := by omega
          obtain ⟨b, off, x, hA, _, hx, hcx⟩ := HR.out.atF (k := k) hlt
          have hA' : A = some ⟨b, off, none⟩ := hA
          cases hp : partB x with
          | true =>
            have hv2 : Hid (∀ (j x : Nat), j < k + 1 → xs[j]? = some x → partB x = true) := by
              intro j y hj hy
              by_cases hjk : j < k
              · exact hv.out j y hjk hy
              · obtain rfl : j = k := by omega
                have := hx.out.symm.trans hy
                injection this with this
                rw [← this]; exact hp
            have Hp := Lib.hid hp
            clear hA hx hp
            subst hA'
            go_wp2_with fail
            refine (specPart_any x _).mono ?_
            rintro e w2 ⟨rfl, rfl⟩
            rw [Hp.out]
            go_wp2_with fail
            go_round
            case rel => exact ⟨k + 1, by omega, by go_num, hv2⟩
            case measure => simp only [intOf]; omega
          | false =>
            have hr : gapR xs = none := gapR_no (.inr (.inr (allP_false hx.out hp)))
            have Hp := Lib.hid hp
            have Hr := Lib.hid hr
            clear hA hx hp hr
            subst hA'
            go_wp2_with fail
            refine (specPart_any x _).mono ?_
            rintro e w2 ⟨rfl, rfl⟩
            rw [Hp.out]
            go_wp2_with fail
            go_ret2
            exact gaveFB_no Hr.out (Below.refl _ _)
        · obtain rfl : k = n := by omega
          have Hall : Hid (allP partB xs = true) := allP_true (p := partB) (xs := xs) (fun j x hx => hv.out j x (by have := (List.getElem?_eq_some_iff.1 hx).1; have := hl.out; omega) hx)
          obtain ⟨b, off, x0, hA, _, _, _⟩ := HR.out.atF (k := 0) (by omega)
          have hA' : A = some ⟨b, off, none⟩ := hA
          clear hA
          subst hA'
          go_wp2_with fail
          refine (ascend_any ⟨b, off, none⟩ k c B xs _ HR.out hB (by omega) (by omega) (allP_parts Hall.out).fin).mono ?_
          rintro e w3 ⟨g, c', ys, rfl, hD3, hP3, hT3, hB3⟩
          have HP : Hid (AllP ys) := fun x hx => allP_parts Hall.out x (hP3.out.mem_iff.1 hx)
          have hn1 : 1 ≤ k ∧ k ≤ 256 := by omega
          have hyl : Hid (ys.length = k) := hD3.out.len
          obtain ⟨n, hkn⟩ : ∃ n, k = n := ⟨_, rfl⟩
          subst hkn
          go_wp2_with fail
          go_loop [7, 8] (fun q i => ∃ j m : Nat, j ≤ k ∧ i = .int .i64 j ∧ q = .float .f32 m ∧ Hid (FinK .f32 m ∧ KV .f32 m = mxI (-1065353216) ys k j ∧ Wd m)) (fun _ i => k - (intOf i).toNat)
          case atStart => exact ⟨0, 3212836864, Nat.zero_le _, rfl, rfl, neg_one.1, neg_one.2, .inl (by rw [neg_one.2]; omega)⟩
          case round =>
            obtain ⟨j, m, hj, rfl, rfl, hm⟩ := hrel
            by_cases hlt : j < k
            · have hlt' : (j : Int) < (k : Int) := by omega
              have hc := hD3.out.cell (i := j) hlt
              have hp := HP.out _ (getD_mem (xs := ys) (i := j) (by have := hyl.out; omega))
              obtain ⟨y, hy⟩ : ∃ y, ys.getD j 0 = y := ⟨_, rfl⟩
              have e1 : fop .quo .f32 (floatOfInt .f32 ((j : Int) + 1)) (floatOfInt .f32 (k : Int)) = quoN (j + 1) k := by unfold quoN; push_cast; rfl
              have e2 : fop .quo .f32 (floatOfInt .f32 (j : Int)) (floatOfInt .f32 (k : Int)) = quoN j k := rfl
              have r1 := quo_Rn (i := j + 1) (by omega) hn1.1 hn1.2
              have r2 := quo_Rn (i := j) (by omega) hn1.1 hn1.2
              rw [hy] at hc hp
              have r3 := subU_Rn (i := j + 1) (by omega) hn1.1 hn1.2 hp
              have r4 := subL_Rn (i := j) (by omega) hn1.1 hn1.2 hp
              have w3_ := sub_Wd r1.1 hp.1
              have w4_ := sub_Wd hp.1 r2.1
              have hM : Hid (mxI (-1065353216) ys k (j + 1) = max (max (mxI (-1065353216) ys k j) (KV .f32 (fop .sub .f32 (quoN (j + 1) k) y))) (KV .f32 (fop .sub .f32 y (quoN j k)))) := by show _ = _; rw [← hy]; rfl
              obtain ⟨a1, ha1⟩ : ∃ a1, quoN (j + 1) k = a1 := ⟨_, rfl⟩
              obtain ⟨a2, ha2⟩ : ∃ a2, quoN j k = a2 := ⟨_, rfl⟩
              rw [ha1] at e1 r1 r3 w3_ hM
              rw [ha2] at e2 r2 r4 w4_ hM
              obtain ⟨s1, hs1⟩ : ∃ s1, fop .sub .f32 a1 y = s1 := ⟨_, rfl⟩
              obtain ⟨s2, hs2⟩ : ∃ s2, fop .sub .f32 y a2 = s2 := ⟨_, rfl⟩
              rw [hs1] at r3 w3_ hM
              rw [hs2] at r4 w4_ hM
              have n1 := FinK_not_nan r1.1
              have n2 := FinK_not_nan r2.1
              have n3 := FinK_not_nan r3.1
              have n4 := FinK_not_nan r4.1
              have g1 := fun (t : TypeId) (w : World) => run_fop_num2 (P := Try.prog) e1 n1 t w
              have g2 := fun (t : TypeId) (w : World) => run_fop_num2 (P := Try.prog) e2 n2 t w
              have g3 := fun (t : TypeId) (w : World) => run_fop_num2 (P := Try.prog) hs1 n3 t w
              have g4 := fun (t : TypeId) (w : World) => run_fop_num2 (P := Try.prog) hs2 n4 t w
              have m1 := grF_all hm.out.1 r3.1 hm.out.2.2 w3_
              have m2 := grF_all m1.1 r4.1 m1.2.2 w4_
              have hm2 : Hid (FinK .f32 (grF (grF m s1) s2) ∧ KV .f32 (grF (grF m s1) s2) = mxI (-1065353216) ys k (j + 1) ∧ Wd (grF (grF m s1) s2)) :=
                ⟨m2.1, by rw [m2.2.1, m1.2.1, hM.out, hm.out.2.1], m2.2.2⟩
              clear hy hp r1 r2 r3 r4 w3_ w4_ hM ha1 ha2 hs1 hs2 e1 e2 n1 n2 n3 n4 hm m1 m2
              go_wp2_with fail
              refine (greater_any _ _ _).mono ?_
              rintro e wq ⟨rfl, rfl⟩
              go_wp2_with fail
              refine (greater_any _ _ _).mono ?_
              rintro e wq ⟨rfl, rfl⟩
              go_wp2_with fail
              go_round
              case rel => exact ⟨j + 1, _, by omega, by go_num, rfl, hm2⟩
              case measure => simp only [intOf]; omega
            · obtain rfl : k = j := by omega
              have hres : Hid (cn .f32 m = (gapR xs).getD 0) := gap_same hl.out hn1.1 hn1.2 Hall.out hP3.out hT3.out (by omega) hm.out.2.1 hm.out.2.2 hm.out.1
              have hsome := gapR_yes hl.out hn1.1 hn1.2 Hall.out
              go_wp2_with fail
              go_ret2
              exact ⟨m, true, rfl, hsome.symm, hres, hB3.out⟩
end Go.Proofs.Ytmhhjegceibjoaa
