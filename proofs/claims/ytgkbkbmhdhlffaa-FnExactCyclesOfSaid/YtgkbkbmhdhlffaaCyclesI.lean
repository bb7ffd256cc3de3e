/- CyclesOf: the walk of the program's function. -/
import Derived.Test.YtgkbkbmhdhlffaaCycles
import Derived.Deep.OwnRows
namespace Go.Proofs.Ytgkbkbmhdhlffaa
open Go.RowKit
set_option maxRecDepth 100000
theorem own_made (w : World) (z : Value) (n base : Nat) (e : TypeId) (hb : base ≤ w.heap.size) (hm : n ≤ maxLen) : (w.alloc (.cells (madeCells #[z] n) e)).ownsRow base e 1 (.slice (some ⟨w.heap.size, 0, none⟩) n n) n (List.replicate n z) :=
  ⟨by simp, .inr ⟨w.heap.size, n, madeCells #[z] n, rfl, hb, heap_alloc_new w _, Nat.le_refl _, hm, by rw [← Array.length_toList, madeCells_one]; simp, by rw [madeCells_one, List.take_of_length_le (by simp)]⟩⟩
/-- Both orders in which the two blocks may be made. -/
theorem two_a {w w1 : World} {n : Nat} (hle : w.heap.size ≤ w1.heap.size) (hb : Below w.heap.size w w1) (hm : n ≤ maxLen) :
    OwnVs ((w1.alloc (.cells #[] 22)).alloc (.cells (madeCells #[.bool false] n) 4)).drew (fun j => j ≠ w1.heap.size + 1) w.heap.size (.slice (some ⟨w1.heap.size, 0, none⟩) 0 0) [] [] ∧
    ((w1.alloc (.cells #[] 22)).alloc (.cells (madeCells #[.bool false] n) 4)).drew.ownsRow w.heap.size 4 1 (.slice (some ⟨w1.heap.size + 1, 0, none⟩) n n) n (bools (List.replicate n false)) ∧
    Below w.heap.size w ((w1.alloc (.cells #[] 22)).alloc (.cells (madeCells #[.bool false] n) 4)).drew := by
  have hs : (w1.alloc (.cells #[] 22)).heap.size = w1.heap.size + 1 := by show (w1.heap.push _).size = _; simp
  refine ⟨(OwnVs.chg (OwnVs.new_ w1 hle (by omega)) (Chg.of_grown (P := fun _ => False) (World.grownBy_alloc _ _ none) (fun _ e => by cases e)) (fun _ _ _ h => h)).drewN 1, ?_, ((hb.alloc hle _).alloc (by rw [hs]; omega) _).drew⟩
  have := own_made (w1.alloc (.cells #[] 22)) (.bool false) n w.heap.size 4 (by rw [hs]; omega) hm
  rw [hs] at this
  rw [show bools (List.replicate n false) = List.replicate n (.bool false) by simp [bools]]
  exact this
theorem two_b {w w1 : World} {n : Nat} (hle : w.heap.size ≤ w1.heap.size) (hb : Below w.heap.size w w1) (hm : n ≤ maxLen) :
    OwnVs ((w1.alloc (.cells (madeCells #[.bool false] n) 4)).alloc (.cells #[] 22)).drew (fun j => j ≠ w1.heap.size) w.heap.size (.slice (some ⟨w1.heap.size + 1, 0, none⟩) 0 0) [] [] ∧
    ((w1.alloc (.cells (madeCells #[.bool false] n) 4)).alloc (.cells #[] 22)).drew.ownsRow w.heap.size 4 1 (.slice (some ⟨w1.heap.size, 0, none⟩) n n) n (bools (List.replicate n false)) ∧
    Below w.heap.size w ((w1.alloc (.cells (madeCells #[.bool false] n) 4)).alloc (.cells #[] 22)).drew := by
  have hs : (w1.alloc (.cells (madeCells #[.bool false] n) 4)).heap.size = w1.heap.size + 1 := by show (w1.heap.push _).size = _; simp
  refine ⟨?_, ?_, ((hb.alloc hle _).alloc (by rw [hs]; omega) _).drew⟩
  · have := OwnVs.new_ (P := fun j => j ≠ w1.heap.size) (base := w.heap.size) (w1.alloc (.cells (madeCells #[.bool false] n) 4)) (by rw [hs]; omega) (by rw [hs]; omega)
    rw [hs] at this
    exact this.drewN 1
  · have := (own_made w1 (.bool false) n w.heap.size 4 hle hm).alloc (.cells #[] 22)
    rw [show bools (List.replicate n false) = List.replicate n (.bool false) by simp [bools]]
    exact this
set_option maxHeartbeats 4000000 in
theorem implCycles : FnL_LLB 15 cyclesR := by
  intro A n c B xs w h hB hn hf hcap
  have hl := h.lenI
  obtain rfl : xs.length = n := hl.out
  have Hc := Lib.hid (implOrder_any A xs.length c B xs w h hB hn)
  have HR := Lib.hid h
  clear h hl hf hcap
  cases hv : orderB xs with
  | false =>
    have hr : Hid (cyclesR xs = none) := by show _ = _; simp [cyclesR, hv]
    rw [hv] at Hc
    clear hv
    go_enter Try.func15, Try.ntmps15
    go_wp2_with fail
    refine Hc.out.mono ?_
    rintro e w1 ⟨rfl, hb1⟩
    have HB1 := Lib.hid hb1
    clear hb1
    go_wp2
    go_ret2
    exact ⟨_, _, rfl, by rw [hr.out]; rfl, by rw [hr.out]; exact OwnLL.none_ _ _ _, HB1.out⟩
  | true =>
    have hr : Hid (cyclesR xs = some (cycState xs xs.length).1) := by show _ = _; simp [cyclesR, hv]
    rw [hv] at Hc
    have Hin := Lib.hid (fun (k : Nat) (x : Int) (hx : xs[k]? = some x) => order_in hv hx)
    obtain ⟨hx1, hx2⟩ : 1 ≤ xs.length ∧ xs.length ≤ 64 := by
      unfold orderB at hv
      rw [Bool.and_eq_true] at hv
      have := inB_true hv.1
      omega
    clear hv
    go_enter Try.func15, Try.ntmps15
    go_wp2_with fail
    refine Hc.out.mono ?_
    rintro e w1 ⟨rfl, hb1⟩
    have HB1 := Lib.hid hb1
    have hle1 := hb1.size
    clear hb1
    have hmk := fun w => run_make_row' (P := Try.prog) 41 4 (.bool false) 1 Try.underlying41 info_bool rfl .i64 .i64 xs.length (by omega) (by omega) w
    go_wp2
    go_region
    clear hmk
    · obtain ⟨hV2, hS2, hB2⟩ := two_a (n := xs.length) hle1 HB1.out (by unfold maxLen; omega)
      obtain ⟨gs, hgs⟩ : ∃ gs, gs = w1.heap.size + 1 := ⟨_, rfl⟩
      have hlo : w.heap.size ≤ gs := by omega
      generalize ((w1.alloc (.cells #[] 22)).alloc (.cells (madeCells #[.bool false] xs.length) 4)).drew = w2 at hV2 hS2 hB2 ⊢
      have hg1 : Value.slice (some ⟨w1.heap.size + 1, 0, none⟩) xs.length xs.length = Value.slice (some ⟨gs, 0, none⟩) xs.length xs.length := by rw [hgs]
      rw [hg1] at hS2 ⊢
      rw [← hgs] at hV2
      have HV2 := Lib.hid hV2; have HS2 := Lib.hid hS2; have HB2 := Lib.hid hB2
      clear hV2 hS2 hB2 hg1 hgs
      go_wp2
      go_loopw [4, 18] (fun v i wr => ∃ (k : Nat) (vs : List Value), k ≤ xs.length ∧ i = .int .i64 k ∧ OwnVs wr (fun j => j ≠ gs) w.heap.size v vs (cycState xs k).1 ∧ wr.ownsRow w.heap.size 4 1 (.slice (some ⟨gs, 0, none⟩) xs.length xs.length) xs.length (bools (cycState xs k).2) ∧ Below w.heap.size w wr) (fun _ i _ => xs.length - (intOf i).toNat)
      case atStart => exact ⟨0, [], Nat.zero_le _, rfl, HV2.out, HS2.out, HB2.out⟩
      case round =>
        obtain ⟨k, vs, hk, rfl, hV, hS, hbel⟩ := hrel
        have HV := Lib.hid hV; have HS' := Lib.hid hS; have HB' := Lib.hid hbel
        clear hV hS hbel
        by_cases hlt : k < xs.length
        · have hlt' : (k : Int) < (xs.length : Int) := by omega
          have hgs : gs < wr.heap.size := (World.ownsRow.lt HS'.out gs rfl).2
          have hwb : w.heap.size ≤ wr.heap.size := HB'.out.size
          obtain ⟨s0, hs0⟩ : ∃ s0, s0 = wr.heap.size := ⟨_, rfl⟩
          obtain ⟨Ls, hLs⟩ : ∃ Ls, Ls = (cycState xs k).1 := ⟨_, rfl⟩
          obtain ⟨S0, hS0⟩ : ∃ S0, S0 = (cycState xs k).2 := ⟨_, rfl⟩
          have hsl := (cycState_len xs k).1
          have hll := (cycState_len xs k).2.1
          obtain ⟨Cf, hCf⟩ : ∃ Cf, Cf = (cyc xs xs.length S0 k).1 := ⟨_, rfl⟩
          obtain ⟨Sf, hSf⟩ : ∃ Sf, Sf = (cyc xs xs.length S0 k).2 := ⟨_, rfl⟩
          have hnx : Hid (cycState xs (k + 1) = (if Cf = [] then Ls else Ls ++ [Cf], Sf)) := by
            show _ = _
            conv => lhs; unfold cycState
            rw [← hS0, ← hLs, ← hCf, ← hSf]
          rw [← hS0] at hsl
          rw [← hLs] at hll
          have hcl := (cyc_len xs xs.length S0 k).2
          rw [← hCf] at hcl
          have hun := unseen_le S0
          have HV0 : Hid (OwnVs wr (fun j => j ≠ gs ∧ j < s0) w.heap.size u4 vs Ls) := by
            rw [hLs, hs0]
            exact HV.out.weak (fun j _ h2 h3 => ⟨h3, h2⟩)
          have HSS : Hid (wr.ownsRow w.heap.size 4 1 (.slice (some ⟨gs, 0, none⟩) xs.length xs.length) xs.length (bools S0)) := by rw [hS0]; exact HS'.out
          have Hs0 := Lib.hid hs0; have Hsl := Lib.hid hsl; have Hun := Lib.hid hun; have HCf := Lib.hid hCf; have HSf := Lib.hid hSf
          have Hgs : Hid (gs < s0) := by show _ < _; rw [hs0]; exact hgs
          have Hwb : Hid (w.heap.size ≤ s0) := by show _ ≤ _; rw [hs0]; exact hwb
          have HOn := Lib.hid (own_newI wr (base := s0) (by omega))
          have HVn := Lib.hid (HV0.out.chg (Chg.of_grown (P := fun _ => False) (World.grownBy_alloc wr (.cells #[] 2) none) (fun _ e => by cases e)) (fun _ _ _ h => h))
          have HSn := Lib.hid (World.ownsRow.alloc HSS.out (.cells #[] 2))
          have HBn := Lib.hid (HB'.out.alloc HB'.out.size (.cells #[] 2))
          clear hs0 hLs hS0 hsl hCf hSf hun HV HS' HB' HV0 HSS hgs hwb
          go_wp2
          go_loopw [7, 8] (fun u a wr => ∃ (C : List Int) (S : List Bool) (f j : Nat), a = .int .i64 j ∧ j < xs.length ∧ s0 ≤ wr.heap.size ∧ Own wr s0 2 u (i64s C) ∧ f + C.length = xs.length ∧ Hid (S.length = xs.length) ∧ Hid (unseen S ≤ f) ∧ Hid (C ++ (cyc xs f S j).1 = Cf) ∧ Hid ((cyc xs f S j).2 = Sf) ∧ OwnVs wr (fun j => j ≠ gs ∧ j < s0) w.heap.size u4 vs Ls ∧ wr.ownsRow w.heap.size 4 1 (.slice (some ⟨gs, 0, none⟩) xs.length xs.length) xs.length (bools S) ∧ Below w.heap.size w wr) (fun u _ _ => xs.length + 1 - lenOf u)
          case atStart => exact ⟨[], S0, xs.length, k, rfl, hlt, by have := Hs0.out; show s0 ≤ (wr.heap.push _).size; simp; omega, HOn.out, by simp, Hsl.out, by show _ ≤ _; have := Hun.out; have := Hsl.out; omega, by show _ = _; rw [HCf.out]; rfl, by show _ = _; rw [HSf.out], HVn.out, HSn.out, HBn.out⟩
          case round =>
            obtain ⟨C, S, f, j, rfl, hj, hs0w, hO, hf, hSl, hun, hC, hSfe, hV, hS, hbel⟩ := hrel
            have HO := Lib.hid hO; have HV := Lib.hid hV; have HS := Lib.hid hS; have HB := Lib.hid hbel
            clear hO hV hS hbel
            have hj' : (j : Int) < (xs.length : Int) := by omega
            obtain ⟨b, hb⟩ : ∃ b, S[j]? = some b := ⟨_, List.getElem?_eq_getElem (by rw [hSl.out]; exact hj)⟩
            have hcb := (HS.out.cellAt j (by omega)).trans (bools_get hb)
            have hfb := HS.out.frozenAt j
            have Hb := Lib.hid hb
            clear hb
            cases b with
            | true =>
              have hcy : cyc xs f S j = ([], S) := cyc_seen (getD_some Hb.out)
              have hC2 : Hid (C = Cf) := by have := hC.out; rw [hcy, List.append_nil] at this; exact this
              have hS2 : Hid (S = Sf) := by have := hSfe.out; rw [hcy] at this; exact this
              obtain ⟨A7, c7, rfl, hc7⟩ := HO.out.shapeI
              have hwr : w.heap.size ≤ wr.heap.size := HB.out.size
              have hle : s0 ≤ wr.heap.size ∧ gs < wr.heap.size := by have := Hgs.out; have := (World.ownsRow.lt HS.out gs rfl).2; exact ⟨hs0w, this⟩
              by_cases hC0 : C = []
              · have hn1 : Hid (cycState xs (k + 1) = (Ls, S)) := by show _ = _; rw [hnx.out, if_pos (by rw [← hC2.out]; exact hC0), ← hS2.out]
                have hlen : C.length = 0 := by rw [hC0]; rfl
                rw [hlen]
                have HV3 := Lib.hid (HV.out.weak (Q := fun j => j ≠ gs) (fun _ _ _ h => h.1))
                clear hC0 hlen hcy HV
                go_wp2
                go_roundw
                case rel => exact ⟨k + 1, vs, by omega, by go_num, by rw [hn1.out]; exact HV3.out, by rw [hn1.out]; exact HS.out, HB.out⟩
                case measure => simp only [intOf]; omega
              · have hn1 : Hid (cycState xs (k + 1) = (Ls ++ [C], S)) := by show _ = _; rw [hnx.out, if_neg (by rw [← hC2.out]; exact hC0), ← hS2.out, ← hC2.out]
                have hlen : (0 : Int) < (C.length : Int) := by have : C.length ≠ 0 := fun e => hC0 (List.length_eq_zero_iff.1 e); omega
                have hvl : vs.length ≤ 2000000 := by have := HV.out.len; omega
                have hb1 : w.heap.size ≤ wr.heap.size := hwr
                clear hC0 hcy
                go_wp2_with (at_builtin; go_must (refine emitLL wr rfl _ _ rfl w.heap.size u4 vs rfl HV.out.outer A7 C.length c7 rfl hvl hb1 ?_))
                intro v' w3 hO' hg3 hor
                have hub : ∀ q, (Value.slice A7 C.length c7).ownBlock = some q → s0 ≤ q := fun q hq => (HO.out.lt q hq).1
                have hV3 : OwnVs w3 (fun j => j ≠ gs) w.heap.size v' (vs ++ [.slice A7 C.length c7]) (Ls ++ [C]) :=
                  (HV.out.weak (Q := fun j => j ≠ gs) (fun _ _ _ h => h.1)).snoc (HO.out.base_le Hwb.out)
                    (fun q hq hq' => by have := (HV.out.blk q hq).2; have := hub q hq'; omega)
                    (fun i u' hu' q hq hq' => by have := (HV.out.blks i u' hu' q hq).2; have := hub q hq'; omega)
                    hO' hg3 hor (fun q hq => by omega) (fun q hq => by have := hub q hq; have := Hgs.out; omega)
                have HV3 := Lib.hid hV3
                have HS3 := Lib.hid (World.ownsRow.kept HS.out hg3 (.inr (fun e => by have := HV.out.blk _ e.symm; exact this.1 rfl)))
                have HB3 := Lib.hid (Below.chg HB.out (Chg.of_grown (P := fun j => w.heap.size ≤ j) hg3 (fun q hq => (HV.out.outer.lt q hq).1)) (Nat.le_refl _) (fun q hq => by omega))
                clear hO' hg3 hor hV3 hub
                go_wp2
                go_roundw
                case rel => exact ⟨k + 1, _, by omega, by go_num, by rw [hn1.out]; exact HV3.out, by rw [hn1.out]; exact HS3.out, HB3.out⟩
                case measure => simp only [intOf]; omega
            | false =>
              obtain ⟨A7, c7, rfl, hc7⟩ := HO.out.shapeI
              obtain ⟨f', rfl⟩ : ∃ f', f = f' + 1 := ⟨f - 1, by have := unseen_pos Hb.out; have := hun.out; omega⟩
              have hcy := cyc_step (xs := xs) (f := f') (i := (j : Int)) (S := S) (getD_some Hb.out)
              obtain ⟨bb, off, x, rfl, hbB, hx, hcx⟩ := (HR.out.below HB.out hB).atI (k := j) hj
              obtain ⟨hx0, hx1'⟩ := Hin.out j x hx.out
              obtain ⟨j2, rfl⟩ : ∃ j2 : Nat, x = (j2 : Int) := ⟨x.toNat, by omega⟩
              rw [Int.toNat_natCast, getDI_some hx.out] at hcy
              have hC2 : Hid ((C ++ [(j : Int)]) ++ (cyc xs f' (S.set j true) j2).1 = Cf) := by have := hC.out; rw [hcy] at this; show _ = _; rw [← this, List.append_assoc]; rfl
              have hS2 : Hid ((cyc xs f' (S.set j true) j2).2 = Sf) := by have := hSfe.out; rw [hcy] at this; exact this
              have hun2 : Hid (unseen (S.set j true) ≤ f') := by show _ ≤ _; have := unseen_set Hb.out; have := hun.out; omega
              have hSl2 : Hid ((S.set j true).length = xs.length) := by show _ = _; rw [List.length_set]; exact hSl.out
              have hst := World.ownsRow.stored HS.out j (.bool true)
              rw [bools_set] at hst
              have HS3 := Lib.hid hst.1
              have HO3 := Lib.hid (HO.out.kept hst.2 (.inr (fun e => by have := (HO.out.lt _ e).1; have := Hgs.out; omega)))
              have HV3 := Lib.hid (HV.out.chg (Chg.of_grown (P := fun q => q = gs) hst.2 (fun q hq => by injection hq with hq; exact hq.symm)) (fun q _ h1 h2 => h1.1 h2))
              have HB3 := Lib.hid (HB.out.setCell (p := ⟨gs, j, none⟩) (by show w.heap.size ≤ gs; omega) (.bool true))
              have hs3 : s0 ≤ (wr.setCell ⟨gs, j, none⟩ (.bool true)).heap.size := Nat.le_trans (hs0w) hst.2.size
              have hl63 : C.length ≤ 2000000 := by omega
              have hsz : (wr.setCell ⟨gs, j, none⟩ (.bool true)).heap.size = wr.heap.size := by simp [World.setCell]
              have Hsz := Lib.hid hsz
              clear hsz
              have Hx := Lib.hid hx.out
              clear hst hcy hx hcx HS HO HV HB
              go_wp2_with (at_builtin; go_must (refine emitI _ rfl _ _ rfl s0 (.slice A7 C.length c7) C rfl HO3.out (j : Int) (by rw [Hsz.out]; rfl) hl63 hs3 ?_))
              intro v' w4 hO' hg4 hor
              have hub : ∀ q, (Value.slice A7 C.length c7).ownBlock = some q → s0 ≤ q := fun q hq => (HO3.out.lt q hq).1
              have HO4 := Lib.hid hO'
              have HS4 := Lib.hid (World.ownsRow.kept HS3.out hg4 (.inr (fun e => by have h1 : s0 ≤ gs := hub _ e.symm; have := Hgs.out; omega)))
              have HV4 := Lib.hid (HV3.out.chg (Chg.of_grown (P := fun q => s0 ≤ q) hg4 hub) (fun q _ h1 h2 => by have := h1.2; omega))
              have HB4 := Lib.hid (Below.chg HB3.out (Chg.of_grown (P := fun q => s0 ≤ q) hg4 hub) (Nat.le_refl _) (fun q hq => by have := Hwb.out; omega))
              have hcx2 := (HR.out.below HB4.out hB)
              obtain ⟨A9, c9, rfl, hc9⟩ := HO4.out.shapeI
              have hgz := hg4.size
              clear hO' hg4 hor hub
              obtain ⟨bb2, off2, x2, hbe, hbB2, hxx2, hcx⟩ := hcx2.atI (k := j) hj
              obtain ⟨rfl, rfl⟩ : bb = bb2 ∧ off = off2 := by simpa using hbe
              obtain rfl : x2 = (j2 : Int) := by have h1 := hxx2.out; rw [Hx.out] at h1; injection h1 with h1; exact h1.symm
              have hs4 : s0 ≤ w4.heap.size := Nat.le_trans hs3 hgz
              have hlen2 : (C ++ [(j : Int)]).length = C.length + 1 := by simp
              rw [hlen2] at hc9 HO4 ⊢
              clear hbe hxx2 hs3
              go_wp2
              go_roundw
              case rel => exact ⟨C ++ [(j : Int)], S.set j true, f', j2, by go_num, by omega, hs4, HO4.out, by rw [List.length_append, List.length_singleton]; omega, hSl2, hun2, hC2, hS2, HV4.out, HS4.out, HB4.out⟩
              case measure => simp only [lenOf]; omega
        · obtain rfl : k = xs.length := by omega
          have HV2 := Lib.hid (HV.out.weak (Q := fun _ => True) (fun _ _ _ _ => trivial))
          clear HV
          go_wp2
          go_ret2
          exact ⟨_, _, rfl, by rw [hr.out]; rfl, by rw [hr.out]; exact ⟨vs, HV2.out⟩, HB'.out⟩
    · obtain ⟨hV2, hS2, hB2⟩ := two_b (n := xs.length) hle1 HB1.out (by unfold maxLen; omega)
      obtain ⟨gs, hgs⟩ : ∃ gs, gs = w1.heap.size := ⟨_, rfl⟩
      have hlo : w.heap.size ≤ gs := by omega
      generalize ((w1.alloc (.cells (madeCells #[.bool false] xs.length) 4)).alloc (.cells #[] 22)).drew = w2 at hV2 hS2 hB2 ⊢
      have hg1 : Value.slice (some ⟨w1.heap.size, 0, none⟩) xs.length xs.length = Value.slice (some ⟨gs, 0, none⟩) xs.length xs.length := by rw [hgs]
      rw [hg1] at hS2 ⊢
      have HV2 : Hid (OwnVs w2 (fun j => j ≠ gs) w.heap.size (.slice (some ⟨w1.heap.size + 1, 0, none⟩) 0 0) [] []) := by rw [hgs]; exact hV2
      have HS2 := Lib.hid hS2; have HB2 := Lib.hid hB2
      clear hV2 hS2 hB2 hg1 hgs
      go_wp2
      go_loopw [4, 18] (fun v i wr => ∃ (k : Nat) (vs : List Value), k ≤ xs.length ∧ i = .int .i64 k ∧ OwnVs wr (fun j => j ≠ gs) w.heap.size v vs (cycState xs k).1 ∧ wr.ownsRow w.heap.size 4 1 (.slice (some ⟨gs, 0, none⟩) xs.length xs.length) xs.length (bools (cycState xs k).2) ∧ Below w.heap.size w wr) (fun _ i _ => xs.length - (intOf i).toNat)
      case atStart => exact ⟨0, [], Nat.zero_le _, rfl, HV2.out, HS2.out, HB2.out⟩
      case round =>
        obtain ⟨k, vs, hk, rfl, hV, hS, hbel⟩ := hrel
        have HV := Lib.hid hV; have HS' := Lib.hid hS; have HB' := Lib.hid hbel
        clear hV hS hbel
        by_cases hlt : k < xs.length
        · have hlt' : (k : Int) < (xs.length : Int) := by omega
          have hgs : gs < wr.heap.size := (World.ownsRow.lt HS'.out gs rfl).2
          have hwb : w.heap.size ≤ wr.heap.size := HB'.out.size
          obtain ⟨s0, hs0⟩ : ∃ s0, s0 = wr.heap.size := ⟨_, rfl⟩
          obtain ⟨Ls, hLs⟩ : ∃ Ls, Ls = (cycState xs k).1 := ⟨_, rfl⟩
          obtain ⟨S0, hS0⟩ : ∃ S0, S0 = (cycState xs k).2 := ⟨_, rfl⟩
          have hsl := (cycState_len xs k).1
          have hll := (cycState_len xs k).2.1
          obtain ⟨Cf, hCf⟩ : ∃ Cf, Cf = (cyc xs xs.length S0 k).1 := ⟨_, rfl⟩
          obtain ⟨Sf, hSf⟩ : ∃ Sf, Sf = (cyc xs xs.length S0 k).2 := ⟨_, rfl⟩
          have hnx : Hid (cycState xs (k + 1) = (if Cf = [] then Ls else Ls ++ [Cf], Sf)) := by
            show _ = _
            conv => lhs; unfold cycState
            rw [← hS0, ← hLs, ← hCf, ← hSf]
          rw [← hS0] at hsl
          rw [← hLs] at hll
          have hcl := (cyc_len xs xs.length S0 k).2
          rw [← hCf] at hcl
          have hun := unseen_le S0
          have HV0 : Hid (OwnVs wr (fun j => j ≠ gs ∧ j < s0) w.heap.size u4 vs Ls) := by
            rw [hLs, hs0]
            exact HV.out.weak (fun j _ h2 h3 => ⟨h3, h2⟩)
          have HSS : Hid (wr.ownsRow w.heap.size 4 1 (.slice (some ⟨gs, 0, none⟩) xs.length xs.length) xs.length (bools S0)) := by rw [hS0]; exact HS'.out
          have Hs0 := Lib.hid hs0; have Hsl := Lib.hid hsl; have Hun := Lib.hid hun; have HCf := Lib.hid hCf; have HSf := Lib.hid hSf
          have Hgs : Hid (gs < s0) := by show _ < _; rw [hs0]; exact hgs
          have Hwb : Hid (w.heap.size ≤ s0) := by show _ ≤ _; rw [hs0]; exact hwb
          have HOn := Lib.hid (own_newI wr (base := s0) (by omega))
          have HVn := Lib.hid (HV0.out.chg (Chg.of_grown (P := fun _ => False) (World.grownBy_alloc wr (.cells #[] 2) none) (fun _ e => by cases e)) (fun _ _ _ h => h))
          have HSn := Lib.hid (World.ownsRow.alloc HSS.out (.cells #[] 2))
          have HBn := Lib.hid (HB'.out.alloc HB'.out.size (.cells #[] 2))
          clear hs0 hLs hS0 hsl hCf hSf hun HV HS' HB' HV0 HSS hgs hwb
          go_wp2
          go_loopw [7, 8] (fun u a wr => ∃ (C : List Int) (S : List Bool) (f j : Nat), a = .int .i64 j ∧ j < xs.length ∧ s0 ≤ wr.heap.size ∧ Own wr s0 2 u (i64s C) ∧ f + C.length = xs.length ∧ Hid (S.length = xs.length) ∧ Hid (unseen S ≤ f) ∧ Hid (C ++ (cyc xs f S j).1 = Cf) ∧ Hid ((cyc xs f S j).2 = Sf) ∧ OwnVs wr (fun j => j ≠ gs ∧ j < s0) w.heap.size u4 vs Ls ∧ wr.ownsRow w.heap.size 4 1 (.slice (some ⟨gs, 0, none⟩) xs.length xs.length) xs.length (bools S) ∧ Below w.heap.size w wr) (fun u _ _ => xs.length + 1 - lenOf u)
          case atStart => exact ⟨[], S0, xs.length, k, rfl, hlt, by have := Hs0.out; show s0 ≤ (wr.heap.push _).size; simp; omega, HOn.out, by simp, Hsl.out, by show _ ≤ _; have := Hun.out; have := Hsl.out; omega, by show _ = _; rw [HCf.out]; rfl, by show _ = _; rw [HSf.out], HVn.out, HSn.out, HBn.out⟩
          case round =>
            obtain ⟨C, S, f, j, rfl, hj, hs0w, hO, hf, hSl, hun, hC, hSfe, hV, hS, hbel⟩ := hrel
            have HO := Lib.hid hO; have HV := Lib.hid hV; have HS := Lib.hid hS; have HB := Lib.hid hbel
            clear hO hV hS hbel
            have hj' : (j : Int) < (xs.length : Int) := by omega
            obtain ⟨b, hb⟩ : ∃ b, S[j]? = some b := ⟨_, List.getElem?_eq_getElem (by rw [hSl.out]; exact hj)⟩
            have hcb := (HS.out.cellAt j (by omega)).trans (bools_get hb)
            have hfb := HS.out.frozenAt j
            have Hb := Lib.hid hb
            clear hb
            cases b with
            | true =>
              have hcy : cyc xs f S j = ([], S) := cyc_seen (getD_some Hb.out)
              have hC2 : Hid (C = Cf) := by have := hC.out; rw [hcy, List.append_nil] at this; exact this
              have hS2 : Hid (S = Sf) := by have := hSfe.out; rw [hcy] at this; exact this
              obtain ⟨A7, c7, rfl, hc7⟩ := HO.out.shapeI
              have hwr : w.heap.size ≤ wr.heap.size := HB.out.size
              have hle : s0 ≤ wr.heap.size ∧ gs < wr.heap.size := by have := Hgs.out; have := (World.ownsRow.lt HS.out gs rfl).2; exact ⟨hs0w, this⟩
              by_cases hC0 : C = []
              · have hn1 : Hid (cycState xs (k + 1) = (Ls, S)) := by show _ = _; rw [hnx.out, if_pos (by rw [← hC2.out]; exact hC0), ← hS2.out]
                have hlen : C.length = 0 := by rw [hC0]; rfl
                rw [hlen]
                have HV3 := Lib.hid (HV.out.weak (Q := fun j => j ≠ gs) (fun _ _ _ h => h.1))
                clear hC0 hlen hcy HV
                go_wp2
                go_roundw
                case rel => exact ⟨k + 1, vs, by omega, by go_num, by rw [hn1.out]; exact HV3.out, by rw [hn1.out]; exact HS.out, HB.out⟩
                case measure => simp only [intOf]; omega
              · have hn1 : Hid (cycState xs (k + 1) = (Ls ++ [C], S)) := by show _ = _; rw [hnx.out, if_neg (by rw [← hC2.out]; exact hC0), ← hS2.out, ← hC2.out]
                have hlen : (0 : Int) < (C.length : Int) := by have : C.length ≠ 0 := fun e => hC0 (List.length_eq_zero_iff.1 e); omega
                have hvl : vs.length ≤ 2000000 := by have := HV.out.len; omega
                have hb1 : w.heap.size ≤ wr.heap.size := hwr
                clear hC0 hcy
                go_wp2_with (at_builtin; go_must (refine emitLL wr rfl _ _ rfl w.heap.size u4 vs rfl HV.out.outer A7 C.length c7 rfl hvl hb1 ?_))
                intro v' w3 hO' hg3 hor
                have hub : ∀ q, (Value.slice A7 C.length c7).ownBlock = some q → s0 ≤ q := fun q hq => (HO.out.lt q hq).1
                have hV3 : OwnVs w3 (fun j => j ≠ gs) w.heap.size v' (vs ++ [.slice A7 C.length c7]) (Ls ++ [C]) :=
                  (HV.out.weak (Q := fun j => j ≠ gs) (fun _ _ _ h => h.1)).snoc (HO.out.base_le Hwb.out)
                    (fun q hq hq' => by have := (HV.out.blk q hq).2; have := hub q hq'; omega)
                    (fun i u' hu' q hq hq' => by have := (HV.out.blks i u' hu' q hq).2; have := hub q hq'; omega)
                    hO' hg3 hor (fun q hq => by omega) (fun q hq => by have := hub q hq; have := Hgs.out; omega)
                have HV3 := Lib.hid hV3
                have HS3 := Lib.hid (World.ownsRow.kept HS.out hg3 (.inr (fun e => by have := HV.out.blk _ e.symm; exact this.1 rfl)))
                have HB3 := Lib.hid (Below.chg HB.out (Chg.of_grown (P := fun j => w.heap.size ≤ j) hg3 (fun q hq => (HV.out.outer.lt q hq).1)) (Nat.le_refl _) (fun q hq => by omega))
                clear hO' hg3 hor hV3 hub
                go_wp2
                go_roundw
                case rel => exact ⟨k + 1, _, by omega, by go_num, by rw [hn1.out]; exact HV3.out, by rw [hn1.out]; exact HS3.out, HB3.out⟩
                case measure => simp only [intOf]; omega
            | false =>
              obtain ⟨A7, c7, rfl, hc7⟩ := HO.out.shapeI
              obtain ⟨f', rfl⟩ : ∃ f', f = f' + 1 := ⟨f - 1, by have := unseen_pos Hb.out; have := hun.out; omega⟩
              have hcy := cyc_step (xs := xs) (f := f') (i := (j : Int)) (S := S) (getD_some Hb.out)
              obtain ⟨bb, off, x, rfl, hbB, hx, hcx⟩ := (HR.out.below HB.out hB).atI (k := j) hj
              obtain ⟨hx0, hx1'⟩ := Hin.out j x hx.out
              obtain ⟨j2, rfl⟩ : ∃ j2 : Nat, x = (j2 : Int) := ⟨x.toNat, by omega⟩
              rw [Int.toNat_natCast, getDI_some hx.out] at hcy
              have hC2 : Hid ((C ++ [(j : Int)]) ++ (cyc xs f' (S.set j true) j2).1 = Cf) := by have := hC.out; rw [hcy] at this; show _ = _; rw [← this, List.append_assoc]; rfl
              have hS2 : Hid ((cyc xs f' (S.set j true) j2).2 = Sf) := by have := hSfe.out; rw [hcy] at this; exact this
              have hun2 : Hid (unseen (S.set j true) ≤ f') := by show _ ≤ _; have := unseen_set Hb.out; have := hun.out; omega
              have hSl2 : Hid ((S.set j true).length = xs.length) := by show _ = _; rw [List.length_set]; exact hSl.out
              have hst := World.ownsRow.stored HS.out j (.bool true)
              rw [bools_set] at hst
              have HS3 := Lib.hid hst.1
              have HO3 := Lib.hid (HO.out.kept hst.2 (.inr (fun e => by have := (HO.out.lt _ e).1; have := Hgs.out; omega)))
              have HV3 := Lib.hid (HV.out.chg (Chg.of_grown (P := fun q => q = gs) hst.2 (fun q hq => by injection hq with hq; exact hq.symm)) (fun q _ h1 h2 => h1.1 h2))
              have HB3 := Lib.hid (HB.out.setCell (p := ⟨gs, j, none⟩) (by show w.heap.size ≤ gs; omega) (.bool true))
              have hs3 : s0 ≤ (wr.setCell ⟨gs, j, none⟩ (.bool true)).heap.size := Nat.le_trans (hs0w) hst.2.size
              have hl63 : C.length ≤ 2000000 := by omega
              have hsz : (wr.setCell ⟨gs, j, none⟩ (.bool true)).heap.size = wr.heap.size := by simp [World.setCell]
              have Hsz := Lib.hid hsz
              clear hsz
              have Hx := Lib.hid hx.out
              clear hst hcy hx hcx HS HO HV HB
              go_wp2_with (at_builtin; go_must (refine emitI _ rfl _ _ rfl s0 (.slice A7 C.length c7) C rfl HO3.out (j : Int) (by rw [Hsz.out]; rfl) hl63 hs3 ?_))
              intro v' w4 hO' hg4 hor
              have hub : ∀ q, (Value.slice A7 C.length c7).ownBlock = some q → s0 ≤ q := fun q hq => (HO3.out.lt q hq).1
              have HO4 := Lib.hid hO'
              have HS4 := Lib.hid (World.ownsRow.kept HS3.out hg4 (.inr (fun e => by have h1 : s0 ≤ gs := hub _ e.symm; have := Hgs.out; omega)))
              have HV4 := Lib.hid (HV3.out.chg (Chg.of_grown (P := fun q => s0 ≤ q) hg4 hub) (fun q _ h1 h2 => by have := h1.2; omega))
              have HB4 := Lib.hid (Below.chg HB3.out (Chg.of_grown (P := fun q => s0 ≤ q) hg4 hub) (Nat.le_refl _) (fun q hq => by have := Hwb.out; omega))
              have hcx2 := (HR.out.below HB4.out hB)
              obtain ⟨A9, c9, rfl, hc9⟩ := HO4.out.shapeI
              have hgz := hg4.size
              clear hO' hg4 hor hub
              obtain ⟨bb2, off2, x2, hbe, hbB2, hxx2, hcx⟩ := hcx2.atI (k := j) hj
              obtain ⟨rfl, rfl⟩ : bb = bb2 ∧ off = off2 := by simpa using hbe
              obtain rfl : x2 = (j2 : Int) := by have h1 := hxx2.out; rw [Hx.out] at h1; injection h1 with h1; exact h1.symm
              have hs4 : s0 ≤ w4.heap.size := Nat.le_trans hs3 hgz
              have hlen2 : (C ++ [(j : Int)]).length = C.length + 1 := by simp
              rw [hlen2] at hc9 HO4 ⊢
              clear hbe hxx2 hs3
              go_wp2
              go_roundw
              case rel => exact ⟨C ++ [(j : Int)], S.set j true, f', j2, by go_num, by omega, hs4, HO4.out, by rw [List.length_append, List.length_singleton]; omega, hSl2, hun2, hC2, hS2, HV4.out, HS4.out, HB4.out⟩
              case measure => simp only [lenOf]; omega
        · obtain rfl : k = xs.length := by omega
          have HV2 := Lib.hid (HV.out.weak (Q := fun _ => True) (fun _ _ _ _ => trivial))
          clear HV
          go_wp2
          go_ret2
          exact ⟨_, _, rfl, by rw [hr.out]; rfl, by rw [hr.out]; exact ⟨vs, HV2.out⟩, HB'.out⟩
end Go.Proofs.Ytgkbkbmhdhlffaa
