/- CyclesOf: the cycles of an order; plain law and walks of both functions. -/
import Derived.Test.YtgkbkbmhdhlffaaNestL
import Derived.Test.YtgkbkbmhdhlffaaOrder
namespace Go.Proofs.Ytgkbkbmhdhlffaa
open Go.RowKit
set_option maxRecDepth 100000
/-- From one number on, as long as none has been seen. -/
def cyc (xs : List Int) : Nat → List Bool → Int → List Int × List Bool
  | 0, S, _ => ([], S)
  | f + 1, S, i => if S.getD i.toNat true then ([], S) else (i :: (cyc xs f (S.set i.toNat true) (xs.getD i.toNat 0)).1, (cyc xs f (S.set i.toNat true) (xs.getD i.toNat 0)).2)
/-- The cycles that begin at the first k numbers. -/
def cycState (xs : List Int) : Nat → List (List Int) × List Bool
  | 0 => ([], List.replicate xs.length false)
  | k + 1 => (if (cyc xs xs.length (cycState xs k).2 k).1 = [] then (cycState xs k).1 else (cycState xs k).1 ++ [(cyc xs xs.length (cycState xs k).2 k).1], (cyc xs xs.length (cycState xs k).2 k).2)
def cyclesR (xs : List Int) : Option (List (List Int)) := if orderB xs then some (cycState xs xs.length).1 else none
theorem cyc_len (xs : List Int) : ∀ f S i, (cyc xs f S i).2.length = S.length ∧ (cyc xs f S i).1.length ≤ f
  | 0, S, i => ⟨rfl, by simp [cyc]⟩
  | f + 1, S, i => by
    unfold cyc
    split
    · exact ⟨rfl, by simp⟩
    · have := cyc_len xs f (S.set i.toNat true) (xs.getD i.toNat 0)
      simp only [List.length_set, List.length_cons] at this ⊢
      omega
theorem cyc_seen {xs : List Int} {f : Nat} {S : List Bool} {i : Int} (h : S.getD i.toNat true = true) : cyc xs f S i = ([], S) := by
  cases f with
  | zero => rfl
  | succ f => unfold cyc; rw [if_pos h]
theorem cyc_step {xs : List Int} {f : Nat} {S : List Bool} {i : Int} (h : S.getD i.toNat true = false) : cyc xs (f + 1) S i = (i :: (cyc xs f (S.set i.toNat true) (xs.getD i.toNat 0)).1, (cyc xs f (S.set i.toNat true) (xs.getD i.toNat 0)).2) := by
  conv => lhs; unfold cyc
  rw [if_neg (by rw [h]; simp)]
theorem cycState_len (xs : List Int) : ∀ k, (cycState xs k).2.length = xs.length ∧ (cycState xs k).1.length ≤ k ∧ total (cycState xs k).1 ≤ k * xs.length
  | 0 => ⟨by simp [cycState], by simp [cycState], by simp [cycState, total]⟩
  | k + 1 => by
    have ih := cycState_len xs k
    have h1 := cyc_len xs xs.length (cycState xs k).2 k
    have ha : ∀ (Ls : List (List Int)) L, total (Ls ++ [L]) = total Ls + L.length := by
      intro Ls L
      induction Ls with
      | nil => simp [total]
      | cons L' Ls ih => simp only [List.cons_append, total, ih]; omega
    have hm : (k + 1) * xs.length = k * xs.length + xs.length := Nat.succ_mul _ _
    unfold cycState
    refine ⟨h1.1.trans ih.1, ?_, ?_⟩
    · show List.length (if _ then _ else _) ≤ _
      split
      · omega
      · rw [List.length_append, List.length_singleton]; omega
    · show total (if _ then _ else _) ≤ _
      split
      · omega
      · rw [ha]; omega
/-- How many have not been seen. -/
def unseen (S : List Bool) : Nat := S.countP (fun b => !b)
theorem unseen_le (S : List Bool) : unseen S ≤ S.length := List.countP_le_length
theorem unseen_set {S : List Bool} {i : Nat} (h : S[i]? = some false) : unseen (S.set i true) + 1 = unseen S := by
  induction S generalizing i with
  | nil => simp at h
  | cons b S ih =>
    cases i with
    | zero =>
      simp only [List.getElem?_cons_zero, Option.some.injEq] at h
      subst h
      simp [unseen]
    | succ i =>
      rw [List.getElem?_cons_succ] at h
      have := ih h
      unfold unseen at this ⊢
      rw [List.set_cons_succ, List.countP_cons, List.countP_cons]
      omega
theorem unseen_pos {S : List Bool} {i : Nat} (h : S[i]? = some false) : 1 ≤ unseen S := by have := unseen_set h; omega
theorem order_in {xs : List Int} (h : orderB xs = true) {k : Nat} {x : Int} (hx : xs[k]? = some x) : 0 ≤ x ∧ x < (xs.length : Int) := by
  by_cases hb : x < 0 ∨ (xs.length : Int) ≤ x
  · rw [orderB_out (List.mem_of_getElem? hx) hb] at h; cases h
  · omega
/-- What is handed back: a list of lists of the call's own. -/
def GaveLLB (w : World) (r : Option (List (List Int))) (e : Ending) (w' : World) : Prop :=
  ∃ (v : Value) (ok : Bool), e = .returned (.tuple #[v, .bool ok]) ∧ Hid (ok = r.isSome) ∧ OwnLL w' (fun _ => True) w.heap.size v (r.getD []) ∧ Below w.heap.size w w'
def FnL_LLB (f : Nat) (r : List Int → Option (List (List Int))) : Prop :=
  ∀ (A : Option Addr) (n c B : Nat) (xs : List Int) (w : World), Rd w B A n (i64s xs) → B ≤ w.heap.size → xs.length ≤ 1048576 → Fit xs → n ≤ c ∧ c ≤ maxLen → Calls Try.prog f #[.slice A n c] w (GaveLLB w (r xs))
theorem bools_get {S : List Bool} {j : Nat} {b : Bool} (h : S[j]? = some b) : (bools S)[j]? = some (.bool b) := by simp [bools, h]
theorem bools_set (S : List Bool) (j : Nat) (b : Bool) : (bools S).set j (.bool b) = bools (S.set j b) := by simp [bools, List.map_set]
theorem getD_some {S : List Bool} {j : Nat} {b : Bool} (h : S[j]? = some b) : S.getD j true = b := by rw [List.getD_eq_getElem?_getD, h]; rfl
theorem getDI_some {S : List Int} {j : Nat} {b : Int} (h : S[j]? = some b) : S.getD j 0 = b := by rw [List.getD_eq_getElem?_getD, h]; rfl
def lenOf : Value → Nat
  | .slice _ n _ => n
  | _ => 0
set_option maxHeartbeats 4000000 in
theorem specCycles : FnL_LLB 14 cyclesR := by
  intro A n c B xs w h hB hn hf hcap
  have hl := h.lenI
  obtain rfl : xs.length = n := hl.out
  have Hc := Lib.hid (specOrder_any A xs.length c B xs w h hB hn)
  have HR := Lib.hid h
  clear h hl hf hcap
  cases hv : orderB xs with
  | false =>
    have hr : Hid (cyclesR xs = none) := by show _ = _; simp [cyclesR, hv]
    rw [hv] at Hc
    clear hv
    go_enter Try.func14, Try.ntmps14
    go_wp2_with fail
    refine Hc.out.mono ?_
    rintro e w1 ⟨rfl, hb1⟩
    have HB1 := Lib.hid hb1
    clear hb1
    go_wp2
    go_ret2
    exact ⟨_, _, rfl, by rw [hr.out]; rfl, by rw [hr.out]; exact OwnLL.none_ _ _ _, HB1.out⟩
  | true =>
    have hr : Hid (cyclesR xs = some (cycState xs xs.length).1) := by show _ = _; simp [cyclesR, hv]
    rw [hv] at Hc
    have Hin := Lib.hid (fun (k : Nat) (x : Int) (hx : xs[k]? = some x) => order_in hv hx)
    obtain ⟨hx1, hx2⟩ : 1 ≤ xs.length ∧ xs.length ≤ 64 := by
      unfold orderB at hv
      rw [Bool.and_eq_true] at hv
      have := inB_true hv.1
      omega
    clear hv
    obtain ⟨i0, hi0, hz0, hz1, hz2⟩ := info_parts info_bool
    go_enter Try.func14, Try.ntmps14
    go_wp2_with fail
    refine Hc.out.mono ?_
    rintro e w1 ⟨rfl, hb1⟩
    have HB1 := Lib.hid hb1
    have hle1 := hb1.size
    clear hb1
    go_wp2_with (at_make; refine wpList_make_full _ rfl _ _ 41 rfl w1.heap.size 4 i0 (.bool false) 1 Try.underlying41 hi0 hz0 hz1 _ _ _ _ xs.length rfl rfl rfl rfl ?c1 ?c2 ?c3 ?_)
    case c1 => rw [hz2]; omega
    case c2 => unfold maxLen; omega
    case c3 => exact Nat.le_refl _
    intro w2 hown hgrow
    clear hi0 hz0 hz1 hz2
    have ho2 : w2.ownsRow w1.heap.size 4 1 (.slice (some ⟨w1.heap.size, 0, none⟩) xs.length xs.length) xs.length (bools (List.replicate xs.length false)) := by
      rw [madeCells_one] at hown
      simpa [bools] using hown
    have HS := Lib.hid ho2
    have HB2 := Lib.hid (HB1.out.grown hgrow hle1 (by simp))
    have hle2 : w1.heap.size < w2.heap.size := by have := World.ownsRow.lt ho2 w1.heap.size rfl; exact this.2
    clear hown hgrow ho2
    go_wp2
    go_loopw [5, 6] (fun v i wr => ∃ (k : Nat) (vs : List Value), k ≤ xs.length ∧ i = .int .i64 k ∧ OwnVs wr (fun j => j ≠ w1.heap.size) w1.heap.size v vs (cycState xs k).1 ∧ wr.ownsRow w1.heap.size 4 1 (.slice (some ⟨w1.heap.size, 0, none⟩) xs.length xs.length) xs.length (bools (cycState xs k).2) ∧ Below w.heap.size w wr) (fun _ i _ => xs.length - (intOf i).toNat)
    case atStart => exact ⟨0, [], Nat.zero_le _, rfl, OwnVs.new_ w2 (by omega) (by omega), HS.out.alloc _, HB2.out.alloc HB2.out.size _⟩
    case round =>
      obtain ⟨k, vs, hk, rfl, hV, hS, hbel⟩ := hrel
      have HV := Lib.hid hV; have HS' := Lib.hid hS; have HB' := Lib.hid hbel
      clear hV hS hbel
      by_cases hlt : k < xs.length
      · have hlt' : (k : Int) < (xs.length : Int) := by omega
        have hgs : w1.heap.size < wr.heap.size := (World.ownsRow.lt HS'.out w1.heap.size rfl).2
        have hwb : w.heap.size ≤ wr.heap.size := HB'.out.size
        obtain ⟨s0, hs0⟩ : ∃ s0, s0 = wr.heap.size := ⟨_, rfl⟩
        obtain ⟨Ls, hLs⟩ : ∃ Ls, Ls = (cycState xs k).1 := ⟨_, rfl⟩
        obtain ⟨S0, hS0⟩ : ∃ S0, S0 = (cycState xs k).2 := ⟨_, rfl⟩
        have hsl := (cycState_len xs k).1
        have hll := (cycState_len xs k).2.1
        obtain ⟨Cf, hCf⟩ : ∃ Cf, Cf = (cyc xs xs.length S0 k).1 := ⟨_, rfl⟩
        obtain ⟨Sf, hSf⟩ : ∃ Sf, Sf = (cyc xs xs.length S0 k).2 := ⟨_, rfl⟩
        have hnx : Hid (cycState xs (k + 1) = (if Cf = [] then Ls else Ls ++ [Cf], Sf)) := by
          show _ = _
          conv => lhs; unfold cycState
          rw [← hS0, ← hLs, ← hCf, ← hSf]
        rw [← hS0] at hsl
        rw [← hLs] at hll
        have hcl := (cyc_len xs xs.length S0 k).2
        rw [← hCf] at hcl
        have hun := unseen_le S0
        have HV0 : Hid (OwnVs wr (fun j => j ≠ w1.heap.size ∧ j < s0) w1.heap.size u5 vs Ls) := by
          rw [hLs, hs0]
          exact HV.out.weak (fun j _ h2 h3 => ⟨h3, h2⟩)
        have HSS : Hid (wr.ownsRow w1.heap.size 4 1 (.slice (some ⟨w1.heap.size, 0, none⟩) xs.length xs.length) xs.length (bools S0)) := by rw [hS0]; exact HS'.out
        have Hs0 := Lib.hid hs0; have Hsl := Lib.hid hsl; have Hun := Lib.hid hun; have HCf := Lib.hid hCf; have HSf := Lib.hid hSf
        have Hgs : Hid (w1.heap.size < s0) := by show _ < _; rw [hs0]; exact hgs
        have Hwb : Hid (w.heap.size ≤ s0) := by show _ ≤ _; rw [hs0]; exact hwb
        have HOn := Lib.hid (own_newI wr (base := s0) (by omega))
        have HVn := Lib.hid (HV0.out.chg (Chg.of_grown (P := fun _ => False) (World.grownBy_alloc wr (.cells #[] 2) none) (fun _ e => by cases e)) (fun _ _ _ h => h))
        have HSn := Lib.hid (World.ownsRow.alloc HSS.out (.cells #[] 2))
        have HBn := Lib.hid (HB'.out.alloc HB'.out.size (.cells #[] 2))
        clear hs0 hLs hS0 hsl hCf hSf hun HV HS' HB' HV0 HSS hgs hwb
        go_wp2
        go_loopw [7, 8] (fun u a wr => ∃ (C : List Int) (S : List Bool) (f j : Nat), a = .int .i64 j ∧ j < xs.length ∧ s0 ≤ wr.heap.size ∧ Own wr s0 2 u (i64s C) ∧ f + C.length = xs.length ∧ Hid (S.length = xs.length) ∧ Hid (unseen S ≤ f) ∧ Hid (C ++ (cyc xs f S j).1 = Cf) ∧ Hid ((cyc xs f S j).2 = Sf) ∧ OwnVs wr (fun j => j ≠ w1.heap.size ∧ j < s0) w1.heap.size u5 vs Ls ∧ wr.ownsRow w1.heap.size 4 1 (.slice (some ⟨w1.heap.size, 0, none⟩) xs.length xs.length) xs.length (bools S) ∧ Below w.heap.size w wr) (fun u _ _ => xs.length + 1 - lenOf u)
        case atStart => exact ⟨[], S0, xs.length, k, rfl, hlt, by have := Hs0.out; show s0 ≤ (wr.heap.push _).size; simp; omega, HOn.out, by simp, Hsl.out, by show _ ≤ _; have := Hun.out; have := Hsl.out; omega, by show _ = _; rw [HCf.out]; rfl, by show _ = _; rw [HSf.out], HVn.out, HSn.out, HBn.out⟩
        case round =>
          obtain ⟨C, S, f, j, rfl, hj, hs0w, hO, hf, hSl, hun, hC, hSfe, hV, hS, hbel⟩ := hrel
          have HO := Lib.hid hO; have HV := Lib.hid hV; have HS := Lib.hid hS; have HB := Lib.hid hbel
          clear hO hV hS hbel
          have hj' : (j : Int) < (xs.length : Int) := by omega
          obtain ⟨b, hb⟩ : ∃ b, S[j]? = some b := ⟨_, List.getElem?_eq_getElem (by rw [hSl.out]; exact hj)⟩
          have hcb := (HS.out.cellAt j (by omega)).trans (bools_get hb)
          have hfb := HS.out.frozenAt j
          have Hb := Lib.hid hb
          clear hb
          cases b with
          | true =>
            have hcy : cyc xs f S j = ([], S) := cyc_seen (getD_some Hb.out)
            have hC2 : Hid (C = Cf) := by have := hC.out; rw [hcy, List.append_nil] at this; exact this
            have hS2 : Hid (S = Sf) := by have := hSfe.out; rw [hcy] at this; exact this
            obtain ⟨A7, c7, rfl, hc7⟩ := HO.out.shapeI
            have hwr : w.heap.size ≤ wr.heap.size := HB.out.size
            have hle : s0 ≤ wr.heap.size ∧ w1.heap.size < wr.heap.size := by have := Hgs.out; have := (World.ownsRow.lt HS.out w1.heap.size rfl).2; exact ⟨hs0w, this⟩
            by_cases hC0 : C = []
            · have hn1 : Hid (cycState xs (k + 1) = (Ls, S)) := by show _ = _; rw [hnx.out, if_pos (by rw [← hC2.out]; exact hC0), ← hS2.out]
              have hlen : C.length = 0 := by rw [hC0]; rfl
              rw [hlen]
              have HV3 := Lib.hid (HV.out.weak (Q := fun j => j ≠ w1.heap.size) (fun _ _ _ h => h.1))
              clear hC0 hlen hcy HV
              go_wp2
              go_roundw
              case rel => exact ⟨k + 1, vs, by omega, by go_num, by rw [hn1.out]; exact HV3.out, by rw [hn1.out]; exact HS.out, HB.out⟩
              case measure => simp only [intOf]; omega
            · have hn1 : Hid (cycState xs (k + 1) = (Ls ++ [C], S)) := by show _ = _; rw [hnx.out, if_neg (by rw [← hC2.out]; exact hC0), ← hS2.out, ← hC2.out]
              have hlen : (0 : Int) < (C.length : Int) := by have : C.length ≠ 0 := fun e => hC0 (List.length_eq_zero_iff.1 e); omega
              have hvl : vs.length ≤ 2000000 := by have := HV.out.len; omega
              have hb1 : w1.heap.size ≤ wr.heap.size := by omega
              clear hC0 hcy
              go_wp2_with (at_builtin; go_must (refine emitLL wr rfl _ _ rfl w1.heap.size u5 vs rfl HV.out.outer A7 C.length c7 rfl hvl hb1 ?_))
              intro v' w3 hO' hg3 hor
              have hub : ∀ q, (Value.slice A7 C.length c7).ownBlock = some q → s0 ≤ q := fun q hq => (HO.out.lt q hq).1
              have hV3 : OwnVs w3 (fun j => j ≠ w1.heap.size) w1.heap.size v' (vs ++ [.slice A7 C.length c7]) (Ls ++ [C]) :=
                (HV.out.weak (Q := fun j => j ≠ w1.heap.size) (fun _ _ _ h => h.1)).snoc (HO.out.base_le (Nat.le_of_lt Hgs.out))
                  (fun q hq hq' => by have := (HV.out.blk q hq).2; have := hub q hq'; omega)
                  (fun i u' hu' q hq hq' => by have := (HV.out.blks i u' hu' q hq).2; have := hub q hq'; omega)
                  hO' hg3 hor (fun q hq => by omega) (fun q hq => by have := hub q hq; have := Hgs.out; omega)
              have HV3 := Lib.hid hV3
              have HS3 := Lib.hid (World.ownsRow.kept HS.out hg3 (.inr (fun e => by have := HV.out.blk _ e.symm; exact this.1 rfl)))
              have HB3 := Lib.hid (Below.chg HB.out (Chg.of_grown (P := fun j => w1.heap.size ≤ j) hg3 (fun q hq => (HV.out.outer.lt q hq).1)) (Nat.le_refl _) (fun q hq => by omega))
              clear hO' hg3 hor hV3 hub
              go_wp2
              go_roundw
              case rel => exact ⟨k + 1, _, by omega, by go_num, by rw [hn1.out]; exact HV3.out, by rw [hn1.out]; exact HS3.out, HB3.out⟩
              case measure => simp only [intOf]; omega
          | false =>
            obtain ⟨A7, c7, rfl, hc7⟩ := HO.out.shapeI
            obtain ⟨f', rfl⟩ : ∃ f', f = f' + 1 := ⟨f - 1, by have := unseen_pos Hb.out; have := hun.out; omega⟩
            have hcy := cyc_step (xs := xs) (f := f') (i := (j : Int)) (S := S) (getD_some Hb.out)
            obtain ⟨bb, off, x, rfl, hbB, hx, hcx⟩ := (HR.out.below HB.out hB).atI (k := j) hj
            obtain ⟨hx0, hx1'⟩ := Hin.out j x hx.out
            obtain ⟨j2, rfl⟩ : ∃ j2 : Nat, x = (j2 : Int) := ⟨x.toNat, by omega⟩
            rw [Int.toNat_natCast, getDI_some hx.out] at hcy
            have hC2 : Hid ((C ++ [(j : Int)]) ++ (cyc xs f' (S.set j true) j2).1 = Cf) := by have := hC.out; rw [hcy] at this; show _ = _; rw [← this, List.append_assoc]; rfl
            have hS2 : Hid ((cyc xs f' (S.set j true) j2).2 = Sf) := by have := hSfe.out; rw [hcy] at this; exact this
            have hun2 : Hid (unseen (S.set j true) ≤ f') := by show _ ≤ _; have := unseen_set Hb.out; have := hun.out; omega
            have hSl2 : Hid ((S.set j true).length = xs.length) := by show _ = _; rw [List.length_set]; exact hSl.out
            have hst := World.ownsRow.stored HS.out j (.bool true)
            rw [bools_set] at hst
            have HS3 := Lib.hid hst.1
            have HO3 := Lib.hid (HO.out.kept hst.2 (.inr (fun e => by have := (HO.out.lt _ e).1; have := Hgs.out; omega)))
            have HV3 := Lib.hid (HV.out.chg (Chg.of_grown (P := fun q => q = w1.heap.size) hst.2 (fun q hq => by injection hq with hq; exact hq.symm)) (fun q _ h1 h2 => h1.1 h2))
            have HB3 := Lib.hid (HB.out.setCell (p := ⟨w1.heap.size, j, none⟩) (by show w.heap.size ≤ w1.heap.size; omega) (.bool true))
            have hs3 : s0 ≤ (wr.setCell ⟨w1.heap.size, j, none⟩ (.bool true)).heap.size := Nat.le_trans (hs0w) hst.2.size
            have hl63 : C.length ≤ 2000000 := by omega
            have hsz : (wr.setCell ⟨w1.heap.size, j, none⟩ (.bool true)).heap.size = wr.heap.size := by simp [World.setCell]
            have Hsz := Lib.hid hsz
            clear hsz
            have Hx := Lib.hid hx.out
            clear hst hcy hx hcx HS HO HV HB
            go_wp2_with (at_builtin; go_must (refine emitI _ rfl _ _ rfl s0 (.slice A7 C.length c7) C rfl HO3.out (j : Int) (by rw [Hsz.out]; rfl) hl63 hs3 ?_))
            intro v' w4 hO' hg4 hor
            have hub : ∀ q, (Value.slice A7 C.length c7).ownBlock = some q → s0 ≤ q := fun q hq => (HO3.out.lt q hq).1
            have HO4 := Lib.hid hO'
            have HS4 := Lib.hid (World.ownsRow.kept HS3.out hg4 (.inr (fun e => by have h1 : s0 ≤ w1.heap.size := hub _ e.symm; have := Hgs.out; omega)))
            have HV4 := Lib.hid (HV3.out.chg (Chg.of_grown (P := fun q => s0 ≤ q) hg4 hub) (fun q _ h1 h2 => by have := h1.2; omega))
            have HB4 := Lib.hid (Below.chg HB3.out (Chg.of_grown (P := fun q => s0 ≤ q) hg4 hub) (Nat.le_refl _) (fun q hq => by have := Hwb.out; omega))
            have hcx2 := (HR.out.below HB4.out hB)
            obtain ⟨A9, c9, rfl, hc9⟩ := HO4.out.shapeI
            have hgz := hg4.size
            clear hO' hg4 hor hub
            obtain ⟨bb2, off2, x2, hbe, hbB2, hxx2, hcx⟩ := hcx2.atI (k := j) hj
            obtain ⟨rfl, rfl⟩ : bb = bb2 ∧ off = off2 := by simpa using hbe
            obtain rfl : x2 = (j2 : Int) := by have h1 := hxx2.out; rw [Hx.out] at h1; injection h1 with h1; exact h1.symm
            have hs4 : s0 ≤ w4.heap.size := Nat.le_trans hs3 hgz
            have hlen2 : (C ++ [(j : Int)]).length = C.length + 1 := by simp
            rw [hlen2] at hc9 HO4 ⊢
            clear hbe hxx2 hs3
            go_wp2
            go_roundw
            case rel => exact ⟨C ++ [(j : Int)], S.set j true, f', j2, by go_num, by omega, hs4, HO4.out, by rw [List.length_append, List.length_singleton]; omega, hSl2, hun2, hC2, hS2, HV4.out, HS4.out, HB4.out⟩
            case measure => simp only [lenOf]; omega
      · obtain rfl : k = xs.length := by omega
        have HV2 := Lib.hid (HV.out.weak (Q := fun _ => True) (fun _ _ _ _ => trivial))
        clear HV
        go_wp2
        go_ret2
        exact ⟨_, _, rfl, by rw [hr.out]; rfl, by rw [hr.out]; exact OwnLL.base_le ⟨vs, HV2.out⟩ hle1, HB'.out⟩
end Go.Proofs.Ytgkbkbmhdhlffaa
