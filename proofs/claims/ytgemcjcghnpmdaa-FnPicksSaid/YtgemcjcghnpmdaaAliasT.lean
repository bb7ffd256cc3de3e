/- AliasOf: the frame, and the reference's function. -/
import Derived.Test.YtgemcjcghnpmdaaAliasS
namespace Go.Proofs.Ytgemcjcghnpmdaa
open Go.RowKit
set_option maxRecDepth 100000
def GaveAB (w : World) (r : Option (List Nat × List Int)) (e : Ending) (w' : World) : Prop :=
  ∃ (v v' : Value) (ok : Bool), e = .returned (.tuple #[.agg #[v, v'], .bool ok]) ∧ Hid (ok = r.isSome) ∧ Own w' w.heap.size 40 v (f32s ((r.map Prod.fst).getD [])) ∧ Own w' w.heap.size 2 v' (i64s ((r.map Prod.snd).getD [])) ∧ Apart v v' ∧ Below w.heap.size w w'
def FnFl_AB (f : Nat) (r : List Nat → Option (List Nat × List Int)) : Prop :=
  ∀ (A : Option Addr) (n c B : Nat) (xs : List Nat) (w : World), Rd w B A n (f32s xs) → B ≤ w.heap.size → xs.length ≤ 1048576 → n ≤ c ∧ c ≤ maxLen → Calls Try.prog f #[.slice A n c] w (GaveAB w (r xs))
theorem results_al2 {fn : Func} {t u : Tmp} {w : World} {g : Nat} {A A' : Option Addr} {n c n' c' : Nat} (h : fn.results = #[.cell t 33, .tmp u]) (tmps : Array Value) (hp : tmps.getD t undef = .pointer (some ⟨g, 0, none⟩)) (hs : AlAt w g 33 (.slice A n c) (.slice A' n' c')) :
    (results fn tmps).run Try.prog w = .ok (.tuple #[.agg #[.slice A n c, .slice A' n' c'], tmps.getD u undef]) w := by
  have hp' := hp
  simp only [Array.getD_eq_getD_getElem?] at hp'
  simp [results, h, hp', asAddr, run_loadAl hs]
theorem gaveAB_none {w w' : World} {r : Option (List Nat × List Int)} (h : r = none) (hb : Below w.heap.size w w') : GaveAB w r (.returned (.tuple #[.agg #[.slice none 0 0, .slice none 0 0], .bool false])) w' := by
  subst h; exact ⟨_, _, false, rfl, rfl, own_none _ _ _, own_none _ _ _, fun k hk => (by cases hk), hb⟩
set_option maxHeartbeats 2000000 in
theorem specAliasOf : FnFl_AB 48 aliasR := by
  intro A n c B xs w h hB hn hcap
  have hl := h.lenF
  obtain rfl : xs.length = n := hl.out
  have hz1 : (w.alloc (.cells #[.slice none 0 0, .slice none 0 0] 33)).heap.size = w.heap.size + 1 := size_alloc'' _ _
  have hb1 : Below w.heap.size w (w.alloc (.cells #[.slice none 0 0, .slice none 0 0] 33)) := (Below.refl _ _).alloc (Nat.le_refl _) _
  have ha2 : AlAt (w.alloc (.cells #[.slice none 0 0, .slice none 0 0] 33)) w.heap.size 33 (.slice none 0 0) (.slice none 0 0) := AlAt.new w _ _ _
  have HR0 := Lib.hid h
  clear hl h hcap
  go_enter Try.func48, Try.ntmps48
  go_wp2_with fail
  generalize w.alloc (.cells #[.slice none 0 0, .slice none 0 0] 33) = w1 at hz1 hb1 ha2 ⊢
  have HR1 := Lib.hid (HR0.out.below hb1 hB); have HB1 := Lib.hid hb1; have HA1 := Lib.hid ha2; have Hz1 := Lib.hid hz1
  clear hb1 ha2 hz1
  refine (l03Weights_any A xs.length c B xs _ HR1.out (by omega)).mono ?_
  rintro e w2 ⟨rfl, hb⟩
  have HA2 := Lib.hid (HA1.out.below hb HA1.out.lt)
  have hle1 : w.heap.size ≤ w1.heap.size := HB1.out.size
  have hle2 : w1.heap.size ≤ w2.heap.size := hb.size
  have HB2 := Lib.hid (HB1.out.trans (hb.mono hle1))
  have HR2 := Lib.hid (HR1.out.below hb (by omega))
  clear hb HA1 HR1 HB1
  have c0 := HA2.out.c0
  have c1 := HA2.out.c1
  have f0 := HA2.out.fz 0
  have f1 := HA2.out.fz 1
  cases hv : picksB xs with
  | false =>
    have hr : Hid (aliasR xs = none) := by show _ = _; simp [aliasR, hv]
    have HZ := Lib.hid ((HA2.out.set0 (.slice none 0 0)).set1 (.slice none 0 0))
    clear hv
    go_wp2
    refine bodyPost_ret (results_al2 rfl _ rfl HZ.out) rfl ?_
    exact gaveAB_none hr.out ((HB2.out.setCell (p := ⟨w.heap.size, 0, none⟩) (Nat.le_refl _) _).setCell (p := ⟨w.heap.size, 1, none⟩) (Nat.le_refl _) _)
  | true =>
    have hr : Hid (aliasR xs = some (lastSh (doneS xs) xs.length, (doneS xs).ot)) := by show _ = _; simp [aliasR, hv]
    have Hval := Lib.hid (aliasR_valid hv)
    have hd := (startS_ok hv).run xs.length
    have Ls : Hid ((lastSh (doneS xs) xs.length).length = xs.length) := (lastSh_len _ _).trans hd.sh
    have Lo : Hid ((doneS xs).ot.length = xs.length) := hd.ot
    clear hd c0 c1 f0 f1
    go_wp2_with fail
    refine (l03Alias_any A xs.length c B xs _ HR2.out (by omega) hv).mono ?_
    rintro e w3 ⟨v, v', rfl, ho, ho', hap, hb⟩
    obtain ⟨A1, c1, rfl, hc1⟩ := ho.shapeF
    obtain ⟨A1', c1', rfl, hc1'⟩ := ho'.shapeI
    have ha4 := AlAt.new w3 33 (.slice A1 (lastSh (doneS xs) xs.length).length c1) (.slice A1' (doneS xs).ot.length c1')
    have HA4 := Lib.hid ha4
    have HO4 := Lib.hid ((ho.below ((Below.refl _ _).alloc (Nat.le_refl _) (.cells #[.slice A1 (lastSh (doneS xs) xs.length).length c1, .slice A1' (doneS xs).ot.length c1'] 33)) (Nat.le_refl _)).base_le (Nat.le_trans hle1 hle2))
    have HO4' := Lib.hid ((ho'.below ((Below.refl _ _).alloc (Nat.le_refl _) (.cells #[.slice A1 (lastSh (doneS xs) xs.length).length c1, .slice A1' (doneS xs).ot.length c1'] 33)) (Nat.le_refl _)).base_le (Nat.le_trans hle1 hle2))
    have hg2 : ∀ {x : Value} {e : TypeId} {ys : List Value}, Own w3 w2.heap.size e x ys → x.ownBlock ≠ some w.heap.size := fun h e => by have := (h.lt _ e).1; have := HA2.out.lt; omega
    have N1 := Lib.hid (hg2 ho); have N2 := Lib.hid (hg2 ho')
    have HA24 := Lib.hid ((HA2.out.below hb HA2.out.lt).alloc (.cells #[.slice A1 (lastSh (doneS xs) xs.length).length c1, .slice A1' (doneS xs).ot.length c1'] 33))
    have HB3 := HB2.out.trans (hb.mono (Nat.le_trans hle1 hle2))
    have HB4 := Lib.hid (HB3.alloc HB3.size (.cells #[.slice A1 (lastSh (doneS xs) xs.length).length c1, .slice A1' (doneS xs).ot.length c1'] 33))
    have Hap := Lib.hid hap
    clear ha4 ho ho' hap hb HB3 hg2 HA2 HR2 HB2 hv
    go_wp2_with fail
    generalize w3.alloc (.cells #[.slice A1 (lastSh (doneS xs) xs.length).length c1, .slice A1' (doneS xs).ot.length c1'] 33) = w4 at HA4 HO4 HO4' HA24 HB4 ⊢
    refine (specIsAlias_any w3.heap.size A1 _ c1 A1' _ c1' _ (lastSh (doneS xs) xs.length) (doneS xs).ot _ HO4.out.rdF HO4'.out.rdI HA4.out (by rw [Ls.out]; exact hn) (by rw [Lo.out]; exact hn)).mono ?_
    rintro e w5 ⟨rfl, rfl⟩
    rw [Hval.out]
    have d0 := HA4.out.c0
    have d1 := HA4.out.c1
    have c0 := HA24.out.c0
    have c2 := HA24.out.c1
    have f0 := HA24.out.fz 0
    have f1 := HA24.out.fz 1
    have HZ := Lib.hid ((HA24.out.set0 (.slice A1 (lastSh (doneS xs) xs.length).length c1)).set1 (.slice A1' (doneS xs).ot.length c1'))
    go_wp2
    refine bodyPost_ret (results_al2 rfl _ rfl HZ.out) rfl ?_
    exact ⟨_, _, true, rfl, by rw [hr.out]; rfl, by rw [hr.out]; exact own_set (own_set HO4.out N1.out) N1.out, by rw [hr.out]; exact own_set (own_set HO4'.out N2.out) N2.out, Hap.out, (HB4.out.setCell (p := ⟨w.heap.size, 0, none⟩) (Nat.le_refl _) _).setCell (p := ⟨w.heap.size, 1, none⟩) (Nat.le_refl _) _⟩
end Go.Proofs.Ytgemcjcghnpmdaa
