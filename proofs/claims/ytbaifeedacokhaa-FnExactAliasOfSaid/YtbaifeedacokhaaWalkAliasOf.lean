/- The walk of the statement FnExactAliasOf, whole. -/
import Derived.Test.YtbaifeedacokhaaAliasI
import Derived.Test.YtbaifeedacokhaaFloatM
namespace Go.Proofs.Ytbaifeedacokhaa
open Go.RowKit
set_option maxRecDepth 100000
/-- Two slices of the call's own, apart; their blocks are such that P. -/
structure PA (w : World) (P : Nat → Prop) (b : Nat) (v v' : Value) (xs : List Nat) (ys : List Int) : Prop where
  os : Own w b 45 v (f32s xs)
  oo : Own w b 2 v' (i64s ys)
  ap : Apart v v'
  bs : ∀ k, v.ownBlock = some k → P k
  bo : ∀ k, v'.ownBlock = some k → P k
section
variable {w w' : World} {P Q : Nat → Prop} {b : Nat} {v v' : Value} {xs : List Nat} {ys : List Int}
theorem PA.below (h : PA w P b v v' xs ys) (hb : Below w.heap.size w w') : PA w' P b v v' xs ys := ⟨h.os.below hb (Nat.le_refl _), h.oo.below hb (Nat.le_refl _), h.ap, h.bs, h.bo⟩
theorem PA.chg (h : PA w P b v v' xs ys) (hc : Chg Q w w') (hP : ∀ k, P k → ¬ Q k) : PA w' P b v v' xs ys :=
  ⟨h.os.chg hc fun k hk => hP k (h.bs k hk), h.oo.chg hc fun k hk => hP k (h.bo k hk), h.ap, h.bs, h.bo⟩
end
theorem PA.of {w0 w : World} {v v' : Value} {xs : List Nat} {ys : List Int} {b : Nat} (h1 : Own w w0.heap.size 45 v (f32s xs)) (h2 : Own w w0.heap.size 2 v' (i64s ys)) (ha : Apart v v') (hb : b ≤ w0.heap.size) : PA w (fun j => w0.heap.size ≤ j ∧ j < w.heap.size) b v v' xs ys :=
  ⟨h1.base_le hb, h2.base_le hb, ha, fun k hk => h1.lt k hk, fun k hk => h2.lt k hk⟩
theorem markAlias_any (A : Option Addr) (n c : Nat) (A' : Option Addr) (n' c' b k0 : Nat) (P : Nat → Prop) (xs : List Nat) (ys : List Int) (w : World) (h : PA w P b (.slice A n c) (.slice A' n' c') xs ys) (hn : n ≤ 100000) (hn' : n' ≤ 100000) (hk0 : k0 ≤ 100000) :
    Calls Try.prog 12 #[.agg #[.slice A n c, .slice A' n' c'], .int .i64 k0] w fun e w' => e = .returned (.int .i64 ((k0 + n + n' : Nat) : Int)) ∧ PA w' P b (.slice A n c) (.slice A' n' c') (marksF k0 n) (marks (k0 + n) n') ∧ Chg P w w' := by
  have ha0 := AlAt.new w 25 (.slice A n c) (.slice A' n' c')
  have hb0 : Below w.heap.size w (w.alloc (.cells #[.slice A n c, .slice A' n' c'] 25)) := (Below.refl _ _).alloc (Nat.le_refl _) _
  have h0 := h.below hb0
  have hl1 := fun k hk => (h.os.lt k hk).2
  have hl2 := fun k hk => (h.oo.lt k hk).2
  have hc0 : Chg P w (w.alloc (.cells #[.slice A n c, .slice A' n' c'] 25)) := (Chg.of_grown (P := fun _ => False) (World.grownBy_alloc w _ none) (fun _ e => by cases e)).weak (fun _ e => e.elim)
  go_enter Try.func12, Try.ntmps12
  go_wp2_with fail
  generalize w.alloc (.cells #[.slice A n c, .slice A' n' c'] 25) = w1 at ha0 h0 hc0 ⊢
  have HA := Lib.hid ha0; have H0 := Lib.hid h0; have HC := Lib.hid hc0
  have Hl1 := Lib.hid hl1; have Hl2 := Lib.hid hl2
  clear ha0 h0 hc0 hb0 hl1 hl2 h
  refine (markF_any A n c b k0 xs _ H0.out.os (by omega) (by omega)).mono ?_
  rintro e w2 ⟨rfl, ho, hg⟩
  have HA2 := Lib.hid (HA.out.grown hg (fun e => by have := Hl1.out _ e.symm; omega))
  have HO2 := Lib.hid ho
  have HI2 := Lib.hid (H0.out.oo.grown hg H0.out.ap.symm)
  have HC2 := Lib.hid (HC.out.trans (Chg.of_grown hg H0.out.bs))
  clear ho hg
  have c1 := HA2.out.c1
  go_wp2_with fail
  refine (markI_any A' n' c' b (k0 + n) ys _ HI2.out (by omega) (by omega)).mono ?_
  rintro e w3 ⟨rfl, ho, hg⟩
  have HO3 := Lib.hid (HO2.out.grown hg H0.out.ap)
  have HI3 := Lib.hid ho
  have HC3 := Lib.hid (HC2.out.trans (Chg.of_grown hg H0.out.bo))
  clear ho hg c1
  go_wp2
  go_ret
  exact ⟨rfl, ⟨HO3.out, HI3.out, H0.out.ap, H0.out.bs, H0.out.bo⟩, HC3.out⟩
theorem heldAlias_any (A : Option Addr) (n c : Nat) (A' : Option Addr) (n' c' b k0 : Nat) (P : Nat → Prop) (w : World) (h : PA w P b (.slice A n c) (.slice A' n' c') (marksF k0 n) (marks (k0 + n) n')) (hn : n ≤ 100000) (hn' : n' ≤ 100000) (hk0 : k0 ≤ 100000) :
    Calls Try.prog 13 #[.agg #[.slice A n c, .slice A' n' c'], .int .i64 k0] w fun e w' => e = .returned (.int .i64 ((k0 + n + n' : Nat) : Int)) ∧ Below w.heap.size w w' := by
  have ha0 := AlAt.new w 25 (.slice A n c) (.slice A' n' c')
  have hb0 : Below w.heap.size w (w.alloc (.cells #[.slice A n c, .slice A' n' c'] 25)) := (Below.refl _ _).alloc (Nat.le_refl _) _
  have h0 := h.below hb0
  go_enter Try.func13, Try.ntmps13
  go_wp2_with fail
  generalize w.alloc (.cells #[.slice A n c, .slice A' n' c'] 25) = w1 at ha0 h0 hb0 ⊢
  have HA := Lib.hid ha0; have HB := Lib.hid hb0
  have hr1 := h0.os.rdF; have hr2 := h0.oo.rdI
  rw [marksF_len] at hr1
  rw [marks_len] at hr2
  have HR1 := Lib.hid hr1; have HR2 := Lib.hid hr2
  clear ha0 h0 hb0 hr1 hr2 h
  refine (heldF_any A n c _ k0 _ HR1.out (by omega) (by omega)).mono ?_
  rintro e w2 ⟨rfl, q, rfl⟩
  have c1 := (HA.out.drewN q).c1
  have hge : ¬ ((k0 + n : Nat) : Int) < 0 := by omega
  go_wp2_with fail
  refine (heldI_any A' n' c' _ (k0 + n) _ (HR2.out.drewN q) (by omega) (by omega)).mono ?_
  rintro e w3 ⟨rfl, q2, rfl⟩
  have hge2 : ¬ ((k0 + n + n' : Nat) : Int) < 0 := by omega
  go_wp2
  go_ret
  exact ⟨rfl, below_drewN HB.out _⟩
theorem aliasR_short (xs : List Nat) : ∃ n, n ≤ 64 ∧ (((aliasR xs).map Prod.fst).getD []).length = n ∧ (((aliasR xs).map Prod.snd).getD []).length = n := by
  unfold aliasR
  by_cases h : picksB xs = true
  · rw [if_pos h]
    have hd := (startS_ok h).run xs.length
    refine ⟨xs.length, ?_, (lastSh_len _ _).trans hd.sh, hd.ot⟩
    unfold picksB at h
    rw [Bool.and_eq_true] at h
    have := inB_true h.1
    omega
  · rw [if_neg h]
    exact ⟨0, by omega, rfl, rfl⟩
set_option maxHeartbeats 8000000 in
theorem walk_AliasOf
    (w : World) (A_a : Option Addr) (n_a c_a : Nat) (xs : List Nat) (h_a : Rd w w.heap.size A_a n_a (f32s xs)) (hn_a : n_a ≤ maxLen) :
    Calls Try.prog 3 #[.slice A_a n_a c_a] w fun e w' => e = .returned (.bool true) ∧ Below w.heap.size w w' := by
  unfold maxLen at hn_a
  by_cases hbig : 1048576 < n_a
  · go_enter Try.func3, Try.ntmps3
    go_wp2
    go_ret
    exact ⟨rfl, Below.refl _ _⟩
  have hm : n_a ≤ 1048576 := by omega
  have hlen := h_a.lenF
  have hxl : xs.length ≤ 1048576 := by have := hlen.out; omega
  obtain ⟨n, hn, hL1, hL2⟩ := aliasR_short xs
  obtain ⟨rx, hrx⟩ : ∃ rx, rx = aliasR xs := ⟨_, rfl⟩
  obtain ⟨S, hS⟩ : ∃ S, S = (rx.map Prod.fst).getD [] := ⟨_, rfl⟩
  obtain ⟨O, hO⟩ : ∃ O, O = (rx.map Prod.snd).getD [] := ⟨_, rfl⟩
  rw [← hrx, ← hS] at hL1
  rw [← hrx, ← hO] at hL2
  have Hrx := Lib.hid hrx; have HS := Lib.hid hS; have HO := Lib.hid hO; have L1' := Lib.hid hL1; have L2' := Lib.hid hL2
  have HR0 := Lib.hid h_a
  clear hrx hS hO h_a hL1 hL2
  have HB0 : Hid (Below w.heap.size w w) := Below.refl _ _
  have hs0 : w.heap.size ≤ w.heap.size := Nat.le_refl _
  go_enter Try.func3, Try.ntmps3
  go_wp2_with fail
  refine (toF_any A_a n_a c_a _ xs _ HR0.out hs0 hm).mono ?_
  rintro e w1 ⟨v, rfl, ho, hb⟩
  obtain ⟨A_t1, c_t1, rfl, hcap_t1⟩ := ho.shapeF
  have HXt1_1 := Lib.hid ho
  have HR1 := Lib.hid (HR0.out.below hb hs0)
  have HB1 := Lib.hid (HB0.out.trans (hb.mono hs0))
  have hs1 : w.heap.size ≤ w1.heap.size := HB1.out.size
  have hz1 : w.heap.size ≤ w1.heap.size := hb.size
  clear HR0 HB0 
  clear ho hb
  go_wp2_with fail
  refine (specAliasOf A_t1 xs.length c_t1 _ xs _ HXt1_1.out.rdF (Nat.le_refl _) hxl hcap_t1.out).mono ?_
  rintro e w2 ⟨v, v', ok, rfl, hok_W, ho, ho', hap, hb⟩
  rw [← Hrx.out] at hok_W ho ho'
  rw [← HS.out] at ho
  rw [← HO.out] at ho'
  have ho2 := PA.of ho ho' hap hs1
  obtain ⟨A_W, c_W, rfl, -⟩ := ho.shapeF
  obtain ⟨A_W', c_W', rfl, -⟩ := ho'.shapeI
  rw [L1'.out] at ho2 ⊢
  rw [L2'.out] at ho2 ⊢
  have HW_2 := Lib.hid ho2
  have HR2 := Lib.hid (HR1.out.below hb hs1)
  have HB2 := Lib.hid (HB1.out.trans (hb.mono hs1))
  have HXt1_2 := Lib.hid (HXt1_1.out.below hb (Nat.le_refl _))
  have hs2 : w.heap.size ≤ w2.heap.size := HB2.out.size
  have hz2 : w1.heap.size ≤ w2.heap.size := hb.size
  clear HR1 HB1 HXt1_1
  clear ho ho' ho2 hap hb
  have hne_W : (ok != ok) = false := by simp
  have ha := AlAt.new w2 25 (.slice A_W n c_W) (.slice A_W' n c_W')
  have hb : Below w2.heap.size w2 (w2.alloc (.cells #[.slice A_W n c_W, .slice A_W' n c_W'] 25)) := (Below.refl _ _).alloc (Nat.le_refl _) _
  go_wp2_with fail
  generalize w2.alloc (.cells #[.slice A_W n c_W, .slice A_W' n c_W'] 25) = w3 at ha hb ⊢
  have HT3_3 := Lib.hid ha
  have HR3 := Lib.hid (HR2.out.below hb hs2)
  have HB3 := Lib.hid (HB2.out.trans (hb.mono hs2))
  have HXt1_3 := Lib.hid (HXt1_2.out.below hb (Nat.le_refl _))
  have HW_3 := Lib.hid (HW_2.out.below hb)
  have hs3 : w.heap.size ≤ w3.heap.size := HB3.out.size
  have hz3 : w2.heap.size ≤ w3.heap.size := hb.size
  clear HR2 HB2 HXt1_2 HW_2
  clear ha hb
  have hzl3 : w2.heap.size < w3.heap.size := HT3_3.out.lt
  refine (toF_any A_a n_a c_a _ xs _ HR3.out hs3 hm).mono ?_
  clear HXt1_3
  rintro e w4 ⟨v, rfl, ho, hb⟩
  obtain ⟨A_x0, c_x0, rfl, hcap_x0⟩ := ho.shapeF
  have HXx0_4 := Lib.hid ho
  have HR4 := Lib.hid (HR3.out.below hb hs3)
  have HB4 := Lib.hid (HB3.out.trans (hb.mono hs3))
  have HW_4 := Lib.hid (HW_3.out.below hb)
  have HT3_4 := Lib.hid (HT3_3.out.below hb HT3_3.out.lt)
  have hs4 : w.heap.size ≤ w4.heap.size := HB4.out.size
  have hz4 : w3.heap.size ≤ w4.heap.size := hb.size
  clear HR3 HB3 HW_3 HT3_3
  clear ho hb
  have HxB : Hid (∀ k, (Value.slice A_x0 xs.length c_x0).ownBlock = some k → w3.heap.size ≤ k ∧ k < w4.heap.size) := fun k hk => HXx0_4.out.lt k hk
  go_wp2_with fail
  refine (implAliasOf A_x0 xs.length c_x0 _ xs _ HXx0_4.out.rdF (Nat.le_refl _) hxl hcap_x0.out).mono ?_
  rintro e w5 ⟨v, v', ok_G, rfl, hok_G, ho, ho', hap, hb⟩
  rw [← Hrx.out] at hok_G ho ho'
  rw [← HS.out] at ho
  rw [← HO.out] at ho'
  obtain rfl : ok_G = ok := hok_G.out.trans hok_W.out.symm
  have ho2 := PA.of ho ho' hap hs4
  obtain ⟨A_G, c_G, rfl, -⟩ := ho.shapeF
  obtain ⟨A_G', c_G', rfl, -⟩ := ho'.shapeI
  rw [L1'.out] at ho2 ⊢
  rw [L2'.out] at ho2 ⊢
  have HG_5 := Lib.hid ho2
  have HR5 := Lib.hid (HR4.out.below hb hs4)
  have HB5 := Lib.hid (HB4.out.trans (hb.mono hs4))
  have HW_5 := Lib.hid (HW_4.out.below hb)
  have HT3_5 := Lib.hid (HT3_4.out.below hb HT3_4.out.lt)
  have HXx0_5 := Lib.hid (HXx0_4.out.below hb (Nat.le_refl _))
  have hs5 : w.heap.size ≤ w5.heap.size := HB5.out.size
  have hz5 : w4.heap.size ≤ w5.heap.size := hb.size
  clear HR4 HB4 HW_4 HT3_4 HXx0_4
  clear ho ho' ho2 hap hb
  have hne_G : (ok_G != ok_G) = false := by simp
  have ha := AlAt.new w5 25 (.slice A_G n c_G) (.slice A_G' n c_G')
  have hb : Below w5.heap.size w5 (w5.alloc (.cells #[.slice A_G n c_G, .slice A_G' n c_G'] 25)) := (Below.refl _ _).alloc (Nat.le_refl _) _
  have hT3a := HT3_5.out.alloc (.cells #[.slice A_G n c_G, .slice A_G' n c_G'] 25)
  have l30 := hT3a.c0
  have l31 := hT3a.c1
  have l60 := ha.c0
  have l61 := ha.c1
  go_wp2_with fail
  generalize w5.alloc (.cells #[.slice A_G n c_G, .slice A_G' n c_G'] 25) = w6 at ha hb ⊢
  have HT6_6 := Lib.hid ha
  have HR6 := Lib.hid (HR5.out.below hb hs5)
  have HB6 := Lib.hid (HB5.out.trans (hb.mono hs5))
  have HW_6 := Lib.hid (HW_5.out.below hb)
  have HT3_6 := Lib.hid (HT3_5.out.below hb HT3_5.out.lt)
  have HXx0_6 := Lib.hid (HXx0_5.out.below hb (Nat.le_refl _))
  have HG_6 := Lib.hid (HG_5.out.below hb)
  have hs6 : w.heap.size ≤ w6.heap.size := HB6.out.size
  have hz6 : w5.heap.size ≤ w6.heap.size := hb.size
  clear HR5 HB5 HW_5 HT3_5 HXx0_5 HG_5
  clear ha hb
  have hzl6 : w5.heap.size < w6.heap.size := HT6_6.out.lt
  clear hT3a
  refine (eqAlias_same A_G n c_G A_G' n c_G' A_W n c_W A_W' n c_W' _ S O _ (by have := HG_6.out.os.rdF; rwa [L1'.out] at this) (by have := HG_6.out.oo.rdI; rwa [L2'.out] at this) (by have := HW_6.out.os.rdF; rwa [L1'.out] at this) (by have := HW_6.out.oo.rdI; rwa [L2'.out] at this) (Nat.le_refl _) (by unfold maxLen; omega) (by unfold maxLen; omega)).mono ?_
  rintro e w7 ⟨rfl, hb⟩
  have HR7 := Lib.hid (HR6.out.below hb hs6)
  have HB7 := Lib.hid (HB6.out.trans (hb.mono hs6))
  have HW_7 := Lib.hid (HW_6.out.below hb)
  have HT3_7 := Lib.hid (HT3_6.out.below hb HT3_6.out.lt)
  have HXx0_7 := Lib.hid (HXx0_6.out.below hb (Nat.le_refl _))
  have HG_7 := Lib.hid (HG_6.out.below hb)
  have HT6_7 := Lib.hid (HT6_6.out.below hb HT6_6.out.lt)
  have hs7 : w.heap.size ≤ w7.heap.size := HB7.out.size
  have hz7 : w6.heap.size ≤ w7.heap.size := hb.size
  clear HR6 HB6 HW_6 HT3_6 HXx0_6 HG_6 HT6_6
  clear hb
  clear l30 l31 l60 l61
  go_wp2_with fail
  refine (toF_any A_a n_a c_a _ xs _ HR7.out hs7 hm).mono ?_
  rintro e w8 ⟨v, rfl, ho, hb⟩
  obtain ⟨A_t2, c_t2, rfl, hcap_t2⟩ := ho.shapeF
  have HXt2_8 := Lib.hid ho
  have HR8 := Lib.hid (HR7.out.below hb hs7)
  have HB8 := Lib.hid (HB7.out.trans (hb.mono hs7))
  have HW_8 := Lib.hid (HW_7.out.below hb)
  have HT3_8 := Lib.hid (HT3_7.out.below hb HT3_7.out.lt)
  have HXx0_8 := Lib.hid (HXx0_7.out.below hb (Nat.le_refl _))
  have HG_8 := Lib.hid (HG_7.out.below hb)
  have HT6_8 := Lib.hid (HT6_7.out.below hb HT6_7.out.lt)
  have hs8 : w.heap.size ≤ w8.heap.size := HB8.out.size
  have hz8 : w7.heap.size ≤ w8.heap.size := hb.size
  clear HR7 HB7 HW_7 HT3_7 HXx0_7 HG_7 HT6_7
  clear ho hb
  go_wp2_with fail
  refine (eqF_same A_x0 A_t2 xs.length xs.length c_x0 c_t2 _ xs xs _ HXx0_8.out.rdF HXt2_8.out.rdF (by unfold maxLen; omega) rfl).mono ?_
  rintro e w9 ⟨rfl, hb⟩
  have HR9 := Lib.hid (HR8.out.below hb hs8)
  have HB9 := Lib.hid (HB8.out.trans (hb.mono hs8))
  have HW_9 := Lib.hid (HW_8.out.below hb)
  have HT3_9 := Lib.hid (HT3_8.out.below hb HT3_8.out.lt)
  have HXx0_9 := Lib.hid (HXx0_8.out.below hb (Nat.le_refl _))
  have HG_9 := Lib.hid (HG_8.out.below hb)
  have HT6_9 := Lib.hid (HT6_8.out.below hb HT6_8.out.lt)
  have HXt2_9 := Lib.hid (HXt2_8.out.below hb (Nat.le_refl _))
  have hs9 : w.heap.size ≤ w9.heap.size := HB9.out.size
  have hz9 : w8.heap.size ≤ w9.heap.size := hb.size
  clear HR8 HB8 HW_8 HT3_8 HXx0_8 HG_8 HT6_8 HXt2_8
  clear hb HXt2_9
  go_wp2_with fail
  refine (markF_any A_x0 xs.length c_x0 _ 1 xs _ HXx0_9.out (by omega) (by omega)).mono ?_
  rintro e w10 ⟨rfl, -, hg⟩
  have hc := Chg.of_grown (P := fun j => w3.heap.size ≤ j ∧ j < w4.heap.size) hg HxB.out
  have HR10 := Lib.hid (HR9.out.chg hc hs9 (fun q h1 => by omega))
  have HB10 := Lib.hid (Below.chg HB9.out hc (Nat.le_refl _) (fun q h1 => by omega))
  have HW_10 := Lib.hid (HW_9.out.chg hc (fun q h1 h2 => by omega))
  have HT3_10 := Lib.hid (HT3_9.out.chg hc (fun h1 => by omega))
  have HG_10 := Lib.hid (HG_9.out.chg hc (fun q h1 h2 => by omega))
  have HT6_10 := Lib.hid (HT6_9.out.chg hc (fun h1 => by omega))
  have hs10 : w.heap.size ≤ w10.heap.size := HB10.out.size
  have hz10 : w9.heap.size ≤ w10.heap.size := hc.size
  clear HR9 HB9 HW_9 HT3_9 HG_9 HT6_9
  clear hg hc HXx0_9
  have hge8 : ¬ ((1 + xs.length : Nat) : Int) < 0 := by omega
  have lT60 := HT6_10.out.c0
  have lT61 := HT6_10.out.c1
  have lT30 := HT3_10.out.c0
  have lT31 := HT3_10.out.c1
  go_wp2_with fail
  refine (eqAlias_same A_G n c_G A_G' n c_G' A_W n c_W A_W' n c_W' _ S O _ (by have := HG_10.out.os.rdF; rwa [L1'.out] at this) (by have := HG_10.out.oo.rdI; rwa [L2'.out] at this) (by have := HW_10.out.os.rdF; rwa [L1'.out] at this) (by have := HW_10.out.oo.rdI; rwa [L2'.out] at this) (Nat.le_refl _) (by unfold maxLen; omega) (by unfold maxLen; omega)).mono ?_
  rintro e w11 ⟨rfl, hb⟩
  have HR11 := Lib.hid (HR10.out.below hb hs10)
  have HB11 := Lib.hid (HB10.out.trans (hb.mono hs10))
  have HW_11 := Lib.hid (HW_10.out.below hb)
  have HT3_11 := Lib.hid (HT3_10.out.below hb HT3_10.out.lt)
  have HG_11 := Lib.hid (HG_10.out.below hb)
  have HT6_11 := Lib.hid (HT6_10.out.below hb HT6_10.out.lt)
  have hs11 : w.heap.size ≤ w11.heap.size := HB11.out.size
  have hz11 : w10.heap.size ≤ w11.heap.size := hb.size
  clear HR10 HB10 HW_10 HT3_10 HG_10 HT6_10
  clear hb
  clear lT60 lT61 lT30 lT31
  have lT60 := HT6_11.out.c0
  have lT61 := HT6_11.out.c1
  go_wp2_with fail
  refine (markAlias_any A_G n c_G A_G' n c_G' _ 1 _ S O _ HG_11.out (by omega) (by omega) (by omega)).mono ?_
  rintro e w12 ⟨rfl, ho, hc⟩
  have HM_12 := Lib.hid ho
  have HR12 := Lib.hid (HR11.out.chg hc hs11 (fun q h1 => by omega))
  have HB12 := Lib.hid (Below.chg HB11.out hc (Nat.le_refl _) (fun q h1 => by omega))
  have HW_12 := Lib.hid (HW_11.out.chg hc (fun q h1 h2 => by omega))
  have HT3_12 := Lib.hid (HT3_11.out.chg hc (fun h1 => by omega))
  have HT6_12 := Lib.hid (HT6_11.out.chg hc (fun h1 => by omega))
  have hs12 : w.heap.size ≤ w12.heap.size := HB12.out.size
  have hz12 : w11.heap.size ≤ w12.heap.size := hc.size
  clear HR11 HB11 HW_11 HT3_11 HT6_11
  clear ho hc HG_11 lT60 lT61
  have lT60 := HT6_12.out.c0
  have lT61 := HT6_12.out.c1
  go_wp2_with fail
  refine (heldAlias_any A_G n c_G A_G' n c_G' _ 1 _ _ HM_12.out (by omega) (by omega) (by omega)).mono ?_
  rintro e w13 ⟨rfl, hb⟩
  have HR13 := Lib.hid (HR12.out.below hb hs12)
  have HB13 := Lib.hid (HB12.out.trans (hb.mono hs12))
  have HW_13 := Lib.hid (HW_12.out.below hb)
  have HT3_13 := Lib.hid (HT3_12.out.below hb HT3_12.out.lt)
  have HT6_13 := Lib.hid (HT6_12.out.below hb HT6_12.out.lt)
  have HM_13 := Lib.hid (HM_12.out.below hb)
  have hs13 : w.heap.size ≤ w13.heap.size := HB13.out.size
  have hz13 : w12.heap.size ≤ w13.heap.size := hb.size
  clear HR12 HB12 HW_12 HT3_12 HT6_12 HM_12
  clear hb lT60 lT61
  have hge11 : ¬ ((1 + n + n : Nat) : Int) < 0 := by omega
  have hne11 : (((1 + n + n : Nat) : Int) != ((1 + n + n : Nat) : Int)) = false := by simp
  go_wp2_with fail
  refine (toF_any A_a n_a c_a _ xs _ HR13.out hs13 hm).mono ?_
  rintro e w14 ⟨v, rfl, ho, hb⟩
  obtain ⟨A_t3, c_t3, rfl, hcap_t3⟩ := ho.shapeF
  have HXt3_14 := Lib.hid ho
  have HR14 := Lib.hid (HR13.out.below hb hs13)
  have HB14 := Lib.hid (HB13.out.trans (hb.mono hs13))
  have HW_14 := Lib.hid (HW_13.out.below hb)
  have HT3_14 := Lib.hid (HT3_13.out.below hb HT3_13.out.lt)
  have HT6_14 := Lib.hid (HT6_13.out.below hb HT6_13.out.lt)
  have HM_14 := Lib.hid (HM_13.out.below hb)
  have hs14 : w.heap.size ≤ w14.heap.size := HB14.out.size
  have hz14 : w13.heap.size ≤ w14.heap.size := hb.size
  clear HR13 HB13 HW_13 HT3_13 HT6_13 HM_13
  clear ho hb
  go_wp2_with fail
  refine (implAliasOf A_t3 xs.length c_t3 _ xs _ HXt3_14.out.rdF (Nat.le_refl _) hxl hcap_t3.out).mono ?_
  rintro e w15 ⟨v, v', ok_Hh, rfl, hok_Hh, ho, ho', hap, hb⟩
  rw [← Hrx.out] at hok_Hh ho ho'
  rw [← HS.out] at ho
  rw [← HO.out] at ho'
  obtain rfl : ok_Hh = ok_G := hok_Hh.out.trans hok_W.out.symm
  have ho2 := PA.of ho ho' hap hs14
  obtain ⟨A_Hh, c_Hh, rfl, -⟩ := ho.shapeF
  obtain ⟨A_Hh', c_Hh', rfl, -⟩ := ho'.shapeI
  rw [L1'.out] at ho2 ⊢
  rw [L2'.out] at ho2 ⊢
  have HHh_15 := Lib.hid ho2
  have HR15 := Lib.hid (HR14.out.below hb hs14)
  have HB15 := Lib.hid (HB14.out.trans (hb.mono hs14))
  have HW_15 := Lib.hid (HW_14.out.below hb)
  have HT3_15 := Lib.hid (HT3_14.out.below hb HT3_14.out.lt)
  have HT6_15 := Lib.hid (HT6_14.out.below hb HT6_14.out.lt)
  have HM_15 := Lib.hid (HM_14.out.below hb)
  have HXt3_15 := Lib.hid (HXt3_14.out.below hb (Nat.le_refl _))
  have hs15 : w.heap.size ≤ w15.heap.size := HB15.out.size
  have hz15 : w14.heap.size ≤ w15.heap.size := hb.size
  clear HR14 HB14 HW_14 HT3_14 HT6_14 HM_14 HXt3_14
  clear ho ho' ho2 hap hb
  have hne_Hh : (ok_Hh != ok_Hh) = false := by simp
  have ha := AlAt.new w15 25 (.slice A_Hh n c_Hh) (.slice A_Hh' n c_Hh')
  have hb : Below w15.heap.size w15 (w15.alloc (.cells #[.slice A_Hh n c_Hh, .slice A_Hh' n c_Hh'] 25)) := (Below.refl _ _).alloc (Nat.le_refl _) _
  clear HXt3_15
  have hT3a := HT3_15.out.alloc (.cells #[.slice A_Hh n c_Hh, .slice A_Hh' n c_Hh'] 25)
  have l30 := hT3a.c0
  have l31 := hT3a.c1
  have l60 := ha.c0
  have l61 := ha.c1
  go_wp2_with fail
  generalize w15.alloc (.cells #[.slice A_Hh n c_Hh, .slice A_Hh' n c_Hh'] 25) = w16 at ha hb ⊢
  have HT11_16 := Lib.hid ha
  have HR16 := Lib.hid (HR15.out.below hb hs15)
  have HB16 := Lib.hid (HB15.out.trans (hb.mono hs15))
  have HW_16 := Lib.hid (HW_15.out.below hb)
  have HT3_16 := Lib.hid (HT3_15.out.below hb HT3_15.out.lt)
  have HT6_16 := Lib.hid (HT6_15.out.below hb HT6_15.out.lt)
  have HM_16 := Lib.hid (HM_15.out.below hb)
  have HHh_16 := Lib.hid (HHh_15.out.below hb)
  have hs16 : w.heap.size ≤ w16.heap.size := HB16.out.size
  have hz16 : w15.heap.size ≤ w16.heap.size := hb.size
  clear HR15 HB15 HW_15 HT3_15 HT6_15 HM_15 HHh_15
  clear ha hb
  have hzl16 : w15.heap.size < w16.heap.size := HT11_16.out.lt
  clear hT3a
  refine (eqAlias_same A_Hh n c_Hh A_Hh' n c_Hh' A_W n c_W A_W' n c_W' _ S O _ (by have := HHh_16.out.os.rdF; rwa [L1'.out] at this) (by have := HHh_16.out.oo.rdI; rwa [L2'.out] at this) (by have := HW_16.out.os.rdF; rwa [L1'.out] at this) (by have := HW_16.out.oo.rdI; rwa [L2'.out] at this) (Nat.le_refl _) (by unfold maxLen; omega) (by unfold maxLen; omega)).mono ?_
  rintro e w17 ⟨rfl, hb⟩
  have HR17 := Lib.hid (HR16.out.below hb hs16)
  have HB17 := Lib.hid (HB16.out.trans (hb.mono hs16))
  have HW_17 := Lib.hid (HW_16.out.below hb)
  have HT3_17 := Lib.hid (HT3_16.out.below hb HT3_16.out.lt)
  have HT6_17 := Lib.hid (HT6_16.out.below hb HT6_16.out.lt)
  have HM_17 := Lib.hid (HM_16.out.below hb)
  have HHh_17 := Lib.hid (HHh_16.out.below hb)
  have HT11_17 := Lib.hid (HT11_16.out.below hb HT11_16.out.lt)
  have hs17 : w.heap.size ≤ w17.heap.size := HB17.out.size
  have hz17 : w16.heap.size ≤ w17.heap.size := hb.size
  clear HR16 HB16 HW_16 HT3_16 HT6_16 HM_16 HHh_16 HT11_16
  clear hb
  clear l30 l31 l60 l61
  have lT60 := HT6_17.out.c0
  have lT61 := HT6_17.out.c1
  go_wp2_with fail
  refine (heldAlias_any A_G n c_G A_G' n c_G' _ 1 _ _ HM_17.out (by omega) (by omega) (by omega)).mono ?_
  rintro e w18 ⟨rfl, hb⟩
  have HR18 := Lib.hid (HR17.out.below hb hs17)
  have HB18 := Lib.hid (HB17.out.trans (hb.mono hs17))
  have HW_18 := Lib.hid (HW_17.out.below hb)
  have HT3_18 := Lib.hid (HT3_17.out.below hb HT3_17.out.lt)
  have HT6_18 := Lib.hid (HT6_17.out.below hb HT6_17.out.lt)
  have HM_18 := Lib.hid (HM_17.out.below hb)
  have HHh_18 := Lib.hid (HHh_17.out.below hb)
  have HT11_18 := Lib.hid (HT11_17.out.below hb HT11_17.out.lt)
  have hs18 : w.heap.size ≤ w18.heap.size := HB18.out.size
  have hz18 : w17.heap.size ≤ w18.heap.size := hb.size
  clear HR17 HB17 HW_17 HT3_17 HT6_17 HM_17 HHh_17 HT11_17
  clear hb lT60 lT61
  go_wp2
  go_ret
  exact ⟨rfl, HB18.out⟩
end Go.Proofs.Ytbaifeedacokhaa
