/- The reference's draws of complex numbers. -/
import Derived.Test.YtijafnejdibdlaaGreatDoorDraws
import Derived.Test.YtijafnejdibdlaaGreatDoorComplexS
namespace Go.Proofs.YtijafnejdibdlaaGreatDoor
open Go.RowKit
set_option maxRecDepth 100000
def AllW2 (xs : List (Nat × Nat)) : Prop := ∀ p ∈ xs, W32 p.1 ∧ W32 p.2
theorem AllW2.snoc {xs : List (Nat × Nat)} {x : Nat × Nat} (h : AllW2 xs) (hx : W32 x.1 ∧ W32 x.2) : AllW2 (xs ++ [x]) := fun y hy => by
  rcases List.mem_append.1 hy with h1 | h1
  · exact h y h1
  · rw [List.mem_singleton.1 h1]; exact hx
/-- One number more behind an owned list of complex numbers. -/
theorem emitC2 (w0 : World) {ops : Array Oper} {rest : List Oper} {o : Oper} {a : Act} {Q : Exit → Act → World → Prop} (hgd : o.guard = none) (s x : Operand)
    (ho : o.op = .call { callee := .builtin .append, args := #[s, x], argTypes := #[25, 25] })
    (base : Nat) (v : Value) (xs : List (Nat × Nat)) (hs : a.eval s = v) (hown : Own w0 base 24 v (c64s xs)) (u : Nat × Nat) (hx : a.eval x = .slice (some ⟨w0.heap.size, 0, none⟩) 1 1)
    (h63 : xs.length ≤ 2000000) (hbase : base ≤ w0.heap.size)
    (h : ∀ v' w', Own w' base 24 v' (c64s (xs ++ [u])) → w0.grownBy w' v.ownBlock → (v'.ownBlock = v.ownBlock ∨ ∃ k, v'.ownBlock = some k ∧ w0.heap.size ≤ k) → wpList Tryz.prog ops Q rest (a.put o.dst v') w') : wpList Tryz.prog ops Q (o :: rest) a (w0.alloc (.cells #[.complex .f32 u.1 u.2] 24)) := by
  obtain ⟨i0, hi0, hz0, hz1, hz2⟩ := info_parts info_c64
  have hown' : w0.ownsRow base 24 1 v xs.length (c64s xs) := by have := hown; unfold Own at this; rwa [c64s_length] at this
  obtain ⟨v', w', hrun, h2, h3, _, h5⟩ := run_append_own_at (P := Tryz.prog) (w0.alloc (.cells #[.complex .f32 u.1 u.2] 24)) base 25 o.type 24 i0 (.complex .f32 0 0) 1 8 Tryz.underlying25 hi0 hz0 hz1 hz2 rfl (by decide) v xs.length (c64s xs) (hown'.alloc _) ⟨w0.heap.size, 0, none⟩ 1 1 [.complex .f32 u.1 u.2] rfl (one_cell _ _ _) (one_one _ rfl) (by unfold maxLen; omega) (by omega) (by simp; omega)
  refine wpList_plain hgd fun _ hK => ?_
  unfold Oper.wp execOp
  simp only [ho, resolve, invoke, builtin, Sem.run_bind, Sem.run_pure, Result.andThen_ok, List.map_toArray, List.map_cons, List.map_nil, hs, hx, hrun]
  refine hK _ _ (h v' w' ?_ (grown_trans' (World.grownBy_alloc w0 _ _) h3) ?_)
  · unfold Own
    rw [c64s_snoc, List.length_append, c64s_length]
    exact h2
  · rcases h5 with h5 | h5
    · exact .inl h5
    · exact .inr ⟨_, h5, by simp⟩
section
variable (A : Option Addr) (n c B g : Nat) (xs : List Int) (k s : Int) (w : World)
theorem drawFine_any (h : Rd w B A n (u8s xs)) (hb : Bytes xs) (hB : B ≤ g) (hg : SrcAt w g A n c k s) (hk : 0 ≤ k ∧ k ≤ 980000) (hs : 0 ≤ s ∧ s < 18446744073709551616) :
    Calls Tryz.prog 46 #[.pointer (some ⟨g, 0, none⟩)] w fun e w' => ∃ (x y : Nat) (s' k' : Int), e = .returned (.complex .f32 x y) ∧ (W32 x ∧ W32 y) ∧ SrcAt w' g A n c k' s' ∧ (k ≤ k' ∧ k' ≤ k + 24) ∧ (0 ≤ s' ∧ s' < 18446744073709551616) ∧ w.grownBy w' (some g) := by
  have HR := Lib.hid h
  have HG := Lib.hid hg
  clear h hg
  go_enter Tryz.func46, Tryz.ntmps46
  go_wp2_with fail
  refine (srcPick_any A n c B g xs k s 65 _ HR.out hb hB HG.out (by omega) hs (by omega)).mono ?_
  rintro e w1 ⟨x, s1, k1, rfl, hx, hg1, hk1, hs1, hgr1⟩
  have HR1 := Lib.hid (HR.out.grown hgr1 (by have := HG.out.lt; omega) (fun g' e => by cases e; exact hB))
  have HG1 := Lib.hid hg1
  have HGR := Lib.hid hgr1
  clear hg1 hgr1
  have hw1 : IntKind.i64.wrap (x - 32) = x - 32 := by rw [IntKind.wrap_i64]; omega
  have t1 : True := trivial
  go_wp2_with (have := t1; clear this t1; refine wpList_fop _ rfl .quo _ _ _ _ rfl rfl .f32 _ _ rfl rfl ?_; intro r1 q1 hr1)
  have HR2 : Hid (Rd (w1.drewN q1) B A n (u8s xs)) := HR1.out
  have HG2 : Hid (SrcAt (w1.drewN q1) g A n c k1 s1) := SrcAt.drewN HG1.out q1
  refine (srcPick_any A n c B g xs k1 s1 65 _ HR2.out hb hB HG2.out (by omega) hs1 (by omega)).mono ?_
  rintro e w2 ⟨y, s2, k2, rfl, hy, hg2, hk2, hs2, hgr2⟩
  have HG3 := Lib.hid hg2
  have HGR2 := Lib.hid (grown_trans (grown_drewN HGR.out q1) hgr2)
  clear hg2 hgr2 hw1
  have hw2 : IntKind.i64.wrap (y - 32) = y - 32 := by rw [IntKind.wrap_i64]; omega
  have t1 : True := trivial
  go_wp2_with (have := t1; clear this t1; refine wpList_fop _ rfl .quo _ _ _ _ rfl rfl .f32 _ _ rfl rfl ?_; intro r2 q2 hr2)
  go_ret
  exact ⟨r1, r2, s2, k2, rfl, ⟨W32.of hr1.out, W32.of hr2.out⟩, SrcAt.drewN HG3.out q2, by omega, hs2, grown_drewN HGR2.out q2⟩
theorem drawC_any (h : Rd w B A n (u8s xs)) (hb : Bytes xs) (hB : B ≤ g) (hg : SrcAt w g A n c k s) (hk : 0 ≤ k ∧ k ≤ 980000) (hs : 0 ≤ s ∧ s < 18446744073709551616) :
    Calls Tryz.prog 45 #[.pointer (some ⟨g, 0, none⟩)] w fun e w' => ∃ (x y : Nat) (s' k' : Int), e = .returned (.complex .f32 x y) ∧ (W32 x ∧ W32 y) ∧ SrcAt w' g A n c k' s' ∧ (k ≤ k' ∧ k' ≤ k + 24) ∧ (0 ≤ s' ∧ s' < 18446744073709551616) ∧ w.grownBy w' (some g) := by
  have HR := Lib.hid h
  have HG := Lib.hid hg
  clear h hg
  go_enter Tryz.func45, Tryz.ntmps45
  go_wp2_with fail
  refine (drawFloat_any A n c B g xs k s _ HR.out hb hB HG.out (by omega) hs).mono ?_
  rintro e w1 ⟨x, s1, k1, rfl, hx, hg1, hk1, hs1, hgr1⟩
  have HR1 := Lib.hid (HR.out.grown hgr1 (by have := HG.out.lt; omega) (fun g' e => by cases e; exact hB))
  have HG1 := Lib.hid hg1
  have HGR := Lib.hid hgr1
  have HX := Lib.hid hx
  clear hg1 hgr1 hx
  go_wp2_with fail
  refine (drawFloat_any A n c B g xs k1 s1 _ HR1.out hb hB HG1.out (by omega) hs1).mono ?_
  rintro e w2 ⟨y, s2, k2, rfl, hy, hg2, hk2, hs2, hgr2⟩
  have HG2 := Lib.hid hg2
  have HY := Lib.hid hy
  have HGR2 := Lib.hid (grown_trans HGR.out hgr2)
  clear hg2 hgr2 hy
  go_wp2
  go_ret
  exact ⟨x, y, s2, k2, rfl, ⟨HX.out, HY.out⟩, HG2.out, by omega, hs2, HGR2.out⟩
end
set_option maxHeartbeats 4000000 in
theorem drawCs_any (A : Option Addr) (n c B g : Nat) (xs : List Int) (m : Nat) (w : World) (h : Rd w B A n (u8s xs)) (hb : Bytes xs) (hB : B ≤ g) (hg : SrcAt w g A n c 0 0) (hm : m ≤ 1000) :
    Calls Tryz.prog 34 #[.pointer (some ⟨g, 0, none⟩), .int .i64 m] w fun e w' => ∃ (v : Value) (ys : List (Nat × Nat)), e = .returned v ∧ Own w' w.heap.size 24 v (c64s ys) ∧ ys.length = m ∧ AllW2 ys ∧ Below g w w' := by
  have hgw : Hid (g < w.heap.size) := hg.lt
  have HR := Lib.hid (h.alloc (by have := hgw.out; omega) (.cells #[] 24))
  have HS := Lib.hid (hg.alloc (.cells #[] 24))
  have HO := Lib.hid (own_new w 24 (Nat.le_refl _) : Own _ w.heap.size 24 _ (c64s []))
  have HB : Hid (Below g w (w.alloc (.cells #[] 24))) := (Below.refl _ _).alloc (by have := hgw.out; omega) _
  have hsz : Hid ((w.alloc (.cells #[] 24)).heap.size = w.heap.size + 1) := size_alloc' _ _
  have Hb := Lib.hid hb
  clear h hg hb
  go_enter Tryz.func34, Tryz.ntmps34
  go_wp2_with fail
  refine (srcOne_any A n c B g xs 0 0 _ 5 HR.out Hb.out hB HS.out (by omega) (by omega) (by omega)).mono ?_
  rintro e w1 ⟨b, s1, k1, rfl, hg1, hk1, hs1, hgr1⟩
  have HO1 := Lib.hid (HO.out.kept hgr1 (.inr (fun e => by have := hgw.out; injection e with e; simp at e; omega)))
  have HS1 := Lib.hid hg1
  have HB1 := Lib.hid (HB.out.grown hgr1 (by have := hsz.out; have := hgw.out; omega) (fun j e => by cases e; exact Nat.le_refl _))
  have HR1 := Lib.hid (HR.out.grown hgr1 (by have := hsz.out; have := hgw.out; omega) (fun g' e => by cases e; exact hB))
  have hle1 : w.heap.size ≤ w1.heap.size := by have := hgr1.size; have := hsz.out; omega
  clear hg1 hgr1 HO HS HB HR
  go_wp2_with fail
  go_loopw [1, 5] (fun i v wr => ∃ (k : Nat) (ys : List (Nat × Nat)) (kk s : Int), k ≤ m ∧ i = .int .i64 ((m : Int) - (k : Int)) ∧ Hid (ys.length = k) ∧ Hid (AllW2 ys) ∧ Own wr w.heap.size 24 v (c64s ys) ∧ SrcAt wr g A n c kk s ∧ (0 ≤ kk ∧ kk ≤ 2 + 24 * (k : Int)) ∧ (0 ≤ s ∧ s < 18446744073709551616) ∧ Below g w wr ∧ Rd wr B A n (u8s xs) ∧ w.heap.size ≤ wr.heap.size) (fun i _ _ => (intOf i).toNat)
  case atStart => exact ⟨0, [], k1, s1, Nat.zero_le _, by simp, rfl, (fun j hj => by simp at hj), HO1.out, HS1.out, by omega, hs1, HB1.out, HR1.out, hle1⟩
  case round =>
    clear HO1 HS1 HB1 HR1
    obtain ⟨k, ys, kk, s, hk, rfl, hkl, hall, hO, hS, hkk, hs, hB2, hR2, hle⟩ := hrel
    have HO := Lib.hid hO; have HS2 := Lib.hid hS; have HB2 := Lib.hid hB2; have HR2 := Lib.hid hR2
    clear hO hS hB2 hR2
    by_cases hlt : k < m
    · have hpos : 0 < (m : Int) - (k : Int) := by omega
      have hkl2 : ys.length ≤ 2000000 := by rw [hkl.out]; omega
      cases b with
      | true =>
        go_wp2_with fail
        refine (drawC_any A n c B g xs kk s _ HR2.out Hb.out hB HS2.out (by omega) hs).mono ?_
        rintro e w3 ⟨x, y, s', k', rfl, hx, hS3, hk', hs', hgr⟩
        have HO3 := Lib.hid (HO.out.kept hgr (by
          by_cases e : u5.ownBlock = none
          · exact .inl e
          · right
            intro e2
            have := (HO.out.lt _ e2).1
            have := hgw.out
            omega))
        have HS3 := Lib.hid hS3
        have HB3 := Lib.hid (HB2.out.grown hgr (by have := hgw.out; omega) (fun g e => by cases e; exact Nat.le_refl _))
        have HR3 := Lib.hid (HR2.out.grown hgr (by have := hgw.out; omega) (fun g' e => by cases e; exact hB))
        have hle3 : w.heap.size ≤ w3.heap.size := by have := hgr.size; omega
        have HX := Lib.hid hx
        clear hS3 hgr hx
        go_wp2_with (at_builtin; go_must (refine emitC2 w3 rfl _ _ rfl w.heap.size u5 ys rfl HO3.out (x, y) rfl hkl2 hle3 ?_))
        intro v' w4 hO' hg hor
        have HO4 := Lib.hid hO'
        have HS4 := Lib.hid (HS3.out.grown hg (fun e => by have := (HO3.out.lt _ e.symm).1; have := hgw.out; omega))
        have HB4 := Lib.hid (HB3.out.grown hg (by have := hgw.out; omega) (fun g e => by have := (HO3.out.lt g e).1; have := hgw.out; omega))
        have HR4 := Lib.hid (HR3.out.grown hg (by have := hgw.out; omega) (fun g' e => by have := (HO3.out.lt g' e).1; have := hgw.out; omega))
        have hle4 : w.heap.size ≤ w4.heap.size := by have := hg.size; omega
        have hkl3 : Hid ((ys ++ [(x, y)]).length = k + 1) := by show _ = _; rw [List.length_append, hkl.out]; rfl
        have hall3 : Hid (AllW2 (ys ++ [(x, y)])) := hall.out.snoc HX.out
        clear hO' hg hor HO HS2 HB2 HO3 HS3 HB3 HR2 HR3
        go_wp2
        go_roundw
        case rel => exact ⟨k + 1, ys ++ [(x, y)], k', s', by omega, by go_num, hkl3, hall3, HO4.out, HS4.out, by omega, hs', HB4.out, HR4.out, hle4⟩
        case measure => simp only [intOf]; omega
      | false =>
        go_wp2_with fail
        refine (drawFine_any A n c B g xs kk s _ HR2.out Hb.out hB HS2.out (by omega) hs).mono ?_
        rintro e w3 ⟨x, y, s', k', rfl, hx, hS3, hk', hs', hgr⟩
        have HO3 := Lib.hid (HO.out.kept hgr (by
          by_cases e : u5.ownBlock = none
          · exact .inl e
          · right
            intro e2
            have := (HO.out.lt _ e2).1
            have := hgw.out
            omega))
        have HS3 := Lib.hid hS3
        have HB3 := Lib.hid (HB2.out.grown hgr (by have := hgw.out; omega) (fun g e => by cases e; exact Nat.le_refl _))
        have HR3 := Lib.hid (HR2.out.grown hgr (by have := hgw.out; omega) (fun g' e => by cases e; exact hB))
        have hle3 : w.heap.size ≤ w3.heap.size := by have := hgr.size; omega
        have HX := Lib.hid hx
        clear hS3 hgr hx
        go_wp2_with (at_builtin; go_must (refine emitC2 w3 rfl _ _ rfl w.heap.size u5 ys rfl HO3.out (x, y) rfl hkl2 hle3 ?_))
        intro v' w4 hO' hg hor
        have HO4 := Lib.hid hO'
        have HS4 := Lib.hid (HS3.out.grown hg (fun e => by have := (HO3.out.lt _ e.symm).1; have := hgw.out; omega))
        have HB4 := Lib.hid (HB3.out.grown hg (by have := hgw.out; omega) (fun g e => by have := (HO3.out.lt g e).1; have := hgw.out; omega))
        have HR4 := Lib.hid (HR3.out.grown hg (by have := hgw.out; omega) (fun g' e => by have := (HO3.out.lt g' e).1; have := hgw.out; omega))
        have hle4 : w.heap.size ≤ w4.heap.size := by have := hg.size; omega
        have hkl3 : Hid ((ys ++ [(x, y)]).length = k + 1) := by show _ = _; rw [List.length_append, hkl.out]; rfl
        have hall3 : Hid (AllW2 (ys ++ [(x, y)])) := hall.out.snoc HX.out
        clear hO' hg hor HO HS2 HB2 HO3 HS3 HB3 HR2 HR3
        go_wp2
        go_roundw
        case rel => exact ⟨k + 1, ys ++ [(x, y)], k', s', by omega, by go_num, hkl3, hall3, HO4.out, HS4.out, by omega, hs', HB4.out, HR4.out, hle4⟩
        case measure => simp only [intOf]; omega
    · obtain rfl : k = m := by omega
      have hnp : ¬ 0 < (k : Int) - (k : Int) := by omega
      go_wp2
      go_ret
      exact ⟨_, rfl, ys, HO.out, hkl.out, hall.out, HB2.out⟩
theorem b10Any_any (A : Option Addr) (n c B : Nat) (xs : List Int) (m : Nat) (w : World) (h : Rd w B A n (u8s xs)) (hb : Bytes xs) (hB : B ≤ w.heap.size) (hm : m ≤ 1000) :
    Calls Tryz.prog 14 #[.slice A n c, .int .i64 m] w fun e w' => ∃ (v : Value) (ys : List (Nat × Nat)), e = .returned v ∧ Own w' w.heap.size 24 v (c64s ys) ∧ ys.length = m ∧ AllW2 ys ∧ Below w.heap.size w w' := by
  have HR := Lib.hid h
  clear h
  go_enter Tryz.func14, Tryz.ntmps14
  go_wp2_with fail
  refine (l00From_any A n c _).mono ?_
  rintro e w1 ⟨rfl, rfl⟩
  have HS := Lib.hid (SrcAt.new w A n c 0 0)
  have HR1 := Lib.hid (HR.out.alloc hB (.cells #[.slice A n c, .int .i64 0, .int .u64 0] 76))
  have HB1 : Hid (Below w.heap.size w (w.alloc (.cells #[.slice A n c, .int .i64 0, .int .u64 0] 76))) := (Below.refl _ _).alloc (Nat.le_refl _) _
  have hsz : Hid ((w.alloc (.cells #[.slice A n c, .int .i64 0, .int .u64 0] 76)).heap.size = w.heap.size + 1) := size_alloc' _ _
  generalize w.alloc (.cells #[.slice A n c, .int .i64 0, .int .u64 0] 76) = w1 at HS HR1 HB1 hsz ⊢
  go_wp2_with fail
  refine (drawCs_any A n c B w.heap.size xs m _ HR1.out hb hB HS.out hm).mono ?_
  rintro e w2 ⟨v, ys, rfl, hO, hl, ha, hb2⟩
  have HO := Lib.hid (hO.base_le (by have := hsz.out; omega : w.heap.size ≤ w1.heap.size))
  have HL := Lib.hid hl
  have HA := Lib.hid ha
  have HB2 := Lib.hid (HB1.out.trans hb2)
  clear hO hl ha hb2
  go_wp2
  go_ret
  exact ⟨_, ys, rfl, HO.out, HL.out, HA.out, HB2.out⟩
theorem b10Complex_any (A : Option Addr) (n c B : Nat) (xs : List Int) (w : World) (h : Rd w B A n (u8s xs)) (hb : Bytes xs) (hB : B ≤ w.heap.size) :
    Calls Tryz.prog 21 #[.slice A n c] w fun e w' => ∃ x y, e = .returned (.complex .f32 x y) ∧ (W32 x ∧ W32 y) ∧ Below w.heap.size w w' := by
  have HR := Lib.hid h
  clear h
  go_enter Tryz.func21, Tryz.ntmps21
  go_wp2_with fail
  refine (l00From_any A n c _).mono ?_
  rintro e w1 ⟨rfl, rfl⟩
  have HS := Lib.hid (SrcAt.new w A n c 0 0)
  have HR1 := Lib.hid (HR.out.alloc hB (.cells #[.slice A n c, .int .i64 0, .int .u64 0] 76))
  have HB1 : Hid (Below w.heap.size w (w.alloc (.cells #[.slice A n c, .int .i64 0, .int .u64 0] 76))) := (Below.refl _ _).alloc (Nat.le_refl _) _
  have hsz : Hid ((w.alloc (.cells #[.slice A n c, .int .i64 0, .int .u64 0] 76)).heap.size = w.heap.size + 1) := size_alloc' _ _
  generalize w.alloc (.cells #[.slice A n c, .int .i64 0, .int .u64 0] 76) = w1 at HS HR1 HB1 hsz ⊢
  go_wp2_with fail
  refine (srcOne_any A n c B w.heap.size xs 0 0 _ 4 HR1.out hb hB HS.out (by omega) (by omega) (by omega)).mono ?_
  rintro e w2 ⟨b, s1, k1, rfl, hg1, hk1, hs1, hgr1⟩
  have HR2 := Lib.hid (HR1.out.grown hgr1 (by have := hsz.out; omega) (fun g' e => by cases e; exact hB))
  have HB2 := Lib.hid (HB1.out.grown hgr1 (by have := hsz.out; omega) (fun j e => by cases e; exact Nat.le_refl _))
  have HG2 := Lib.hid hg1
  have hsz2 : w.heap.size ≤ w2.heap.size := by have := hgr1.size; have := hsz.out; omega
  clear hg1 hgr1
  cases b with
  | true =>
    go_wp2_with fail
    refine (drawC_any A n c B w.heap.size xs k1 s1 _ HR2.out hb hB HG2.out (by omega) hs1).mono ?_
    rintro e w3 ⟨x, y, s', k', rfl, hx, hS3, hk', hs', hgr⟩
    have HX := Lib.hid hx
    have HB3 := Lib.hid (HB2.out.grown hgr (by omega) (fun j e => by cases e; exact Nat.le_refl _))
    clear hx hS3 hgr
    go_wp2
    go_ret
    exact ⟨x, y, rfl, HX.out, HB3.out⟩
  | false =>
    go_wp2_with fail
    refine (drawFine_any A n c B w.heap.size xs k1 s1 _ HR2.out hb hB HG2.out (by omega) hs1).mono ?_
    rintro e w3 ⟨x, y, s', k', rfl, hx, hS3, hk', hs', hgr⟩
    have HX := Lib.hid hx
    have HB3 := Lib.hid (HB2.out.grown hgr (by omega) (fun j e => by cases e; exact Nat.le_refl _))
    clear hx hS3 hgr
    go_wp2
    go_ret
    exact ⟨x, y, rfl, HX.out, HB3.out⟩
end Go.Proofs.YtijafnejdibdlaaGreatDoor
