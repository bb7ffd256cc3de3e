/- The reference's draws of float32. -/
import Derived.Test.YtijafnejdibdlaaGreatDoorB10
import Derived.Test.YtijafnejdibdlaaGreatDoorWord
namespace Go.Proofs.YtijafnejdibdlaaGreatDoor
open Go.RowKit
set_option maxRecDepth 100000
theorem run_from32 (w : World) (n : Int) : (callFunc 43 #[.int .u32 n]).run Tryz.prog w = .ok (.value (.float .f32 n.toNat)) w := by
  rw [run_callFunc_extern Tryz.func43 (by kernel_rfl) (by kernel_rfl) (by kernel_rfl) (e := Extern.MathFloatBits.float32frombits) (by kernel_rfl)]
  rfl
theorem u32_lt (n : Int) : (IntKind.u32.wrap n).toNat < 4294967296 := by
  show (n % 4294967296).toNat < _
  omega
theorem l01From_any (n : Int) (w : World) : Calls Tryz.prog 40 #[.int .i64 n] w fun e w' => (∃ x, e = .returned (.float .f32 x) ∧ x < 4294967296) ∧ w' = w := by
  have hd := run_from32
  have hx := u32_lt n
  go_enter Tryz.func40, Tryz.ntmps40
  go_wp2
  go_ret
  exact ⟨⟨_, rfl, hx⟩, rfl⟩
theorem SrcAt.drewN {w : World} {g n c : Nat} {A : Option Addr} {k s : Int} (h : SrcAt w g A n c k s) (q : Nat) : SrcAt (w.drewN q) g A n c k s := h
def row10 : Array Value := #[.int .i64 0, .int .i64 2147483648, .int .i64 2139095040, .int .i64 4286578688, .int .i64 2143289344, .int .i64 1, .int .i64 2139095039, .int .i64 8388608, .int .i64 8388607, .int .i64 2147483649]
def row4 : Array Value := #[.int .i64 8388608, .int .i64 2130706432, .int .i64 1610612736, .int .i64 536870912]
theorem row10_at : ∀ i, i < 10 → ∃ y, row10[i]? = some (.int .i64 y) ∧ True
  | 0, _ | 1, _ | 2, _ | 3, _ | 4, _ | 5, _ | 6, _ | 7, _ | 8, _ | 9, _ => ⟨_, rfl, trivial⟩
theorem row4_at : ∀ i, i < 4 → ∃ y, row4[i]? = some (.int .i64 y) ∧ True
  | 0, _ | 1, _ | 2, _ | 3, _ => ⟨_, rfl, trivial⟩
section
variable (A : Option Addr) (n c B g : Nat) (xs : List Int) (k s : Int) (w : World)
theorem srcOne_any (m : Int) (h : Rd w B A n (u8s xs)) (hb : Bytes xs) (hB : B ≤ g) (hg : SrcAt w g A n c k s) (hk : 0 ≤ k ∧ k ≤ 999000) (hs : 0 ≤ s ∧ s < 18446744073709551616) (hm : 2 ≤ m ∧ m ≤ 1000000) :
    Calls Tryz.prog 39 #[.pointer (some ⟨g, 0, none⟩), .int .i64 m] w fun e w' => ∃ (b : Bool) (s' k' : Int), e = .returned (.bool b) ∧ SrcAt w' g A n c k' s' ∧ (k ≤ k' ∧ k' ≤ k + 2) ∧ (0 ≤ s' ∧ s' < 18446744073709551616) ∧ w.grownBy w' (some g) := by
  have HR := Lib.hid h
  have HG := Lib.hid hg
  clear h hg
  go_enter Tryz.func39, Tryz.ntmps39
  go_wp2_with fail
  refine (srcPick_any A n c B g xs k s m _ HR.out hb hB HG.out hk hs (by omega)).mono ?_
  rintro e w1 ⟨x, s1, k1, rfl, hx, hg1, hk1, hs1, hgr1⟩
  have HG1 := Lib.hid hg1
  have HGR := Lib.hid hgr1
  clear hg1 hgr1
  go_wp2
  go_ret
  exact ⟨_, s1, k1, rfl, HG1.out, hk1, hs1, HGR.out⟩
theorem srcAmong_any (b L c' : Nat) (row : Array Value) (P : Int → Prop) (h : Rd w B A n (u8s xs)) (hb : Bytes xs) (hB : B ≤ g) (hg : SrcAt w g A n c k s) (hk : 0 ≤ k ∧ k ≤ 999000) (hs : 0 ≤ s ∧ s < 18446744073709551616)
    (hbl : w.heap[b]? = some (.cells row 2 (0, 0))) (hbg : b ≠ g) (hL : 2 ≤ L ∧ L ≤ 1000) (hrow : ∀ i, i < L → ∃ y, row[i]? = some (.int .i64 y) ∧ P y) :
    Calls Tryz.prog 61 #[.pointer (some ⟨g, 0, none⟩), .slice (some ⟨b, 0, none⟩) L c'] w fun e w' => ∃ (y s' k' : Int), e = .returned (.int .i64 y) ∧ P y ∧ SrcAt w' g A n c k' s' ∧ (k ≤ k' ∧ k' ≤ k + 2) ∧ (0 ≤ s' ∧ s' < 18446744073709551616) ∧ w.grownBy w' (some g) := by
  have HR := Lib.hid h
  have HG := Lib.hid hg
  have HBL := Lib.hid hbl
  have HP := Lib.hid hrow
  have hbw : Hid (b < w.heap.size) := (Array.getElem?_eq_some_iff.1 hbl).1
  clear h hg hbl hrow
  go_enter Tryz.func61, Tryz.ntmps61
  go_wp2_with fail
  refine (srcPick_any A n c B g xs k s (L : Int) _ HR.out hb hB HG.out hk hs (by omega)).mono ?_
  rintro e w1 ⟨x, s1, k1, rfl, hx, hg1, hk1, hs1, hgr1⟩
  have HG1 := Lib.hid hg1
  have HGR := Lib.hid hgr1
  obtain ⟨j, rfl⟩ : ∃ j : Nat, x = (j : Int) := ⟨x.toNat, by omega⟩
  have hj : j < L := by omega
  have hjl : (j : Int) < (L : Int) := by omega
  obtain ⟨y, hy, hPy⟩ := HP.out j hj
  have hbl1 : w1.heap[b]? = some (.cells row 2 (0, 0)) := (hgr1.block b hbw.out (fun e => hbg (by injection e))).trans HBL.out
  have hc := (cell_of_row w1 b j _ 2 (0, 0) hbl1).trans hy
  have Hy := Lib.hid hPy
  clear hg1 hgr1 hbl1 hPy hy
  go_wp2
  go_ret
  exact ⟨y, s1, k1, rfl, Hy.out, HG1.out, hk1, hs1, HGR.out⟩
theorem drawPlain_any (h : Rd w B A n (u8s xs)) (hb : Bytes xs) (hB : B ≤ g) (hg : SrcAt w g A n c k s) (hk : 0 ≤ k ∧ k ≤ 998000) (hs : 0 ≤ s ∧ s < 18446744073709551616) :
    Calls Tryz.prog 60 #[.pointer (some ⟨g, 0, none⟩)] w fun e w' => ∃ (x : Nat) (s' k' : Int), e = .returned (.float .f32 x) ∧ W32 x ∧ SrcAt w' g A n c k' s' ∧ (k ≤ k' ∧ k' ≤ k + 4) ∧ (0 ≤ s' ∧ s' < 18446744073709551616) ∧ w.grownBy w' (some g) := by
  have HR := Lib.hid h
  have HG := Lib.hid hg
  clear h hg
  go_enter Tryz.func60, Tryz.ntmps60
  go_wp2_with fail
  refine (srcPick_any A n c B g xs k s 129 _ HR.out hb hB HG.out (by omega) hs (by omega)).mono ?_
  rintro e w1 ⟨x, s1, k1, rfl, hx, hg1, hk1, hs1, hgr1⟩
  have HR1 := Lib.hid (HR.out.grown hgr1 (by have := HG.out.lt; omega) (fun g' e => by cases e; exact hB))
  have HG1 := Lib.hid hg1
  have HGR := Lib.hid hgr1
  clear hg1 hgr1
  have hw1 : IntKind.i64.wrap (x - 64) = x - 64 := by rw [IntKind.wrap_i64]; omega
  go_wp2_with fail
  refine (srcOne_any A n c B g xs k1 s1 _ 4 HR1.out hb hB HG1.out (by omega) hs1 (by omega)).mono ?_
  rintro e w2 ⟨b, s2, k2, rfl, hg2, hk2, hs2, hgr2⟩
  have HG2 := Lib.hid hg2
  have HGR2 := Lib.hid (grown_trans HGR.out hgr2)
  clear hg2 hgr2
  cases b with
  | true =>
    have t1 : True := trivial
    go_wp2_with (have := t1; clear this t1; refine wpList_fop _ rfl .quo _ _ _ _ rfl rfl .f32 _ _ rfl rfl ?_; intro r q hr)
    go_ret
    exact ⟨r, s2, k2, rfl, W32.of hr.out, SrcAt.drewN HG2.out q, by omega, hs2, grown_drewN HGR2.out q⟩
  | false =>
    have t1 : True := trivial
    go_wp2_with (have := t1; clear this t1; refine wpList_fop _ rfl .quo _ _ _ _ rfl rfl .f32 _ _ rfl rfl ?_; intro r q hr)
    go_ret
    exact ⟨r, s2, k2, rfl, W32.of hr.out, SrcAt.drewN HG2.out q, by omega, hs2, grown_drewN HGR2.out q⟩
set_option maxHeartbeats 2000000 in
theorem drawFloat_any (h : Rd w B A n (u8s xs)) (hb : Bytes xs) (hB : B ≤ g) (hg : SrcAt w g A n c k s) (hk : 0 ≤ k ∧ k ≤ 990000) (hs : 0 ≤ s ∧ s < 18446744073709551616) :
    Calls Tryz.prog 41 #[.pointer (some ⟨g, 0, none⟩)] w fun e w' => ∃ (x : Nat) (s' k' : Int), e = .returned (.float .f32 x) ∧ W32 x ∧ SrcAt w' g A n c k' s' ∧ (k ≤ k' ∧ k' ≤ k + 12) ∧ (0 ≤ s' ∧ s' < 18446744073709551616) ∧ w.grownBy w' (some g) := by
  have HR := Lib.hid h
  have HG := Lib.hid hg
  clear h hg
  go_enter Tryz.func41, Tryz.ntmps41
  go_wp2_with fail
  refine (srcOne_any A n c B g xs k s _ 12 HR.out hb hB HG.out (by omega) hs (by omega)).mono ?_
  rintro e w1 ⟨b, s1, k1, rfl, hg1, hk1, hs1, hgr1⟩
  have HR1 := Lib.hid (HR.out.grown hgr1 (by have := HG.out.lt; omega) (fun g' e => by cases e; exact hB))
  have HG1 := Lib.hid hg1
  have HGR1 := Lib.hid hgr1
  clear hg1 hgr1
  cases b with
  | false =>
    go_wp2_with fail
    refine (drawPlain_any A n c B g xs k1 s1 _ HR1.out hb hB HG1.out (by omega) hs1).mono ?_
    rintro e w2 ⟨x, s2, k2, rfl, hx, hg2, hk2, hs2, hgr2⟩
    have HG2 := Lib.hid hg2
    have HX := Lib.hid hx
    have HGR2 := Lib.hid (grown_trans HGR1.out hgr2)
    clear hg2 hgr2 hx
    go_wp2_with fail
    go_ret
    exact ⟨x, s2, k2, rfl, HX.out, HG2.out, by omega, hs2, HGR2.out⟩
  | true =>
    go_wp2_with fail
    refine (srcPick_any A n c B g xs k1 s1 4 _ HR1.out hb hB HG1.out (by omega) hs1 (by omega)).mono ?_
    rintro e w2 ⟨z, s2, k2, rfl, hz, hg2, hk2, hs2, hgr2⟩
    have HR2 := Lib.hid (HR1.out.grown hgr2 (by have := HG1.out.lt; omega) (fun g' e => by cases e; exact hB))
    have HG2 := Lib.hid hg2
    have HGR2 := Lib.hid (grown_trans HGR1.out hgr2)
    clear hg2 hgr2
    by_cases z0 : z = 0
    · subst z0
      go_wp2_with fail
      have HR3 := Lib.hid (HR2.out.alloc (by have := HG2.out.lt; omega) (.cells row10 2))
      have HG3 := Lib.hid (HG2.out.alloc (.cells row10 2))
      have HGR3 := Lib.hid (grown_trans HGR2.out (World.grownBy_alloc w2 (.cells row10 2) (some g)))
      refine (srcAmong_any A n c B g xs k2 s2 (w2.alloc (.cells row10 2)) w2.heap.size 10 10 row10 (fun _ => True) HR3.out hb hB HG3.out (by omega) hs2 (heap_alloc_new w2 _) (by have := HG2.out.lt; omega) (by omega) row10_at).mono ?_
      rintro e w4 ⟨y, s4, k4, rfl, _, hg4, hk4, hs4, hgr4⟩
      have HG4 := Lib.hid hg4
      have HGR4 := Lib.hid (grown_trans HGR3.out hgr4)
      clear hg4 hgr4
      go_wp2_with fail
      refine (l01From_any _ _).mono ?_
      rintro e w5 ⟨⟨x, rfl, hx⟩, rfl⟩
      have HX := Lib.hid (W32.lt hx)
      clear hx
      go_wp2_with fail
      go_ret
      exact ⟨x, s4, k4, rfl, HX.out, HG4.out, by omega, hs4, HGR4.out⟩
    · by_cases z1 : z = 1
      · subst z1
        go_wp2_with fail
        refine (srcPick_any A n c B g xs k2 s2 65536 _ HR2.out hb hB HG2.out (by omega) hs2 (by omega)).mono ?_
        rintro e w3 ⟨x3, s3, k3, rfl, hx3, hg3, hk3, hs3, hgr3⟩
        have HR3 := Lib.hid (HR2.out.grown hgr3 (by have := HG2.out.lt; omega) (fun g' e => by cases e; exact hB))
        have HG3 := Lib.hid hg3
        have HGR3 := Lib.hid (grown_trans HGR2.out hgr3)
        clear hg3 hgr3
        go_wp2_with fail
        refine (srcPick_any A n c B g xs k3 s3 65536 _ HR3.out hb hB HG3.out (by omega) hs3 (by omega)).mono ?_
        rintro e w4 ⟨x4, s4, k4, rfl, hx4, hg4, hk4, hs4, hgr4⟩
        have HG4 := Lib.hid hg4
        have HGR4 := Lib.hid (grown_trans HGR3.out hgr4)
        clear hg4 hgr4
        go_wp2_with fail
        refine (l01From_any _ _).mono ?_
        rintro e w5 ⟨⟨x, rfl, hx⟩, rfl⟩
        have HX := Lib.hid (W32.lt hx)
        clear hx
        go_wp2_with fail
        go_ret
        exact ⟨x, s4, k4, rfl, HX.out, HG4.out, by omega, hs4, HGR4.out⟩
      · by_cases z2 : z = 2
        · subst z2
          go_wp2_with fail
          refine (srcPick_any A n c B g xs k2 s2 65536 _ HR2.out hb hB HG2.out (by omega) hs2 (by omega)).mono ?_
          rintro e w3 ⟨x3, s3, k3, rfl, hx3, hg3, hk3, hs3, hgr3⟩
          have HG3 := Lib.hid hg3
          have HGR3 := Lib.hid (grown_trans HGR2.out hgr3)
          clear hg3 hgr3
          go_wp2_with fail
          refine (l01From_any _ _).mono ?_
          rintro e w5 ⟨⟨x, rfl, hx⟩, rfl⟩
          have HX := Lib.hid (W32.lt hx)
          clear hx
          go_wp2_with fail
          go_ret
          exact ⟨x, s3, k3, rfl, HX.out, HG3.out, by omega, hs3, HGR3.out⟩
        · have e0 : decide (z = 0) = false := by simp [z0]
          go_wp2_with fail
          refine (drawPlain_any A n c B g xs k2 s2 _ HR2.out hb hB HG2.out (by omega) hs2).mono ?_
          rintro e w3 ⟨x, s3, k3, rfl, hx, hg3, hk3, hs3, hgr3⟩
          have HR3 := Lib.hid (HR2.out.grown hgr3 (by have := HG2.out.lt; omega) (fun g' e => by cases e; exact hB))
          have HG3 := Lib.hid hg3
          have HGR3 := Lib.hid (grown_trans HGR2.out hgr3)
          clear hg3 hgr3 hx
          go_wp2_with fail
          have HR4 := Lib.hid (HR3.out.alloc (by have := HG3.out.lt; omega) (.cells row4 2))
          have HG4 := Lib.hid (HG3.out.alloc (.cells row4 2))
          have HGR4 := Lib.hid (grown_trans HGR3.out (World.grownBy_alloc w3 (.cells row4 2) (some g)))
          refine (srcAmong_any A n c B g xs k3 s3 (w3.alloc (.cells row4 2)) w3.heap.size 4 4 row4 (fun _ => True) HR4.out hb hB HG4.out (by omega) hs3 (heap_alloc_new w3 _) (by have := HG3.out.lt; omega) (by omega) row4_at).mono ?_
          rintro e w5 ⟨y, s5, k5, rfl, _, hg5, hk5, hs5, hgr5⟩
          have HG5 := Lib.hid hg5
          have HGR5 := Lib.hid (grown_trans HGR4.out hgr5)
          clear hg5 hgr5
          go_wp2_with fail
          refine (l01From_any _ _).mono ?_
          rintro e w6 ⟨⟨x', rfl, hx'⟩, rfl⟩
          clear hx'
          have t1 : True := trivial
          go_wp2_with (have := t1; clear this t1; refine wpList_fop _ rfl .mul _ _ _ _ rfl rfl .f32 _ _ rfl rfl ?_; intro r q hr)
          go_ret
          exact ⟨r, s5, k5, rfl, W32.of hr.out, SrcAt.drewN HG5.out q, by omega, hs5, grown_drewN HGR5.out q⟩
end
end Go.Proofs.YtijafnejdibdlaaGreatDoor
