/- The seeds that the statements draw, and their small helpers. -/
import Derived.Test.YtgemcjcghnpmdaaSrc
import Derived.Test.YtgemcjcghnpmdaaTried
import Derived.Test.YtgemcjcghnpmdaaMixV
namespace Go.Proofs.Ytgemcjcghnpmdaa
open Go.RowKit
theorem srcPick_any (A : Option Addr) (n c B g : Nat) (xs : List Int) (k s m : Int) (w : World) (h : Rd w B A n (u8s xs)) (hb : Bytes xs) (hB : B ≤ g) (hg : SrcAt w g A n c k s) (hk : 0 ≤ k ∧ k ≤ 999000) (hs : 0 ≤ s ∧ s < 18446744073709551616) (hm : 2 ≤ m ∧ m ≤ 1000000000000) :
    Calls Try.prog 27 #[.pointer (some ⟨g, 0, none⟩), .int .i64 m] w fun e w' => ∃ x s' k', e = .returned (.int .i64 x) ∧ (0 ≤ x ∧ x < m) ∧ SrcAt w' g A n c k' s' ∧ (k ≤ k' ∧ k' ≤ k + 2) ∧ (0 ≤ s' ∧ s' < 18446744073709551616) ∧ w.grownBy w' (some g) := by
  have hnm : ¬ m ≤ 1 := by omega
  have hm0 : ¬ m = 0 := by omega
  have HR := Lib.hid h
  have HG := Lib.hid hg
  clear h hg
  go_enter Try.func27, Try.ntmps27
  go_wp2_with fail
  refine (srcNext_any A n c B g xs k s _ HR.out hb hB HG.out (by omega) hs).mono ?_
  rintro e w1 ⟨x, s1, rfl, hx, hg1, hs1, hgr1⟩
  have HG1 := Lib.hid hg1
  have HR1 := Lib.hid (HR.out.grown hgr1 (by have := HG.out.lt; omega) (fun g' e => by cases e; exact hB))
  have HGR := Lib.hid hgr1
  clear hg1 hgr1
  by_cases hbig : 200 < m
  · go_wp2_with fail
    refine (srcNext_any A n c B g xs (k + 1) s1 _ HR1.out hb hB HG1.out (by omega) hs1).mono ?_
    rintro e w2 ⟨y, s2, rfl, hy, hg2, hs2, hgr2⟩
    have HG2 := Lib.hid hg2
    have HGR2 := Lib.hid (grown_trans HGR.out hgr2)
    clear hg2 hgr2
    have h0 : 0 ≤ (x * 256 + y) % m := Int.emod_nonneg _ (by omega)
    have h1 : (x * 256 + y) % m < m := Int.emod_lt_of_pos _ (by omega)
    have e1 : (x * 256 + y).tmod m = (x * 256 + y) % m := Int.tmod_eq_emod_of_nonneg (by omega)
    go_wp2
    go_ret
    refine ⟨_, s2, k + 1 + 1, rfl, ?_, HG2.out, by omega, hs2, HGR2.out⟩
    first | exact ⟨h0, h1⟩ | (rw [e1]; exact ⟨h0, h1⟩)
  · have h0 : 0 ≤ x % m := Int.emod_nonneg _ (by omega)
    have h1 : x % m < m := Int.emod_lt_of_pos _ (by omega)
    have e1 : x.tmod m = x % m := Int.tmod_eq_emod_of_nonneg (by omega)
    go_wp2
    go_ret
    refine ⟨_, s1, k + 1, rfl, ?_, HG1.out, by omega, hs1, HGR.out⟩
    first | exact ⟨h0, h1⟩ | (rw [e1]; exact ⟨h0, h1⟩)
theorem specDrawOk_v (A : Option Addr) (n c B g : Nat) (xs : List Int) (w : World) (h : Rd w B A n (u8s xs)) (hb : Bytes xs) (hB : B ≤ g) (hg : SrcAt w g A n c 0 0) :
    Calls Try.prog 26 #[.pointer (some ⟨g, 0, none⟩)] w fun e w' => ∃ sd : Sd, sd.ok ∧ validB sd = true ∧ e = .returned sd.val ∧ Below g w w' := by
  have hgl := hg.lt
  have hz : SeedAt (w.alloc (.cells #[.int .i64 0, .int .u64 0, .int .u64 0] 26)) w.heap.size ⟨0, 0, 0⟩ := SeedAt.new w 0 0 0
  have HG := Lib.hid (hg.alloc (.cells #[.int .i64 0, .int .u64 0, .int .u64 0] 26))
  have HR := Lib.hid (h.alloc (by omega) (.cells #[.int .i64 0, .int .u64 0, .int .u64 0] 26))
  have HB : Hid (Below g w (w.alloc (.cells #[.int .i64 0, .int .u64 0, .int .u64 0] 26))) := (Below.refl _ _).alloc (by omega) _
  have hsz : (w.alloc (.cells #[.int .i64 0, .int .u64 0, .int .u64 0] 26)).heap.size = w.heap.size + 1 := size_alloc' _ _
  have HZ := Lib.hid hz
  clear h hg hz
  go_enter Try.func26, Try.ntmps26
  go_wp2_with fail
  refine (srcPick_any A n c B g xs 0 0 4 _ HR.out hb hB HG.out (by omega) (by omega) (by omega)).mono ?_
  rintro e w1 ⟨x, s1, k1, rfl, hx, hg1, hk1, hs1, hgr1⟩
  generalize w.alloc (.cells #[.int .i64 0, .int .u64 0, .int .u64 0] 26) = w0 at HG HR HB HZ hsz hgr1
  have hgs : w.heap.size + 1 ≤ w1.heap.size := by have := hgr1.size; omega
  have hne1 : some w.heap.size ≠ some g := fun e => by cases e; omega
  have HB1 := Lib.hid (HB.out.grown hgr1 (by rw [hsz]; omega) (fun j e => by cases e; omega))
  have HZ1 := Lib.hid (HZ.out.grown hgr1 hne1)
  have HR1 := Lib.hid (HR.out.grown hgr1 (by omega) (fun j e => by cases e; omega))
  have hO : SeedAt (w1.alloc (.cells #[.int .i64 x, .int .u64 0, .int .u64 0] 26)) w1.heap.size ⟨x, 0, 0⟩ := SeedAt.new w1 x 0 0
  have hG2 := hg1.alloc (.cells #[.int .i64 x, .int .u64 0, .int .u64 0] 26)
  have hR2 := HR1.out.alloc (by have := hg1.lt; omega) (.cells #[.int .i64 x, .int .u64 0, .int .u64 0] 26)
  have hB2 := HB1.out.alloc (by omega) (.cells #[.int .i64 x, .int .u64 0, .int .u64 0] 26)
  have hZ2 := HZ1.out.alloc (.cells #[.int .i64 x, .int .u64 0, .int .u64 0] 26)
  have hw2 : (w1.alloc (.cells #[.int .i64 x, .int .u64 0, .int .u64 0] 26)).heap.size = w1.heap.size + 1 := size_alloc' _ _
  have HO2 := Lib.hid hO; have HG2 := Lib.hid hG2; have HR2 := Lib.hid hR2; have HB2 := Lib.hid hB2; have HZ2 := Lib.hid hZ2
  clear hO hG2 hR2 hB2 hZ2 HB1 HZ1 HR1 HG HR HB HZ hg1 hgr1
  go_wp2_with fail
  refine (srcPick_any A n c B g xs k1 s1 1000000 _ HR2.out hb hB HG2.out (by omega) hs1 (by omega)).mono ?_
  rintro e w3 ⟨y, s3, k3, rfl, hy, hg3, hk3, hs3, hgr3⟩
  generalize w1.alloc (.cells #[.int .i64 x, .int .u64 0, .int .u64 0] 26) = w2 at HO2 HG2 HR2 HB2 HZ2 hw2 hgr3
  have hro : w.heap.size < w1.heap.size ∧ g < w.heap.size ∧ g < w2.heap.size := by omega
  have hyw : IntKind.u64.wrap y = y := u64_id _ (by omega)
  have HO3 := Lib.hid (HO2.out.grown hgr3 (fun e => by cases e; omega))
  have HZ3 := Lib.hid (HZ2.out.grown hgr3 (fun e => by cases e; omega))
  have HB3 := Lib.hid (HB2.out.grown hgr3 (by omega) (fun j e => by cases e; omega))
  have HR3 := Lib.hid (HR2.out.grown hgr3 (by omega) (fun j e => by cases e; omega))
  have HG3 := Lib.hid hg3
  have hsz3 : w1.heap.size < w3.heap.size := HO3.out.lt
  clear HO2 HZ2 HB2 HR2 HG2 hg3 hgr3
  go_wp2_with fail
  refine (specMix_any _ _).mono ?_
  rintro e w4 ⟨rfl, rfl⟩
  have hma0 : 0 ≤ mixI (y + 1) ∧ mixI (y + 1) < 18446744073709551616 := ⟨mixI_ge _, mixI_lt _⟩
  have hval := fun z => drawn_valid (z := z) hx hy
  generalize mixI (y + 1) = ma at hma0 hval ⊢
  have f1 := HO3.out.fz 1
  have q1 := HO3.out.c1
  have HO4 : Hid (SeedAt (w3.setCell ⟨w1.heap.size, 1, none⟩ (.int .u64 ma)) w1.heap.size ⟨x, ma, 0⟩) := HO3.out.set_a ma
  have HZ4 : Hid (SeedAt (w3.setCell ⟨w1.heap.size, 1, none⟩ (.int .u64 ma)) w.heap.size ⟨0, 0, 0⟩) := HZ3.out.far (p := ⟨w1.heap.size, 1, none⟩) (fun e => by simp only at e; omega) _
  have HG4 : Hid (SrcAt (w3.setCell ⟨w1.heap.size, 1, none⟩ (.int .u64 ma)) g A n c k3 s3) := HG3.out.far (p := ⟨w1.heap.size, 1, none⟩) (fun e => by simp only at e; omega) _
  have HR4 : Hid (Rd (w3.setCell ⟨w1.heap.size, 1, none⟩ (.int .u64 ma)) B A n (u8s xs)) := HR3.out.setCell (p := ⟨w1.heap.size, 1, none⟩) (by show B ≤ w1.heap.size; omega) _
  have HB4 : Hid (Below g w (w3.setCell ⟨w1.heap.size, 1, none⟩ (.int .u64 ma))) := HB3.out.setCell (p := ⟨w1.heap.size, 1, none⟩) (by show g ≤ w1.heap.size; omega) _
  have hsz4 : (w3.setCell ⟨w1.heap.size, 1, none⟩ (.int .u64 ma)).heap.size = w3.heap.size := by simp [World.setCell]
  clear HO3 HZ3 HG3 HR3 HB3
  go_wp2_with fail
  clear f1 q1
  refine (srcPick_any A n c B g xs k3 s3 1000000 _ HR4.out hb hB HG4.out (by omega) hs3 (by omega)).mono ?_
  rintro e w5 ⟨z, s5, k5, rfl, hz, hg5, hk5, hs5, hgr5⟩
  generalize w3.setCell ⟨w1.heap.size, 1, none⟩ (.int .u64 ma) = w4 at HO4 HG4 HR4 HB4 HZ4 hsz4 hgr5
  have hzw : IntKind.u64.wrap z = z := u64_id _ (by omega)
  have HO5 := Lib.hid (HO4.out.grown hgr5 (fun e => by cases e; omega))
  have HZ5 := Lib.hid (HZ4.out.grown hgr5 (fun e => by cases e; omega))
  have HB5 := Lib.hid (HB4.out.grown hgr5 (by omega) (fun j e => by cases e; omega))
  have hsz5 : w1.heap.size < w5.heap.size := HO5.out.lt
  clear HO4 HZ4 HB4 HR4 HG4 hg5 hgr5
  go_wp2_with fail
  refine (specMix_any _ _).mono ?_
  rintro e w6 ⟨rfl, rfl⟩
  have hmb0 : 0 ≤ bits .or .u64 (mixI (z + 7)) 1 ∧ bits .or .u64 (mixI (z + 7)) 1 < 18446744073709551616 := ⟨or_ge _ _, or_lt _ _⟩
  have hval2 := hval z
  generalize hmb : bits .or .u64 (mixI (z + 7)) 1 = mb at hmb0 hval2
  have Hval := Lib.hid hval2
  clear hval hval2
  have f2 := HO5.out.fz 2
  have q2 := HO5.out.c2
  have HO6 : Hid (SeedAt (w5.setCell ⟨w1.heap.size, 2, none⟩ (.int .u64 mb)) w1.heap.size ⟨x, ma, mb⟩) := HO5.out.set_b mb
  have HZ6 : Hid (SeedAt (w5.setCell ⟨w1.heap.size, 2, none⟩ (.int .u64 mb)) w.heap.size ⟨0, 0, 0⟩) := HZ5.out.far (p := ⟨w1.heap.size, 2, none⟩) (fun e => by simp only at e; omega) _
  have HB6 : Hid (Below g w (w5.setCell ⟨w1.heap.size, 2, none⟩ (.int .u64 mb))) := HB5.out.setCell (p := ⟨w1.heap.size, 2, none⟩) (by show g ≤ w1.heap.size; omega) _
  have o0 := HO6.out.c0
  have o1 := HO6.out.c1
  have o2 := HO6.out.c2
  have y0 := HZ6.out.c0
  have y1 := HZ6.out.c1
  have y2 := HZ6.out.c2
  have z0 := HZ6.out.fz 0
  have z1 := HZ6.out.fz 1
  have z2 := HZ6.out.fz 2
  go_wp2
  (try simp only [Exit.inBlock, Exit.then])
  refine bodyPost_ret (results_s1 rfl _ rfl (HZ6.out.set3 _ _ _)) rfl ?_
  exact ⟨⟨x, ma, mb⟩, ⟨by simp only; omega, hma0, hmb0⟩, Hval.out, rfl, below_set3 HB6.out (by omega) _ _ _⟩
theorem l00From_any (A : Option Addr) (n c : Nat) (w : World) :
    Calls Try.prog 25 #[.slice A n c] w fun e w' => e = .returned (.pointer (some ⟨w.heap.size, 0, none⟩)) ∧ w' = w.alloc (.cells #[.slice A n c, .int .i64 0, .int .u64 0] 83) := by
  go_enter Try.func25, Try.ntmps25
  go_wp2
  go_ret
  exact ⟨rfl, rfl⟩
theorem b10Seed_v (A : Option Addr) (n c B : Nat) (xs : List Int) (w : World) (h : Rd w B A n (u8s xs)) (hb : Bytes xs) (hB : B ≤ w.heap.size) :
    Calls Try.prog 5 #[.slice A n c] w fun e w' => ∃ sd : Sd, sd.ok ∧ validB sd = true ∧ e = .returned sd.val ∧ Below w.heap.size w w' := by
  have HZ := Lib.hid (SeedAt.new w 0 0 0)
  have HR := Lib.hid (h.alloc hB (.cells #[.int .i64 0, .int .u64 0, .int .u64 0] 26))
  have HB : Hid (Below w.heap.size w (w.alloc (.cells #[.int .i64 0, .int .u64 0, .int .u64 0] 26))) := (Below.refl _ _).alloc (Nat.le_refl _) _
  have hsz : (w.alloc (.cells #[.int .i64 0, .int .u64 0, .int .u64 0] 26)).heap.size = w.heap.size + 1 := size_alloc' _ _
  clear h
  go_enter Try.func5, Try.ntmps5
  go_wp2_with fail
  refine (l00From_any A n c _).mono ?_
  rintro e w2 ⟨rfl, rfl⟩
  generalize w.alloc (.cells #[.int .i64 0, .int .u64 0, .int .u64 0] 26) = w1 at HZ HR HB hsz
  have hG2 := SrcAt.new w1 A n c 0 0
  rw [hsz] at hG2
  have HG2 := Lib.hid hG2
  clear hG2
  have HZ2 := Lib.hid (HZ.out.alloc (.cells #[.slice A n c, .int .i64 0, .int .u64 0] 83))
  have HR2 := Lib.hid (HR.out.alloc (by omega) (.cells #[.slice A n c, .int .i64 0, .int .u64 0] 83))
  have HB2 := Lib.hid (HB.out.alloc (by omega) (.cells #[.slice A n c, .int .i64 0, .int .u64 0] 83))
  generalize w1.alloc (.cells #[.slice A n c, .int .i64 0, .int .u64 0] 83) = w2 at HG2 HZ2 HR2 HB2
  go_wp2_with fail
  refine (specDrawOk_v A n c B (w.heap.size + 1) xs _ HR2.out hb (by omega) HG2.out).mono ?_
  rintro e w3 ⟨sd, hsd, hvd, rfl, hb3⟩
  have Hvd := Lib.hid hvd
  clear hvd
  unfold Sd.val
  have HZ3 := Lib.hid (HZ2.out.below hb3 (by omega))
  have HB3 := Lib.hid (HB2.out.trans (hb3.mono (by omega)))
  have y0 := HZ3.out.c0
  have y1 := HZ3.out.c1
  have y2 := HZ3.out.c2
  have z0 := HZ3.out.fz 0
  have z1 := HZ3.out.fz 1
  have z2 := HZ3.out.fz 2
  go_wp2
  (try simp only [Exit.inBlock, Exit.then])
  refine bodyPost_ret (results_s1 rfl _ rfl (HZ3.out.set3 _ _ _)) rfl ?_
  exact ⟨sd, hsd, Hvd.out, rfl, below_set3 HB3.out (Nat.le_refl _) _ _ _⟩
theorem b10Seed_any (A : Option Addr) (n c B : Nat) (xs : List Int) (w : World) (h : Rd w B A n (u8s xs)) (hb : Bytes xs) (hB : B ≤ w.heap.size) :
    Calls Try.prog 5 #[.slice A n c] w fun e w' => ∃ sd : Sd, sd.ok ∧ e = .returned sd.val ∧ Below w.heap.size w w' :=
  (b10Seed_v A n c B xs w h hb hB).mono fun _ _ ⟨sd, h1, _, h2, h3⟩ => ⟨sd, h1, h2, h3⟩
theorem b10Long_any (A A' : Option Addr) (n c n' c' : Nat) (w : World) (h : n ≤ maxLen) (h' : n' ≤ maxLen) :
    Calls Try.prog 4 #[.slice A n c, .slice A' n' c'] w fun e w' => e = .returned (.bool (decide (1048576 < n ∨ 1048576 < n'))) ∧ w' = w := by
  unfold maxLen at h h'
  go_enter Try.func4, Try.ntmps4
  by_cases h0 : 1048576 < n
  · have h1 : (1048576 : Int) < (n : Int) := by omega
    have h2 : decide (1048576 < n ∨ 1048576 < n') = true := by simp [h0]
    rw [h2]
    go_wp2
    go_ret
    exact ⟨rfl, rfl⟩
  · have h1 : ¬ (1048576 : Int) < (n : Int) := by omega
    by_cases h0' : 1048576 < n'
    · have h1' : (1048576 : Int) < (n' : Int) := by omega
      have h2 : decide (1048576 < n ∨ 1048576 < n') = true := by simp [h0']
      rw [h2]
      go_wp2
      go_ret
      exact ⟨rfl, rfl⟩
    · have h1' : ¬ (1048576 : Int) < (n' : Int) := by omega
      have h2 : decide (1048576 < n ∨ 1048576 < n') = false := by simp [h0, h0']
      rw [h2]
      go_wp2
      go_ret
      exact ⟨rfl, rfl⟩
theorem b10At_any (A : Option Addr) (n c B : Nat) (xs : List Int) (i m : Int) (w : World) (h : Rd w B A n (u8s xs)) (hb : Bytes xs) (hi : 0 ≤ i ∧ i ≤ 1000000) (hm : 1 ≤ m ∧ m ≤ 1000000) :
    Calls Try.prog 6 #[.slice A n c, .int .i64 i, .int .i64 m] w fun e w' => ∃ x, e = .returned (.int .i64 x) ∧ (0 ≤ x ∧ x < m) ∧ ∃ q, w' = w.drewN q := by
  obtain ⟨j, rfl⟩ : ∃ j : Nat, i = (j : Int) := ⟨i.toNat, by omega⟩
  go_enter Try.func6, Try.ntmps6
  by_cases h1 : m ≤ 1
  · go_wp2
    go_ret
    exact ⟨0, rfl, by omega, 0, rfl⟩
  · have h0 : ¬ m = 0 := by omega
    by_cases hlt : j < n
    · have hlt' : (j : Int) < (n : Int) := by omega
      obtain ⟨b, off, x, rfl, hlt2, hx, hc⟩ := h.atB hb hlt
      have hm0 : 0 ≤ x % m := Int.emod_nonneg _ (by omega)
      have hm1 : x % m < m := Int.emod_lt_of_pos _ (by omega)
      go_wp2
      go_ret
      exact ⟨x % m, rfl, ⟨hm0, hm1⟩, 0, rfl⟩
    · have hlt' : ¬ (j : Int) < (n : Int) := by omega
      have hm0 : 0 ≤ ((j : Int) * 37 + 11) % m := Int.emod_nonneg _ (by omega)
      have hm1 : ((j : Int) * 37 + 11) % m < m := Int.emod_lt_of_pos _ (by omega)
      go_wp2
      go_ret
      exact ⟨((j : Int) * 37 + 11) % m, rfl, ⟨hm0, hm1⟩, 0, rfl⟩
theorem b10Ints_same (A A' : Option Addr) (n n' c c' B B' : Nat) (xs : List Int) (w : World) (h : Rd w B A n (i64s xs)) (h' : Rd w B' A' n' (i64s xs)) (hn : n ≤ maxLen) :
    Calls Try.prog 19 #[.slice A n c, .slice A' n' c'] w fun e w' => e = .returned (.bool true) ∧ ∃ q, w' = w.drewN q := by
  have hl := h.lenI
  have hl' := h'.lenI
  obtain rfl : xs.length = n := hl.out
  obtain rfl : xs.length = n' := hl'.out
  clear hl hl'
  unfold maxLen at hn
  obtain ⟨m, hm⟩ : ∃ m, m = xs.length := ⟨_, rfl⟩
  have Hm := Lib.hid hm
  rw [← hm] at h h' hn ⊢
  clear hm
  go_enter Try.func19, Try.ntmps19
  go_wp2
  go_loopw [13] (fun i wr => ∃ (k q : Nat), k ≤ m ∧ i = .int .i64 k ∧ wr = w.drewN q) (fun i _ => m - (intOf i).toNat)
  case atStart => exact ⟨0, 0, by omega, rfl, rfl⟩
  case round =>
    obtain ⟨k, q, hk, rfl, rfl⟩ := hrel
    by_cases hlt : k < m
    · have hlt' : (k : Int) < (m : Int) := by omega
      have h0 : (0 : Int) ≤ (k : Int) := by omega
      obtain ⟨b, off, x, rfl, _, hx, hc⟩ := h.atI hlt
      obtain ⟨b', off', x', rfl, _, hx', hc'⟩ := h'.atI hlt
      obtain rfl : x = x' := by have := hx.out.symm.trans hx'.out; simpa using this
      clear h h'
      have hxx : (x != x) = false := by simp
      go_wp2
      go_quiet (fail)
      go_wp2
      go_roundw
      case rel => exact ⟨k + 1, q + nq, by omega, by go_num, rfl⟩
      case measure => simp only [intOf]; omega
    · obtain rfl : k = m := by omega
      have hnl : ¬ (k : Int) < (k : Int) := by omega
      go_wp2
      go_ret
      exact ⟨rfl, q, rfl⟩
end Go.Proofs.Ytgemcjcghnpmdaa
