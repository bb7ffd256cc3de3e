/- The statement FnPicks's helpers: weights drawn, the gap of two numbers. -/
import Derived.Test.YtgemcjcghnpmdaaPkP
import Derived.Test.YtgemcjcghnpmdaaB10
import Derived.Test.YtgemcjcghnpmdaaEmitF
namespace Go.Proofs.Ytgemcjcghnpmdaa
open Go.RowKit
set_option maxHeartbeats 1000000 in
theorem b10Picks_v (A : Option Addr) (n c B : Nat) (xs : List Int) (m : Nat) (w : World) (h : Rd w B A n (u8s xs)) (hb : Bytes xs) (hB : B ≤ w.heap.size) (hm : m ≤ 100) :
    Calls Try.prog 7 #[.slice A n c, .int .i64 m] w fun e w' => ∃ (v : Value) (ks : List Nat), e = .returned v ∧ Own w' w.heap.size 40 v (f32s (ks.map wtF)) ∧ ks.length = m ∧ Hid (∀ k ∈ ks, 1 ≤ k ∧ k < 17) ∧ Below w.heap.size w w' := by
  have HR := Lib.hid h
  have Hb := Lib.hid hb
  clear h hb
  go_enter Try.func7, Try.ntmps7
  go_wp2_with fail
  refine (l00From_any A n c _).mono ?_
  rintro e w1 ⟨rfl, rfl⟩
  have HS := Lib.hid (SrcAt.new w A n c 0 0)
  have HR1 := Lib.hid (HR.out.alloc hB (.cells #[.slice A n c, .int .i64 0, .int .u64 0] 83))
  have HB1 : Hid (Below w.heap.size w (w.alloc (.cells #[.slice A n c, .int .i64 0, .int .u64 0] 83))) := (Below.refl _ _).alloc (Nat.le_refl _) _
  have hsz : Hid ((w.alloc (.cells #[.slice A n c, .int .i64 0, .int .u64 0] 83)).heap.size = w.heap.size + 1) := size_alloc' _ _
  generalize w.alloc (.cells #[.slice A n c, .int .i64 0, .int .u64 0] 83) = w1 at HS HR1 HB1 hsz ⊢
  go_wp2_with fail
  go_loopw [1, 6] (fun i v wr => ∃ (k : Nat) (ks : List Nat) (kk s : Int), k ≤ m ∧ i = .int .i64 ((m : Int) - (k : Int)) ∧ Hid (ks.length = k) ∧ Hid (∀ j ∈ ks, 1 ≤ j ∧ j < 17) ∧ Own wr w1.heap.size 40 v (f32s (ks.map wtF)) ∧ SrcAt wr w.heap.size A n c kk s ∧ (0 ≤ kk ∧ kk ≤ 2 * (k : Int)) ∧ (0 ≤ s ∧ s < 18446744073709551616) ∧ Below w.heap.size w wr ∧ w1.heap.size ≤ wr.heap.size) (fun i _ _ => (intOf i).toNat)
  case atStart => exact ⟨0, [], 0, 0, Nat.zero_le _, by simp, rfl, (fun j hj => by simp at hj), own_new w1 _ (Nat.le_refl _), HS.out.alloc _, by omega, by omega, HB1.out.alloc (by have := hsz.out; omega) _, by rw [size_alloc']; omega⟩
  case round =>
    obtain ⟨k, ks, kk, s, hk, rfl, hkl, hall, hO, hS, hkk, hs, hB2, hle⟩ := hrel
    have HO := Lib.hid hO; have HS2 := Lib.hid hS; have HB2 := Lib.hid hB2
    clear hO hS hB2
    by_cases hlt : k < m
    · have hpos : 0 < (m : Int) - (k : Int) := by omega
      go_wp2_with fail
      refine (srcPick_any A n c B w.heap.size xs kk s 16 _ (HR.out.below HB2.out hB) Hb.out hB HS2.out (by omega) hs (by omega)).mono ?_
      rintro e w3 ⟨x, s', k', rfl, hx, hS3, hk', hs', hgr⟩
      obtain ⟨y, hy⟩ : ∃ y : Nat, (1 : Int) + x = (y : Int) := ⟨(1 + x).toNat, by omega⟩
      have hy16 : 1 ≤ y ∧ y < 17 := by omega
      have HO3 := Lib.hid (HO.out.kept hgr (by
        by_cases e : u6.ownBlock = none
        · exact .inl e
        · right
          intro e2
          have := (HO.out.lt _ e2).1
          have := hsz.out
          omega))
      have HS3 := Lib.hid hS3
      have HB3 := Lib.hid (HB2.out.grown hgr (by have := HB1.out.size; have := hsz.out; omega) (fun g e => by cases e; exact Nat.le_refl _))
      have hle3 : w1.heap.size ≤ w3.heap.size := by have := hgr.size; omega
      clear hS3 hgr
      have hqn := (wt_In hy16.2).num
      have hqd : fop .quo .f32 (floatOfInt .f32 (y : Int)) 1082130432 = wtF y := rfl
      have hquo := fun (t : TypeId) (w : World) => run_fop_num2 (P := Try.prog) hqd hqn t w
      have hkl2 : (ks.map wtF).length ≤ 2000000 := by rw [List.length_map, hkl.out]; omega
      clear hqn hqd
      go_wp2_with (at_builtin; go_must (refine emitF2 w3 rfl _ _ rfl w1.heap.size u6 (ks.map wtF) rfl HO3.out (wtF y) rfl hkl2 hle3 ?_))
      intro v' w4 hO' hg hor
      have hmap : ks.map wtF ++ [wtF y] = (ks ++ [y]).map wtF := by simp
      rw [hmap] at hO'
      have HO4 := Lib.hid hO'
      have HS4 := Lib.hid (HS3.out.grown hg (fun e => by have := (HO3.out.lt _ e.symm).1; have := hsz.out; omega))
      have HB4 := Lib.hid (HB3.out.grown hg (by have := HB1.out.size; have := hsz.out; omega) (fun g e => by have := (HO3.out.lt g e).1; have := hsz.out; omega))
      have hle4 : w1.heap.size ≤ w4.heap.size := by have := hg.size; omega
      have hkl3 : Hid ((ks ++ [y]).length = k + 1) := by show _ = _; rw [List.length_append, hkl.out]; rfl
      have hall3 : Hid (∀ j ∈ ks ++ [y], 1 ≤ j ∧ j < 17) := fun j hj => by
        rcases List.mem_append.1 hj with h | h
        · exact hall.out j h
        · rw [List.mem_singleton.1 h]; exact hy16
      clear hO' hg hor hmap hkl2 hquo HO HS2 HB2 HO3 HS3 HB3
      go_wp2
      go_roundw
      case rel => exact ⟨k + 1, ks ++ [y], k', s', by omega, by go_num, hkl3, hall3, HO4.out, HS4.out, by omega, hs', HB4.out, hle4⟩
      case measure => simp only [intOf]; omega
    · obtain rfl : k = m := by omega
      have hnp : ¬ 0 < (k : Int) - (k : Int) := by omega
      go_wp2
      go_ret
      exact ⟨_, rfl, ks, HO.out.base_le (by have := hsz.out; omega), hkl.out, hall, HB2.out⟩
/-- The gap of two numbers whose bounds are known. -/
theorem b10Gap_v (x y : Nat) (a b c d : Int) (w : World) (hx : In .f64 a b x) (hy : In .f64 c d y) (h1 : -100 ≤ a - d) (h2 : b - c ≤ 100) (ha : -8000000 ≤ a ∧ b ≤ 8000000) :
    Calls Try.prog 12 #[.float .f64 x, .float .f64 y] w fun e w' => ∃ z, e = .returned (.float .f64 z) ∧ Hid (In .f64 (-200) 200 z) ∧ Below w.heap.size w w' := by
  have hab := hx.le
  have hcd := hy.le
  have s1 := (hx.sub hy (by unfold lim; omega) (by unfold lim; omega)).weak (c := -200) (d := 200) (by omega) (by omega)
  have s2 := (hy.sub hx (by unfold lim; omega) (by unfold lim; omega)).weak (c := -200) (d := 200) (by omega) (by omega)
  have hs1 := fun (t : TypeId) (w : World) => run_fop_num2 (P := Try.prog) (rfl : fop .sub .f64 x y = fop .sub .f64 x y) s1.num t w
  have hs2 := fun (t : TypeId) (w : World) => run_fop_num2 (P := Try.prog) (rfl : fop .sub .f64 y x = fop .sub .f64 y x) s2.num t w
  have S1 := Lib.hid s1; have S2 := Lib.hid s2
  clear s1 s2 hx hy
  go_enter Try.func12, Try.ntmps12
  cases hl : flt .f64 x y with
  | true =>
    unfold flt at hl
    go_wp2
    go_ret
    exact ⟨_, rfl, S2, Below.refl _ _⟩
  | false =>
    unfold flt at hl
    go_wp2
    go_ret
    exact ⟨_, rfl, S1, Below.refl _ _⟩
end Go.Proofs.Ytgemcjcghnpmdaa
