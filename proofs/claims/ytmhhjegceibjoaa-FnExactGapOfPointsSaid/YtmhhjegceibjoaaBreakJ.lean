/- slices.Sort of finite float32: the breaking of patterns, whole. -/
import Derived.Test.YtmhhjegceibjoaaBreakI
import Derived.Lib.Strings
import Derived.Lib.Slices
import Derived.Lib.Walk
namespace Go.Proofs.Ytmhhjegceibjoaa
open Go.RowKit
set_option maxRecDepth 100000
attribute [local go_sem] run_store_float'
theorem len64_any (x : Int) (w : World) (h0 : 0 ≤ x) (h1 : x ≤ 60000) : Calls Try.prog 30 #[.int .u64 x] w fun e w' => e = .returned (.int .i64 (Lib.bitLen x.toNat)) ∧ w' = w := by
  have a1 : ¬ x ≥ 4294967296 := by omega
  have a2 : ¬ x ≥ 65536 := by omega
  by_cases hs : x < 256
  · have a3 : ¬ x ≥ 256 := by omega
    have hr := fun w => Lib.run_index_len8tab (P := Try.prog) w 9 .u8 x Try.underlying9 h0 (by omega)
    have hl := Lib.len8_of x h0 (by omega)
    have hb := Lib.bitLen_le8' x h0 (by omega)
    obtain ⟨m, hm⟩ : ∃ m : Nat, Lib.bitLen x.toNat = m := ⟨_, rfl⟩
    rw [hm] at hl hb ⊢
    rw [hl] at hr
    have hw : IntKind.i64.wrap (m : Int) = (m : Int) := by rw [IntKind.wrap_i64]; omega
    clear hl hm
    go_enter Try.func30, Try.ntmps30
    go_wp2_with fail
    go_ret
    exact ⟨rfl, rfl⟩
  · have a3 : x ≥ 256 := by omega
    have hsh := Lib.bitLen_shift8 x.toNat (by omega) (by omega)
    obtain ⟨y, hy⟩ : ∃ y : Nat, x / 256 = (y : Int) := ⟨(x / 256).toNat, by omega⟩
    have hyb : (y : Int) ≤ 255 := by omega
    have hyn : x.toNat / 256 = y := by omega
    have hr := fun w => Lib.run_index_len8tab (P := Try.prog) w 9 .u8 (y : Int) Try.underlying9 (by omega) hyb
    have hl := Lib.len8_of (y : Int) (by omega) hyb
    have hb := Lib.bitLen_le8' (y : Int) (by omega) hyb
    rw [Int.toNat_natCast] at hl hb
    rw [hyn] at hsh
    rw [hsh]
    obtain ⟨m, hm⟩ : ∃ m : Nat, Lib.bitLen y = m := ⟨_, rfl⟩
    rw [hm] at hl hb ⊢
    rw [hl] at hr
    have hw : IntKind.i64.wrap (m : Int) = (m : Int) := by rw [IntKind.wrap_i64]; omega
    clear hl hm hyn hsh
    go_enter Try.func30, Try.ntmps30
    go_wp2_with fail
    go_ret
    exact ⟨congrArg Ending.returned (congrArg (Value.int IntKind.i64) (by push_cast; omega)), rfl⟩
theorem len_any (x : Int) (w : World) (h0 : 0 ≤ x) (h1 : x ≤ 60000) : Calls Try.prog 18 #[.int .u64 x] w fun e w' => e = .returned (.int .i64 (Lib.bitLen x.toNat)) ∧ w' = w := by
  go_enter Try.func18, Try.ntmps18
  go_wp2_with fail
  refine (len64_any x _ h0 h1).mono ?_
  rintro e w1 ⟨rfl, rfl⟩
  go_wp2_with fail
  go_ret
  exact ⟨rfl, rfl⟩
theorem bitLen_256 : ∀ l : Fin 257, l.val < 8 ∨ (4 ≤ Lib.bitLen l.val ∧ Lib.bitLen l.val ≤ 9 ∧ 2 ^ (Lib.bitLen l.val - 1) ≤ l.val ∧ l.val < 2 ^ Lib.bitLen l.val) := by decide +kernel
set_option maxHeartbeats 1000000 in
theorem nextPow_any (l : Nat) (w : World) (h0 : 8 ≤ l) (h1 : l ≤ 256) : Calls Try.prog 32 #[.int .i64 l] w fun e w' => ∃ m : Nat, e = .returned (.int .u64 m) ∧ (l < m ∧ m ≤ 2 * l) ∧ w' = w := by
  have hb := bitLen_256 ⟨l, by omega⟩
  simp only at hb
  obtain ⟨b, hbl⟩ : ∃ b, Lib.bitLen l = b := ⟨_, rfl⟩
  rw [hbl] at hb
  have Hb := Lib.hid hbl
  clear hbl
  have hl : (l : Int) ≤ 60000 := by omega
  go_enter Try.func32, Try.ntmps32
  go_wp2_with fail
  refine (len_any (l : Int) _ (by omega) (by omega)).mono ?_
  rintro e w1 ⟨rfl, rfl⟩
  rw [Int.toNat_natCast, Hb.out]
  have hb9 : b = 4 ∨ b = 5 ∨ b = 6 ∨ b = 7 ∨ b = 8 ∨ b = 9 := by omega
  rcases hb9 with rfl | rfl | rfl | rfl | rfl | rfl
  · go_wp2_with fail
    go_ret
    exact ⟨16, rfl, by omega, rfl⟩
  · go_wp2_with fail
    go_ret
    exact ⟨32, rfl, by omega, rfl⟩
  · go_wp2_with fail
    go_ret
    exact ⟨64, rfl, by omega, rfl⟩
  · go_wp2_with fail
    go_ret
    exact ⟨128, rfl, by omega, rfl⟩
  · go_wp2_with fail
    go_ret
    exact ⟨256, rfl, by omega, rfl⟩
  · go_wp2_with fail
    go_ret
    exact ⟨512, rfl, by omega, rfl⟩
set_option maxHeartbeats 4000000 in
theorem break_any (g n c a b : Nat) (xs : List Nat) (w : World) (h : Dt w g n c xs) (hab : a + 12 < b) (hb : b ≤ n) (hn : n ≤ 256) :
    Calls Try.prog 22 #[.slice (some ⟨g, 0, none⟩) n c, .int .i64 a, .int .i64 b] w fun e w' => e = .returned (.tuple #[]) ∧ Fx w g n c a b xs (fun _ => True) w' := by
  have hgl := h.lt (by omega)
  have H := Lib.hid h
  clear h
  obtain ⟨l, hl⟩ : ∃ l : Nat, b = a + l := ⟨b - a, by omega⟩
  have hli : (b : Int) - (a : Int) = (l : Int) := by omega
  obtain ⟨q, hq⟩ : ∃ q : Nat, q = l / 4 := ⟨_, rfl⟩
  have hqd : (l : Int).tdiv 4 = (q : Int) := by rw [Int.tdiv_eq_ediv_of_nonneg (by omega)]; omega
  have hqw : IntKind.i64.wrap (q : Int) = (q : Int) := by rw [IntKind.wrap_i64]; omega
  obtain ⟨q2, hq2⟩ : ∃ q2 : Nat, q2 = q * 2 := ⟨_, rfl⟩
  have e2 : (q : Int) * 2 = (q2 : Int) := by omega
  obtain ⟨k, hk⟩ : ∃ k : Nat, k = a + q2 := ⟨_, rfl⟩
  have e3 : (a : Int) + (q2 : Int) = (k : Int) := by omega
  obtain ⟨k0, hk0⟩ : ∃ k0 : Nat, k = k0 + 1 := ⟨k - 1, by omega⟩
  have e4 : (k : Int) - 1 = (k0 : Int) := by omega
  obtain ⟨k1, hk1⟩ : ∃ k1 : Nat, k1 = k + 1 := ⟨_, rfl⟩
  have e5 : (k : Int) + 1 = (k1 : Int) := by omega
  have hbd : 13 ≤ l ∧ l ≤ 256 ∧ q ≤ 64 ∧ q2 ≤ 128 ∧ a ≤ 256 ∧ k ≤ 256 ∧ a < k0 ∧ k1 < b ∧ k0 + 2 = k1 := by omega
  have Hl := Lib.hid hl
  have h8 : (l : Int) ≥ 8 := by omega
  clear hl hq hq2 hk hk0 hk1
  have HS := Lib.hid (show BoxU (w.alloc (.cells #[.int .u64 l] 53)) w.heap.size l from heap_alloc_new w _)
  have H0 := Lib.hid (H.out.grown (World.grownBy_alloc w (.cells #[.int .u64 l] 53) none) (by simp))
  have HG0 : Hid (w.grownBy (w.alloc (.cells #[.int .u64 l] 53)) (some g)) := World.grownBy_alloc w _ (some g)
  obtain ⟨s, hs⟩ : ∃ s, w.heap.size = s := ⟨_, rfl⟩
  have hne : g ≠ s := by omega
  have Hs := Lib.hid hs
  go_enter Try.func22, Try.ntmps22
  go_wp2_with fail
  clear hs
  rw [Hs.out] at HS
  generalize w.alloc (.cells #[.int .u64 l] 53) = w0 at HS H0 HG0 ⊢
  refine (nextPow_any l _ (by omega) (by omega)).mono ?_
  rintro e w1 ⟨m, rfl, hm, rfl⟩
  obtain ⟨m1, hm1⟩ : ∃ m1 : Nat, m = m1 + 1 := ⟨m - 1, by omega⟩
  have hmi : (m : Int) - 1 = (m1 : Int) := by omega
  have hmb : m ≤ 512 ∧ m1 + 1 ≤ 2 * l ∧ m1 ≤ 512 := by omega
  clear hm1
  go_wp2_with fail
  go_loopw [9] (fun v wr => ∃ (i : Nat) (t : Int) (ys : List Nat), (k0 ≤ i ∧ i ≤ k1 + 1) ∧ v = .int .i64 i ∧ (0 ≤ t ∧ t < 18446744073709551616) ∧ Hid (BoxU wr s t) ∧ Hid (Dt wr g n c ys) ∧ Hid (w.grownBy wr (some g)) ∧ Hid (Sw a b xs ys)) (fun v _ => n + 1 - (intOf v).toNat)
  case atStart => exact ⟨k0, l, xs, by omega, rfl, by omega, HS, H0, HG0, Sw.refl _ _ _⟩
  case round =>
    obtain ⟨i, t, ys, hi, rfl, ht, hS, hD, hG, hW⟩ := hrel
    by_cases hlt : i ≤ k1
    · have hlt' : (i : Int) ≤ (k1 : Int) := by omega
      go_wp2_with fail
      refine (xnext_any s t _ hS.out ht).mono ?_
      rintro e w2 ⟨v, rfl, hv, hS2, hg2⟩
      have hD2 := Lib.hid (hD.out.grown hg2.out (by simpa using hne))
      have hG2 : Hid (w.grownBy w2 (some g)) := ⟨hg2.out.os.trans hG.out.os, hg2.out.tape.trans hG.out.tape, hg2.out.output.trans hG.out.output, Nat.le_trans hG.out.size hg2.out.size, fun p hp hn => (hg2.out.block p (Nat.lt_of_lt_of_le hp hG.out.size) (fun e => by injection e with e; have := Hs.out; omega)).trans (hG.out.block p hp hn)⟩
      have ha := andU v m1 hv (by omega)
      obtain ⟨o, ho⟩ : ∃ o : Nat, bits .and .u64 v (m1 : Int) = (o : Int) := ⟨(bits .and .u64 v (m1 : Int)).toNat, by omega⟩
      rw [ho] at ha
      have hwo : IntKind.i64.wrap (o : Int) = (o : Int) := by rw [IntKind.wrap_i64]; omega
      have hob : o ≤ m1 := by omega
      clear hS hD hG ha hg2
      obtain ⟨o2, ho2⟩ : ∃ o2 : Nat, o2 = if l ≤ o then o - l else o := ⟨_, rfl⟩
      have ho2l : o2 < l := by rw [ho2]; split <;> omega
      obtain ⟨p, hp⟩ : ∃ p : Nat, p = a + o2 := ⟨_, rfl⟩
      have hpi : (a : Int) + (o2 : Int) = (p : Int) := by omega
      have hpb : a ≤ p ∧ p < b := by have := Hl.out; omega
      have hib : a ≤ i ∧ i < b := by omega
      have hsw := hD2.out.swap (i := i) (j := p) (by omega) (by omega)
      have HS3 := Lib.hid hsw.1
      have HG3 := Lib.hid (grown_trans' hG2.out hsw.2)
      have HU3 := Lib.hid (hS2.out.grown hsw.2 (by simpa using hne.symm))
      have HW3 : Hid (Sw a b xs (swapL ys i p)) := hW.out.trans (Sw.swap hib hpb (by have := hW.out.len; have := hD2.out.len; omega))
      have hc1 := hD2.out.cell (i := i) (by omega)
      have hc2 := hD2.out.cell (i := p) (by omega)
      have hf1 := hD2.out.fz i
      have hf2 := hD2.out.fz p
      have hin : (i : Int) < (n : Int) := by omega
      have hpn : (p : Int) < (n : Int) := by omega
      obtain ⟨x, hx⟩ : ∃ x, ys.getD i 0 = x := ⟨_, rfl⟩
      obtain ⟨y, hy⟩ : ∃ y, ys.getD p 0 = y := ⟨_, rfl⟩
      rw [hx, hy] at HS3 HG3 HU3
      rw [hx] at hc1
      rw [hy] at hc2
      clear hx hy hp hsw
      by_cases hip : i = p
      · have hxy : x = y := by
          rw [hip] at hc1
          rw [hc1] at hc2
          injection hc2 with e
          injection e
        subst hxy
        subst hip
        clear hc2 hf2 hpn
        by_cases hol : l ≤ o
        · have hol' : (o : Int) ≥ (l : Int) := by omega
          have ho3 : (o : Int) - (l : Int) = (o2 : Int) := by rw [ho2, if_pos hol]; omega
          clear ho2
          go_wp2_with fail
          go_big_region
          go_wp2_with fail
          go_roundw
          case rel => exact ⟨i + 1, v, swapL ys i i, by omega, by go_num, hv, HU3.out, ⟨HS3.out.own, HS3.out.len, HS3.out.fin⟩, ⟨HG3.out.os, HG3.out.tape, HG3.out.output, HG3.out.size, HG3.out.block⟩, HW3⟩
          case measure => simp only [intOf]; omega
        · have hol' : ¬ (o : Int) ≥ (l : Int) := by omega
          obtain rfl : o2 = o := by rw [ho2, if_neg hol]
          clear ho2
          go_wp2_with fail
          go_big_region
          go_wp2_with fail
          go_roundw
          case rel => exact ⟨i + 1, v, swapL ys i i, by omega, by go_num, hv, HU3.out, ⟨HS3.out.own, HS3.out.len, HS3.out.fin⟩, ⟨HG3.out.os, HG3.out.tape, HG3.out.output, HG3.out.size, HG3.out.block⟩, HW3⟩
          case measure => simp only [intOf]; omega
      · by_cases hol : l ≤ o
        · have hol' : (o : Int) ≥ (l : Int) := by omega
          have ho3 : (o : Int) - (l : Int) = (o2 : Int) := by rw [ho2, if_pos hol]; omega
          clear ho2
          go_wp2_with fail
          go_big_region
          go_wp2_with fail
          go_roundw
          case rel => exact ⟨i + 1, v, swapL ys i p, by omega, by go_num, hv, HU3.out, ⟨HS3.out.own, HS3.out.len, HS3.out.fin⟩, ⟨HG3.out.os, HG3.out.tape, HG3.out.output, HG3.out.size, HG3.out.block⟩, HW3⟩
          case measure => simp only [intOf]; omega
        · have hol' : ¬ (o : Int) ≥ (l : Int) := by omega
          obtain rfl : o2 = o := by rw [ho2, if_neg hol]
          clear ho2
          go_wp2_with fail
          go_big_region
          go_wp2_with fail
          go_roundw
          case rel => exact ⟨i + 1, v, swapL ys i p, by omega, by go_num, hv, HU3.out, ⟨HS3.out.own, HS3.out.len, HS3.out.fin⟩, ⟨HG3.out.os, HG3.out.tape, HG3.out.output, HG3.out.size, HG3.out.block⟩, HW3⟩
          case measure => simp only [intOf]; omega
    · have hgt : ¬ (i : Int) ≤ (k1 : Int) := by omega
      go_wp2_with fail
      go_end0
      exact ⟨rfl, ys, hD, hG, hW, trivial⟩
end Go.Proofs.Ytmhhjegceibjoaa
