/- RunsIn: sixteen counts, how many runs there are, and what they weigh at least. -/
import Derived.Test.YtlgpcojoonnlbaaBools
import Derived.Test.YtlgpcojoonnlbaaBump
import Derived.Test.YtlgpcojoonnlbaaWordsP
namespace Go.Proofs.Ytlgpcojoonnlbaa
open Go.RowKit
set_option maxRecDepth 100000
set_option maxHeartbeats 4000000 in
theorem implRuns_p (A : Option Addr) (n c B : Nat) (bs : List Bool) (w : World) (h : Rd w B A n (bolS bs)) (hB : B ≤ w.heap.size) (hn : 1 ≤ bs.length ∧ bs.length ≤ 8192) :
    Calls Try.prog 9 #[.slice A n c] w fun e w' => ∃ v ys, e = .returned (.tuple #[v, .bool true]) ∧ Own w' w.heap.size 2 v (i64s ys) ∧ ys.length = 16 ∧ totN ys = chgN bs ∧ wsumN 0 ys ≤ bs.length ∧ bdN ys bs.length ∧ Below w.heap.size w w' := by
  have hl := h.lenT
  obtain rfl : bs.length = n := hl.out
  have HR := Lib.hid h
  clear h hl
  have hn1 : ¬ (bs.length : Int) < 1 := by omega
  have hn2 : ¬ (bs.length : Int) > 8192 := by omega
  obtain ⟨i0, hi0, hz0, hz1, hz2⟩ := info_parts info_i64'
  go_enter Try.func9, Try.ntmps9
  go_wp2_with (at_make; refine wpList_make_full _ rfl _ _ 29 rfl w.heap.size 2 i0 (.int .i64 0) 1 Try.underlying29 hi0 hz0 hz1 _ _ _ _ 16 rfl rfl rfl rfl ?c1 ?c2 ?c3 ?_)
  try case c1 => (rw [hz2]; omega)
  try case c2 => (unfold maxLen; omega)
  try case c3 => exact Nat.le_refl _
  intro w1 hown hgrow
  clear hi0 hz0 hz1 hz2
  have ho1 : Own w1 w.heap.size 2 (.slice (some ⟨w.heap.size, 0, none⟩) 16 16) (i64s (List.replicate 16 0)) := by
    unfold Own
    rw [madeCells_one] at hown
    simpa [i64s] using hown
  have HO := Lib.hid ho1
  have HB := Lib.hid ((Below.refl w.heap.size w).grown hgrow (Nat.le_refl _) (by simp))
  clear hown ho1 hgrow
  go_wp2
  go_loopw [5, 19] (fun r i wr => ∃ (k : Nat) (u : Nat) (ys : List Int), k ≤ bs.length ∧ i = .int .i64 k ∧ r = .int .i64 u ∧ ys.length = 16 ∧ Hid (totN ys + (chgN (bs.drop k) : Int) = chgN bs) ∧ Hid (wsumN 0 ys + u ≤ k) ∧ Hid (bdN ys k) ∧ u ≤ k ∧ Own wr w.heap.size 2 (.slice (some ⟨w.heap.size, 0, none⟩) 16 16) (i64s ys) ∧ Below w.heap.size w wr) (fun _ i _ => bs.length - (intOf i).toNat)
  case atStart => exact ⟨0, 0, _, Nat.zero_le _, rfl, rfl, by simp, by show _ = _; rw [totN_zero, List.drop_zero]; omega, by show _ ≤ _; rw [wsumN_zero]; omega, bdN_zero 16 (by omega), by omega, HO.out, HB.out⟩
  case round =>
    obtain ⟨k, u, ys, hk, rfl, rfl, hyl, Ht, Hw, Hb, huk, hO, hbel⟩ := hrel
    have HO' := Lib.hid hO; have HB' := Lib.hid hbel
    clear hO hbel
    by_cases hlt : k < bs.length
    · have hlt' : (k : Int) < (bs.length : Int) := by omega
      have hR2 := HR.out.below HB'.out hB
      obtain ⟨b, off, x, rfl, hbB, hx, hcx⟩ := hR2.atT (k := k) hlt
      have hch := Lib.hid (chgN_at hx.out)
      obtain ⟨e, he⟩ : ∃ e : Nat, Hid ((u < 16 ∧ e = u) ∨ (16 ≤ u ∧ e = 15)) := by
        by_cases hu : u < 16
        · exact ⟨u, .inl ⟨hu, rfl⟩⟩
        · exact ⟨15, .inr ⟨by omega, rfl⟩⟩
      have he16 : e < 16 := by have := he.out; omega
      have heu : e ≤ u := by have := he.out; omega
      obtain ⟨g, y, hA, hy, hcy, hfy⟩ := HO'.out.atI (k := e) (by omega)
      obtain rfl : w.heap.size = g := by injection hA with e; injection e
      have hyd : y = ys.getD e 0 := by rw [List.getD_eq_getElem?_getD, hy.out]; rfl
      have hyb2 := Hb.out e
      rw [← hyd] at hyb2
      have hst := HO'.out.stored rfl e (y + 1)
      have hrow : ys.set e (y + 1) = bumpN ys e := by rw [bumpN, ← hyd]
      rw [hrow] at hst
      have HOs := Lib.hid hst.1
      have HBs := Lib.hid (HB'.out.setCell (p := ⟨w.heap.size, e, none⟩) (Nat.le_refl _) (.int .i64 (y + 1)))
      have hbt := Lib.hid (bumpN_tot (a := ys) (k := e) (by omega))
      have hbw := Lib.hid (bumpN_wsum (a := ys) (k := e) (by omega))
      have hbb := Lib.hid (bdN_bump Hb.out e)
      clear hst hrow hy hyd hA
      by_cases hlast : k + 1 = bs.length
      · have hl2 : ((k : Int) == (bs.length : Int) - 1) = true := by rw [beq_iff_eq]; omega
        have hlast' := Lib.hid hlast
        clear hlt hk
        have hc1 : Hid (chgN (bs.drop k) = 1 + chgN (bs.drop (k + 1))) := by show _ = _; rw [hch.out, if_neg (by rw [List.getElem?_eq_none (by omega)]; simp)]
        clear hR2 hch hlast
        rcases he.out with ⟨hu, rfl⟩ | ⟨hu, rfl⟩
        · clear he he16 heu
          go_wp2
          go_roundw
          case rel => exact ⟨k + 1, 0, bumpN ys _, by have := hlast'.out; omega, by go_num, rfl, by rw [bumpN_len]; exact hyl, by show _ = _; rw [hbt.out]; have := Ht.out; rw [hc1.out] at this; omega, by show _ ≤ _; rw [hbw.out]; have := Hw.out; omega, hbb.out, by omega, HOs.out, HBs.out⟩
          case measure => have := hlast'.out; simp only [intOf]; omega
        · clear he he16 heu
          go_wp2
          go_roundw
          case rel => exact ⟨k + 1, 0, bumpN ys _, by have := hlast'.out; omega, by go_num, rfl, by rw [bumpN_len]; exact hyl, by show _ = _; rw [hbt.out]; have := Ht.out; rw [hc1.out] at this; omega, by show _ ≤ _; rw [hbw.out]; have := Hw.out; omega, hbb.out, by omega, HOs.out, HBs.out⟩
          case measure => have := hlast'.out; simp only [intOf]; omega
      · have hl2 : ((k : Int) == (bs.length : Int) - 1) = false := by rw [beq_eq_false_iff_ne]; omega
        obtain ⟨b', off', x', hA', _, hx', hcx'⟩ := hR2.atT (k := k + 1) (by omega)
        obtain ⟨rfl, rfl⟩ : b = b' ∧ off = off' := by injection hA' with e; injection e with e1 e2; exact ⟨e1, e2⟩
        clear hA' hR2
        by_cases hxx : x' = x
        · have hc1 : Hid (chgN (bs.drop k) = chgN (bs.drop (k + 1))) := by show _ = _; rw [hch.out, hx'.out, if_pos (by rw [hxx])]; omega
          clear hch HOs HBs hbt hbw hbb
          subst hxx
          go_wp2
          go_roundw
          case rel => exact ⟨k + 1, u + 1, ys, by omega, by go_num, by go_num, hyl, by show _ = _; rw [← hc1.out]; exact Ht.out, by show _ ≤ _; have := Hw.out; omega, bdN_mono Hb.out (by omega), by omega, HO'.out, HB'.out⟩
          case measure => simp only [intOf]; omega
        · have hc1 : Hid (chgN (bs.drop k) = 1 + chgN (bs.drop (k + 1))) := by show _ = _; rw [hch.out, hx'.out, if_neg (by simp [hxx])]
          have hxb : (x' == x) = false := by rw [beq_eq_false_iff_ne]; exact hxx
          clear hch hxx
          rcases he.out with ⟨hu, rfl⟩ | ⟨hu, rfl⟩
          · clear he he16 heu
            go_wp2
            go_roundw
            case rel => exact ⟨k + 1, 0, bumpN ys _, by omega, by go_num, rfl, by rw [bumpN_len]; exact hyl, by show _ = _; rw [hbt.out]; have := Ht.out; rw [hc1.out] at this; omega, by show _ ≤ _; rw [hbw.out]; have := Hw.out; omega, hbb.out, by omega, HOs.out, HBs.out⟩
            case measure => simp only [intOf]; omega
          · clear he he16 heu
            go_wp2
            go_roundw
            case rel => exact ⟨k + 1, 0, bumpN ys _, by omega, by go_num, rfl, by rw [bumpN_len]; exact hyl, by show _ = _; rw [hbt.out]; have := Ht.out; rw [hc1.out] at this; omega, by show _ ≤ _; rw [hbw.out]; have := Hw.out; omega, hbb.out, by omega, HOs.out, HBs.out⟩
            case measure => simp only [intOf]; omega
    · obtain rfl : k = bs.length := by omega
      have ht2 : Hid (totN ys = chgN bs) := by show _ = _; have := Ht.out; rw [chgN_end (Nat.le_refl _)] at this; omega
      have hw2 : Hid (wsumN 0 ys ≤ bs.length) := by show _ ≤ _; have := Hw.out; omega
      clear Ht Hw
      go_wp2
      go_ret2
      exact ⟨_, ys, rfl, HO'.out, hyl, ht2.out, hw2.out, Hb.out, HB'.out⟩
end Go.Proofs.Ytlgpcojoonnlbaa
