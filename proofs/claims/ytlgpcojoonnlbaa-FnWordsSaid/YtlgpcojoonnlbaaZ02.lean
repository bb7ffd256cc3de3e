/- Texts that stand side by side: HandK, HandsI. -/
import Derived.Test.YtlgpcojoonnlbaaWordsP
import Derived.Test.YtlgpcojoonnlbaaRange
import Derived.Test.YtlgpcojoonnlbaaZ00
import Derived.Test.YtlgpcojoonnlbaaBump
section
/- The kind of a hand of at most five digits: 0 to 6. -/
namespace Go.Proofs.Ytlgpcojoonnlbaa
open Go.RowKit
set_option maxRecDepth 100000
def eqC (xs : List Int) (d : Int) : Nat := xs.countP fun x => decide (x = d)
theorem eqC_take {xs : List Int} {k : Nat} {x : Int} (h : xs[k]? = some x) (d : Int) : eqC (xs.take (k + 1)) d = eqC (xs.take k) d + (if x = d then 1 else 0) := by
  rw [take_succ_of h, eqC, List.countP_append, eqC]
  by_cases c : x = d <;> simp [c]
theorem eqC_le (xs : List Int) (d : Int) (k : Nat) : eqC (xs.take k) d ≤ k := Nat.le_trans List.countP_le_length (by rw [List.length_take]; omega)
set_option maxHeartbeats 4000000 in
theorem handKind_p (A : Option Addr) (n c B : Nat) (xs : List Int) (w : World) (h : Rd w B A n (i64s xs)) (hn : xs.length ≤ 5) :
    Calls Try.prog 25 #[.slice A n c] w fun e w' => ∃ k : Nat, k ≤ 6 ∧ e = .returned (.int .i64 k) ∧ w = w' := by
  have hl := h.lenI
  obtain rfl : xs.length = n := hl.out
  have HR := Lib.hid h
  clear h hl
  go_enter Try.func25, Try.ntmps25
  go_wp2
  go_loop [3, 4, 9] (fun p m i => ∃ (d : Nat) (pairs most : Nat), d ≤ 10 ∧ i = .int .i64 d ∧ p = .int .i64 pairs ∧ m = .int .i64 most ∧ Hid (handK (belN xs d) pairs most) ∧ pairs ≤ 10 ∧ most ≤ 5) (fun _ _ i => 10 - (intOf i).toNat)
  case atStart => exact ⟨0, 0, 0, by omega, rfl, rfl, rfl, ⟨by omega, by omega, by omega, by omega, by omega⟩, by omega, by omega⟩
  case round =>
    obtain ⟨d, pairs, most, hd, rfl, rfl, rfl, hK, hp, hm⟩ := hrel
    by_cases hlt : d < 10
    · have hlt' : (d : Int) < 10 := by omega
      go_wp2
      go_loop [6, 14] (fun m i => ∃ (k many : Nat), k ≤ xs.length ∧ i = .int .i64 k ∧ m = .int .i64 many ∧ Hid (many = eqC (xs.take k) d) ∧ many ≤ k) (fun _ i => xs.length - (intOf i).toNat)
      case atStart => exact ⟨0, 0, by omega, rfl, rfl, by show _ = _; simp [eqC], by omega⟩
      case round =>
        obtain ⟨k, many, hk, rfl, rfl, hmany, hmk⟩ := hrel
        by_cases hlk : k < xs.length
        · have hlk' : (k : Int) < (xs.length : Int) := by omega
          obtain ⟨b, off, x, rfl, hbB, hx, hcx⟩ := HR.out.atI (k := k) hlk
          have hst := Lib.hid (eqC_take hx.out (d : Int))
          by_cases hxd : x = (d : Int)
          · have h2 : Hid (many + 1 = eqC (xs.take (k + 1)) d) := by show _ = _; rw [hst.out, if_pos hxd, hmany.out]
            have hb : (x == (d : Int)) = true := by rw [beq_iff_eq]; exact hxd
            clear hst hxd
            go_wp2
            go_round
            case rel => exact ⟨k + 1, many + 1, by omega, by go_num, by go_num, h2, by omega⟩
            case measure => simp only [intOf]; omega
          · have h2 : Hid (many = eqC (xs.take (k + 1)) d) := by show _ = _; rw [hst.out, if_neg hxd, hmany.out]; omega
            have hb : (x == (d : Int)) = false := by rw [beq_eq_false_iff_ne]; exact hxd
            clear hst hxd
            go_wp2
            go_round
            case rel => exact ⟨k + 1, many, by omega, by go_num, rfl, h2, by omega⟩
            case measure => simp only [intOf]; omega
        · obtain rfl : k = xs.length := by omega
          have hm5 : many ≤ 5 := by omega
          have hK2 : Hid (handK (belN xs (d + 1)) (if (many : Int) = 2 then (pairs : Int) + 1 else pairs) (if (most : Int) < many then (many : Int) else most)) := by
            have e := belN_succ xs (d := (d : Int)) (by omega)
            have e2 := hmany.out
            rw [List.take_length] at e2
            show handK _ _ _
            have e3 : ((belN xs ((d : Int) + 1) : Nat) : Int) = (belN xs (d : Int) : Nat) + (many : Int) := by rw [e, e2]; simp [eqC]
            rw [e3]
            exact handK_step hK.out (by omega)
          have hp9 : pairs ≤ 2 := by have := hK.out.2.2.2.1; have := belN_le xs (d : Int); omega
          by_cases h2 : many = 2
          · have hb : ((many : Int) == 2) = true := by rw [beq_iff_eq]; omega
            have hK3 := hK2.out
            rw [if_pos (show (many : Int) = 2 by omega)] at hK3
            by_cases hmm : most < many
            · have hmm' : (most : Int) < (many : Int) := by omega
              rw [if_pos hmm'] at hK3
              have HK3 := Lib.hid hK3
              clear hK3 hK2 h2
              go_wp2
              go_round
              case rel => exact ⟨d + 1, pairs + 1, many, by omega, by go_num, by go_num, by go_num, HK3, by omega, by omega⟩
              case measure => simp only [intOf]; omega
            · have hmm' : ¬ (most : Int) < (many : Int) := by omega
              rw [if_neg hmm'] at hK3
              have HK3 := Lib.hid hK3
              clear hK3 hK2 h2
              go_wp2
              go_round
              case rel => exact ⟨d + 1, pairs + 1, most, by omega, by go_num, by go_num, by go_num, HK3, by omega, by omega⟩
              case measure => simp only [intOf]; omega
          · have hb : ((many : Int) == 2) = false := by rw [beq_eq_false_iff_ne]; omega
            have hK3 := hK2.out
            rw [if_neg (show ¬ (many : Int) = 2 by omega)] at hK3
            by_cases hmm : most < many
            · have hmm' : (most : Int) < (many : Int) := by omega
              rw [if_pos hmm'] at hK3
              have HK3 := Lib.hid hK3
              clear hK3 hK2 h2
              go_wp2
              go_round
              case rel => exact ⟨d + 1, pairs, many, by omega, by go_num, by go_num, by go_num, HK3, by omega, by omega⟩
              case measure => simp only [intOf]; omega
            · have hmm' : ¬ (most : Int) < (many : Int) := by omega
              rw [if_neg hmm'] at hK3
              have HK3 := Lib.hid hK3
              clear hK3 hK2 h2
              go_wp2
              go_round
              case rel => exact ⟨d + 1, pairs, most, by omega, by go_num, by go_num, by go_num, HK3, by omega, by omega⟩
              case measure => simp only [intOf]; omega
    · obtain rfl : d = 10 := by omega
      have hin := handK_in hK.out (by have := belN_le xs ((10 : Nat) : Int); omega)
      have g5 : pairs ≤ 2 := by have := hK.out.2.2.2.1; have := belN_le xs ((10 : Nat) : Int); omega
      clear hin
      clear hK
      go_wp2
      · go_ret
        exact ⟨3 + pairs, by omega, ret_int (by omega), rfl⟩
      · go_ret
        exact ⟨most + 1, by omega, ret_int (by omega), rfl⟩
      · go_ret
        exact ⟨pairs, by omega, rfl, rfl⟩
end Go.Proofs.Ytlgpcojoonnlbaa
end
section
/- HandsIn: seven counts, and their sum. -/
namespace Go.Proofs.Ytlgpcojoonnlbaa
open Go.RowKit
set_option maxRecDepth 100000
theorem own_nilI (w : World) (base : Nat) : Own w base 2 (.slice none 0 0) (i64s []) := ⟨rfl, .inl ⟨rfl, rfl⟩⟩
set_option maxHeartbeats 4000000 in
theorem implHands_p (A : Option Addr) (n c B : Nat) (xs : List Int) (w : World) (h : Rd w B A n (i64s xs)) (hB : B ≤ w.heap.size) (hw : areWords xs = true) :
    Calls Try.prog 11 #[.slice A n c] w fun e w' => ∃ v ys, e = .returned (.tuple #[v, .bool true]) ∧ Own w' w.heap.size 2 v (i64s ys) ∧ ys.length = 7 ∧ totN ys = xs.length / 5 ∧ bdN ys xs.length ∧ Below w.heap.size w w' := by
  have hl := h.lenI
  obtain rfl : xs.length = n := hl.out
  have hx5 : xs.length ≤ 256 := by unfold areWords at hw; simp only [Bool.and_eq_true] at hw; have := inB_true hw.1; omega
  have hin := Lib.hid (fun (i : Nat) (x : Int) (hx : xs[i]? = some x) => allWords_at (xs := xs) (by unfold areWords at hw; simp only [Bool.and_eq_true] at hw; exact hw.2) hx)
  have HR := Lib.hid h
  have Hw := Lib.hid hw
  clear h hl hw
  obtain ⟨i0, hi0, hz0, hz1, hz2⟩ := info_parts info_i64'
  go_enter Try.func11, Try.ntmps11
  go_wp2_with first
    | (go_at_call 24; refine (implAreWords_any A xs.length c B xs _ HR.out (by omega)).mono ?_; rintro e w1 ⟨rfl, rfl⟩; rw [Hw.out])
    | (at_make; refine wpList_make_full _ rfl _ _ 29 rfl w.heap.size 2 i0 (.int .i64 0) 1 Try.underlying29 hi0 hz0 hz1 _ _ _ _ 7 rfl rfl rfl rfl ?c1 ?c2 ?c3 ?_)
  case c1 => rw [hz2]; omega
  case c2 => unfold maxLen; omega
  case c3 => exact Nat.le_refl _
  intro w1 hown hgrow
  clear hi0 hz0 hz1 hz2
  have ho1 : Own w1 w.heap.size 2 (.slice (some ⟨w.heap.size, 0, none⟩) 7 7) (i64s (List.replicate 7 0)) := by
    unfold Own
    rw [madeCells_one] at hown
    simpa [i64s] using hown
  have HO := Lib.hid ho1
  have HB := Lib.hid ((Below.refl w.heap.size w).grown hgrow (Nat.le_refl _) (by simp))
  have hsz1 : w.heap.size < w1.heap.size := (ho1.lt _ rfl).2
  clear hown ho1 hgrow
  go_wp2
  go_loopw [5, 15] (fun v i wr => ∃ (k t : Nat) (ys hs : List Int), k ≤ xs.length ∧ i = .int .i64 k ∧ ys.length = 7 ∧ Hid (k = 5 * t + hs.length) ∧ hs.length < 5 ∧ Hid (totN ys = t) ∧ Hid (bdN ys t) ∧ Own wr w.heap.size 2 (.slice (some ⟨w.heap.size, 0, none⟩) 7 7) (i64s ys) ∧ Own wr (w.heap.size + 1) 2 v (i64s hs) ∧ Below w.heap.size w wr ∧ w.heap.size + 1 ≤ wr.heap.size) (fun _ i _ => xs.length - (intOf i).toNat)
  case atStart => exact ⟨0, 0, _, [], Nat.zero_le _, rfl, by simp, rfl, by decide, by show _ = _; rw [totN_zero]; rfl, bdN_zero 7 (by omega), HO.out.kept (World.grownBy_alloc _ _ none) (.inr (by simp [Value.ownBlock])), own_newI w1 hsz1, HB.out.alloc (by omega) _, by simp; omega⟩
  case round =>
    obtain ⟨k, t, ys, hs, hk, rfl, hyl, Hkt, hhs, Ht, Hb, hO, hOh, hbel, hsz⟩ := hrel
    have HO' := Lib.hid hO; have HB' := Lib.hid hbel; have HOh := Lib.hid hOh
    clear hO hbel hOh
    by_cases hlt : k < xs.length
    · have hlt' : (k : Int) < (xs.length : Int) := by omega
      have hR2 := HR.out.below HB'.out hB
      obtain ⟨b, off, x, rfl, hbB, hx, hcx⟩ := hR2.atI (k := k) hlt
      obtain ⟨hx0, hx1⟩ := hin.out k x hx.out
      clear hR2
      go_wp2_with (at_builtin; go_must (refine emitI wr rfl _ _ rfl (w.heap.size + 1) u5 hs rfl HOh.out _ rfl ?c1 hsz ?_))
      case c1 => omega
      intro v' w3 hO' hg hor
      have hO2 := HO'.out.kept hg (.inr (fun e => by have := (HOh.out.lt w.heap.size e.symm).1; omega))
      have hB2 := HB'.out.grown hg (by omega) (fun g hg => by have := (HOh.out.lt g hg).1; omega)
      have hsz3 : w.heap.size + 1 ≤ w3.heap.size := Nat.le_trans hsz hg.size
      obtain ⟨l, hl⟩ : ∃ l, hs ++ [x / 429496730] = l := ⟨_, rfl⟩
      rw [hl] at hO'
      have hll : l.length = hs.length + 1 := by rw [← hl]; simp
      obtain ⟨A2, c2, rfl, hcap⟩ := hO'.shapeI
      have HO2 := Lib.hid hO2; have HB2 := Lib.hid hB2; have HOl := Lib.hid hO'
      have Hll := Lib.hid hll
      have hl5 : l.length ≤ 5 := by omega
      clear hO2 hB2 hO' hg hor hl hll
      by_cases h5 : l.length = 5
      · have hb : ((l.length : Int) == 5) = true := by rw [beq_iff_eq]; omega
        have H5 := Lib.hid h5
        clear h5
        go_wp2_with fail
        refine (handKind_p A2 l.length c2 w3.heap.size l _ HOl.out.rdI hl5).mono ?_
        rintro e w' ⟨q, hq, rfl, rfl⟩
        have hq' : (q : Int) < 7 := by omega
        obtain ⟨g, z, hA, hz, hcz, hfz⟩ := HO2.out.atI (k := q) (by omega)
        obtain rfl : w.heap.size = g := by injection hA with e; injection e
        have hzd : z = ys.getD q 0 := by rw [List.getD_eq_getElem?_getD, hz.out]; rfl
        have hzb2 := Hb.out q
        rw [← hzd] at hzb2
        have hst := HO2.out.stored rfl q (z + 1)
        have hrow : ys.set q (z + 1) = bumpN ys q := by rw [bumpN, ← hzd]
        rw [hrow] at hst
        have HOs := Lib.hid hst.1
        have HBs := Lib.hid (HB2.out.setCell (p := ⟨w.heap.size, q, none⟩) (Nat.le_refl _) (.int .i64 (z + 1)))
        have hbt := Lib.hid (bumpN_tot (a := ys) (k := q) (by omega))
        have hbb := Lib.hid (bdN_bump Hb.out q)
        clear hst hrow hz hzd hA
        have hz0 := hzb2.1
        have hz1 : z ≤ 1000 := by have := Hkt.out; omega
        clear hzb2
        go_wp2
        go_roundw
        case rel => exact ⟨k + 1, t + 1, bumpN ys q, [], by omega, by go_num, by rw [bumpN_len]; exact hyl, by show _ = _; have := Hkt.out; have := Hll.out; have := H5.out; simp; omega, by simp, by show _ = _; rw [hbt.out, Ht.out]; omega, by have := hbb.out; exact this, HOs.out, own_nilI _ _, HBs.out, by simp; omega⟩
        case measure => simp only [intOf]; omega
      · have hb : ((l.length : Int) == 5) = false := by rw [beq_eq_false_iff_ne]; omega
        have hl4 : l.length < 5 := by omega
        clear h5
        go_wp2
        go_roundw
        case rel => exact ⟨k + 1, t, ys, l, by omega, by go_num, hyl, by show _ = _; have := Hkt.out; have := Hll.out; omega, hl4, Ht, Hb, HO2.out, HOl.out, HB2.out, hsz3⟩
        case measure => simp only [intOf]; omega
    · go_wp2
      go_ret2
      exact ⟨_, ys, rfl, HO'.out, hyl, by rw [Ht.out]; have := Hkt.out; omega, bdN_mono Hb.out (by have := Hkt.out; omega), HB'.out⟩
end Go.Proofs.Ytlgpcojoonnlbaa
end
