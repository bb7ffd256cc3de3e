/- 'OrderOfCode' of the program and of the reference: both give the numbers that a code picks, one after another. -/
import Derived.Test.YtoddmplmeliioaaDelete
import Derived.Test.YtoddmplmeliioaaSmall
import Derived.Test.YtoddmplmeliioaaShapes
namespace Go.Proofs.Ytoddmplmeliioaa
open Go.RowKit

/-- What is left behind k picks. -/
def leftAt (code : List Int) : Nat → List Int
  | 0 => upFrom 0 code.length
  | k + 1 => (leftAt code k).eraseIdx (code.getD k 0).toNat
/-- What has been picked by k picks. -/
def outAt (code : List Int) (k : Nat) : List Int := (List.range k).map fun j => (leftAt code j).getD (code.getD j 0).toNat 0
/-- The k-th number of a code is one of the places that are left. -/
def pickOk (code : List Int) (k : Nat) : Bool := inB (code.getD k 0) 0 (code.length - 1 - k)
def codeOk (code : List Int) : Bool := (List.range code.length).all (pickOk code)
/-- The order of a code, if it is one. -/
def orderOfCode (code : List Int) : Option (List Int) := if inB code.length 1 64 = true ∧ codeOk code = true then some (outAt code code.length) else none

theorem leftAt_len (code : List Int) (k : Nat) (hk : k ≤ code.length) (hv : ∀ j, j < k → pickOk code j = true) : (leftAt code k).length = code.length - k := by
  induction k with
  | zero => simp [leftAt, upFrom_len]
  | succ k ih =>
    have h1 := ih (by omega) (fun j hj => hv j (by omega))
    have h2 := inB_true (hv k (by omega))
    rw [leftAt, List.length_eraseIdx, h1, if_pos (by omega)]
    omega
theorem outAt_len (code : List Int) (k : Nat) : (outAt code k).length = k := by simp [outAt]
theorem outAt_succ (code : List Int) (k : Nat) (x : Int) (h : (leftAt code k)[(code.getD k 0).toNat]? = some x) : outAt code (k + 1) = outAt code k ++ [x] := by
  simp only [outAt, List.range_succ, List.map_append, List.map_cons, List.map_nil, List.getD]
  simp only [List.getD] at h
  rw [h]; rfl
theorem orderOfCode_short (code : List Int) (h : code.length ≤ 1048576) : ((orderOfCode code).getD []).length ≤ 2000000 := by
  unfold orderOfCode
  split
  · simp [outAt_len]; omega
  · simp
theorem codeOk_iff (code : List Int) : codeOk code = true ↔ ∀ k, k < code.length → pickOk code k = true := by simp [codeOk]

set_option maxHeartbeats 2000000 in
theorem implOrderOfCode : FnL_LB 25 orderOfCode := by
  intro A n c B xs w h hB hn hf _
  have hl := h.lenI
  obtain rfl : xs.length = n := hl.out
  clear hl
  obtain ⟨i0, hi0, hz0, hz1, hz2⟩ := info_parts info_i64'
  by_cases hin : inB xs.length 1 64 = true
  · have hb64 := inB_true hin
    go_enter Try.func25, Try.ntmps25
    go_wp2_with fail
    refine (isSize_any _ _).mono ?_
    rintro e w1 ⟨rfl, rfl⟩
    go_wp2_with fail
    refine (numbersFrom_any 0 ((xs.length : Int) - 1) xs.length _ (by omega) (by omega) (by omega) (by omega)).mono ?_
    rintro e w1 ⟨v1, rfl, ho1, hb1⟩
    obtain ⟨A1, c1, rfl, -⟩ := ho1.shapeI
    have HO1 := Lib.hid ho1; have HB1 := Lib.hid hb1
    have hs1 := hb1.size
    clear ho1 hb1
    go_wp2_with fail
    go_loopw [5, 6, 20] (fun lv ov i wr => ∃ (k cl : Nat) (Al : Option Addr) (ll ol : List Int), k ≤ xs.length ∧ i = .int .i64 k ∧ lv = .slice Al ll.length cl ∧ Hid (∀ j, j < k → pickOk xs j = true) ∧ Hid (ll = leftAt xs k) ∧ Hid (ol = outAt xs k) ∧
        Own wr w.heap.size 2 lv (i64s ll) ∧ Own wr w.heap.size 2 ov (i64s ol) ∧ Apart lv ov ∧ Below w.heap.size w wr) (fun _ _ i _ => xs.length - (intOf i).toNat)
    case atStart =>
      have hn1 := own_newI w1 (base := w1.heap.size) (Nat.le_refl _)
      exact ⟨0, c1, A1, _, _, Nat.zero_le _, rfl, rfl, fun j hj => absurd hj (by omega), rfl, rfl, HO1.out.below ((Below.refl w1.heap.size w1).alloc (Nat.le_refl _) _) (Nat.le_refl _), hn1.base_le hs1, HO1.out.apart hn1 (Nat.le_refl _), HB1.out.alloc hs1 _⟩
    case round =>
      obtain ⟨k, cl, Al, ll, ol, hk, rfl, rfl, hv, hll, hol, hL, hO, ap1, hbel⟩ := hrel
      have hlenl : ll.length = xs.length - k := by rw [hll.out]; exact leftAt_len xs k hk hv.out
      have HL := Lib.hid hL; have HO := Lib.hid hO; have HB := Lib.hid hbel; have HA1 := Lib.hid ap1
      have hs := hbel.size
      clear hL hO hbel HO1 HB1 ap1
      by_cases hlt : k < xs.length
      · obtain ⟨b, off, x, rfl, hbB, hx, hc⟩ := h.atI hlt
        have hc1 := (HB.out.cell (p := ⟨b, off + k, none⟩) (by show b < _; omega)).trans hc
        have hpick : pickOk xs k = inB x 0 ((xs.length : Int) - 1 - k) := by unfold pickOk; rw [List.getD, hx.out]; rfl
        have hlt' : (k : Int) < (xs.length : Int) := by omega
        clear hc h
        by_cases hp : pickOk xs k = true
        · have hpx := inB_true (hpick ▸ hp)
          obtain ⟨m, rfl⟩ := Int.eq_ofNat_of_zero_le hpx.1
          have hpm : inB (m : Int) 0 ((xs.length : Int) - k - 1) = true := inB_mk (by omega)
          have Hp := Lib.hid hp; have Hpick := Lib.hid hpick
          clear hp hpick hpx
          have hml : m < ll.length := by have := inB_true hpm; omega
          obtain ⟨g, y, hAl, hy, hcy, hfy⟩ := HL.out.atI hml
          subst hAl
          have hml' : (m : Int) < (ll.length : Int) := by omega
          have hl64 : ll.length ≤ 64 := by omega
          have Hlenl := Lib.hid hlenl; clear hlenl
          go_wp2_with fail
          refine (within_any _ _ _ _).mono ?_
          rintro e w2 ⟨rfl, rfl⟩
          rw [hpm]
          go_wp2_with (at_builtin; go_must (refine emitI wr rfl _ _ rfl w.heap.size u6 ol rfl HO.out y rfl ?c1 hs ?_))
          case c1 => rw [hol.out, outAt_len]; omega
          intro v' w3 hO' hg hor
          have hL' := HL.out.grown hg HA1.out
          have ap' := HL.out.apart_grown HA1.out hor
          have hB' := below_ownGrown HB.out HO.out hg (Nat.le_refl _) (Nat.le_refl _)
          have hs3 := hB'.size
          have HL' := Lib.hid hL'; have HO' := Lib.hid hO'; have HB' := Lib.hid hB'; have HA' := Lib.hid ap'
          clear hL' ap' hB' hO' hg hor HL HB HA1 hcy hfy hc1 HO
          go_wp2_with fail
          refine (deleteI_any _ ll.length cl _ m ll _ HL'.out hml (by omega)).mono ?_
          rintro e w4 ⟨v4, rfl, hL4, hg4, hob⟩
          have hO4 := HO'.out.grown hg4 HA'.out.symm
          have hB4 := below_ownGrown HB'.out HL'.out hg4 (Nat.le_refl _) (Nat.le_refl _)
          have ap4 : Apart v4 v' := fun j hj => HA'.out j (hob ▸ hj)
          obtain ⟨A4, c4, rfl, -⟩ := hL4.shapeI
          have HL4 := Lib.hid hL4; have HO4 := Lib.hid hO4; have HB4 := Lib.hid hB4; have HA4 := Lib.hid ap4
          clear hL4 hO4 hB4 ap4 hg4 hob HL' HO' HB' HA' hs3
          have hsucc : Hid (leftAt xs (k + 1) = ll.eraseIdx m) := by
            show _ = _
            rw [leftAt, ← hll.out, List.getD, hx.out]; rfl
          have hosucc : Hid (ol ++ [y] = outAt xs (k + 1)) := by
            show _ = _
            rw [outAt_succ xs k y (by rw [List.getD, hx.out, ← hll.out]; exact hy.out), hol.out]
          have hvs : Hid (∀ j, j < k + 1 → pickOk xs j = true) := by
            intro j hj
            by_cases hjk : j < k
            · exact hv.out j hjk
            · have : j = k := by omega
              rw [this]; exact Hp.out
          go_wp2
          go_roundw
          case rel => exact ⟨k + 1, c4, A4, ll.eraseIdx m, ol ++ [y], by omega, by go_num, rfl, hvs, hsucc.out.symm, hosucc.out, HL4.out, HO4.out, HA4.out, HB4.out⟩
          case measure => simp [intOf]; omega
        · have hpm : inB x 0 ((xs.length : Int) - k - 1) = false := by
            refine inB_not ?_
            have := inB_false (by rw [← hpick]; simpa using hp)
            omega
          have hno : Hid (orderOfCode xs = none) := by
            show _ = _
            unfold orderOfCode
            rw [if_neg]
            rintro ⟨_, hcode⟩
            exact hp ((codeOk_iff xs).1 hcode k hlt)
          have Hp := Lib.hid hp; have Hpick := Lib.hid hpick
          clear hp hpick
          go_wp2_with fail
          refine (within_any _ _ _ _).mono ?_
          rintro e w2 ⟨rfl, rfl⟩
          rw [hpm]
          go_wp2
          go_ret2
          exact ⟨_, _, rfl, by rw [hno.out]; rfl, by rw [hno.out]; exact own_none _ _ _, HB.out⟩
      · obtain rfl : k = xs.length := by omega
        have hyes : Hid (orderOfCode xs = some ol) := by
          show _ = _
          unfold orderOfCode
          rw [if_pos ⟨hin, (codeOk_iff xs).2 hv.out⟩, hol.out]
        go_wp2
        go_ret2
        exact ⟨_, _, rfl, by rw [hyes.out]; rfl, by rw [hyes.out]; exact HO.out, HB.out⟩
  · have hno : Hid (orderOfCode xs = none) := by
      show _ = _
      unfold orderOfCode
      rw [if_neg]
      rintro ⟨h1, _⟩
      exact hin h1
    have hin' : inB (xs.length : Int) 1 64 = false := by simpa using hin
    clear hin
    go_enter Try.func25, Try.ntmps25
    go_wp2_with fail
    refine (isSize_any _ _).mono ?_
    rintro e w1 ⟨rfl, rfl⟩
    rw [hin']
    go_wp2
    go_ret2
    exact ⟨_, _, rfl, by rw [hno.out]; rfl, by rw [hno.out]; exact own_none _ _ _, Below.refl _ _⟩

set_option maxHeartbeats 2000000 in
theorem fromCode_any (A : Option Addr) (n c B : Nat) (xs : List Int) (w : World) (h : Rd w B A n (i64s xs)) (hB : B ≤ w.heap.size) (hn : xs.length ≤ 64) (hok : codeOk xs = true) :
    Calls Try.prog 63 #[.slice A n c] w fun e w' => ∃ v, e = .returned v ∧ Own w' w.heap.size 2 v (i64s (outAt xs xs.length)) ∧ Below w.heap.size w w' := by
  have hl := h.lenI
  obtain rfl : xs.length = n := hl.out
  clear hl
  obtain ⟨i0, hi0, hz0, hz1, hz2⟩ := info_parts info_i64'
  have Hok : Hid (∀ j, j < xs.length → pickOk xs j = true) := (codeOk_iff xs).1 hok
  clear hok
  go_enter Try.func63, Try.ntmps63
  go_wp2_with fail
  refine (l04All_any xs.length _ (by omega)).mono ?_
  rintro e w1 ⟨v1, rfl, ho1, hb1⟩
  obtain ⟨A1, c1, rfl, -⟩ := ho1.shapeI
  have HO1 := Lib.hid ho1; have HB1 := Lib.hid hb1
  have hs1 := hb1.size
  clear ho1 hb1
  go_wp2_with fail
  go_loopw [3, 4, 5] (fun lv ov i wr => ∃ (k cl : Nat) (Al : Option Addr) (ll ol : List Int), k ≤ xs.length ∧ i = .int .i64 k ∧ lv = .slice Al ll.length cl ∧ Hid (ll = leftAt xs k) ∧ Hid (ol = outAt xs k) ∧
      Own wr w.heap.size 2 lv (i64s ll) ∧ Own wr w.heap.size 2 ov (i64s ol) ∧ Apart lv ov ∧ Below w.heap.size w wr) (fun _ _ i _ => xs.length - (intOf i).toNat)
  case atStart =>
    have hn1 := own_newI w1 (base := w1.heap.size) (Nat.le_refl _)
    exact ⟨0, c1, A1, _, _, Nat.zero_le _, rfl, rfl, rfl, rfl, HO1.out.below ((Below.refl w1.heap.size w1).alloc (Nat.le_refl _) _) (Nat.le_refl _), hn1.base_le hs1, HO1.out.apart hn1 (Nat.le_refl _), HB1.out.alloc hs1 _⟩
  case round =>
    obtain ⟨k, cl, Al, ll, ol, hk, rfl, rfl, hll, hol, hL, hO, ap1, hbel⟩ := hrel
    have hlenl : ll.length = xs.length - k := by rw [hll.out]; exact leftAt_len xs k hk (fun j hj => Hok.out j (by omega))
    have hO' := hO
    have HL := Lib.hid hL; have HO := Lib.hid hO; have HB := Lib.hid hbel; have HA1 := Lib.hid ap1
    have hs := hbel.size
    clear hL hO hbel HO1 HB1 ap1 hO'
    by_cases hlt : k < xs.length
    · obtain ⟨b, off, x, rfl, hbB, hx, hc⟩ := h.atI hlt
      have hc1 := (HB.out.cell (p := ⟨b, off + k, none⟩) (by show b < _; omega)).trans hc
      have hpick : pickOk xs k = inB x 0 ((xs.length : Int) - 1 - k) := by unfold pickOk; rw [List.getD, hx.out]; rfl
      have hpx := inB_true (hpick ▸ Hok.out k hlt)
      obtain ⟨m, rfl⟩ := Int.eq_ofNat_of_zero_le hpx.1
      have hml : m < ll.length := by omega
      have hlt' : (k : Int) < (xs.length : Int) := by omega
      clear hc h hpick hpx
      obtain ⟨g, y, hAl, hy, hcy, hfy⟩ := HL.out.atI hml
      subst hAl
      have hml' : (m : Int) < (ll.length : Int) := by omega
      have hl64 : ll.length ≤ 64 := by omega
      have Hlenl := Lib.hid hlenl; clear hlenl
      go_wp2_with (at_builtin; go_must (refine emitI wr rfl _ _ rfl w.heap.size u4 ol rfl HO.out y rfl ?c1 hs ?_))
      case c1 => rw [hol.out, outAt_len]; omega
      intro v' w3 hO' hg hor
      have hL' := HL.out.grown hg HA1.out
      have ap' := HL.out.apart_grown HA1.out hor
      have hB' := below_ownGrown HB.out HO.out hg (Nat.le_refl _) (Nat.le_refl _)
      have hs3 := hB'.size
      have hc3 : w3.cell? ⟨b, off + k, none⟩ = some (.int .i64 (m : Int)) := (hB'.cell (p := ⟨b, off + k, none⟩) (by show b < _; omega)).trans ((HB.out.cell (p := ⟨b, off + k, none⟩) (by show b < _; omega)).symm.trans hc1)
      obtain ⟨hmx1, hcl1⟩ : ll.length ≤ cl ∧ cl ≤ maxLen := by
        obtain ⟨A9, c9, h9, h9a, h9b⟩ := hL'.shape
        simp only [Value.slice.injEq] at h9
        rw [i64s_length] at h9a
        obtain ⟨_, _, rfl⟩ := h9
        exact ⟨h9a, h9b⟩
      unfold maxLen at hcl1
      obtain ⟨A', hA', hor2⟩ : ∃ A', (if cl = m + 1 then some (⟨g, 0, none⟩ : Addr) else some ⟨g, m + 1, none⟩) = A' ∧ Hid (A' = some ⟨g, m + 1, none⟩ ∨ A' = some ⟨g, 0, none⟩ ∧ ll.length ≤ m + 1) := by
        by_cases h : cl = m + 1
        · exact ⟨_, rfl, .inr ⟨by simp [h], by omega⟩⟩
        · exact ⟨_, rfl, .inl (by simp [h])⟩
      have HL' : Hid (w3.ownsRow w.heap.size 2 1 (.slice (some ⟨g, 0, none⟩) ll.length cl) ll.length (i64s ll)) := by
        have := hL'; unfold Own at this; rw [i64s_length] at this; exact this
      have HO' := Lib.hid hO'; have HB' := Lib.hid hB'; have HA' := Lib.hid ap'
      clear hL' ap' hB' hO' hg hor HL HB HA1 hcy hfy hc1 HO
      have hp0 : (0 : Int) ≤ (m : Int) + 1 := by omega
      have hp1 : (m : Int) + 1 ≤ (ll.length : Int) := by omega
      have hp2 : ((m : Int) + 1).toNat = m + 1 := by omega
      have hwr : IntKind.i64.wrap ((m : Int) + 1) = (m : Int) + 1 := IntWalk.i64_in _ (by omega)
      have hic : m ≤ cl := by omega
      have hone : Hid (∀ u ∈ i64s ll, u.oneCell' = true) := ints_oneCell _ _
      go_wp2_with fail
      go_still_tail 13, (by kernel_rfl)
      change wpList _ _ _ _ _ w3.drew
      go_wp2_with (at_builtin; go_must (refine wpList_append_cut _ rfl (.tmp 31) (.tmp 38) 32 rfl w.heap.size 2 i0 Try.underlying32 hi0 hz1 g ll.length cl m (m + 1) (cl - (m + 1)) (i64s ll) HL'.out rfl A' rfl hor2.out hone.out (by omega) (by omega) ?_))
      intro w4 hown4 hgrow4
      have hg4 : w3.grownBy w4 (Value.ownBlock (.slice (some ⟨g, 0, none⟩) ll.length cl)) := ⟨hgrow4.os, hgrow4.tape, hgrow4.output, hgrow4.size, hgrow4.block⟩
      have hO4 := HO'.out.grown hg4 HA'.out.symm
      have hle : (ll.eraseIdx m).length = m + (ll.length - (m + 1)) := by rw [List.length_eraseIdx, if_pos hml]; omega
      have hL4 : Own w4 w.heap.size 2 (.slice (some ⟨g, 0, none⟩) (m + (ll.length - (m + 1))) cl) (i64s (ll.eraseIdx m)) := by
        unfold Own
        rw [i64s_length, hle]
        have e : List.take m (i64s ll) ++ List.drop (m + 1) (i64s ll) = i64s (ll.eraseIdx m) := by
          rw [List.eraseIdx_eq_take_drop_succ]; simp [i64s]
        rw [← e]
        exact hown4
      have hOw3 : Own w3 w.heap.size 2 (.slice (some ⟨g, 0, none⟩) ll.length cl) (i64s ll) := by unfold Own; rw [i64s_length]; exact HL'.out
      have hB4 := below_ownGrown HB'.out hOw3 hg4 (Nat.le_refl _) (Nat.le_refl _)
      have ap4 : Apart (.slice (some ⟨g, 0, none⟩) (m + (ll.length - (m + 1))) cl) v' := HA'.out
      rw [← hle] at hL4 ap4 ⊢
      have HL4 := Lib.hid hL4; have HO4 := Lib.hid hO4; have HB4 := Lib.hid hB4; have HA4 := Lib.hid ap4
      clear hL4 hO4 hB4 ap4 hg4 HL' HO' HB' HA' hs3 hown4 hgrow4 hOw3 hle hor2 hA' hc3 hone hwr hp0 hp1 hp2
      have hsucc : Hid (leftAt xs (k + 1) = ll.eraseIdx m) := by
        show _ = _
        rw [leftAt, ← hll.out, List.getD, hx.out]; rfl
      have hosucc : Hid (ol ++ [y] = outAt xs (k + 1)) := by
        show _ = _
        rw [outAt_succ xs k y (by rw [List.getD, hx.out, ← hll.out]; exact hy.out), hol.out]
      go_wp2
      go_roundw
      case rel => exact ⟨k + 1, cl, some ⟨g, 0, none⟩, ll.eraseIdx m, ol ++ [y], by omega, by go_num, rfl, hsucc.out.symm, hosucc.out, HL4.out, HO4.out, HA4.out, HB4.out⟩
      case measure => simp [intOf]; omega
    · obtain rfl : k = xs.length := by omega
      go_wp2
      go_ret
      exact ⟨_, rfl, by rw [← hol.out]; exact HO.out, HB.out⟩

set_option maxHeartbeats 2000000 in
theorem specOrderOfCode : FnL_LB 23 orderOfCode := by
  intro A n c B xs w h hB hn hf _
  have hl := h.lenI
  obtain rfl : xs.length = n := hl.out
  clear hl
  by_cases hin : inB xs.length 1 64 = true
  · have hb64 := inB_true hin
    go_enter Try.func23, Try.ntmps23
    go_wp2_with fail
    refine (l04Count_any _ _).mono ?_
    rintro e w1 ⟨rfl, rfl⟩
    go_wp2_with fail
    go_loop [5] (fun i => ∃ k : Nat, k ≤ xs.length ∧ i = .int .i64 k ∧ Hid (∀ j, j < k → pickOk xs j = true)) (fun i => xs.length - (intOf i).toNat)
    case atStart => exact ⟨0, Nat.zero_le _, rfl, fun j hj => absurd hj (by omega)⟩
    case round =>
      obtain ⟨k, hk, rfl, hv⟩ := hrel
      by_cases hlt : k < xs.length
      · obtain ⟨b, off, x, rfl, hbB, hx, hc⟩ := h.atI hlt
        have hpick : pickOk xs k = inB x 0 ((xs.length : Int) - 1 - k) := by unfold pickOk; rw [List.getD, hx.out]; rfl
        have hlt' : (k : Int) < (xs.length : Int) := by omega
        clear h
        by_cases hp : pickOk xs k = true
        · have hpm : inB x 0 ((xs.length : Int) - 1 - k) = true := hpick ▸ hp
          have hvs : Hid (∀ j, j < k + 1 → pickOk xs j = true) := by
            intro j hj
            by_cases hjk : j < k
            · exact hv.out j hjk
            · have : j = k := by omega
              rw [this]; exact hp
          clear hp hpick
          go_wp2_with fail
          refine (l00In_any _ _ _ _).mono ?_
          rintro e w2 ⟨rfl, rfl⟩
          rw [hpm]
          go_wp2
          go_round
          case rel => exact ⟨k + 1, by omega, by go_num, hvs⟩
          case measure => simp [intOf]; omega
        · have hpm : inB x 0 ((xs.length : Int) - 1 - k) = false := by rw [← hpick]; simpa using hp
          have hno : Hid (orderOfCode xs = none) := by
            show _ = _
            unfold orderOfCode
            rw [if_neg]
            rintro ⟨_, hcode⟩
            exact hp ((codeOk_iff xs).1 hcode k hlt)
          clear hp hpick
          go_wp2_with fail
          refine (l00In_any _ _ _ _).mono ?_
          rintro e w2 ⟨rfl, rfl⟩
          rw [hpm]
          go_wp2
          go_ret2
          exact ⟨_, _, rfl, by rw [hno.out]; rfl, by rw [hno.out]; exact own_none _ _ _, Below.refl _ _⟩
      · obtain rfl : k = xs.length := by omega
        have hyes : Hid (orderOfCode xs = some (outAt xs xs.length)) := by
          show _ = _
          unfold orderOfCode
          rw [if_pos ⟨hin, (codeOk_iff xs).2 hv.out⟩]
        go_wp2_with fail
        refine (fromCode_any A xs.length c B xs _ h hB (by omega) ((codeOk_iff xs).2 hv.out)).mono ?_
        rintro e w2 ⟨v, rfl, ho, hb⟩
        have HO := Lib.hid ho; have HB := Lib.hid hb
        clear ho hb
        go_wp2
        go_ret2
        exact ⟨_, _, rfl, by rw [hyes.out]; rfl, by rw [hyes.out]; exact HO.out, HB.out⟩
  · have hno : Hid (orderOfCode xs = none) := by
      show _ = _
      unfold orderOfCode
      rw [if_neg]
      rintro ⟨h1, _⟩
      exact hin h1
    have hin' : inB (xs.length : Int) 1 64 = false := by simpa using hin
    clear hin
    go_enter Try.func23, Try.ntmps23
    go_wp2_with fail
    refine (l04Count_any _ _).mono ?_
    rintro e w1 ⟨rfl, rfl⟩
    rw [hin']
    go_wp2
    go_ret2
    exact ⟨_, _, rfl, by rw [hno.out]; rfl, by rw [hno.out]; exact own_none _ _ _, Below.refl _ _⟩
end Go.Proofs.Ytoddmplmeliioaa
