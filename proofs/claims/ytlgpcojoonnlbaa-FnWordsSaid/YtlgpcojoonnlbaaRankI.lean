/- RankOfBits: the rank by leads. -/
import Derived.Test.YtlgpcojoonnlbaaZ00
import Derived.Test.YtlgpcojoonnlbaaBitsI
import Derived.Test.YtlgpcojoonnlbaaRankP
import Derived.Test.YtlgpcojoonnlbaaDelete
namespace Go.Proofs.Ytlgpcojoonnlbaa
open Go.RowKit
set_option maxRecDepth 100000
def rowI (rows : List Nat) : List Int := rows.map fun (y : Nat) => (y : Int)
@[simp] theorem rowI_len (rows : List Nat) : (rowI rows).length = rows.length := by simp [rowI]
theorem rowI_at {rows : List Nat} {k : Nat} {x : Int} (h : (rowI rows)[k]? = some x) : ∃ y : Nat, x = (y : Int) ∧ rows[k]? = some y := by
  simp only [rowI, List.getElem?_map, Option.map_eq_some_iff] at h
  obtain ⟨y, hy, rfl⟩ := h
  exact ⟨y, rfl, hy⟩
theorem rowI_of {xs : List Int} (h : ∀ (i : Nat) (x : Int), xs[i]? = some x → 0 ≤ x ∧ x ≤ 4294967295) : xs = rowI (xs.map Int.toNat) := by
  apply List.ext_getElem?
  intro i
  simp only [rowI, List.getElem?_map, Option.map_map]
  cases hx : xs[i]? with
  | none => rfl
  | some x => have := h i x hx; simp only [Option.map_some, Function.comp]; congr 1; omega
/-- The bit of a row, as the code tells it. -/
theorem bit_of (y b : Nat) (hy : y < 4294967296) : (bits .and .i64 ((y : Int) / 2 ^ b) 1 == 1) = y.testBit b := by
  have e : (y : Int) / 2 ^ b = ((y / 2 ^ b : Nat) : Int) := by push_cast; rfl
  have hle : y / 2 ^ b ≤ y := Nat.div_le_self _ _
  rw [e, Nat.testBit_eq_decide_div_mod_eq]
  clear e
  generalize y / 2 ^ b = z at hle ⊢
  rw [and_one _ (by omega) (by omega)]
  by_cases c : z % 2 = 1
  · rw [decide_eq_true c, beq_iff_eq]; omega
  · rw [decide_eq_false c, beq_eq_false_iff_ne]; omega
theorem xor_of (x y : Nat) (hx : x < 4294967296) (hy : y < 4294967296) : bits .xor .i64 (x : Int) (y : Int) = ((x ^^^ y : Nat) : Int) := by
  have hlt : x ^^^ y < 2 ^ 32 := Nat.xor_lt_two_pow hx hy
  have hb : (IntKind.i64).bits = 64 := rfl
  simp only [bits, BitVec.ofInt_natCast, BitVec.toNat_xor, BitVec.toNat_ofNat, hb]
  rw [Nat.mod_eq_of_lt (show x < 2 ^ 64 by omega), Nat.mod_eq_of_lt (show y < 2 ^ 64 by omega)]
  exact wraps_i64_63 _ (by omega) (by omega)
theorem bit32_any (y b g : Nat) (w : World) (hy : y < 4294967296) (hb : b ≤ 31) (hc : w.cell? ⟨g, 0, none⟩ = some (.int .i64 (b : Int))) :
    Calls Try.prog 28 #[.int .i64 (y : Int), .pointer (some ⟨g, 0, none⟩)] w fun e w' => e = .returned (.bool (y.testBit b)) ∧ w = w' := by
  have h := bit_of y b hy
  go_enter Try.func28, Try.ntmps28
  go_wp2
  go_ret
  exact ⟨rfl, rfl⟩
def idxB (rows : List Nat) (b : Nat) : Int := match rows.findIdx? (fun y => y.testBit b) with
  | none => -1
  | some k => k
theorem idxB_none {rows : List Nat} {b : Nat} (h : ∀ (k y : Nat), rows[k]? = some y → y.testBit b = false) : idxB rows b = -1 ∧ rows.findIdx? (fun y => y.testBit b) = none := by
  have e : rows.findIdx? (fun y => y.testBit b) = none := by
    rw [List.findIdx?_eq_none_iff]
    intro y hy
    obtain ⟨k, hk⟩ := List.mem_iff_getElem?.1 hy
    exact h k y hk
  exact ⟨by rw [idxB, e], e⟩
theorem idxB_some {rows : List Nat} {b k : Nat} {y : Nat} (hy : rows[k]? = some y) (hb : y.testBit b = true) (h : ∀ (j y : Nat), j < k → rows[j]? = some y → y.testBit b = false) : idxB rows b = k ∧ rows.findIdx? (fun y => y.testBit b) = some k := by
  have e : rows.findIdx? (fun y => y.testBit b) = some k := by
    rw [List.findIdx?_eq_some_iff_getElem]
    obtain ⟨hk, hy'⟩ := List.getElem?_eq_some_iff.1 hy
    refine ⟨hk, by rw [hy']; exact hb, fun j hj => ?_⟩
    have := h j _ hj (List.getElem?_eq_getElem (by omega))
    simp [this]
  exact ⟨by rw [idxB, e], e⟩
set_option maxHeartbeats 1000000 in
theorem findB_any (A : Option Addr) (n c B g b : Nat) (rows : List Nat) (w : World) (h : Rd w B A n (i64s (rowI rows))) (hn : rows.length ≤ 1000) (hr : ∀ (k y : Nat), rows[k]? = some y → y < 4294967296) (hb : b ≤ 31) (hc : w.cell? ⟨g, 0, none⟩ = some (.int .i64 (b : Int))) :
    Calls Try.prog 27 #[.slice A n c, .func (.func 28) #[] #[.pointer (some ⟨g, 0, none⟩)]] w fun e w' => e = .returned (.int .i64 (idxB rows b)) ∧ w = w' := by
  have hl := h.lenI
  have hl2 := hl.out
  rw [rowI_len] at hl2
  obtain rfl : rows.length = n := hl2
  have HR := Lib.hid h; have Hr := Lib.hid hr
  clear hl h hr
  go_enter Try.func27, Try.ntmps27
  go_wp2_with fail
  go_loop [8] (fun i => ∃ k : Nat, k ≤ rows.length ∧ i = .int .i64 k ∧ Hid (∀ (j y : Nat), j < k → rows[j]? = some y → y.testBit b = false)) (fun i => rows.length - (intOf i).toNat)
  case atStart => exact ⟨0, Nat.zero_le _, rfl, fun j x hj => absurd hj (by omega)⟩
  case round =>
    obtain ⟨k, hk, rfl, hv⟩ := hrel
    by_cases hlt : k < rows.length
    · obtain ⟨bb, off, x, rfl, hbB, hx, hcx⟩ := HR.out.atI hlt
      obtain ⟨y, rfl, hy⟩ := rowI_at hx.out
      have hlt' : (k : Int) < (rows.length : Int) := by omega
      have hy32 := Hr.out k y hy
      have Hy := Lib.hid hy
      clear hy hx
      cases hp : y.testBit b with
      | false =>
        have hvs : Hid (∀ (j y : Nat), j < k + 1 → rows[j]? = some y → y.testBit b = false) := by
          intro j z hj hz
          by_cases hjk : j < k
          · exact hv.out j z hjk hz
          · obtain rfl : j = k := by omega
            have := Hy.out.symm.trans hz
            injection this with this
            rw [← this]; exact hp
        go_wp2_with fail
        refine (bit32_any y b g _ hy32 hb hc).mono ?_
        rintro e w2 ⟨rfl, rfl⟩
        rw [hp]
        clear hp
        go_wp2
        go_round
        case rel => exact ⟨k + 1, by omega, by go_num, hvs⟩
        case measure => simp [intOf]; omega
      | true =>
        have hfin := Lib.hid (idxB_some Hy.out hp hv.out).1
        go_wp2_with fail
        refine (bit32_any y b g _ hy32 hb hc).mono ?_
        rintro e w2 ⟨rfl, rfl⟩
        rw [hp]
        clear hp
        go_wp2
        go_ret
        exact ⟨ret_int hfin.out.symm, rfl⟩
    · have hfin := Lib.hid (idxB_none (rows := rows) (b := b) (fun j y hy => hv.out j y (by have := (List.getElem?_eq_some_iff.1 hy).1; omega) hy)).1
      go_wp2
      go_ret
      exact ⟨ret_int hfin.out.symm, rfl⟩
theorem rowI_erase (rows : List Nat) (k : Nat) : (rowI rows).eraseIdx k = rowI (rows.eraseIdx k) := by simp [rowI, List.eraseIdx_eq_take_drop_succ]
/-- The first j rows are without the bit. -/
def redTo (b l j : Nat) (rows : List Nat) : List Nat := (rows.take j).map (redN b l) ++ rows.drop j
theorem redTo_len (b l j : Nat) (rows : List Nat) : (redTo b l j rows).length = rows.length := by simp [redTo]; omega
theorem redTo_zero (b l : Nat) (rows : List Nat) : redTo b l 0 rows = rows := by simp [redTo]
theorem redTo_all (b l : Nat) (rows : List Nat) : redTo b l rows.length rows = rows.map (redN b l) := by simp [redTo]
theorem redTo_at {b l j : Nat} {rows : List Nat} (h : j < rows.length) : (redTo b l j rows)[j]? = rows[j]? := by
  unfold redTo
  rw [List.getElem?_append_right (by simp; omega), List.length_map, List.length_take, Nat.min_eq_left (by omega), Nat.sub_self, List.getElem?_drop, Nat.add_zero]
theorem redTo_succ {b l j y : Nat} {rows : List Nat} (h : rows[j]? = some y) : redTo b l (j + 1) rows = (redTo b l j rows).set j (redN b l y) := by
  have hj : j < rows.length := (List.getElem?_eq_some_iff.1 h).1
  unfold redTo
  have e : rows.drop j = y :: rows.drop (j + 1) := by
    rw [List.drop_eq_getElem_cons hj]; congr 1
    exact (List.getElem?_eq_some_iff.1 h).2
  rw [e, set_append_here _ _ _ _ _ (by simp; omega), take_succ_of h, List.map_append, List.append_assoc]
  rfl
theorem redTo_keep {b l j y : Nat} {rows : List Nat} (h : rows[j]? = some y) (hb : y.testBit b = false) : redTo b l (j + 1) rows = redTo b l j rows := by
  have hj : j < rows.length := (List.getElem?_eq_some_iff.1 h).1
  rw [redTo_succ h]
  apply List.ext_getElem?
  intro i
  rw [List.getElem?_set]
  by_cases e : j = i
  · subst e
    rw [if_pos rfl, if_pos (by rw [redTo_len]; exact hj), redTo_at hj, h]
    simp [redN, hb]
  · rw [if_neg e]
theorem rowI_set (rows : List Nat) (j y : Nat) : (rowI rows).set j (y : Int) = rowI (rows.set j y) := by simp [rowI, List.map_set]
def smallR (rows : List Nat) : Prop := ∀ (k y : Nat), rows[k]? = some y → y < 4294967296
theorem smallR_erase {rows : List Nat} (h : smallR rows) (k : Nat) : smallR (rows.eraseIdx k) := fun j y hy => by
  have hm := List.mem_of_mem_eraseIdx (List.mem_of_getElem? hy)
  obtain ⟨i, hi⟩ := List.mem_iff_getElem?.1 hm
  exact h i y hi
theorem red_lt {b l y : Nat} (hl : l < 4294967296) (hy : y < 4294967296) : redN b l y < 4294967296 := by
  unfold redN
  split
  · exact Nat.xor_lt_two_pow (n := 32) hy hl
  · exact hy
theorem smallR_map {rows : List Nat} (h : smallR rows) {b l : Nat} (hl : l < 4294967296) : smallR (rows.map (redN b l)) := fun j y hy => by
  rw [List.getElem?_map, Option.map_eq_some_iff] at hy
  obtain ⟨z, hz, rfl⟩ := hy
  exact red_lt hl (h j z hz)
theorem own_allocR {w : World} {base : Nat} {e : TypeId} {v : Value} {xs : List Value} (h : Own w base e v xs) (o : Obj) : Own (w.alloc o) base e v xs :=
  h.kept (World.grownBy_alloc w o none) (by
    cases hv : v.ownBlock with
    | none => exact .inl rfl
    | some k => exact .inr (by simp))
theorem new_cellR (w : World) (v : Value) (t : TypeId) : (w.alloc (.cells #[v] t)).cell? ⟨w.heap.size, 0, none⟩ = some v := by simp
def bitOf (p : Value) (w : World) : Nat := match p with
  | .pointer (some a) => match w.cell? a with
    | some (.int _ n) => (n + 1).toNat
    | _ => 0
  | _ => 0
theorem bitOf_mk {a : Addr} {w : World} {n : Int} (h : w.cell? a = some (.int .i64 n)) : bitOf (.pointer (some a)) w = (n + 1).toNat := by simp [bitOf, h]
theorem grown_setB (w : World) (g i : Nat) (u : Value) : w.grownBy (w.setCell ⟨g, i, none⟩ u) (some g) :=
  ⟨rfl, rfl, rfl, Nat.le_of_eq (World.size_setCell _ _ _).symm, fun j _ hj => Below.heap_setCell w ⟨g, i, none⟩ u j (fun e => hj (by rw [e]))⟩
set_option maxHeartbeats 8000000 in
theorem implRank_p (A : Option Addr) (n c B : Nat) (xs : List Int) (w : World) (h : Rd w B A n (i64s xs)) (hB : B ≤ w.heap.size) (hw : areWords xs = true) (h32 : xs.length ≤ 32) :
    Calls Try.prog 14 #[.slice A n c] w fun e w' => e = .returned (.tuple #[.int .i64 (rankN 32 (xs.map Int.toNat) : Nat), .bool true]) ∧ Below w.heap.size w w' := by
  have hl := h.lenI
  obtain rfl : xs.length = n := hl.out
  have hin : ∀ (i : Nat) (x : Int), xs[i]? = some x → 0 ≤ x ∧ x ≤ 4294967295 := fun (i : Nat) (x : Int) (hx : xs[i]? = some x) => allWords_at (xs := xs) (by unfold areWords at hw; simp only [Bool.and_eq_true] at hw; exact hw.2) hx
  obtain ⟨R, hR⟩ : ∃ R, xs.map Int.toNat = R := ⟨_, rfl⟩
  have hxR : xs = rowI R := by rw [← hR]; exact rowI_of hin
  have hRs : smallR R := fun k y hy => by
    rw [← hR, List.getElem?_map, Option.map_eq_some_iff] at hy
    obtain ⟨x, hx, rfl⟩ := hy
    have := hin k x hx
    omega
  have hRl : R.length = xs.length := by rw [← hR]; simp
  rw [hR]
  have HR := Lib.hid h
  have Hw := Lib.hid hw
  have HRs := Lib.hid hRs; have HRl := Lib.hid hRl; have HxR := Lib.hid hxR
  clear h hl hw hin hR hRs hRl hxR
  have h32' : (xs.length : Int) ≤ 32 := by omega
  go_enter Try.func14, Try.ntmps14
  go_wp2_with first
    | (go_at_call 24; refine (implAreWords_any A xs.length c B xs _ HR.out (by omega)).mono ?_; rintro e w1 ⟨rfl, rfl⟩; rw [Hw.out])
    | (go_at_call 26; refine (cloneI_any A xs.length c B xs _ HR.out hB (by omega)).mono ?_; rintro e w1 ⟨v1, rfl, hO1, hB1⟩; obtain ⟨A1, c1, rfl, hcap⟩ := hO1.shapeI; have HO1 := Lib.hid hO1; have HB1 := Lib.hid hB1; clear hO1 hB1)
  go_loopw [4, 5, 6] (fun v r p wr => ∃ (b : Nat) (rows : List Nat) (q g : Nat) (A2 : Option Addr) (c2 : Nat), b ≤ 32 ∧ v = .slice A2 rows.length c2 ∧ r = .int .i64 q ∧ p = .pointer (some ⟨g, 0, none⟩) ∧ wr.cell? ⟨g, 0, none⟩ = some (.int .i64 ((b : Int) - 1)) ∧ Hid (q + rankN b rows = rankN 32 R) ∧ q + rows.length ≤ 32 ∧ Hid (smallR rows) ∧ Own wr w.heap.size 2 (.slice A2 rows.length c2) (i64s (rowI rows)) ∧ Hid (Value.ownBlock (.slice A2 rows.length c2) ≠ some g) ∧ Below w.heap.size w wr) (fun _ _ p wr => bitOf p wr)
  case atStart =>
    have hO := HO1.out
    rw [HxR.out] at hO
    have e := HRl.out
    refine ⟨32, R, 0, w1.heap.size, A1, c1, Nat.le_refl _, by rw [e], rfl, rfl, by simp, by show _ = _; omega, by omega, HRs, ?_, ?_, HB1.out.alloc (HB1.out.size) _⟩
    · rw [rowI_len] at hO
      exact own_allocR hO _
    · intro e2
      rw [e] at e2
      have := HO1.out.lt _ e2
      omega
  case round =>
    obtain ⟨b, rows, q, g, A2, c2, hb, rfl, rfl, rfl, hcg, Hq, hql, Hsm, hO, Hne, hbel⟩ := hrel
    have HO := Lib.hid hO; have HB := Lib.hid hbel
    have hsz := hbel.size
    have hgl := World.block_lt_of_cell? wr _ hcg
    clear hO hbel
    cases b with
    | zero =>
      have hfin : Hid (q = rankN 32 R) := by show _ = _; rw [← Hq.out]; rfl
      have hcg0 : wr.cell? ⟨g, 0, none⟩ = some (.int .i64 (-1)) := hcg
      clear hcg
      go_wp2
      go_ret2
      exact ⟨by rw [hfin.out]; rfl, HB.out⟩
    | succ b =>
      have hcb : wr.cell? ⟨g, 0, none⟩ = some (.int .i64 (b : Int)) := by rw [hcg]; simp
      clear hcg
      have hrd : Rd wr wr.heap.size A2 rows.length (i64s (rowI rows)) := by have := HO.out.rdI; rwa [rowI_len] at this
      go_wp2_with fail
      refine (findB_any A2 rows.length c2 wr.heap.size g b rows _ hrd (by omega) Hsm.out (by omega) hcb).mono ?_
      rintro e w2 ⟨rfl, rfl⟩
      clear hrd
      cases hf : rows.findIdx? (fun y => y.testBit b) with
      | none =>
        have hi : idxB rows b = -1 := by rw [idxB, hf]
        have Hq2 : Hid (q + rankN b rows = rankN 32 R) := by show _ = _; rw [← rankN_none hf]; exact Hq.out
        rw [hi]
        clear hi hf
        go_wp2
        exact ⟨⟨b, rows, q, wr.heap.size, A2, c2, by omega, rfl, rfl, rfl, new_cellR _ _ _, Hq2, hql, Hsm, own_allocR HO.out _, fun e => by have := HO.out.lt _ e; omega, HB.out.alloc hsz _⟩, by rw [bitOf_mk (new_cellR _ _ _), bitOf_mk hcb]; omega⟩
      | some k =>
        have hi : idxB rows b = (k : Int) := by rw [idxB, hf]
        have Hf := Lib.hid hf
        rw [hi]
        clear hi hf
        have hkl := (idx_lt Hf.out).1
        have hkl' : (k : Int) < (rows.length : Int) := by omega
        obtain ⟨g2, x, hA, hx, hcx, hfx⟩ := HO.out.atI (k := k) (by rw [rowI_len]; exact hkl)
        obtain ⟨l, rfl, hl⟩ := rowI_at hx.out
        have Hl := Lib.hid hl
        have hl32 := Hsm.out k l hl
        clear hx hl
        subst hA
        go_wp2_with fail
        refine (deleteI_any (some ⟨g2, 0, none⟩) rows.length c2 w.heap.size k (rowI rows) _ HO.out hkl (by omega)).mono ?_
        rintro e w3 ⟨v3, rfl, hO3, hG3, hv3⟩
        rw [rowI_erase] at hO3
        obtain ⟨rest, hrest⟩ : ∃ rest, rows.eraseIdx k = rest := ⟨_, rfl⟩
        rw [hrest] at hO3
        have hrl : rest.length + 1 = rows.length := by rw [← hrest, List.length_eraseIdx, if_pos hkl]; omega
        have Hout : Hid (outN b rows k = rest.map (redN b l)) := by
          show _ = _
          rw [outN, hrest, List.getD_eq_getElem?_getD, Hl.out]; rfl
        have Hsm3 : Hid (smallR rest) := by rw [← hrest]; exact smallR_erase Hsm.out k
        have hcb3 := hG3.cell hcb (fun e => Hne.out e.symm)
        have Hne3 : Hid (Value.ownBlock v3 ≠ some g) := by rw [hv3]; exact Hne.out
        have HB3 := Lib.hid (HB.out.grown hG3 hsz (fun j hj => (HO.out.lt j hj).1))
        obtain ⟨A3, c3, rfl, hcap3⟩ := hO3.shapeI
        rw [rowI_len] at hO3 Hne3 ⊢
        have HO3 := Lib.hid hO3
        have Hrl := Lib.hid hrl
        have hr32 : rest.length ≤ 31 := by omega
        clear hO3 hG3 hv3 hrest hrl hcx hfx
        go_wp2
        go_loopw [41] (fun i wr2 => ∃ j : Nat, j ≤ rest.length ∧ i = .int .i64 j ∧ wr2.cell? ⟨g, 0, none⟩ = some (.int .i64 (b : Int)) ∧ Own wr2 w.heap.size 2 (.slice A3 rest.length c3) (i64s (rowI (redTo b l j rest))) ∧ Below w.heap.size w wr2) (fun i _ => rest.length - (intOf i).toNat)
        case atStart => exact ⟨0, Nat.zero_le _, rfl, hcb3, by rw [redTo_zero]; exact HO3.out, HB3.out⟩
        case round =>
          obtain ⟨j, hj, rfl, hcb4, hO4, hB4⟩ := hrel
          have HO4 := Lib.hid hO4; have HB4 := Lib.hid hB4
          clear hO4 hB4
          by_cases hlt : j < rest.length
          · have hlt' : (j : Int) < (rest.length : Int) := by omega
            obtain ⟨g4, x4, hA4, hx4, hcx4, hfx4⟩ := HO4.out.atI (k := j) (by rw [rowI_len, redTo_len]; exact hlt)
            obtain ⟨y, rfl, hy⟩ := rowI_at hx4.out
            rw [redTo_at hlt] at hy
            have Hy := Lib.hid hy
            have hy32 := Hsm3.out j y hy
            have hbit := bit_of y b hy32
            have hxor := xor_of y l hy32 hl32
            clear hx4 hy
            subst hA4
            cases hp : y.testBit b with
            | false =>
              rw [hp] at hbit
              have Hk : Hid (redTo b l (j + 1) rest = redTo b l j rest) := redTo_keep Hy.out hp
              clear hp
              go_wp2
              go_roundw
              case rel => exact ⟨j + 1, by omega, by go_num, hcb4, by rw [Hk.out]; exact HO4.out, HB4.out⟩
              case measure => simp only [intOf]; omega
            | true =>
              rw [hp] at hbit
              have hst := HO4.out.stored rfl j ((y ^^^ l : Nat) : Int)
              have Hk : Hid ((rowI (redTo b l j rest)).set j ((y ^^^ l : Nat) : Int) = rowI (redTo b l (j + 1) rest)) := by
                show _ = _
                rw [redTo_succ Hy.out, rowI_set, redN, if_pos hp]
              rw [Hk.out] at hst
              have HOs := Lib.hid hst.1
              have HBs := Lib.hid (HB4.out.setCell (p := ⟨g4, j, none⟩) ((HO4.out.lt g4 rfl).1) (.int .i64 ((y ^^^ l : Nat) : Int)))
              have hcb5 := hst.2.cell hcb4 (fun e => Hne3.out e.symm)
              clear hp hst
              go_wp2
              go_roundw
              case rel => exact ⟨j + 1, by omega, by go_num, hcb5, HOs.out, HBs.out⟩
              case measure => simp only [intOf]; omega
          · obtain rfl : j = rest.length := by omega
            have Hall : Hid (redTo b l rest.length rest = outN b rows k) := by show _ = _; rw [redTo_all, Hout.out]
            have Hq2 : Hid (q + 1 + rankN b (outN b rows k) = rankN 32 R) := by
              show _ = _
              have := Hq.out
              rw [rankN_some Hf.out] at this
              omega
            go_wp2
            have hsz4 := HB4.out.size
            have hO5 := HO4.out
            rw [Hall.out] at hO5
            have hol : (outN b rows k).length = rest.length := by rw [outN_len hkl]; have := Hrl.out; omega
            have hsmall : smallR (outN b rows k) := by rw [Hout.out]; exact smallR_map Hsm3.out hl32
            exact ⟨⟨b, outN b rows k, q + 1, _, A3, c3, by omega, by rw [hol], by go_num, rfl, new_cellR _ _ _, Hq2, by have := Hrl.out; omega, hsmall, by rw [hol]; exact own_allocR hO5 _, fun e => by rw [hol] at e; have := hO5.lt _ e; omega, HB4.out.alloc hsz4 _⟩, by rw [bitOf_mk (new_cellR _ _ _), bitOf_mk hcb]; omega⟩
end Go.Proofs.Ytlgpcojoonnlbaa
