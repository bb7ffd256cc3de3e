/- IsOrder: whether a list is an order of the numbers from 0 on: sorted, or marked off. -/
import Derived.Test.YtgkbkbmhdhlffaaSortI
import Derived.Test.YtgkbkbmhdhlffaaClone
import Derived.Test.YtgkbkbmhdhlffaaSmall
import Derived.Deep.QuietTactic
namespace Go.Proofs.Ytgkbkbmhdhlffaa
open Go.RowKit
theorem equalI_any (A A' : Option Addr) (n n' c c' B : Nat) (xs ys : List Int) (w : World) (h : Rd w B A n (i64s xs)) (h' : Rd w B A' n' (i64s ys)) (hn : n ≤ maxLen) :
    Calls Try.prog 49 #[.slice A n c, .slice A' n' c'] w fun e w' => e = .returned (.bool (decide (xs = ys))) ∧ ∃ k, w' = w.drewN k := by
  have hl := h.lenI; have hl' := h'.lenI
  unfold maxLen at hn
  by_cases hne : n = n'
  · subst hne
    have hb : ((n : Int) != (n : Int)) = false := by simp
    go_enter Try.func49, Try.ntmps49
    go_wp2
    go_loopw [13] (fun i wr => ∃ k q : Nat, k ≤ n ∧ i = .int .i64 k ∧ wr = w.drewN q ∧ Hid (xs.take k = ys.take k)) (fun i _ => n - (intOf i).toNat)
    case atStart => exact ⟨0, 0, Nat.zero_le _, rfl, rfl, rfl⟩
    case round =>
      obtain ⟨k, q, hk, rfl, rfl, heq⟩ := hrel
      by_cases hlt : k < n
      · obtain ⟨b, off, x, rfl, _, hx, hc⟩ := h.atI hlt
        obtain ⟨b', off', y, rfl, _, hy, hc'⟩ := h'.atI hlt
        have hlt' : (k : Int) < (n : Int) := by omega
        have h0 : (0 : Int) ≤ (k : Int) := by omega
        clear h h'
        by_cases hxy : x = y
        · subst hxy
          have hb2 : (x != x) = false := by simp
          go_wp2
          go_quiet (fail)
          go_wp2
          go_roundw
          case rel => exact ⟨k + 1, q + nq, by omega, by go_num, rfl, by show _ = _; rw [take_succ_of hx.out, take_succ_of hy.out, heq.out]⟩
          case measure => simp [intOf]; omega
        · have hb2 : (x != y) = true := by simp [hxy]
          have hfin : Hid (decide (xs = ys) = false) := by
            show _ = _
            rw [decide_eq_false_iff_not]
            intro e
            subst e
            have h1 := hx.out; have h2 := hy.out
            rw [h1] at h2
            exact hxy (by injection h2)
          have Hxy := Lib.hid hxy; clear hxy
          go_wp2
          go_quiet (fail)
          go_wp2
          go_ret
          exact ⟨ret_bool hfin.out.symm, _, World.drewN_drewN _ _ _⟩
      · go_wp2
        go_ret
        refine ⟨ret_bool ?_, q, rfl⟩
        have h1 := heq.out
        have h2 := hl.out
        have h3 := hl'.out
        rw [List.take_of_length_le (by omega), List.take_of_length_le (by omega)] at h1
        simp [h1]
  · have hb : ((n : Int) != (n' : Int)) = true := by rw [bne_iff_ne]; omega
    have hfin : Hid (decide (xs = ys) = false) := by
      show _ = _
      rw [decide_eq_false_iff_not]
      intro e
      subst e
      exact hne (hl.out.symm.trans hl'.out)
    have Hne := Lib.hid hne; clear hne
    go_enter Try.func49, Try.ntmps49
    go_wp2
    go_ret
    exact ⟨ret_bool hfin.out.symm, 0, rfl⟩

/-- Whether a list is an order. -/
def orderB (xs : List Int) : Bool := inB xs.length 1 64 && decide (sortedI xs = upFrom 0 xs.length)
theorem orderB_size {xs : List Int} (h : inB xs.length 1 64 = false) : orderB xs = false := by simp [orderB, h]
theorem sortedI_perm (xs : List Int) : (sortedI xs).Perm xs := List.mergeSort_perm _ _
theorem sortedI_sorted (xs : List Int) : (sortedI xs).Pairwise (fun a b => a ≤ b) := by
  have := List.pairwise_mergeSort (le := fun x y : Int => decide (x ≤ y)) (by intro a b c h1 h2; simp only [decide_eq_true_eq] at h1 h2 ⊢; omega) (by intro a b; simp only [Bool.or_eq_true, decide_eq_true_eq]; omega) xs
  exact this.imp (by intro a b h; simpa using h)
theorem mem_upFrom {lo x : Int} {k : Nat} : x ∈ upFrom lo k ↔ lo ≤ x ∧ x < lo + k := by
  unfold upFrom
  rw [List.mem_map]
  constructor
  · rintro ⟨i, hi, rfl⟩
    have := List.mem_range.1 hi
    omega
  · intro h
    exact ⟨(x - lo).toNat, List.mem_range.2 (by omega), by omega⟩
theorem nodup_upFrom (lo : Int) (k : Nat) : (upFrom lo k).Nodup := by
  unfold upFrom
  rw [List.nodup_iff_pairwise_ne] 
  rw [List.pairwise_map]
  exact (List.nodup_range (n := k)).imp (by intro a b h e; apply h; omega)
/-- A number out of bounds. -/
theorem orderB_out {xs : List Int} {x : Int} (hx : x ∈ xs) (h : x < 0 ∨ (xs.length : Int) ≤ x) : orderB xs = false := by
  unfold orderB
  rw [Bool.and_eq_false_iff]
  right
  rw [decide_eq_false_iff_not]
  intro e
  have h1 : x ∈ sortedI xs := (sortedI_perm xs).mem_iff.2 hx
  rw [e, mem_upFrom] at h1
  omega
/-- A number that comes twice. -/
theorem orderB_twice {xs : List Int} {i j : Nat} {x : Int} (hij : i < j) (hi : xs[i]? = some x) (hj : xs[j]? = some x) : orderB xs = false := by
  unfold orderB
  rw [Bool.and_eq_false_iff]
  right
  rw [decide_eq_false_iff_not]
  intro e
  have hn : xs.Nodup := (sortedI_perm xs).nodup_iff.1 (by rw [e]; exact nodup_upFrom 0 xs.length)
  have hli := (List.getElem?_eq_some_iff.1 hi)
  have hlj := (List.getElem?_eq_some_iff.1 hj)
  obtain ⟨h1, e1⟩ := hli
  obtain ⟨h2, e2⟩ := hlj
  exact List.pairwise_iff_getElem.1 (List.nodup_iff_pairwise_ne.1 hn) i j h1 h2 hij (e1.trans e2.symm)
theorem strict_ge {ys : List Int} (hs : ys.Pairwise (fun a b => a < b)) (h0 : ∀ y ∈ ys, 0 ≤ y) : ∀ (i : Nat) (h : i < ys.length), (i : Int) ≤ ys[i] := by
  intro i
  induction i with
  | zero => intro h; exact h0 _ (List.getElem_mem h)
  | succ i ih =>
    intro h
    have h1 := ih (by omega)
    have h2 := List.pairwise_iff_getElem.1 hs i (i + 1) (by omega) h (by omega)
    omega
theorem strict_le {ys : List Int} {n : Nat} (hs : ys.Pairwise (fun a b => a < b)) (h0 : ∀ y ∈ ys, y < (n : Int)) : ∀ (d i : Nat) (h : i < ys.length), d = ys.length - 1 - i → ys[i] ≤ (n : Int) - 1 - d := by
  intro d
  induction d with
  | zero => intro i h _; have := h0 _ (List.getElem_mem h); omega
  | succ d ih =>
    intro i h hd
    have h1 := ih (i + 1) (by omega) (by omega)
    have h2 := List.pairwise_iff_getElem.1 hs i (i + 1) h (by omega) (by omega)
    omega
/-- All in bounds, none twice. -/
theorem orderB_true {xs : List Int} (hs : inB xs.length 1 64 = true) (hb : ∀ x ∈ xs, 0 ≤ x ∧ x < (xs.length : Int)) (hd : ∀ (i j : Nat) (x : Int), i < j → xs[i]? = some x → xs[j]? = some x → False) : orderB xs = true := by
  have hn : xs.Nodup := by
    rw [List.nodup_iff_pairwise_ne, List.pairwise_iff_getElem]
    intro i j hi hj hij e
    exact hd i j xs[j] hij (by rw [List.getElem?_eq_getElem hi, e]) (List.getElem?_eq_getElem hj)
  have hp := sortedI_perm xs
  have hn2 : (sortedI xs).Nodup := hp.nodup_iff.2 hn
  have hss := sortedI_sorted xs
  have hst : (sortedI xs).Pairwise (fun a b => a < b) := by
    refine (hss.and (List.nodup_iff_pairwise_ne.1 hn2)).imp ?_
    rintro a b ⟨h1, h2⟩
    omega
  have hm : ∀ y ∈ sortedI xs, 0 ≤ y ∧ y < (xs.length : Int) := fun y hy => hb y (hp.mem_iff.1 hy)
  unfold orderB
  rw [hs, Bool.true_and, decide_eq_true_eq]
  apply List.ext_getElem
  · rw [sortedI_len, upFrom_len]
  · intro i h1 h2
    have g1 := strict_ge hst (fun y hy => (hm y hy).1) i h1
    have g2 := strict_le (n := xs.length) hst (fun y hy => (hm y hy).2) ((sortedI xs).length - 1 - i) i h1 rfl
    have e : (upFrom 0 xs.length)[i] = (i : Int) := by simp [upFrom]
    rw [e]
    rw [sortedI_len] at g2 h1
    omega
theorem implOrder_any (A : Option Addr) (n c B : Nat) (xs : List Int) (w : World) (h : Rd w B A n (i64s xs)) (hB : B ≤ w.heap.size) (hn : xs.length ≤ 1048576) :
    Calls Try.prog 37 #[.slice A n c] w fun e w' => e = .returned (.bool (orderB xs)) ∧ Below w.heap.size w w' := by
  have hl := h.lenI
  obtain rfl : xs.length = n := hl.out
  clear hl
  go_enter Try.func37, Try.ntmps37
  go_wp2_with fail
  refine (cloneI_any A xs.length c B xs _ h hB hn).mono ?_
  rintro e w1 ⟨v, rfl, ho, hb⟩
  obtain ⟨A1, c1, rfl, hcap⟩ := ho.shapeI
  have HB1 := Lib.hid hb; have HO1 := Lib.hid ho
  clear hb ho h
  go_wp2_with fail
  refine (sortI_any A1 xs.length c1 w.heap.size xs _ HO1.out hn).mono ?_
  rintro e w2 ⟨rfl, ho, hgr⟩
  have HO2 := Lib.hid ho
  have HB2 := Lib.hid (below_ownGrown HB1.out HO1.out hgr (Nat.le_refl _) (Nat.le_refl _))
  have hle2 : w.heap.size ≤ w2.heap.size := HB2.out.size
  clear ho hgr HO1 HB1
  go_wp2_with fail
  refine (isSize_any _ _).mono ?_
  rintro e w3 ⟨rfl, rfl⟩
  cases hi : inB xs.length 1 64 with
  | false =>
    have Hn : Hid (orderB xs = false) := orderB_size hi
    clear hi
    go_wp2
    go_ret
    exact ⟨ret_bool Hn.out.symm, HB2.out⟩
  | true =>
    have hib := inB_true hi
    have Hr : Hid (orderB xs = decide (sortedI xs = upFrom 0 xs.length)) := by show _ = _; simp [orderB, hi]
    clear hi
    go_wp2_with fail
    refine (numbersFrom_any 0 ((xs.length : Int) - 1) xs.length _ (by omega) (by omega) (by omega) (by omega)).mono ?_
    rintro e w3 ⟨v, rfl, ho, hb⟩
    obtain ⟨A3, c3, rfl, hcap3⟩ := ho.shapeI
    have HO3 := Lib.hid (HO2.out.below hb (Nat.le_refl _)).rdI
    have HP3 := Lib.hid ho.rdI
    have HB3 := Lib.hid (HB2.out.trans (hb.mono hle2))
    clear hb ho
    go_wp2_with fail
    refine (equalI_any A1 A3 _ _ c1 c3 _ (sortedI xs) (upFrom 0 xs.length) _ (by have := HO3.out; rwa [sortedI_len] at this) HP3.out (by unfold maxLen; omega)).mono ?_
    rintro e w4 ⟨rfl, q, rfl⟩
    go_wp2
    go_ret
    exact ⟨ret_bool Hr.out.symm, below_drewN HB3.out q⟩
theorem info_bool : (Try.prog.info? 4).map (fun i => (i.zero, i.size, i.bytes)) = some (some (.bool false), 1, 1) := by kernel_rfl
def bools (l : List Bool) : List Value := l.map Value.bool
@[simp] theorem bools_length (l : List Bool) : (bools l).length = l.length := by simp [bools]
/-- What has been seen of the first k numbers. -/
def seenL (xs : List Int) (k n : Nat) : List Bool := (List.range n).map fun (j : Nat) => decide ((j : Int) ∈ xs.take k)
theorem seenL_len (xs : List Int) (k n : Nat) : (seenL xs k n).length = n := by simp [seenL]
theorem seenL_get {xs : List Int} {k n j : Nat} (h : j < n) : (bools (seenL xs k n))[j]? = some (.bool (decide ((j : Int) ∈ xs.take k))) := by
  simp [bools, seenL, h]
theorem seenL_zero (xs : List Int) (n : Nat) : bools (seenL xs 0 n) = List.replicate n (.bool false) := by
  apply List.ext_getElem
  · simp [seenL]
  · intro i h1 h2
    simp [bools, seenL]
theorem seenL_set {xs : List Int} {k n j : Nat} (hx : xs[k]? = some (j : Int)) : (bools (seenL xs k n)).set j (.bool true) = bools (seenL xs (k + 1) n) := by
  apply List.ext_getElem
  · simp [seenL]
  · intro i h1 h2
    rw [List.getElem_set]
    simp only [bools, seenL, List.getElem_map, List.getElem_range]
    rw [take_succ_of hx]
    by_cases e : j = i
    · subst e
      simp
    · rw [if_neg e]
      have e2 : ¬ (i : Int) = (j : Int) := by omega
      simp [e2]
set_option maxHeartbeats 1000000 in
theorem specOrder_any (A : Option Addr) (n c B : Nat) (xs : List Int) (w : World) (h : Rd w B A n (i64s xs)) (hB : B ≤ w.heap.size) (hn : xs.length ≤ 1048576) :
    Calls Try.prog 36 #[.slice A n c] w fun e w' => e = .returned (.bool (orderB xs)) ∧ Below w.heap.size w w' := by
  have hl := h.lenI
  obtain rfl : xs.length = n := hl.out
  clear hl
  have HR := Lib.hid h
  clear h
  go_enter Try.func36, Try.ntmps36
  go_wp2_with fail
  refine (l04Count_any _ _).mono ?_
  rintro e w1 ⟨rfl, rfl⟩
  cases hi : inB xs.length 1 64 with
  | false =>
    have Hn : Hid (orderB xs = false) := orderB_size hi
    clear hi
    go_wp2
    go_ret
    exact ⟨ret_bool Hn.out.symm, Below.refl _ _⟩
  | true =>
    have hib := inB_true hi
    have Hi := Lib.hid hi
    clear hi
    obtain ⟨i0, hi0, hz0, hz1, hz2⟩ := info_parts info_bool
    go_wp2_with (at_make; refine wpList_make_full _ rfl _ _ 41 rfl w.heap.size 4 i0 (.bool false) 1 Try.underlying41 hi0 hz0 hz1 _ _ _ _ xs.length rfl rfl rfl rfl ?c1 ?c2 ?c3 ?_)
    case c1 => rw [hz2]; omega
    case c2 => unfold maxLen; omega
    case c3 => exact Nat.le_refl _
    intro w1 hown hgrow
    clear hi0 hz0 hz1 hz2
    have hown' : w1.ownsRow w.heap.size 4 1 (.slice (some ⟨w.heap.size, 0, none⟩) xs.length xs.length) xs.length (bools (seenL xs 0 xs.length)) := by
      rw [seenL_zero, ← madeCells_one]; simpa using hown
    have HO := Lib.hid hown'
    have HB := Lib.hid ((Below.refl w.heap.size w).grown hgrow (Nat.le_refl _) (by simp))
    clear hown hown' hgrow
    go_wp2
    go_loopw [4] (fun i wr => ∃ k : Nat, k ≤ xs.length ∧ i = .int .i64 k ∧ Hid (∀ x ∈ xs.take k, 0 ≤ x ∧ x < (xs.length : Int)) ∧ Hid (∀ (i j : Nat) (x : Int), i < j → j < k → xs[i]? = some x → xs[j]? = some x → False) ∧ wr.ownsRow w.heap.size 4 1 (.slice (some ⟨w.heap.size, 0, none⟩) xs.length xs.length) xs.length (bools (seenL xs k xs.length)) ∧ Below w.heap.size w wr) (fun i _ => xs.length - (intOf i).toNat)
    case atStart => exact ⟨0, Nat.zero_le _, rfl, fun x hx => by simp at hx, fun i j x _ hj => absurd hj (by omega), HO.out, HB.out⟩
    case round =>
      obtain ⟨k, hk, rfl, hin, hdup, hown, hbel⟩ := hrel
      have HO' := Lib.hid hown; have HB' := Lib.hid hbel
      clear hown hbel
      by_cases hlt : k < xs.length
      · have hR := HR.out.below HB'.out hB
        obtain ⟨b, off, x, rfl, hbB, hx, hc⟩ := hR.atI (k := k) hlt
        have hlt' : (k : Int) < (xs.length : Int) := by omega
        clear hR
        go_wp2_with fail
        refine (l00In_any _ _ _ _).mono ?_
        rintro e w2 ⟨rfl, rfl⟩
        cases hxi : inB x 0 ((xs.length : Int) - 1) with
        | false =>
          have Hn : Hid (orderB xs = false) := orderB_out (List.mem_of_getElem? hx.out) (by have := inB_false hxi; omega)
          clear hxi
          go_wp2
          go_ret
          exact ⟨ret_bool Hn.out.symm, HB'.out⟩
        | true =>
          have hxb := inB_true hxi
          obtain ⟨xn, rfl⟩ : ∃ xn : Nat, x = (xn : Int) := ⟨x.toNat, by omega⟩
          have hxl : xn < xs.length := by omega
          have hxl' : (xn : Int) < (xs.length : Int) := by omega
          have hcs := (HO'.out.cellAt xn (by omega)).trans (seenL_get hxl)
          have hfs := HO'.out.frozenAt xn
          clear hxi
          by_cases hmem : (xn : Int) ∈ xs.take k
          · have Hn : Hid (orderB xs = false) := by
              obtain ⟨j, hj⟩ := List.mem_iff_getElem?.1 hmem
              have hjk : j < k := by
                have := (List.getElem?_eq_some_iff.1 hj).1
                rw [List.length_take] at this
                omega
              rw [List.getElem?_take, if_pos hjk] at hj
              exact orderB_twice hjk hj hx.out
            rw [decide_eq_true hmem] at hcs
            clear hmem
            go_wp2
            go_ret
            exact ⟨ret_bool Hn.out.symm, HB'.out⟩
          · rw [decide_eq_false hmem] at hcs
            have Hmem := Lib.hid hmem
            have hin2 : Hid (∀ y ∈ xs.take (k + 1), 0 ≤ y ∧ y < (xs.length : Int)) := by
              intro y hy
              rw [take_succ_of hx.out, List.mem_append, List.mem_singleton] at hy
              rcases hy with hy | rfl
              · exact hin.out y hy
              · exact ⟨by omega, by omega⟩
            have hdup2 : Hid (∀ (i j : Nat) (y : Int), i < j → j < k + 1 → xs[i]? = some y → xs[j]? = some y → False) := by
              intro i j y hij hj hi hj2
              by_cases hjk : j < k
              · exact hdup.out i j y hij hjk hi hj2
              · obtain rfl : j = k := by omega
                have := hx.out.symm.trans hj2
                injection this with this
                subst this
                exact Hmem.out (List.mem_iff_getElem?.2 ⟨i, by rw [List.getElem?_take, if_pos hij]; exact hi⟩)
            have hst := HO'.out.stored xn (.bool true)
            rw [seenL_set hx.out] at hst
            have HOs := Lib.hid hst.1
            have HBs := Lib.hid (HB'.out.setCell (p := ⟨w.heap.size, xn, none⟩) (Nat.le_refl _) (.bool true))
            clear hst hmem
            go_wp2
            go_roundw
            case rel => exact ⟨k + 1, by omega, by go_num, hin2, hdup2, HOs.out, HBs.out⟩
            case measure => simp only [intOf]; omega
      · obtain rfl : k = xs.length := by omega
        have hall := orderB_true Hi.out (by have := hin.out; rwa [List.take_length] at this) (fun i j x hij h1 h2 => hdup.out i j x hij (List.getElem?_eq_some_iff.1 h2).1 h1 h2)
        have Hall := Lib.hid hall
        clear hall
        go_wp2
        go_ret
        exact ⟨ret_bool Hall.out.symm, HB'.out⟩
end Go.Proofs.Ytgkbkbmhdhlffaa
