/- How many edges each number has. -/
import Derived.Test.YtgkbkbmhdhlffaaEdgesI
import Derived.Test.YtgkbkbmhdhlffaaRange
namespace Go.Proofs.Ytgkbkbmhdhlffaa
open Go.RowKit
set_option maxRecDepth 100000
theorem areEdges_in {xs : List Int} {n : Int} (h : areEdges xs n = true) {i : Nat} {x : Int} (hx : xs[i]? = some x) : 0 ≤ x ∧ x < n := by
  unfold areEdges at h
  simp only [Bool.and_eq_true, decide_eq_true_eq, List.all_eq_true, List.mem_range] at h
  obtain ⟨⟨⟨_, h2⟩, _⟩, h4⟩ := h
  have hl : i < xs.length := (List.getElem?_eq_some_iff.1 hx).1
  have h5 := h4 (i / 2) (by omega)
  unfold okAt edgeOk at h5
  simp only [Bool.and_eq_true] at h5
  obtain ⟨⟨a, b⟩, _⟩ := h5
  have a := inB_true a
  have b := inB_true b
  unfold edgeAt at a b
  simp only at a b
  by_cases he : i % 2 = 0
  · have e : 2 * (i / 2) = i := by omega
    rw [e] at a
    have : xs.getD i 0 = x := by rw [List.getD_eq_getElem?_getD, hx]; rfl
    omega
  · have e : 2 * (i / 2) + 1 = i := by omega
    rw [e] at b
    have : xs.getD i 0 = x := by rw [List.getD_eq_getElem?_getD, hx]; rfl
    omega
def addAt (row : List Int) (e : Int) : List Int := row.set e.toNat (row.getD e.toNat 0 + 1)
def degRow (n : Nat) (xs : List Int) : List Int := xs.foldl addAt (List.replicate n 0)
theorem degRow_len (n : Nat) (xs : List Int) : (degRow n xs).length = n := by
  unfold degRow
  have : ∀ (xs row : List Int), (xs.foldl addAt row).length = row.length := by
    intro xs
    induction xs with
    | nil => intro row; rfl
    | cons e xs ih => intro row; rw [List.foldl_cons, ih]; simp [addAt]
  rw [this]; simp
theorem degRow_succ {n k : Nat} {xs : List Int} {x : Int} (h : xs[k]? = some x) : degRow n (xs.take (k + 1)) = addAt (degRow n (xs.take k)) x := by
  unfold degRow
  rw [List.take_add_one, h, List.foldl_append]
  rfl
theorem degRow_bd {n : Nat} {xs : List Int} : ∀ k i, 0 ≤ (degRow n (xs.take k)).getD i 0 ∧ (degRow n (xs.take k)).getD i 0 ≤ k
  | 0, i => by
    unfold degRow
    simp only [List.take_zero, List.foldl_nil, List.getD_eq_getElem?_getD]
    by_cases h : i < n
    · simp [h]
    · simp [h]
  | k + 1, i => by
    have ih := degRow_bd (n := n) (xs := xs) k
    cases hx : xs[k]? with
    | none =>
      have : xs.take (k + 1) = xs.take k := by rw [List.take_add_one, hx]; simp
      rw [this]
      have := ih i
      omega
    | some x =>
      rw [degRow_succ hx]
      unfold addAt
      have h1 := ih i
      have h2 := ih x.toNat
      simp only [List.getD_eq_getElem?_getD] at h1 h2 ⊢
      rw [List.getElem?_set]
      by_cases e : x.toNat = i
      · rw [if_pos e]
        split
        · simp only [Option.getD_some]; omega
        · simp only [Option.getD_none]; omega
      · rw [if_neg e]; omega
def degreesR (xs : List Int) (n : Int) : Option (List Int) := if areEdges xs n then some (degRow n.toNat xs) else none
theorem degreesR_short (xs : List Int) (n : Int) (_ : xs.length ≤ 1048576) : ((degreesR xs n).getD []).length ≤ 2000000 := by
  unfold degreesR
  by_cases h : areEdges xs n = true
  · rw [if_pos h]
    unfold areEdges at h
    simp only [Bool.and_eq_true] at h
    have := inB_true h.1.1.1
    show (degRow n.toNat xs).length ≤ _
    rw [degRow_len]
    omega
  · rw [if_neg h]; simp
set_option maxHeartbeats 2000000 in
theorem specDeg_any (A : Option Addr) (n c B : Nat) (xs : List Int) (k0 : Int) (w : World) (h : Rd w B A n (i64s xs)) (hB : B ≤ w.heap.size) (hyes : areEdges xs k0 = true) :
    Calls Try.prog 28 #[.slice A n c, .int .i64 k0] w fun e w' => ∃ v, e = .returned v ∧ Own w' w.heap.size 2 v (i64s (degRow k0.toNat xs)) ∧ Below w.heap.size w w' := by
  have hl := h.lenI
  obtain rfl : xs.length = n := hl.out
  have hin := Lib.hid (fun (i : Nat) (x : Int) (hx : xs[i]? = some x) => areEdges_in hyes hx)
  have hbd : (1 ≤ k0 ∧ k0 ≤ 64) ∧ xs.length ≤ 512 := by
    unfold areEdges at hyes
    simp only [Bool.and_eq_true, decide_eq_true_eq] at hyes
    exact ⟨inB_true hyes.1.1.1, hyes.1.2⟩
  obtain ⟨⟨hk1, hk2⟩, hx5⟩ := hbd
  obtain ⟨m, rfl⟩ : ∃ m : Nat, k0 = m := ⟨k0.toNat, by omega⟩
  simp only [Int.toNat_natCast]
  have HR := Lib.hid h
  clear hyes h hl
  obtain ⟨i0, hi0, hz0, hz1, hz2⟩ := info_parts info_i64'
  go_enter Try.func28, Try.ntmps28
  go_wp2_with (at_make; refine wpList_make_full _ rfl _ _ 22 rfl w.heap.size 2 i0 (.int .i64 0) 1 Try.underlying22 hi0 hz0 hz1 _ _ _ _ m rfl rfl rfl rfl ?c1 ?c2 ?c3 ?_)
  case c1 => rw [hz2]; omega
  case c2 => unfold maxLen; omega
  case c3 => exact Nat.le_refl _
  intro w1 hown hgrow
  clear hi0 hz0 hz1 hz2
  have ho1 : Own w1 w.heap.size 2 (.slice (some ⟨w.heap.size, 0, none⟩) m m) (i64s (degRow m (xs.take 0))) := by
    unfold Own
    rw [i64s_length, degRow_len]
    rw [madeCells_one] at hown
    simpa [degRow, i64s] using hown
  have HO := Lib.hid ho1
  have HB := Lib.hid ((Below.refl w.heap.size w).grown hgrow (Nat.le_refl _) (by simp))
  clear hown ho1 hgrow
  go_wp2
  go_loopw [6] (fun i wr => ∃ k : Nat, k ≤ xs.length ∧ i = .int .i64 k ∧ Own wr w.heap.size 2 (.slice (some ⟨w.heap.size, 0, none⟩) m m) (i64s (degRow m (xs.take k))) ∧ Below w.heap.size w wr) (fun i _ => xs.length - (intOf i).toNat)
  case atStart => exact ⟨0, Nat.zero_le _, rfl, HO.out, HB.out⟩
  case round =>
    obtain ⟨k, hk, rfl, hO, hbel⟩ := hrel
    have HO' := Lib.hid hO; have HB' := Lib.hid hbel
    clear hO hbel
    by_cases hlt : k < xs.length
    · have hlt' : (k : Int) < (xs.length : Int) := by omega
      have hR2 := HR.out.below HB'.out hB
      obtain ⟨b, off, x, rfl, hbB, hx, hcx⟩ := hR2.atI (k := k) hlt
      obtain ⟨hx0, hx1⟩ := hin.out k x hx.out
      obtain ⟨e, rfl⟩ : ∃ e : Nat, x = e := ⟨x.toNat, by omega⟩
      obtain ⟨g, z, hA, hz, hcz, hfz⟩ := HO'.out.atI (k := e) (by rw [degRow_len]; omega)
      obtain rfl : w.heap.size = g := by injection hA with e; injection e
      have hzd : z = (degRow m (xs.take k)).getD e 0 := by rw [List.getD_eq_getElem?_getD, hz.out]; rfl
      have hzb := degRow_bd (n := m) (xs := xs) k e
      rw [← hzd] at hzb
      have hst := HO'.out.stored rfl e (z + 1)
      have hrow : (degRow m (xs.take k)).set e (z + 1) = degRow m (xs.take (k + 1)) := by rw [degRow_succ hx.out, addAt, Int.toNat_natCast, ← hzd]
      rw [hrow] at hst
      have HOs := Lib.hid hst.1
      have HBs := Lib.hid (HB'.out.setCell (p := ⟨w.heap.size, e, none⟩) (Nat.le_refl _) (.int .i64 (z + 1)))
      clear hst hrow hz hzd hA hR2
      go_wp2
      go_roundw
      case rel => exact ⟨k + 1, by omega, by go_num, HOs.out, HBs.out⟩
      case measure => simp only [intOf]; omega
    · obtain rfl : k = xs.length := by omega
      have hO2 : Hid (Own wr w.heap.size 2 (.slice (some ⟨w.heap.size, 0, none⟩) m m) (i64s (degRow m xs))) := by have := HO'.out; rw [List.take_length] at this; exact this
      clear HO'
      go_wp2
      go_ret
      exact ⟨_, rfl, hO2.out, HB'.out⟩
set_option maxHeartbeats 2000000 in
theorem implDeg_any (A : Option Addr) (n c B : Nat) (xs : List Int) (k0 : Int) (w : World) (h : Rd w B A n (i64s xs)) (hB : B ≤ w.heap.size) (hyes : areEdges xs k0 = true) :
    Calls Try.prog 34 #[.slice A n c, .int .i64 k0] w fun e w' => ∃ v, e = .returned v ∧ Own w' w.heap.size 2 v (i64s (degRow k0.toNat xs)) ∧ Below w.heap.size w w' := by
  have hl := h.lenI
  obtain rfl : xs.length = n := hl.out
  have hin := Lib.hid (fun (i : Nat) (x : Int) (hx : xs[i]? = some x) => areEdges_in hyes hx)
  have hbd : (1 ≤ k0 ∧ k0 ≤ 64) ∧ xs.length ≤ 512 := by
    unfold areEdges at hyes
    simp only [Bool.and_eq_true, decide_eq_true_eq] at hyes
    exact ⟨inB_true hyes.1.1.1, hyes.1.2⟩
  obtain ⟨⟨hk1, hk2⟩, hx5⟩ := hbd
  obtain ⟨m, rfl⟩ : ∃ m : Nat, k0 = m := ⟨k0.toNat, by omega⟩
  simp only [Int.toNat_natCast]
  have HR := Lib.hid h
  clear hyes h hl
  obtain ⟨i0, hi0, hz0, hz1, hz2⟩ := info_parts info_i64'
  go_enter Try.func34, Try.ntmps34
  go_wp2_with (at_make; refine wpList_make_full _ rfl _ _ 22 rfl w.heap.size 2 i0 (.int .i64 0) 1 Try.underlying22 hi0 hz0 hz1 _ _ _ _ m rfl rfl rfl rfl ?c1 ?c2 ?c3 ?_)
  case c1 => rw [hz2]; omega
  case c2 => unfold maxLen; omega
  case c3 => exact Nat.le_refl _
  intro w1 hown hgrow
  clear hi0 hz0 hz1 hz2
  have ho1 : Own w1 w.heap.size 2 (.slice (some ⟨w.heap.size, 0, none⟩) m m) (i64s (degRow m (xs.take 0))) := by
    unfold Own
    rw [i64s_length, degRow_len]
    rw [madeCells_one] at hown
    simpa [degRow, i64s] using hown
  have HO := Lib.hid ho1
  have HB := Lib.hid ((Below.refl w.heap.size w).grown hgrow (Nat.le_refl _) (by simp))
  clear hown ho1 hgrow
  go_wp2
  go_loopw [12] (fun i wr => ∃ k : Nat, k ≤ xs.length ∧ i = .int .i64 k ∧ Own wr w.heap.size 2 (.slice (some ⟨w.heap.size, 0, none⟩) m m) (i64s (degRow m (xs.take k))) ∧ Below w.heap.size w wr) (fun i _ => xs.length - (intOf i).toNat)
  case atStart => exact ⟨0, Nat.zero_le _, rfl, HO.out, HB.out⟩
  case round =>
    obtain ⟨k, hk, rfl, hO, hbel⟩ := hrel
    have HO' := Lib.hid hO; have HB' := Lib.hid hbel
    clear hO hbel
    by_cases hlt : k < xs.length
    · have hlt' : (k : Int) < (xs.length : Int) := by omega
      have hR2 := HR.out.below HB'.out hB
      obtain ⟨b, off, x, rfl, hbB, hx, hcx⟩ := hR2.atI (k := k) hlt
      obtain ⟨hx0, hx1⟩ := hin.out k x hx.out
      obtain ⟨e, rfl⟩ : ∃ e : Nat, x = e := ⟨x.toNat, by omega⟩
      obtain ⟨g, z, hA, hz, hcz, hfz⟩ := HO'.out.atI (k := e) (by rw [degRow_len]; omega)
      obtain rfl : w.heap.size = g := by injection hA with e; injection e
      have hzd : z = (degRow m (xs.take k)).getD e 0 := by rw [List.getD_eq_getElem?_getD, hz.out]; rfl
      have hzb := degRow_bd (n := m) (xs := xs) k e
      rw [← hzd] at hzb
      have hst := HO'.out.stored rfl e (z + 1)
      have hrow : (degRow m (xs.take k)).set e (z + 1) = degRow m (xs.take (k + 1)) := by rw [degRow_succ hx.out, addAt, Int.toNat_natCast, ← hzd]
      rw [hrow] at hst
      have HOs := Lib.hid hst.1
      have HBs := Lib.hid (HB'.out.setCell (p := ⟨w.heap.size, e, none⟩) (Nat.le_refl _) (.int .i64 (z + 1)))
      clear hst hrow hz hzd hA hR2
      go_wp2
      go_roundw
      case rel => exact ⟨k + 1, by omega, by go_num, HOs.out, HBs.out⟩
      case measure => simp only [intOf]; omega
    · obtain rfl : k = xs.length := by omega
      have hO2 : Hid (Own wr w.heap.size 2 (.slice (some ⟨w.heap.size, 0, none⟩) m m) (i64s (degRow m xs))) := by have := HO'.out; rw [List.take_length] at this; exact this
      clear HO'
      go_wp2
      go_ret
      exact ⟨_, rfl, hO2.out, HB'.out⟩
end Go.Proofs.Ytgkbkbmhdhlffaa
