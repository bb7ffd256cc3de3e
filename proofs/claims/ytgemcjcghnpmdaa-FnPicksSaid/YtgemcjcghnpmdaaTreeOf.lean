/- 'TreeOf' of the program and of the reference: sums of stretches of weights. -/
import Derived.Test.YtgemcjcghnpmdaaWeights
import Derived.Test.YtgemcjcghnpmdaaRange
namespace Go.Proofs.Ytgemcjcghnpmdaa
open Go.RowKit

/-- The greatest power of 2 that divides a number from 1 to 64. -/
def low (i : Nat) : Nat := if i % 2 ≠ 0 then 1 else if i % 4 ≠ 0 then 2 else if i % 8 ≠ 0 then 4 else if i % 16 ≠ 0 then 8 else if i % 32 ≠ 0 then 16 else if i % 64 ≠ 0 then 32 else 64
theorem low_all : ∀ i : Nat, i < 65 → 0 < i → (1 ≤ low i ∧ low i ≤ i) ∧ bits .and .i64 (i : Int) (-(i : Int)) = (low i : Int) := by decide
theorem low_bd {i : Nat} (h : i ≤ 64) (h0 : 0 < i) : 1 ≤ low i ∧ low i ≤ i := (low_all i (by omega) h0).1
theorem low_bits {i : Nat} (h : i ≤ 64) (h0 : 0 < i) : bits .and .i64 (i : Int) (-(i : Int)) = (low i : Int) := (low_all i (by omega) h0).2
theorem low_step' : ∀ (i : Fin 65) (j : Fin 7), i.val = 0 ∨ i.val % 2 ^ j.val ≠ 0 ∨ ((i.val % (2 * 2 ^ j.val) ≠ 0 ∨ j.val < 6) ∧ (i.val % (2 * 2 ^ j.val) = 0 ∨ 2 ^ j.val = low i.val)) := by decide
theorem low_step (i : Nat) (h : i < 65) (h0 : 0 < i) (j : Nat) (hj : j < 7) (hm : i % 2 ^ j = 0) : (i % (2 * 2 ^ j) = 0 → j < 6) ∧ (i % (2 * 2 ^ j) ≠ 0 → 2 ^ j = low i) := by
  have := low_step' ⟨i, h⟩ ⟨j, hj⟩
  simp only at this
  omega

theorem l03Low_any (i : Nat) (w : World) (h : i ≤ 64) (h0 : 0 < i) : Calls Try.prog 68 #[.int .i64 i] w fun e w' => e = .returned (.int .i64 (low i)) ∧ w = w' := by
  go_enter Try.func68, Try.ntmps68
  go_wp2
  go_loop [3] (fun d => ∃ j p : Nat, j < 7 ∧ Hid (p = 2 ^ j) ∧ d = .int .i64 p ∧ Hid (i % p = 0) ∧ 1 ≤ p ∧ p ≤ 64) (fun d => 128 - (intOf d).toNat)
  case atStart => exact ⟨0, 1, by omega, rfl, rfl, by show _ = _; omega, by omega, by omega⟩
  case round =>
    obtain ⟨j, p, hj, hp, rfl, hm, h1, h2⟩ := hrel
    have hs := low_step i (by omega) h0 j hj (by rw [← hp.out]; exact hm.out)
    rw [← hp.out] at hs
    have hmod : (i : Int) % (2 * (p : Int)) = ((i % (2 * p) : Nat) : Int) := by rw [Int.natCast_emod, Int.natCast_mul]; rfl
    by_cases hr : i % (2 * p) = 0
    · have hb : (((i : Int) % (2 * (p : Int))) == 0) = true := by rw [beq_iff_eq, hmod, hr]; rfl
      have hj6 := hs.1 hr
      have hp2 : Hid (2 * p = 2 ^ (j + 1)) := by show _ = _; rw [hp.out, Nat.pow_succ]; omega
      have hle : 2 * p ≤ 64 := by
        have h6 : (2 : Nat) ^ (j + 1) ≤ 2 ^ 6 := Nat.pow_le_pow_right (by omega) (by omega)
        have := hp2.out
        omega
      have Hr := Lib.hid hr
      clear hr hs hmod
      go_wp2
      go_round
      case rel => exact ⟨j + 1, 2 * p, by omega, hp2, by go_num, Hr, by omega, by omega⟩
      case measure => simp [intOf]; omega
    · have hb : (((i : Int) % (2 * (p : Int))) == 0) = false := by rw [beq_eq_false_iff_ne, hmod]; omega
      have hlow : Hid (p = low i) := hs.2 hr
      clear hr hs hmod
      go_wp2
      go_ret
      exact ⟨ret_int (by rw [hlow.out]), rfl⟩

/-- The sum of a list of numbers. -/
def sumI (xs : List Int) : Int := xs.foldl (fun s x => s + x) 0
theorem sumI_snoc (xs : List Int) (x : Int) : sumI (xs ++ [x]) = sumI xs + x := by simp [sumI, List.foldl_append]
/-- The stretch of numbers from a up to b. -/
def seg (xs : List Int) (a b : Nat) : List Int := (xs.take b).drop a
theorem seg_self (xs : List Int) (a : Nat) : seg xs a a = [] := by simp [seg]
theorem seg_succ {xs : List Int} {a b : Nat} {x : Int} (h : xs[b]? = some x) (hab : a ≤ b) : seg xs a (b + 1) = seg xs a b ++ [x] := by
  unfold seg
  have hb := (List.getElem?_eq_some_iff.1 h).1
  rw [take_succ_of h, List.drop_append_of_le_length (by rw [List.length_take]; omega)]
theorem seg_bd (xs : List Int) (a b : Nat) (h : allW xs = true) (n : Nat) (hn : b ≤ a + n) : 0 ≤ sumI (seg xs a b) ∧ sumI (seg xs a b) ≤ 1000000 * n := by
  have key : ∀ ys : List Int, (∀ y ∈ ys, 0 ≤ y ∧ y ≤ 1000000) → ∀ s : Int, s ≤ ys.foldl (fun s x => s + x) s ∧ ys.foldl (fun s x => s + x) s ≤ s + 1000000 * ys.length := by
    intro ys
    induction ys with
    | nil => intro _ s; simp
    | cons y ys ih =>
      intro hy s
      have h1 := hy y (by simp)
      have h2 := ih (fun z hz => hy z (by simp [hz])) (s + y)
      simp only [List.foldl_cons, List.length_cons]
      omega
  have hall : ∀ y ∈ seg xs a b, 0 ≤ y ∧ y ≤ 1000000 := by
    intro y hy
    have h1 : y ∈ xs := List.mem_of_mem_take (List.mem_of_mem_drop hy)
    rw [allW, List.all_eq_true] at h
    exact inB_true (h y h1)
  have hk := key _ hall 0
  have hlen : (seg xs a b).length ≤ n := by unfold seg; rw [List.length_drop, List.length_take]; omega
  unfold sumI
  omega
/-- The nodes of the tree of weights, as far as the k-th. -/
def nodes (xs : List Int) (k : Nat) : List Int := (List.range k).map fun j => sumI (seg xs (j + 1 - low (j + 1)) (j + 1))
theorem nodes_len (xs : List Int) (k : Nat) : (nodes xs k).length = k := by simp [nodes]
theorem nodes_succ (xs : List Int) (k : Nat) : nodes xs (k + 1) = nodes xs k ++ [sumI (seg xs (k + 1 - low (k + 1)) (k + 1))] := by simp [nodes, List.range_succ]
def treeOfL (xs : List Int) : Option (List Int) := if areW xs = true then some (nodes xs xs.length) else none
theorem treeOfL_short (xs : List Int) (h : xs.length ≤ 1048576) : ((treeOfL xs).getD []).length ≤ 2000000 := by
  unfold treeOfL
  split
  · simp [nodes_len]; omega
  · simp

set_option maxHeartbeats 2000000 in
theorem treeOf_any (A : Option Addr) (n c B : Nat) (xs : List Int) (w : World) (h : Rd w B A n (i64s xs)) (hB : B ≤ w.heap.size) (hn : xs.length ≤ 64) (hall : allW xs = true) (hcap : n ≤ c ∧ c ≤ maxLen) :
    Calls Try.prog 50 #[.slice A n c] w fun e w' => ∃ v, e = .returned v ∧ Own w' w.heap.size 2 v (i64s (nodes xs xs.length)) ∧ Below w.heap.size w w' := by
  have hl := h.lenI
  obtain rfl : xs.length = n := hl.out
  clear hl
  have Hall := Lib.hid hall; clear hall
  unfold maxLen at hcap
  obtain ⟨hcap1, hcap2⟩ := hcap
  go_enter Try.func50, Try.ntmps50
  go_wp2
  go_loopw [3, 4] (fun v i wr => ∃ (k : Nat) (ol : List Int), k ≤ xs.length ∧ i = .int .i64 ((k : Int) + 1) ∧ Hid (ol = nodes xs k) ∧ Own wr w.heap.size 2 v (i64s ol) ∧ Below w.heap.size w wr) (fun _ i _ => xs.length + 1 - (intOf i).toNat)
  case atStart => exact ⟨0, _, Nat.zero_le _, rfl, rfl, own_newI w (Nat.le_refl _), (Below.refl _ _).alloc (Nat.le_refl _) _⟩
  case round =>
    obtain ⟨k, ol, hk, rfl, hol, hO, hbel⟩ := hrel
    have HO := Lib.hid hO; have HB := Lib.hid hbel
    have hs := hbel.size
    clear hO hbel
    by_cases hlt : k < xs.length
    · have hbd := low_bd (i := k + 1) (by omega) (by omega)
      have hbits := low_bits (i := k + 1) (by omega) (by omega)
      obtain ⟨a, ha⟩ : ∃ a, a = k + 1 - low (k + 1) := ⟨_, rfl⟩
      have hlow : ((low (k + 1) : Nat) : Int) = (k : Int) + 1 - a := by omega
      have hle : (k : Int) + 1 ≤ (xs.length : Int) := by omega
      have hak : a ≤ k := by omega
      obtain ⟨bb, off, x0, rfl, hbB, -, -⟩ := h.atI (k := a) (by omega)
      have hc' : ∀ j : Nat, j < k + 1 - a → ∃ x : Int, Hid (xs[a + j]? = some x) ∧ w.cell? ⟨bb, off + a + j, none⟩ = some (.int .i64 x) := by
        intro j hj
        obtain ⟨b', off', x, hA, _, hx, hc⟩ := h.atI (k := a + j) (by omega)
        simp only [Option.some.injEq, Addr.mk.injEq, and_true] at hA
        obtain ⟨rfl, rfl⟩ := hA
        exact ⟨x, hx, by rw [Nat.add_assoc]; exact hc⟩
      have Hc := Lib.hid hc'
      have hca : ¬ c = a := by omega
      have hand : bits .and .i64 ((k : Int) + 1) (-((k : Int) + 1)) = (k : Int) + 1 - a := by rw [← hlow, ← hbits]; rfl
      have hi1 : ((k : Int) + 1 - ((k : Int) + 1 - (a : Int))) = (a : Int) := by omega
      have hneg : IntKind.i64.wrap (-((k : Int) + 1)) = -((k : Int) + 1) := IntWalk.i64_in _ (by omega)
      have Ha := Lib.hid ha
      clear hlow ha hbd hbits hc' h
      go_wp2
      obtain ⟨wo, rfl⟩ : ∃ wo : World, wo = wr := ⟨_, rfl⟩
      go_loop [5, 25] (fun s i => ∃ (j : Nat) (q : Int), j ≤ k + 1 - a ∧ i = .int .i64 j ∧ s = .int .i64 q ∧ Hid (q = sumI (seg xs a (a + j))) ∧ 0 ≤ q ∧ q ≤ 64000000) (fun _ i => k + 1 - a - (intOf i).toNat)
      case atStart => exact ⟨0, 0, by omega, rfl, rfl, by show _ = _; rw [Nat.add_zero, seg_self]; rfl, by omega, by omega⟩
      case round =>
        obtain ⟨j, q, hj, rfl, rfl, hq, hq0, hq1⟩ := hrel
        by_cases hjl : j < k + 1 - a
        · obtain ⟨x, hx, hc⟩ := Hc.out j hjl
          have hc1 := (HB.out.cell (p := ⟨bb, off + a + j, none⟩) (by show bb < _; omega)).trans hc
          have hq' : q + x = sumI (seg xs a (a + (j + 1))) := by rw [← Nat.add_assoc, seg_succ hx.out (by omega), sumI_snoc, hq.out]
          have hbd := seg_bd xs a (a + (j + 1)) Hall.out 64 (by omega)
          rw [← hq'] at hbd
          have Hq' := Lib.hid hq'
          have hx0 : -64000000 ≤ x ∧ x ≤ 64000000 := by omega
          have hjl' : (j : Int) < ((k + 1 - a : Nat) : Int) := by omega
          clear hq' hc
          go_wp2
          go_round
          case rel => exact ⟨j + 1, q + x, by omega, by go_num, rfl, Hq', by omega, by omega⟩
          case measure => simp [intOf]; omega
        · obtain rfl : j = k + 1 - a := by omega
          go_wp2_with (at_builtin; go_must (refine emitI wo rfl _ _ rfl w.heap.size u3 ol rfl HO.out q rfl ?c1 hs ?_))
          case c1 => rw [hol.out, nodes_len]; omega
          intro v' w3 hO' hg hor
          have hB' := below_ownGrown HB.out HO.out hg (Nat.le_refl _) (Nat.le_refl _)
          have HO' := Lib.hid hO'; have HB' := Lib.hid hB'
          have hosucc : Hid (ol ++ [q] = nodes xs (k + 1)) := by show _ = _; rw [nodes_succ, hol.out, hq.out, ← Ha.out, show a + (k + 1 - a) = k + 1 by omega]
          clear hO' hB' hg hor
          go_wp2
          go_roundw
          case rel => exact ⟨k + 1, ol ++ [q], by omega, by go_num, hosucc, HO'.out, HB'.out⟩
          case measure => simp [intOf]; omega
    · obtain rfl : k = xs.length := by omega
      go_wp2
      go_ret
      exact ⟨_, rfl, by rw [← hol.out]; exact HO.out, HB.out⟩

theorem implTreeOf : FnL_LB 20 treeOfL := by
  intro A n c B xs w h hB hn hf hcap
  have hl := h.lenI
  obtain rfl : xs.length = n := hl.out
  clear hl
  by_cases hin : areW xs = true
  · have hyes : Hid (treeOfL xs = some (nodes xs xs.length)) := by show _ = _; unfold treeOfL; rw [if_pos hin]
    have hh : inB xs.length 1 64 = true ∧ allW xs = true := by simpa [areW] using hin
    have hb64 := inB_true hh.1
    have Hall := Lib.hid hh.2
    clear hh
    go_enter Try.func20, Try.ntmps20
    go_wp2_with fail
    refine (areWeights_any A xs.length c B xs _ h (by omega)).mono ?_
    rintro e w2 ⟨rfl, rfl⟩
    rw [hin]
    clear hin
    go_wp2_with fail
    refine (treeOf_any A xs.length c B xs _ h hB (by omega) Hall.out hcap).mono ?_
    rintro e w2 ⟨v, rfl, ho, hb⟩
    have HO := Lib.hid ho; have HB := Lib.hid hb
    clear ho hb
    go_wp2
    go_ret2
    exact ⟨_, _, rfl, by rw [hyes.out]; rfl, by rw [hyes.out]; exact HO.out, HB.out⟩
  · have hno : Hid (treeOfL xs = none) := by show _ = _; unfold treeOfL; rw [if_neg hin]
    have hin' : areW xs = false := by simpa using hin
    clear hin
    go_enter Try.func20, Try.ntmps20
    go_wp2_with fail
    refine (areWeights_any A xs.length c B xs _ h (by omega)).mono ?_
    rintro e w2 ⟨rfl, rfl⟩
    rw [hin']
    go_wp2
    go_ret2
    exact ⟨_, _, rfl, by rw [hno.out]; rfl, by rw [hno.out]; exact own_none _ _ _, Below.refl _ _⟩
theorem l03Leaf_any (n : Int) (w : World) : Calls Try.prog 69 #[.int .i64 n] w fun e w' => e = .returned (.bool (inB n 0 1000000)) ∧ w = w' := by
  go_enter Try.func69, Try.ntmps69
  go_wp2_with (go_at_call 47; refine (l00In_any _ _ _ _).mono ?_; rintro e w' ⟨rfl, rfl⟩)
  go_ret
  exact ⟨rfl, rfl⟩
end Go.Proofs.Ytgemcjcghnpmdaa
