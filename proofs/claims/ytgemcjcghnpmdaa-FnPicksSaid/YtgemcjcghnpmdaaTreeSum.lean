/- 'TreeSum' of the program and of the reference: the weights of a tree, and the sum of the first ones. -/
import Derived.Test.YtgemcjcghnpmdaaTreeOf
namespace Go.Proofs.Ytgemcjcghnpmdaa
open Go.RowKit

/-- The greatest power of 2 that divides a number, by its digits. -/
def lowB (i : Nat) : Nat := (BitVec.ofNat 64 i &&& -(BitVec.ofNat 64 i)).toNat
theorem lowB_low : ∀ i : Fin 65, i.val = 0 ∨ lowB i.val = low i.val := by decide
theorem lowB_eq {i : Nat} (h : i ≤ 64) (h0 : 0 < i) : lowB i = low i := by
  have := lowB_low ⟨i, by omega⟩
  simp only at this
  omega
theorem lowB_le {i : Nat} (_h : i < 2 ^ 64) : lowB i ≤ i := by
  unfold lowB
  rw [BitVec.toNat_and]
  refine Nat.le_trans Nat.and_le_left ?_
  rw [BitVec.toNat_ofNat]
  exact Nat.mod_le _ _
theorem exists_odd : ∀ i : Nat, 0 < i → ∃ k m, i = 2 ^ k * (2 * m + 1) := by
  intro i
  induction i using Nat.strongRecOn with
  | _ i ih =>
    intro h
    rcases Nat.mod_two_eq_zero_or_one i with h0 | h1
    · obtain ⟨k, m, hkm⟩ := ih (i / 2) (by omega) (by omega)
      refine ⟨k + 1, m, ?_⟩
      rw [Nat.pow_succ, Nat.mul_comm (2 ^ k) 2, Nat.mul_assoc, ← hkm]
      omega
    · exact ⟨0, i / 2, by omega⟩
theorem lowB_pos {i : Nat} (h : i < 2 ^ 64) (h0 : 0 < i) : 1 ≤ lowB i := by
  obtain ⟨k, m, hkm⟩ := exists_odd i h0
  have hk : k < 64 := by
    rcases Nat.lt_or_ge k 64 with h1 | h1
    · exact h1
    · have h2 : 2 ^ 64 ≤ 2 ^ k := Nat.pow_le_pow_right (by omega) h1
      have h3 : 2 ^ k * 1 ≤ 2 ^ k * (2 * m + 1) := Nat.mul_le_mul_left _ (by omega)
      omega
  have b1 : (BitVec.ofNat 64 i).getLsbD k = true := by
    rw [BitVec.getLsbD_ofNat, hkm, Nat.testBit_two_pow_mul]
    simp [hk]
  have hneg : (-(BitVec.ofNat 64 i)).getLsbD k = true := by
    have e : (-(BitVec.ofNat 64 i)).toNat = 2 ^ k * (2 * (2 ^ (63 - k) - m - 1) + 1) := by
      rw [BitVec.toNat_neg, BitVec.toNat_ofNat, Nat.mod_eq_of_lt h, Nat.mod_eq_of_lt (by omega)]
      have hp : 2 ^ 64 = 2 ^ k * (2 * 2 ^ (63 - k)) := by rw [show 2 * 2 ^ (63 - k) = 2 ^ (64 - k) by rw [← Nat.pow_succ']; congr 1; omega, ← Nat.pow_add]; congr 1; omega
      have hm : m < 2 ^ (63 - k) := by
        rcases Nat.lt_or_ge m (2 ^ (63 - k)) with h1 | h1
        · exact h1
        · have : 2 ^ k * (2 * 2 ^ (63 - k)) ≤ 2 ^ k * (2 * m + 1) := Nat.mul_le_mul_left _ (by omega)
          omega
      rw [hp, hkm, ← Nat.mul_sub]
      congr 1
      omega
    rw [BitVec.getLsbD, e, Nat.testBit_two_pow_mul]
    simp
  have hb : (BitVec.ofNat 64 i &&& -(BitVec.ofNat 64 i)).getLsbD k = true := by rw [BitVec.getLsbD_and, b1, hneg]; rfl
  rcases Nat.eq_zero_or_pos (lowB i) with h1 | h1
  · unfold lowB at h1
    rw [BitVec.getLsbD, h1] at hb
    simp at hb
  · exact h1
theorem lowB_bits {i : Nat} (h : i < 2 ^ 63) (h0 : 0 < i) : bits .and .i64 (i : Int) (-(i : Int)) = (lowB i : Int) := by
  have hle := lowB_le (i := i) (by omega)
  have e2 : BitVec.ofInt 64 (-(i : Int)) = -(BitVec.ofNat 64 i) := by
    rw [BitVec.ofInt_neg, BitVec.ofInt_natCast]
  show IntKind.i64.wrap ((BitVec.ofInt 64 (i : Int) &&& BitVec.ofInt 64 (-(i : Int))).toNat : Int) = _
  rw [e2, BitVec.ofInt_natCast]
  show IntKind.i64.wrap ((lowB i : Nat) : Int) = _
  rw [IntKind.wrap_i64]
  omega

/-- The k-th weight: the node less the weights that it takes in besides. -/
def leafN (tree : List Int) (k : Nat) (ws : List Int) : Int := (seg ws (k + 1 - lowB (k + 1)) k).foldl (fun s x => wrap64 (s - x)) (tree.getD k 0)
/-- The first k weights of a tree. -/
def leavesW (tree : List Int) : Nat → List Int
  | 0 => []
  | k + 1 => leavesW tree k ++ [leafN tree k (leavesW tree k)]
theorem leavesW_len (tree : List Int) (k : Nat) : (leavesW tree k).length = k := by
  induction k with
  | zero => rfl
  | succ k ih => rw [leavesW, List.length_append, ih]; rfl
theorem leavesW_get (tree : List Int) (k n : Nat) (h : k < n) : (leavesW tree n)[k]? = some (leafN tree k (leavesW tree k)) := by
  induction n with
  | zero => omega
  | succ n ih =>
    rw [leavesW]
    by_cases hk : k < n
    · rw [List.getElem?_append_left (by rw [leavesW_len]; exact hk), ih hk]
    · obtain rfl : k = n := by omega
      rw [List.getElem?_append_right (by rw [leavesW_len]; exact Nat.le_refl _), leavesW_len, Nat.sub_self]
      rfl
def nodeOk (tree : List Int) (k : Nat) : Bool := inB (tree.getD k 0) 0 64000000
def nodesOk (tree : List Int) : Bool := (List.range tree.length).all (nodeOk tree)
theorem nodesOk_iff (tree : List Int) : nodesOk tree = true ↔ ∀ k, k < tree.length → nodeOk tree k = true := by simp [nodesOk]
/-- The weights of a tree, if it is one. -/
def treeLeaves (tree : List Int) : Option (List Int) := if nodesOk tree = true ∧ areW (leavesW tree tree.length) = true then some (leavesW tree tree.length) else none
def GaveW (w : World) (r : Option (List Int)) (e : Ending) (w' : World) : Prop :=
  ∃ (v : Value) (ok : Bool) (ws : List Int), e = .returned (.tuple #[v, .bool ok]) ∧ Hid (ok = r.isSome) ∧ Hid (ok = true → some ws = r) ∧ Own w' w.heap.size 2 v (i64s ws) ∧ Below w.heap.size w w'

set_option maxHeartbeats 4000000 in
theorem weightsOf_any (A : Option Addr) (n c B : Nat) (xs : List Int) (w : World) (h : Rd w B A n (i64s xs)) (hB : B ≤ w.heap.size) (hn : xs.length ≤ 1048576) :
    Calls Try.prog 51 #[.slice A n c] w (GaveW w (treeLeaves xs)) := by
  have hl := h.lenI
  obtain rfl : xs.length = n := hl.out
  clear hl
  go_enter Try.func51, Try.ntmps51
  go_wp2
  go_loopw [4, 5] (fun v i wr => ∃ (k : Nat) (ll : List Int) (cl : Nat) (Al : Option Addr), k ≤ xs.length ∧ i = .int .i64 ((k : Int) + 1) ∧ v = .slice Al ll.length cl ∧ Hid (ll = leavesW xs k) ∧ Hid (ll.length ≤ cl ∧ cl ≤ maxLen) ∧ Hid (∀ j, j < k → nodeOk xs j = true) ∧ Own wr w.heap.size 2 v (i64s ll) ∧ Below w.heap.size w wr) (fun _ i _ => xs.length + 1 - (intOf i).toNat)
  case atStart => exact ⟨0, [], 0, _, Nat.zero_le _, rfl, rfl, rfl, ⟨Nat.le_refl _, by unfold maxLen; omega⟩, fun j hj => absurd hj (by omega), own_newI w (Nat.le_refl _), (Below.refl _ _).alloc (Nat.le_refl _) _⟩
  case round =>
    obtain ⟨k, ll, cl, Al, hk, rfl, rfl, hll, hcap, hv, hO, hbel⟩ := hrel
    have HO := Lib.hid hO; have HB := Lib.hid hbel
    have hs := hbel.size
    have hlk : ll.length = k := by rw [hll.out, leavesW_len]
    clear hO hbel
    by_cases hlt : k < xs.length
    · obtain ⟨b0, off0, t, rfl, hbB, ht, hct⟩ := h.atI hlt
      have hct1 := (HB.out.cell (p := ⟨b0, off0 + k, none⟩) (by show b0 < _; omega)).trans hct
      have hle : (k : Int) + 1 ≤ (xs.length : Int) := by omega
      have hnode : nodeOk xs k = inB t 0 64000000 := by unfold nodeOk; rw [List.getD, ht.out]; rfl
      have hi1 : ((k : Int) + 1 - 1) = (k : Int) := by omega
      by_cases hp : inB t 0 64000000 = true
      · have hvs : Hid (∀ j, j < k + 1 → nodeOk xs j = true) := by
          intro j hj
          by_cases hjk : j < k
          · exact hv.out j hjk
          · obtain rfl : j = k := by omega
            rw [hnode]; exact hp
        have hbd1 := lowB_pos (i := k + 1) (by omega) (by omega)
        have hbd2 := lowB_le (i := k + 1) (by omega)
        have hbits := lowB_bits (i := k + 1) (by omega) (by omega)
        obtain ⟨a, ha⟩ : ∃ a, a = k + 1 - lowB (k + 1) := ⟨_, rfl⟩
        have hlow : ((lowB (k + 1) : Nat) : Int) = (k : Int) + 1 - a := by omega
        have hand : bits .and .i64 ((k : Int) + 1) (-((k : Int) + 1)) = (k : Int) + 1 - a := by rw [← hlow, ← hbits]; rfl
        have hi2 : ((k : Int) + 1 - ((k : Int) + 1 - (a : Int))) = (a : Int) := by omega
        have hneg : IntKind.i64.wrap (-((k : Int) + 1)) = -((k : Int) + 1) := IntWalk.i64_in _ (by omega)
        have Ha := Lib.hid ha
        have hak : a ≤ k := by omega
        have hcl := hcap.out
        rw [hlk] at hcl
        unfold maxLen at hcl
        obtain ⟨hcl1, hcl2⟩ := hcl
        rw [hlk]
        have HO' : Hid (Own wr w.heap.size 2 (.slice Al k cl) (i64s ll)) := by have := HO.out; rw [hlk] at this; exact this
        clear HO
        have HO := HO'
        clear HO' hct hbd1 hbd2 hbits hlow ha hnode h
        by_cases hakl : a < k
        · obtain ⟨g, x0, hAl, -, -, -⟩ := HO.out.atI (k := a) (by omega)
          subst hAl
          have hc' : ∀ j : Nat, j < k - a → ∃ x : Int, Hid (ll[a + j]? = some x) ∧ wr.cell? ⟨g, a + j, none⟩ = some (.int .i64 x) := by
            intro j hj
            obtain ⟨g', x, hA, hx, hc, _⟩ := HO.out.atI (k := a + j) (by omega)
            simp only [Option.some.injEq, Addr.mk.injEq, and_true] at hA
            subst hA
            exact ⟨x, hx, hc⟩
          have Hc := Lib.hid hc'
          have hca : ¬ cl = a := by omega
          have Hlk := Lib.hid hlk
          clear hc' hlk
          go_wp2_with fail
          refine (within_any _ _ _ _).mono ?_
          rintro e w2 ⟨rfl, rfl⟩
          rw [hp]
          go_wp2
          obtain ⟨wo, rfl⟩ : ∃ wo : World, wo = wr := ⟨_, rfl⟩
          go_loop [6, 33] (fun s i => ∃ (j : Nat) (q2 : Int), j ≤ k - a ∧ i = .int .i64 j ∧ s = .int .i64 q2 ∧ Hid (q2 = (seg (leavesW xs k) a (a + j)).foldl (fun s x => wrap64 (s - x)) (xs.getD k 0))) (fun _ i => k - a - (intOf i).toNat)
          case atStart => exact ⟨0, t, by omega, rfl, rfl, by show _ = _; rw [Nat.add_zero, seg_self, List.getD, ht.out]; rfl⟩
          case round =>
            obtain ⟨j, q2, hj, rfl, rfl, hq⟩ := hrel
            by_cases hjl : j < k - a
            · obtain ⟨x, hx, hc⟩ := Hc.out j hjl
              have hq' : wrap64 (q2 - x) = (seg (leavesW xs k) a (a + (j + 1))).foldl (fun s x => wrap64 (s - x)) (xs.getD k 0) := by rw [← Nat.add_assoc, seg_succ (by rw [← hll.out]; exact hx.out) (by omega), List.foldl_append, ← hq.out]; rfl
              have Hq' := Lib.hid hq'
              have hjl' : (j : Int) < ((k - a : Nat) : Int) := by omega
              clear hq'
              go_wp2
              go_round
              case rel => exact ⟨j + 1, wrap64 (q2 - x), by omega, by go_num, rfl, Hq'⟩
              case measure => simp only [intOf]; omega
            · obtain rfl : j = k - a := by omega
              rw [show a + (k - a) = k by omega] at hq
              have hq2 : Hid (q2 = leafN xs k (leavesW xs k)) := by show _ = _; unfold leafN; rw [← Ha.out]; exact hq.out
              go_wp2_with (at_builtin; go_must (refine emitI wo rfl _ _ rfl w.heap.size (.slice (some ⟨g, 0, none⟩) k cl) ll rfl HO.out q2 rfl ?c1 hs ?_))
              case c1 => rw [hll.out, leavesW_len]; omega
              intro v' w3 hO' hg hor
              have hB' := below_ownGrown HB.out HO.out hg (Nat.le_refl _) (Nat.le_refl _)
              obtain ⟨A4, c4, rfl, hc4⟩ := hO'.shapeI
              have HO' := Lib.hid hO'; have HB' := Lib.hid hB'
              have hosucc : Hid (ll ++ [q2] = leavesW xs (k + 1)) := by show _ = _; rw [leavesW, hq2.out, hll.out]
              clear hO' hB' hg hor hq2
              go_wp2
              go_roundw
              case rel => exact ⟨k + 1, _, c4, A4, by omega, by go_num, rfl, hosucc, hc4, hvs, HO'.out, HB'.out⟩
              case measure => simp only [intOf]; omega

        · obtain rfl : a = k := by omega
          by_cases hca : cl = a
          · obtain rfl : cl = a := hca
            have Hlk := Lib.hid hlk
            clear hlk
            go_wp2_with fail
            refine (within_any _ _ _ _).mono ?_
            rintro e w2 ⟨rfl, rfl⟩
            rw [hp]
            go_wp2
            obtain ⟨wo, rfl⟩ : ∃ wo : World, wo = wr := ⟨_, rfl⟩
            go_loop [6, 33] (fun s i => ∃ (j : Nat) (q2 : Int), j ≤ cl - cl ∧ i = .int .i64 j ∧ s = .int .i64 q2 ∧ Hid (q2 = (seg (leavesW xs cl) cl (cl + j)).foldl (fun s x => wrap64 (s - x)) (xs.getD cl 0))) (fun _ i => cl - cl - (intOf i).toNat)
            case atStart => exact ⟨0, t, by omega, rfl, rfl, by show _ = _; rw [Nat.add_zero, seg_self, List.getD, ht.out]; rfl⟩
            case round =>
              obtain ⟨j, q2, hj, rfl, rfl, hq⟩ := hrel
              by_cases hjl : j < cl - cl
              · omega
              · obtain rfl : j = cl - cl := by omega
                rw [show cl + (cl - cl) = cl by omega] at hq
                have hq2 : Hid (q2 = leafN xs cl (leavesW xs cl)) := by show _ = _; unfold leafN; rw [← Ha.out]; exact hq.out
                go_wp2_with (at_builtin; go_must (refine emitI wo rfl _ _ rfl w.heap.size (.slice Al cl cl) ll rfl HO.out q2 rfl ?c1 hs ?_))
                case c1 => rw [hll.out, leavesW_len]; omega
                intro v' w3 hO' hg hor
                have hB' := below_ownGrown HB.out HO.out hg (Nat.le_refl _) (Nat.le_refl _)
                obtain ⟨A4, c4, rfl, hc4⟩ := hO'.shapeI
                have HO' := Lib.hid hO'; have HB' := Lib.hid hB'
                have hosucc : Hid (ll ++ [q2] = leavesW xs (cl + 1)) := by show _ = _; rw [leavesW, hq2.out, hll.out]
                clear hO' hB' hg hor hq2
                go_wp2
                go_roundw
                case rel => exact ⟨cl + 1, _, c4, A4, by omega, by go_num, rfl, hosucc, hc4, hvs, HO'.out, HB'.out⟩
                case measure => simp only [intOf]; omega


          · skip
            have Hlk := Lib.hid hlk
            clear hlk
            go_wp2_with fail
            refine (within_any _ _ _ _).mono ?_
            rintro e w2 ⟨rfl, rfl⟩
            rw [hp]
            go_wp2
            obtain ⟨wo, rfl⟩ : ∃ wo : World, wo = wr := ⟨_, rfl⟩
            go_loop [6, 33] (fun s i => ∃ (j : Nat) (q2 : Int), j ≤ a - a ∧ i = .int .i64 j ∧ s = .int .i64 q2 ∧ Hid (q2 = (seg (leavesW xs a) a (a + j)).foldl (fun s x => wrap64 (s - x)) (xs.getD a 0))) (fun _ i => a - a - (intOf i).toNat)
            case atStart => exact ⟨0, t, by omega, rfl, rfl, by show _ = _; rw [Nat.add_zero, seg_self, List.getD, ht.out]; rfl⟩
            case round =>
              obtain ⟨j, q2, hj, rfl, rfl, hq⟩ := hrel
              by_cases hjl : j < a - a
              · omega
              · obtain rfl : j = a - a := by omega
                rw [show a + (a - a) = a by omega] at hq
                have hq2 : Hid (q2 = leafN xs a (leavesW xs a)) := by show _ = _; unfold leafN; rw [← Ha.out]; exact hq.out
                go_wp2_with (at_builtin; go_must (refine emitI wo rfl _ _ rfl w.heap.size (.slice Al a cl) ll rfl HO.out q2 rfl ?c1 hs ?_))
                case c1 => rw [hll.out, leavesW_len]; omega
                intro v' w3 hO' hg hor
                have hB' := below_ownGrown HB.out HO.out hg (Nat.le_refl _) (Nat.le_refl _)
                obtain ⟨A4, c4, rfl, hc4⟩ := hO'.shapeI
                have HO' := Lib.hid hO'; have HB' := Lib.hid hB'
                have hosucc : Hid (ll ++ [q2] = leavesW xs (a + 1)) := by show _ = _; rw [leavesW, hq2.out, hll.out]
                clear hO' hB' hg hor hq2
                go_wp2
                go_roundw
                case rel => exact ⟨a + 1, _, c4, A4, by omega, by go_num, rfl, hosucc, hc4, hvs, HO'.out, HB'.out⟩
                case measure => simp only [intOf]; omega


      · have hp' : inB t 0 64000000 = false := by simpa using hp
        have hno : Hid (treeLeaves xs = none) := by
          show _ = _
          unfold treeLeaves
          rw [if_neg]
          rintro ⟨h3, _⟩
          have h4 := (nodesOk_iff xs).1 h3 k hlt
          rw [hnode, hp'] at h4
          cases h4
        clear hp hnode
        go_wp2_with fail
        refine (within_any _ _ _ _).mono ?_
        rintro e w2 ⟨rfl, rfl⟩
        rw [hp']
        go_wp2
        go_ret2
        exact ⟨_, _, [], rfl, by rw [hno.out]; rfl, (fun h => nomatch h : false = true → _), own_none _ _ _, HB.out⟩
    · obtain rfl : k = xs.length := by omega
      have hrd := HO.out.rdI
      rw [hlk] at hrd ⊢
      have hab : areW ll = (treeLeaves xs).isSome := by
        unfold treeLeaves
        rw [← hll.out]
        have h1 := (nodesOk_iff xs).2 hv.out
        by_cases h2 : areW ll = true
        · rw [if_pos ⟨h1, h2⟩, h2]; rfl
        · rw [if_neg (fun h => h2 h.2)]; simpa using h2
      have hws : areW ll = true → some ll = treeLeaves xs := by
        intro h2
        unfold treeLeaves
        rw [← hll.out, if_pos ⟨(nodesOk_iff xs).2 hv.out, h2⟩]
      have HO' : Hid (Own wr w.heap.size 2 (.slice Al xs.length cl) (i64s ll)) := by have := HO.out; rw [hlk] at this; exact this
      have Hrd := Lib.hid hrd; have Hab := Lib.hid hab; have Hws := Lib.hid hws; have Hlk := Lib.hid hlk
      clear hrd hab hws hlk
      go_wp2_with fail
      refine (areWeights_any Al xs.length cl _ ll _ Hrd.out (by rw [Hlk.out]; omega)).mono ?_
      rintro e w2 ⟨rfl, rfl⟩
      go_wp2
      go_ret2
      exact ⟨_, _, ll, rfl, Hab.out, Hws.out, HO'.out, HB.out⟩

theorem treeLeaves_node {xs : List Int} {k : Nat} (hk : k < xs.length) (h : nodeOk xs k = false) : treeLeaves xs = none := by
  unfold treeLeaves
  rw [if_neg]
  rintro ⟨h3, _⟩
  rw [(nodesOk_iff xs).1 h3 k hk] at h
  cases h
theorem treeLeaves_leaf {xs : List Int} {k : Nat} (hk : k < xs.length) (h : inB (leafN xs k (leavesW xs k)) 0 1000000 = false) : treeLeaves xs = none := by
  unfold treeLeaves
  rw [if_neg]
  rintro ⟨_, h3⟩
  have h4 : allW (leavesW xs xs.length) = true := by simp [areW] at h3; exact h3.2
  rw [allW_false (leavesW_get xs k xs.length hk) h] at h4
  cases h4
theorem treeLeaves_size {xs : List Int} (h : inB xs.length 1 64 = false) : treeLeaves xs = none := by
  unfold treeLeaves
  rw [if_neg]
  rintro ⟨_, h3⟩
  have h4 : inB (leavesW xs xs.length).length 1 64 = true := by simp [areW] at h3; exact h3.1
  rw [leavesW_len, h] at h4
  cases h4
theorem treeLeaves_yes {xs : List Int} (h1 : inB xs.length 1 64 = true) (h2 : ∀ k, k < xs.length → nodeOk xs k = true) (h3 : ∀ k, k < xs.length → inB (leafN xs k (leavesW xs k)) 0 1000000 = true) : treeLeaves xs = some (leavesW xs xs.length) := by
  unfold treeLeaves
  rw [if_pos]
  refine ⟨(nodesOk_iff xs).2 h2, ?_⟩
  rw [areW, leavesW_len, h1, allW_true (fun k x hx => ?_)]
  · rfl
  · have hk : k < xs.length := by have := (List.getElem?_eq_some_iff.1 hx).1; rwa [leavesW_len] at this
    rw [leavesW_get xs k xs.length hk] at hx
    injection hx with hx
    rw [← hx]
    exact h3 k hk

set_option maxHeartbeats 4000000 in
theorem l03Leaves_any (A : Option Addr) (n c B : Nat) (xs : List Int) (w : World) (h : Rd w B A n (i64s xs)) (hB : B ≤ w.heap.size) (_hn : xs.length ≤ 1048576) :
    Calls Try.prog 52 #[.slice A n c] w (GaveLB w (treeLeaves xs)) := by
  have hl := h.lenI
  obtain rfl : xs.length = n := hl.out
  clear hl
  by_cases h1 : (xs.length : Int) < 1
  · have hno : Hid (treeLeaves xs = none) := treeLeaves_size (inB_not (by omega))
    go_enter Try.func52, Try.ntmps52
    go_wp2
    go_ret2
    exact ⟨_, _, rfl, by rw [hno.out]; rfl, by rw [hno.out]; exact own_none _ _ _, Below.refl _ _⟩
  by_cases h2 : (64 : Int) < (xs.length : Int)
  · have hno : Hid (treeLeaves xs = none) := treeLeaves_size (inB_not (by omega))
    go_enter Try.func52, Try.ntmps52
    go_wp2
    go_ret2
    exact ⟨_, _, rfl, by rw [hno.out]; rfl, by rw [hno.out]; exact own_none _ _ _, Below.refl _ _⟩
  have hin : Hid (inB (xs.length : Int) 1 64 = true) := inB_mk (by omega)
  go_enter Try.func52, Try.ntmps52
  go_wp2
  go_loopw [5, 6, 7, 8] (fun v i _ _ wr => ∃ (k : Nat) (ll : List Int) (cl : Nat) (Al : Option Addr), k ≤ xs.length ∧ i = .int .i64 ((k : Int) + 1) ∧ v = .slice Al ll.length cl ∧ Hid (ll = leavesW xs k) ∧ Hid (∀ j, j < k → nodeOk xs j = true) ∧ Hid (∀ j, j < k → inB (leafN xs j (leavesW xs j)) 0 1000000 = true) ∧ Own wr w.heap.size 2 v (i64s ll) ∧ Below w.heap.size w wr) (fun _ i _ _ _ => xs.length + 1 - (intOf i).toNat)
  case atStart => exact ⟨0, [], 0, _, Nat.zero_le _, rfl, rfl, rfl, fun j hj => absurd hj (by omega), fun j hj => absurd hj (by omega), own_newI w (Nat.le_refl _), (Below.refl _ _).alloc (Nat.le_refl _) _⟩
  case round =>
    obtain ⟨k, ll, cl, Al, hk, rfl, rfl, hll, hv, hv2, hO, hbel⟩ := hrel
    have HO := Lib.hid hO; have HB := Lib.hid hbel
    have hs := hbel.size
    have hlk : ll.length = k := by rw [hll.out, leavesW_len]
    clear hO hbel
    by_cases hlt : k < xs.length
    · obtain ⟨b0, off0, t, rfl, hbB, ht, hct⟩ := h.atI hlt
      have hct1 := (HB.out.cell (p := ⟨b0, off0 + k, none⟩) (by show b0 < _; omega)).trans hct
      have hle : (k : Int) + 1 ≤ (xs.length : Int) := by omega
      have hnode : nodeOk xs k = inB t 0 64000000 := by unfold nodeOk; rw [List.getD, ht.out]; rfl
      have hi1 : ((k : Int) + 1 - 1) = (k : Int) := by omega
      by_cases hp : inB t 0 64000000 = true
      · have hvs : Hid (∀ j, j < k + 1 → nodeOk xs j = true) := by
          intro j hj
          by_cases hjk : j < k
          · exact hv.out j hjk
          · obtain rfl : j = k := by omega
            rw [hnode]; exact hp
        have hbd := low_bd (i := k + 1) (by omega) (by omega)
        have hlb := lowB_eq (i := k + 1) (by omega) (by omega)
        obtain ⟨a, ha⟩ : ∃ a, a = k + 1 - low (k + 1) := ⟨_, rfl⟩
        have hlow : ((low (k + 1) : Nat) : Int) = (k : Int) + 1 - a := by omega
        have hi2 : ((k : Int) + 1 - ((k : Int) + 1 - (a : Int))) = (a : Int) := by omega
        have Ha : Hid (a = k + 1 - lowB (k + 1)) := by show _ = _; rw [hlb]; exact ha
        have hak : a ≤ k := by omega
        rw [hlk]
        have HO' : Hid (Own wr w.heap.size 2 (.slice Al k cl) (i64s ll)) := by have := HO.out; rw [hlk] at this; exact this
        clear HO
        have HO := HO'
        have hc' : ∀ j : Nat, j < k → ∃ (g : Nat) (x : Int), Al = some ⟨g, 0, none⟩ ∧ Hid (ll[j]? = some x) ∧ wr.cell? ⟨g, j, none⟩ = some (.int .i64 x) := by
          intro j hj
          obtain ⟨g', x, hA, hx, hc, _⟩ := HO.out.atI (k := j) (by omega)
          exact ⟨g', x, hA, hx, hc⟩
        have Hc := Lib.hid hc'; have Hlk := Lib.hid hlk
        clear HO' hct hbd hlb ha hnode h hc' hlk
        go_wp2_with fail
        refine (l00In_any _ _ _ _).mono ?_
        rintro e w2 ⟨rfl, rfl⟩
        rw [hp]
        go_wp2_with fail
        refine (l03Low_any (k + 1) _ (by omega) (by omega)).mono ?_
        rintro e w2 ⟨rfl, rfl⟩
        rw [hlow]
        clear hlow
        go_wp2
        obtain ⟨wo, rfl⟩ : ∃ wo : World, wo = wr := ⟨_, rfl⟩
        go_loop [7, 8] (fun s i => ∃ (j : Nat) (q2 : Int), a ≤ j ∧ j ≤ k ∧ i = .int .i64 j ∧ s = .int .i64 q2 ∧ Hid (q2 = (seg (leavesW xs k) a j).foldl (fun s x => wrap64 (s - x)) (xs.getD k 0))) (fun _ i => k - (intOf i).toNat)
        case atStart => exact ⟨a, t, Nat.le_refl _, by omega, by go_num, rfl, by show _ = _; rw [seg_self, List.getD, ht.out]; rfl⟩
        case round =>
          obtain ⟨j, q2, haj, hj, rfl, rfl, hq⟩ := hrel
          by_cases hjl : j < k
          · obtain ⟨g, x, hAl, hx, hc⟩ := Hc.out j hjl
            subst hAl
            have hq' : wrap64 (q2 - x) = (seg (leavesW xs k) a (j + 1)).foldl (fun s x => wrap64 (s - x)) (xs.getD k 0) := by rw [seg_succ (by rw [← hll.out]; exact hx.out) (by omega), List.foldl_append, ← hq.out]; rfl
            have Hq' := Lib.hid hq'
            have hjl' : (j : Int) < (k : Int) := by omega
            clear hq'
            go_wp2
            go_round
            case rel => exact ⟨j + 1, wrap64 (q2 - x), by omega, by omega, by go_num, rfl, Hq'⟩
            case measure => simp only [intOf]; omega
          · obtain rfl : j = k := by omega
            have hq2 : Hid (q2 = leafN xs j (leavesW xs j)) := by show _ = _; unfold leafN; rw [← Ha.out]; exact hq.out
            by_cases hlf : inB q2 0 1000000 = true
            · have hvs2 : Hid (∀ i, i < j + 1 → inB (leafN xs i (leavesW xs i)) 0 1000000 = true) := by
                intro i hi
                by_cases hij : i < j
                · exact hv2.out i hij
                · obtain rfl : i = j := by omega
                  rw [← hq2.out]; exact hlf
              go_wp2_with fail
              refine (l03Leaf_any _ _).mono ?_
              rintro e w2 ⟨rfl, rfl⟩
              rw [hlf]
              clear hlf
              go_wp2_with (at_builtin; go_must (refine emitI wo rfl _ _ rfl w.heap.size (.slice Al j cl) ll rfl HO.out q2 rfl ?c1 hs ?_))
              case c1 => rw [hll.out, leavesW_len]; omega
              intro v' w3 hO' hg hor
              have hB' := below_ownGrown HB.out HO.out hg (Nat.le_refl _) (Nat.le_refl _)
              obtain ⟨A4, c4, rfl, -⟩ := hO'.shapeI
              have HO' := Lib.hid hO'; have HB' := Lib.hid hB'
              have hosucc : Hid (ll ++ [q2] = leavesW xs (j + 1)) := by show _ = _; rw [leavesW, hq2.out, hll.out]
              clear hO' hB' hg hor
              go_wp2
              go_roundw
              case rel => exact ⟨j + 1, _, c4, A4, by omega, by go_num, rfl, hosucc, hvs, hvs2, HO'.out, HB'.out⟩
              case measure => simp only [intOf]; omega
            · have hlf' : inB q2 0 1000000 = false := by simpa using hlf
              have hno : Hid (treeLeaves xs = none) := treeLeaves_leaf hlt (by rw [← hq2.out]; exact hlf')
              go_wp2_with fail
              refine (l03Leaf_any _ _).mono ?_
              rintro e w2 ⟨rfl, rfl⟩
              rw [hlf']
              clear hlf hlf'
              go_wp2
              go_ret2
              exact ⟨_, _, rfl, by rw [hno.out]; rfl, by rw [hno.out]; exact own_none _ _ _, HB.out⟩
      · have hp' : inB t 0 64000000 = false := by simpa using hp
        have hno : Hid (treeLeaves xs = none) := treeLeaves_node hlt (by rw [hnode]; exact hp')
        clear hp hnode
        go_wp2_with fail
        refine (l00In_any _ _ _ _).mono ?_
        rintro e w2 ⟨rfl, rfl⟩
        rw [hp']
        go_wp2
        go_ret2
        exact ⟨_, _, rfl, by rw [hno.out]; rfl, by rw [hno.out]; exact own_none _ _ _, HB.out⟩
    · obtain rfl : k = xs.length := by omega
      have hyes : Hid (treeLeaves xs = some ll) := by show _ = _; rw [hll.out]; exact treeLeaves_yes hin.out hv.out hv2.out
      have Hlk := Lib.hid hlk
      clear hlk
      go_wp2
      go_ret2
      exact ⟨_, _, rfl, by rw [hyes.out]; rfl, by rw [hyes.out]; exact HO.out, HB.out⟩
end Go.Proofs.Ytgemcjcghnpmdaa
