/- Plain laws for the statement FnPicks: the weights' picks, sums of counts, the tree of leaves told back. -/
import Derived.Test.YtgemcjcghnpmdaaNear
import Derived.Test.YtgemcjcghnpmdaaSplitI
import Derived.Test.YtgemcjcghnpmdaaTreeSeed
import Derived.Test.YtgemcjcghnpmdaaTreeAdd
namespace Go.Proofs.Ytgemcjcghnpmdaa
open Go.RowKit Mag

/-! Weights of quarters are picks. -/
theorem zero_In : In .f32 0 0 0 := In.const (by decide +kernel)
theorem finB_In {a b : Int} {x : Nat} (h : In .f32 a b x) (h1 : -16000000 ≤ a - b) : finB x = true := by
  have hab := h.le
  unfold finB
  have hz : KV .f32 (fop .sub .f32 x x) = KV .f32 0 := by
    have hx := h.1
    obtain ⟨r, he, hk⟩ := sub_sk hx hx
    have e : fop .sub .f32 x x = r := by unfold fop floatBits; dsimp only; rw [he]; rfl
    rw [e]
    show Mag.sk _ _ = _
    rw [hk]
    have ht : tot (negW FloatKind.f32.format x) (magM FloatKind.f32.format (rungW FloatKind.f32.format x)) (magE FloatKind.f32.format (rungW FloatKind.f32.format x)) (!negW FloatKind.f32.format x) (magM FloatKind.f32.format (rungW FloatKind.f32.format x)) (magE FloatKind.f32.format (rungW FloatKind.f32.format x)) = 0 := by
      unfold tot
      rw [sv_not, Int.neg_mul]; omega
    rw [ht]
    have : rg Ieee.single (0 : Int).natAbs (min (magE FloatKind.f32.format (rungW FloatKind.f32.format x)) (magE FloatKind.f32.format (rungW FloatKind.f32.format x))) = 0 := by show rg _ 0 _ = 0; unfold rg; rw [if_pos rfl]
    unfold srg
    change sv _ (rg Ieee.single _ _) = _
    rw [this]
    decide +kernel
  have hf := (h.sub h (by unfold lim; omega) (by unfold lim; omega)).1
  rw [feq_KV hf zero_In.1, hz]
  simp
theorem nonnegB_In {a b : Int} {x : Nat} (h : In .f32 a b x) (h1 : -16000000 ≤ a - b) (ha : 0 ≤ a) : nonnegB x = true := by
  unfold nonnegB
  rw [finB_In h h1, fge_KV h.1 zero_In.1, decide_eq_true (zero_In.key_le h ha)]; rfl
theorem posB_In {a b : Int} {x : Nat} (h : In .f32 a b x) (h1 : -16000000 ≤ a - b) (ha : 0 < a) : posB x = true := by
  unfold posB
  rw [finB_In h h1, fgt_KV h.1 zero_In.1]
  have : KV .f32 0 < KV .f32 x := by
    rcases Int.lt_or_le (KV .f32 0) (KV .f32 x) with hc | hc
    · exact hc
    · have := (h.of_key_le zero_In hc).le
      omega
  rw [decide_eq_true this]; rfl
theorem sumL_pos {ks : List Nat} (h1 : 1 ≤ ks.length) (hk : ∀ k ∈ ks, 1 ≤ k ∧ k < 17) : 1 ≤ sumL ks := by
  cases ks with
  | nil => simp at h1
  | cons k ks =>
    have e : sumL (k :: ks) = k + sumL ks := by unfold sumL; rw [List.foldl_cons, foldl_acc ks (0 + k)]; omega
    have := hk k (by simp)
    omega
theorem sumL_le {ks : List Nat} (h12 : ks.length ≤ 12) (hk : ∀ k ∈ ks, 1 ≤ k ∧ k < 17) : sumL ks ≤ 192 := by
  obtain ⟨b, b1, b2, b3⟩ := sumF_In ks 0 0 (In.const (by decide +kernel)) (fun k hk' => (hk k hk').2) (by omega)
  have : sumL ks = b := b1.symm
  omega
theorem picks_wt {ks : List Nat} (h1 : 1 ≤ ks.length) (h12 : ks.length ≤ 12) (hk : ∀ k ∈ ks, 1 ≤ k ∧ k < 17) : picksB (ks.map wtF) = true := by
  obtain ⟨b, b1, b2, b3⟩ := sumF_In ks 0 0 (In.const (by decide +kernel)) (fun k hk' => (hk k hk').2) (by omega)
  have hs := sumL_pos h1 hk
  have hbs : b = sumL ks := b1
  unfold picksB
  rw [List.length_map, inB_mk (by omega)]
  have hall : allP nonnegB (ks.map wtF) = true := by
    unfold allP
    rw [List.all_eq_true]
    intro x hx
    obtain ⟨k, hk', rfl⟩ := List.mem_map.1 hx
    have := hk k hk'
    exact nonnegB_In (wt_In this.2) (by omega) (by omega)
  rw [hall, posB_In (x := sumF (ks.map wtF)) b3 (by omega) (by omega)]; rfl

/-! Sums of counts. -/
theorem sumI_acc : ∀ (l : List Int) (s : Int), l.foldl (fun s x => s + x) s = s + sumI l
  | [], s => by simp [sumI]
  | x :: l, s => by unfold sumI; rw [List.foldl_cons, List.foldl_cons, sumI_acc l (s + x), sumI_acc l (0 + x)]; omega
theorem sumI_cons (x : Int) (l : List Int) : sumI (x :: l) = x + sumI l := by
  conv => lhs; unfold sumI
  rw [List.foldl_cons, sumI_acc]; omega
theorem sumI_set : ∀ (l : List Int) (i : Nat) (x : Int), i < l.length → sumI (l.set i x) = sumI l - l.getD i 0 + x
  | [], i, x, h => by simp at h
  | y :: l, 0, x, _ => by rw [List.set_cons_zero, sumI_cons, sumI_cons]; simp; omega
  | y :: l, i + 1, x, h => by rw [List.set_cons_succ, sumI_cons, sumI_cons, sumI_set l i x (by simpa using h)]; simp; omega
theorem cntAt_sum {row : List Int} {p : Int} (h0 : 0 ≤ p) (h1 : p < (row.length : Int)) : sumI (cntAt row p) = sumI row + 1 := by
  unfold cntAt
  rw [sumI_set _ _ _ (by omega)]; omega
theorem splitGo_sum {S : List Nat} {O : List Int} (hO : ∀ y ∈ O, 0 ≤ y ∧ y < (S.length : Int)) (hl : O.length = S.length) (hS : 1 ≤ S.length) : ∀ (k : Nat) {s t : Sd} {row out : List Int}, row.length = S.length → splitGo S O k s row = some (t, out) → sumI out = sumI row + k ∧ out.length = S.length
  | 0, s, t, row, out, hr, h => by
    unfold splitGo at h
    injection h with h
    injection h with h1 h2
    subst h2
    exact ⟨by omega, hr⟩
  | k + 1, s, t, row, out, hr, h => by
    cases ht : tried S.length 64 s with
    | none => rw [splitGo_none ht] at h; cases h
    | some p =>
      obtain ⟨t', i⟩ := p
      rw [splitGo_some ht] at h
      have hi := tried_lt (by omega) ht
      have hp := pick_in hO (i := i.toNat) (by omega) hl (shareOf t')
      obtain ⟨g1, g2⟩ := splitGo_sum hO hl hS k (by rw [cntAt_len]; exact hr) h
      rw [cntAt_sum hp.1 (by rw [hr]; exact hp.2)] at g1
      exact ⟨by push_cast; omega, g2⟩
theorem sumI_rep (n : Nat) : sumI (List.replicate n 0) = 0 := by
  induction n with
  | zero => rfl
  | succ n ih => rw [List.replicate_succ, sumI_cons, ih]; rfl
theorem splitR_sum {s t : Sd} {n : Int} {xs : List Nat} {out : List Int} (h : splitR s n xs = some (t, out)) : sumI out = n ∧ (0 ≤ n ∧ n ≤ 1000) ∧ out.length = xs.length := by
  unfold splitR at h
  split at h
  · rename_i hc
    rw [Bool.and_eq_true] at hc
    have hn := inB_true hc.2
    unfold aliasR at h
    by_cases hp : picksB xs = true
    · rw [if_pos hp] at h
      have hv := aliasR_valid hp
      have hd := (startS_ok hp).run xs.length
      have hlS : (lastSh (doneS xs) xs.length).length = xs.length := (lastSh_len _ _).trans hd.sh
      have hlO : (doneS xs).ot.length = xs.length := hd.ot
      have h1 : 1 ≤ xs.length := by
        have := hp
        unfold picksB at this
        simp only [Bool.and_eq_true] at this
        have := inB_true this.1
        omega
      obtain ⟨g1, g2⟩ := splitGo_sum (S := lastSh (doneS xs) xs.length) (O := (doneS xs).ot) (fun y hy => by
        obtain ⟨j, hj, e⟩ := List.mem_iff_getElem.1 hy
        rw [hlS]
        exact hd.oko j y (by rw [← e]; exact List.getElem?_eq_getElem hj)) (by rw [hlS, hlO]) (by rw [hlS]; exact h1) n.toNat (by rw [hlS, List.length_replicate]) h
      rw [sumI_rep] at g1
      exact ⟨by omega, hn, by rw [g2, hlS]⟩
    · rw [if_neg hp] at h; cases h
  · cases h

theorem splitGo_upto {S : List Nat} {O : List Int} : ∀ (k : Nat) {s t : Sd} {row out : List Int} {m : Int}, 0 ≤ m → Upto row m → splitGo S O k s row = some (t, out) → Upto out (m + k)
  | 0, s, t, row, out, m, hm, hr, h => by
    unfold splitGo at h
    injection h with h
    injection h with h1 h2
    subst h2
    intro i x hx
    have := hr i x hx
    omega
  | k + 1, s, t, row, out, m, hm, hr, h => by
    cases ht : tried S.length 64 s with
    | none => rw [splitGo_none ht] at h; cases h
    | some p =>
      obtain ⟨t', i⟩ := p
      rw [splitGo_some ht] at h
      have := splitGo_upto k (by omega) (hr.cnt _ hm) h
      intro i x hx
      have := this i x hx
      push_cast
      omega
theorem splitR_upto {s t : Sd} {n : Int} {xs : List Nat} {out : List Int} (h : splitR s n xs = some (t, out)) : Upto out 1000 := by
  have hs := splitR_sum h
  unfold splitR at h
  split at h
  · cases ha : aliasR xs with
    | none => rw [ha] at h; cases h
    | some p =>
      obtain ⟨S, O⟩ := p
      rw [ha] at h
      have := splitGo_upto n.toNat (Int.le_refl 0) (zeros_upto _ 0 (Int.le_refl 0)) h
      intro i x hx
      have := this i x hx
      omega
  · cases h
theorem sumI_bd {l : List Int} {M : Int} (h : Upto l M) (hM : 0 ≤ M) : ∀ j : Nat, 0 ≤ sumI (l.take j) ∧ sumI (l.take j) ≤ M * j
  | 0 => by simp [sumI]
  | j + 1 => by
    have ih := sumI_bd h hM j
    by_cases hj : j < l.length
    · have e : l[j]? = some l[j] := List.getElem?_eq_getElem hj
      rw [take_succ_of e, sumI_snoc]
      have := h j _ e
      push_cast
      rw [Int.mul_add]
      omega
    · rw [List.take_of_length_le (by omega)]
      rw [List.take_of_length_le (by omega)] at ih
      push_cast
      rw [Int.mul_add]
      omega
/-! The tree of leaves. -/
theorem allW_mem {xs : List Int} (h : allW xs = true) (x : Int) (hx : x ∈ xs) : 0 ≤ x ∧ x ≤ 1000000 := by
  unfold allW at h
  exact inB_true (List.all_eq_true.1 h x hx)
theorem foldl_less : ∀ (l : List Int) (s : Int), (∀ y ∈ l, 0 ≤ y ∧ y ≤ 1000000) → 0 ≤ s - sumI l → s ≤ 100000000 → l.foldl (fun s x => wrap64 (s - x)) s = s - sumI l
  | [], s, _, _, _ => by simp [sumI]
  | x :: l, s, hy, h0, h1 => by
    have hx := hy x (by simp)
    rw [sumI_cons] at h0 ⊢
    have hs : 0 ≤ sumI l := by
      have : ∀ (l : List Int), (∀ y ∈ l, 0 ≤ y ∧ y ≤ 1000000) → 0 ≤ sumI l := by
        intro l
        induction l with
        | nil => intro _; exact Int.le_refl _
        | cons y l ih => intro h; rw [sumI_cons]; have := h y (by simp); have := ih (fun z hz => h z (by simp [hz])); omega
      exact this l (fun z hz => hy z (by simp [hz]))
    have hw : wrap64 (s - x) = s - x := by unfold wrap64; omega
    rw [List.foldl_cons, hw, foldl_less l (s - x) (fun z hz => hy z (by simp [hz])) (by omega) (by omega)]
    omega
theorem seg_take (xs : List Int) (a k : Nat) : seg (xs.take k) a k = seg xs a k := by unfold seg; rw [List.take_take, Nat.min_self]
theorem leaves_back {xs : List Int} (ha : areW xs = true) : ∀ k, k ≤ xs.length → leavesW (nodes xs xs.length) k = xs.take k
  | 0, _ => by simp [leavesW]
  | k + 1, hk => by
    obtain ⟨a1, a2, a3⟩ := areW_parts ha
    rw [leavesW, leaves_back ha k (by omega)]
    have hx : xs[k]? = some (xs[k]'(by omega)) := List.getElem?_eq_getElem _
    have hxr := allW_mem a3 _ (List.getElem_mem (by omega : k < xs.length))
    have hlow := low_bd (i := k + 1) (by omega) (by omega)
    have hleaf : leafN (nodes xs xs.length) k (xs.take k) = xs[k]'(by omega) := by
      unfold leafN
      rw [lowB_eq (by omega) (by omega), seg_take]
      have hn : (nodes xs xs.length).getD k 0 = sumI (seg xs (k + 1 - low (k + 1)) k) + xs[k]'(by omega) := by
        rw [List.getD_eq_getElem?_getD]
        unfold nodes
        rw [List.getElem?_map, List.getElem?_range (by omega)]
        simp only [Option.map_some, Option.getD_some]
        rw [seg_succ hx (by omega), sumI_snoc]
      have hb := seg_bd xs (k + 1 - low (k + 1)) k a3 64 (by omega)
      rw [hn, foldl_less _ _ (fun y hy => by
        have : y ∈ xs := List.mem_of_mem_take (List.mem_of_mem_drop hy)
        exact allW_mem a3 y this) (by omega) (by push_cast at hb; omega)]
      omega
    rw [hleaf, take_succ_of hx]
theorem tree_back {xs : List Int} (ha : areW xs = true) : treeLeaves (nodes xs xs.length) = some xs := by
  obtain ⟨a1, a2, a3⟩ := areW_parts ha
  have hno : nodesOk (nodes xs xs.length) = true := by
    rw [nodesOk_iff, nodes_len]
    intro k hk
    unfold nodeOk
    rw [List.getD_eq_getElem?_getD]
    unfold nodes
    rw [List.getElem?_map, List.getElem?_range hk]
    simp only [Option.map_some, Option.getD_some]
    have := seg_bd xs (k + 1 - low (k + 1)) (k + 1) a3 64 (by have := low_bd (i := k + 1) (by omega) (by omega); omega)
    exact inB_mk (by omega)
  unfold treeLeaves
  rw [nodes_len, leaves_back ha _ (Nat.le_refl _), List.take_length, if_pos ⟨hno, ha⟩]
theorem treeOfL_yes {xs : List Int} (ha : areW xs = true) : treeOfL xs = some (nodes xs xs.length) := by unfold treeOfL; rw [if_pos ha]
theorem treeSum_nodes {xs : List Int} (ha : areW xs = true) {i : Nat} (hi : i ≤ xs.length) : treeSum (nodes xs xs.length) i = some (sumI (seg xs 0 i)) := by
  unfold treeSum
  rw [tree_back ha]
  dsimp only
  rw [nodes_len, if_pos (inB_mk (by omega))]; rfl
theorem areW_mk {xs : List Int} (h1 : 1 ≤ xs.length) (h2 : xs.length ≤ 64) (h : ∀ x ∈ xs, 0 ≤ x ∧ x ≤ 1000000) : areW xs = true := by
  unfold areW
  rw [inB_mk (by omega), Bool.true_and]
  unfold allW
  rw [List.all_eq_true]
  exact fun x hx => inB_mk (h x hx)
theorem treeAdd_nodes {xs : List Int} (ha : areW xs = true) {i : Nat} {b : Int} (hi : i < xs.length) (hb : 0 ≤ b ∧ b ≤ 1000) (h : xs.getD i 0 + b ≤ 1000000) :
    treeAdd (nodes xs xs.length) i b = some (nodes (xs.set i (xs.getD i 0 + b)) xs.length) ∧ areW (xs.set i (xs.getD i 0 + b)) = true := by
  have hx : xs[i]? = some (xs[i]'hi) := List.getElem?_eq_getElem _
  obtain ⟨a1, a2, a3⟩ := areW_parts ha
  have hxr := allW_mem a3 _ (List.getElem_mem hi)
  have e : xs.getD i 0 = xs[i]'hi := by rw [List.getD_eq_getElem?_getD, hx]; rfl
  have hw : areW (xs.set i (xs.getD i 0 + b)) = true := by rw [areW_set ha hi]; exact inB_mk (by omega)
  refine ⟨?_, hw⟩
  unfold treeAdd
  rw [tree_back ha]
  dsimp only
  rw [nodes_len, if_pos ⟨inB_mk (by omega), inB_mk (by omega)⟩, Int.toNat_natCast, treeOfL_yes hw, List.length_set]
theorem seg_zero (xs : List Int) (i : Nat) : seg xs 0 i = xs.take i := by simp [seg]
theorem sumI_take_set {xs : List Int} {m : Nat} (hm : m < xs.length) (b : Int) (i : Nat) : sumI ((xs.set m (xs.getD m 0 + b)).take i) = sumI (xs.take i) + (if m < i then b else 0) := by
  by_cases h : m < i
  · rw [if_pos h, List.take_set, sumI_set _ _ _ (by rw [List.length_take]; omega)]
    have : (xs.take i).getD m 0 = xs.getD m 0 := by rw [List.getD_eq_getElem?_getD, List.getElem?_take, if_pos h, List.getD_eq_getElem?_getD]
    rw [this]; omega
  · rw [if_neg h, List.take_set_of_le (by omega)]; omega
theorem findAt_in : ∀ (ws : List Int) (x : Int), (∀ w ∈ ws, 0 ≤ w) → 0 ≤ x → x < sumI ws → 0 ≤ findAt ws x ∧ findAt ws x < (ws.length : Int) ∧ 0 < ws.getD (findAt ws x).toNat 0
  | [], x, _, h0, h1 => by simp [sumI] at h1; omega
  | w :: ws, x, hw, h0, h1 => by
    rw [sumI_cons] at h1
    unfold findAt
    by_cases h : w ≤ x
    · rw [if_pos h]
      obtain ⟨a, b, c⟩ := findAt_in ws (x - w) (fun y hy => hw y (by simp [hy])) (by omega) (by omega)
      refine ⟨by omega, by rw [List.length_cons]; push_cast; omega, ?_⟩
      have e : (1 + findAt ws (x - w)).toNat = (findAt ws (x - w)).toNat + 1 := by omega
      rw [e]
      simpa using c
    · rw [if_neg h]
      exact ⟨Int.le_refl _, by rw [List.length_cons]; push_cast; omega, by simp; omega⟩
theorem treeSeed_in {s t : Sd} {xs : List Int} {l : Int} (ha : areW xs = true) (h : treeSeed s (nodes xs xs.length) = some (t, l)) : 0 ≤ l ∧ l < (xs.length : Int) ∧ 0 < xs.getD l.toNat 0 := by
  obtain ⟨a1, a2, a3⟩ := areW_parts ha
  unfold treeSeed at h
  rw [tree_back ha] at h
  dsimp only at h
  cases hb : belowS s (sumI (seg xs 0 xs.length)) with
  | none => rw [hb] at h; cases h
  | some p =>
    obtain ⟨t', x⟩ := p
    rw [hb] at h
    injection h with h
    injection h with h1 h2
    have hx := (belowS_some hb).2
    rw [seg_zero, List.take_length] at hx
    subst h2
    exact findAt_in xs x (fun w hw => (allW_mem a3 w hw).1) hx.1 hx.2
end Go.Proofs.Ytgemcjcghnpmdaa
