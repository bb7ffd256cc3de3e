/- FnWords: laws for its drawn regions, and of its lists. -/
import Derived.Test.YtlgpcojoonnlbaaFwP
import Derived.Test.YtlgpcojoonnlbaaRankI
import Derived.Test.YtlgpcojoonnlbaaMeetJ
import Derived.Test.YtlgpcojoonnlbaaMeetL
import Derived.Test.YtlgpcojoonnlbaaChiPos
import Derived.Test.YtlgpcojoonnlbaaLatI
namespace Go.Proofs.Ytlgpcojoonnlbaa
open Go.RowKit
/-- All elements of a slice appended, as one step of a region that draws its order. -/
theorem step_emitAllI {w0 : World} {ops : Array Oper} {o : Oper} {a : Act} {K : Act → World → Prop} {Q : Exit → Act → World → Prop} {E : Prop} (hgd : o.guard = none) (s x : Operand)
    (ho : o.op = .call { callee := .builtin .append, args := #[s, x], argTypes := #[29, 29] })
    (base : Nat) (v : Value) (xs : List Int) (hs : a.eval s = v) (hown : Own w0 base 2 v (i64s xs)) (ad : Addr) (m c : Nat) (ys : List Int) (hx : a.eval x = .slice (some ad) m c) (hm : ys.length = m)
    (hc : ∀ (j : Nat) (u : Value), (i64s ys)[j]? = some u → w0.cell? (ad.add j) = some u)
    (h63 : xs.length + m ≤ 2000000) (hbase : base ≤ w0.heap.size)
    (hK : ∀ v' w', Own w' base 2 v' (i64s (xs ++ ys)) → w0.grownBy w' v.ownBlock → K (a.put o.dst v') w') :
    if Region.wanted o (yielded ops a.tmps) = true then Oper.wp Try.prog o a w0 K Q else E := by
  have hw : Region.wanted o (yielded ops a.tmps) = true := by simp [Region.wanted, hgd]
  rw [if_pos hw]
  obtain ⟨i0, hi0, hz0, hz1, hz2⟩ := info_parts info_i64'
  have hown' : w0.ownsRow base 2 1 v xs.length (i64s xs) := by have := hown; unfold Own at this; rwa [i64s_length] at this
  obtain ⟨v', w', hrun, h2, h3, _, _⟩ := run_append_own_at (P := Try.prog) w0 base 29 o.type 2 i0 (.int .i64 0) 1 8 Try.underlying29 hi0 hz0 hz1 hz2 rfl (by decide) v xs.length (i64s xs) hown' ad m c (i64s ys) (by rw [i64s_length]; omega) hc (ints_oneCell _ _) (by unfold maxLen; omega) (by omega) hbase
  unfold Oper.wp execOp
  simp only [ho, resolve, invoke, builtin, Sem.run_bind, Sem.run_pure, Result.andThen_ok, List.map_toArray, List.map_cons, List.map_nil, hs, hx, hrun]
  refine hK _ _ ?_ h3
  have e : i64s xs ++ i64s ys = i64s (xs ++ ys) := by simp [i64s]
  unfold Own
  rw [i64s_length, List.length_append, hm, ← e]
  exact h2
theorem i64s_take (xs : List Int) (n : Nat) : (i64s xs).take n = i64s (xs.take n) := by simp [i64s]
theorem areWords_mk {xs : List Int} (h1 : 1 ≤ xs.length) (h2 : xs.length ≤ 256) (h : ∀ x ∈ xs, 0 ≤ x ∧ x ≤ 4294967295) : areWords xs = true := by
  unfold areWords
  rw [inB_mk (by omega), Bool.true_and]
  exact allWords_true fun k x hx => inB_mk (h x (List.mem_of_getElem? hx))
theorem areWords_mem {xs : List Int} (h : areWords xs = true) : ∀ x ∈ xs, 0 ≤ x ∧ x ≤ 4294967295 := fun x hx => by
  unfold areWords at h
  simp only [Bool.and_eq_true] at h
  obtain ⟨k, hk⟩ := List.mem_iff_getElem?.1 hx
  exact allWords_at h.2 hk
theorem areWords_take {xs : List Int} (h : areWords xs = true) {F : Nat} (h1 : 1 ≤ F) : areWords (xs.take F) = true := by
  have hl : 1 ≤ xs.length ∧ xs.length ≤ 256 := by unfold areWords at h; simp only [Bool.and_eq_true] at h; have := inB_true h.1; omega
  refine areWords_mk ?_ ?_ (fun x hx => areWords_mem h x (List.mem_of_mem_take hx))
  · rw [List.length_take]; omega
  · rw [List.length_take]; omega
theorem fit_words {xs : List Int} (h : areWords xs = true) : Fit xs := fun x hx => by have := areWords_mem h x hx; omega
theorem rd_cells {w : World} {B g o n : Nat} {xs : List Int} (h : Rd w B (some ⟨g, o, none⟩) n (i64s xs)) : ∀ (j : Nat) (u : Value), (i64s xs)[j]? = some u → w.cell? ((⟨g, o, none⟩ : Addr).add j) = some u := by
  intro j u hu
  have hj : j < n := by rw [← h.1]; exact (List.getElem?_eq_some_iff.1 hu).1
  obtain ⟨b, off, e, _, hc⟩ := h.2 (by omega)
  cases e
  rw [Addr.add_lit]
  exact hc j u hu
theorem gaveNNB_got {w w' : World} {r : Option (Int × Int)} {e : Ending} {a b : Int} (h : GaveNNB w r e w') (hr : r = some (a, b)) : e = .returned (.tuple #[.int .i64 a, .int .i64 b, .bool true]) ∧ Below w.heap.size w w' := by
  obtain ⟨x, y, ok, rfl, h1, h2, h3, hb⟩ := h
  subst hr
  obtain rfl : ok = true := h1.out
  obtain rfl : x = a := h2.out
  obtain rfl : y = b := h3.out
  exact ⟨rfl, hb⟩
/-- The sum of two rows behind them does not turn the rank. -/
theorem rank_same {fs : List Int} (_h : areWords fs = true) {a b : Nat} (ha : fs[0]? = some (a : Int)) (hb : fs[1]? = some (b : Int)) :
    rankN 32 ((fs ++ [((a ^^^ b : Nat) : Int)]).map Int.toNat) = rankN 32 (fs.map Int.toNat) := by
  rw [List.map_append]
  show rankN 32 (fs.map Int.toNat ++ [a ^^^ b]) = _
  exact rankN_span _ _ _ (span_two (List.mem_map.2 ⟨_, List.mem_of_getElem? ha, by simp⟩) (List.mem_map.2 ⟨_, List.mem_of_getElem? hb, by simp⟩))
theorem rank_zero {fs : List Int} (h : areWords fs = true) {a : Nat} (ha : fs[0]? = some (a : Int)) (hr : rankN 32 (fs.map Int.toNat) < 1) : a = 0 := by
  apply Nat.eq_zero_of_not_pos
  intro hp
  have hm := List.mem_of_getElem? ha
  have := areWords_mem h _ hm
  have := rankN_pos (rows := fs.map Int.toNat) (x := a) (List.mem_map.2 ⟨_, hm, by simp⟩) (by omega) (by omega)
  omega
theorem totN_nn : ∀ (a : List Int), (∀ x ∈ a, 0 ≤ x) → 0 ≤ totN a
  | [], _ => Int.le_refl _
  | x :: t, h => by
    have h1 := h x (List.mem_cons_self ..)
    have h2 := totN_nn t (fun y hy => h y (List.mem_cons_of_mem _ hy))
    rw [totN]; omega
theorem totN_mem : ∀ (a : List Int), (∀ x ∈ a, 0 ≤ x) → ∀ y ∈ a, y ≤ totN a
  | x :: t, h, y, hy => by
    have h1 := h x (List.mem_cons_self ..)
    have h2 := totN_nn t (fun y hy => h y (List.mem_cons_of_mem _ hy))
    rw [totN]
    rcases List.mem_cons.1 hy with rfl | hy
    · omega
    · have := totN_mem t (fun y hy => h y (List.mem_cons_of_mem _ hy)) y hy
      omega
theorem bdN_mem {a : List Int} {b : Int} (h : bdN a b) : ∀ x ∈ a, 0 ≤ x ∧ x ≤ b := fun x hx => by
  obtain ⟨k, hk⟩ := List.mem_iff_getElem?.1 hx
  have := h k
  rw [List.getD_eq_getElem?_getD, hk, Option.getD_some] at this
  exact this
theorem fit_bd {a : List Int} {b : Int} (h : bdN a b) (hb : b ≤ 1000000) : Fit a := fun x hx => by have := bdN_mem h x hx; omega
theorem chi_ps {ps : List Int} {d n : Nat} (hd : 1 ≤ d ∧ d ≤ 5) (hl : ps.length = d * d) (hb : bdN ps n) (ht : totN ps = (n : Int) / 2) (hn : 2 ≤ n ∧ n ≤ 41) :
    ∃ x : Nat, chiOf ps (List.replicate (d * d) (shF d)) = some x ∧ isNaNB .f32 x = false ∧ (FloatKind.f32.format.order x 0 == some .lt) = false := by
  obtain ⟨x, h1, h2, h3⟩ := chi_few hd hl (fun c hc => ⟨(bdN_mem hb c hc).1, by have := totN_mem ps (fun y hy => (bdN_mem hb y hy).1) c hc; omega⟩) (by omega)
  refine ⟨x, h1, FinK_not_nan h2, ?_⟩
  have h0 : FinK .f32 0 ∧ KV .f32 0 = 0 := ⟨(Rn.const (k := .f32) (lo := 0) (hi := 0) (by decide +kernel)).1, by decide +kernel⟩
  have hg := fge_KV h2 h0.1
  rw [h3, h0.2] at hg
  have hge : 0 ≤ KV .f32 x := by simpa using hg.symm
  have := flt_KV h2 h0.1
  unfold flt at this
  rw [this, h0.2]
  exact decide_eq_false (by omega)
theorem gaveFB_got {w w' : World} {r : Option Nat} {e : Ending} {x : Nat} (h : GaveFB w r e w') (hr : r = some x) (hx : isNaNB .f32 x = false) : e = .returned (.tuple #[.float .f32 x, .bool true]) ∧ Below w.heap.size w w' := by
  obtain ⟨y, ok, rfl, h1, h2, hb⟩ := h
  subst hr
  obtain rfl : ok = true := h1.out
  obtain rfl : y = x := cn_num h2.out hx
  exact ⟨rfl, hb⟩
/-- What the last loop keeps. -/
theorem best_end {M a nn bb z : Int} (h : (nn = M * M ∧ bb = 0) ∨ (1 ≤ bb ∧ nn = latN M a bb)) (hbb : bb * bb ≤ nn) (hle : nn ≤ z) (hz : z ≤ M * M) (hall : ∀ u : Int, 1 ≤ u → u < 16 → z ≤ latN M a u) (h225 : nn ≤ 225) : nn = z := by
  rcases h with ⟨h1, _⟩ | ⟨h1, h2⟩
  · omega
  · have : bb < 16 := sq_lt (by omega) (by omega)
    have := hall bb h1 this
    omega
end Go.Proofs.Ytlgpcojoonnlbaa
