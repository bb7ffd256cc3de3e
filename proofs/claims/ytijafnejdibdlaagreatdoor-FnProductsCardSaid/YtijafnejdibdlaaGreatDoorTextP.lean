/- Texts joined by commas are split again. Plain law. -/
import Derived.Test.YtijafnejdibdlaaGreatDoorBase
import Derived.Lib.SplitLaws
import Derived.Lib.Join
namespace Go.Proofs.YtijafnejdibdlaaGreatDoor
open Go.Lib
def NoC (l : List UInt8) : Prop := ∀ c ∈ l, c ≠ 44
theorem index_no : ∀ {l : List UInt8}, NoC l → index l [44] = -1
  | [], _ => rfl
  | b :: l, h => by
    have hb : b ≠ 44 := h b (List.mem_cons_self ..)
    have hp : ([44] : List UInt8).isPrefixOf (b :: l) = false := by simp [List.isPrefixOf, Ne.symm hb]
    rw [index, hp, index_no (l := l) (fun c hc => h c (List.mem_cons_of_mem _ hc))]
    rfl
theorem index_at : ∀ {l : List UInt8} (r : List UInt8), NoC l → index (l ++ 44 :: r) [44] = (l.length : Int)
  | [], r, _ => by
    show index (44 :: r) [44] = _
    rw [index]
    rfl
  | b :: l, r, h => by
    have hb : b ≠ 44 := h b (List.mem_cons_self ..)
    have ih := index_at (l := l) r (fun c hc => h c (List.mem_cons_of_mem _ hc))
    have hp : ([44] : List UInt8).isPrefixOf (b :: (l ++ 44 :: r)) = false := by simp [List.isPrefixOf, Ne.symm hb]
    rw [List.cons_append, index, hp, ih]
    have e : ((l.length : Int) == -1) = false := beq_eq_false_iff_ne.2 (by omega)
    rw [e]
    simp
theorem count_no {l : List UInt8} (h : NoC l) : l.count 44 = 0 := List.count_eq_zero.2 (fun hm => h 44 hm rfl)
theorem join_step (x y : List UInt8) (r : List (List UInt8)) : join (x :: y :: r) [44] = x ++ 44 :: join (y :: r) [44] := by
  rw [join_cons, join_cons]
  simp [joinTail]
theorem count_join : ∀ (r : List (List UInt8)) (x : List UInt8), (∀ l ∈ x :: r, NoC l) → (join (x :: r) [44]).count 44 = r.length
  | [], x, h => by rw [join_one, count_no (h x (List.mem_cons_self ..))]; rfl
  | y :: r, x, h => by
    rw [join_step, List.count_append, count_no (h x (List.mem_cons_self ..)), List.count_cons_self, count_join r y (fun l hl => h l (List.mem_cons_of_mem _ hl)), List.length_cons]
    omega
theorem split_join : ∀ (r : List (List UInt8)) (x : List UInt8), (∀ l ∈ x :: r, NoC l) → splitK [44] 0 r.length (join (x :: r) [44]) = x :: r
  | [], x, _ => by rw [join_one]; rfl
  | y :: r, x, h => by
    have hx := h x (List.mem_cons_self ..)
    have hi := index_at (join (y :: r) [44]) hx
    rw [join_step, List.length_cons, splitK, hi]
    have e : ((x.length : Int) == -1) = false := beq_eq_false_iff_ne.2 (by omega)
    rw [e]
    have e2 : (x.length : Int).toNat = x.length := Int.toNat_natCast _
    rw [e2]
    simp only [Bool.false_eq_true, if_false, Nat.add_zero, List.length_cons, List.length_nil]
    rw [List.take_left' rfl, show x.length + (0 + 1) = x.length + 1 by omega]
    have hd : List.drop (x.length + 1) (x ++ 44 :: join (y :: r) [44]) = join (y :: r) [44] := by
      rw [← List.drop_drop, List.drop_left' rfl]
      rfl
    rw [hd, split_join r y (fun l hl => h l (List.mem_cons_of_mem _ hl))]
def bs (l : List UInt8) : ByteArray := ⟨l.toArray⟩
theorem bs_data (l : List UInt8) : (bs l).data.toList = l := rfl
theorem map_bs_inj {a : List ByteArray} {b : List (List UInt8)} (h : a.map (·.data.toList) = b) : a = b.map bs := by
  subst h
  rw [List.map_map]
  conv => lhs; rw [← List.map_id a]
  exact List.map_congr_left (fun x _ => (mk_data x).symm)
theorem count_textB (ls : List (List UInt8)) (h1 : ls ≠ []) (h : ∀ l ∈ ls, NoC l) : countB (bs (join ls [44])) ⟨#[44]⟩ = ls.length - 1 := by
  cases ls with
  | nil => exact absurd rfl h1
  | cons x r =>
    show count (join (x :: r) [44]) [44] = _
    rw [count_one, count_join r x h, List.length_cons, Nat.add_sub_cancel]
theorem split_textB (ls : List (List UInt8)) (h1 : ls ≠ []) (h : ∀ l ∈ ls, NoC l) : splitB ⟨#[44]⟩ 0 (ls.length - 1) (bs (join ls [44])) = ls.map bs := by
  apply map_bs_inj
  rw [splitB_data]
  cases ls with
  | nil => exact absurd rfl h1
  | cons x r =>
    rw [List.length_cons, Nat.add_sub_cancel]
    exact split_join r x h
theorem lens_const {n : Nat} : ∀ {ls : List (List UInt8)}, (∀ l ∈ ls, l.length = n) → lens ls = n * ls.length
  | [], _ => rfl
  | l :: ls, h => by
    have ih := lens_const (n := n) (ls := ls) (fun x hx => h x (List.mem_cons_of_mem _ hx))
    have hl := h l (List.mem_cons_self ..)
    unfold lens at ih ⊢
    rw [List.map_cons, List.sum_cons, ih, hl, List.length_cons, Nat.mul_succ]
    omega
theorem join_len {ls : List (List UInt8)} {n : Nat} (h1 : ls ≠ []) (h : ∀ l ∈ ls, l.length = n) : (join ls [44]).length = (ls.length - 1) + n * ls.length := by
  cases ls with
  | nil => exact absurd rfl h1
  | cons x r =>
    rw [join_length, lens_const h]
    simp
end Go.Proofs.YtijafnejdibdlaaGreatDoor
