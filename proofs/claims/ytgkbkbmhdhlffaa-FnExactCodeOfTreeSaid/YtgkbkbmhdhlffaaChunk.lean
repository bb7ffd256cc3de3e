/- The library's iterator over a list in pieces of two numbers: what it hands to a loop. -/
import Derived.RangeFuncNested
import Derived.RangeFuncBound
import Derived.RangeFuncCalls
import Derived.RangeFuncLeaves
import Derived.Shelf.Abstract
import Derived.Shelf.RegionOpen
import Derived.OwnWalkIn
import Derived.TacticsInMore
import Derived.LoopNIn
import Derived.LoopIn
import Derived.Test.YtgkbkbmhdhlffaaCompare
namespace Go.Proofs.Ytgkbkbmhdhlffaa
open Go.RowKit Go.Shelf
attribute [local go_sem] Oper.semAt_some
set_option maxRecDepth 100000
theorem take_fin {m k : Nat} (h : k < m) : (List.finRange m).take (k + 1) = (List.finRange m).take k ++ [⟨k, h⟩] := by
  rw [List.take_add_one, List.getElem?_eq_getElem (by simpa using h)]
  simp
set_option maxHeartbeats 2000000 in
theorem chunk1_in (n : Nat) (hn : 1 ≤ n) (A : Option Addr) (l Bs Bn b off len m cap : Nat) (hA : 0 < m → A = some ⟨b, off, none⟩) (Kp : World → World → Prop)
    (hKs : ∀ A C, Kp A C → C.cell? ⟨Bs, 0, none⟩ = A.cell? ⟨Bs, 0, none⟩) (hKn : ∀ A C, Kp A C → C.cell? ⟨Bn, 0, none⟩ = A.cell? ⟨Bn, 0, none⟩)
    (hlen : len = 2 * m) (hm : m ≤ 1000) (hcap : len ≤ cap) (hcap2 : cap ≤ maxLen) (J Jx : List (Fin m) → World → Prop) (hJd : ∀ pre W, J pre W → J pre W.drew)
    (hY : ∀ pre x W, J pre W → pre.length < m → YieldAt Fence.wide (n - 1) Try.prog l #[.slice (some ⟨b, off + 2 * x.1, none⟩) 2 2] W fun e W' =>
      (e = .returned (.bool true) ∧ J (pre ++ [x]) W' ∧ Kp W W') ∨ (e = .returned (.bool false) ∧ Jx (pre ++ [x]) W'))
    (W : World) (hs : W.cell? ⟨Bs, 0, none⟩ = some (.slice A len cap)) (hnn : W.cell? ⟨Bn, 0, none⟩ = some (.int .i64 2)) (h0 : J [] W) :
    CallsIn Fence.wide n Try.prog 63 #[.func (.yield l) #[] #[], .pointer (some ⟨Bs, 0, none⟩), .pointer (some ⟨Bn, 0, none⟩)] W fun e W' => (∃ v, e = .returned v) ∧
      (J (List.finRange m) W' ∨ (∃ k, k ≤ m ∧ Jx ((List.finRange m).take k) W')) := by
  have Hlen := Lib.hid hlen
  have HY := Lib.hid hY
  have HKs := Lib.hid hKs
  have HKn := Lib.hid hKn
  have HJd := Lib.hid hJd
  unfold maxLen at hcap2
  clear hlen hY hKs hKn hJd
  refine callsIn_of_wp Try.func63 rfl trivial ?_ rfl
  simp only [Try.ntmps63, List.size_toArray, List.length_cons, List.length_nil, Nat.reduceAdd, Nat.reduceSub, Array.replicate_succ, Array.replicate_zero, List.push_toArray, List.append_toArray, List.nil_append, List.cons_append]
  gi_wp2
  gi_loopw [4] (fun i wr => ∃ k j : Nat, k ≤ m ∧ Hid (j = 2 * k) ∧ i = .int .i64 j ∧ J ((List.finRange m).take k) wr ∧ wr.cell? ⟨Bs, 0, none⟩ = some (.slice A len cap) ∧ wr.cell? ⟨Bn, 0, none⟩ = some (.int .i64 2)) (fun i _ => len - (intOf i).toNat)
  case atStart => exact ⟨0, 0, Nat.zero_le _, rfl, rfl, h0, hs, hnn⟩
  case round =>
    obtain ⟨k, j, hk, hj, rfl, hJs, hs', hn'⟩ := hrel
    have HJs := Lib.hid hJs
    clear hJs
    by_cases hlt : k < m
    · obtain rfl := hA (by omega)
      have hlj : (j : Int) < (len : Int) := by have := Hlen.out; have := hj.out; omega
      have hlj2 : j + 2 ≤ len := by have := Hlen.out; have := hj.out; omega
      obtain ⟨fn, tmps, assign, body, hy, hR⟩ := HY.out _ ⟨k, hlt⟩ wr.drew (HJd.out _ _ HJs.out) (by simp; omega)
      dsimp only at hy
      rw [← hj.out] at hy
      gi_wp2
      gi_region
      all_goals gi_wp2
      refine hR.mono ?_
      rintro e W3 (⟨rfl, hJ3, hk3⟩ | ⟨rfl, hJx3⟩)
      · have hn3 : W3.cell? ⟨Bn, 0, none⟩ = some (.int .i64 2) := (HKn.out _ _ hk3).trans hn'
        have hs3 := Lib.hid ((HKs.out _ _ hk3).trans hs')
        have hJ3' := Lib.hid hJ3
        clear hJ3 hk3 hR
        gi_wp2
        go_roundw
        case rel => exact ⟨k + 1, j + 2, by omega, by have := hj.out; show _ = _; omega, by go_num, by rw [take_fin hlt]; exact hJ3'.out, hs3.out, hn3⟩
        case measure => simp only [intOf]; omega
      · have hJx3' := Lib.hid hJx3
        clear hJx3 hR
        gi_wp2
        refine bodyPost_ret (results_none rfl _ _ _) rfl ?_
        exact ⟨⟨_, rfl⟩, .inr ⟨k + 1, hlt, by rw [take_fin hlt]; exact hJx3'.out⟩⟩
    · obtain rfl : k = m := by omega
      have hlj : ¬ (j : Int) < (len : Int) := by have := Hlen.out; have := hj.out; omega
      gi_wp2
      go_end0
      refine ⟨⟨_, rfl⟩, .inl ?_⟩
      have := HJs.out
      rwa [List.take_of_length_le (by simp)] at this
theorem chunk_any (A : Option Addr) (n c : Nat) (w : World) :
    Calls Try.prog 46 #[.slice A n c, .int .i64 2] w fun e w' => e = .returned (.func (.func 63) #[] #[.pointer (some ⟨w.heap.size, 0, none⟩), .pointer (some ⟨w.heap.size + 1, 0, none⟩)]) ∧
      w' = (w.alloc (.cells #[.slice A n c] 22)).alloc (.cells #[.int .i64 2] 3) := by
  go_enter Try.func46, Try.ntmps46
  go_wp2
  go_ret
  exact ⟨rfl, rfl⟩
theorem chunk_stops (n : Nat) (hn : 1 ≤ n) (A : Option Addr) (Bs Bn b off len m cap : Nat) (hA : 0 < m → A = some ⟨b, off, none⟩) (Kp : World → World → Prop)
    (hKs : ∀ A C, Kp A C → C.cell? ⟨Bs, 0, none⟩ = A.cell? ⟨Bs, 0, none⟩) (hKn : ∀ A C, Kp A C → C.cell? ⟨Bn, 0, none⟩ = A.cell? ⟨Bn, 0, none⟩)
    (hlen : len = 2 * m) (hm : m ≤ 1000) (hcap : len ≤ cap) (hcap2 : cap ≤ maxLen) (w : World) (hBs : Bs < w.heap.size) (hBn : Bn < w.heap.size)
    (hs : w.cell? ⟨Bs, 0, none⟩ = some (.slice A len cap)) (hnn : w.cell? ⟨Bn, 0, none⟩ = some (.int .i64 2)) :
    SeqStopsK Fence.wide n Try.prog 63 #[.pointer (some ⟨Bs, 0, none⟩), .pointer (some ⟨Bn, 0, none⟩)] (fun x : Fin m => #[Value.slice (some ⟨b, off + 2 * x.1, none⟩) 2 2]) Kp
      (fun ys => ys = List.finRange m) (fun pre => ∃ k, k ≤ m ∧ pre = (List.finRange m).take k) m w := fun l J Jx W hW hJ _ hY h0 => by
  have hs' := (hW.cell (p := ⟨Bs, 0, none⟩) hBs).trans hs
  have hn' := (hW.cell (p := ⟨Bn, 0, none⟩) hBn).trans hnn
  refine (chunk1_in n hn A l Bs Bn b off len m cap hA Kp hKs hKn hlen hm hcap hcap2 J Jx (fun pre W h => hJ pre W W.drew none h ⟨rfl, rfl, rfl, Nat.le_refl _, fun _ _ _ => rfl⟩ (by simp)) hY W hs' hn' h0).mono ?_
  rintro e W' ⟨he, hj | ⟨k, hk, hj⟩⟩
  · exact ⟨he, .inl ⟨_, rfl, hj⟩⟩
  · exact ⟨he, .inr ⟨_, ⟨k, hk, rfl⟩, hj⟩⟩
end Go.Proofs.Ytgkbkbmhdhlffaa
