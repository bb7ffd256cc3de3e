/- Lists of successive numbers. -/
import Derived.Test.YtgemcjcghnpmdaaBase
import Derived.Test.YtgemcjcghnpmdaaProg
namespace Go.Proofs.Ytgemcjcghnpmdaa
open Go.RowKit

theorem info_i64' : (Try.prog.info? 2).map (fun i => (i.zero, i.size, i.bytes)) = some (some (.int .i64 0), 1, 8) := by kernel_rfl
/-- The numbers lo, lo + 1, .., k of them. -/
def upFrom (lo : Int) (k : Nat) : List Int := (List.range k).map fun i => lo + (i : Nat)
theorem upFrom_len (lo : Int) (k : Nat) : (upFrom lo k).length = k := by simp [upFrom]
theorem upFrom_succ (lo : Int) (k : Nat) : upFrom lo (k + 1) = upFrom lo k ++ [lo + (k : Nat)] := by simp [upFrom, List.range_succ]

/-- One number more behind an owned list: 'out = append(out, x)'. -/
theorem emitI (w0 : World) {ops : Array Oper} {rest : List Oper} {o : Oper} {a : Act} {Q : Exit → Act → World → Prop} (hgd : o.guard = none) (s x : Operand)
    (ho : o.op = .call { callee := .builtin .append, args := #[s, x], argTypes := #[31, 31] })
    (base : Nat) (v : Value) (xs : List Int) (hs : a.eval s = v) (hown : Own w0 base 2 v (i64s xs)) (u : Int) (hx : a.eval x = .slice (some ⟨w0.heap.size, 0, none⟩) 1 1)
    (h63 : xs.length ≤ 2000000) (hbase : base ≤ w0.heap.size)
    (h : ∀ v' w', Own w' base 2 v' (i64s (xs ++ [u])) → w0.grownBy w' v.ownBlock → (v'.ownBlock = v.ownBlock ∨ ∃ k, v'.ownBlock = some k ∧ w0.heap.size ≤ k) → wpList Try.prog ops Q rest (a.put o.dst v') w') : wpList Try.prog ops Q (o :: rest) a (w0.alloc (.cells #[.int .i64 u] 2)) := by
  obtain ⟨i0, hi0, hz0, hz1, hz2⟩ := info_parts info_i64'
  have hown' : w0.ownsRow base 2 1 v xs.length (i64s xs) := by have := hown; unfold Own at this; rwa [i64s_length] at this
  obtain ⟨v', w', hrun, h2, h3, _, h5⟩ := run_append_own_at (P := Try.prog) (w0.alloc (.cells #[.int .i64 u] 2)) base 31 o.type 2 i0 (.int .i64 0) 1 8 Try.underlying31 hi0 hz0 hz1 hz2 rfl (by decide) v xs.length (i64s xs) (hown'.alloc _) ⟨w0.heap.size, 0, none⟩ 1 1 [.int .i64 u] rfl (one_cell _ _ _) (one_one _ rfl) (by unfold maxLen; omega) (by omega) (by simp; omega)
  refine wpList_plain hgd fun _ hK => ?_
  unfold Oper.wp execOp
  simp only [ho, resolve, invoke, builtin, Sem.run_bind, Sem.run_pure, Result.andThen_ok, List.map_toArray, List.map_cons, List.map_nil, hs, hx, hrun]
  refine hK _ _ (h v' w' ?_ (grown_trans' (World.grownBy_alloc w0 _ _) h3) ?_)
  · unfold Own
    rw [i64s_snoc, List.length_append, i64s_length]
    exact h2
  · rcases h5 with h5 | h5
    · exact .inl h5
    · exact .inr ⟨_, h5, by simp⟩

theorem own_newI (w : World) {base : Nat} (hb : base ≤ w.heap.size) : Own (w.alloc (.cells #[] 2)) base 2 (.slice (some ⟨w.heap.size, 0, none⟩) 0 0) (i64s []) := own_new w _ hb

theorem numbersFrom_any (lo hi : Int) (n : Nat) (w : World) (h0 : -1000000 ≤ lo) (h0' : lo ≤ 1000000) (h1 : hi - lo + 1 = n ∨ hi < lo ∧ n = 0) (h2 : n ≤ 1000000) :
    Calls Try.prog 29 #[.int .i64 lo, .int .i64 hi] w fun e w' => ∃ v, e = .returned v ∧ Own w' w.heap.size 2 v (i64s (upFrom lo n)) ∧ Below w.heap.size w w' := by
  obtain ⟨i0, hi0, hz0, hz1, hz2⟩ := info_parts info_i64'
  have H1 := Lib.hid h1
  clear h1
  go_enter Try.func29, Try.ntmps29
  go_wp2
  go_loopw [5, 6] (fun v i wr => ∃ k : Nat, k ≤ n ∧ i = .int .i64 (lo + k) ∧ wr.ownsRow w.heap.size 2 1 v k (i64s (upFrom lo k)) ∧ Below w.heap.size w wr) (fun _ i _ => (lo + n - intOf i).toNat)
  case atStart => exact ⟨0, Nat.zero_le _, by simp, own_new w _ (Nat.le_refl _), (Below.refl _ _).alloc (Nat.le_refl _) _⟩
  case round =>
    obtain ⟨k, hk, rfl, hown, hbel⟩ := hrel
    by_cases hlt : k < n
    · have hle : lo + (k : Int) ≤ hi := by have := H1.out; omega
      have hsz := hbel.size
      go_wp2_with (at_builtin; refine wpList_append_own _ rfl _ _ 31 rfl w.heap.size 2 i0 (.int .i64 0) 1 8 Try.underlying31 hi0 hz0 hz1 hz2 rfl (by decide) _ _ _ rfl (hown.alloc _) ⟨wr.heap.size, 0, none⟩ 1 1 [.int .i64 (lo + k)] rfl rfl ?c1 ?c2 ?c3 ?c4 ?c5 ?_)
      case c1 => exact one_cell _ _ _
      case c2 => exact one_one _ rfl
      case c3 => unfold maxLen; omega
      case c4 => omega
      case c5 => simp; omega
      intro v' w1 hown' hgrow _
      have HO := Lib.hid hown'; have HG := Lib.hid hgrow; have HB := Lib.hid hbel; have HX := Lib.hid hown
      clear hown hown' hgrow hbel hi0 hz0 hz1 hz2
      go_wp2
      go_roundw
      case rel =>
        refine ⟨k + 1, by omega, by go_num, ?_, ?_⟩
        · rw [upFrom_succ, i64s_snoc]; exact HO.out
        · exact (HB.out.alloc hsz _).grown HG.out (by simp; omega) (fun g hg => (World.ownsRow.lt HX.out g hg).1)
      case measure => simp [intOf]; omega
    · have hgt : ¬ lo + (k : Int) ≤ hi := by have := H1.out; omega
      obtain rfl : k = n := by omega
      have HO := Lib.hid hown; have HB := Lib.hid hbel
      clear hown hbel
      go_wp2
      go_ret
      refine ⟨_, rfl, ?_, HB.out⟩
      unfold Own
      rw [i64s_length, upFrom_len]
      exact HO.out
end Go.Proofs.Ytgemcjcghnpmdaa
