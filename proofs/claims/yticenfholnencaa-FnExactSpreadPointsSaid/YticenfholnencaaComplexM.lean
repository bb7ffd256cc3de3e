/- Lists of complex64: marks. -/
import Derived.Test.YticenfholnencaaComplexS
namespace Go.Proofs.Yticenfholnencaa
open Go.RowKit
set_option maxRecDepth 100000
theorem run_store_complex' (P : Program) (w : World) (a : Addr) (m : Mode) (k : FloatKind) (b c : Nat) : (store a (.complex k b c) m).run P w = stored P w a (.complex k b c) m := run_store P w a _ m rfl
attribute [local go_sem] run_store_complex'
/-- 'markComplex64S': every element of an owned list is overwritten by its own mark. -/
theorem markC_any (A : Option Addr) (n c base k0 : Nat) (xs : List (Nat × Nat)) (w : World) (h : Own w base 76 (.slice A n c) (c64s xs)) (hn : k0 + n ≤ 299) :
    Calls Try.prog 23 #[.slice A n c, .int .i64 k0] w fun e w' => e = .returned (.int .i64 ((k0 + n : Nat) : Int)) ∧ Own w' base 76 (.slice A n c) (c64s (marksC k0 n)) ∧ w.grownBy w' (Value.ownBlock (.slice A n c)) := by
  have hl : n = xs.length := by have := h.rd.1; rwa [c64s_length] at this
  have hown : w.ownsRow base 76 1 (.slice A n c) n (c64s xs) := by unfold Own at h; rwa [c64s_length, ← hl] at h
  clear h
  have Hl := Lib.hid hl; clear hl
  go_enter Try.func23, Try.ntmps23
  go_wp2
  go_loopw [1, 5] (fun q i wr => ∃ k : Nat, k ≤ n ∧ i = .int .i64 k ∧ q = .int .i64 ((k0 + k : Nat) : Int) ∧ wr.ownsRow base 76 1 (.slice A n c) n (c64s ((marksC k0 n).take k ++ xs.drop k)) ∧ w.grownBy wr (Value.ownBlock (.slice A n c))) (fun _ i _ => n - (intOf i).toNat)
  case atStart => exact ⟨0, Nat.zero_le _, rfl, rfl, by simpa using hown, World.grownBy.refl _ _⟩
  case round =>
    obtain ⟨k, hk, rfl, rfl, hown, hgr⟩ := hrel
    by_cases hlt : k < n
    · have hlx : k < xs.length := by rw [← Hl.out]; exact hlt
      obtain ⟨g, cap, hA⟩ : ∃ g cap, (A = some ⟨g, 0, none⟩ ∧ c = cap) := by
        rcases hown.2 with ⟨_, h0⟩ | ⟨g, cap, cur, hv, _⟩
        · omega
        · simp only [Value.slice.injEq] at hv; exact ⟨g, cap, hv.1, hv.2.2⟩
      obtain ⟨rfl, rfl⟩ := hA
      have hu : (c64s ((marksC k0 n).take k ++ xs.drop k))[k]? = some (.complex .f32 (xs[k]'hlx).1 (xs[k]'hlx).2) := by
        rw [c64s, List.getElem?_map, List.getElem?_append_right (by simp [marksC_len]; omega)]
        simp [marksC_len, show min k n = k by omega, hlx]
      have hc2 := (hown.cellAt k (by omega)).trans hu
      obtain ⟨u, hu'⟩ : ∃ u, u = Value.complex .f32 (xs[k]'hlx).1 (xs[k]'hlx).2 := ⟨_, rfl⟩
      rw [← hu'] at hc2
      clear hu hu'
      have hf2 := hown.frozenAt k
      have HO := Lib.hid hown; have HG := Lib.hid hgr
      have hmk := run_mark (P := Try.prog) 80 76 rfl Try.underlying76 wr (k0 + k) (by omega)
      rw [Int.natCast_add] at hmk
      clear hown hgr
      go_wp2
      go_roundw
      case rel =>
        have hs := HO.out.stored k (.complex .f32 (markC (k0 + k)) 1065353216)
        refine ⟨k + 1, by omega, by go_num, by go_num, ?_, grown_trans' HG.out (by simpa [Value.ownBlock] using hs.2)⟩
        have e : (c64s ((marksC k0 n).take k ++ xs.drop k)).set k (.complex .f32 (markC (k0 + k)) 1065353216) = c64s ((marksC k0 n).take (k + 1) ++ xs.drop (k + 1)) := by
          rw [take_succ_of (marksC_get k0 n k hlt), List.drop_eq_getElem_cons hlx]
          simp only [c64s, List.map_append, List.map_cons, List.append_assoc, List.cons_append, List.nil_append]
          rw [set_append_here _ _ _ _ _ (by simp [marksC_len]; omega)]
        rw [e] at hs
        exact hs.1
      case measure => simp [intOf]; omega
    · obtain rfl : k = n := by omega
      have HO := Lib.hid hown; have HG := Lib.hid hgr
      clear hown hgr
      go_wp2
      go_ret
      refine ⟨rfl, ?_, HG.out⟩
      have := HO.out
      rw [List.take_of_length_le (by rw [marksC_len]; exact Nat.le_refl _), List.drop_eq_nil_of_le (by rw [← Hl.out]; exact Nat.le_refl _), List.append_nil] at this
      unfold Own
      rw [c64s_length, marksC_len]
      exact this
/-- 'heldComplex64S' at a list that still bears its marks. -/
theorem heldC_any (A : Option Addr) (n c B k0 : Nat) (w : World) (h : Rd w B A n (c64s (marksC k0 n))) (hn : k0 + n ≤ 299) :
    Calls Try.prog 24 #[.slice A n c, .int .i64 k0] w fun e w' => e = .returned (.int .i64 ((k0 + n : Nat) : Int)) ∧ ∃ q, w' = w.drewN q := by
  go_enter Try.func24, Try.ntmps24
  go_wp2
  go_loopw [1, 5] (fun q i wr => ∃ k d : Nat, k ≤ n ∧ i = .int .i64 k ∧ q = .int .i64 ((k0 + k : Nat) : Int) ∧ wr = w.drewN d) (fun _ i _ => n - (intOf i).toNat)
  case atStart => exact ⟨0, 0, Nat.zero_le _, rfl, rfl, rfl⟩
  case round =>
    obtain ⟨k, d, hk, rfl, rfl, rfl⟩ := hrel
    by_cases hlt : k < n
    · obtain ⟨b, off, x, y, hA, hbB, hx, hc⟩ := h.atC hlt
      subst hA
      have hx' := hx.out
      rw [marksC_get k0 n k hlt] at hx'
      obtain ⟨rfl, rfl⟩ : markC (k0 + k) = x ∧ 1065353216 = y := by injection hx' with e; exact ⟨congrArg Prod.fst e, congrArg Prod.snd e⟩
      have hmk := run_mark (P := Try.prog) 80 76 rfl Try.underlying76 (w.drewN d) (k0 + k) (by omega)
      rw [Int.natCast_add] at hmk
      have ho1 : FloatKind.f32.format.order (markC (k0 + k)) (markC (k0 + k)) = some .eq := order_self (mark_num _ (by omega))
      have ho2 : FloatKind.f32.format.order 1065353216 1065353216 = some .eq := order_self (by decide)
      clear h hx' hx
      generalize markC (k0 + k) = mc at hmk ho1 hc ⊢
      go_wp2
      exact ⟨⟨k + 1, d, by omega, by go_num, by go_num, rfl⟩, by simp only [intOf]; omega⟩
    · obtain rfl : k = n := by omega
      clear h
      go_wp2
      go_ret
      exact ⟨rfl, d, rfl⟩
end Go.Proofs.Yticenfholnencaa
