/- What the statement on products asks of its answers: equal lists, finite numbers, equal values. -/
import Derived.Test.YtijafnejdibdlaaGreatDoorCpxB
import Derived.Test.YtijafnejdibdlaaGreatDoorCTexts
import Derived.Test.YtijafnejdibdlaaGreatDoorCWhole
namespace Go.Proofs.YtijafnejdibdlaaGreatDoor
open Go.RowKit Mag
set_option maxRecDepth 100000
theorem neg_neg_word (k : FloatKind) (x : Nat) : Op.negFloat k (Op.negFloat k x) = x := by
  unfold Op.negFloat
  rw [Nat.xor_assoc, Nat.xor_self, Nat.xor_zero]
theorem Vl.same {k : FloatKind} {x y : Nat} {a : Int} (hx : Vl k x a) (hy : Vl k y a) (hs : a.natAbs < smK k) : (k.format.order x y == some .eq) = true := by
  have := hx.eq hy hs hs
  unfold feq at this
  rw [this]; exact decide_eq_true rfl
theorem Vl.not_ne {k : FloatKind} {x y : Nat} {a : Int} (hx : Vl k x a) (hy : Vl k y a) (hs : a.natAbs < smK k) : (k.format.order x y != some .eq) = false := by
  unfold bne; rw [hx.same hy hs]; rfl
theorem Vl.zero_eq {k : FloatKind} {x : Nat} {a : Int} (hx : Vl k x a) (hs : a.natAbs < smK k) : (k.format.order x 0 == some .eq) = decide (a = 0) := by
  have h0 : Vl k 0 0 := Vl.of (by cases k <;> decide +kernel) (by cases k <;> decide)
  have := hx.eq h0 hs (by cases k <;> decide)
  unfold feq at this
  exact this
theorem int_of : ∀ n : Nat, n < 401 → floatToIntVal .f32 (floatOfInt .f32 ((n : Int) - 200)) .i64 = some ((n : Int) - 200) := by decide +kernel
theorem int_back {a : Int} (h : a.natAbs ≤ 200) : floatToIntVal .f32 (floatOfInt .f32 a) .i64 = some a := by
  have := int_of (a + 200).toNat (by omega)
  have e : ((a + 200).toNat : Int) - 200 = a := by omega
  rwa [e] at this
theorem specFin_any (x : Nat) (w : World) : Calls Tryz.prog 26 #[.float .f32 x] w fun e w' => e = .returned (.bool (finB x)) ∧ ∃ q, w' = w.drewN q := by
  go_enter Tryz.func26, Tryz.ntmps26
  go_wp2_with fail
  refine (l01Fin_any x _).mono ?_
  rintro e w1 ⟨rfl, q, rfl⟩
  go_wp2
  go_ret
  exact ⟨rfl, _, rfl⟩
theorem sameC_q (x y u v : Nat) (h : cn .f32 x = cn .f32 u) (h2 : cn .f32 y = cn .f32 v) (w : World) : Calls Tryz.prog 47 #[.complex .f32 x y, .complex .f32 u v] w fun e w' => e = .returned (.bool true) ∧ ∃ m, w' = w.drewN m :=
  (sameC_any x y u v w h h2).mono fun _ _ ⟨he, hw⟩ => ⟨he, 0, hw⟩
set_option maxHeartbeats 2000000 in
theorem b10Same_any (A A' : Option Addr) (n c c' B B' : Nat) (xs : List (Nat × Nat)) (w : World) (h : Rd w B A n (c64s (xs.map cn2))) (h' : Rd w B' A' n (c64s xs)) (hn : n ≤ maxLen) :
    Calls Tryz.prog 22 #[.slice A n c, .slice A' n c'] w fun e w' => e = .returned (.bool true) ∧ ∃ q, w' = w.drewN q := by
  have H := Lib.hid h
  have H' := Lib.hid h'
  have hb : ((n : Int) != (n : Int)) = false := by simp
  unfold maxLen at hn
  clear h h'
  go_enter Tryz.func22, Tryz.ntmps22
  go_wp2_with fail
  go_loopw [5, 13] (fun _ i wr => ∃ j q : Nat, j ≤ n ∧ i = .int .i64 j ∧ wr = w.drewN q) (fun _ i _ => n - (intOf i).toNat)
  case atStart => exact ⟨0, 0, Nat.zero_le _, rfl, rfl⟩
  case round =>
    obtain ⟨j, q, hj, rfl, rfl⟩ := hrel
    by_cases hlt : j < n
    · obtain ⟨b1, off1, u, v, rfl, _, hu, hc1⟩ := H.out.atC hlt
      obtain ⟨b2, off2, u', v', rfl, _, hu', hc2⟩ := H'.out.atC hlt
      have huu : Hid (cn .f32 u = cn .f32 u' ∧ cn .f32 v = cn .f32 v') := by
        have h1 := hu.out
        rw [List.getElem?_map, hu'.out, Option.map_some] at h1
        injection h1 with h1
        have e1 : u = cn .f32 u' := (congrArg Prod.fst h1).symm
        have e2 : v = cn .f32 v' := (congrArg Prod.snd h1).symm
        exact ⟨by rw [e1, cn_cn], by rw [e2, cn_cn]⟩
      have hlt' : (j : Int) < (n : Int) := by omega
      have h0 : (0 : Int) ≤ (j : Int) := by omega
      go_wp2_with fail
      go_quiet ((go_at_call 47; exact quiet_add (sameC_q u v u' v' huu.out.1 huu.out.2 _)))
      go_wp2_with fail
      go_roundw
      case rel => exact ⟨j + 1, q + nq, by omega, by go_num, rfl⟩
      case measure => simp only [intOf]; omega
    · obtain rfl : j = n := by omega
      go_wp2
      go_ret
      exact ⟨rfl, q, rfl⟩
end Go.Proofs.YtijafnejdibdlaaGreatDoor
