/- Lists of complex64: the helpers of the statements. -/
import Derived.Test.YticenfholnencaaComplex
import Derived.Test.YticenfholnencaaShapes
namespace Go.Proofs.Yticenfholnencaa
open Go.RowKit
set_option maxRecDepth 100000
def c64s (xs : List (Nat × Nat)) : List Value := xs.map fun p => Value.complex .f32 p.1 p.2
@[simp] theorem c64s_length (xs : List (Nat × Nat)) : (c64s xs).length = xs.length := by simp [c64s]
theorem c64s_snoc (xs : List (Nat × Nat)) (x : Nat × Nat) : c64s (xs ++ [x]) = c64s xs ++ [.complex .f32 x.1 x.2] := by simp [c64s]
theorem c64s_get? {xs : List (Nat × Nat)} {k : Nat} {u : Value} (h : (c64s xs)[k]? = some u) : ∃ x y, u = .complex .f32 x y ∧ xs[k]? = some (x, y) := by
  simp only [c64s, List.getElem?_map, Option.map_eq_some_iff] at h
  obtain ⟨x, hx, rfl⟩ := h
  exact ⟨x.1, x.2, rfl, hx⟩
theorem info_c64 : (Try.prog.info? 76).map (fun i => (i.zero, i.size, i.bytes)) = some (some (.complex .f32 0 0), 1, 8) := by kernel_rfl
theorem Rd.atC {w : World} {B n k : Nat} {A : Option Addr} {xs : List (Nat × Nat)} (h : Rd w B A n (c64s xs)) (hk : k < n) :
    ∃ (b off x y : Nat), A = some ⟨b, off, none⟩ ∧ b < B ∧ Hid (xs[k]? = some (x, y)) ∧ w.cell? ⟨b, off + k, none⟩ = some (.complex .f32 x y) := by
  obtain ⟨b, off, u, hA, hb, hu, hc⟩ := h.at_ hk
  obtain ⟨x, y, rfl, hx⟩ := c64s_get? hu
  exact ⟨b, off, x, y, hA, hb, hx, hc⟩
theorem Rd.lenC {w : World} {B n : Nat} {A : Option Addr} {xs : List (Nat × Nat)} (h : Rd w B A n (c64s xs)) : Hid (xs.length = n) := by
  have := h.len; rw [c64s_length] at this; exact this
theorem Own.shapeC {w : World} {base : Nat} {e : TypeId} {v : Value} {xs : List (Nat × Nat)} (h : Own w base e v (c64s xs)) : ∃ A c, v = .slice A xs.length c ∧ Hid (xs.length ≤ c ∧ c ≤ maxLen) := by
  obtain ⟨A, c, rfl, h1, h2⟩ := h.shape
  exact ⟨A, c, by rw [c64s_length], by rw [c64s_length] at h1; exact ⟨h1, h2⟩⟩
theorem Own.rdC {w : World} {base : Nat} {e : TypeId} {A : Option Addr} {n c : Nat} {xs : List (Nat × Nat)} (h : Own w base e (.slice A n c) (c64s xs)) : Rd w w.heap.size A xs.length (c64s xs) := by
  have := h.rd.2
  rwa [c64s_length] at this
/-- Both parts, one NaN for all. -/
def cn2 (p : Nat × Nat) : Nat × Nat := (cn .f32 p.1, cn .f32 p.2)
set_option maxHeartbeats 8000000 in
/-- 'eqComplex64S' at two lists of the same numbers. -/
theorem eqC_same (A A' : Option Addr) (n n' c c' B : Nat) (xs ys : List (Nat × Nat)) (w : World) (h : Rd w B A n (c64s xs)) (h' : Rd w B A' n' (c64s ys)) (hn : n ≤ maxLen) (hxy : xs.map cn2 = ys.map cn2) :
    Calls Try.prog 22 #[.slice A n c, .slice A' n' c'] w fun e w' => e = .returned (.bool true) ∧ Below w.heap.size w w' := by
  have hl := h.lenC; have hl' := h'.lenC
  unfold maxLen at hn
  obtain rfl : n = n' := by
    have := congrArg List.length hxy
    rw [List.length_map, List.length_map, hl.out, hl'.out] at this
    exact this
  have Hxy := Lib.hid hxy
  clear hxy
  have hb : ((n : Int) != (n : Int)) = false := by simp
  go_enter Try.func22, Try.ntmps22
  go_wp2
  go_loopw [5] (fun i wr => ∃ k q : Nat, k ≤ n ∧ i = .int .i64 k ∧ wr = w.drewN q) (fun i _ => n - (intOf i).toNat)
  case atStart => exact ⟨0, 0, Nat.zero_le _, rfl, rfl⟩
  case round =>
    obtain ⟨k, q, hk, rfl, rfl⟩ := hrel
    by_cases hlt : k < n
    · obtain ⟨b, off, x1, x2, hA, _, hx, hc⟩ := h.atC hlt
      obtain ⟨b', off', y1, y2, hA', _, hy, hc'⟩ := h'.atC hlt
      subst hA hA'
      have hlt' : (k : Int) < (n : Int) := by omega
      have h0 : (0 : Int) ≤ (k : Int) := by omega
      have hcn : cn2 (x1, x2) = cn2 (y1, y2) := by
        have h1 := congrArg (fun l => l[k]?) Hxy.out
        simp only [List.getElem?_map, hx.out, hy.out, Option.map_some] at h1
        injection h1
      have Hc1 : Hid (cn .f32 x1 = cn .f32 y1) := congrArg Prod.fst hcn
      have Hc2 : Hid (cn .f32 x2 = cn .f32 y2) := congrArg Prod.snd hcn
      clear h h' hcn
      have hcv := run_widC (P := Try.prog) 76 80 rfl Try.underlying80
      go_wp2
      go_region_with (go_at_call 65; refine (sameComplex_any _ _ _ _ _ (by rw [widV_cn, widV_cn]; exact widen_congr Hc1.out) (by rw [widV_cn, widV_cn]; exact widen_congr Hc2.out)).mono ?_; rintro e w' ⟨rfl, q', rfl⟩)
      all_goals
        clear hcv
        go_wp2
        go_roundw
        case rel => exact ⟨k + 1, _, by omega, by go_num, rfl⟩
        case measure => simp only [intOf]; omega
    · go_wp2
      go_ret
      exact ⟨rfl, below_drewN' q⟩
/-- The k-th mark. -/
def markC (k : Nat) : Nat := (floatToFloatBits .f64 (floatOfInt .f64 (k : Int)) .f32).getD 0
theorem mark_run : ∀ k : Nat, k < 300 → floatToFloatBits .f64 (floatOfInt .f64 (k : Int)) .f32 = some (markC k) := by decide +kernel
theorem mark_num : ∀ k : Nat, k < 300 → isNaNB .f32 (markC k) = false := by decide +kernel
theorem one_run : floatToFloatBits .f64 4607182418800017408 .f32 = some 1065353216 := by decide +kernel
def marksC (k n : Nat) : List (Nat × Nat) := (List.range n).map fun i => (markC (k + i), 1065353216)
theorem marksC_len (k n : Nat) : (marksC k n).length = n := by simp [marksC]
theorem marksC_get (k n i : Nat) (h : i < n) : (marksC k n)[i]? = some (markC (k + i), 1065353216) := by simp [marksC, h]
theorem run_mark {P : Program} (src dst : TypeId) (hs : (P.underlying src).isSome = true) (hd : P.underlying dst = some (.complex .f32)) (w : World) (k : Nat) (hk : k < 300) :
    (convert src dst (.complex .f64 (floatOfInt .f64 (k : Int)) 4607182418800017408)).run P w = .ok (.complex .f32 (markC k) 1065353216) w :=
  run_convert_complex w src dst .f64 .f32 _ _ _ _ hs hd (by unfold cConvBits; rw [mark_run k hk, one_run]; rfl)
end Go.Proofs.Yticenfholnencaa
