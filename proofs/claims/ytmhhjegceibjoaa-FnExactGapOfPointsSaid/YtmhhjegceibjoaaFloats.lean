/- The helpers of the statements on float32 and lists of it. -/
import Derived.Test.YtmhhjegceibjoaaFloat
import Derived.Test.YtmhhjegceibjoaaProg
import Derived.Deep.RegionWith
import Derived.BigRegion
import Derived.Deep.RegionHeld3
namespace Go.Proofs.Ytmhhjegceibjoaa
open Go.RowKit
set_option maxRecDepth 100000
attribute [local go_sem] run_store_float'

theorem info_f32 : (Try.prog.info? 23).map (fun i => (i.zero, i.size, i.bytes)) = some (some (.float .f32 0), 1, 4) := by kernel_rfl

/-- 'sameFloat' at two words of one number. -/
theorem sameFloat_any (x y : Nat) (w : World) (h : cn .f64 x = cn .f64 y) : Calls Try.prog 7 #[.float .f64 x, .float .f64 y] w fun e w' => e = .returned (.bool true) ∧ ∃ q, w' = w.drewN q := by
  rcases cn_eq h with rfl | ⟨hx, hy⟩
  · by_cases hn : isNaNB .f64 x = true
    · have h1 : (FloatKind.f64.format.order x x != some .eq) = true := by rw [order_nan_l hn]; rfl
      clear h hn
      go_enter Try.func7, Try.ntmps7
      go_wp2
      go_ret
      exact ⟨rfl, 0, rfl⟩
    · have h1 : (FloatKind.f64.format.order x x != some .eq) = false := by rw [order_self (by simpa using hn)]; rfl
      have h1' : (FloatKind.f64.format.order x x == some .eq) = true := by rw [order_self (by simpa using hn)]; rfl
      clear h hn
      by_cases h0 : (FloatKind.f64.format.order x 0 == some .eq) = true
      · go_enter Try.func7, Try.ntmps7
        have tok : True := trivial
        go_wp2_with (first | (have _t := tok; refine wpList_fop _ rfl .quo _ _ _ _ rfl rfl .f64 _ _ rfl rfl ?_; intro r1 q1 hr1; clear tok _t) | (refine wpList_fop _ rfl .quo _ _ _ _ rfl rfl .f64 _ _ rfl rfl ?_; intro r2 q2 hr2))
        go_ret
        refine ⟨ret_bool ?_, _, rfl⟩
        rw [order_congr (hr1.out.trans hr2.out.symm) rfl]
        simp
      · have h0' : (FloatKind.f64.format.order x 0 == some .eq) = false := by simpa using h0
        clear h0
        go_enter Try.func7, Try.ntmps7
        go_wp2
        go_ret
        exact ⟨rfl, 0, rfl⟩
  · have h1 : (FloatKind.f64.format.order x x != some .eq) = true := by rw [order_nan_l hx]; rfl
    have h2 : (FloatKind.f64.format.order y y != some .eq) = true := by rw [order_nan_l hy]; rfl
    clear h hx hy
    go_enter Try.func7, Try.ntmps7
    go_wp2
    go_ret
    exact ⟨rfl, 0, rfl⟩

set_option maxHeartbeats 8000000 in
/-- 'eqFloat32S' at two lists of the same numbers. -/
theorem eqF_same (A A' : Option Addr) (n n' c c' B : Nat) (xs ys : List Nat) (w : World) (h : Rd w B A n (f32s xs)) (h' : Rd w B A' n' (f32s ys)) (hn : n ≤ maxLen) (hxy : xs.map (cn .f32) = ys.map (cn .f32)) :
    Calls Try.prog 8 #[.slice A n c, .slice A' n' c'] w fun e w' => e = .returned (.bool true) ∧ Below w.heap.size w w' := by
  have hl := h.lenF; have hl' := h'.lenF
  unfold maxLen at hn
  obtain rfl : n = n' := by
    have := congrArg List.length hxy
    rw [List.length_map, List.length_map, hl.out, hl'.out] at this
    exact this
  have Hxy := Lib.hid hxy
  clear hxy
  have hb : ((n : Int) != (n : Int)) = false := by simp
  go_enter Try.func8, Try.ntmps8
  go_wp2
  go_loopw [4, 5] (fun r i wr => ∃ k q : Nat, k ≤ n ∧ i = .int .i64 k ∧ wr = w.drewN q) (fun _ i _ => n - (intOf i).toNat)
  case atStart => exact ⟨0, 0, Nat.zero_le _, rfl, rfl⟩
  case round =>
    obtain ⟨k, q, hk, rfl, rfl⟩ := hrel
    by_cases hlt : k < n
    · obtain ⟨b, off, x, rfl, _, hx, hc⟩ := h.atF hlt
      obtain ⟨b', off', y, rfl, _, hy, hc'⟩ := h'.atF hlt
      have hlt' : (k : Int) < (n : Int) := by omega
      have h0 : (0 : Int) ≤ (k : Int) := by omega
      have hcn : cn .f32 x = cn .f32 y := by
        have h1 := congrArg (fun l => l[k]?) Hxy.out
        simp only [List.getElem?_map, hx.out, hy.out, Option.map_some] at h1
        injection h1
      by_cases hnan : isNaNB .f32 x = true
      · have Hcn := Lib.hid hcn
        clear h h' hcn hnan
        have hcv := run_widV (P := Try.prog) 23 28 rfl Try.underlying28
        go_wp2
        go_region_with (go_at_call 7; refine (sameFloat_any _ _ _ (by rw [widV_cn, widV_cn]; exact widen_congr Hcn.out)).mono ?_; rintro e w' ⟨rfl, q', rfl⟩)
        all_goals
          clear hcv
          go_wp2
          go_roundw
          case rel => exact ⟨k + 1, _, by omega, by go_num, rfl⟩
          case measure => simp only [intOf]; omega
      · obtain rfl : x = y := by
          rcases cn_eq hcn with h1 | ⟨h1, _⟩
          · exact h1
          · exact absurd h1 hnan
        have hcv := fun w => run_widen_num (P := Try.prog) 23 28 rfl Try.underlying28 w x (by simpa using hnan)
        clear h h' hcn hnan
        go_wp2
        go_quiet ((go_at_call 7; exact quiet_add (sameFloat_any _ _ _ rfl)))
        clear hcv
        go_wp2
        go_roundw
        case rel => exact ⟨k + 1, q + nq, by omega, by go_num, rfl⟩
        case measure => simp only [intOf]; omega
    · go_wp2
      go_ret
      exact ⟨rfl, below_drewN' q⟩
/-- 'toFloat32S': a new list with the same numbers. -/
theorem toF_any (A : Option Addr) (n c B : Nat) (xs : List Nat) (w : World) (h : Rd w B A n (f32s xs)) (hB : B ≤ w.heap.size) (hn : n ≤ 1048576) :
    Calls Try.prog 5 #[.slice A n c] w fun e w' => ∃ v, e = .returned v ∧ Own w' w.heap.size 23 v (f32s xs) ∧ Below w.heap.size w w' := by
  have hl := h.lenF
  obtain ⟨i0, hi, hz0, hz1, hz2⟩ := info_parts info_f32
  go_enter Try.func5, Try.ntmps5
  go_wp2_with (at_make; refine wpList_make_full _ rfl _ _ 22 rfl w.heap.size 23 i0 (.float .f32 0) 1 Try.underlying22 hi hz0 hz1 _ _ _ _ n rfl rfl rfl rfl ?c1 ?c2 ?c3 ?_)
  case c1 => rw [hz2]; omega
  case c2 => unfold maxLen; omega
  case c3 => exact Nat.le_refl _
  intro w1 hown hgrow
  clear hi hz0 hz1 hz2
  go_wp2
  go_loopw [4] (fun i wr => ∃ k : Nat, k ≤ n ∧ i = .int .i64 k ∧ wr.ownsRow w.heap.size 23 1 (.slice (some ⟨w.heap.size, 0, none⟩) n n) n (filled (.float .f32 0) (f32s xs) k n) ∧ Below w.heap.size w wr) (fun i _ => n - (intOf i).toNat)
  case atStart => exact ⟨0, Nat.zero_le _, rfl, by rw [filled_zero, ← madeCells_one]; simpa using hown, (Below.refl _ _).grown hgrow (Nat.le_refl _) (by simp)⟩
  case round =>
    obtain ⟨k, hk, rfl, hown, hbel⟩ := hrel
    by_cases hlt : k < n
    · obtain ⟨b, off, x, rfl, hbB, hx, hc⟩ := h.atF hlt
      have hc1 := (hbel.cell (p := ⟨b, off + k, none⟩) (by show b < _; omega)).trans hc
      obtain ⟨u, hu⟩ := filled_at (.float .f32 0) (f32s xs) k n hlt (by rw [f32s_length]; exact hl.out)
      have hc2 := (hown.cellAt k (by omega)).trans hu
      have hf2 := hown.frozenAt k
      have HO := Lib.hid hown; have HB := Lib.hid hbel; have HC := Lib.hid hc
      clear h hown hbel hc hgrow hu
      go_wp2
      go_roundw
      case rel =>
        refine ⟨k + 1, by omega, by go_num, ?_, HB.out.setCell (Nat.le_refl _) _⟩
        have := (HO.out.stored k (.float .f32 x)).1
        rwa [filled_set _ _ _ _ _ (by simp [f32s, hx.out]) (by rw [f32s_length]; exact hl.out)] at this
      case measure => simp only [intOf]; omega
    · obtain rfl : k = n := by omega
      rw [filled_all _ _ _ (by rw [f32s_length]; exact hl.out)] at hown
      have HO := Lib.hid hown; have HB := Lib.hid hbel
      clear h hown hbel hgrow
      go_wp2
      go_ret
      refine ⟨_, rfl, ?_, HB.out⟩
      unfold Own
      rw [f32s_length, hl.out]
      exact HO.out
end Go.Proofs.Ytmhhjegceibjoaa
