/- The helpers of the statements on float32 and lists of it. -/
import Derived.Test.YtahimjdfkmhknaaFloat
import Derived.Test.YtahimjdfkmhknaaProg
import Derived.Deep.RegionWith
import Derived.BigRegion
import Derived.Deep.RegionHeld3
namespace Go.Proofs.Ytahimjdfkmhknaa
open Go.RowKit
set_option maxRecDepth 100000
attribute [local go_sem] run_store_float'

theorem info_f32 : (Try.prog.info? 25).map (fun i => (i.zero, i.size, i.bytes)) = some (some (.float .f32 0), 1, 4) := by kernel_rfl

/-- 'sameFloat' at two words of one number. -/
theorem sameFloat_any (x y : Nat) (w : World) (h : cn .f64 x = cn .f64 y) : Calls Try.prog 9 #[.float .f64 x, .float .f64 y] w fun e w' => e = .returned (.bool true) ∧ ∃ q, w' = w.drewN q := by
  rcases cn_eq h with rfl | ⟨hx, hy⟩
  · by_cases hn : isNaNB .f64 x = true
    · have h1 : (FloatKind.f64.format.order x x != some .eq) = true := by rw [order_nan_l hn]; rfl
      clear h hn
      go_enter Try.func9, Try.ntmps9
      go_wp2
      go_ret
      exact ⟨rfl, 0, rfl⟩
    · have h1 : (FloatKind.f64.format.order x x != some .eq) = false := by rw [order_self (by simpa using hn)]; rfl
      have h1' : (FloatKind.f64.format.order x x == some .eq) = true := by rw [order_self (by simpa using hn)]; rfl
      clear h hn
      by_cases h0 : (FloatKind.f64.format.order x 0 == some .eq) = true
      · go_enter Try.func9, Try.ntmps9
        have tok : True := trivial
        go_wp2_with (first | (have _t := tok; refine wpList_fop _ rfl .quo _ _ _ _ rfl rfl .f64 _ _ rfl rfl ?_; intro r1 q1 hr1; clear tok _t) | (refine wpList_fop _ rfl .quo _ _ _ _ rfl rfl .f64 _ _ rfl rfl ?_; intro r2 q2 hr2))
        go_ret
        refine ⟨ret_bool ?_, _, rfl⟩
        rw [order_congr (hr1.out.trans hr2.out.symm) rfl]
        simp
      · have h0' : (FloatKind.f64.format.order x 0 == some .eq) = false := by simpa using h0
        clear h0
        go_enter Try.func9, Try.ntmps9
        go_wp2
        go_ret
        exact ⟨rfl, 0, rfl⟩
  · have h1 : (FloatKind.f64.format.order x x != some .eq) = true := by rw [order_nan_l hx]; rfl
    have h2 : (FloatKind.f64.format.order y y != some .eq) = true := by rw [order_nan_l hy]; rfl
    clear h hx hy
    go_enter Try.func9, Try.ntmps9
    go_wp2
    go_ret
    exact ⟨rfl, 0, rfl⟩

end Go.Proofs.Ytahimjdfkmhknaa
