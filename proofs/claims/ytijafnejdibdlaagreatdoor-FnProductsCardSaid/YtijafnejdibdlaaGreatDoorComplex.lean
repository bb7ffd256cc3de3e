/- Complex numbers of 32-bit parts: widened, and the statements' comparison. -/
import Derived.Test.YtijafnejdibdlaaGreatDoorFloats
namespace Go.Proofs.YtijafnejdibdlaaGreatDoor
open Go.RowKit
theorem run_f2f_wid {P : Program} (w : World) (x : Nat) : (Conv.floatToFloat .f32 x .f64).run P w = .ok (.float .f64 (widV w x)) (w.drewN (widD x)) := by
  unfold widV widD
  cases hx : FloatKind.f32.decode x with
  | number s m e =>
    have hfit := widen_fits x s m e hx
    exact run_floatToFloat w (by unfold floatToFloatBits; rw [if_neg (by decide), hx]; simp only; rw [if_neg (by rw [hfit]; decide)])
  | infinity s => exact run_floatToFloat w (by unfold floatToFloatBits; rw [if_neg (by decide), hx])
  | nan s f => simp [Conv.floatToFloat, hx, Question.forced]; rfl
theorem run_widC {P : Program} (src dst : TypeId) (hs : (P.underlying src).isSome = true) (hd : P.underlying dst = some (.complex .f64)) (w : World) (x y : Nat) :
    (convert src dst (.complex .f32 x y)).run P w = .ok (.complex .f64 (widV w x) (widV (w.drewN (widD x)) y)) ((w.drewN (widD x)).drewN (widD y)) := by
  obtain ⟨u, hs'⟩ := Option.isSome_iff_exists.1 hs
  cases u <;> simp [convert, run_underlying hs', run_underlying hd, Conv.complexToComplex, run_f2f_wid]
end Go.Proofs.YtijafnejdibdlaaGreatDoor
