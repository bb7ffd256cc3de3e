/- BetweenSeed: a number between two others. -/
import Derived.Test.YtgbehnkccgahoaaShare
import Derived.Test.YtgbehnkccgahoaaShapesSF
import Derived.Test.YtgbehnkccgahoaaPicks
namespace Go.Proofs.Ytgbehnkccgahoaa
open Go.RowKit
theorem rd_newF (w : World) (xs : List Nat) (e : TypeId) : Rd (w.alloc (.cells (f32s xs).toArray e)) (w.heap.size + 1) (some ⟨w.heap.size, 0, none⟩) xs.length (f32s xs) := by
  refine ⟨f32s_length xs, fun _ => ⟨w.heap.size, 0, rfl, by omega, fun j u hu => ?_⟩⟩
  rw [Nat.zero_add, cell_of_row _ _ j _ e (0, 0) (heap_alloc_new w _)]
  simpa using hu
/-- What a number drawn between two others is. -/
def betweenX (u lo hi : Nat) : Nat :=
  if flt .f32 (fop .add .f32 lo (fop .mul .f32 (fop .sub .f32 hi lo) u)) hi then fop .add .f32 lo (fop .mul .f32 (fop .sub .f32 hi lo) u) else cn .f32 lo
def betweenSeed (s : Sd) (lo hi : Nat) : Option (Sd × Nat) :=
  if validB s && finB lo && finB hi && flt .f32 lo hi && finB (fop .sub .f32 hi lo) && finB (betweenX (shareOf s) lo hi) then some (nextSd s, betweenX (shareOf s) lo hi) else none
theorem give_any (s : Sd) (g x : Nat) (w : World) (hg : SeedAt w g s) :
    Calls Try.prog 29 #[.pointer (some ⟨g, 0, none⟩), .float .f32 x] w fun e w' => ((finB x = true ∧ e = .returned (.tuple #[s.val, .float .f32 x, .bool true])) ∨ (finB x = false ∧ e = .returned (.tuple #[Sd.zero.val, .float .f32 0, .bool false]))) ∧ Below w.heap.size w w' := by
  have Hg := Lib.hid hg
  clear hg
  go_enter Try.func29, Try.ntmps29
  go_wp2_with fail
  refine (l01Fin_any _ _).mono ?_
  rintro e w1 ⟨rfl, q, rfl⟩
  have hz := SeedAt.new w 0 0 0
  have HB : Hid (Below w.heap.size w ((w.alloc (.cells #[.int .i64 0, .int .u64 0, .int .u64 0] 26)).drewN q)) := below_drewN ((Below.refl _ _).alloc (Nat.le_refl _) _) q
  have hg1 := Hg.out.alloc (.cells #[.int .i64 0, .int .u64 0, .int .u64 0] 26)
  have c0 := hg1.c0
  have c1 := hg1.c1
  have c2 := hg1.c2
  have u0 := hz.c0
  have u1 := hz.c1
  have u2 := hz.c2
  have v0 := hz.fz 0
  have v1 := hz.fz 1
  have v2 := hz.fz 2
  cases hf : finB x with
  | false =>
    go_wp2
    (try simp only [Exit.inBlock, Exit.then])
    refine bodyPost_ret (results_s3 rfl _ rfl ((hz.drewN q).set3 0 0 0)) rfl ?_
    exact ⟨.inr ⟨hf, rfl⟩, below_set3 HB.out (Nat.le_refl _) _ _ _⟩
  | true =>
    go_wp2
    (try simp only [Exit.inBlock, Exit.then])
    refine bodyPost_ret (results_s3 rfl _ rfl ((hz.drewN q).set3 s.kind s.a s.b)) rfl ?_
    exact ⟨.inl ⟨hf, rfl⟩, below_set3 HB.out (Nat.le_refl _) _ _ _⟩
theorem drawn_any (s : Sd) (x : Nat) (w : World) :
    Calls Try.prog 23 #[s.val, .float .f32 x] w fun e w' => ((finB x = true ∧ e = .returned (.tuple #[s.val, .float .f32 x, .bool true])) ∨ (finB x = false ∧ e = .returned (.tuple #[Sd.zero.val, .float .f32 0, .bool false]))) ∧ Below w.heap.size w w' := by
  unfold Sd.val
  go_enter Try.func23, Try.ntmps23
  go_wp2_with fail
  refine (isFin_any _ _).mono ?_
  rintro e w1 ⟨rfl, q, rfl⟩
  have hg := (SeedAt.new w s.kind s.a s.b).alloc (.cells #[.int .i64 0, .int .u64 0, .int .u64 0] 26)
  have hz := SeedAt.new1 w (.cells #[.int .i64 s.kind, .int .u64 s.a, .int .u64 s.b] 26) 0 0 0
  have HB : Hid (Below w.heap.size w (((w.alloc (.cells #[.int .i64 s.kind, .int .u64 s.a, .int .u64 s.b] 26)).alloc (.cells #[.int .i64 0, .int .u64 0, .int .u64 0] 26)).drewN q)) := below_drewN (((Below.refl _ _).alloc (Nat.le_refl _) _).alloc (by rw [size_alloc']; omega) _) q
  have c0 := hg.c0
  have c1 := hg.c1
  have c2 := hg.c2
  have u0 := hz.c0
  have u1 := hz.c1
  have u2 := hz.c2
  have v0 := hz.fz 0
  have v1 := hz.fz 1
  have v2 := hz.fz 2
  cases hf : finB x with
  | false =>
    go_wp2
    (try simp only [Exit.inBlock, Exit.then])
    refine bodyPost_ret (results_s3 rfl _ rfl ((hz.drewN q).set3 0 0 0)) rfl ?_
    exact ⟨.inr ⟨hf, rfl⟩, below_set3 HB.out (by omega) _ _ _⟩
  | true =>
    go_wp2
    (try simp only [Exit.inBlock, Exit.then])
    refine bodyPost_ret (results_s3 rfl _ rfl ((hz.drewN q).set3 s.kind s.a s.b)) rfl ?_
    exact ⟨.inl ⟨hf, rfl⟩, below_set3 HB.out (by omega) _ _ _⟩
end Go.Proofs.Ytgbehnkccgahoaa
