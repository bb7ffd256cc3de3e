/- The reference's draws of lists of float32, and of one number. -/
import Derived.Test.YtijafnejdibdlaaGreatDoorDraw
import Derived.Test.YtijafnejdibdlaaGreatDoorEmitF
namespace Go.Proofs.YtijafnejdibdlaaGreatDoor
open Go.RowKit
set_option maxRecDepth 100000
def AllW (xs : List Nat) : Prop := ∀ x ∈ xs, W32 x
theorem AllW.snoc {xs : List Nat} {x : Nat} (h : AllW xs) (hx : W32 x) : AllW (xs ++ [x]) := fun y hy => by
  rcases List.mem_append.1 hy with h1 | h1
  · exact h y h1
  · rw [List.mem_singleton.1 h1]; exact hx
theorem b10Number_any (A : Option Addr) (n c B : Nat) (xs : List Int) (w : World) (h : Rd w B A n (u8s xs)) (hb : Bytes xs) (hB : B ≤ w.heap.size) :
    Calls Tryz.prog 18 #[.slice A n c] w fun e w' => ∃ x, e = .returned (.float .f32 x) ∧ W32 x ∧ Below w.heap.size w w' := by
  have HR := Lib.hid h
  clear h
  go_enter Tryz.func18, Tryz.ntmps18
  go_wp2_with fail
  refine (l00From_any A n c _).mono ?_
  rintro e w1 ⟨rfl, rfl⟩
  have HS := Lib.hid (SrcAt.new w A n c 0 0)
  have HR1 := Lib.hid (HR.out.alloc hB (.cells #[.slice A n c, .int .i64 0, .int .u64 0] 76))
  have HB1 : Hid (Below w.heap.size w (w.alloc (.cells #[.slice A n c, .int .i64 0, .int .u64 0] 76))) := (Below.refl _ _).alloc (Nat.le_refl _) _
  have hsz : Hid ((w.alloc (.cells #[.slice A n c, .int .i64 0, .int .u64 0] 76)).heap.size = w.heap.size + 1) := size_alloc' _ _
  generalize w.alloc (.cells #[.slice A n c, .int .i64 0, .int .u64 0] 76) = w1 at HS HR1 HB1 hsz ⊢
  go_wp2_with fail
  refine (srcOne_any A n c B w.heap.size xs 0 0 _ 2 HR1.out hb hB HS.out (by omega) (by omega) (by omega)).mono ?_
  rintro e w2 ⟨b, s1, k1, rfl, hg1, hk1, hs1, hgr1⟩
  have HR2 := Lib.hid (HR1.out.grown hgr1 (by have := hsz.out; omega) (fun g' e => by cases e; exact hB))
  have HB2 := Lib.hid (HB1.out.grown hgr1 (by have := hsz.out; omega) (fun j e => by cases e; exact Nat.le_refl _))
  have HG2 := Lib.hid hg1
  have hsz2 : w.heap.size ≤ w2.heap.size := by have := hgr1.size; have := hsz.out; omega
  clear hg1 hgr1
  cases b with
  | true =>
    go_wp2_with fail
    refine (srcPick_any A n c B w.heap.size xs k1 s1 65536 _ HR2.out hb hB HG2.out (by omega) hs1 (by omega)).mono ?_
    rintro e w3 ⟨x3, s3, k3, rfl, hx3, hg3, hk3, hs3, hgr3⟩
    have HR3 := Lib.hid (HR2.out.grown hgr3 (by have := HG2.out.lt; omega) (fun g' e => by cases e; exact hB))
    have HG3 := Lib.hid hg3
    have HB3 := Lib.hid (HB2.out.grown hgr3 (by omega) (fun j e => by cases e; exact Nat.le_refl _))
    have hsz3 : w.heap.size ≤ w3.heap.size := by have := hgr3.size; omega
    clear hg3 hgr3
    go_wp2_with fail
    refine (srcPick_any A n c B w.heap.size xs k3 s3 65536 _ HR3.out hb hB HG3.out (by omega) hs3 (by omega)).mono ?_
    rintro e w4 ⟨x4, s4, k4, rfl, hx4, hg4, hk4, hs4, hgr4⟩
    have HB4 := Lib.hid (HB3.out.grown hgr4 (by omega) (fun j e => by cases e; exact Nat.le_refl _))
    clear hg4 hgr4
    go_wp2_with fail
    refine (l01From_any _ _).mono ?_
    rintro e w5 ⟨⟨x, rfl, hx⟩, rfl⟩
    have HX := Lib.hid (W32.lt hx)
    clear hx
    go_wp2_with fail
    go_ret
    exact ⟨x, rfl, HX.out, HB4.out⟩
  | false =>
    go_wp2_with fail
    refine (drawFloat_any A n c B w.heap.size xs k1 s1 _ HR2.out hb hB HG2.out (by omega) hs1).mono ?_
    rintro e w3 ⟨x, s', k', rfl, hx, hS3, hk', hs', hgr⟩
    have HX := Lib.hid hx
    have HB3 := Lib.hid (HB2.out.grown hgr (by omega) (fun j e => by cases e; exact Nat.le_refl _))
    clear hx hS3 hgr
    go_wp2
    go_ret
    exact ⟨x, rfl, HX.out, HB3.out⟩
end Go.Proofs.YtijafnejdibdlaaGreatDoor
