/- What a long statement keeps on its way: boxes of seeds, and lists. -/
import Derived.Test.YtgbehnkccgahoaaShapesS
import Derived.Test.YtgbehnkccgahoaaSrc
namespace Go.Proofs.Ytgbehnkccgahoaa
open Go.RowKit
structure Kp (w0 w : World) (bs : List (Nat × Sd)) (rs : List (Option Addr × List Int)) : Prop where
  below : Below w0.heap.size w0 w
  box : ∀ b ∈ bs, SeedAt w b.1 b.2
  row : ∀ r ∈ rs, Rd w w.heap.size r.1 r.2.length (i64s r.2)
theorem Kp.refl (w : World) : Kp w w [] [] := ⟨Below.refl _ _, by simp, by simp⟩
theorem Kp.next {w0 w w' : World} {bs : List (Nat × Sd)} {rs : List (Option Addr × List Int)} (h : Kp w0 w bs rs) (hb : Below w.heap.size w w') : Kp w0 w' bs rs :=
  ⟨h.below.trans (hb.mono h.below.size), fun b hm => (h.box b hm).below hb (h.box b hm).lt, fun r hm => ((h.row r hm).below hb (Nat.le_refl _)).more hb.size⟩
theorem Kp.alloc {w0 w : World} {bs : List (Nat × Sd)} {rs : List (Option Addr × List Int)} (h : Kp w0 w bs rs) (o : Obj) : Kp w0 (w.alloc o) bs rs :=
  h.next ((Below.refl _ _).alloc (Nat.le_refl _) _)
theorem Kp.drewN {w0 w : World} {bs : List (Nat × Sd)} {rs : List (Option Addr × List Int)} (h : Kp w0 w bs rs) (q : Nat) : Kp w0 (w.drewN q) bs rs :=
  h.next (below_drewN' q)
/-- A new box. -/
theorem Kp.push {w0 w : World} {bs : List (Nat × Sd)} {rs : List (Option Addr × List Int)} (h : Kp w0 w bs rs) (s : Sd) : Kp w0 (w.alloc (.cells #[.int .i64 s.kind, .int .u64 s.a, .int .u64 s.b] 26)) ((w.heap.size, s) :: bs) rs := by
  have k := h.alloc (.cells #[.int .i64 s.kind, .int .u64 s.a, .int .u64 s.b] 26)
  refine ⟨k.below, fun b hm => ?_, k.row⟩
  rcases List.mem_cons.1 hm with rfl | hm
  · exact SeedAt.new w s.kind s.a s.b
  · exact k.box b hm
theorem Kp.add {w0 w : World} {bs : List (Nat × Sd)} {rs : List (Option Addr × List Int)} (h : Kp w0 w bs rs) {A : Option Addr} {xs : List Int} (hr : Rd w w.heap.size A xs.length (i64s xs)) : Kp w0 w bs ((A, xs) :: rs) :=
  ⟨h.below, h.box, fun r hm => by rcases List.mem_cons.1 hm with rfl | hm; exact hr; exact h.row r hm⟩
theorem Kp.le {w0 w : World} {bs : List (Nat × Sd)} {rs : List (Option Addr × List Int)} (h : Kp w0 w bs rs) : w0.heap.size ≤ w.heap.size := h.below.size
/-- What is handed back, with names for the parts. -/
theorem gaveSLB_use {w w' : World} {r : Option (Sd × List Int)} {e : Ending} (h : GaveSLB w r e w') {s : Sd} {ok : Bool} {l : List Int} (e1 : Hid (s = (r.map Prod.fst).getD Sd.zero)) (e2 : Hid (ok = r.isSome)) (e3 : Hid (l = (r.map Prod.snd).getD [])) :
    ∃ (A : Option Addr) (c : Nat), e = .returned (.tuple #[.agg #[.int .i64 s.kind, .int .u64 s.a, .int .u64 s.b], .slice A l.length c, .bool ok]) ∧ Hid (Rd w' w'.heap.size A l.length (i64s l)) ∧ Hid (Below w.heap.size w w') := by
  obtain ⟨k, a, b, v, ok', rfl, h1, h2, ho, hb⟩ := h
  rw [← e3.out] at ho
  obtain ⟨A, c, rfl, _⟩ := ho.shapeI
  have e1' := h2.out.trans e1.out.symm
  have e2' : ok' = ok := h1.out.trans e2.out.symm
  subst e2'
  have hk : k = s.kind := congrArg Sd.kind e1'
  have ha : a = s.a := congrArg Sd.a e1'
  have hb' : b = s.b := congrArg Sd.b e1'
  subst hk ha hb'
  exact ⟨A, c, rfl, ho.rdI, hb⟩
end Go.Proofs.Ytgbehnkccgahoaa
