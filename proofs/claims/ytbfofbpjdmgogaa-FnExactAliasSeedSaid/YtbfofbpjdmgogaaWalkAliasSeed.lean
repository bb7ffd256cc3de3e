/- The walk of the statement FnExactAliasSeed, whole. -/
import Derived.Test.YtbfofbpjdmgogaaAliasSeed
import Derived.Test.YtbfofbpjdmgogaaShapesS
import Derived.Deep.RegionWith
import Derived.Deep.DeepCutAuto
namespace Go.Proofs.Ytbfofbpjdmgogaa
open Go.RowKit
/-- What the walk through the statement keeps: both boxes, and both lists that came in. -/
structure Kept (w : World) (k0 a0 b0 : Int) (A : Option Addr) (n c : Nat) (A' : Option Addr) (n' c' : Nat) (xs : List Nat) (ys : List Int) (w' : World) : Prop where
  box : BoxAt w' w.heap.size k0 a0 b0
  al : AlAt w' (w.heap.size + 1) 64 (.slice A n c) (.slice A' n' c')
  bel : Below w.heap.size w w'
  rd : Rd w' w.heap.size A n (f32s xs)
  rd' : Rd w' w.heap.size A' n' (i64s ys)
section
variable {w w1 w2 : World} {k0 a0 b0 : Int} {A : Option Addr} {n c : Nat} {A' : Option Addr} {n' c' : Nat} {xs : List Nat} {ys : List Int}
theorem Kept.drew (h : Kept w k0 a0 b0 A n c A' n' c' xs ys w1) : Kept w k0 a0 b0 A n c A' n' c' xs ys w1.drew := ⟨h.box, h.al, h.bel.drew, h.rd, h.rd'⟩
theorem Kept.size (h : Kept w k0 a0 b0 A n c A' n' c' xs ys w1) : w.heap.size ≤ w1.heap.size := h.bel.size
theorem Kept.alloc (h : Kept w k0 a0 b0 A n c A' n' c' xs ys w1) (o : Obj) : Kept w k0 a0 b0 A n c A' n' c' xs ys (w1.alloc o) := ⟨h.box.alloc o, h.al.alloc o, h.bel.alloc h.size o, h.rd.alloc h.size o, h.rd'.alloc h.size o⟩
theorem Kept.below (h : Kept w k0 a0 b0 A n c A' n' c' xs ys w1) (hb : Below w1.heap.size w1 w2) : Kept w k0 a0 b0 A n c A' n' c' xs ys w2 :=
  ⟨h.box.below hb h.box.lt, h.al.below hb h.al.lt, h.bel.trans (hb.mono h.size), h.rd.below hb h.size, h.rd'.below hb h.size⟩
theorem Kept.set3 (h : Kept w k0 a0 b0 A n c A' n' c' xs ys w1) {g : Nat} (hg : w.heap.size + 2 ≤ g) (k a b : Int) : Kept w k0 a0 b0 A n c A' n' c' xs ys (((w1.setCell ⟨g, 0, none⟩ (.int .i64 k)).setCell ⟨g, 1, none⟩ (.int .u64 a)).setCell ⟨g, 2, none⟩ (.int .u64 b)) :=
  ⟨(Below.heap_setCell _ _ _ _ (by show w.heap.size ≠ g; omega)).trans ((Below.heap_setCell _ _ _ _ (by show w.heap.size ≠ g; omega)).trans ((Below.heap_setCell _ _ _ _ (by show w.heap.size ≠ g; omega)).trans h.box)),
    ((h.al.far (by show w.heap.size + 1 ≠ g; omega) _).far (by show w.heap.size + 1 ≠ g; omega) _).far (by show w.heap.size + 1 ≠ g; omega) _, below_set3 h.bel (by omega) k a b,
    ((h.rd.setCell (p := ⟨g, 0, none⟩) (by show w.heap.size ≤ g; omega) _).setCell (p := ⟨g, 1, none⟩) (by show w.heap.size ≤ g; omega) _).setCell (p := ⟨g, 2, none⟩) (by show w.heap.size ≤ g; omega) _,
    ((h.rd'.setCell (p := ⟨g, 0, none⟩) (by show w.heap.size ≤ g; omega) _).setCell (p := ⟨g, 1, none⟩) (by show w.heap.size ≤ g; omega) _).setCell (p := ⟨g, 2, none⟩) (by show w.heap.size ≤ g; omega) _⟩
theorem Kept.setc (h : Kept w k0 a0 b0 A n c A' n' c' xs ys w1) {g : Nat} (hg : w.heap.size + 2 ≤ g) (i : Nat) (u : Value) : Kept w k0 a0 b0 A n c A' n' c' xs ys (w1.setCell ⟨g, i, none⟩ u) :=
  ⟨(Below.heap_setCell _ _ _ _ (by show w.heap.size ≠ g; omega)).trans h.box, h.al.far (by show w.heap.size + 1 ≠ g; omega) _, h.bel.setCell (by show w.heap.size ≤ g; omega) _,
    h.rd.setCell (p := ⟨g, i, none⟩) (by show w.heap.size ≤ g; omega) _, h.rd'.setCell (p := ⟨g, i, none⟩) (by show w.heap.size ≤ g; omega) _⟩
theorem Kept.size2 (h : Kept w k0 a0 b0 A n c A' n' c' xs ys w1) : w.heap.size + 2 ≤ w1.heap.size := by have := h.al.lt; omega
theorem Kept.cells (h : Kept w k0 a0 b0 A n c A' n' c' xs ys w1) : w1.cell? ⟨w.heap.size, 0, none⟩ = some (.int .i64 k0) ∧ w1.cell? ⟨w.heap.size, 1, none⟩ = some (.int .u64 a0) ∧ w1.cell? ⟨w.heap.size, 2, none⟩ = some (.int .u64 b0) ∧ w1.cell? ⟨w.heap.size + 1, 0, none⟩ = some (.slice A n c) ∧ w1.cell? ⟨w.heap.size + 1, 1, none⟩ = some (.slice A' n' c') :=
  ⟨h.box.c0, h.box.c1, h.box.c2, h.al.c0, h.al.c1⟩
/-- A seed's block that was laid ahead of a call. -/
theorem zz_new {k a b : Int} (hb : Below (w1.alloc (.cells #[.int .i64 k, .int .u64 a, .int .u64 b] 25)).heap.size (w1.alloc (.cells #[.int .i64 k, .int .u64 a, .int .u64 b] 25)) w2) : SeedAt w2 w1.heap.size ⟨k, a, b⟩ :=
  (SeedAt.new w1 k a b).below hb (SeedAt.new w1 k a b).lt
/-- What the second half keeps besides: the first draw's seed and the copy of the alias. -/
structure Kept2 (w : World) (k0 a0 b0 : Int) (A : Option Addr) (n c : Nat) (A' : Option Addr) (n' c' : Nat) (xs : List Nat) (ys : List Int) (B g : Nat) (s : Sd) (g9 : Nat) (A2 : Option Addr) (q : Nat) (A2' : Option Addr) (q' : Nat) (w' : World) : Prop where
  k : Kept w k0 a0 b0 A n c A' n' c' xs ys w'
  sz : B ≤ w'.heap.size
  sd : SeedAt w' g s
  gl : g < B
  al : AlAt w' g9 67 (.slice A2 xs.length q) (.slice A2' ys.length q')
  gl9 : g9 < B
  rx : Rd w' B A2 xs.length (f32s xs)
  ry : Rd w' B A2' ys.length (i64s ys)
variable {B g : Nat} {s : Sd} {g9 : Nat} {A2 : Option Addr} {q : Nat} {A2' : Option Addr} {q' : Nat}
theorem Kept2.drew (h : Kept2 w k0 a0 b0 A n c A' n' c' xs ys B g s g9 A2 q A2' q' w1) : Kept2 w k0 a0 b0 A n c A' n' c' xs ys B g s g9 A2 q A2' q' w1.drew := ⟨h.k.drew, h.sz, h.sd, h.gl, h.al, h.gl9, h.rx, h.ry⟩
theorem Kept2.alloc (h : Kept2 w k0 a0 b0 A n c A' n' c' xs ys B g s g9 A2 q A2' q' w1) (o : Obj) : Kept2 w k0 a0 b0 A n c A' n' c' xs ys B g s g9 A2 q A2' q' (w1.alloc o) :=
  ⟨h.k.alloc o, by have := h.sz; rw [size_alloc']; omega, h.sd.alloc o, h.gl, h.al.alloc o, h.gl9, h.rx.alloc h.sz o, h.ry.alloc h.sz o⟩
theorem Kept2.below (h : Kept2 w k0 a0 b0 A n c A' n' c' xs ys B g s g9 A2 q A2' q' w1) (hb : Below w1.heap.size w1 w2) : Kept2 w k0 a0 b0 A n c A' n' c' xs ys B g s g9 A2 q A2' q' w2 :=
  ⟨h.k.below hb, Nat.le_trans h.sz hb.size, h.sd.below hb h.sd.lt, h.gl, h.al.below hb h.al.lt, h.gl9, h.rx.below hb h.sz, h.ry.below hb h.sz⟩
theorem Kept2.set3 (h : Kept2 w k0 a0 b0 A n c A' n' c' xs ys B g s g9 A2 q A2' q' w1) {g' : Nat} (hB : w.heap.size + 2 ≤ B) (hg : B ≤ g') (k a b : Int) : Kept2 w k0 a0 b0 A n c A' n' c' xs ys B g s g9 A2 q A2' q' (((w1.setCell ⟨g', 0, none⟩ (.int .i64 k)).setCell ⟨g', 1, none⟩ (.int .u64 a)).setCell ⟨g', 2, none⟩ (.int .u64 b)) :=
  ⟨h.k.set3 (Nat.le_trans hB hg) k a b, by have := h.sz; simpa [World.setCell] using this, h.sd.far3 (by have := h.gl; omega) k a b, h.gl,
    ((h.al.far (by have := h.gl9; show g9 ≠ g'; omega) _).far (by have := h.gl9; show g9 ≠ g'; omega) _).far (by have := h.gl9; show g9 ≠ g'; omega) _, h.gl9,
    ((h.rx.setCell (p := ⟨g', 0, none⟩) hg _).setCell (p := ⟨g', 1, none⟩) hg _).setCell (p := ⟨g', 2, none⟩) hg _,
    ((h.ry.setCell (p := ⟨g', 0, none⟩) hg _).setCell (p := ⟨g', 1, none⟩) hg _).setCell (p := ⟨g', 2, none⟩) hg _⟩
theorem zz_below {g : Nat} {s : Sd} (h : SeedAt w1 g s) (hb : Below w1.heap.size w1 w2) : SeedAt w2 g s := h.below hb h.lt
theorem le_alloc {B : Nat} (h : B ≤ w1.heap.size) (o : Obj) : B ≤ (w1.alloc o).heap.size := by rw [size_alloc']; omega
end
set_option maxRecDepth 100000 in
set_option maxHeartbeats 4000000 in
theorem walk_AliasSeed (w : World) (k0 a0 b0 : Int) (hf : Sd.ok ⟨k0, a0, b0⟩) (A : Option Addr) (n c : Nat) (xs : List Nat) (A' : Option Addr) (n' c' : Nat) (ys : List Int) (h : Rd w w.heap.size A n (f32s xs)) (hn : n ≤ maxLen) (h' : Rd w w.heap.size A' n' (i64s ys)) (hn' : n' ≤ maxLen) (_hf : Fit ys) :
    Calls Try.prog 13 #[.agg #[.int .i64 k0, .int .u64 a0, .int .u64 b0], .agg #[.slice A n c, .slice A' n' c']] w fun e w' => e = .returned (.bool true) ∧ Below w.heap.size w w' := by
  have Hf := Lib.hid hf
  clear hf
  obtain ⟨w0, hw0⟩ : ∃ w0, w0 = ((w.alloc (.cells #[.int .i64 k0, .int .u64 a0, .int .u64 b0] 24)).alloc (.cells #[.slice A n c, .slice A' n' c'] 64)) := ⟨_, rfl⟩
  have hb0 : Below w.heap.size w w0 := by rw [hw0]; exact ((Below.refl _ _).alloc (Nat.le_refl _) _).alloc (by rw [size_alloc']; omega) _
  have hx0 : BoxAt w0 w.heap.size k0 a0 b0 := by rw [hw0]; exact (BoxAt.new w k0 a0 b0).alloc _
  have ha0 : AlAt w0 (w.heap.size + 1) 64 (.slice A n c) (.slice A' n' c') := by
    have := AlAt.new (w.alloc (.cells #[.int .i64 k0, .int .u64 a0, .int .u64 b0] 24)) 64 (.slice A n c) (.slice A' n' c')
    rw [size_alloc'] at this
    rw [hw0]; exact this
  have K0 : Hid (Kept w k0 a0 b0 A n c A' n' c' xs ys w0) := ⟨hx0, ha0, hb0, h.below hb0 (Nat.le_refl _), h'.below hb0 (Nat.le_refl _)⟩
  clear h h' hb0 hx0 ha0
  go_enter Try.func13, Try.ntmps13
  go_wp2_with fail
  rw [← hw0]
  clear hw0
  refine (szAlias_any A n c A' n' c' _ hn hn').mono ?_
  rintro e w1 ⟨rfl, hb⟩
  have K1 := Lib.hid (K0.out.below hb)
  clear hb K0
  by_cases hbig : aliasLeft n n' < 0
  · go_wp2
    go_ret
    exact ⟨rfl, K1.out.bel⟩
  have hnm : n ≤ 1048576 ∧ n' ≤ 1048576 := by
    unfold aliasLeft at hbig
    split at hbig
    · omega
    · split at hbig
      · omega
      · omega
  obtain ⟨hm, hm'⟩ := hnm
  have hlx := K1.out.rd.lenF
  have hly := K1.out.rd'.lenI
  have hxl : xs.length ≤ 1048576 := by have := hlx.out; omega
  have hyl : ys.length ≤ 1048576 := by have := hly.out; omega
  generalize hrx : aliasSeed ⟨k0, a0, b0⟩ xs ys = rx
  have Hrx := Lib.hid hrx
  clear hrx
  have c0 := K1.out.box.c0
  have c1 := K1.out.box.c1
  have c2 := K1.out.box.c2
  have d0 := K1.out.al.c0
  have d1 := K1.out.al.c1
  have hy := K1.out.alloc (.cells #[.int .i64 0, .int .u64 0, .int .u64 0] 25)
  have r0 := hy.box.c0
  have r1 := hy.box.c1
  have r2 := hy.box.c2
  have r3 := hy.al.c0
  have r4 := hy.al.c1
  clear hy
  go_upto_region 5 with fail
  go_cut [6, 7, 8] (fun s6 s7 s8 wx => ∃ (g : Nat) (k1 a1 b1 num : Int) (ok : Bool), s6 = .pointer (some ⟨g, 0, none⟩) ∧ s7 = .int .i64 num ∧ s8 = .bool ok ∧ Hid (ok = rx.isSome) ∧ Hid ((⟨k1, a1, b1⟩ : Sd) = (rx.map Prod.fst).getD Sd.zero) ∧ Hid (num = (rx.map Prod.snd).getD 0) ∧ SeedAt wx g ⟨k1, a1, b1⟩ ∧ w.heap.size + 2 ≤ g ∧ Kept w k0 a0 b0 A n c A' n' c' xs ys wx)
  case first =>
    go_region_with (first
    | (go_at_call 17
       refine (toSeed_any k0 a0 b0 _).mono ?_
       rintro e w2 ⟨rfl, hb⟩
       (try have zz2 : SeedAt w2 w1.heap.size ⟨0, 0, 0⟩ := (SeedAt.new w1.drew 0 0 0).below hb (SeedAt.new w1.drew 0 0 0).lt)
       (first | have K2 := Lib.hid (K1.out.drew.below hb) | have K2 := Lib.hid ((K1.out.drew.alloc _).below hb))
       have e0 := K2.out.al.c0
       have e1 := K2.out.al.c1
       have hy2 := K2.out.alloc (.cells #[.int .i64 0, .int .u64 0, .int .u64 0] 25)
       have p0 := hy2.al.c0
       have p1 := hy2.al.c1
       clear hb hy2)
    | (go_at_call 48
       go_must (refine (toAlias_any A n c A' n' c' w.heap.size xs ys _ ?_ ?_ ?_ hm hm').mono ?_)
       go_must (first | exact K2.out.rd | exact (K2.out.alloc _).rd)
       go_must (first | exact K2.out.rd' | exact (K2.out.alloc _).rd')
       go_must (first | exact K2.out.size | exact (K2.out.alloc _).size)
       rintro e w3 ⟨v, v', rfl, ho, ho', _, hb⟩
       obtain ⟨A1, q1, rfl, hcap⟩ := ho.shapeF
       obtain ⟨A1', q1', rfl, hcap'⟩ := ho'.shapeI
       have HO3 := Lib.hid ho.rdF; have HP3 := Lib.hid ho'.rdI
       (first | have zz3 := zz_below zz2 hb | have zz3 := zz_new hb | skip)
       (first | have K3 := Lib.hid (K2.out.below hb) | have K3 := Lib.hid ((K2.out.alloc _).below hb))
       clear hb ho ho' hcap hcap')
    | (go_at_call 47
       go_must (refine (specAliasSeed_any k0 a0 b0 A1 xs.length q1 A1' ys.length q1' w3.heap.size xs ys _ Hf.out ?_ ?_ ?_ hxl hyl).mono ?_)
       go_must (first | exact HO3.out | exact HO3.out.alloc (Nat.le_refl _) _)
       go_must (first | exact HP3.out | exact HP3.out.alloc (Nat.le_refl _) _)
       go_must (first | exact Nat.le_refl _ | exact le_alloc (Nat.le_refl _) _)
       rw [Hrx.out]
       rintro e w4 ⟨k1, a1, b1, num, ok, rfl, hok, hsd, hnum, hb⟩
       (first | have zz4 := zz_below zz3 hb | have zz4 := zz_new hb | skip)
       (try have g0 := zz4.c0)
       (try have g1 := zz4.c1)
       (try have g2 := zz4.c2)
       (try have i0 := zz4.fz 0)
       (try have i1 := zz4.fz 1)
       (try have i2 := zz4.fz 2)
       (first | have K4 := Lib.hid (K3.out.below hb) | have K4 := Lib.hid ((K3.out.alloc _).below hb))
       clear hb))
    all_goals
      go_wp2_with fail
      (try go_simp)
      go_meet
      first
        | exact ⟨_, k1, a1, b1, num, ok, rfl, rfl, rfl, hok, hsd, hnum, zz4.set3 k1 a1 b1, K1.out.size2, K4.out.set3 K1.out.size2 k1 a1 b1⟩
        | exact ⟨_, k1, a1, b1, num, ok, rfl, rfl, rfl, hok, hsd, hnum, zz4.set3 k1 a1 b1, K2.out.size2, K4.out.set3 K2.out.size2 k1 a1 b1⟩
        | exact ⟨_, k1, a1, b1, num, ok, rfl, rfl, rfl, hok, hsd, hnum, zz4.set3 k1 a1 b1, K3.out.size2, K4.out.set3 K3.out.size2 k1 a1 b1⟩
        | exact ⟨_, k1, a1, b1, num, ok, rfl, rfl, rfl, hok, hsd, hnum, SeedAt.new w4 k1 a1 b1, K4.out.size2, K4.out.alloc _⟩
        | exact ⟨_, k1, a1, b1, num, ok, rfl, rfl, rfl, hok, hsd, hnum, (SeedAt.new w4 0 0 0).set3 k1 a1 b1, K4.out.size2, (K4.out.alloc _).set3 K4.out.size2 k1 a1 b1⟩
  case rest =>
    obtain ⟨g, k1, a1, b1, num, ok, rfl, rfl, rfl, hok, hsd, hnum, hg1, hgl, hK⟩ := hcut
    have HG1 := Lib.hid hg1; have KA := Lib.hid hK
    clear hg1 hK c0 c1 c2 d0 d1 r0 r1 r2 r3 r4 K1
    have d0 := KA.out.al.c0
    have d1 := KA.out.al.c1
    go_wp2_with fail
    refine (toAlias_any A n c A' n' c' w.heap.size xs ys _ KA.out.rd KA.out.rd' KA.out.size hm hm').mono ?_
    rintro e w4 ⟨v, v', rfl, ho, ho', _, hb⟩
    obtain ⟨A2, q2, rfl, hcap⟩ := ho.shapeF
    obtain ⟨A2', q2', rfl, hcap'⟩ := ho'.shapeI
    have hbx : Below w4.heap.size w4 (w4.alloc (.cells #[.slice A2 xs.length q2, .slice A2' ys.length q2'] 67)) := (Below.refl _ _).alloc (Nat.le_refl _) _
    have HO5 := Lib.hid (ho.rdF.below hbx (Nat.le_refl _)); have HP5 := Lib.hid (ho'.rdI.below hbx (Nat.le_refl _))
    have HY5 := Lib.hid (AlAt.new w4 67 (.slice A2 xs.length q2) (.slice A2' ys.length q2'))
    have HG5 := Lib.hid (((HG1.out.below hb HG1.out.lt)).alloc (.cells #[.slice A2 xs.length q2, .slice A2' ys.length q2'] 67))
    have hgg : g < w4.heap.size := (HG1.out.below hb HG1.out.lt).lt
    have K5 := Lib.hid ((KA.out.below hb).alloc (.cells #[.slice A2 xs.length q2, .slice A2' ys.length q2'] 67))
    clear hb ho ho' d0 d1 KA hbx hcap hcap' HG1
    go_upto_region 7 with fail
    generalize w4.alloc (.cells #[.slice A2 xs.length q2, .slice A2' ys.length q2'] 67) = w5 at HO5 HP5 HY5 HG5 K5 ⊢
    have h45 : w4.heap.size < w5.heap.size := HY5.out.lt
    have Q5 : Hid (Kept2  w k0 a0 b0 A n c A' n' c' xs ys w5.heap.size g ⟨k1, a1, b1⟩ w4.heap.size A2 q2 A2' q2' w5) := ⟨K5.out, Nat.le_refl _, HG5.out, by omega, HY5.out, h45, HO5.out.more (by omega), HP5.out.more (by omega)⟩
    clear K5 HG5 HY5 HO5 HP5
    have hB5 : w.heap.size + 2 ≤ w5.heap.size := Q5.out.k.size2
    have c0 := Q5.out.k.box.c0
    have c1 := Q5.out.k.box.c1
    have c2 := Q5.out.k.box.c2
    have d0 := Q5.out.al.c0
    have d1 := Q5.out.al.c1
    have hy := Q5.out.alloc (.cells #[.int .i64 0, .int .u64 0, .int .u64 0] 25)
    have r0 := hy.k.box.c0
    have r1 := hy.k.box.c1
    have r2 := hy.k.box.c2
    have r3 := hy.al.c0
    have r4 := hy.al.c1
    clear hy
    go_cut [10, 11, 12] (fun s6 s7 s8 wx => ∃ (g' : Nat) (k2 a2 b2 num2 : Int) (ok2 : Bool), s6 = .pointer (some ⟨g', 0, none⟩) ∧ s7 = .int .i64 num2 ∧ s8 = .bool ok2 ∧ Hid (ok2 = rx.isSome) ∧ Hid ((⟨k2, a2, b2⟩ : Sd) = (rx.map Prod.fst).getD Sd.zero) ∧ Hid (num2 = (rx.map Prod.snd).getD 0) ∧ SeedAt wx g' ⟨k2, a2, b2⟩ ∧ Kept2  w k0 a0 b0 A n c A' n' c' xs ys w5.heap.size g ⟨k1, a1, b1⟩ w4.heap.size A2 q2 A2' q2' wx)
    case first =>
      go_region_with (first
      | (go_at_call 17
         refine (toSeed_any k0 a0 b0 _).mono ?_
         rintro e w6 ⟨rfl, hb⟩
         (try have zz6 : SeedAt w6 w5.heap.size ⟨0, 0, 0⟩ := (SeedAt.new w5.drew 0 0 0).below hb (SeedAt.new w5.drew 0 0 0).lt)
         (first | have Q6 := Lib.hid (Q5.out.drew.below hb) | have Q6 := Lib.hid ((Q5.out.drew.alloc _).below hb))
         have e0 := Q6.out.al.c0
         have e1 := Q6.out.al.c1
         have hy6 := Q6.out.alloc (.cells #[.int .i64 0, .int .u64 0, .int .u64 0] 25)
         have p0 := hy6.al.c0
         have p1 := hy6.al.c1
         clear hb hy6)
      | (go_at_call 49
         go_must (refine (implAliasSeed_any k0 a0 b0 A2 xs.length q2 A2' ys.length q2' w5.heap.size xs ys _ Hf.out ?_ ?_ ?_ hxl hyl).mono ?_)
         go_must (first | exact Q6.out.rx | exact (Q6.out.alloc _).rx)
         go_must (first | exact Q6.out.ry | exact (Q6.out.alloc _).ry)
         go_must (first | exact Q6.out.sz | exact (Q6.out.alloc _).sz)
         rw [Hrx.out]
         rintro e w7 ⟨k2, a2, b2, num2, ok2, rfl, hok2, hsd2, hnum2, hb⟩
         (first | have zz7 := zz_below zz6 hb | have zz7 := zz_new hb | skip)
         (try have g0 := zz7.c0)
         (try have g1 := zz7.c1)
         (try have g2 := zz7.c2)
         (try have i0 := zz7.fz 0)
         (try have i1 := zz7.fz 1)
         (try have i2 := zz7.fz 2)
         (first | have Q7 := Lib.hid (Q6.out.below hb) | have Q7 := Lib.hid ((Q6.out.alloc _).below hb))
         clear hb))
      all_goals
        go_wp2_with fail
        (try go_simp)
        go_meet
        first
          | exact ⟨_, k2, a2, b2, num2, ok2, rfl, rfl, rfl, hok2, hsd2, hnum2, zz7.set3 k2 a2 b2, Q7.out.set3 hB5 (Nat.le_refl _) k2 a2 b2⟩
          | exact ⟨_, k2, a2, b2, num2, ok2, rfl, rfl, rfl, hok2, hsd2, hnum2, zz7.set3 k2 a2 b2, Q7.out.set3 hB5 Q6.out.sz k2 a2 b2⟩
          | exact ⟨_, k2, a2, b2, num2, ok2, rfl, rfl, rfl, hok2, hsd2, hnum2, SeedAt.new w7 k2 a2 b2, Q7.out.alloc _⟩
          | exact ⟨_, k2, a2, b2, num2, ok2, rfl, rfl, rfl, hok2, hsd2, hnum2, (SeedAt.new w7 0 0 0).set3 k2 a2 b2, (Q7.out.alloc _).set3 hB5 Q7.out.sz k2 a2 b2⟩
    case rest =>
      obtain ⟨g', k2, a2, b2, num2, ok2, rfl, rfl, rfl, hok2, hsd2, hnum2, hg2, hQ⟩ := hcut
      obtain ⟨rfl, rfl, rfl⟩ : k1 = k2 ∧ a1 = a2 ∧ b1 = b2 := by have := hsd.out.trans hsd2.out.symm; simpa using this
      obtain rfl : ok = ok2 := hok.out.trans hok2.out.symm
      obtain rfl : num = num2 := hnum.out.trans hnum2.out.symm
      have HG2 := Lib.hid hg2; have Q8 := Lib.hid hQ
      clear hg2 hQ c0 c1 c2 d0 d1 r0 r1 r2 r3 r4 Q5 hok hok2 hsd hsd2 hnum hnum2
      have hne1 : (ok != ok) = false := by simp
      have hne2 : (num != num) = false := by simp
      have c0 := HG2.out.c0
      have c1 := HG2.out.c1
      have c2 := HG2.out.c2
      have d0 := Q8.out.sd.c0
      have d1 := Q8.out.sd.c1
      have d2 := Q8.out.sd.c2
      simp only at c0 c1 c2 d0 d1 d2
      go_wp2_with fail
      refine (eqSeed_same k1 a1 b1 _).mono ?_
      rintro e w9 ⟨rfl, hb⟩
      have Q9 := Lib.hid (Q8.out.below hb)
      clear hb c0 c1 c2 d0 d1 d2 HG2 Q8
      have c0 := Q9.out.k.al.c0
      have c1 := Q9.out.k.al.c1
      have y0 := Q9.out.al.c0
      have y1 := Q9.out.al.c1
      go_wp2
      go_region_with (first
        | (go_at_call 48
           refine (toAlias_any A n c A' n' c' w.heap.size xs ys _ Q9.out.drew.k.rd Q9.out.drew.k.rd' Q9.out.drew.k.size hm hm').mono ?_
           rintro e w10 ⟨v, v', rfl, ho, ho', _, hb⟩
           obtain ⟨A3, c4, rfl, hcap⟩ := ho.shapeF
           obtain ⟨A3', c4', rfl, hcap'⟩ := ho'.shapeI
           have Q10 := Lib.hid (Q9.out.drew.below hb)
           have z0 := Q10.out.al.c0
           have z1 := Q10.out.al.c1
           have HO8 := Lib.hid ho.rdF
           have HP8 := Lib.hid ho'.rdI
           clear hb ho ho' hcap hcap')
        | (go_at_call 50
           refine (eqAlias_same A2 xs.length q2 A2' ys.length q2' A3 xs.length c4 A3' ys.length c4' _ xs ys _ (Q10.out.rx.more Q10.out.sz) (Q10.out.ry.more Q10.out.sz) HO8.out HP8.out (Nat.le_refl _) (by unfold maxLen; omega) (by unfold maxLen; omega)).mono ?_
           rintro e w11 ⟨rfl, hb⟩
           have HB8 := Lib.hid (Q10.out.k.bel.trans (hb.mono Q10.out.k.size))
           clear hb))
      all_goals
        go_wp2
        go_ret
        exact ⟨rfl, HB8.out⟩
end Go.Proofs.Ytbfofbpjdmgogaa
