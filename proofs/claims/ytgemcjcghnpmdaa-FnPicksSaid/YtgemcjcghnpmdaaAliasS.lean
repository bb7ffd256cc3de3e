/- AliasOf: the walk of the reference. -/
import Derived.Test.YtgemcjcghnpmdaaAliasL
import Derived.StillTailTactics
import Derived.Deep.OwnRows
import Derived.Deep.LoopGhost
namespace Go.Proofs.Ytgemcjcghnpmdaa
open Go.RowKit
set_option maxRecDepth 100000
attribute [local go_sem] run_store_float'
theorem cn_exact {r y : Nat} (h : cn .f32 r = y) (hy : isNaNB .f32 y = false) : r = y := by
  cases hr : isNaNB .f32 r with
  | false => rw [cn_of_not hr] at h; exact h
  | true =>
    have h2 := isNaNB_cn .f32 r
    rw [h, hy, hr] at h2
    cases h2
/-- The lists under way, before any is settled. -/
structure L1 (w : World) (g2 g6 : Nat) (wr : World) (u v v' : Value) (q sh : List Nat) (ot : List Int) : Prop where
  oq : Own wr w.heap.size 40 u (f32s q)
  os : Own wr w.heap.size 40 v (f32s sh)
  oo : Own wr w.heap.size 2 v' (i64s ot)
  a6 : AlAt wr g6 33 v v'
  a2 : AlAt wr g2 33 (.slice none 0 0) (.slice none 0 0)
  nu : u.ownBlock ≠ some g2 ∧ u.ownBlock ≠ some g6
  nv : v.ownBlock ≠ some g2 ∧ v.ownBlock ≠ some g6
  nv' : v'.ownBlock ≠ some g2 ∧ v'.ownBlock ≠ some g6
  uv : Apart u v
  uv' : Apart u v'
  vv' : Apart v v'
  bl : Below w.heap.size w wr
section
variable {w wr w' : World} {g2 g6 : Nat} {u v v' : Value} {q sh : List Nat} {ot : List Int}
theorem L1.drewN (h : L1 w g2 g6 wr u v v' q sh ot) (m : Nat) : L1 w g2 g6 (wr.drewN m) u v v' q sh ot :=
  ⟨h.oq, h.os, h.oo, h.a6, h.a2, h.nu, h.nv, h.nv', h.uv, h.uv', h.vv', below_drewN h.bl m⟩
theorem new_ne {u x : Value} {g : Nat} (h : x.ownBlock = u.ownBlock ∨ ∃ k, x.ownBlock = some k ∧ wr.heap.size ≤ k) (hu : u.ownBlock ≠ some g) (hg : g < wr.heap.size) : x.ownBlock ≠ some g := by
  rcases h with h | ⟨k, h, hk⟩
  · rw [h]; exact hu
  · rw [h]; intro e; injection e with e; omega
theorem L1.addQ (h : L1 w g2 g6 wr u v v' q sh ot) {u' : Value} {x : Nat} (ho : Own w' w.heap.size 40 u' (f32s (q ++ [x]))) (hg : wr.grownBy w' u.ownBlock) (hor : u'.ownBlock = u.ownBlock ∨ ∃ k, u'.ownBlock = some k ∧ wr.heap.size ≤ k) :
    L1 w g2 g6 w' u' v v' (q ++ [x]) sh ot where
  oq := ho
  os := h.os.grown hg h.uv.symm
  oo := h.oo.grown hg h.uv'.symm
  a6 := h.a6.grown hg (fun e => h.nu.2 e.symm)
  a2 := h.a2.grown hg (fun e => h.nu.1 e.symm)
  nu := ⟨new_ne hor h.nu.1 h.a2.lt, new_ne hor h.nu.2 h.a6.lt⟩
  nv := h.nv
  nv' := h.nv'
  uv := (h.os.apart_grown h.uv.symm hor).symm
  uv' := (h.oo.apart_grown h.uv'.symm hor).symm
  vv' := h.vv'
  bl := below_ownGrown h.bl h.oq hg (Nat.le_refl _) (Nat.le_refl _)
theorem own_set {b g i : Nat} {e : TypeId} {x : Value} {xs : List Value} {z : Value} (h : Own wr b e x xs) (hn : x.ownBlock ≠ some g) : Own (wr.setCell ⟨g, i, none⟩ z) b e x xs := h.kept (grown_set1 wr g i z) (.inr hn)
theorem L1.addSh (h : L1 w g2 g6 wr u v v' q sh ot) {x : Value} {y : Nat} (ho : Own w' w.heap.size 40 x (f32s (sh ++ [y]))) (hg : wr.grownBy w' v.ownBlock) (hor : x.ownBlock = v.ownBlock ∨ ∃ k, x.ownBlock = some k ∧ wr.heap.size ≤ k) (hne : g2 ≠ g6) (hb : w.heap.size ≤ g6) :
    L1 w g2 g6 (w'.setCell ⟨g6, 0, none⟩ x) u x v' q (sh ++ [y]) ot :=
  have nx : x.ownBlock ≠ some g2 ∧ x.ownBlock ≠ some g6 := ⟨new_ne hor h.nv.1 h.a2.lt, new_ne hor h.nv.2 h.a6.lt⟩
  { oq := own_set (h.oq.grown hg h.uv) h.nu.2
    os := own_set ho nx.2
    oo := own_set (h.oo.grown hg h.vv'.symm) h.nv'.2
    a6 := (h.a6.grown hg (fun e => h.nv.2 e.symm)).set0 x
    a2 := (h.a2.grown hg (fun e => h.nv.1 e.symm)).far hne x
    nu := h.nu
    nv := nx
    nv' := h.nv'
    uv := h.oq.apart_grown h.uv hor
    uv' := h.uv'
    vv' := (h.oo.apart_grown h.vv'.symm hor).symm
    bl := (below_ownGrown h.bl h.os hg (Nat.le_refl _) (Nat.le_refl _)).setCell (p := ⟨g6, 0, none⟩) hb x }
theorem L1.addOt (h : L1 w g2 g6 wr u v v' q sh ot) {x : Value} {y : Int} (ho : Own w' w.heap.size 2 x (i64s (ot ++ [y]))) (hg : wr.grownBy w' v'.ownBlock) (hor : x.ownBlock = v'.ownBlock ∨ ∃ k, x.ownBlock = some k ∧ wr.heap.size ≤ k) (hne : g2 ≠ g6) (hb : w.heap.size ≤ g6) :
    L1 w g2 g6 (w'.setCell ⟨g6, 1, none⟩ x) u v x q sh (ot ++ [y]) :=
  have nx : x.ownBlock ≠ some g2 ∧ x.ownBlock ≠ some g6 := ⟨new_ne hor h.nv'.1 h.a2.lt, new_ne hor h.nv'.2 h.a6.lt⟩
  { oq := own_set (h.oq.grown hg h.uv') h.nu.2
    os := own_set (h.os.grown hg h.vv') h.nv.2
    oo := own_set ho nx.2
    a6 := (h.a6.grown hg (fun e => h.nv'.2 e.symm)).set1 x
    a2 := (h.a2.grown hg (fun e => h.nv'.1 e.symm)).far hne x
    nu := h.nu
    nv := h.nv
    nv' := nx
    uv := h.uv
    uv' := h.oq.apart_grown h.uv' hor
    vv' := h.os.apart_grown h.vv' hor
    bl := (below_ownGrown h.bl h.oo hg (Nat.le_refl _) (Nat.le_refl _)).setCell (p := ⟨g6, 1, none⟩) hb x }
end
theorem run_fop_num {P : Program} {op : BinOp} {k : FloatKind} {x y z : Nat} (hz : fop op k x y = z) (hn : isNaNB k z = false) (t : TypeId) (w : World) :
    (binOp op t (.float k x) (.float k y)).run P w = .ok (.float k z) w := by
  cases h : floatBits op k x y with
  | some r =>
    have : r = z := by rw [← hz]; unfold fop; rw [h]; rfl
    rw [← this]
    exact run_float_arith w op t k x y r h
  | none =>
    exfalso
    have : z = qnan k := by rw [← hz]; unfold fop; rw [h]; rfl
    rw [this, qnan_isNaN] at hn
    cases hn
theorem own_addr {w : World} {b : Nat} {e : TypeId} {v : Value} {xs : List Value} (h : Own w b e v xs) (hn : 1 ≤ xs.length) : ∃ g c, v = .slice (some ⟨g, 0, none⟩) xs.length c ∧ w.ownsRow b e 1 (.slice (some ⟨g, 0, none⟩) xs.length c) xs.length xs ∧ g < w.heap.size := by
  have h' := h
  unfold Own at h'
  rcases h'.2 with ⟨_, h0⟩ | ⟨g, cap, cur, hv, _, hg, rest⟩
  · omega
  · subst hv
    exact ⟨g, cap, rfl, h', (Array.getElem?_eq_some_iff.1 hg).1⟩
theorem info_bool' : (Try.prog.info? 4).map (fun i => (i.zero, i.size, i.bytes)) = some (some (.bool false), 1, 1) := by kernel_rfl
set_option maxHeartbeats 20000000 in
theorem l03Alias_any (A : Option Addr) (n c B : Nat) (xs : List Nat) (w : World) (h : Rd w B A n (f32s xs)) (hB : B ≤ w.heap.size) (hp : picksB xs = true) :
    Calls Try.prog 64 #[.slice A n c] w fun e w' => ∃ v v', e = .returned (.agg #[v, v']) ∧ Own w' w.heap.size 40 v (f32s (lastSh (doneS xs) xs.length)) ∧ Own w' w.heap.size 2 v' (i64s (doneS xs).ot) ∧ Apart v v' ∧ Below w.heap.size w w' := by
  have hl := h.lenF
  obtain rfl : xs.length = n := hl.out
  obtain ⟨hn1, hn2⟩ : 1 ≤ xs.length ∧ xs.length ≤ 64 := by
    unfold picksB at hp
    rw [Bool.and_eq_true] at hp
    have := inB_true hp.1
    omega
  have hsum : isNaNB .f32 (sumF xs) = false := by
    unfold picksB at hp
    simp only [Bool.and_eq_true] at hp
    exact FinK_not_nan (pos_KV' hp.2.2).1
  have Hp := Lib.hid hp; have Hsum := Lib.hid hsum
  have hz1 : (w.alloc (.cells #[.slice none 0 0, .slice none 0 0] 33)).heap.size = w.heap.size + 1 := size_alloc'' _ _
  have hb1 : Below w.heap.size w (w.alloc (.cells #[.slice none 0 0, .slice none 0 0] 33)) := (Below.refl _ _).alloc (Nat.le_refl _) _
  have ha2 : AlAt (w.alloc (.cells #[.slice none 0 0, .slice none 0 0] 33)) w.heap.size 33 (.slice none 0 0) (.slice none 0 0) := AlAt.new w _ _ _
  have hr1 := h.below hb1 hB
  have HR0 := Lib.hid h
  clear hl hp hsum h
  go_enter Try.func64, Try.ntmps64
  go_wp2_with fail
  generalize w.alloc (.cells #[.slice none 0 0, .slice none 0 0] 33) = w1 at hz1 hb1 ha2 hr1 ⊢
  have HR1 := Lib.hid hr1; have HB1 := Lib.hid hb1; have HA2 := Lib.hid ha2; have Hz1 := Lib.hid hz1
  clear hr1 hb1 ha2 hz1
  refine (l03Sum_any A xs.length c B xs _ HR1.out (by omega)).mono ?_
  rintro e w2 ⟨r, rfl, hr, q0, rfl⟩
  obtain rfl : r = sumF xs := cn_exact hr.out Hsum.out
  clear hr
  -- the two blocks more
  have hL0 : L1 w w.heap.size (w1.heap.size + 1) (((w1.drewN q0).alloc (.cells #[] 40)).alloc (.cells #[.slice none 0 0, .slice none 0 0] 33)) (.slice (some ⟨w1.heap.size, 0, none⟩) 0 0) (.slice none 0 0) (.slice none 0 0) [] [] [] := by
    have hs : (w1.drewN q0).heap.size = w1.heap.size := rfl
    have hs2 : ((w1.drewN q0).alloc (.cells #[] 40)).heap.size = w1.heap.size + 1 := by rw [size_alloc'', hs]
    have hz := Hz1.out
    have hq := own_new (base := w.heap.size) (w1.drewN q0) 40 (by rw [hs]; omega)
    have h6 := AlAt.new ((w1.drewN q0).alloc (.cells #[] 40)) 33 (.slice none 0 0) (.slice none 0 0)
    rw [hs2] at h6
    refine ⟨World.ownsRow.alloc hq _, own_none _ _ _, own_none _ _ _, h6, ((HA2.out.drewN q0).alloc _).alloc _, ⟨?_, ?_⟩, ⟨?_, ?_⟩, ⟨?_, ?_⟩, ?_, ?_, ?_, ((below_drewN HB1.out q0).alloc (by rw [hs]; omega) _).alloc (by rw [hs2]; omega) _⟩
    · intro e; injection e with e; have e' : w1.heap.size = w.heap.size := e; omega
    · intro e; injection e with e; have e' : w1.heap.size = w1.heap.size + 1 := e; omega
    · intro e; cases e
    · intro e; cases e
    · intro e; cases e
    · intro e; cases e
    · intro k hk e; cases e
    · intro k hk e; cases e
    · intro k hk e; cases e
  have HL0 := Lib.hid hL0
  clear hL0
  go_wp2
  go_loopw [5, 21] (fun u i wr => ∃ (k : Nat) (v v' : Value), k ≤ xs.length ∧ i = .int .i64 k ∧ L1 w w.heap.size (w1.heap.size + 1) wr u v v' ((xs.map (qOf xs)).take k) (List.replicate k 0) (upFrom 0 k)) (fun _ i _ => xs.length - (intOf i).toNat)
  case atStart => exact ⟨0, _, _, Nat.zero_le _, rfl, HL0.out⟩
  case round =>
    obtain ⟨k, v, v', hk, rfl, hL⟩ := hrel
    have HL := Lib.hid hL
    clear hL
    by_cases hlt : k < xs.length
    · have hlt' : (k : Int) < (xs.length : Int) := by omega
      obtain ⟨b, off, x, rfl, hbB, hx, hcx⟩ := (HR0.out.below HL.out.bl hB).atF (k := k) hlt
      have hqk : Hid ((xs.map (qOf xs)).take (k + 1) = (xs.map (qOf xs)).take k ++ [qOf xs x]) := take_succ_of (by rw [List.getElem?_map, hx.out]; rfl)
      have hqn : Hid (isNaNB .f32 (qOf xs x) = false) := (qOf_ok Hp.out (List.mem_of_getElem? hx.out)).not_nan
      have hql : ((xs.map (qOf xs)).take k).length ≤ 2000000 := by rw [List.length_take, List.length_map]; omega
      have hbs := HL.out.bl.size
      have t1 : True := trivial
      have t2 : True := trivial
      go_wp2_with (first
        | (have := t1; clear this t1; refine wpList_fop _ rfl .mul _ _ _ _ rfl rfl .f32 _ _ rfl rfl ?_; intro r1 q1 h1)
        | (have := t2; clear this t2; refine wpList_fop _ rfl .quo _ _ _ _ rfl rfl .f32 _ _ rfl rfl ?_; intro r2 q2 h2)
        | (at_builtin; go_must (refine emitF _ rfl _ _ rfl w.heap.size u5 ((xs.map (qOf xs)).take k) (by rfl) (by exact HL.out.oq) r2 (by rfl) hql (by exact hbs) ?_)))
      obtain rfl : r2 = qOf xs x := cn_exact (by rw [h2.out, fop_l h1.out]; rfl) hqn.out
      intro u' w3 hO' hg3 hor
      have HL3 := Lib.hid (L1.addQ (HL.out.drewN _) hO' hg3 hor)
      rw [← hqk.out] at HL3
      clear hO' hg3 hor h1 h2 hbs hql
      have c0 := HL3.out.a6.c0
      have f0 := HL3.out.a6.fz 0
      have hbs3 := HL3.out.bl.size
      have hrl : (List.replicate k 0).length ≤ 2000000 := by rw [List.length_replicate]; omega
      go_wp2_with (at_builtin; go_must (refine emitF w3 rfl _ _ rfl w.heap.size v (List.replicate k 0) rfl HL3.out.os 0 rfl hrl hbs3 ?_))
      intro x2 w4 hO' hg4 hor
      have HL4 := Lib.hid (HL3.out.addSh hO' hg4 hor (by have := Hz1.out; omega) (by have := Hz1.out; omega))
      have ha6 := HL3.out.a6.grown hg4 (fun e => HL3.out.nv.2 e.symm)
      have hrn : List.replicate k 0 ++ [0] = List.replicate (k + 1) 0 := by rw [List.replicate_succ']
      rw [hrn] at HL4
      obtain ⟨A4, c4, rfl, hc4⟩ := HL4.out.os.shapeF
      rw [List.length_replicate] at HL4 ⊢
      clear hO' hor c0 f0 hbs3 hrl hg4 hc4 hrn
      have c0 := ha6.c0
      have f0 := ha6.fz 0
      have c1 := HL4.out.a6.c1
      have hsz : (w4.setCell ⟨w1.heap.size + 1, 0, none⟩ (.slice A4 (k + 1) c4)).heap.size = w4.heap.size := by simp [World.setCell]
      have Hsz := Lib.hid hsz
      have hbs4 := HL4.out.bl.size
      have hul : (upFrom 0 k).length ≤ 2000000 := by rw [upFrom_len]; omega
      clear ha6 hsz
      go_wp2_with (at_builtin; go_must (refine emitI _ rfl _ _ rfl w.heap.size v' (upFrom 0 k) (by rfl) (by exact HL4.out.oo) (k : Int) (by rw [Hsz.out]; rfl) hul hbs4 ?_))
      intro x3 w5 hO' hg5 hor
      have hun : upFrom 0 k ++ [(k : Int)] = upFrom 0 (k + 1) := by rw [upFrom_succ, Int.zero_add]
      have HL5 := Lib.hid (HL4.out.addOt hO' hg5 (by rw [Hsz.out]; exact hor) (by have := Hz1.out; omega) (by have := Hz1.out; omega))
      rw [hun] at HL5
      obtain ⟨A5, c5, rfl, hc5⟩ := HL5.out.oo.shapeI
      rw [upFrom_len] at HL5 ⊢
      have ha6 := HL4.out.a6.grown hg5 (fun e => HL4.out.nv'.2 e.symm)
      clear hO' hor c0 f0 c1 hg5 hbs4 hul hun hc5
      have c1 := ha6.c1
      have f1 := ha6.fz 1
      clear ha6
      go_wp2
      go_roundw
      case rel => exact ⟨k + 1, _, _, by omega, by go_num, HL5.out⟩
      case measure => simp only [intOf]; omega
    · obtain rfl : k = xs.length := by omega
      have hL := HL.out
      rw [show (xs.map (qOf xs)).take xs.length = xs.map (qOf xs) from List.take_of_length_le (by rw [List.length_map]; exact Nat.le_refl _)] at hL
      obtain ⟨gq, cq, rfl, hq1, hq2⟩ := own_addr hL.oq (by rw [f32s_length, List.length_map]; omega)
      obtain ⟨gv, cv, rfl, hv1, hv2⟩ := own_addr hL.os (by rw [f32s_length, List.length_replicate]; omega)
      obtain ⟨go, co, rfl, ho1, ho2⟩ := own_addr hL.oo (by rw [i64s_length, upFrom_len]; omega)
      have e1 : (f32s (xs.map (qOf xs))).length = xs.length := by rw [f32s_length, List.length_map]
      have e2 : (f32s (List.replicate xs.length 0)).length = xs.length := by rw [f32s_length, List.length_replicate]
      have e3 : (i64s (upFrom 0 xs.length)).length = xs.length := by rw [i64s_length, upFrom_len]
      rw [e1] at hL hq1 ⊢
      rw [e2] at hL hv1
      rw [e3] at hL ho1
      have nqv : gq ≠ gv := fun e => hL.uv gq rfl (by rw [e]; rfl)
      have nqo : gq ≠ go := fun e => hL.uv' gq rfl (by rw [e]; rfl)
      have nvo : gv ≠ go := fun e => hL.vv' gv rfl (by rw [e]; rfl)
      have n2 : (gq ≠ w.heap.size ∧ gv ≠ w.heap.size ∧ go ≠ w.heap.size) ∧ (gq ≠ w1.heap.size + 1 ∧ gv ≠ w1.heap.size + 1 ∧ go ≠ w1.heap.size + 1) :=
        ⟨⟨fun e => hL.nu.1 (by rw [← e]; rfl), fun e => hL.nv.1 (by rw [← e]; rfl), fun e => hL.nv'.1 (by rw [← e]; rfl)⟩, ⟨fun e => hL.nu.2 (by rw [← e]; rfl), fun e => hL.nv.2 (by rw [← e]; rfl), fun e => hL.nv'.2 (by rw [← e]; rfl)⟩⟩
      have HLe := Lib.hid hL
      have Hq1 := Lib.hid hq1; have Hv1 := Lib.hid hv1; have Ho1 := Lib.hid ho1
      clear hL HL hq1 hv1 ho1 e1 e2 e3 HL0
      have hbs := HLe.out.bl.size
      obtain ⟨i0, hi0, hz0, hz1, hz2⟩ := info_parts info_bool'
      go_wp2_with (at_make; refine wpList_make_full _ rfl _ _ 60 rfl w.heap.size 4 i0 (.bool false) 1 Try.underlying60 hi0 hz0 hz1 _ _ _ _ xs.length rfl rfl rfl rfl ?c1 ?c2 ?c3 ?_)
      case c1 => rw [hz2]; omega
      case c2 => unfold maxLen; omega
      case c3 => exact hbs
      intro w6 hown hgrow
      clear hi0 hz0 hz1 hz2
      have hst : w6.ownsRow w.heap.size 4 1 (.slice (some ⟨wr.heap.size, 0, none⟩) xs.length xs.length) xs.length (bools' (List.replicate xs.length false)) := by
        rw [madeCells_one] at hown
        simpa [bools'] using hown
      obtain ⟨gs, hgs⟩ : ∃ gs, gs = wr.heap.size := ⟨_, rfl⟩
      have hf : Fb gq gv go gs := ⟨nqv, nqo, by omega, nvo, by omega, by omega⟩
      have ng : gs ≠ w.heap.size ∧ gs ≠ w1.heap.size + 1 := by have := HLe.out.a2.lt; have := HLe.out.a6.lt; omega
      rw [← hgs] at hst ⊢
      have HP : Hid (Ph w6 w.heap.size xs.length gq gv go gs cq cv co xs.length w6 (startS xs)) :=
        ⟨World.ownsRow.kept Hq1.out hgrow (.inr (fun e => by cases e)), World.ownsRow.kept Hv1.out hgrow (.inr (fun e => by cases e)), World.ownsRow.kept Ho1.out hgrow (.inr (fun e => by cases e)), hst, Chg.refl _⟩
      have HA6 := Lib.hid (HLe.out.a6.grown hgrow (fun e => by cases e))
      have HA2' := Lib.hid (HLe.out.a2.grown hgrow (fun e => by cases e))
      have HB6 := Lib.hid (HLe.out.bl.grown hgrow hbs (by simp))
      have Hf := Lib.hid hf
      have Hlo : Hid (w.heap.size ≤ gq ∧ w.heap.size ≤ gv ∧ w.heap.size ≤ go ∧ w.heap.size ≤ gs) := ⟨(World.ownsRow.lt Hq1.out gq rfl).1, (World.ownsRow.lt Hv1.out gv rfl).1, (World.ownsRow.lt Ho1.out go rfl).1, by omega⟩
      clear hown hgrow hst hgs Hq1 Hv1 Ho1 HLe hf nqv nqo nvo hq2 hv2 ho2
      have Hst := Lib.hid (startS_ok Hp.out)
      have hs0 : Hid (openN (startS xs).st ≤ xs.length) := by show _ ≤ _; have := openN_le (startS xs).st; rw [Hst.out.st] at this; exact this
      go_wp2
      go_loopg [9] xs.length (fun g _ wr => ∃ (s : AS) (f : Nat), f ≤ g ∧ Hid (ASok xs.length s) ∧ Hid (openN s.st ≤ f) ∧ Hid (runS f s = doneS xs) ∧ Ph w6 w.heap.size xs.length gq gv go gs cq cv co xs.length wr s)
      case atStart => exact ⟨startS xs, xs.length, Nat.le_refl _, Hst.out, hs0.out, rfl, HP.out⟩
      case round =>
        obtain ⟨s, f, hfg, Hok, Hop, Hrun, hP⟩ := hrel
        have HP' := Lib.hid hP
        clear hP
        have Hql : Hid (s.q.length = xs.length) := Hok.out.q
        go_wp2
        go_loopw [9, 10, 52] (fun a b i wr' => ∃ k : Nat, k ≤ xs.length ∧ i = .int .i64 k ∧ a = .int .i64 (idxI (firstTo s.q s.st true k)) ∧ b = .int .i64 (idxI (firstTo s.q s.st false k)) ∧ wr' = wr) (fun _ _ i _ => xs.length - (intOf i).toNat)
        case atStart => exact ⟨0, Nat.zero_le _, rfl, rfl, rfl, rfl⟩
        case round =>
          obtain ⟨k, hk, rfl, rfl, rfl, rfl⟩ := hrel
          by_cases hlt : k < xs.length
          · have hlt' : (k : Int) < (xs.length : Int) := by omega
            obtain ⟨x, hx⟩ : ∃ x, s.q[k]? = some x := ⟨_, List.getElem?_eq_getElem (by rw [Hok.out.q]; exact hlt)⟩
            obtain ⟨b, hb⟩ : ∃ b, s.st[k]? = some b := ⟨_, List.getElem?_eq_getElem (by rw [Hok.out.st]; exact hlt)⟩
            obtain ⟨hcq, _⟩ := HP'.out.cellQ hx hlt
            obtain ⟨hcs, _⟩ := HP'.out.cellSt hb hlt
            have hpt := pickB_at (small := true) hx hb
            have hpf := pickB_at (small := false) hx hb
            clear hx hb
            cases b with
            | true =>
              have n1 : Hid (firstTo s.q s.st true (k + 1) = firstTo s.q s.st true k) := firstTo_no (by rw [hpt]; rfl)
              have n2 : Hid (firstTo s.q s.st false (k + 1) = firstTo s.q s.st false k) := firstTo_no (by rw [hpf]; rfl)
              clear hpt hpf
              go_wp2
              go_roundw
              case rel => exact ⟨k + 1, by omega, by go_num, by rw [n1.out], by rw [n2.out], by first | trivial | rfl⟩
              case measure => simp only [intOf]; omega
            | false =>
              cases hl : ltOne x with
              | true =>
                have n2 : Hid (firstTo s.q s.st false (k + 1) = firstTo s.q s.st false k) := firstTo_no (by rw [hpf, hl]; rfl)
                unfold ltOne flt at hl
                cases h1 : firstTo s.q s.st true k with
                | none =>
                  have n1 : Hid (firstTo s.q s.st true (k + 1) = some k) := firstTo_yes h1 (by rw [hpt]; unfold ltOne flt; rw [hl]; rfl)
                  clear hpt hpf h1
                  simp only [idxI]
                  go_wp2
                  go_roundw
                  case rel => exact ⟨k + 1, by omega, by go_num, by rw [n1.out], by rw [n2.out], by first | trivial | rfl⟩
                  case measure => simp only [intOf]; omega
                | some i =>
                  have n1 : Hid (firstTo s.q s.st true (k + 1) = some i) := firstTo_some h1
                  have hi0 : ¬ (i : Int) < 0 := by omega
                  clear hpt hpf h1
                  simp only [idxI]
                  go_wp2
                  go_roundw
                  case rel => exact ⟨k + 1, by omega, by go_num, by rw [n1.out], by rw [n2.out], by first | trivial | rfl⟩
                  case measure => simp only [intOf]; omega
              | false =>
                have n1 : Hid (firstTo s.q s.st true (k + 1) = firstTo s.q s.st true k) := firstTo_no (by rw [hpt, hl]; rfl)
                unfold ltOne flt at hl
                cases h1 : firstTo s.q s.st false k with
                | none =>
                  have n2 : Hid (firstTo s.q s.st false (k + 1) = some k) := firstTo_yes h1 (by rw [hpf]; unfold ltOne flt; rw [hl]; rfl)
                  clear hpt hpf h1
                  simp only [idxI]
                  go_wp2
                  go_roundw
                  case rel => exact ⟨k + 1, by omega, by go_num, by rw [n1.out], by rw [n2.out], by first | trivial | rfl⟩
                  case measure => simp only [intOf]; omega
                | some i =>
                  have n2 : Hid (firstTo s.q s.st false (k + 1) = some i) := firstTo_some h1
                  have hi0 : ¬ (i : Int) < 0 := by omega
                  clear hpt hpf h1
                  simp only [idxI]
                  go_wp2
                  go_roundw
                  case rel => exact ⟨k + 1, by omega, by go_num, by rw [n1.out], by rw [n2.out], by first | trivial | rfl⟩
                  case measure => simp only [intOf]; omega
          · obtain rfl : k = xs.length := by omega
            have ef : ∀ b, firstTo s.q s.st b xs.length = firstS s.q s.st b := fun b => by rw [← Hql.out]; rfl
            rw [ef, ef]
            clear ef
            cases h1 : firstS s.q s.st true with
            | none =>
              have hfin : Hid (s = doneS xs) := by show _ = _; rw [← Hrun.out, runS_stop (.inl h1)]
              clear h1
              rw [show idxI none = -1 from rfl]
              generalize idxI (firstS s.q s.st false) = zz
              go_wp2
              go_loopw [128] (fun i W => ∃ k : Nat, k ≤ xs.length ∧ i = .int .i64 k ∧ Ph w6 w.heap.size xs.length gq gv go gs cq cv co xs.length W { s with sh := lastSh s k }) (fun i _ => xs.length - (intOf i).toNat)
              case atStart => exact ⟨0, Nat.zero_le _, rfl, HP'.out⟩
              case round =>
                obtain ⟨k, hk, rfl, hP⟩ := hrel
                have HP := Lib.hid hP
                clear hP
                have hA6 := HA6.out.chg HP.out.chg (by omega)
                by_cases hlt : k < xs.length
                · have hlt' : (k : Int) < (xs.length : Int) := by omega
                  obtain ⟨b, hb⟩ : ∃ b, s.st[k]? = some b := ⟨_, List.getElem?_eq_getElem (by rw [Hok.out.st]; exact hlt)⟩
                  obtain ⟨hcs, _⟩ := HP.out.cellSt hb hlt
                  have hls : lastSh s (k + 1) = if b then lastSh s k else (lastSh s k).set k 1065353216 := by
                    conv => lhs; unfold lastSh
                    rw [getD_get hb]
                  clear hb
                  cases b with
                  | true =>
                    have HP2 : Hid (Ph w6 w.heap.size xs.length gq gv go gs cq cv co xs.length wr { s with sh := lastSh s (k + 1) }) := by rw [hls]; exact HP.out
                    clear hls hA6
                    go_wp2
                    go_roundw
                    case rel => exact ⟨k + 1, by omega, by go_num, HP2.out⟩
                    case measure => simp only [intOf]; omega
                  | false =>
                    obtain ⟨z, hz⟩ : ∃ z, (lastSh s k)[k]? = some z := ⟨_, List.getElem?_eq_getElem (by rw [lastSh_len, Hok.out.sh]; exact hlt)⟩
                    obtain ⟨hcz, hfz⟩ := HP.out.cellSh hz hlt
                    have HP2 : Hid (Ph w6 w.heap.size xs.length gq gv go gs cq cv co xs.length (wr.setCell ⟨gv, k, none⟩ (.float .f32 1065353216)) { s with sh := lastSh s (k + 1) }) := by rw [hls]; exact HP.out.setSh Hf.out k 1065353216
                    have c0 := hA6.c0
                    clear hls hz hA6
                    go_wp2
                    go_roundw
                    case rel => exact ⟨k + 1, by omega, by go_num, HP2.out⟩
                    case measure => simp only [intOf]; omega
                · obtain rfl : k = xs.length := by omega
                  have hA2 := HA2'.out.chg HP.out.chg (by omega)
                  have c0 := hA6.c0
                  have c1 := hA6.c1
                  have d0 := hA2.c0
                  have d1 := hA2.c1
                  have f0 := hA2.fz 0
                  have f1 := hA2.fz 1
                  have hbel := Below.chg HB6.out HP.out.chg (Nat.le_refl _) (fun q hq => by have := (Hlo.out); omega)
                  have hA3 := (hA2.set0 (.slice (some ⟨gv, 0, none⟩) xs.length cv)).set1 (.slice (some ⟨go, 0, none⟩) xs.length co)
                  have HA3 := Lib.hid hA3; have HBl := Lib.hid hbel
                  have Ls : (lastSh s xs.length).length = xs.length := (lastSh_len _ _).trans Hok.out.sh
                  have Lo : s.ot.length = xs.length := Hok.out.ot
                  have hOs : Own wr w.heap.size 40 (.slice (some ⟨gv, 0, none⟩) xs.length cv) (f32s (lastSh s xs.length)) := by unfold Own; rw [f32s_length, Ls]; exact HP.out.sh
                  have hOo : Own wr w.heap.size 2 (.slice (some ⟨go, 0, none⟩) xs.length co) (i64s s.ot) := by unfold Own; rw [i64s_length, Lo]; exact HP.out.ot
                  have HOs := Lib.hid hOs; have HOo := Lib.hid hOo
                  clear hA2 hA6 hbel hA3 Ls Lo hOs hOo
                  go_wp2
                  refine bodyPost_ret (results_al rfl _ rfl HA3.out) rfl ?_
                  have gne : ∀ {g c m : Nat}, g ≠ w.heap.size → (Value.slice (some ⟨g, 0, none⟩) m c).ownBlock ≠ some w.heap.size := fun h e => by injection e with e; exact h e
                  refine ⟨_, _, rfl, ?_, ?_, fun q hq hq' => ?_, (HBl.out.setCell (p := ⟨w.heap.size, 0, none⟩) (Nat.le_refl _) _).setCell (p := ⟨w.heap.size, 1, none⟩) (Nat.le_refl _) _⟩
                  · rw [← hfin.out]; exact own_set (own_set HOs.out (gne n2.1.2.1)) (gne n2.1.2.1)
                  · rw [← hfin.out]; exact own_set (own_set HOo.out (gne n2.1.2.2)) (gne n2.1.2.2)
                  · injection hq with hq
                    injection hq' with hq'
                    exact Hf.out.vo (hq.trans hq'.symm)
            | some i =>
              cases h2 : firstS s.q s.st false with
              | none =>
                have hfin : Hid (s = doneS xs) := by show _ = _; rw [← Hrun.out, runS_stop (.inr h2)]
                have hi0 : ¬ (i : Int) < 0 := by omega
                clear h1 h2
                simp only [idxI]
                go_wp2
                go_loopw [128] (fun i W => ∃ k : Nat, k ≤ xs.length ∧ i = .int .i64 k ∧ Ph w6 w.heap.size xs.length gq gv go gs cq cv co xs.length W { s with sh := lastSh s k }) (fun i _ => xs.length - (intOf i).toNat)
                case atStart => exact ⟨0, Nat.zero_le _, rfl, HP'.out⟩
                case round =>
                  obtain ⟨k, hk, rfl, hP⟩ := hrel
                  have HP := Lib.hid hP
                  clear hP
                  have hA6 := HA6.out.chg HP.out.chg (by omega)
                  by_cases hlt : k < xs.length
                  · have hlt' : (k : Int) < (xs.length : Int) := by omega
                    obtain ⟨b, hb⟩ : ∃ b, s.st[k]? = some b := ⟨_, List.getElem?_eq_getElem (by rw [Hok.out.st]; exact hlt)⟩
                    obtain ⟨hcs, _⟩ := HP.out.cellSt hb hlt
                    have hls : lastSh s (k + 1) = if b then lastSh s k else (lastSh s k).set k 1065353216 := by
                      conv => lhs; unfold lastSh
                      rw [getD_get hb]
                    clear hb
                    cases b with
                    | true =>
                      have HP2 : Hid (Ph w6 w.heap.size xs.length gq gv go gs cq cv co xs.length wr { s with sh := lastSh s (k + 1) }) := by rw [hls]; exact HP.out
                      clear hls hA6
                      go_wp2
                      go_roundw
                      case rel => exact ⟨k + 1, by omega, by go_num, HP2.out⟩
                      case measure => simp only [intOf]; omega
                    | false =>
                      obtain ⟨z, hz⟩ : ∃ z, (lastSh s k)[k]? = some z := ⟨_, List.getElem?_eq_getElem (by rw [lastSh_len, Hok.out.sh]; exact hlt)⟩
                      obtain ⟨hcz, hfz⟩ := HP.out.cellSh hz hlt
                      have HP2 : Hid (Ph w6 w.heap.size xs.length gq gv go gs cq cv co xs.length (wr.setCell ⟨gv, k, none⟩ (.float .f32 1065353216)) { s with sh := lastSh s (k + 1) }) := by rw [hls]; exact HP.out.setSh Hf.out k 1065353216
                      have c0 := hA6.c0
                      clear hls hz hA6
                      go_wp2
                      go_roundw
                      case rel => exact ⟨k + 1, by omega, by go_num, HP2.out⟩
                      case measure => simp only [intOf]; omega
                  · obtain rfl : k = xs.length := by omega
                    have hA2 := HA2'.out.chg HP.out.chg (by omega)
                    have c0 := hA6.c0
                    have c1 := hA6.c1
                    have d0 := hA2.c0
                    have d1 := hA2.c1
                    have f0 := hA2.fz 0
                    have f1 := hA2.fz 1
                    have hbel := Below.chg HB6.out HP.out.chg (Nat.le_refl _) (fun q hq => by have := (Hlo.out); omega)
                    have hA3 := (hA2.set0 (.slice (some ⟨gv, 0, none⟩) xs.length cv)).set1 (.slice (some ⟨go, 0, none⟩) xs.length co)
                    have HA3 := Lib.hid hA3; have HBl := Lib.hid hbel
                    have Ls : (lastSh s xs.length).length = xs.length := (lastSh_len _ _).trans Hok.out.sh
                    have Lo : s.ot.length = xs.length := Hok.out.ot
                    have hOs : Own wr w.heap.size 40 (.slice (some ⟨gv, 0, none⟩) xs.length cv) (f32s (lastSh s xs.length)) := by unfold Own; rw [f32s_length, Ls]; exact HP.out.sh
                    have hOo : Own wr w.heap.size 2 (.slice (some ⟨go, 0, none⟩) xs.length co) (i64s s.ot) := by unfold Own; rw [i64s_length, Lo]; exact HP.out.ot
                    have HOs := Lib.hid hOs; have HOo := Lib.hid hOo
                    clear hA2 hA6 hbel hA3 Ls Lo hOs hOo
                    go_wp2
                    refine bodyPost_ret (results_al rfl _ rfl HA3.out) rfl ?_
                    have gne : ∀ {g c m : Nat}, g ≠ w.heap.size → (Value.slice (some ⟨g, 0, none⟩) m c).ownBlock ≠ some w.heap.size := fun h e => by injection e with e; exact h e
                    refine ⟨_, _, rfl, ?_, ?_, fun q hq hq' => ?_, (HBl.out.setCell (p := ⟨w.heap.size, 0, none⟩) (Nat.le_refl _) _).setCell (p := ⟨w.heap.size, 1, none⟩) (Nat.le_refl _) _⟩
                    · rw [← hfin.out]; exact own_set (own_set HOs.out (gne n2.1.2.1)) (gne n2.1.2.1)
                    · rw [← hfin.out]; exact own_set (own_set HOo.out (gne n2.1.2.2)) (gne n2.1.2.2)
                    · injection hq with hq
                      injection hq' with hq'
                      exact Hf.out.vo (hq.trans hq'.symm)
              | some kk =>
                have g1 := firstS_get h1
                have g2 := firstS_get h2
                have p1 := pick_st (Hok.out.st.trans Hok.out.q.symm) g1.1 g1.2
                have p2 := pick_st (Hok.out.st.trans Hok.out.q.symm) g2.1 g2.2
                obtain ⟨f', rfl⟩ : ∃ f', f = f' + 1 := ⟨f - 1, by have := openN_set p1.1; have := Hop.out; omega⟩
                have Hrun2 : Hid (runS f' (stepS s i kk) = doneS xs) := by show _ = _; rw [← Hrun.out, runS_go h1 h2]
                have Hop2 : Hid (openN (stepS s i kk).st ≤ f') := by show openN (s.st.set i true) ≤ _; have := openN_set p1.1; have := Hop.out; omega
                have hil : i < xs.length := by rw [← Hql.out]; exact g1.1
                have hkl : kk < xs.length := by rw [← Hql.out]; exact g2.1
                have Hok2 := Lib.hid (Hok.out.step hil hkl p1.2 p2.2)
                have hil' : (i : Int) < (xs.length : Int) := by omega
                have hkl' : (kk : Int) < (xs.length : Int) := by omega
                have hi0 : ¬ (i : Int) < 0 := by omega
                have hk0 : ¬ (kk : Int) < 0 := by omega
                obtain ⟨x, hx⟩ : ∃ x, s.q[i]? = some x := ⟨_, List.getElem?_eq_getElem (by rw [Hok.out.q]; exact hil)⟩
                obtain ⟨y, hy⟩ : ∃ y, s.q[kk]? = some y := ⟨_, List.getElem?_eq_getElem (by rw [Hok.out.q]; exact hkl)⟩
                obtain ⟨y1, hy1⟩ : ∃ y1, fop .sub .f32 1065353216 x = y1 := ⟨_, rfl⟩
                obtain ⟨y2, hy2⟩ : ∃ y2, fop .sub .f32 y y1 = y2 := ⟨_, rfl⟩
                have o2 : isNaNB .f32 y2 = false := by
                  rw [← hy2, ← hy1]
                  exact (okQ_sub (Hok.out.okq i x hx) (by rw [← p1.2, getD_get hx]) (Hok.out.okq kk y hy) (by rw [← p2.2, getD_get hy])).not_nan
                have o1 : isNaNB .f32 y1 = false := by
                  have h3 := small_rn (Hok.out.okq i x hx) (by rw [← p1.2, getD_get hx])
                  have hone : Rn .f32 1065353216 1065353216 1065353216 := Rn.const (by decide +kernel)
                  have := Rn.sub (lo := 0) (hi := 1065353216) hone h3 (by decide +kernel)
                  rw [hy1] at this
                  exact FinK_not_nan this.1
                have hstep : Hid ({ s with q := s.q.set kk y2, st := s.st.set i true, sh := s.sh.set i x, ot := s.ot.set i (kk : Int) } = stepS s i kk) := by
                  show _ = _
                  unfold stepS
                  rw [getD_get hx, getD_get hy, hy1, hy2]
                have hs1 := fun (t : TypeId) (w : World) => run_fop_num (P := Try.prog) (op := .sub) hy1 o1 t w
                have hs2 := fun (t : TypeId) (w : World) => run_fop_num (P := Try.prog) (op := .sub) hy2 o2 t w
                obtain ⟨z, hz⟩ : ∃ z, s.sh[i]? = some z := ⟨_, List.getElem?_eq_getElem (by rw [Hok.out.sh]; exact hil)⟩
                obtain ⟨zo, hzo⟩ : ∃ z, s.ot[i]? = some z := ⟨_, List.getElem?_eq_getElem (by rw [Hok.out.ot]; exact hil)⟩
                have hA6 := HA6.out.chg HP'.out.chg (by omega)
                have c0 := hA6.c0
                obtain ⟨cq1, _⟩ := HP'.out.cellQ hx hil
                obtain ⟨csh, fsh⟩ := HP'.out.cellSh hz hil
                have HP7 := Lib.hid HP'.out.drew
                have Hx := Lib.hid hx; have Hy := Lib.hid hy
                have Hs1 := Lib.hid hs1; have Hs2 := Lib.hid hs2
                have Hz := Lib.hid hz; have Hzo := Lib.hid hzo; have Hp1 := Lib.hid p1.1
                clear h1 h2 g1 g2 p1 p2 hA6 hx hy hz hzo hy1 hy2 o1 o2 hs1 hs2
                simp only [idxI]
                go_wp2_with fail
                go_still_tail 8, (by kernel_rfl)
                change wpList _ _ _ _ _ wr.drew
                generalize wr.drew = w7 at HP7 ⊢
                clear c0 cq1 csh fsh
                obtain ⟨csh, fsh⟩ := HP7.out.cellSh Hz.out hil
                have HPa := Lib.hid (HP7.out.setSh Hf.out i x)
                have HPb := Lib.hid (HPa.out.setOt Hf.out i (kk : Int))
                have HPc := Lib.hid (HPb.out.setSt Hf.out i true)
                have c1a := (HA6.out.chg HPa.out.chg (by omega)).c1
                obtain ⟨cot, fot⟩ := HPa.out.cellOt Hzo.out hil
                obtain ⟨cst, fst⟩ := HPb.out.cellSt Hp1.out hil
                go_wp2_with fail
                generalize ((w7.setCell ⟨gv, i, none⟩ (.float .f32 x)).setCell ⟨go, i, none⟩ (.int .i64 (kk : Int))).setCell ⟨gs, i, none⟩ (.bool true) = w8 at HPc ⊢
                clear csh fsh c1a cot fot cst fst HPa HPb HP7
                obtain ⟨cq1, _⟩ := HPc.out.cellQ Hx.out hil
                obtain ⟨cq2, fq2⟩ := HPc.out.cellQ Hy.out hkl
                have hs1 := Hs1.out
                have hs2 := Hs2.out
                have HPd := Lib.hid (HPc.out.drew.setQ Hf.out kk y2)
                clear HPc
                go_still_tail 13, (by kernel_rfl)
                change wpList _ _ _ _ _ w8.drew
                go_wp2
                go_roundg f'
                case measure => omega
                case rel => exact ⟨stepS s i kk, f', Nat.le_refl _, Hok2.out, Hop2.out, Hrun2.out, by rw [← hstep.out]; exact HPd.out⟩
end Go.Proofs.Ytgemcjcghnpmdaa
