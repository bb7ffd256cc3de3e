/- SpreadPoints: points with turned digits in two bases. -/
import Derived.Test.YticenfholnencaaTurned
import Derived.Test.YticenfholnencaaComplexM
import Derived.Test.YticenfholnencaaRange
namespace Go.Proofs.Yticenfholnencaa
open Go.RowKit
theorem own_newC (w : World) {base : Nat} (hb : base ≤ w.heap.size) : Own (w.alloc (.cells #[] 76)) base 76 (.slice (some ⟨w.heap.size, 0, none⟩) 0 0) (c64s []) := own_new w _ hb
/-- One number more behind an owned list. -/
theorem emitC (w0 : World) {ops : Array Oper} {rest : List Oper} {o : Oper} {a : Act} {Q : Exit → Act → World → Prop} (hgd : o.guard = none) (s x : Operand)
    (ho : o.op = .call { callee := .builtin .append, args := #[s, x], argTypes := #[32, 32] })
    (base : Nat) (v : Value) (xs : List (Nat × Nat)) (hs : a.eval s = v) (hown : Own w0 base 76 v (c64s xs)) (u : Nat × Nat) (hx : a.eval x = .slice (some ⟨w0.heap.size, 0, none⟩) 1 1)
    (h63 : xs.length ≤ 2000000) (hbase : base ≤ w0.heap.size)
    (h : ∀ v' w', Own w' base 76 v' (c64s (xs ++ [u])) → w0.grownBy w' v.ownBlock → wpList Try.prog ops Q rest (a.put o.dst v') w') : wpList Try.prog ops Q (o :: rest) a (w0.alloc (.cells #[.complex .f32 u.1 u.2] 76)) := by
  obtain ⟨i0, hi0, hz0, hz1, hz2⟩ := info_parts info_c64
  have hown' : w0.ownsRow base 76 1 v xs.length (c64s xs) := by have := hown; unfold Own at this; rwa [c64s_length] at this
  obtain ⟨v', w', hrun, h2, h3, _, h5⟩ := run_append_own_at (P := Try.prog) (w0.alloc (.cells #[.complex .f32 u.1 u.2] 76)) base 32 o.type 76 i0 (.complex .f32 0 0) 1 8 Try.underlying32 hi0 hz0 hz1 hz2 rfl (by decide) v xs.length (c64s xs) (hown'.alloc _) ⟨w0.heap.size, 0, none⟩ 1 1 [.complex .f32 u.1 u.2] rfl (one_cell _ _ _) (one_one _ rfl) (by unfold maxLen; omega) (by omega) (by simp; omega)
  refine wpList_plain hgd fun _ hK => ?_
  unfold Oper.wp execOp
  simp only [ho, resolve, invoke, builtin, Sem.run_bind, Sem.run_pure, Result.andThen_ok, List.map_toArray, List.map_cons, List.map_nil, hs, hx, hrun]
  refine hK _ _ (h v' w' ?_ (grown_trans' (World.grownBy_alloc w0 _ _) h3))
  unfold Own
  rw [c64s_snoc, List.length_append, c64s_length]
  exact h2
theorem rd_newI (w : World) (xs : List Int) (e : TypeId) : Rd (w.alloc (.cells (i64s xs).toArray e)) (w.heap.size + 1) (some ⟨w.heap.size, 0, none⟩) xs.length (i64s xs) := by
  refine ⟨i64s_length xs, fun _ => ⟨w.heap.size, 0, rfl, by omega, fun j u hu => ?_⟩⟩
  rw [Nat.zero_add, cell_of_row _ _ j _ e (0, 0) (heap_alloc_new w _)]
  simpa using hu
def spreadP (n : Int) : Nat × Nat := (turnV n 2 [0, 1], turnV n 3 [0, 1, 2])
def spreadL (from' : Int) (k : Nat) : List (Nat × Nat) := (List.range k).map fun (i : Nat) => spreadP (from' + i)
theorem spreadL_len (f : Int) (k : Nat) : (spreadL f k).length = k := by simp [spreadL]
theorem spreadL_succ (f : Int) (k : Nat) : spreadL f (k + 1) = spreadL f k ++ [spreadP (f + k)] := by simp [spreadL, List.range_succ]
def spread (f c : Int) : Option (List (Nat × Nat)) := if inB f 0 65000 && inB c 0 256 then some (spreadL f c.toNat) else none
/-- A new list of complex numbers and whether there is one. -/
def GaveCB (w : World) (r : Option (List (Nat × Nat))) (e : Ending) (w' : World) : Prop :=
  ∃ (v : Value) (ok : Bool) (xs : List (Nat × Nat)), e = .returned (.tuple #[v, .bool ok]) ∧ Hid (ok = r.isSome) ∧ Hid (xs.map cn2 = r.getD []) ∧ Own w' w.heap.size 76 v (c64s xs) ∧ Below w.heap.size w w'
def FnNN_CB (f : Nat) (r : Int → Int → Option (List (Nat × Nat))) : Prop :=
  ∀ (n k : Int) (w : World), (-9223372036854775808 ≤ n ∧ n ≤ 9223372036854775807) → (-9223372036854775808 ≤ k ∧ k ≤ 9223372036854775807) → Calls Try.prog f #[.int .i64 n, .int .i64 k] w (GaveCB w (r n k))
theorem gaveCB_none {w w' : World} {r : Option (List (Nat × Nat))} (h : r = none) (hb : Below w.heap.size w w') : GaveCB w r (.returned (.tuple #[.slice none 0 0, .bool false])) w' := by
  subst h
  exact ⟨_, false, [], rfl, rfl, rfl, own_none _ _ _, hb⟩
theorem below_both {w w1 : World} {B : Nat} (h : Below B w w1) (hB : B ≤ w1.heap.size) (o : Obj) (q : Nat) : Below B w ((w1.alloc o).drewN q) := below_drewN (h.alloc hB o) q
set_option maxRecDepth 100000 in
set_option maxHeartbeats 1000000 in
theorem implSpread : FnNN_CB 21 spread := by
  intro f c w hf hc
  go_enter Try.func21, Try.ntmps21
  go_wp2_with fail
  refine (within_any _ _ _ _).mono ?_
  rintro e w1 ⟨rfl, rfl⟩
  cases h1 : inB f 0 65000 with
  | false =>
    have Hn : Hid (spread f c = none) := by show _ = _; simp [spread, h1]
    clear h1
    go_wp2
    go_ret2
    exact gaveCB_none Hn.out (Below.refl _ _)
  | true =>
    have H1 := Lib.hid h1
    have hf1 := inB_true h1
    clear h1
    go_wp2_with fail
    refine (within_any _ _ _ _).mono ?_
    rintro e w1 ⟨rfl, rfl⟩
    cases h2 : inB c 0 256 with
    | false =>
      have Hn : Hid (spread f c = none) := by show _ = _; simp [spread, h2]
      clear h2
      go_wp2
      go_ret2
      exact gaveCB_none Hn.out (Below.refl _ _)
    | true =>
      have hc1 := inB_true h2
      have Hn : Hid (spread f c = some (spreadL f c.toNat)) := by show _ = _; simp [spread, h2, H1.out]
      obtain ⟨cc, rfl⟩ : ∃ cc : Nat, c = (cc : Int) := ⟨c.toNat, by omega⟩
      rw [Int.toNat_natCast] at Hn
      clear h2 hf hc
      go_wp2
      go_loopw [6, 7] (fun v i wr => ∃ (k : Nat) (ol : List (Nat × Nat)), k ≤ cc ∧ i = .int .i64 (f + k) ∧ Hid (ol.map cn2 = spreadL f k) ∧ Hid (ol.length = k) ∧ Own wr w.heap.size 76 v (c64s ol) ∧ Below w.heap.size w wr) (fun _ i _ => (f + cc - intOf i).toNat)
      case atStart => exact ⟨0, [], Nat.zero_le _, by simp, rfl, rfl, own_newC w (Nat.le_refl _), (Below.refl _ _).alloc (Nat.le_refl _) _⟩
      case round =>
        obtain ⟨k, ol, hk, rfl, hmap, hol, hO, hbel⟩ := hrel
        have HO := Lib.hid hO; have HB := Lib.hid hbel
        clear hO hbel
        by_cases hlt : k < cc
        · have hlt' : f + (k : Int) < f + (cc : Int) := by omega
          have hle : w.heap.size ≤ wr.heap.size := HB.out.size
          go_wp2_with fail
          refine (implTurned_any (f + k) 2 _ 2 2 _ [0, 1] _ (by omega) (by omega) rfl (by exact rd_newI wr [0, 1] 2)).mono ?_
          rintro e w2 ⟨r1, rfl, hr1, q1, rfl⟩
          go_wp2_with fail
          have hrd3 := rd_newI ((wr.alloc (.cells #[.int .i64 0, .int .i64 1] 2)).drewN q1) [0, 1, 2] 2
          have esz : ((wr.alloc (.cells #[.int .i64 0, .int .i64 1] 2)).drewN q1).heap.size = wr.heap.size + 1 := by show (wr.heap.push _).size = _; simp
          rw [esz] at hrd3
          refine (implTurned_any (f + k) 3 _ 3 3 _ [0, 1, 2] _ (by omega) (by omega) rfl (by exact hrd3)).mono ?_
          clear hrd3 esz
          rintro e w3 ⟨r2, rfl, hr2, q2, rfl⟩
          have hb0 : Below wr.heap.size wr ((((wr.alloc (.cells #[.int .i64 0, .int .i64 1] 2)).drewN q1).alloc (.cells #[.int .i64 0, .int .i64 1, .int .i64 2] 2)).drewN q2) := below_both (below_both (Below.refl _ _) (Nat.le_refl _) _ q1) (by show wr.heap.size ≤ (wr.alloc _).heap.size; rw [World.size_alloc]; omega) _ q2
          have HO3 := Lib.hid (HO.out.below hb0 (Nat.le_refl _))
          have HB3 := Lib.hid (HB.out.trans (hb0.mono hle))
          have hle3 := HB3.out.size
          generalize ((((wr.alloc (.cells #[.int .i64 0, .int .i64 1] 2)).drewN q1).alloc (.cells #[.int .i64 0, .int .i64 1, .int .i64 2] 2)).drewN q2) = w4 at hb0 HO3 HB3 hle3 ⊢
          clear hb0
          go_wp2_with (at_builtin; go_must (refine emitC w4 rfl _ _ rfl w.heap.size u6 ol rfl HO3.out (r1, r2) rfl ?c1 hle3 ?_))
          case c1 => have := hol.out; omega
          intro v' w5 hO' hgr
          have HB5 := Lib.hid (below_ownGrown HB3.out HO3.out hgr (Nat.le_refl _) (Nat.le_refl _))
          have HO5 := Lib.hid hO'
          have hm2 : Hid ((ol ++ [(r1, r2)]).map cn2 = spreadL f (k + 1)) := by
            show _ = _
            rw [List.map_append, hmap.out, spreadL_succ]
            congr 1
            show [(cn .f32 r1, cn .f32 r2)] = _
            rw [hr1.out, hr2.out]
            rfl
          clear hO' hgr
          go_wp2
          go_roundw
          case rel => exact ⟨k + 1, ol ++ [(r1, r2)], by omega, by go_num, hm2, by show _ = _; rw [List.length_append, hol.out]; rfl, HO5.out, HB5.out⟩
          case measure => simp only [intOf]; omega
        · obtain rfl : k = cc := by omega
          have hge : ¬ f + (k : Int) < f + (k : Int) := by omega
          go_wp2
          go_ret2
          exact ⟨_, true, ol, rfl, by rw [Hn.out]; rfl, by rw [Hn.out]; exact hmap.out, HO.out, HB.out⟩
set_option maxRecDepth 100000 in
set_option maxHeartbeats 1000000 in
theorem specSpread : FnNN_CB 20 spread := by
  intro f c w hf hc
  go_enter Try.func20, Try.ntmps20
  go_wp2_with fail
  refine (l00In_any _ _ _ _).mono ?_
  rintro e w1 ⟨rfl, rfl⟩
  cases h1 : inB f 0 65000 with
  | false =>
    have Hn : Hid (spread f c = none) := by show _ = _; simp [spread, h1]
    clear h1
    go_wp2
    go_ret2
    exact gaveCB_none Hn.out (Below.refl _ _)
  | true =>
    have H1 := Lib.hid h1
    have hf1 := inB_true h1
    clear h1
    go_wp2_with fail
    refine (l00In_any _ _ _ _).mono ?_
    rintro e w1 ⟨rfl, rfl⟩
    cases h2 : inB c 0 256 with
    | false =>
      have Hn : Hid (spread f c = none) := by show _ = _; simp [spread, h2]
      clear h2
      go_wp2
      go_ret2
      exact gaveCB_none Hn.out (Below.refl _ _)
    | true =>
      have hc1 := inB_true h2
      have Hn : Hid (spread f c = some (spreadL f c.toNat)) := by show _ = _; simp [spread, h2, H1.out]
      obtain ⟨cc, rfl⟩ : ∃ cc : Nat, c = (cc : Int) := ⟨c.toNat, by omega⟩
      rw [Int.toNat_natCast] at Hn
      clear h2 hf hc
      go_wp2
      go_loopw [6, 7] (fun v i wr => ∃ (k : Nat) (ol : List (Nat × Nat)), k ≤ cc ∧ i = .int .i64 (f + k) ∧ Hid (ol.map cn2 = spreadL f k) ∧ Hid (ol.length = k) ∧ Own wr w.heap.size 76 v (c64s ol) ∧ Below w.heap.size w wr) (fun _ i _ => (f + cc - intOf i).toNat)
      case atStart => exact ⟨0, [], Nat.zero_le _, by simp, rfl, rfl, own_newC w (Nat.le_refl _), (Below.refl _ _).alloc (Nat.le_refl _) _⟩
      case round =>
        obtain ⟨k, ol, hk, rfl, hmap, hol, hO, hbel⟩ := hrel
        have HO := Lib.hid hO; have HB := Lib.hid hbel
        clear hO hbel
        by_cases hlt : k < cc
        · have hlt' : f + (k : Int) < f + (cc : Int) := by omega
          have hle : w.heap.size ≤ wr.heap.size := HB.out.size
          go_wp2_with fail
          refine (l04All_any 2 _ (by omega)).mono ?_
          rintro e wa ⟨va, rfl, ha, hba⟩
          obtain ⟨Aa, ca, rfl, _⟩ := ha.shapeI
          have HA := Lib.hid ha.rdI
          have HO1 := Lib.hid (HO.out.below hba (Nat.le_refl _))
          have HB1 := Lib.hid (HB.out.trans (hba.mono hle))
          have hle1 := HB1.out.size
          clear ha hba
          go_wp2_with fail
          refine (specTurned_any (f + k) 2 Aa _ ca _ [0, 1] _ (by omega) (by omega) rfl (by exact HA.out)).mono ?_
          rintro e w2 ⟨r1, rfl, hr1, q1, rfl⟩
          go_wp2_with fail
          refine (l04All_any 3 _ (by omega)).mono ?_
          rintro e wb ⟨vb, rfl, ha, hba⟩
          obtain ⟨Ab, cb, rfl, _⟩ := ha.shapeI
          have HA2 := Lib.hid ha.rdI
          have HO2 := Lib.hid ((HO1.out.drewN q1).below hba (Nat.le_refl _))
          have HB2 := Lib.hid ((below_drewN HB1.out q1).trans (hba.mono hle1))
          have hle2 := HB2.out.size
          clear ha hba HA
          go_wp2_with fail
          refine (specTurned_any (f + k) 3 Ab _ cb _ [0, 1, 2] _ (by omega) (by omega) rfl (by exact HA2.out)).mono ?_
          rintro e w3 ⟨r2, rfl, hr2, q2, rfl⟩
          have HO3 := Lib.hid (HO2.out.drewN q2)
          have HB3 := Lib.hid (below_drewN HB2.out q2)
          have hle3 := HB3.out.size
          generalize wb.drewN q2 = w4 at HO3 HB3 hle3 ⊢
          clear HA2 HO2 HB2 HO1 HB1
          go_wp2_with (at_builtin; go_must (refine emitC w4 rfl _ _ rfl w.heap.size u6 ol rfl HO3.out (r1, r2) rfl ?c1 hle3 ?_))
          case c1 => have := hol.out; omega
          intro v' w5 hO' hgr
          have HB5 := Lib.hid (below_ownGrown HB3.out HO3.out hgr (Nat.le_refl _) (Nat.le_refl _))
          have HO5 := Lib.hid hO'
          have hm2 : Hid ((ol ++ [(r1, r2)]).map cn2 = spreadL f (k + 1)) := by
            show _ = _
            rw [List.map_append, hmap.out, spreadL_succ]
            congr 1
            show [(cn .f32 r1, cn .f32 r2)] = _
            rw [hr1.out, hr2.out]
            rfl
          clear hO' hgr
          go_wp2
          go_roundw
          case rel => exact ⟨k + 1, ol ++ [(r1, r2)], by omega, by go_num, hm2, by show _ = _; rw [List.length_append, hol.out]; rfl, HO5.out, HB5.out⟩
          case measure => simp only [intOf]; omega
        · obtain rfl : k = cc := by omega
          have hge : ¬ f + (k : Int) < f + (k : Int) := by omega
          go_wp2
          go_ret2
          exact ⟨_, true, ol, rfl, by rw [Hn.out]; rfl, by rw [Hn.out]; exact hmap.out, HO.out, HB.out⟩
end Go.Proofs.Yticenfholnencaa
