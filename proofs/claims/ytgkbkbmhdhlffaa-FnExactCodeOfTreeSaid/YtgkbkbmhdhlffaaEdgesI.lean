/- Lists of edges: the program's side. -/
import Derived.Test.YtgkbkbmhdhlffaaEdges
import Derived.Test.YtgkbkbmhdhlffaaQuietR
namespace Go.Proofs.Ytgkbkbmhdhlffaa
open Go.RowKit Go.Shelf
attribute [local go_sem] Oper.semAt_some
set_option maxRecDepth 100000
/-- Whether pairs that came, the last first, are edges in order. -/
def allOkR (k0 : Int) (xs : List Int) {m : Nat} : List (Fin m) → Bool
  | [] => true
  | x :: r => edgeOk k0 (r.head?.map fun y => edgeAt xs y.1) (edgeAt xs x.1) && allOkR k0 xs r
theorem allOkR_take {k0 : Int} {xs : List Int} {m : Nat} : ∀ k, k ≤ m → (allOkR k0 xs ((List.finRange m).take k).reverse = true ↔ ∀ j, j < k → okAt k0 xs j = true)
  | 0, _ => by simp [allOkR]
  | k + 1, hk => by
    have ih := allOkR_take (k0 := k0) (xs := xs) (m := m) k (by omega)
    rw [take_fin (show k < m by omega), List.reverse_append, List.reverse_singleton, List.singleton_append, allOkR, Bool.and_eq_true, ih]
    have hb : (((List.finRange m).take k).reverse.head?.map fun y => edgeAt xs y.1) = edgeBefore xs k := by
      cases k with
      | zero => simp [edgeBefore]
      | succ k => rw [take_fin (show k < m by omega)]; simp [edgeBefore]
    rw [hb]
    constructor
    · rintro ⟨a, b⟩ j hj
      by_cases hjk : j < k
      · exact b j hjk
      · obtain rfl : j = k := by omega
        exact a
    · intro h
      exact ⟨h k (by omega), fun j hj => h j (by omega)⟩
/-- What lies in the variable 'before'. -/
def prevV (g b off : Nat) {m : Nat} : Option (Fin m) → Value
  | none => .slice (some ⟨g, 0, none⟩) 0 0
  | some x => .slice (some ⟨b, off + 2 * x.1, none⟩) 2 2
theorem cmpL_pairs (u1 u2 v1 v2 : Int) : cmpL [u1, u2] [v1, v2] = if lexB (some (u1, u2)) (v1, v2) then -1 else if u1 = v1 ∧ u2 = v2 then 0 else 1 := by
  simp only [cmpL, lexB]
  by_cases a : u1 < v1
  · simp [a]
  · by_cases b : v1 < u1
    · have : ¬ u1 = v1 := by omega
      simp [a, b, this]
    · obtain rfl : u1 = v1 := by omega
      by_cases c : u2 < v2
      · simp [c]
      · by_cases d : v2 < u2
        · have : ¬ u2 = v2 := by omega
          simp [c, d, this]
        · obtain rfl : u2 = v2 := by omega
          simp
theorem cmpS_q {Ap : Option Addr} {np cp b o2 r B : Nat} {ps : List Int} {v1 v2 g : Int} {W : World} (hp : Rd W B Ap np (i64s ps)) (hv : Rd W B (some ⟨b, o2, none⟩) 2 (i64s [v1, v2])) (hn : np ≤ 2) (hg : g = cmpL ps [v1, v2]) (k : Nat) :
    CallsIn Fence.wide r Try.prog 47 #[.slice Ap np cp, .slice (some ⟨b, o2, none⟩) 2 2] (W.drewN k) fun e w'' => e = .returned (.int .i64 g) ∧ ∃ m, w'' = W.drewN m :=
  callsIn_wide.2 ((cmpS_any Ap (some ⟨b, o2, none⟩) np 2 cp 2 B B ps [v1, v2] (W.drewN k) (hp.drewN k) (hv.drewN k) (by omega) (by omega)).mono fun e w' ⟨he, hw⟩ => ⟨by rw [he, hg], k, hw⟩)
set_option maxHeartbeats 4000000 in
theorem implAreEdges : FnLN_B 30 areEdges := by
  intro A n c B xs k0 w h hB hn hf hcap hk0
  have hl := h.lenI
  obtain rfl : xs.length = n := hl.out
  have hmod : Int.tmod (xs.length : Int) 2 = ((xs.length % 2 : Nat) : Int) := by rw [Int.tmod_eq_emod_of_nonneg (by omega)]; omega
  clear hl
  refine (callsIn_wide (n := 3)).1 ?_
  refine callsIn_of_wp_marks Try.func30 rfl trivial ?_ rfl
  simp only [Try.ntmps30, List.size_toArray, List.length_cons, List.length_nil, Nat.reduceAdd, Nat.reduceSub, Array.replicate_succ, Array.replicate_zero, List.push_toArray, List.append_toArray, List.nil_append, List.cons_append]
  by_cases h1 : inB k0 1 64 = true
  · obtain ⟨h1a, h1b⟩ := inB_true h1
    by_cases h2 : xs.length % 2 = 0
    · by_cases h3 : xs.length ≤ 512
      · have h3' : (xs.length : Int) ≤ 512 := by omega
        rw [h2] at hmod
        gi_wp2_with (refine ⟨trivial, ?_⟩; first
          | (gi_at_call 45; refine (callsIn_wide.2 (isSize_any _ _)).mono ?_; rintro e w' ⟨rfl, rfl⟩; rw [h1])
          | (gi_at_call 46; refine (callsIn_wide.2 (chunk_any _ _ _ _)).mono ?_; rintro e w' ⟨rfl, rfl⟩))
        obtain ⟨m, hm⟩ : ∃ m, xs.length = 2 * m := ⟨xs.length / 2, by omega⟩
        obtain ⟨b, off, hA⟩ : ∃ b off : Nat, 0 < m → A = some ⟨b, off, none⟩ ∧ b < B ∧ ∀ j, j < xs.length → w.cell? ⟨b, off + j, none⟩ = some (.int .i64 (xs.getD j 0)) := by
          by_cases hm0 : 0 < m
          · obtain ⟨b, off, rfl, hb, hc⟩ := h.2 (by omega)
            refine ⟨b, off, fun _ => ⟨rfl, hb, fun j hj => hc j _ ?_⟩⟩
            simp [i64s, List.getD_eq_getElem?_getD, hj]
          · exact ⟨0, 0, fun h => absurd h hm0⟩
        obtain ⟨W1, hW1⟩ : ∃ W1, W1 = ((((((w.alloc (.cells #[.int .i64 k0] 2)).alloc (.cells #[.bool false] 4)).alloc (.cells #[] 2)).alloc (.cells #[.slice (some ⟨w.heap.size + 1 + 1, 0, none⟩) 0 0] 22)).alloc (.cells #[.slice A xs.length c] 22)).alloc (.cells #[.int .i64 2] 3)) := ⟨_, rfl⟩
        rw [← hW1]
        have hsz : W1.heap.size = w.heap.size + 6 := by rw [hW1]; simp
        have bN : Boxed W1 w.heap.size 2 (.int .i64 k0) := by rw [hW1]; exact (((((Boxed.new w _ _).alloc _).alloc _).alloc _).alloc _).alloc _
        have bR : Boxed W1 (w.heap.size + 1) 4 (.bool false) := by
          have := ((((Boxed.new (w.alloc (.cells #[.int .i64 k0] 2)) 4 (.bool false)).alloc (.cells #[] 2)).alloc (.cells #[.slice (some ⟨w.heap.size + 1 + 1, 0, none⟩) 0 0] 22)).alloc (.cells #[.slice A xs.length c] 22)).alloc (.cells #[.int .i64 2] 3)
          rw [World.size_alloc] at this
          rw [hW1]; exact this
        have bP : Boxed W1 (w.heap.size + 1 + 1 + 1) 22 (.slice (some ⟨w.heap.size + 1 + 1, 0, none⟩) 0 0) := by
          have := ((Boxed.new (((w.alloc (.cells #[.int .i64 k0] 2)).alloc (.cells #[.bool false] 4)).alloc (.cells #[] 2)) 22 (.slice (some ⟨w.heap.size + 1 + 1, 0, none⟩) 0 0)).alloc (.cells #[.slice A xs.length c] 22)).alloc (.cells #[.int .i64 2] 3)
          rw [World.size_alloc, World.size_alloc, World.size_alloc] at this
          rw [hW1]; exact this
        have bS : Boxed W1 (w.heap.size + 1 + 1 + 1 + 1) 22 (.slice A xs.length c) := by
          have := (Boxed.new ((((w.alloc (.cells #[.int .i64 k0] 2)).alloc (.cells #[.bool false] 4)).alloc (.cells #[] 2)).alloc (.cells #[.slice (some ⟨w.heap.size + 1 + 1, 0, none⟩) 0 0] 22)) 22 (.slice A xs.length c)).alloc (.cells #[.int .i64 2] 3)
          rw [World.size_alloc, World.size_alloc, World.size_alloc, World.size_alloc] at this
          rw [hW1]; exact this
        have bT : Boxed W1 (w.heap.size + 1 + 1 + 1 + 1 + 1) 3 (.int .i64 2) := by
          have := Boxed.new (((((w.alloc (.cells #[.int .i64 k0] 2)).alloc (.cells #[.bool false] 4)).alloc (.cells #[] 2)).alloc (.cells #[.slice (some ⟨w.heap.size + 1 + 1, 0, none⟩) 0 0] 22)).alloc (.cells #[.slice A xs.length c] 22)) 3 (.int .i64 2)
          rw [World.size_alloc, World.size_alloc, World.size_alloc, World.size_alloc, World.size_alloc] at this
          rw [hW1]; exact this
        have hB1 : Below w.heap.size w W1 := by
          rw [hW1]
          exact ((((((Below.refl _ w).alloc (Nat.le_refl _) _).alloc (by simp) _).alloc (by simp; omega) _).alloc (by simp; omega) _).alloc (by simp; omega) _).alloc (by simp; omega) _
        have Hm := Lib.hid hm
        clear hW1 hm
        have hkp : ∀ (X Y : World) (k : Nat), (∀ k, k < W1.heap.size → k ≠ w.heap.size + 1 → k ≠ w.heap.size + 1 + 1 + 1 → Y.heap[k]? = X.heap[k]?) → k < W1.heap.size → k ≠ w.heap.size + 1 → k ≠ w.heap.size + 1 + 1 + 1 → Y.cell? ⟨k, 0, none⟩ = X.cell? ⟨k, 0, none⟩ := by
          intro X Y k h a b c
          unfold World.cell?
          rw [h k a b c]
        refine wpIn_rangeFunc_ownG (F := Fence.wide) rfl (by omega) (gf := 63) (lb := #[.pointer (some ⟨w.heap.size + 1 + 1 + 1 + 1, 0, none⟩), .pointer (some ⟨w.heap.size + 1 + 1 + 1 + 1 + 1, 0, none⟩)]) rfl trivial (enters_of Try.func63 (by kernel_rfl) rfl)
          (chunk_stops 2 (by omega) A (w.heap.size + 1 + 1 + 1 + 1) (w.heap.size + 1 + 1 + 1 + 1 + 1) b off xs.length m c (fun h => (hA h).1)
            (fun X Y => ∀ k, k < W1.heap.size → k ≠ w.heap.size + 1 → k ≠ w.heap.size + 1 + 1 + 1 → Y.heap[k]? = X.heap[k]?)
            (fun X Y h => hkp X Y _ h (by omega) (by omega) (by omega)) (fun X Y h => hkp X Y _ h (by omega) (by omega) (by omega)) Hm.out (by have := Hm.out; omega) hcap.1 hcap.2 W1 (by omega) (by omega) bS.cell bT.cell)
          (fun h1 h2 k a b c => (h2 k a b c).trans (h1 k a b c)) (fun W l o o' hle hl _ _ k hk _ _ => World.putObj_heap_other (by omega)) (Below.refl _ _) (fun _ => rfl)
          (fun pre W => (Boxed W w.heap.size 2 (.int .i64 k0) ∧ Boxed W (w.heap.size + 1) 4 (.bool false) ∧ Boxed W (w.heap.size + 1 + 1 + 1) 22 (prevV (w.heap.size + 1 + 1) b off pre.reverse.head?)) ∧ allOkR k0 xs pre.reverse = true ∧ Below w.heap.size w W)
          (fun cd pre W => cd = .ret ∧ allOkR k0 xs pre.reverse = false ∧ Boxed W (w.heap.size + 1) 4 (.bool false) ∧ Below w.heap.size w W)
          (fun pre W W' row hI hg hr => ⟨⟨hI.1.1.kept hg (fun e => by have := (hr _ e.symm).1; omega), hI.1.2.1.kept hg (fun e => by have := (hr _ e.symm).1; omega), hI.1.2.2.kept hg (fun e => by have := (hr _ e.symm).1; omega)⟩, hI.2.1, hI.2.2.grown hg hI.2.2.size (fun k e => by have := (hr k e).1; omega)⟩)
          (fun cd pre W W' row hI hg hr => ⟨hI.1, hI.2.1, hI.2.2.1.kept hg (fun e => by have := (hr _ e.symm).1; omega), hI.2.2.2.grown hg hI.2.2.2.size (fun k e => by have := (hr k e).1; omega)⟩)
          ⟨⟨bN, bR, bP⟩, rfl, hB1⟩
          (fun x => { tmps := #[.slice A xs.length c, .int .i64 k0, undef, .pointer (some ⟨w.heap.size, 0, none⟩), .pointer (some ⟨w.heap.size + 1, 0, none⟩), .pointer (some ⟨w.heap.size + 1 + 1 + 1, 0, none⟩), .slice (some ⟨b, off + 2 * x.1, none⟩) 2 2, .int .i64 k0, .bool true, .bool false, .bool false, .slice A xs.length c, .int .i64 xs.length, .int .i64 0, .bool false, .bool false, .bool false, .slice A xs.length c, .int .i64 xs.length, .bool (decide (512 < (xs.length : Int))), .bool (decide (512 < (xs.length : Int))), .slice (some ⟨w.heap.size + 1 + 1, 0, none⟩) 0 0, .slice A xs.length c, .func (.func 63) #[] #[.pointer (some ⟨w.heap.size + 1 + 1 + 1 + 1, 0, none⟩), .pointer (some ⟨w.heap.size + 1 + 1 + 1 + 1 + 1, 0, none⟩)], .slice (some ⟨b, off + 2 * x.1, none⟩) 2 2, undef, undef, undef, undef, undef, undef, undef, undef, undef, undef, undef, undef, undef, undef, undef, undef, undef, undef, undef, undef, undef, undef, undef, undef, undef, undef, undef], defers := [] }) ?assign ?body ?done ?stop
        case assign =>
          intro l x W K hK
          gi_wp2
          exact hK
        case body =>
          rintro l pre x W ⟨⟨hN, hR, hP⟩, hok, hBW⟩ hlt
          obtain ⟨rfl, hbB, hcs⟩ := hA (Nat.lt_of_le_of_lt (Nat.zero_le _) x.2)
          have hx2 := x.2
          have hc1 : W.cell? ⟨b, off + 2 * x.1, none⟩ = some (.int .i64 (edgeAt xs x.1).1) := (hBW.cell (p := ⟨b, off + 2 * x.1, none⟩) (by simp; omega)).trans (hcs _ (by have := Hm.out; omega))
          have hc2 : W.cell? ⟨b, off + 2 * x.1 + 1, none⟩ = some (.int .i64 (edgeAt xs x.1).2) := (hBW.cell (p := ⟨b, off + 2 * x.1 + 1, none⟩) (by simp; omega)).trans (hcs (2 * x.1 + 1) (by have := Hm.out; omega))
          obtain ⟨Ap, np, cp, ps, hpv, hrp, hnp, hcmp⟩ : ∃ (Ap : Option Addr) (np cp : Nat) (ps : List Int), prevV (w.heap.size + 1 + 1) b off pre.reverse.head? = .slice Ap np cp ∧ Rd W W.heap.size Ap np (i64s ps) ∧ np ≤ 2 ∧ (decide (0 ≤ cmpL ps [(edgeAt xs x.1).1, (edgeAt xs x.1).2]) = !lexB (pre.reverse.head?.map fun y => edgeAt xs y.1) (edgeAt xs x.1)) := by
            cases pre.reverse.head? with
            | none => exact ⟨_, _, _, [], rfl, Rd.nil_, by omega, rfl⟩
            | some y =>
              have hy2 := y.2
              refine ⟨_, _, _, [(edgeAt xs y.1).1, (edgeAt xs y.1).2], rfl, ⟨rfl, fun _ => ⟨b, off + 2 * y.1, rfl, by have := hBW.size; omega, ?_⟩⟩, by omega, ?_⟩
              · intro j u hj
                match j, hj with
                | 0, hj =>
                  obtain rfl : Value.int .i64 (edgeAt xs y.1).1 = u := by simpa [i64s] using hj
                  exact (hBW.cell (p := ⟨b, off + 2 * y.1, none⟩) (by simp; omega)).trans (hcs _ (by have := Hm.out; omega))
                | 1, hj =>
                  obtain rfl : Value.int .i64 (edgeAt xs y.1).2 = u := by simpa [i64s] using hj
                  exact (hBW.cell (p := ⟨b, off + 2 * y.1 + 1, none⟩) (by simp; omega)).trans (hcs (2 * y.1 + 1) (by have := Hm.out; omega))
                | j + 2, hj => simp [i64s] at hj
              · rw [cmpL_pairs]
                show _ = !lexB (some ((edgeAt xs y.1).1, (edgeAt xs y.1).2)) ((edgeAt xs x.1).1, (edgeAt xs x.1).2)
                cases lexB (some ((edgeAt xs y.1).1, (edgeAt xs y.1).2)) ((edgeAt xs x.1).1, (edgeAt xs x.1).2) with
                | true => rfl
                | false =>
                  simp only [Bool.not_false, decide_eq_true_eq]
                  rw [if_neg (by decide)]
                  split <;> omega
          rw [hpv] at hP
          have hstep : Hid (allOkR k0 xs (pre ++ [x]).reverse = edgeOk k0 (pre.reverse.head?.map fun y => edgeAt xs y.1) (edgeAt xs x.1)) := by
            show _ = _
            rw [List.reverse_append, List.reverse_singleton, List.singleton_append, allOkR, hok, Bool.and_true]
          have hhead : Hid (prevV (w.heap.size + 1 + 1) b off (pre ++ [x]).reverse.head? = .slice (some ⟨b, off + 2 * x.1, none⟩) 2 2) := by
            show _ = _
            simp [prevV]
          have hrv : Rd W W.heap.size (some ⟨b, off + 2 * x.1, none⟩) 2 (i64s [(edgeAt xs x.1).1, (edgeAt xs x.1).2]) := by
            refine ⟨rfl, fun _ => ⟨b, off + 2 * x.1, rfl, by have := hBW.size; omega, ?_⟩⟩
            intro j u hj
            match j, hj with
            | 0, hj =>
              obtain rfl : Value.int .i64 (edgeAt xs x.1).1 = u := by simpa [i64s] using hj
              exact hc1
            | 1, hj =>
              obtain rfl : Value.int .i64 (edgeAt xs x.1).2 = u := by simpa [i64s] using hj
              exact hc2
            | j + 2, hj => simp [i64s] at hj
          have hEd : Hid (edgeOk k0 (pre.reverse.head?.map fun y => edgeAt xs y.1) (edgeAt xs x.1) = (inB (edgeAt xs x.1).1 0 (k0 - 1) && inB (edgeAt xs x.1).2 ((edgeAt xs x.1).1 + 1) (k0 - 1) && lexB (pre.reverse.head?.map fun y => edgeAt xs y.1) (edgeAt xs x.1))) := rfl
          obtain ⟨lx, hlx⟩ : ∃ lx, lx = lexB (pre.reverse.head?.map fun y => edgeAt xs y.1) (edgeAt xs x.1) := ⟨_, rfl⟩
          rw [← hlx] at hcmp hEd
          obtain ⟨v1, hv1⟩ : ∃ v1, v1 = (edgeAt xs x.1).1 := ⟨_, rfl⟩
          obtain ⟨v2, hv2⟩ : ∃ v2, v2 = (edgeAt xs x.1).2 := ⟨_, rfl⟩
          rw [← hv1] at hc1 hrv hcmp hEd
          rw [← hv2] at hc2 hrv hcmp hEd
          have hall : Hid (allOkR k0 xs (pre ++ [x]).reverse = (inB v1 0 (k0 - 1) && inB v2 (v1 + 1) (k0 - 1) && lx)) := by show _ = _; rw [hstep.out, hEd.out]
          obtain ⟨g, hg⟩ : ∃ g, g = cmpL ps [v1, v2] := ⟨_, rfl⟩
          have Hg := Lib.hid hg
          rw [← hg] at hcmp
          have hcN := hN.cell
          have hcR := hR.cell
          have hfR := hR.frozen
          have hcP := hP.cell
          have hfP := hP.frozen
          have HBW := Lib.hid hBW
          have Hrp := Lib.hid hrp
          have Hrv := Lib.hid hrv
          have Hnp := Lib.hid hnp
          have HN := Lib.hid hN
          have HR := Lib.hid hR
          have HP := Lib.hid hP
          have hfn : Fence.wide.fn 47 := trivial
          have hmx : Try.prog.follows .mixedOrders = true := by kernel_rfl
          clear hN hR hP hBW hrp hrv hnp hg hv1 hv2 hlx hEd hstep hpv hok
          obtain ⟨o2, ho2⟩ : ∃ o2, o2 = off + 2 * x.1 := ⟨_, rfl⟩
          have Ho2 := Lib.hid ho2
          dsimp only
          rw [← ho2] at hc1 hc2 Hrv hhead ⊢
          clear ho2 hx2
          by_cases d1 : v1 < 0
          · have hno : Hid (allOkR k0 xs (pre ++ [x]).reverse = false) := by show _ = _; rw [hall.out, inB_not (by omega)]; rfl
            clear hcmp
            gi_wp2
            refine region_quiet_round (F := Fence.wide) l rfl (by kernel_rfl) (by kernel_rfl) (by kernel_rfl) ?_
            repeat (gi_big_quiet_step (fail))
            refine wpQuietIn_nil ?_
            rintro _ ⟨nq, rfl⟩
            gi_wp2
            exact ⟨(KeepsOthers.trans (⟨Nat.le_refl _, fun _ _ h _ => h⟩ : KeepsOthers W (W.drewN nq)) (KeepsOthers.setCell _ _ _)).from _, rfl, hno.out, (show Boxed (W.drewN nq) _ _ _ from HR.out).set _, (below_drewN HBW.out nq).setCell (p := ⟨w.heap.size + 1, 0, none⟩) (by simp) _⟩
          · have e1 : decide (v1 < 0) = false := by simpa using d1
            by_cases d2 : v2 ≤ v1
            · have hno : Hid (allOkR k0 xs (pre ++ [x]).reverse = false) := by show _ = _; rw [hall.out, inB_not (n := v2) (by omega), Bool.and_false]; rfl
              clear hcmp
              gi_wp2
              refine region_quiet_round (F := Fence.wide) l rfl (by kernel_rfl) (by kernel_rfl) (by kernel_rfl) ?_
              repeat (gi_big_quiet_step (fail))
              refine wpQuietIn_nil ?_
              rintro _ ⟨nq, rfl⟩
              gi_wp2
              exact ⟨(KeepsOthers.trans (⟨Nat.le_refl _, fun _ _ h _ => h⟩ : KeepsOthers W (W.drewN nq)) (KeepsOthers.setCell _ _ _)).from _, rfl, hno.out, (show Boxed (W.drewN nq) _ _ _ from HR.out).set _, (below_drewN HBW.out nq).setCell (p := ⟨w.heap.size + 1, 0, none⟩) (by simp) _⟩
            · have e2 : decide (v2 ≤ v1) = false := by simpa using d2
              by_cases d3 : k0 ≤ v2
              · have hno : Hid (allOkR k0 xs (pre ++ [x]).reverse = false) := by show _ = _; rw [hall.out, inB_not (n := v2) (by omega), Bool.and_false]; rfl
                clear hcmp
                gi_wp2
                refine region_quiet_round (F := Fence.wide) l rfl (by kernel_rfl) (by kernel_rfl) (by kernel_rfl) ?_
                repeat (gi_big_quiet_step (fail))
                refine wpQuietIn_nil ?_
                rintro _ ⟨nq, rfl⟩
                gi_wp2
                exact ⟨(KeepsOthers.trans (⟨Nat.le_refl _, fun _ _ h _ => h⟩ : KeepsOthers W (W.drewN nq)) (KeepsOthers.setCell _ _ _)).from _, rfl, hno.out, (show Boxed (W.drewN nq) _ _ _ from HR.out).set _, (below_drewN HBW.out nq).setCell (p := ⟨w.heap.size + 1, 0, none⟩) (by simp) _⟩
              · have e3 : decide (k0 ≤ v2) = false := by simpa using d3
                cases lx with
                | false =>
                  have hno : Hid (allOkR k0 xs (pre ++ [x]).reverse = false) := by show _ = _; rw [hall.out, Bool.and_false]
                  have hcmp' : decide (0 ≤ g) = true := by rw [hcmp]; rfl
                  clear hcmp
                  gi_wp2
                  refine region_quiet_round (F := Fence.wide) l rfl (by kernel_rfl) (by kernel_rfl) (by kernel_rfl) ?_
                  repeat (gi_big_quiet_step (exact cmpS_q Hrp.out Hrv.out Hnp.out Hg.out _))
                  refine wpQuietIn_nil ?_
                  rintro _ ⟨nq, rfl⟩
                  gi_wp2
                  exact ⟨(KeepsOthers.trans (⟨Nat.le_refl _, fun _ _ h _ => h⟩ : KeepsOthers W (W.drewN nq)) (KeepsOthers.setCell _ _ _)).from _, rfl, hno.out, (show Boxed (W.drewN nq) _ _ _ from HR.out).set _, (below_drewN HBW.out nq).setCell (p := ⟨w.heap.size + 1, 0, none⟩) (by simp) _⟩
                | true =>
                  have hyes : Hid (allOkR k0 xs (pre ++ [x]).reverse = true) := by show _ = _; rw [hall.out, inB_mk (by omega), inB_mk (by omega)]; rfl
                  have hcmp' : decide (0 ≤ g) = false := by rw [hcmp]; rfl
                  clear hcmp
                  gi_wp2
                  refine region_quiet_round (F := Fence.wide) l rfl (by kernel_rfl) (by kernel_rfl) (by kernel_rfl) ?_
                  repeat (gi_big_quiet_step (exact cmpS_q Hrp.out Hrv.out Hnp.out Hg.out _))
                  refine wpQuietIn_nil ?_
                  rintro _ ⟨nq, rfl⟩
                  gi_wp2
                  exact ⟨(KeepsOthers.trans (⟨Nat.le_refl _, fun _ _ h _ => h⟩ : KeepsOthers W (W.drewN nq)) (KeepsOthers.setCell _ _ _)).from _, fun k _ _ h3 => Below.heap_setCell (W.drewN nq) ⟨w.heap.size + 1 + 1 + 1, 0, none⟩ _ k h3, ⟨⟨(show Boxed (W.drewN nq) _ _ _ from HN.out).kept (grownBy_setCell' _ _ _) (by simp; omega), (show Boxed (W.drewN nq) _ _ _ from HR.out).kept (grownBy_setCell' _ _ _) (by simp), by rw [hhead.out]; exact (show Boxed (W.drewN nq) _ _ _ from HP.out).set _⟩, hyes.out, (below_drewN HBW.out nq).setCell (p := ⟨w.heap.size + 1 + 1 + 1, 0, none⟩) (by simp; omega) _⟩⟩
        case done =>
          rintro D ys W hD rfl ⟨⟨hN, hR, hP⟩, hok, hBW⟩ hK
          have hyes : areEdges xs k0 = true := areEdges_yes h1 h2 h3 (fun j hj => (allOkR_take m (Nat.le_refl _)).1 (by rw [List.take_of_length_le (by simp)]; exact hok) j (by have := Hm.out; omega))
          have hRc := hR.cell
          have hRf := hR.frozen
          gi_wp2
          have hK' := (KeepsOthers.setCell W ⟨w.heap.size + 1, 0, none⟩ (.bool true)).same D _ hK rfl
          refine ⟨by simp, .inl ⟨_, _, rfl, run_takeDeferred hK', ?_⟩⟩
          have hc5 := cell_kept (World.cell?_setCell_same' W ⟨w.heap.size + 1, 0, none⟩ (.bool true) (by rw [hRc]; rfl)) (grownBy_putObj' _ D (.deferred none)) (fun r e => by cases e; exact ⟨_, hK', rfl⟩)
          rw [hyes]
          refine ⟨.bool true, ?_, rfl, (hBW.setCell (p := ⟨w.heap.size + 1, 0, none⟩) (by simp) _).trans (belowK_b (w := w) (Nat.le_refl _) _ D _ _ (by omega) hK' rfl rfl)⟩
          simp [results, Try.f30, go_sem, hc5]
        case stop =>
          rintro D cd pre W hD ⟨k, hk, rfl⟩ ⟨rfl, hno, hR, hBW⟩ hK
          have hr : areEdges xs k0 = false := by
            cases he : areEdges xs k0 with
            | false => rfl
            | true =>
              unfold areEdges at he
              rw [Bool.and_eq_true, List.all_eq_true] at he
              rw [(allOkR_take k hk).2 (fun j hj => he.2 j (by have := Hm.out; simp; omega))] at hno
              cases hno
          gi_wp2
          refine ⟨by simp, .inl ⟨_, _, rfl, run_takeDeferred hK, ?_⟩⟩
          have hc5 := cell_kept hR.cell (grownBy_putObj' _ D (.deferred none)) (fun r e => by cases e; exact ⟨_, hK, rfl⟩)
          rw [hr]
          refine ⟨.bool false, ?_, rfl, hBW.trans (belowK_b (w := w) (Nat.le_refl _) W D _ _ (by omega) hK rfl rfl)⟩
          simp [results, Try.f30, go_sem, hc5]
      · have hr : areEdges xs k0 = false := by unfold areEdges; simp [h3]
        have h3' : 512 < (xs.length : Int) := by omega
        rw [hr]
        rw [h2] at hmod
        clear hr
        gi_wp2_with (refine ⟨trivial, ?_⟩; gi_at_call 45; refine (callsIn_wide.2 (isSize_any _ _)).mono ?_; rintro e w' ⟨rfl, rfl⟩; rw [h1])
        have hc5 := (Boxed.new (w.alloc (.cells #[.int .i64 k0] 2)) 4 (.bool false)).cell
        rw [World.size_alloc] at hc5
        refine ⟨.bool false, ?_, rfl, ((Below.refl _ _).alloc (Nat.le_refl _) _).alloc (by simp) _⟩
        simp [results, Try.f30, go_sem, hc5]
    · have hr : areEdges xs k0 = false := by unfold areEdges; simp [h2]
      have h2' : xs.length % 2 = 1 := by omega
      rw [hr]
      rw [h2'] at hmod
      clear hr
      gi_wp2_with (refine ⟨trivial, ?_⟩; gi_at_call 45; refine (callsIn_wide.2 (isSize_any _ _)).mono ?_; rintro e w' ⟨rfl, rfl⟩; rw [h1])
      have hc5 := (Boxed.new (w.alloc (.cells #[.int .i64 k0] 2)) 4 (.bool false)).cell
      rw [World.size_alloc] at hc5
      refine ⟨.bool false, ?_, rfl, ((Below.refl _ _).alloc (Nat.le_refl _) _).alloc (by simp) _⟩
      simp [results, Try.f30, go_sem, hc5]
  · have hr : areEdges xs k0 = false := by unfold areEdges; simp [h1]
    rw [hr]
    clear hr
    have h1' : inB k0 1 64 = false := by simpa using h1
    gi_wp2_with (refine ⟨trivial, ?_⟩; gi_at_call 45; refine (callsIn_wide.2 (isSize_any _ _)).mono ?_; rintro e w' ⟨rfl, rfl⟩; rw [h1'])
    have hc5 := (Boxed.new (w.alloc (.cells #[.int .i64 k0] 2)) 4 (.bool false)).cell
    rw [World.size_alloc] at hc5
    refine ⟨.bool false, ?_, rfl, ((Below.refl _ _).alloc (Nat.le_refl _) _).alloc (by simp) _⟩
    simp [results, Try.f30, go_sem, hc5]
end Go.Proofs.Ytgkbkbmhdhlffaa
