/- spec.l04Tree: the walk. -/
import Derived.Test.YtgkbkbmhdhlffaaTreeE
namespace Go.Proofs.Ytgkbkbmhdhlffaa
open Go.RowKit
theorem own_keepN {wr w' : World} {base g : Nat} {e : TypeId} {v : Value} {xs : List Value} (h : Own wr base e v xs) (hg : wr.grownBy w' (some g)) (hb : g < base) : Own w' base e v xs :=
  h.kept hg (.inr fun e => by have := (h.lt g e).1; omega)
set_option maxRecDepth 20000 in
set_option maxHeartbeats 4000000 in
theorem treeE_any (A : Option Addr) (n c B K : Nat) (E : List Ed) (r : List Nat × List Ed) (w : World) (h : Rd w B A n (i64s (natsI r.1))) (hB : B ≤ w.heap.size) (hE : EdOk E (K + 2)) (hEl : E.length = K + 1) (hK : K ≤ 62) (hr : strip (K + 2) K E = some r) :
    Calls Try.prog 29 #[.slice A n c] w fun e w' => ∃ v, e = .returned v ∧ Own w' w.heap.size 2 v (i64s (flatI E)) ∧ Below w.heap.size w w' := by
  obtain ⟨hrl, hrm, hback⟩ := Back.start hE hEl hr
  have hl := h.lenI
  obtain rfl : K = n := by have := hl.out; rw [natsI_len, hrl] at this; exact this
  obtain ⟨C, hC⟩ : ∃ C, C = r.1 := ⟨_, rfl⟩
  rw [← hC] at h hrl hrm hback
  have HR := Lib.hid h; have Hrl := Lib.hid hrl; have Hrm := Lib.hid hrm; have Hback := Lib.hid hback; have HE := Lib.hid hE; have HEl := Lib.hid hEl; have Hr := Lib.hid hr
  clear h hrl hrm hback hE hEl hr hl hC
  have hat : Hid (∀ k, k < K → ∃ x, C[k]? = some x ∧ x < K + 2 ∧ (natsI C)[k]? = some ((x : Nat) : Int)) := fun k hk => by
    have e : C[k]? = some (C[k]'(by rw [Hrl.out]; exact hk)) := List.getElem?_eq_getElem _
    exact ⟨_, e, Hrm.out _ (List.mem_iff_getElem?.2 ⟨k, e⟩), by unfold natsI; rw [List.getElem?_map, e]; rfl⟩
  obtain ⟨i0, hi0, hz0, hz1, hz2⟩ := info_parts info_i64'
  go_enter Try.func29, Try.ntmps29
  go_wp2_with (at_make; refine wpList_make_full _ rfl _ _ 22 rfl w.heap.size 2 i0 (.int .i64 0) 1 Try.underlying22 hi0 hz0 hz1 _ _ _ _ (K + 2) rfl rfl rfl rfl ?c1 ?c2 ?c3 ?_)
  case c1 => rw [hz2]; omega
  case c2 => unfold maxLen; omega
  case c3 => exact Nat.le_refl _
  intro w1 hown hgrow
  clear hi0 hz0 hz1 hz2
  have ho1 : Own w1 w.heap.size 2 (.slice (some ⟨w.heap.size, 0, none⟩) (K + 2) (K + 2)) (i64s (rowOf (K + 2) (fun _ => 0))) := by
    unfold Own
    rw [i64s_length, rowOf_len]
    rw [madeCells_one] at hown
    have e : i64s (rowOf (K + 2) (fun _ => 0)) = List.replicate (K + 2) (.int .i64 0) := by
      unfold rowOf i64s
      rw [List.map_map]
      apply List.ext_getElem
      · simp
      · intro i h1 h2
        simp
    rw [e]
    exact hown
  have HO := Lib.hid ho1
  have HB := Lib.hid ((Below.refl w.heap.size w).grown hgrow (Nat.le_refl _) (by simp))
  have hs1 : w.heap.size + 1 ≤ w1.heap.size := by have := (ho1.lt w.heap.size (by simp [Value.ownBlock])).2; omega
  clear hown ho1 hgrow
  go_wp2
  go_loopw [5] (fun i wr => ∃ k : Nat, k ≤ K + 2 ∧ i = .int .i64 k ∧ w.heap.size + 1 ≤ wr.heap.size ∧ Own wr w.heap.size 2 (.slice (some ⟨w.heap.size, 0, none⟩) (K + 2) (K + 2)) (i64s (rowOf (K + 2) (fun v => if v < k then 1 else 0))) ∧ Below w.heap.size w wr) (fun i _ => K + 2 - (intOf i).toNat)
  case atStart => exact ⟨0, Nat.zero_le _, rfl, hs1, by rw [show (fun v => if v < 0 then 1 else 0) = (fun _ : Nat => 0) from funext fun v => if_neg (by omega)]; exact HO.out, HB.out⟩
  case round =>
    obtain ⟨k, hk, rfl, hsz, hO, hbel⟩ := hrel
    have HO' := Lib.hid hO; have HB' := Lib.hid hbel
    clear hO hbel HO HB hs1
    by_cases hlt : k < K + 2
    · have hlt' : (k : Int) < (K : Int) + 2 := by omega
      obtain ⟨g, z, hA, hz, hcz, hfz⟩ := HO'.out.atI (k := k) (by rw [rowOf_len]; omega)
      obtain rfl : w.heap.size = g := by injection hA with e; injection e
      have hst := HO'.out.stored rfl k 1
      have hrow := rowOf_set (K + 2) k 1 (fun v => if v < k then 1 else 0)
      rw [show updN (fun v => if v < k then 1 else 0) k 1 = (fun v => if v < k + 1 then 1 else 0) from funext fun v => by unfold updN; by_cases h1 : v = k <;> by_cases h2 : v < k <;> simp [h1, h2] <;> omega] at hrow
      have hrow2 : (rowOf (K + 2) (fun v => if v < k then 1 else 0)).set k 1 = rowOf (K + 2) (fun v => if v < k + 1 then 1 else 0) := hrow
      rw [hrow2] at hst
      have HOs := Lib.hid hst.1
      have HBs := Lib.hid (HB'.out.setCell (p := ⟨w.heap.size, k, none⟩) (Nat.le_refl _) (.int .i64 1))
      have hsz2 : Hid (w.heap.size + 1 ≤ (wr.setCell ⟨w.heap.size, k, none⟩ (.int .i64 1)).heap.size) := Nat.le_trans hsz hst.2.size
      clear hst hrow hrow2 hz hA
      go_wp2
      go_roundw
      case rel => exact ⟨k + 1, by omega, by go_num, hsz2.out, HOs.out, HBs.out⟩
      case measure => simp only [intOf]; omega
    · have hO2 : Hid (Own wr w.heap.size 2 (.slice (some ⟨w.heap.size, 0, none⟩) (K + 2) (K + 2)) (i64s (rowOf (K + 2) (fun v => 1 + (C.take 0).count v)))) := by
        have := HO'.out
        rw [rowOf_ext (D' := fun v => 1 + (C.take 0).count v) (fun v hv => by rw [if_pos (by omega)]; simp)] at this
        exact this
      have hgeI : ¬ (k : Int) < (K : Int) + 2 := by omega
      clear HO' hk hlt
      go_wp2
      go_loopw [6] (fun i wr => ∃ k : Nat, k ≤ K ∧ i = .int .i64 k ∧ w.heap.size + 1 ≤ wr.heap.size ∧ Own wr w.heap.size 2 (.slice (some ⟨w.heap.size, 0, none⟩) (K + 2) (K + 2)) (i64s (rowOf (K + 2) (fun v => 1 + (C.take k).count v))) ∧ Below w.heap.size w wr) (fun i _ => K - (intOf i).toNat)
      case atStart => exact ⟨0, Nat.zero_le _, rfl, hsz, hO2.out, HB'.out⟩
      case round =>
        clear hsz hO2 HB'
        obtain ⟨k, hk, rfl, hsz, hO, hbel⟩ := hrel
        have HO' := Lib.hid hO; have HB' := Lib.hid hbel
        clear hO hbel
        by_cases hlt : k < K
        · have hlt' : (k : Int) < (K : Int) := by omega
          have hR2 := HR.out.below HB'.out hB
          obtain ⟨x, hx, hxK, hxI⟩ := hat.out k hlt
          obtain ⟨b, off, x', rfl, hbB, hx', hcx⟩ := hR2.atI (k := k) hlt
          obtain rfl : x' = (x : Int) := by have := hx'.out; rw [hxI] at this; exact (Option.some.inj this).symm
          obtain ⟨g, z, hA, hz, hcz, hfz⟩ := HO'.out.atI (k := x) (by rw [rowOf_len]; omega)
          obtain rfl : w.heap.size = g := by injection hA with e; injection e
          have hz2 := hz.out
          rw [rowOf_at _ hxK] at hz2
          obtain ⟨D, hD⟩ : ∃ D, D = 1 + (C.take k).count x := ⟨_, rfl⟩
          rw [← hD] at hz2
          obtain rfl : z = ((D : Nat) : Int) := (Option.some.inj hz2).symm
          have hDb : D ≤ 64 := by have := List.count_le_length (a := x) (l := C.take k); rw [List.length_take] at this; omega
          have hst := HO'.out.stored rfl x ((D : Int) + 1)
          have hrow := rowOf_set (K + 2) x (D + 1) (fun v => 1 + (C.take k).count v)
          rw [show updN (fun v => 1 + (C.take k).count v) x (D + 1) = (fun v => 1 + (C.take (k + 1)).count v) from funext fun v => by
            unfold updN
            rw [take_succ_of hx, List.count_append, List.count_cons, List.count_nil]
            by_cases h1 : v = x
            · rw [if_pos h1, hD, h1]; simp; omega
            · have : ¬ x = v := fun e => h1 e.symm
              rw [if_neg h1]; simp [this]] at hrow
          have hrow2 : (rowOf (K + 2) (fun v => 1 + (C.take k).count v)).set x ((D : Int) + 1) = rowOf (K + 2) (fun v => 1 + (C.take (k + 1)).count v) := hrow
          rw [hrow2] at hst
          have HOs := Lib.hid hst.1
          have HBs := Lib.hid (HB'.out.setCell (p := ⟨w.heap.size, x, none⟩) (Nat.le_refl _) (.int .i64 ((D : Int) + 1)))
          have hsz2 : Hid (w.heap.size + 1 ≤ (wr.setCell ⟨w.heap.size, x, none⟩ (.int .i64 ((D : Int) + 1))).heap.size) := Nat.le_trans hsz hst.2.size
          have hxI1 : (x : Int) < (K : Int) + 2 := by omega
          clear hst hrow hrow2 hz hA hz2 hx hxI hx' hD hR2
          go_wp2
          go_roundw
          case rel => exact ⟨k + 1, by omega, by go_num, hsz2.out, HOs.out, HBs.out⟩
          case measure => simp only [intOf]; omega
        · obtain rfl : K = k := by omega
          have hct : C.take K = C := by rw [← Hrl.out]; exact List.take_length
          have hO2 : Hid (Own wr w.heap.size 2 (.slice (some ⟨w.heap.size, 0, none⟩) (K + 2) (K + 2)) (i64s (rowOf (K + 2) (fun v => 1 + C.count v)))) := by
            have := HO'.out
            rw [hct] at this
            exact this
          clear HO' hct hk hlt
          go_wp2
          go_loopw [7, 8] (fun ov i wr => ∃ (q k : Nat) (F : List Ed) (V : List Nat) (P : List Ed) (D : Nat → Nat), i = .int .i64 q ∧ Hid (Back E F V (K + 2) K k q C P D) ∧ w.heap.size + 1 ≤ wr.heap.size ∧ Own wr w.heap.size 2 (.slice (some ⟨w.heap.size, 0, none⟩) (K + 2) (K + 2)) (i64s (rowOf (K + 2) D)) ∧ Own wr (w.heap.size + 1) 2 ov (i64s (flatI P)) ∧ Below w.heap.size w wr) (fun _ i _ => K - (intOf i).toNat)
          case atStart =>
            have hn1 := own_newI wr (base := wr.heap.size) (Nat.le_refl _)
            exact ⟨0, K, E, _, [], _, rfl, Hback.out, by simp; omega, hO2.out.below ((Below.refl wr.heap.size wr).alloc (Nat.le_refl _) _) (Nat.le_refl _), hn1.base_le hsz, HB'.out.alloc (by omega) _⟩
          case round =>
            clear hsz hO2 HB'
            obtain ⟨q, k, F, V, P, D, rfl, hbk, hsz, hO, hU, hbel⟩ := hrel
            have HO' := Lib.hid hO; have HU := Lib.hid hU; have HB' := Lib.hid hbel
            clear hO hU hbel
            have hqK : q ≤ K := by have := hbk.out.ik; omega
            have hPl : Hid ((flatI P).length = 2 * q) := by show _ = _; rw [flatI_len, hbk.out.pl]
            cases k with
            | zero =>
              have hlt : ¬ (q : Int) < (K : Int) := by have := hbk.out.ik; omega
              obtain ⟨e, hst, hfi⟩ := hbk.out.last
              have Hst := Lib.hid hst; have Hfi := Lib.hid hfi
              have hDb : Hid (∀ v, v < K + 2 → D v ≤ 64) := fun v hv => by
                rw [hbk.out.dg v hv]
                have h1 : deg F v ≤ F.length := List.countP_le_length
                have := hbk.out.fl
                omega
              clear hst hfi hbk
              go_wp2
              go_loopw [7, 10] (fun ov i wr => ∃ (j : Nat), j ≤ K + 2 ∧ i = .int .i64 j ∧ w.heap.size + 1 ≤ wr.heap.size ∧ Own wr w.heap.size 2 (.slice (some ⟨w.heap.size, 0, none⟩) (K + 2) (K + 2)) (i64s (rowOf (K + 2) D)) ∧ Own wr (w.heap.size + 1) 2 ov (i64s (flatI P ++ natsI ((List.range j).filter (fun v => D v == 1)))) ∧ Below w.heap.size w wr) (fun _ i _ => K + 2 - (intOf i).toNat)
              case atStart => exact ⟨0, Nat.zero_le _, rfl, hsz, HO'.out, by simpa [natsI] using HU.out, HB'.out⟩
              case round =>
                clear hsz HO' HU HB'
                obtain ⟨j, hj, rfl, hsz, hO, hU, hbel⟩ := hrel
                have HO' := Lib.hid hO; have HU := Lib.hid hU; have HB' := Lib.hid hbel
                clear hO hU hbel
                by_cases hjt : j < K + 2
                · have hjt' : (j : Int) < (K : Int) + 2 := by omega
                  obtain ⟨g, z, hA, hz, hcz, hfz⟩ := HO'.out.atI (k := j) (by rw [rowOf_len]; omega)
                  obtain rfl : w.heap.size = g := by injection hA with e; injection e
                  have hz2 := hz.out
                  rw [rowOf_at _ hjt] at hz2
                  obtain rfl : z = ((D j : Nat) : Int) := (Option.some.inj hz2).symm
                  have hlen : (flatI P ++ natsI ((List.range j).filter (fun v => D v == 1))).length ≤ 2000000 := by
                    have h1 := List.length_filter_le (fun v => D v == 1) (List.range j)
                    rw [List.length_range] at h1
                    rw [List.length_append, hPl.out, natsI_len]
                    omega
                  by_cases h1 : D j = 1
                  · have hsn : Hid ((flatI P ++ natsI ((List.range j).filter (fun v => D v == 1))) ++ [(j : Int)] = flatI P ++ natsI ((List.range (j + 1)).filter (fun v => D v == 1))) := by
                      show _ = _
                      rw [List.range_succ, List.filter_append]
                      simp [natsI, h1]
                    rw [h1] at hcz
                    clear hz hz2 hA h1
                    generalize hL : flatI P ++ natsI ((List.range j).filter (fun v => D v == 1)) = L at hlen hsn HU
                    clear hL
                    go_wp2_with (at_builtin; go_must (refine emitI wr rfl _ _ rfl (w.heap.size + 1) u7 L rfl HU.out (j : Int) rfl hlen hsz ?_))
                    intro v' w3 hO3 hg hor
                    rw [hsn.out] at hO3
                    have hoD := HO'.out.kept hg (.inr (fun e => by have h9 : w.heap.size + 1 ≤ w.heap.size := (HU.out.lt _ e.symm).1; omega))
                    have hB' := below_ownGrown HB'.out HU.out hg (Nat.le_refl _) (by omega)
                    have hsz3 : w.heap.size + 1 ≤ w3.heap.size := Nat.le_trans hsz hg.size
                    have HO3 := Lib.hid hO3; have HoD := Lib.hid hoD; have HB3 := Lib.hid hB'
                    clear hO3 hg hor hoD hB' HO' HU HB'
                    go_wp2
                    go_roundw
                    case rel => exact ⟨j + 1, by omega, by go_num, hsz3, HoD.out, HO3.out, HB3.out⟩
                    case measure => simp only [intOf]; omega
                  · have hsn : Hid (flatI P ++ natsI ((List.range j).filter (fun v => D v == 1)) = flatI P ++ natsI ((List.range (j + 1)).filter (fun v => D v == 1))) := by
                      show _ = _
                      rw [List.range_succ, List.filter_append]
                      simp [natsI, h1]
                    have hne : ((((D j : Nat) : Int)) == 1) = false := by rw [beq_eq_false_iff_ne]; omega
                    have hne2 : ¬ (((D j : Nat) : Int)) = 1 := by omega
                    clear hz hz2 hA hlen
                    generalize D j = z at hcz hne hne2 h1
                    rw [hsn.out] at HU
                    clear hsn
                    go_wp2
                    go_roundw
                    case rel => exact ⟨j + 1, by omega, by go_num, hsz, HO'.out, HU.out, HB'.out⟩
                    case measure => simp only [intOf]; omega
                · obtain rfl : j = K + 2 := by omega
                  have hU2 : Hid (Own wr (w.heap.size + 1) 2 u7 (i64s (flatI (stripP (K + 2) K E)))) := by
                    have := HU.out
                    rw [Hfi.out] at this
                    rw [Hst.out, flatI_append]
                    exact this
                  clear HU HO' hj hjt
                  obtain ⟨A7, c7, rfl, hc7⟩ := hU2.out.shapeI
                  have hsp := stripP_perm K HE.out.gr (fun e he => (HE.out.lt e he).1) List.length_range HEl.out Hr.out
                  have hspl := hsp.length_eq
                  rw [List.length_map, HEl.out] at hspl
                  have Hsp := Lib.hid hsp; have Hspl := Lib.hid hspl
                  clear hsp hspl
                  go_wp2_with fail
                  refine (sortE_any A7 _ c7 wr.heap.size (stripP (K + 2) K E) _ hU2.out.rdI (Nat.le_refl _) (by have := Hspl.out; omega) (by have := Hspl.out; omega)).mono ?_
                  rintro e w4 ⟨v, rfl, Q, hQp, hQs, hO4, hb4⟩
                  obtain rfl : Q = E := sorted_eq (hQp.trans Hsp.out) hQs HE.out.ord
                  have HO4 := Lib.hid (hO4.base_le (show w.heap.size ≤ wr.heap.size by omega))
                  have HB4 := Lib.hid (HB'.out.trans (hb4.mono (by omega)))
                  clear hQp hQs hO4 hb4 hU2 HB' hsz
                  go_wp2
                  go_ret
                  exact ⟨_, rfl, HO4.out, HB4.out⟩
            | succ k =>
              obtain ⟨v, c0, hvK, hcK, hcv0, hDv, hDb, hDc, hCq, F', V', hbk2⟩ := hbk.out.step
              have hqlt : q < K := by have := hbk.out.ik; omega
              have hqI : (q : Int) < (K : Int) := by omega
              obtain ⟨b, off, x', rfl, hbB, hx', hcx⟩ := (HR.out.below HB'.out hB).atI (k := q) hqlt
              obtain rfl : x' = (c0 : Int) := by
                have h1 := hx'.out
                unfold natsI at h1
                rw [List.getElem?_map, hCq] at h1
                exact (Option.some.inj h1).symm
              have Hbk2 := Lib.hid hbk2; have HDb := Lib.hid hDb; have HDv := Lib.hid hDv
              have hDc64 : D c0 ≤ 64 := by
                rw [hbk.out.dg c0 hcK]
                have h1 : deg F c0 ≤ F.length := List.countP_le_length
                have := hbk.out.fl
                have := hbk.out.ik
                omega
              clear hbk2 hDb hDv hbk hx' hCq
              go_wp2
              go_loopw [9] (fun i wl => ∃ l : Nat, l ≤ v ∧ i = .int .i64 l ∧ wl = wr) (fun i _ => v - (intOf i).toNat)
              case atStart => exact ⟨0, Nat.zero_le _, rfl, rfl⟩
              case round =>
                obtain ⟨l, hl, rfl, rfl⟩ := hrel
                have hlK : l < K + 2 := by omega
                have hlI : (l : Int) < (K : Int) + 2 := by omega
                obtain ⟨g, z, hA, hz, hcz, hfz⟩ := HO'.out.atI (k := l) (by rw [rowOf_len]; omega)
                obtain rfl : w.heap.size = g := by injection hA with e; injection e
                have hz2 := hz.out
                rw [rowOf_at _ hlK] at hz2
                obtain rfl : z = ((D l : Nat) : Int) := (Option.some.inj hz2).symm
                by_cases hlv : l < v
                · have hne := HDb.out l hlv
                  have hne1 : ((((D l : Nat) : Int)) == 1) = false := by rw [beq_eq_false_iff_ne]; omega
                  have hne2 : ¬ (((D l : Nat) : Int)) = 1 := by omega
                  clear hz hz2 hA
                  generalize D l = z at hcz hne hne1 hne2
                  go_wp2
                  go_roundw
                  case rel => exact ⟨l + 1, by omega, by go_num, trivial⟩
                  case measure => simp only [intOf]; omega
                · obtain rfl : v = l := by omega
                  rw [HDv.out] at hcz
                  clear hz hz2 hA hlv hl
                  have hU0 : Hid (Own (wr.alloc (.cells #[.int .i64 (v : Int), .int .i64 (c0 : Int)] 2)) (w.heap.size + 1) 2 u7 (i64s (flatI P))) := HU.out.below ((Below.refl wr.heap.size wr).alloc (Nat.le_refl _) _) (Nat.le_refl _)
                  have hc2 : Hid (∀ (j : Nat) (u : Value), (i64s [(v : Int), (c0 : Int)])[j]? = some u → (wr.alloc (.cells #[.int .i64 (v : Int), .int .i64 (c0 : Int)] 2)).cell? ((⟨wr.heap.size, 0, none⟩ : Addr).add j) = some u) := by
                    intro j u hj
                    match j, hj with
                    | 0, hj => simp [i64s] at hj; subst hj; simp [Addr.add]
                    | 1, hj => simp [i64s] at hj; subst hj; simp [Addr.add]
                    | j + 2, hj => simp [i64s] at hj
                  go_wp2_with (at_builtin; go_must (refine emitAllI rfl _ _ rfl (w.heap.size + 1) u7 (flatI P) rfl hU0.out ⟨wr.heap.size, 0, none⟩ 2 2 [(v : Int), (c0 : Int)] rfl rfl hc2.out ?c1 ?c2 ?_))
                  case c1 => rw [hPl.out]; omega
                  case c2 => simp; omega
                  intro v' w4 hO4 hg
                  have hpp : flatI P ++ [(v : Int), (c0 : Int)] = flatI (P ++ [(v, c0)]) := by rw [flatI_append]; rfl
                  rw [hpp] at hO4
                  have hoD := (HO'.out.below ((Below.refl wr.heap.size wr).alloc (Nat.le_refl _) (.cells #[.int .i64 (v : Int), .int .i64 (c0 : Int)] 2)) (Nat.le_refl _)).kept hg (.inr (fun e => by have h9 : w.heap.size + 1 ≤ w.heap.size := (hU0.out.lt _ e.symm).1; omega))
                  have hB4 := below_ownGrown (HB'.out.alloc (by omega) (.cells #[.int .i64 (v : Int), .int .i64 (c0 : Int)] 2)) hU0.out hg (Nat.le_refl _) (by omega)
                  have hsz4 : w.heap.size + 1 ≤ w4.heap.size := by have h8 := hg.size; simp at h8; omega
                  have hcx4 : w4.cell? ⟨b, off + q, none⟩ = some (.int .i64 (c0 : Int)) := by
                    have h1 := HB'.out.cell (p := ⟨b, off + q, none⟩) (by show b < _; omega)
                    have h2 := hB4.cell (p := ⟨b, off + q, none⟩) (by show b < _; omega)
                    rw [h2, ← h1]
                    exact hcx
                  have hbne : ¬ b = w.heap.size := by omega
                  obtain ⟨g, z, hA, hz, hcv, hfv⟩ := hoD.atI (k := v) (by rw [rowOf_len]; omega)
                  obtain rfl : w.heap.size = g := by injection hA with e; injection e
                  obtain ⟨g, z2, hA2, hz2, hcc, hfc⟩ := hoD.atI (k := c0) (by rw [rowOf_len]; omega)
                  obtain rfl : w.heap.size = g := by injection hA2 with e; injection e
                  have hz3 := hz2.out
                  rw [rowOf_at _ hcK] at hz3
                  obtain rfl : z2 = ((D c0 : Nat) : Int) := (Option.some.inj hz3).symm
                  have hst1 := hoD.stored rfl v 0
                  have hst2 := hst1.1.stored rfl c0 ((D c0 : Int) - 1)
                  have hrow : ((rowOf (K + 2) D).set v 0).set c0 ((D c0 : Int) - 1) = rowOf (K + 2) (updN (updN D v 0) c0 (D c0 - 1)) := by
                    rw [← rowOf_set, ← rowOf_set]
                    congr 1
                    omega
                  rw [hrow] at hst2
                  have HoD := Lib.hid hst2.1
                  have HO5 := Lib.hid (own_keepN (own_keepN hO4 hst1.2 (Nat.lt_succ_self w.heap.size)) hst2.2 (Nat.lt_succ_self w.heap.size))
                  have HB5 := Lib.hid ((hB4.setCell (p := ⟨w.heap.size, v, none⟩) (Nat.le_refl _) (.int .i64 0)).setCell (p := ⟨w.heap.size, c0, none⟩) (Nat.le_refl _) (.int .i64 ((D c0 : Int) - 1)))
                  have Hsz5 := Lib.hid (Nat.le_trans (Nat.le_trans hsz4 hst1.2.size) hst2.2.size)
                  have hvI : (v : Int) < (K : Int) + 2 := by omega
                  have hcI : (c0 : Int) < (K : Int) + 2 := by omega
                  have hvc : ¬ v = c0 := fun e => hcv0 e.symm
                  clear hO4 hoD hB4 hsz4 hst1 hst2 hrow hz hz2 hz3 hA hA2 hg hpp hU0 hc2 hcx hsz HO' HU HB'
                  generalize D c0 = dc at hcc hDc hDc64 HoD HB5 HO5 Hsz5 Hbk2
                  go_wp2
                  go_roundw
                  case rel =>
                    exact ⟨q + 1, k, F', V', P ++ [(v, c0)], updN (updN D v 0) c0 (dc - 1), by go_num, Hbk2.out, Hsz5.out, HoD.out, HO5.out, HB5.out⟩
                  case measure => simp only [intOf]; omega
end Go.Proofs.Ytgkbkbmhdhlffaa
