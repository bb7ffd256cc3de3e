/- spec.l04Sort: edges are put in order. -/
import Derived.Test.YtgkbkbmhdhlffaaJoinP
import Derived.Test.YtgkbkbmhdhlffaaClone
import Derived.Test.YtgkbkbmhdhlffaaEdges
namespace Go.Proofs.Ytgkbkbmhdhlffaa
open Go.RowKit
theorem flat_swap (Z : List Ed) (x y : Ed) : ∀ T : List Ed, ((((flatI (T ++ y :: x :: Z)).set (2 * T.length + 2) (y.1 : Int)).set (2 * T.length + 2 + 1) (y.2 : Int)).set (2 * T.length) (x.1 : Int)).set (2 * T.length + 1) (x.2 : Int) = flatI (T ++ x :: y :: Z)
  | [] => by simp [flatI]
  | t :: T => by
    rw [List.cons_append, List.cons_append, flatI_cons, flatI_cons, List.length_cons, ← flat_swap Z x y T, show 2 * (T.length + 1) = 2 * T.length + 1 + 1 by omega]
    rfl
theorem flat_turn (Z : List Ed) (a b : Nat) : ∀ T : List Ed, ((flatI (T ++ (a, b) :: Z)).set (2 * T.length) (b : Int)).set (2 * T.length + 1) (a : Int) = flatI (T ++ (b, a) :: Z)
  | [] => by simp [flatI]
  | t :: T => by
    rw [List.cons_append, List.cons_append, flatI_cons, flatI_cons, List.length_cons, ← flat_turn Z a b T, show 2 * (T.length + 1) = 2 * T.length + 1 + 1 by omega]
    rfl
def lexle (a b : Ed) : Prop := ¬ lexlt b a
theorem ins_sorted {S1 S2 : List Ed} {x : Ed} (h : (S1 ++ S2).Pairwise lexle) (h1 : ∀ y, S1.getLast? = some y → ¬ lexlt x y) (h2 : ∀ y ∈ S2, lexlt x y) : (S1 ++ x :: S2).Pairwise lexle := by
  rw [List.pairwise_append] at h ⊢
  refine ⟨h.1, ?_, ?_⟩
  · rw [List.pairwise_cons]
    refine ⟨fun y hy hc => ?_, h.2.1⟩
    have := h2 y hy
    unfold lexlt at this hc
    omega
  · intro a ha b hb
    rcases List.mem_cons.1 hb with rfl | hb
    · rcases List.eq_nil_or_concat S1 with rfl | ⟨T, y, rfl⟩
      · cases ha
      · have hy := h1 y (by simp)
        rw [List.concat_eq_append] at ha h
        have hp := (List.pairwise_append.1 h.1).2.2
        rcases List.mem_append.1 ha with ha | ha
        · have h3 := hp a ha y (by simp)
          unfold lexle lexlt at *
          omega
        · rw [List.mem_singleton.1 ha]
          exact hy
    · exact h.2.2 a ha b hb
theorem ins_perm {S1 S2 Q : List Ed} {x : Ed} (h : S1 ++ S2 = Q) : (S1 ++ x :: S2).Perm (Q ++ [x]) := by
  subst h
  refine List.perm_middle.trans ?_
  exact (List.perm_append_singleton x (S1 ++ S2)).symm
/-- A list in order is the only one with its elements. -/
theorem sorted_eq {Q E : List Ed} (hp : Q.Perm E) (hQ : Q.Pairwise lexle) (hE : E.Pairwise lexlt) : Q = E := by
  refine hp.eq_of_pairwise (le := lexle) (fun a b _ _ h1 h2 => ?_) hQ (hE.imp fun h => ?_)
  · obtain ⟨a1, a2⟩ := a
    obtain ⟨b1, b2⟩ := b
    unfold lexle lexlt at h1 h2
    simp only at h1 h2
    rw [Prod.mk.injEq]
    omega
  · unfold lexle lexlt at *
    omega
theorem norm_lt {a b : Nat} (h : b < a) : norm (a, b) = (b, a) := by
  unfold norm
  simp only
  rw [Nat.min_eq_right (Nat.le_of_lt h), Nat.max_eq_left (Nat.le_of_lt h)]
theorem norm_le {a b : Nat} (h : a ≤ b) : norm (a, b) = (a, b) := by
  unfold norm
  simp only
  rw [Nat.min_eq_left h, Nat.max_eq_right h]
set_option maxRecDepth 20000 in
set_option maxHeartbeats 4000000 in
theorem sortE_any (A : Option Addr) (n c B : Nat) (P : List Ed) (w : World) (h : Rd w B A n (i64s (flatI P))) (hB : B ≤ w.heap.size) (hP : 1 ≤ P.length) (hlen : P.length ≤ 256) :
    Calls Try.prog 44 #[.slice A n c] w fun e w' => ∃ v, e = .returned v ∧ ∃ Q : List Ed, Q.Perm (P.map norm) ∧ Q.Pairwise lexle ∧ Own w' w.heap.size 2 v (i64s (flatI Q)) ∧ Below w.heap.size w w' := by
  have hl := h.lenI
  obtain rfl : (flatI P).length = n := hl.out
  have hfl := flatI_len P
  clear hl
  obtain ⟨b, off, rfl, hbB, hcc⟩ := h.2 (by omega)
  have hc : ∀ (j : Nat) (u : Value), (i64s (flatI P))[j]? = some u → (w.alloc (.cells #[] 2)).cell? ((⟨b, off, none⟩ : Addr).add j) = some u := by
    intro j u hu
    rw [Addr.add_lit]
    exact (World.cell?_alloc_lt w _ _ (by show b < _; omega)).trans (hcc j u hu)
  have Hc := Lib.hid hc
  have Ho := Lib.hid (own_newI w (Nat.le_refl _))
  have Hfl := Lib.hid hfl
  clear hc h hcc hfl
  go_enter Try.func44, Try.ntmps44
  go_wp2_with (at_builtin; go_must (refine emitAllI rfl _ _ rfl w.heap.size (.slice (some ⟨w.heap.size, 0, none⟩) 0 0) [] rfl Ho.out ⟨b, off, none⟩ (flatI P).length c (flatI P) rfl rfl Hc.out ?c1 ?c2 ?_))
  case c1 => rw [Hfl.out]; simp; omega
  case c2 => show w.heap.size ≤ (w.heap.push _).size; simp
  intro v' w3 hO' hg
  obtain ⟨g, c3, rfl⟩ : ∃ g c3, v' = .slice (some ⟨g, 0, none⟩) (2 * P.length) c3 := by
    obtain ⟨A3, c3, rfl, -⟩ := hO'.shapeI
    obtain ⟨g, z, hA, -⟩ := hO'.atI (k := 0) (by rw [flatI_len]; omega)
    subst hA
    exact ⟨g, c3, by rw [flatI_len]⟩
  have HO' := Lib.hid hO'
  have HB := Lib.hid (below_ownGrown ((Below.refl _ _).alloc (Nat.le_refl _) _) Ho.out hg (Nat.le_refl _) (Nat.le_refl _))
  clear hO' hg Ho Hc
  obtain ⟨N, hN⟩ : ∃ N, N = 2 * P.length := ⟨_, rfl⟩
  have HN := Lib.hid hN
  rw [← hN] at HO' ⊢
  have hN5 : N ≤ 512 := by omega
  clear hN
  go_wp2
  go_loopw [4] (fun i wr => ∃ (k m : Nat) (Q : List Ed), k ≤ P.length ∧ Hid (m = 2 * k) ∧ i = .int .i64 (m : Int) ∧ Hid (Q.Perm ((P.take k).map norm)) ∧ Hid (Q.Pairwise lexle) ∧ Own wr w.heap.size 2 (.slice (some ⟨g, 0, none⟩) N c3) (i64s (flatI (Q ++ P.drop k))) ∧ Below w.heap.size w wr) (fun i _ => N - (intOf i).toNat)
  case atStart => exact ⟨0, 0, [], Nat.zero_le _, rfl, rfl, by show List.Perm _ _; simp, List.Pairwise.nil, HO'.out, HB.out⟩
  case round =>
    obtain ⟨k, m, Q, hk, hm, rfl, hQp, hQs, hO, hbel⟩ := hrel
    have HOk := Lib.hid hO; have HBk := Lib.hid hbel
    have hQl : Hid (Q.length = k) := by show _ = _; have := hQp.out.length_eq; rw [List.length_map, List.length_take, Nat.min_eq_left hk] at this; exact this
    clear hO hbel HO' HB
    by_cases hlt : k < P.length
    · have hmN : m + 1 < N := by have := hm.out; have := HN.out; omega
      have hmI : (m : Int) < (N : Int) := by omega
      have hmI1 : (m : Int) + 1 < (N : Int) := by omega
      obtain ⟨a, b', hab⟩ : ∃ a b', P[k]? = some (a, b') := ⟨P[k].1, P[k].2, List.getElem?_eq_getElem hlt⟩
      have hdrop : P.drop k = (a, b') :: P.drop (k + 1) := by rw [List.drop_eq_getElem_cons hlt]; congr 1; have := List.getElem?_eq_getElem hlt; rw [hab] at this; exact (Option.some.inj this).symm
      have htake : (P.take (k + 1)).map norm = (P.take k).map norm ++ [norm (a, b')] := by rw [take_succ_of hab, List.map_append]; rfl
      rw [hdrop] at HOk
      have hLa : (Q ++ (a, b') :: P.drop (k + 1))[k]? = some (a, b') := by rw [List.getElem?_append_right (by rw [hQl.out]; omega), hQl.out, Nat.sub_self]; rfl
      have hfl2 : (flatI (Q ++ (a, b') :: P.drop (k + 1))).length = N := by rw [flatI_len, HN.out, List.length_append, hQl.out, List.length_cons, List.length_drop]; omega
      obtain ⟨g2, ya, hA2, hya, hca, hfa⟩ := HOk.out.atI (k := m) (by omega)
      obtain rfl : g = g2 := by injection hA2 with e; injection e
      obtain ⟨g2, yb, hA3, hyb, hcb, hfb⟩ := HOk.out.atI (k := m + 1) (by omega)
      obtain rfl : g = g2 := by injection hA3 with e; injection e
      obtain rfl : ya = (a : Int) := by have := hya.out; rw [hm.out, flatI_0 hLa] at this; exact (Option.some.inj this).symm
      obtain rfl : yb = (b' : Int) := by have := hyb.out; rw [hm.out, flatI_1 hLa] at this; exact (Option.some.inj this).symm
      have Htake := Lib.hid htake
      have Hlt := Lib.hid hlt
      obtain ⟨R, hR⟩ : ∃ R, R = P.drop (k + 1) := ⟨_, rfl⟩
      rw [← hR] at HOk hLa hfl2
      have HR := Lib.hid hR.symm
      clear hR
      clear hA2 hA3 hya hyb hLa hdrop hab htake
      have Hfl2 := Lib.hid hfl2
      clear hfl2
      by_cases hgt : b' < a
      · have HOz : Hid (Own ((wr.setCell ⟨g, m, none⟩ (.int .i64 (b' : Int))).setCell ⟨g, m + 1, none⟩ (.int .i64 (a : Int))) w.heap.size 2 (.slice (some ⟨g, 0, none⟩) N c3) (i64s (flatI (Q ++ norm (a, b') :: R)))) := by
          have h1 := (HOk.out.stored rfl m (b' : Int)).1
          have h2 := (h1.stored rfl (m + 1) (a : Int)).1
          have h3 := flat_turn R a b' Q
          rw [hQl.out, ← hm.out] at h3
          rw [h3] at h2
          rw [norm_lt hgt]
          exact h2
        have hwg : w.heap.size ≤ g := by
          have := (HOk.out.lt g (by simp [Value.ownBlock])).1
          exact this
        have HBz : Hid (Below w.heap.size w ((wr.setCell ⟨g, m, none⟩ (.int .i64 (b' : Int))).setCell ⟨g, m + 1, none⟩ (.int .i64 (a : Int)))) := (HBk.out.setCell (p := ⟨g, m, none⟩) hwg _).setCell (p := ⟨g, m + 1, none⟩) hwg _
        have hgtI : (b' : Int) < (a : Int) := by omega
        clear HOk HBk hwg
        go_wp2
        go_quiet (fail)
        go_wp2
        obtain ⟨X, hX⟩ : ∃ X : Ed, X = norm (a, b') := ⟨_, rfl⟩
        rw [← hX] at Htake HOz
        clear hX
        go_loopw [6] (fun i wi => ∃ (q : Nat) (S1 S2 : List Ed), Hid (q = 2 * S1.length) ∧ i = .int .i64 (q : Int) ∧ Hid (S1 ++ S2 = Q) ∧ Hid (∀ y ∈ S2, lexlt X y) ∧ Own wi w.heap.size 2 (.slice (some ⟨g, 0, none⟩) N c3) (i64s (flatI (S1 ++ X :: (S2 ++ R)))) ∧ Below w.heap.size w wi) (fun i _ => (intOf i).toNat)
        case atStart => exact ⟨m, Q, [], by show _ = _; rw [hQl.out]; exact hm.out, rfl, List.append_nil _, fun y hy => absurd hy List.not_mem_nil, HOz.out, below_drewN HBz.out _⟩
        case round =>
          obtain ⟨q, S1, S2, hq, rfl, hS, hS2, hO, hbel⟩ := hrel
          have HOi := Lib.hid hO; have HBi := Lib.hid hbel
          clear hO hbel HOz HBz
          have hSl : S1.length ≤ 256 := by have h1 := hS.out; have h2 := congrArg List.length h1; rw [List.length_append, hQl.out] at h2; omega
          have hdone : (∀ y, S1.getLast? = some y → ¬ lexlt X y) → Hid ((S1 ++ X :: S2).Perm ((P.take (k + 1)).map norm)) ∧ Hid ((S1 ++ X :: S2).Pairwise lexle) := fun hl => ⟨by
              show List.Perm _ _
              rw [Htake.out]
              exact (ins_perm hS.out).trans (hQp.out.append_right _), ins_sorted (by rw [hS.out]; exact hQs.out) hl hS2.out⟩
          have Hdone := Lib.hid hdone
          clear hdone
          have hfl3 : Hid ((flatI (S1 ++ X :: (S2 ++ R))).length = N) := by
            show _ = _
            have h1 := Hfl2.out
            rw [flatI_len, List.length_append, List.length_cons, ← hS.out, List.length_append] at h1
            rw [flatI_len, List.length_append, List.length_cons, List.length_append]
            omega
          have happ : Hid (S1 ++ X :: (S2 ++ R) = (S1 ++ X :: S2) ++ R) := by show _ = _; simp
          have hmw : IntKind.i64.wrap ((m : Int) + 2) = ((m + 2 : Nat) : Int) := IntWalk.i64_in _ (by omega)
          rcases List.eq_nil_or_concat S1 with rfl | ⟨T, y, rfl⟩
          · obtain rfl : q = 0 := hq.out
            obtain ⟨hd1, hd2⟩ := Hdone.out (by simp)
            rw [happ.out] at HOi
            clear Hdone happ
            go_wp2
            go_quiet (fail)
            go_wp2
            go_roundw
            case rel => exact ⟨k + 1, m + 2, _, by have := Hlt.out; omega, by show _ = _; have := hm.out; omega, by go_num, hd1.out, hd2.out, by rw [HR.out]; exact HOi.out.drewN _, below_drewN HBi.out _⟩
            case measure => simp only [intOf]; omega
          · rw [List.concat_eq_append] at hq hS Hdone hfl3 happ HOi hSl
            have hlast : (T ++ [y]).getLast? = some y := by simp
            obtain ⟨p, hp⟩ : ∃ p, p = 2 * T.length := ⟨_, rfl⟩
            have Hqp : Hid (q = p + 2) := by show _ = _; have := hq.out; rw [List.length_append, List.length_singleton] at this; omega
            have Hp := Lib.hid hp
            have happ2 : Hid ((T ++ [y]) ++ X :: (S2 ++ R) = T ++ y :: X :: (S2 ++ R)) := by show _ = _; simp
            have hpn : p + 3 < N := by have h1 := hfl3.out; rw [happ2.out, flatI_len, List.length_append, List.length_cons, List.length_cons] at h1; omega
            rw [happ2.out] at HOi
            have hgT : (T ++ y :: X :: (S2 ++ R))[T.length]? = some y := by rw [List.getElem?_append_right (Nat.le_refl _), Nat.sub_self]; rfl
            have hgX : (T ++ y :: X :: (S2 ++ R))[T.length + 1]? = some X := by rw [List.getElem?_append_right (by omega), show T.length + 1 - T.length = 1 by omega]; rfl
            have hlf : (flatI (T ++ y :: X :: (S2 ++ R))).length = N := by rw [← happ2.out]; exact hfl3.out
            have key : ∀ j z, (flatI (T ++ y :: X :: (S2 ++ R)))[j]? = some z → wr.cell? ⟨g, j, none⟩ = some (.int .i64 z) ∧ wr.frozen? ⟨g, j, none⟩ = false := by
              intro j z hz
              obtain ⟨g2, z2, hA, hz2, hc2, hf2⟩ := HOi.out.atI (k := j) (List.getElem?_eq_some_iff.1 hz).1
              obtain rfl : g = g2 := by injection hA with e; injection e
              obtain rfl : z2 = z := by have := hz2.out; rw [hz] at this; exact (Option.some.inj this).symm
              exact ⟨hc2, hf2⟩
            obtain ⟨cy1, fy1⟩ := key p _ (by rw [hp]; exact flatI_0 hgT)
            obtain ⟨cy2, fy2⟩ := key (p + 1) _ (by rw [hp]; exact flatI_1 hgT)
            obtain ⟨cx1, fx1⟩ := key q _ (by rw [Hqp.out, hp, show 2 * T.length + 2 = 2 * (T.length + 1) by omega]; exact flatI_0 hgX)
            obtain ⟨cx2, fx2⟩ := key (q + 1) _ (by rw [Hqp.out, hp, show 2 * T.length + 2 + 1 = 2 * (T.length + 1) + 1 by omega]; exact flatI_1 hgX)
            have hq0 : (0 : Int) < (q : Int) := by have := Hqp.out; omega
            have hq0n : 0 < q := by have := Hqp.out; omega
            have hw2 : IntKind.i64.wrap ((q : Int) - 2) = (p : Int) := by have := Hqp.out; rw [IntKind.wrap_i64]; omega
            have hw1 : IntKind.i64.wrap ((q : Int) - 1) = (p : Int) + 1 := by have := Hqp.out; rw [IntKind.wrap_i64]; omega
            have hw3 : IntKind.i64.wrap ((q : Int) + 1) = (q : Int) + 1 := by have := Hqp.out; rw [IntKind.wrap_i64]; omega
            have hl0 : (q : Int) < (N : Int) := by have := Hqp.out; omega
            have hl1 : (q : Int) + 1 < (N : Int) := by have := Hqp.out; omega
            have hl2 : (p : Int) < (N : Int) := by omega
            have hl3 : (p : Int) + 1 < (N : Int) := by omega
            have hd1 : ¬ q = p := by have := Hqp.out; omega
            have hd2 : ¬ q = p + 1 := by have := Hqp.out; omega
            have hd3 : ¬ q + 1 = p := by have := Hqp.out; omega
            have hd4 : ¬ q + 1 = p + 1 := by have := Hqp.out; omega
            have HS : Hid (T ++ y :: S2 = Q) := by show _ = _; rw [← hS.out]; simp
            clear key hgT hgX hlf hp
            by_cases hlex : lexlt X y
            · have hS2' : Hid (∀ z ∈ y :: S2, lexlt X z) := fun z hz => by
                rcases List.mem_cons.1 hz with rfl | hz
                · exact hlex
                · exact hS2.out z hz
              have HOs : Hid (Own ((((wr.setCell ⟨g, q, none⟩ (.int .i64 (y.1 : Int))).setCell ⟨g, q + 1, none⟩ (.int .i64 (y.2 : Int))).setCell ⟨g, p, none⟩ (.int .i64 (X.1 : Int))).setCell ⟨g, p + 1, none⟩ (.int .i64 (X.2 : Int))) w.heap.size 2 (.slice (some ⟨g, 0, none⟩) N c3) (i64s (flatI (T ++ X :: (y :: S2 ++ R))))) := by
                have h1 := (HOi.out.stored rfl q (y.1 : Int)).1
                have h2 := (h1.stored rfl (q + 1) (y.2 : Int)).1
                have h3 := (h2.stored rfl p (X.1 : Int)).1
                have h4 := (h3.stored rfl (p + 1) (X.2 : Int)).1
                have h5 := flat_swap (S2 ++ R) X y T
                rw [← Hp.out, ← Hqp.out] at h5
                rw [h5] at h4
                exact h4
              have hwg : w.heap.size ≤ g := by
                have := (HOi.out.lt g (by simp [Value.ownBlock])).1
                exact this
              have HBs : Hid (Below w.heap.size w ((((wr.setCell ⟨g, q, none⟩ (.int .i64 (y.1 : Int))).setCell ⟨g, q + 1, none⟩ (.int .i64 (y.2 : Int))).setCell ⟨g, p, none⟩ (.int .i64 (X.1 : Int))).setCell ⟨g, p + 1, none⟩ (.int .i64 (X.2 : Int)))) := (((HBi.out.setCell (p := ⟨g, q, none⟩) hwg _).setCell (p := ⟨g, q + 1, none⟩) hwg _).setCell (p := ⟨g, p, none⟩) hwg _).setCell (p := ⟨g, p + 1, none⟩) hwg _
              clear Hdone happ HOi HBi hS2 hfl3 happ2 hS hwg
              obtain ⟨X1, X2⟩ := X
              obtain ⟨y1, y2⟩ := y
              simp only at cy1 cy2 cx1 cx2
              unfold lexlt at hlex
              simp only at hlex
              by_cases hx1 : (X1 : Int) < (y1 : Int)
              · have hx1n : X1 < y1 := by omega
                clear hlex
                go_wp2
                go_quiet (fail)
                go_wp2
                go_roundw
                case rel => exact ⟨p, T, (_, _) :: S2, Hp.out, by go_num, HS.out, hS2'.out, HOs.out.drewN _, below_drewN HBs.out _⟩
                case measure => have := Hqp.out; simp only [intOf]; omega
              · have hx2 : X1 = y1 := by omega
                subst hx2
                have hx3 : (X2 : Int) < (y2 : Int) := by omega
                have hx3n : X2 < y2 := by omega
                have hx5 : decide (X2 < y2) = true := decide_eq_true hx3n
                have hx6 : decide (X1 < X1) = false := by simp
                clear hlex
                go_wp2
                go_quiet (fail)
                go_wp2
                go_roundw
                case rel => exact ⟨p, T, (_, _) :: S2, Hp.out, by go_num, HS.out, hS2'.out, HOs.out.drewN _, below_drewN HBs.out _⟩
                case measure => have := Hqp.out; simp only [intOf]; omega
            · obtain ⟨hd5, hd6⟩ := Hdone.out (by rw [hlast]; rintro z hz; obtain rfl := Option.some.inj hz; exact hlex)
              rw [← happ2.out, happ.out] at HOi
              clear Hdone happ hfl3 happ2 hS2 hS
              have Hd5 := Lib.hid hd5; have Hd6 := Lib.hid hd6
              clear hd5 hd6
              obtain ⟨X1, X2⟩ := X
              obtain ⟨y1, y2⟩ := y
              simp only at cy1 cy2 cx1 cx2
              unfold lexlt at hlex
              simp only at hlex
              by_cases hx1 : X1 = y1
              · subst hx1
                have hx3 : ¬ (X2 : Int) < (y2 : Int) := by omega
                have hx4 : decide ((X2 : Int) < (y2 : Int)) = false := by simpa using hx3
                have hx5 : decide (X2 < y2) = false := by simpa using hx3
                have hx6 : decide (X1 < X1) = false := by simp
                clear hlex
                go_wp2
                go_quiet (fail)
                go_wp2
                go_roundw
                case rel => exact ⟨k + 1, m + 2, _, by have := Hlt.out; omega, by show _ = _; have := hm.out; omega, by go_num, Hd5.out, Hd6.out, by rw [HR.out]; exact HOi.out.drewN _, below_drewN HBi.out _⟩
                case measure => simp only [intOf]; omega
              · have hx2 : ¬ (X1 : Int) < (y1 : Int) := by omega
                have hx3 : decide ((X1 : Int) < (y1 : Int)) = false := by simpa using hx2
                have hx4 : ((X1 : Int) == (y1 : Int)) = false := by rw [beq_eq_false_iff_ne]; omega
                have hx5 : decide (X1 < y1) = false := by simpa using hx2
                have hx6 : (X1 == y1) = false := by rw [beq_eq_false_iff_ne]; exact hx1
                clear hlex
                go_wp2
                go_quiet (fail)
                go_wp2
                go_roundw
                case rel => exact ⟨k + 1, m + 2, _, by have := Hlt.out; omega, by show _ = _; have := hm.out; omega, by go_num, Hd5.out, Hd6.out, by rw [HR.out]; exact HOi.out.drewN _, below_drewN HBi.out _⟩
                case measure => simp only [intOf]; omega
      · have HOz : Hid (Own wr w.heap.size 2 (.slice (some ⟨g, 0, none⟩) N c3) (i64s (flatI (Q ++ norm (a, b') :: R)))) := by
          rw [norm_le (by omega)]
          exact HOk.out
        have HBz := HBk
        clear HOk HBk
        have hgtI : ¬ (b' : Int) < (a : Int) := by omega
        go_wp2
        go_quiet (fail)
        go_wp2
        obtain ⟨X, hX⟩ : ∃ X : Ed, X = norm (a, b') := ⟨_, rfl⟩
        rw [← hX] at Htake HOz
        clear hX
        go_loopw [6] (fun i wi => ∃ (q : Nat) (S1 S2 : List Ed), Hid (q = 2 * S1.length) ∧ i = .int .i64 (q : Int) ∧ Hid (S1 ++ S2 = Q) ∧ Hid (∀ y ∈ S2, lexlt X y) ∧ Own wi w.heap.size 2 (.slice (some ⟨g, 0, none⟩) N c3) (i64s (flatI (S1 ++ X :: (S2 ++ R)))) ∧ Below w.heap.size w wi) (fun i _ => (intOf i).toNat)
        case atStart => exact ⟨m, Q, [], by show _ = _; rw [hQl.out]; exact hm.out, rfl, List.append_nil _, fun y hy => absurd hy List.not_mem_nil, HOz.out, below_drewN HBz.out _⟩
        case round =>
          obtain ⟨q, S1, S2, hq, rfl, hS, hS2, hO, hbel⟩ := hrel
          have HOi := Lib.hid hO; have HBi := Lib.hid hbel
          clear hO hbel HOz HBz
          have hSl : S1.length ≤ 256 := by have h1 := hS.out; have h2 := congrArg List.length h1; rw [List.length_append, hQl.out] at h2; omega
          have hdone : (∀ y, S1.getLast? = some y → ¬ lexlt X y) → Hid ((S1 ++ X :: S2).Perm ((P.take (k + 1)).map norm)) ∧ Hid ((S1 ++ X :: S2).Pairwise lexle) := fun hl => ⟨by
              show List.Perm _ _
              rw [Htake.out]
              exact (ins_perm hS.out).trans (hQp.out.append_right _), ins_sorted (by rw [hS.out]; exact hQs.out) hl hS2.out⟩
          have Hdone := Lib.hid hdone
          clear hdone
          have hfl3 : Hid ((flatI (S1 ++ X :: (S2 ++ R))).length = N) := by
            show _ = _
            have h1 := Hfl2.out
            rw [flatI_len, List.length_append, List.length_cons, ← hS.out, List.length_append] at h1
            rw [flatI_len, List.length_append, List.length_cons, List.length_append]
            omega
          have happ : Hid (S1 ++ X :: (S2 ++ R) = (S1 ++ X :: S2) ++ R) := by show _ = _; simp
          have hmw : IntKind.i64.wrap ((m : Int) + 2) = ((m + 2 : Nat) : Int) := IntWalk.i64_in _ (by omega)
          rcases List.eq_nil_or_concat S1 with rfl | ⟨T, y, rfl⟩
          · obtain rfl : q = 0 := hq.out
            obtain ⟨hd1, hd2⟩ := Hdone.out (by simp)
            rw [happ.out] at HOi
            clear Hdone happ
            go_wp2
            go_quiet (fail)
            go_wp2
            go_roundw
            case rel => exact ⟨k + 1, m + 2, _, by have := Hlt.out; omega, by show _ = _; have := hm.out; omega, by go_num, hd1.out, hd2.out, by rw [HR.out]; exact HOi.out.drewN _, below_drewN HBi.out _⟩
            case measure => simp only [intOf]; omega
          · rw [List.concat_eq_append] at hq hS Hdone hfl3 happ HOi hSl
            have hlast : (T ++ [y]).getLast? = some y := by simp
            obtain ⟨p, hp⟩ : ∃ p, p = 2 * T.length := ⟨_, rfl⟩
            have Hqp : Hid (q = p + 2) := by show _ = _; have := hq.out; rw [List.length_append, List.length_singleton] at this; omega
            have Hp := Lib.hid hp
            have happ2 : Hid ((T ++ [y]) ++ X :: (S2 ++ R) = T ++ y :: X :: (S2 ++ R)) := by show _ = _; simp
            have hpn : p + 3 < N := by have h1 := hfl3.out; rw [happ2.out, flatI_len, List.length_append, List.length_cons, List.length_cons] at h1; omega
            rw [happ2.out] at HOi
            have hgT : (T ++ y :: X :: (S2 ++ R))[T.length]? = some y := by rw [List.getElem?_append_right (Nat.le_refl _), Nat.sub_self]; rfl
            have hgX : (T ++ y :: X :: (S2 ++ R))[T.length + 1]? = some X := by rw [List.getElem?_append_right (by omega), show T.length + 1 - T.length = 1 by omega]; rfl
            have hlf : (flatI (T ++ y :: X :: (S2 ++ R))).length = N := by rw [← happ2.out]; exact hfl3.out
            have key : ∀ j z, (flatI (T ++ y :: X :: (S2 ++ R)))[j]? = some z → wr.cell? ⟨g, j, none⟩ = some (.int .i64 z) ∧ wr.frozen? ⟨g, j, none⟩ = false := by
              intro j z hz
              obtain ⟨g2, z2, hA, hz2, hc2, hf2⟩ := HOi.out.atI (k := j) (List.getElem?_eq_some_iff.1 hz).1
              obtain rfl : g = g2 := by injection hA with e; injection e
              obtain rfl : z2 = z := by have := hz2.out; rw [hz] at this; exact (Option.some.inj this).symm
              exact ⟨hc2, hf2⟩
            obtain ⟨cy1, fy1⟩ := key p _ (by rw [hp]; exact flatI_0 hgT)
            obtain ⟨cy2, fy2⟩ := key (p + 1) _ (by rw [hp]; exact flatI_1 hgT)
            obtain ⟨cx1, fx1⟩ := key q _ (by rw [Hqp.out, hp, show 2 * T.length + 2 = 2 * (T.length + 1) by omega]; exact flatI_0 hgX)
            obtain ⟨cx2, fx2⟩ := key (q + 1) _ (by rw [Hqp.out, hp, show 2 * T.length + 2 + 1 = 2 * (T.length + 1) + 1 by omega]; exact flatI_1 hgX)
            have hq0 : (0 : Int) < (q : Int) := by have := Hqp.out; omega
            have hq0n : 0 < q := by have := Hqp.out; omega
            have hw2 : IntKind.i64.wrap ((q : Int) - 2) = (p : Int) := by have := Hqp.out; rw [IntKind.wrap_i64]; omega
            have hw1 : IntKind.i64.wrap ((q : Int) - 1) = (p : Int) + 1 := by have := Hqp.out; rw [IntKind.wrap_i64]; omega
            have hw3 : IntKind.i64.wrap ((q : Int) + 1) = (q : Int) + 1 := by have := Hqp.out; rw [IntKind.wrap_i64]; omega
            have hl0 : (q : Int) < (N : Int) := by have := Hqp.out; omega
            have hl1 : (q : Int) + 1 < (N : Int) := by have := Hqp.out; omega
            have hl2 : (p : Int) < (N : Int) := by omega
            have hl3 : (p : Int) + 1 < (N : Int) := by omega
            have hd1 : ¬ q = p := by have := Hqp.out; omega
            have hd2 : ¬ q = p + 1 := by have := Hqp.out; omega
            have hd3 : ¬ q + 1 = p := by have := Hqp.out; omega
            have hd4 : ¬ q + 1 = p + 1 := by have := Hqp.out; omega
            have HS : Hid (T ++ y :: S2 = Q) := by show _ = _; rw [← hS.out]; simp
            clear key hgT hgX hlf hp
            by_cases hlex : lexlt X y
            · have hS2' : Hid (∀ z ∈ y :: S2, lexlt X z) := fun z hz => by
                rcases List.mem_cons.1 hz with rfl | hz
                · exact hlex
                · exact hS2.out z hz
              have HOs : Hid (Own ((((wr.setCell ⟨g, q, none⟩ (.int .i64 (y.1 : Int))).setCell ⟨g, q + 1, none⟩ (.int .i64 (y.2 : Int))).setCell ⟨g, p, none⟩ (.int .i64 (X.1 : Int))).setCell ⟨g, p + 1, none⟩ (.int .i64 (X.2 : Int))) w.heap.size 2 (.slice (some ⟨g, 0, none⟩) N c3) (i64s (flatI (T ++ X :: (y :: S2 ++ R))))) := by
                have h1 := (HOi.out.stored rfl q (y.1 : Int)).1
                have h2 := (h1.stored rfl (q + 1) (y.2 : Int)).1
                have h3 := (h2.stored rfl p (X.1 : Int)).1
                have h4 := (h3.stored rfl (p + 1) (X.2 : Int)).1
                have h5 := flat_swap (S2 ++ R) X y T
                rw [← Hp.out, ← Hqp.out] at h5
                rw [h5] at h4
                exact h4
              have hwg : w.heap.size ≤ g := by
                have := (HOi.out.lt g (by simp [Value.ownBlock])).1
                exact this
              have HBs : Hid (Below w.heap.size w ((((wr.setCell ⟨g, q, none⟩ (.int .i64 (y.1 : Int))).setCell ⟨g, q + 1, none⟩ (.int .i64 (y.2 : Int))).setCell ⟨g, p, none⟩ (.int .i64 (X.1 : Int))).setCell ⟨g, p + 1, none⟩ (.int .i64 (X.2 : Int)))) := (((HBi.out.setCell (p := ⟨g, q, none⟩) hwg _).setCell (p := ⟨g, q + 1, none⟩) hwg _).setCell (p := ⟨g, p, none⟩) hwg _).setCell (p := ⟨g, p + 1, none⟩) hwg _
              clear Hdone happ HOi HBi hS2 hfl3 happ2 hS hwg
              obtain ⟨X1, X2⟩ := X
              obtain ⟨y1, y2⟩ := y
              simp only at cy1 cy2 cx1 cx2
              unfold lexlt at hlex
              simp only at hlex
              by_cases hx1 : (X1 : Int) < (y1 : Int)
              · have hx1n : X1 < y1 := by omega
                clear hlex
                go_wp2
                go_quiet (fail)
                go_wp2
                go_roundw
                case rel => exact ⟨p, T, (_, _) :: S2, Hp.out, by go_num, HS.out, hS2'.out, HOs.out.drewN _, below_drewN HBs.out _⟩
                case measure => have := Hqp.out; simp only [intOf]; omega
              · have hx2 : X1 = y1 := by omega
                subst hx2
                have hx3 : (X2 : Int) < (y2 : Int) := by omega
                have hx3n : X2 < y2 := by omega
                have hx5 : decide (X2 < y2) = true := decide_eq_true hx3n
                have hx6 : decide (X1 < X1) = false := by simp
                clear hlex
                go_wp2
                go_quiet (fail)
                go_wp2
                go_roundw
                case rel => exact ⟨p, T, (_, _) :: S2, Hp.out, by go_num, HS.out, hS2'.out, HOs.out.drewN _, below_drewN HBs.out _⟩
                case measure => have := Hqp.out; simp only [intOf]; omega
            · obtain ⟨hd5, hd6⟩ := Hdone.out (by rw [hlast]; rintro z hz; obtain rfl := Option.some.inj hz; exact hlex)
              rw [← happ2.out, happ.out] at HOi
              clear Hdone happ hfl3 happ2 hS2 hS
              have Hd5 := Lib.hid hd5; have Hd6 := Lib.hid hd6
              clear hd5 hd6
              obtain ⟨X1, X2⟩ := X
              obtain ⟨y1, y2⟩ := y
              simp only at cy1 cy2 cx1 cx2
              unfold lexlt at hlex
              simp only at hlex
              by_cases hx1 : X1 = y1
              · subst hx1
                have hx3 : ¬ (X2 : Int) < (y2 : Int) := by omega
                have hx4 : decide ((X2 : Int) < (y2 : Int)) = false := by simpa using hx3
                have hx5 : decide (X2 < y2) = false := by simpa using hx3
                have hx6 : decide (X1 < X1) = false := by simp
                clear hlex
                go_wp2
                go_quiet (fail)
                go_wp2
                go_roundw
                case rel => exact ⟨k + 1, m + 2, _, by have := Hlt.out; omega, by show _ = _; have := hm.out; omega, by go_num, Hd5.out, Hd6.out, by rw [HR.out]; exact HOi.out.drewN _, below_drewN HBi.out _⟩
                case measure => simp only [intOf]; omega
              · have hx2 : ¬ (X1 : Int) < (y1 : Int) := by omega
                have hx3 : decide ((X1 : Int) < (y1 : Int)) = false := by simpa using hx2
                have hx4 : ((X1 : Int) == (y1 : Int)) = false := by rw [beq_eq_false_iff_ne]; omega
                have hx5 : decide (X1 < y1) = false := by simpa using hx2
                have hx6 : (X1 == y1) = false := by rw [beq_eq_false_iff_ne]; exact hx1
                clear hlex
                go_wp2
                go_quiet (fail)
                go_wp2
                go_roundw
                case rel => exact ⟨k + 1, m + 2, _, by have := Hlt.out; omega, by show _ = _; have := hm.out; omega, by go_num, Hd5.out, Hd6.out, by rw [HR.out]; exact HOi.out.drewN _, below_drewN HBi.out _⟩
                case measure => simp only [intOf]; omega
    · obtain rfl : k = P.length := by omega
      have hmN : ¬ (m : Int) < (N : Int) := by have := hm.out; have := HN.out; omega
      rw [List.drop_length, List.append_nil] at HOk
      rw [List.take_length] at hQp
      go_wp2
      go_ret
      exact ⟨_, rfl, Q, hQp.out, hQs.out, HOk.out, HBk.out⟩
end Go.Proofs.Ytgkbkbmhdhlffaa
