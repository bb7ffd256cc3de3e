/- MeetingsIn: walks of both functions. -/
import Derived.Test.YtgkbkbmhdhlffaaMeetP
import Derived.Test.YtgkbkbmhdhlffaaClone
import Derived.Test.YtgkbkbmhdhlffaaCompLayYtgkbkbmhdhlffaa
import Derived.Test.YtgkbkbmhdhlffaaShapesN
import Derived.Deep.RegionLaw
import Derived.Deep.QuietTactic
namespace Go.Proofs.Ytgkbkbmhdhlffaa
open Go.RowKit
set_option maxRecDepth 100000
/-- An element appended, as one step of a region that draws its order: the slice is the call's own, the world has moved at one block besides since. -/
theorem step_emitI {w0 w : World} {ops : Array Oper} {o : Oper} {a : Act} {K : Act → World → Prop} {Q : Exit → Act → World → Prop} {E : Prop} (hgd : o.guard = none) (s x : Operand)
    (ho : o.op = .call { callee := .builtin .append, args := #[s, x], argTypes := #[22, 22] })
    (base : Nat) (v : Value) (xs : List Int) (hs : a.eval s = v) (hown : Own w0 base 2 v (i64s xs)) (gs : Nat) (hne : v.ownBlock ≠ some gs) (hgr : w0.grownBy w (some gs)) (u : Int) (h : Nat) (hx : a.eval x = .slice (some ⟨h, 0, none⟩) 1 1) (hc : w.cell? ⟨h, 0, none⟩ = some (.int .i64 u))
    (h63 : xs.length ≤ 2000000) (hbase : base ≤ w0.heap.size)
    (hK : ∀ v' w', Own w' base 2 v' (i64s (xs ++ [u])) → w.grownBy w' v.ownBlock → (v'.ownBlock = v.ownBlock ∨ ∃ k, v'.ownBlock = some k ∧ w.heap.size ≤ k) → K (a.put o.dst v') w') :
    if Region.wanted o (yielded ops a.tmps) = true then Oper.wp Try.prog o a w K Q else E := by
  have hw : Region.wanted o (yielded ops a.tmps) = true := by simp [Region.wanted, hgd]
  rw [if_pos hw]
  obtain ⟨i0, hi0, hz0, hz1, hz2⟩ := info_parts info_i64'
  have hown1 : Own w base 2 v (i64s xs) := hown.kept hgr (.inr hne)
  have hown' : w.ownsRow base 2 1 v xs.length (i64s xs) := by have := hown1; unfold Own at this; rwa [i64s_length] at this
  obtain ⟨v', w', hrun, h2, h3, _, h5⟩ := run_append_own_at (P := Try.prog) w base 22 o.type 2 i0 (.int .i64 0) 1 8 Try.underlying22 hi0 hz0 hz1 hz2 rfl (by decide) v xs.length (i64s xs) hown' ⟨h, 0, none⟩ 1 1 [.int .i64 u] rfl (fun j u' hu => by
    cases j with
    | zero => simp only [List.getElem?_cons_zero, Option.some.injEq] at hu; subst hu; simpa [Addr.add] using hc
    | succ j => simp at hu) (one_one _ rfl) (by unfold maxLen; omega) (by omega) (Nat.le_trans hbase hgr.size)
  unfold Oper.wp
  simp only [execOp, ho, resolve, invoke, builtin, Sem.run_bind, Sem.run_pure, Result.andThen_ok, List.map_toArray, List.map_cons, List.map_nil, hs, hx, hrun]
  refine hK v' w' ?_ h3 ?_
  · unfold Own
    rw [i64s_snoc, List.length_append, i64s_length]
    exact h2
  · rcases h5 with h5 | h5
    · exact .inl h5
    · exact .inr ⟨_, h5, Nat.le_refl _⟩
theorem notWord_any (n : Int) (w : World) : Calls Try.prog 39 #[.int .i64 n] w fun e w' => e = .returned (.bool (!inB n 0 4294967295)) ∧ w = w' := by
  go_enter Try.func39, Try.ntmps39
  go_wp2_with (go_at_call 24; refine (within_any _ _ _ _).mono ?_; rintro e w' ⟨rfl, rfl⟩)
  go_ret
  exact ⟨rfl, rfl⟩
set_option maxHeartbeats 1000000 in
theorem findW_any (A : Option Addr) (n c B : Nat) (xs : List Int) (w : World) (h : Rd w B A n (i64s xs)) (hn : xs.length ≤ 2000000) :
    Calls Try.prog 51 #[.slice A n c, .func (.func 39) #[] #[]] w fun e w' => ∃ k : Int, e = .returned (.int .i64 k) ∧ Hid (decide (k ≥ 0) = !allWords xs) ∧ w = w' := by
  have hl := h.lenI
  obtain rfl : xs.length = n := hl.out
  clear hl
  go_enter Try.func51, Try.ntmps51
  go_wp2_with fail
  go_loop [8] (fun i => ∃ k : Nat, k ≤ xs.length ∧ i = .int .i64 k ∧ Hid (∀ j x, j < k → xs[j]? = some x → inB x 0 4294967295 = true)) (fun i => xs.length - (intOf i).toNat)
  case atStart => exact ⟨0, Nat.zero_le _, rfl, fun j x hj => absurd hj (by omega)⟩
  case round =>
    obtain ⟨k, hk, rfl, hv⟩ := hrel
    by_cases hlt : k < xs.length
    · obtain ⟨b, off, x, rfl, hbB, hx, hc⟩ := h.atI hlt
      have hlt' : (k : Int) < (xs.length : Int) := by omega
      clear h
      by_cases hp : inB x 0 4294967295 = true
      · have hvs : Hid (∀ j x, j < k + 1 → xs[j]? = some x → inB x 0 4294967295 = true) := by
          intro j y hj hy
          by_cases hjk : j < k
          · exact hv.out j y hjk hy
          · obtain rfl : j = k := by omega
            have := hx.out.symm.trans hy
            injection this with this
            rw [← this]; exact hp
        go_wp2_with fail
        refine (notWord_any _ _).mono ?_
        rintro e w2 ⟨rfl, rfl⟩
        rw [hp]
        clear hp
        go_wp2
        go_round
        case rel => exact ⟨k + 1, by omega, by go_num, hvs⟩
        case measure => simp [intOf]; omega
      · have hp' : inB x 0 4294967295 = false := by simpa using hp
        have hall := allWords_false hx.out hp'
        go_wp2_with fail
        refine (notWord_any _ _).mono ?_
        rintro e w2 ⟨rfl, rfl⟩
        rw [hp']
        have Hall := Lib.hid hall
        clear hp hp' hall
        go_wp2
        go_ret
        exact ⟨k, rfl, by show _ = _; rw [Hall.out]; simp, rfl⟩
    · have hall := allWords_true (xs := xs) (fun j x hx => hv.out j x (by have := (List.getElem?_eq_some_iff.1 hx).1; omega) hx)
      have Hall := Lib.hid hall
      clear hall
      go_wp2
      go_ret
      exact ⟨-1, rfl, by show _ = _; rw [Hall.out]; simp, rfl⟩
theorem hasBad_any (A : Option Addr) (n c B : Nat) (xs : List Int) (w : World) (h : Rd w B A n (i64s xs)) (hn : xs.length ≤ 2000000) :
    Calls Try.prog 38 #[.slice A n c, .func (.func 39) #[] #[]] w fun e w' => e = .returned (.bool (!allWords xs)) ∧ w = w' := by
  go_enter Try.func38, Try.ntmps38
  go_wp2_with fail
  refine (findW_any A n c B xs _ h hn).mono ?_
  rintro e w2 ⟨k, rfl, hk, rfl⟩
  go_wp2
  go_ret
  exact ⟨ret_bool hk.out, rfl⟩
theorem implAreWords_any (A : Option Addr) (n c B : Nat) (xs : List Int) (w : World) (h : Rd w B A n (i64s xs)) (hn : xs.length ≤ 1048576) :
    Calls Try.prog 23 #[.slice A n c] w fun e w' => e = .returned (.bool (areWords xs)) ∧ w = w' := by
  have hl := h.lenI
  obtain rfl : xs.length = n := hl.out
  clear hl
  by_cases h1 : 1 ≤ xs.length
  · by_cases h2 : xs.length ≤ 256
    · have hfin : Hid (areWords xs = allWords xs) := by show _ = _; rw [areWords, inB_mk ⟨by omega, by omega⟩]; rfl
      have h1' : (1 : Int) ≤ (xs.length : Int) := by omega
      have h2' : (xs.length : Int) ≤ 256 := by omega
      go_enter Try.func23, Try.ntmps23
      go_wp2_with fail
      refine (hasBad_any A xs.length c B xs _ h (by omega)).mono ?_
      rintro e w2 ⟨rfl, rfl⟩
      go_wp2
      go_ret
      exact ⟨ret_bool (by rw [hfin.out]; try simp), rfl⟩
    · have hfin : Hid (areWords xs = false) := by show _ = _; rw [areWords, inB_not (by omega)]; rfl
      have h1' : (1 : Int) ≤ (xs.length : Int) := by omega
      have h2' : ¬ (xs.length : Int) ≤ 256 := by omega
      clear h
      go_enter Try.func23, Try.ntmps23
      go_wp2_with fail
      go_ret
      exact ⟨ret_bool hfin.out.symm, rfl⟩
  · have hfin : Hid (areWords xs = false) := by show _ = _; rw [areWords, inB_not (by omega)]; rfl
    have h1' : ¬ (1 : Int) ≤ (xs.length : Int) := by omega
    clear h
    go_enter Try.func23, Try.ntmps23
    go_wp2_with fail
    go_ret
    exact ⟨ret_bool hfin.out.symm, rfl⟩
theorem specAreWords_any (A : Option Addr) (n c B : Nat) (xs : List Int) (w : World) (h : Rd w B A n (i64s xs)) (hn : xs.length ≤ 1048576) :
    Calls Try.prog 19 #[.slice A n c] w fun e w' => e = .returned (.bool (areWords xs)) ∧ w = w' := by
  have hl := h.lenI
  obtain rfl : xs.length = n := hl.out
  clear hl
  go_enter Try.func19, Try.ntmps19
  go_wp2
  go_loop [3] (fun i => ∃ k : Nat, k ≤ xs.length ∧ i = .int .i64 k ∧ Hid (∀ j x, j < k → xs[j]? = some x → inB x 0 4294967295 = true)) (fun i => xs.length - (intOf i).toNat)
  case atStart => exact ⟨0, Nat.zero_le _, rfl, fun j x hj => absurd hj (by omega)⟩
  case round =>
    obtain ⟨k, hk, rfl, hv⟩ := hrel
    by_cases hlt : k < xs.length
    · obtain ⟨b, off, x, rfl, hbB, hx, hc⟩ := h.atI hlt
      have hlt' : (k : Int) < (xs.length : Int) := by omega
      clear h
      cases hp : inB x 0 4294967295 with
      | true =>
        have hvs : Hid (∀ j x, j < k + 1 → xs[j]? = some x → inB x 0 4294967295 = true) := by
          intro j y hj hy
          by_cases hjk : j < k
          · exact hv.out j y hjk hy
          · obtain rfl : j = k := by omega
            have := hx.out.symm.trans hy
            injection this with this
            rw [← this]; exact hp
        go_wp2_with fail
        refine (l00In_any _ _ _ _).mono ?_
        rintro e w2 ⟨rfl, rfl⟩
        rw [hp]
        clear hp
        go_wp2
        go_round
        case rel => exact ⟨k + 1, by omega, by go_num, hvs⟩
        case measure => simp [intOf]; omega
      | false =>
        have hfin : Hid (areWords xs = false) := by show _ = _; rw [areWords, allWords_false hx.out hp, Bool.and_false]
        go_wp2_with fail
        refine (l00In_any _ _ _ _).mono ?_
        rintro e w2 ⟨rfl, rfl⟩
        rw [hp]
        clear hp
        go_wp2
        go_ret
        exact ⟨ret_bool hfin.out.symm, rfl⟩
    · have hall := allWords_true (xs := xs) (fun j x hx => hv.out j x (by have := (List.getElem?_eq_some_iff.1 hx).1; omega) hx)
      have hfin : Hid (areWords xs = decide (1 ≤ xs.length ∧ xs.length ≤ 256)) := by
        show _ = _
        rw [areWords, hall, Bool.and_true]
        unfold inB
        exact decide_eq_decide.2 (by omega)
      clear hall hv h
      by_cases h1 : 1 ≤ xs.length
      · have h1' : (1 : Int) ≤ (xs.length : Int) := by omega
        go_wp2
        go_ret
        exact ⟨ret_bool (by rw [hfin.out]; exact decide_eq_decide.2 (by omega)), rfl⟩
      · have h1' : ¬ (1 : Int) ≤ (xs.length : Int) := by omega
        go_wp2
        go_ret
        exact ⟨ret_bool (by rw [hfin.out]; try simp [h1]), rfl⟩
theorem getD_of {xs : List Int} {k : Nat} {x : Int} (h : xs[k]? = some x) : xs.getD k 0 = x := by rw [List.getD_eq_getElem?_getD, h]; rfl
set_option maxHeartbeats 2000000 in
theorem specSorted_any (ad : Addr) (n c B : Nat) (xs : List Int) (w : World) (h : Rd w B (some ad) n (i64s xs)) (hB : B ≤ w.heap.size) (hn : n ≤ 1048576) :
    Calls Try.prog 21 #[.slice (some ad) n c] w fun e w' => ∃ v, e = .returned v ∧ Own w' w.heap.size 2 v (i64s (sortedI xs)) ∧ Below w.heap.size w w' := by
  have hl := h.lenI
  obtain rfl : xs.length = n := hl.out
  have hc : ∀ (j : Nat) (u : Value), (i64s xs)[j]? = some u → (w.alloc (.cells #[] 2)).cell? (ad.add j) = some u := by
    intro j u hu
    have hj : j < xs.length := by have := (List.getElem?_eq_some_iff.1 hu).1; rwa [i64s_length] at this
    obtain ⟨b, off, e, hb, hcc⟩ := h.2 (by omega)
    cases e
    rw [Addr.add_lit]
    exact (World.cell?_alloc_lt w _ _ (by show b < _; omega)).trans (hcc j u hu)
  have Hc := Lib.hid hc
  have Ho := Lib.hid (own_newI w (Nat.le_refl _))
  clear hc h hl
  go_enter Try.func21, Try.ntmps21
  go_wp2_with (at_builtin; go_must (refine emitAllI rfl _ _ rfl w.heap.size (.slice (some ⟨w.heap.size, 0, none⟩) 0 0) [] rfl Ho.out ad xs.length c xs rfl rfl Hc.out ?c1 ?c2 ?_))
  case c1 => simp; omega
  case c2 => show w.heap.size ≤ (w.heap.push _).size; simp
  intro v' w3 hO' hg
  obtain ⟨A1, c1, rfl, hcap⟩ := hO'.shapeI
  have HO' : Hid (Own w3 w.heap.size 2 (.slice A1 xs.length c1) (i64s xs)) := hO'
  have HB := Lib.hid (below_ownGrown ((Below.refl _ _).alloc (Nat.le_refl _) _) Ho.out hg (Nat.le_refl _) (Nat.le_refl _))
  clear hO' hg Hc Ho
  go_wp2
  go_loopw [4] (fun i wr => ∃ (k : Nat) (L : List Int), 1 ≤ k ∧ k ≤ xs.length + 1 ∧ i = .int .i64 k ∧ Hid (L.Perm xs) ∧ Hid (L.length = xs.length) ∧ Hid (ordTo L k) ∧ Own wr w.heap.size 2 (.slice A1 xs.length c1) (i64s L) ∧ Below w.heap.size w wr) (fun i _ => xs.length + 1 - (intOf i).toNat)
  case atStart => exact ⟨1, xs, Nat.le_refl _, by omega, rfl, List.Perm.refl _, rfl, ordTo_one _, HO'.out, HB.out⟩
  case round =>
    obtain ⟨k, L, hk1, hk, rfl, hP, hL, hord, hO, hbel⟩ := hrel
    have HO := Lib.hid hO; have HB' := Lib.hid hbel
    clear hO hbel
    by_cases hlt : k < xs.length
    · have hlt' : (k : Int) < (xs.length : Int) := by omega
      have Hat : Hid (ordAt L k k) := hord.out.at_
      go_wp2
      go_loopw [5, 6] (fun j _ wr => ∃ (m : Nat) (L : List Int), m ≤ k ∧ j = .int .i64 m ∧ Hid (L.Perm xs) ∧ Hid (L.length = xs.length) ∧ Hid (ordAt L k m) ∧ Own wr w.heap.size 2 (.slice A1 xs.length c1) (i64s L) ∧ Below w.heap.size w wr) (fun j _ _ => (intOf j).toNat)
      case atStart => exact ⟨k, L, Nat.le_refl _, rfl, hP, hL, Hat, HO.out, HB'.out⟩
      case round =>
        obtain ⟨m, L, hm, rfl, hP, hL, hat, hO, hbel⟩ := hrel
        have HO := Lib.hid hO; have HB' := Lib.hid hbel
        clear hO hbel
        cases m with
        | zero =>
          have HO2 : Hid (ordTo L (k + 1)) := hat.out.zero
          go_wp2
          go_quiet (fail)
          go_wp2
          go_roundw
          case rel => exact ⟨k + 1, L, by omega, by omega, by go_num, hP, hL, HO2, HO.out, below_drewN HB'.out _⟩
          case measure => simp only [intOf]; omega
        | succ p =>
          obtain ⟨m, hm'⟩ : ∃ m, m = p + 1 := ⟨_, rfl⟩
          rw [← hm'] at hat ⊢
          have hm0 : (0 : Int) < (m : Int) := by omega
          have hm0n : 0 < m := by omega
          have hmx : (m : Int) < (xs.length : Int) := by omega
          have hpx : (p : Int) < (xs.length : Int) := by omega
          have hwp : IntKind.i64.wrap ((m : Int) - 1) = (p : Int) := by rw [IntKind.wrap_i64]; omega
          obtain ⟨g, x, hA, hx, hcx, hfx⟩ := HO.out.atI (k := m) (by have := hL.out; omega)
          obtain ⟨g', y, hA', hy, hcy, hfy⟩ := HO.out.atI (k := p) (by have := hL.out; omega)
          obtain rfl : g = g' := by rw [hA] at hA'; injection hA' with e; injection e
          subst hA
          have Hm := Lib.hid hm'
          have hxd := getD_of hx.out
          have hyd := getD_of hy.out
          have Hxd := Lib.hid hxd; have Hyd := Lib.hid hyd
          clear hxd hyd hA' hm'
          by_cases hxy : x < y
          · have hst1 := fun q => (HO.out.drewN q).stored rfl m y
            have hst2 := fun q => (hst1 q).1.stored rfl p x
            have he : (L.set m y).set p x = swapAt L m := by unfold swapAt; rw [Hxd.out, show m - 1 = p by have := Hm.out; omega, Hyd.out]
            rw [he] at hst2
            have HP2 : Hid ((swapAt L m).Perm xs) := (swapAt_perm L m hm0n (by have := hL.out; omega)).trans hP.out
            have HL2 : Hid ((swapAt L m).length = xs.length) := by show _ = _; rw [swapAt_len]; exact hL.out
            have Hat2 : Hid (ordAt (swapAt L m) k p) := by
              have e : p = m - 1 := by have := Hm.out; omega
              rw [e]
              exact hat.out.swap hm0n (by have := Hm.out; omega) (by have := hL.out; omega) (by rw [Hxd.out, ← e, Hyd.out]; exact hxy)
            have hf2 : ∀ q, ((wr.drewN q).setCell ⟨g, m, none⟩ (.int .i64 y)).frozen? ⟨g, p, none⟩ = false ∧ ∃ z, ((wr.drewN q).setCell ⟨g, m, none⟩ (.int .i64 y)).cell? ⟨g, p, none⟩ = some (.int .i64 z) := fun q => by
              obtain ⟨_, z, e, _, hz, hf⟩ := (hst1 q).1.atI (k := p) (by rw [List.length_set]; have := hL.out; omega)
              cases e
              exact ⟨hf, z, hz⟩
            have HS2 := Lib.hid hst2
            have HB2 := Lib.hid (fun q => ((below_drewN HB'.out q).setCell (p := ⟨g, m, none⟩) (HO.out.lt g rfl).1 (.int .i64 y)).setCell (p := ⟨g, p, none⟩) (HO.out.lt g rfl).1 (.int .i64 x))
            have Hf2 := Lib.hid hf2
            clear hst1 hst2 he hx hy hf2
            go_wp2
            go_quiet (fail)
            obtain ⟨hf3, z, hz3⟩ := Hf2.out nq
            go_wp2
            go_roundw
            case rel => exact ⟨p, swapAt L m, by omega, by go_num, HP2, HL2, Hat2, (HS2.out nq).1, HB2.out nq⟩
            case measure => simp only [intOf]; have := Hm.out; omega
          · have hd : decide (x < y) = false := by simpa using hxy
            have HO2 : Hid (ordTo L (k + 1)) := hat.out.stop (by have := Hm.out; omega) (by rw [Hxd.out, show m - 1 = p by have := Hm.out; omega, Hyd.out]; omega) hm0n
            clear hx hy
            go_wp2
            go_quiet (fail)
            go_wp2
            go_roundw
            case rel => exact ⟨k + 1, L, by omega, by omega, by go_num, hP, hL, HO2, HO.out, below_drewN HB'.out _⟩
            case measure => simp only [intOf]; omega
    · have hs : Hid (Own wr w.heap.size 2 (.slice A1 xs.length c1) (i64s (sortedI xs))) := by
        rw [sortedI_of hP.out (fun a b hab hb => hord.out a b hab (by have := hL.out; omega))]
        exact HO.out
      go_wp2
      go_ret
      exact ⟨_, rfl, hs.out, HB'.out⟩
end Go.Proofs.Ytgkbkbmhdhlffaa
