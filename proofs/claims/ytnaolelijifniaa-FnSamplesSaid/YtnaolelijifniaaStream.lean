/- StreamSeed: k of a stream. -/
import Derived.Test.YtnaolelijifniaaPlain
import Derived.Test.YtnaolelijifniaaClone
import Derived.Test.YtnaolelijifniaaShapesS
import Derived.Deep.RegionWith
import Derived.BigRegion
import Derived.Laws.BitsLemmas
namespace Go.Proofs.Ytnaolelijifniaa
open Go.RowKit
theorem items_any (n : Int) (w : World) : Calls Try.prog 27 #[.int .i64 n] w fun e w' => e = .returned (.bool (inB n 1 64)) ∧ w = w' := by
  go_enter Try.func27, Try.ntmps27
  go_wp2_with (go_at_call 29; refine (l00In_any _ _ _ _).mono ?_; rintro e w' ⟨rfl, rfl⟩)
  go_ret
  exact ⟨rfl, rfl⟩
theorem specTried2 (s : Sd) (g : Nat) (n : Int) (w : World) (hs : s.ok) (hn : 1 ≤ n ∧ n ≤ 4294967296) (hg : SeedAt w g s) :
    Calls Try.prog 28 #[.pointer (some ⟨g, 0, none⟩), .int .i64 n] w fun e w' =>
      ((tried n 64 s = none ∧ ∃ x, e = .returned (.tuple #[.int .i64 x, .bool false])) ∨ (∃ t x, tried n 64 s = some (t, x) ∧ e = .returned (.tuple #[.int .i64 x, .bool true]) ∧ SeedAt w' g t)) ∧ w.grownBy w' (some g) := by
  refine (specTried_any s g n w hs hn hg).mono ?_
  rintro e w' ⟨x, ok, rfl, hok, hx, ⟨s', hg', _, hs3⟩, hgr⟩
  refine ⟨?_, hgr⟩
  cases ht : tried n 64 s with
  | none =>
    rw [ht] at hok
    obtain rfl : ok = false := hok.out
    exact .inl ⟨rfl, x, rfl⟩
  | some r =>
    obtain ⟨t, y⟩ := r
    rw [ht] at hok hx hs3
    obtain rfl : ok = true := hok.out
    obtain rfl : x = y := hx.out
    obtain rfl : s' = t := hs3 rfl
    exact .inr ⟨s', x, rfl, rfl, hg'⟩
theorem streamGo_take1 {k : Int} {x : Int} {xs : List Int} {i : Nat} {s : Sd} {out : List Int} (h : (i : Int) < k) : streamGo k (x :: xs) i s out = streamGo k xs (i + 1) s (out ++ [x]) := by
  rw [streamGo, if_pos h]
theorem streamGo_none {k : Int} {x : Int} {xs : List Int} {i : Nat} {s : Sd} {out : List Int} (h : ¬ (i : Int) < k) (ht : tried ((i : Int) + 1) 64 s = none) : streamGo k (x :: xs) i s out = none := by
  rw [streamGo, if_neg h, ht]
theorem streamGo_put {k : Int} {x p : Int} {xs : List Int} {i : Nat} {s t : Sd} {out : List Int} (h : ¬ (i : Int) < k) (ht : tried ((i : Int) + 1) 64 s = some (t, p)) : streamGo k (x :: xs) i s out = streamGo k xs (i + 1) t (if p < k then out.set p.toNat x else out) := by
  rw [streamGo, if_neg h, ht]
theorem drop_cons {α : Type} {xs : List α} {k : Nat} {x : α} (h : xs[k]? = some x) : xs.drop k = x :: xs.drop (k + 1) := by
  have hk := (List.getElem?_eq_some_iff.1 h).1
  rw [List.drop_eq_getElem_cons hk]
  congr 1
  rw [List.getElem?_eq_getElem hk] at h
  exact Option.some.inj h
set_option maxHeartbeats 1000000 in
theorem specStream_any : FnSLN_SLB 15 streamSeed := by
  intro k0 a0 b0 A n c B xs m w hs h hB hn hf hcap hm
  have hl := h.lenI
  obtain rfl : xs.length = n := hl.out
  clear hl hcap
  have Hf := Lib.hid hf
  clear hf
  have hz0 : ((w.alloc (.cells #[.int .i64 k0, .int .u64 a0, .int .u64 b0] 26)).alloc (.cells #[.int .i64 0, .int .u64 0, .int .u64 0] 26)).heap.size = w.heap.size + 2 := by rw [size_alloc', size_alloc']
  have hg : SeedAt ((w.alloc (.cells #[.int .i64 k0, .int .u64 a0, .int .u64 b0] 26)).alloc (.cells #[.int .i64 0, .int .u64 0, .int .u64 0] 26)) w.heap.size ⟨k0, a0, b0⟩ := (SeedAt.new w k0 a0 b0).alloc _
  have hz : SeedAt ((w.alloc (.cells #[.int .i64 k0, .int .u64 a0, .int .u64 b0] 26)).alloc (.cells #[.int .i64 0, .int .u64 0, .int .u64 0] 26)) (w.heap.size + 1) ⟨0, 0, 0⟩ := SeedAt.new1 w _ 0 0 0
  have hBl : Below w.heap.size w ((w.alloc (.cells #[.int .i64 k0, .int .u64 a0, .int .u64 b0] 26)).alloc (.cells #[.int .i64 0, .int .u64 0, .int .u64 0] 26)) := ((Below.refl _ _).alloc (Nat.le_refl _) _).alloc (by rw [size_alloc']; omega) _
  have hr := h.below hBl hB
  go_enter Try.func15, Try.ntmps15
  go_wp2_with fail
  refine (specIs_any ⟨k0, a0, b0⟩ _ _ hs hg).mono ?_
  rintro e w1 ⟨rfl, rfl⟩
  generalize (w.alloc (.cells #[.int .i64 k0, .int .u64 a0, .int .u64 b0] 26)).alloc (.cells #[.int .i64 0, .int .u64 0, .int .u64 0] 26) = w1 at hz0 hg hz hBl hr ⊢
  obtain ⟨s, hsd⟩ : ∃ s : Sd, s = ⟨k0, a0, b0⟩ := ⟨_, rfl⟩
  rw [← hsd] at hs hg ⊢
  have Hs0 : Hid ((⟨k0, a0, b0⟩ : Sd) = s) := hsd.symm
  have HB := Lib.hid hBl; have Hz := Lib.hid hz; have Hg := Lib.hid hg; have Hk : Hid s.ok := hs
  have HR := Lib.hid hr
  have Hz0 := Lib.hid hz0
  clear hBl hz hg hs h hr hz0 hsd
  have u0 := Hz.out.c0
  have u1 := Hz.out.c1
  have u2 := Hz.out.c2
  have v0 := Hz.out.fz 0
  have v1 := Hz.out.fz 1
  have v2 := Hz.out.fz 2
  simp only at u0 u1 u2
  cases hv : validB s with
  | false =>
    have Hn : Hid (streamSeed ⟨k0, a0, b0⟩ xs m = none) := by show _ = _; rw [Hs0.out]; simp [streamSeed, hv]
    go_wp2
    (try simp only [Exit.inBlock, Exit.then])
    refine bodyPost_ret (results_s3 rfl _ rfl (Hz.out.set3 0 0 0)) rfl ?_
    exact gaveSLB_none Hn.out (below_set3 HB.out (by omega) _ _ _)
  | true =>
    have Hv := Lib.hid hv
    clear hv
    by_cases hbig : (256 : Int) < (xs.length : Int)
    · have Hn : Hid (streamSeed ⟨k0, a0, b0⟩ xs m = none) := by show _ = _; rw [Hs0.out]; simp [streamSeed, inB_not (n := (xs.length : Int)) (lo := 0) (hi := 256) (.inr hbig)]
      go_wp2
      (try simp only [Exit.inBlock, Exit.then])
      refine bodyPost_ret (results_s3 rfl _ rfl (Hz.out.set3 0 0 0)) rfl ?_
      exact gaveSLB_none Hn.out (below_set3 HB.out (by omega) _ _ _)
    · go_wp2_with fail
      refine (items_any _ _).mono ?_
      rintro e w2 ⟨rfl, rfl⟩
      cases hi : inB m 1 64 with
      | false =>
        have Hn : Hid (streamSeed ⟨k0, a0, b0⟩ xs m = none) := by show _ = _; rw [Hs0.out]; simp [streamSeed, hi]
        clear hi
        go_wp2
        (try simp only [Exit.inBlock, Exit.then])
        refine bodyPost_ret (results_s3 rfl _ rfl (Hz.out.set3 0 0 0)) rfl ?_
        exact gaveSLB_none Hn.out (below_set3 HB.out (by omega) _ _ _)
      | true =>
        have Hr : Hid (streamSeed ⟨k0, a0, b0⟩ xs m = streamGo m xs 0 s []) := by show _ = _; rw [Hs0.out]; simp [streamSeed, hi, Hv.out, inB_mk (n := (xs.length : Int)) (lo := 0) (hi := 256) (by omega)]
        have hmb := inB_true hi
        clear hi hm u0 u1 u2 v0 v1 v2
        go_wp2
        go_loopw [9, 29] (fun v i wr => ∃ (k : Nat) (ol : List Int) (s' : Sd), k ≤ xs.length ∧ i = .int .i64 k ∧ Hid (streamGo m xs 0 s [] = streamGo m (xs.drop k) k s' ol) ∧ ol.length = min k m.toNat ∧ s'.ok ∧ Own wr (w.heap.size + 2) 2 v (i64s ol) ∧ SeedAt wr w.heap.size s' ∧ SeedAt wr (w.heap.size + 1) Sd.zero ∧ Below w.heap.size w wr) (fun _ i _ => xs.length - (intOf i).toNat)
        case atStart => exact ⟨0, [], s, by omega, rfl, rfl, by simp, Hk.out, own_newI w1 (by rw [Hz0.out]; omega), Hg.out.alloc _, Hz.out.alloc _, HB.out.alloc HB.out.size _⟩
        case round =>
          obtain ⟨k, ol, s', hk, rfl, htr, hol, hs', hO, hg', hz', hbel⟩ := hrel
          have HO := Lib.hid hO; have HB' := Lib.hid hbel; have Hz' := Lib.hid hz'; have Hk' := Lib.hid hs'; have Hg' := Lib.hid hg'; have Hol := Lib.hid hol
          clear hO hbel hz' hs' hg' hol
          have hsz' : w.heap.size + 2 ≤ wr.heap.size := by have := Hz'.out.lt; omega
          by_cases hlt : k < xs.length
          · have hlt' : (k : Int) < (xs.length : Int) := by omega
            have hr2 : Rd wr B A xs.length (i64s xs) := HR.out.keep fun p hp => (HB'.out.cell (p := p) (by omega)).trans (HB.out.cell (p := p) (by omega)).symm
            obtain ⟨bb, off, x, rfl, hbB, hx, hcl⟩ := hr2.atI (k := k) hlt
            have Hdr := Lib.hid (drop_cons hx.out)
            clear hr2
            by_cases hkm : (k : Int) < m
            · go_wp2_with (at_builtin; go_must (refine emitI wr rfl _ _ rfl (w.heap.size + 2) u9 ol rfl HO.out x rfl ?c1 hsz' ?_))
              case c1 => have := Hol.out; omega
              intro v' w3 hO' hgr hor
              have HO' := Lib.hid hO'
              have hge : ∀ j, u9.ownBlock = some j → w.heap.size + 2 ≤ j := fun j e => (HO.out.lt j e).1
              have HB3 := Lib.hid (HB'.out.grown hgr HB'.out.size (fun j e => by have := hge j e; omega))
              have HG3 := Lib.hid (Hg'.out.grown hgr (fun e => by have := hge _ e.symm; omega))
              have HZ3 := Lib.hid (Hz'.out.grown hgr (fun e => by have := hge _ e.symm; omega))
              have Htr : Hid (streamGo m xs 0 s [] = streamGo m (xs.drop (k + 1)) (k + 1) s' (ol ++ [x])) := by show _ = _; rw [htr.out, Hdr.out, streamGo_take1 hkm]
              clear hO' hgr hor hge
              go_wp2
              go_roundw
              case rel => exact ⟨k + 1, ol ++ [x], s', by omega, by go_num, Htr, by have := Hol.out; simp; omega, Hk'.out, HO'.out, HG3.out, HZ3.out, HB3.out⟩
              case measure => simp only [intOf]; omega
            · go_wp2_with fail
              refine (specTried2 s' w.heap.size _ _ Hk'.out (by omega) Hg'.out).mono ?_
              rintro e w2 ⟨hor, hgr⟩
              have HB2 := Lib.hid (HB'.out.grown hgr HB'.out.size (fun _ h => by cases h; exact Nat.le_refl _))
              have HZ2 := Lib.hid (Hz'.out.grown hgr (by simp))
              have HO2 := Lib.hid (HO.out.kept hgr (.inr (fun e => by have := HO.out.lt _ e; omega)))
              have hsz2 : w.heap.size + 2 ≤ w2.heap.size := Nat.le_trans hsz' hgr.size
              have hcl2 : w2.cell? ⟨bb, off + k, none⟩ = some (.int .i64 x) := (World.cell?_of_block (hgr.block bb (by have := World.block_lt_of_cell? wr _ hcl; exact this) (fun e => by injection e with e; have := World.block_lt_of_cell? wr _ hcl; omega))).trans hcl
              clear hgr hcl
              rcases hor with ⟨ht, y, rfl⟩ | ⟨t, p, ht, rfl, hg2⟩
              · have Hn : Hid (streamSeed ⟨k0, a0, b0⟩ xs m = none) := by show _ = _; rw [Hr.out, htr.out, Hdr.out, streamGo_none (by omega) ht]
                have u0 := HZ2.out.c0
                have u1 := HZ2.out.c1
                have u2 := HZ2.out.c2
                have v0 := HZ2.out.fz 0
                have v1 := HZ2.out.fz 1
                have v2 := HZ2.out.fz 2
                clear ht
                go_wp2
                (try simp only [Exit.inBlock, Exit.then])
                refine bodyPost_ret (results_s3 (s := ⟨0, 0, 0⟩) (g := w.heap.size + 1) rfl _ rfl (by exact HZ2.out.set3 0 0 0)) rfl ?_
                exact gaveSLB_none Hn.out (below_set3 HB2.out (by omega) _ _ _)
              · have Htr : Hid (streamGo m xs 0 s [] = streamGo m (xs.drop (k + 1)) (k + 1) t (if p < m then ol.set p.toNat x else ol)) := by show _ = _; rw [htr.out, Hdr.out, streamGo_put (by omega) ht]
                have Hto := Lib.hid (tried_ok Hk'.out ht)
                have hpb := tried_lt (by omega) ht
                have Hg2 := Lib.hid hg2
                clear ht hg2
                by_cases hpm : p < m
                · obtain ⟨pn, hpn⟩ : ∃ pn : Nat, p = (pn : Int) := ⟨p.toNat, by omega⟩
                  subst hpn
                  have hpl : pn < ol.length := by have := Hol.out; omega
                  obtain ⟨A9, c9, h9, hc9⟩ := HO2.out.shapeI
                  subst h9
                  obtain ⟨g9, y9, rfl, hy9, hcy, hfy⟩ := HO2.out.atI hpl
                  have hst := HO2.out.stored rfl pn x
                  have hge9 : w.heap.size + 2 ≤ g9 := (HO2.out.lt g9 rfl).1
                  have HOs := Lib.hid hst.1
                  have HGs := Lib.hid (Hg2.out.far (p := ⟨g9, pn, none⟩) (by show w.heap.size ≠ g9; omega) (.int .i64 x))
                  have HZs := Lib.hid (HZ2.out.far (p := ⟨g9, pn, none⟩) (by show w.heap.size + 1 ≠ g9; omega) (.int .i64 x))
                  have HBs := Lib.hid (HB2.out.setCell (p := ⟨g9, pn, none⟩) (by show w.heap.size ≤ g9; omega) (.int .i64 x))
                  have Htr2 : Hid (streamGo m xs 0 s [] = streamGo m (xs.drop (k + 1)) (k + 1) t (ol.set pn x)) := by show _ = _; rw [Htr.out, if_pos hpm]; simp
                  have hpl' : (pn : Int) < (ol.length : Int) := by omega
                  have hp0 : (0 : Int) ≤ (pn : Int) := by omega
                  clear hst Htr
                  go_wp2
                  go_roundw
                  case rel => exact ⟨k + 1, ol.set pn x, t, by omega, by go_num, Htr2, by rw [List.length_set, Hol.out]; omega, Hto.out, HOs.out, HGs.out, HZs.out, HBs.out⟩
                  case measure => simp only [intOf]; omega
                · have Htr2 : Hid (streamGo m xs 0 s [] = streamGo m (xs.drop (k + 1)) (k + 1) t ol) := by show _ = _; rw [Htr.out, if_neg hpm]
                  clear Htr
                  go_wp2
                  go_roundw
                  case rel => exact ⟨k + 1, ol, t, by omega, by go_num, Htr2, by have := Hol.out; omega, Hto.out, HO2.out, Hg2.out, HZ2.out, HB2.out⟩
                  case measure => simp only [intOf]; omega
          · obtain rfl : k = xs.length := by omega
            have c0 := Hg'.out.c0
            have c1 := Hg'.out.c1
            have c2 := Hg'.out.c2
            have u0 := Hz'.out.c0
            have u1 := Hz'.out.c1
            have u2 := Hz'.out.c2
            have v0 := Hz'.out.fz 0
            have v1 := Hz'.out.fz 1
            have v2 := Hz'.out.fz 2
            obtain ⟨k9, a9, b9⟩ := s'
            go_wp2
            (try simp only [Exit.inBlock, Exit.then])
            refine bodyPost_ret (results_s3 (s := ⟨k9, a9, b9⟩) (g := w.heap.size + 1) rfl _ rfl (by exact Hz'.out.set3 k9 a9 b9)) rfl ?_
            exact gaveSLB_some (s := ⟨k9, a9, b9⟩) (by rw [Hr.out, htr.out, List.drop_length]; rfl) ((HO.out.kept (grown_set3 _ _ _ _ _) (.inr (fun e => by have := HO.out.lt _ e; omega))).base_le (by omega)) (below_set3 HB'.out (by omega) _ _ _)
theorem placeP_step {k : Int} {ps xs out : List Int} {i : Nat} {p x : Int} (hp : ps[i]? = some p) (hx : xs[i]? = some x) : placeP k (ps.drop i) (xs.drop i) out = placeP k (ps.drop (i + 1)) (xs.drop (i + 1)) (if p < k then out.set p.toNat x else out) := by
  rw [drop_cons hp, drop_cons hx, placeP]
theorem placeP_end {k : Int} {ps xs out : List Int} {i : Nat} (h : ps.length ≤ i) : placeP k (ps.drop i) xs out = out := by
  rw [List.drop_eq_nil_of_le h]
  cases xs <;> rfl
theorem Rd.takeI {w : World} {B n k : Nat} {A : Option Addr} {xs : List Int} (h : Rd w B A n (i64s xs)) (hk : k ≤ n) : Rd w B A k (i64s (xs.take k)) := by
  have hl := h.1
  rw [i64s_length] at hl
  refine ⟨by rw [i64s_length, List.length_take]; omega, fun h0 => ?_⟩
  obtain ⟨b, off, e, hb, hc⟩ := h.2 (by omega)
  refine ⟨b, off, e, hb, fun j u hu => hc j u ?_⟩
  unfold i64s at hu ⊢
  rw [List.map_take, List.getElem?_take] at hu
  split at hu
  · exact hu
  · cases hu
theorem fit_upFrom {lo : Int} {n : Nat} (h0 : -1000000 ≤ lo) (h1 : lo ≤ 1000000) (h2 : n ≤ 1000000) : Fit (upFrom lo n) := by
  intro x hx
  unfold upFrom at hx
  obtain ⟨i, hi, rfl⟩ := List.mem_map.1 hx
  have := List.mem_range.1 hi
  omega
theorem stream_short (k a b : Int) (xs : List Int) (m : Int) (_h : xs.length ≤ 1048576) : (((streamSeed ⟨k, a, b⟩ xs m).map Prod.snd).getD []).length ≤ 2000000 := streamSeed_short ⟨k, a, b⟩ xs m
set_option maxRecDepth 100000 in
set_option maxHeartbeats 1000000 in
theorem implStream_any : FnSLN_SLB 14 streamSeed := by
  intro k0 a0 b0 A n c B xs m w hs h hB hn hf hcap hm
  have hl := h.lenI
  obtain rfl : xs.length = n := hl.out
  clear hl
  have Hf := Lib.hid hf
  clear hf
  have hz0 : ((w.alloc (.cells #[.int .i64 k0, .int .u64 a0, .int .u64 b0] 26)).alloc (.cells #[.int .i64 0, .int .u64 0, .int .u64 0] 26)).heap.size = w.heap.size + 2 := by rw [size_alloc', size_alloc']
  have hg : SeedAt ((w.alloc (.cells #[.int .i64 k0, .int .u64 a0, .int .u64 b0] 26)).alloc (.cells #[.int .i64 0, .int .u64 0, .int .u64 0] 26)) w.heap.size ⟨k0, a0, b0⟩ := (SeedAt.new w k0 a0 b0).alloc _
  have hz : SeedAt ((w.alloc (.cells #[.int .i64 k0, .int .u64 a0, .int .u64 b0] 26)).alloc (.cells #[.int .i64 0, .int .u64 0, .int .u64 0] 26)) (w.heap.size + 1) ⟨0, 0, 0⟩ := SeedAt.new1 w _ 0 0 0
  have hBl : Below w.heap.size w ((w.alloc (.cells #[.int .i64 k0, .int .u64 a0, .int .u64 b0] 26)).alloc (.cells #[.int .i64 0, .int .u64 0, .int .u64 0] 26)) := ((Below.refl _ _).alloc (Nat.le_refl _) _).alloc (by rw [size_alloc']; omega) _
  have hr := h.below hBl hB
  have Hk : Hid (Sd.ok ⟨k0, a0, b0⟩) := hs
  clear h hs
  by_cases hbig : (256 : Int) < (xs.length : Int)
  · have Hn : Hid (streamSeed ⟨k0, a0, b0⟩ xs m = none) := by show _ = _; simp [streamSeed, inB_not (n := (xs.length : Int)) (lo := 0) (hi := 256) (.inr hbig)]
    go_enter Try.func14, Try.ntmps14
    go_wp2
    (try simp only [Exit.inBlock, Exit.then])
    refine bodyPost_ret (results_s3 (s := ⟨0, 0, 0⟩) (g := w.heap.size + 1) rfl _ rfl (by first | exact hz | exact hz.set3 0 0 0)) rfl ?_
    exact gaveSLB_none Hn.out (by first | exact hBl | exact below_set3 hBl (by omega) _ _ _)
  go_enter Try.func14, Try.ntmps14
  go_wp2_with fail
  refine (isPicks_any _ _).mono ?_
  rintro e w1 ⟨rfl, rfl⟩
  generalize (w.alloc (.cells #[.int .i64 k0, .int .u64 a0, .int .u64 b0] 26)).alloc (.cells #[.int .i64 0, .int .u64 0, .int .u64 0] 26) = w1 at hz0 hg hz hBl hr ⊢
  have HB := Lib.hid hBl; have Hz := Lib.hid hz; have Hg := Lib.hid hg
  have HR := Lib.hid hr
  have Hz0 := Lib.hid hz0
  clear hBl hz hg hr hz0
  cases hi : inB m 1 64 with
  | false =>
    have Hn : Hid (streamSeed ⟨k0, a0, b0⟩ xs m = none) := by show _ = _; simp [streamSeed, hi]
    have u0 := Hz.out.c0
    have u1 := Hz.out.c1
    have u2 := Hz.out.c2
    have v0 := Hz.out.fz 0
    have v1 := Hz.out.fz 1
    have v2 := Hz.out.fz 2
    simp only at u0 u1 u2
    clear hi
    go_wp2
    (try simp only [Exit.inBlock, Exit.then])
    refine bodyPost_ret (results_s3 rfl _ rfl (Hz.out.set3 0 0 0)) rfl ?_
    exact gaveSLB_none Hn.out (below_set3 HB.out (by omega) _ _ _)
  | true =>
    have hmb := inB_true hi
    obtain ⟨mn, rfl⟩ : ∃ mn : Nat, m = (mn : Int) := ⟨m.toNat, by omega⟩
    have hr := stream_join ⟨k0, a0, b0⟩ xs (mn : Int) Hk.out (by omega) hi
    simp only [Int.toNat_natCast] at hr
    have Hr := Lib.hid hr
    clear hr
    obtain ⟨cnt, hcnt⟩ : ∃ cnt, cnt = xs.length - mn := ⟨_, rfl⟩
    rw [← hcnt] at Hr
    have hcase : (xs.length : Int) - ((mn : Int) + 1) + 1 = cnt ∨ (xs.length : Int) < (mn : Int) + 1 ∧ cnt = 0 := by omega
    have Hcase := Lib.hid hcase
    have Hcnt := Lib.hid hcnt
    have hcnt2 : cnt ≤ 256 := by omega
    have hle1 : w.heap.size ≤ w1.heap.size := HB.out.size
    have hB1 : B ≤ w1.heap.size := Nat.le_trans hB hle1
    have c0 := Hg.out.c0
    have c1 := Hg.out.c1
    have c2 := Hg.out.c2
    simp only at c0 c1 c2
    have hwr : IntKind.i64.wrap ((mn : Int) + 1) = (mn : Int) + 1 := by
      rw [IntKind.wrap_i64]
      omega
    clear hi hm hcase hcnt
    go_wp2
    go_region_with (first
      | (go_at_call 19
         (try rw [hwr])
         refine (numbersFrom_any ((mn : Int) + 1) xs.length cnt _ (by omega) (by omega) Hcase.out (by omega)).mono ?_
         rintro e w4 ⟨v, rfl, ho, hb⟩
         obtain ⟨A1, d1, rfl, hcap1⟩ := ho.shapeI
         have Hg4 := Lib.hid (Hg.out.drew.below hb Hg.out.lt)
         have Hz4 := Lib.hid (Hz.out.drew.below hb Hz.out.lt)
         have HB4 := Lib.hid (HB.out.drew.trans (hb.mono hle1))
         have HR4 := Lib.hid (HR.out.drew.below hb hB1)
         have HO4 := Lib.hid ho.rdI
         have hle4 : w.heap.size ≤ w4.heap.size := HB4.out.size
         have hB4 : B ≤ w4.heap.size := Nat.le_trans hB hle4
         have x0 := Hg4.out.c0
         have x1 := Hg4.out.c1
         have x2 := Hg4.out.c2
         simp only at x0 x1 x2
         clear ho hb hcap1)
      | (go_at_call 21
         refine (implBelowAll_any k0 a0 b0 A1 _ d1 _ (upFrom ((mn : Int) + 1) cnt) _ Hk.out HO4.out (Nat.le_refl _) (by rw [upFrom_len]; omega) (fit_upFrom (by omega) (by omega) (by omega))).mono ?_
         rintro e w5 ⟨k1, a1, b1, v, ok, rfl, hok, hsd, ho, hb⟩
         have hg5 := Hg4.out.below hb Hg4.out.lt
         have f0 := hg5.fz 0
         have f1 := hg5.fz 1
         have f2 := hg5.fz 2
         have y0 := hg5.c0
         have y1 := hg5.c1
         have y2 := hg5.c2
         simp only at y0 y1 y2
         have Hg6 := Lib.hid (hg5.set3 k1 a1 b1)
         have Hz6 := Lib.hid ((Hz4.out.below hb Hz4.out.lt).far3 (g' := w.heap.size) (by omega) k1 a1 b1)
         have HB6 := Lib.hid (below_set3 (HB4.out.trans (hb.mono hle4)) (Nat.le_refl _) k1 a1 b1)
         have HR6 := Lib.hid ((((HR4.out.below hb hB4).setCell (p := ⟨w.heap.size, 0, none⟩) hB (.int .i64 k1)).setCell (p := ⟨w.heap.size, 1, none⟩) hB (.int .u64 a1)).setCell (p := ⟨w.heap.size, 2, none⟩) hB (.int .u64 b1))
         have HO6 := Lib.hid (ho.kept (grown_set3 w5 w.heap.size k1 a1 b1) (.inr (fun e => by have := (ho.lt _ e).1; have := Hg4.out.lt; omega)))
         clear ho hb hg5))
    all_goals
      clear x0 x1 x2 y0 y1 y2 f0 f1 f2 c0 c1 c2
      generalize (((w5.setCell ⟨w.heap.size, 0, none⟩ (.int .i64 k1)).setCell ⟨w.heap.size, 1, none⟩ (.int .u64 a1)).setCell ⟨w.heap.size, 2, none⟩ (.int .u64 b1)) = w6 at Hg6 Hz6 HB6 HR6 HO6 ⊢
      have hle6 : w.heap.size ≤ w6.heap.size := HB6.out.size
      cases hbs : belowAllS ⟨k0, a0, b0⟩ (upFrom ((mn : Int) + 1) cnt) with
      | none =>
        rw [hbs] at hok hsd
        obtain rfl : ok = false := hok.out
        have Hn : Hid (streamSeed ⟨k0, a0, b0⟩ xs (mn : Int) = none) := by show _ = _; rw [Hr.out, hbs]; rfl
        have u0 := Hz6.out.c0
        have u1 := Hz6.out.c1
        have u2 := Hz6.out.c2
        have v0 := Hz6.out.fz 0
        have v1 := Hz6.out.fz 1
        have v2 := Hz6.out.fz 2
        simp only at u0 u1 u2
        clear hbs
        go_wp2
        (try simp only [Exit.inBlock, Exit.then])
        refine bodyPost_ret (results_s3 (s := ⟨0, 0, 0⟩) (g := w.heap.size + 1) rfl _ rfl (by exact Hz6.out.set3 0 0 0)) rfl ?_
        exact gaveSLB_none Hn.out (below_set3 HB6.out (by omega) _ _ _)
      | some r =>
        obtain ⟨t, picks⟩ := r
        rw [hbs] at hok hsd HO6
        obtain rfl : ok = true := hok.out
        obtain rfl : (⟨k1, a1, b1⟩ : Sd) = t := hsd.out
        have hbb := belowAllS_some hbs
        have hpl : picks.length = cnt := (drawAll_length hbb.2).trans (upFrom_len _ _)
        have Hpl := Lib.hid hpl
        have Hpn := Lib.hid (drawAll_nonneg hbb.2)
        have HR2 : Hid (streamSeed ⟨k0, a0, b0⟩ xs (mn : Int) = some (⟨k1, a1, b1⟩, placeP (mn : Int) picks (xs.drop mn) (xs.take mn))) := by show _ = _; rw [Hr.out, hbs]; rfl
        have HOp : Hid (Own w6 w4.heap.size 2 v (i64s picks)) := HO6.out
        obtain ⟨Ap, cp, rfl, hcapp⟩ := HOp.out.shapeI
        clear hbs hok hsd HO6 hbb hpl
        obtain ⟨out0, hout0⟩ : ∃ out0, out0 = xs.take mn := ⟨_, rfl⟩
        have hol0 : out0.length = min mn xs.length := by rw [hout0, List.length_take]
        have hrd1 : mn ≤ xs.length → Rd w6 B A mn (i64s out0) := fun h => by rw [hout0]; exact HR6.out.takeI h
        have hrd2 : xs.length ≤ mn → Rd w6 B A xs.length (i64s out0) := fun h => by rw [hout0, List.take_of_length_le h]; exact HR6.out
        rw [← hout0] at HR2
        have Hrd1 := Lib.hid hrd1; have Hrd2 := Lib.hid hrd2; have Hol0 := Lib.hid hol0
        clear hrd1 hrd2 hol0 hout0
        go_wp2_with fail
        all_goals
          refine (cloneI_any A _ c B out0 _ (by first | exact Hrd1.out (by omega) | exact Hrd2.out (by omega)) (Nat.le_trans hB hle6) (by have := Hol0.out; omega)).mono ?_
          (try clear h)
          rintro e w7 ⟨vo, rfl, ho, hb⟩
          have HG7 := Lib.hid (Hg6.out.below hb Hg6.out.lt)
          have HZ7 := Lib.hid (Hz6.out.below hb Hz6.out.lt)
          have HB7 := Lib.hid (HB6.out.trans (hb.mono hle6))
          have HR7 := Lib.hid (HR6.out.below hb (Nat.le_trans hB hle6))
          have HP7 := Lib.hid (HOp.out.below hb (Nat.le_refl _))
          have HO7 := Lib.hid (ho.base_le hle6)
          have hap := HOp.out.apart ho (Nat.le_refl _)
          obtain ⟨Ao, co, rfl, hcapo⟩ := ho.shapeI
          have Hap := Lib.hid hap
          have hg4o : ∀ g, Value.ownBlock (.slice Ao out0.length co) = some g → w.heap.size + 2 ≤ g := fun g e => by have := (ho.lt g e).1; have := Hz6.out.lt; omega
          have Hg4o := Lib.hid hg4o
          obtain ⟨ll, hll⟩ : ∃ ll, ll = out0.length := ⟨_, rfl⟩
          rw [← hll] at HO7 Hap Hg4o ⊢
          have Hll := Lib.hid hll
          clear hb ho hap hg4o hll hcapo
          go_wp2
          go_loopw [46] (fun i wr => ∃ (k : Nat) (ol : List Int), k ≤ picks.length ∧ i = .int .i64 k ∧ Hid (placeP (mn : Int) picks (xs.drop mn) out0 = placeP (mn : Int) (picks.drop k) ((xs.drop mn).drop k) ol) ∧ Hid (ol.length = ll) ∧ Own wr w.heap.size 2 (.slice Ao ll co) (i64s ol) ∧ Own wr w4.heap.size 2 (.slice Ap picks.length cp) (i64s picks) ∧ SeedAt wr w.heap.size ⟨k1, a1, b1⟩ ∧ SeedAt wr (w.heap.size + 1) Sd.zero ∧ Rd wr B A xs.length (i64s xs) ∧ Below w.heap.size w wr) (fun i _ => picks.length - (intOf i).toNat)
          case atStart => exact ⟨0, out0, Nat.zero_le _, rfl, rfl, Hll.out.symm, HO7.out, HP7.out, HG7.out, HZ7.out, HR7.out, HB7.out⟩
          case round =>
            obtain ⟨k, ol, hk, rfl, hpl, hol, hO, hP, hg', hz', hr', hbel⟩ := hrel
            have HO := Lib.hid hO; have HB' := Lib.hid hbel; have Hz' := Lib.hid hz'; have Hg' := Lib.hid hg'; have HP' := Lib.hid hP; have HR' := Lib.hid hr'
            clear hO hbel hz' hg' hP hr'
            by_cases hlt : k < picks.length
            · have hlt' : (k : Int) < (picks.length : Int) := by omega
              obtain ⟨gp, p, hAp, hp, hcp, _⟩ := HP'.out.atI hlt
              subst hAp
              have hmk : mn + k < xs.length := by have := Hpl.out; have := Hcnt.out; omega
              obtain ⟨bb, off, x, rfl, hbB, hx, hcl⟩ := HR'.out.atI (k := mn + k) hmk
              have hxd : (xs.drop mn)[k]? = some x := by rw [List.getElem?_drop]; exact hx.out
              have Hst := Lib.hid (placeP_step (k := (mn : Int)) (out := ol) hp.out hxd)
              have hp0 : 0 ≤ p := Hpn.out p (List.mem_of_getElem? hp.out)
              have hmk' : (mn : Int) + (k : Int) < (xs.length : Int) := by omega
              have hllm : mn ≤ ll := by have := Hll.out; have := Hol0.out; omega
              clear hxd
              by_cases hpm : p < (mn : Int)
              · obtain ⟨pn, rfl⟩ : ∃ pn : Nat, p = (pn : Int) := ⟨p.toNat, by omega⟩
                have hpl2 : pn < ol.length := by have := hol.out; omega
                obtain ⟨go, y, hAo, hy, hcy, hfy⟩ := HO.out.atI hpl2
                subst hAo
                have hst := HO.out.stored rfl pn x
                have hgo := Hg4o.out go rfl
                have hgne : gp ≠ go := fun e => Hap.out gp rfl (by rw [e]; rfl)
                have HOs := Lib.hid hst.1
                have HPs := Lib.hid (HP'.out.kept hst.2 (.inr (fun e => hgne (by injection e))))
                have HGs := Lib.hid (Hg'.out.far (p := ⟨go, pn, none⟩) (by show w.heap.size ≠ go; omega) (.int .i64 x))
                have HZs := Lib.hid (Hz'.out.far (p := ⟨go, pn, none⟩) (by show w.heap.size + 1 ≠ go; omega) (.int .i64 x))
                have HBs := Lib.hid (HB'.out.setCell (p := ⟨go, pn, none⟩) (by show w.heap.size ≤ go; omega) (.int .i64 x))
                have HRs := Lib.hid (HR'.out.setCell (p := ⟨go, pn, none⟩) (by show B ≤ go; omega) (.int .i64 x))
                have Htr2 : Hid (placeP (mn : Int) picks (xs.drop mn) out0 = placeP (mn : Int) (picks.drop (k + 1)) ((xs.drop mn).drop (k + 1)) (ol.set pn x)) := by show _ = _; rw [hpl.out, Hst.out, if_pos hpm]; simp
                have hpl' : (pn : Int) < (ll : Int) := by omega
                clear hst Hst hpl hpl2
                go_wp2
                go_roundw
                case rel => exact ⟨k + 1, ol.set pn x, by omega, by go_num, Htr2, by show _ = _; rw [List.length_set]; exact hol.out, HOs.out, HPs.out, HGs.out, HZs.out, HRs.out, HBs.out⟩
                case measure => simp only [intOf]; omega
              · have Htr2 : Hid (placeP (mn : Int) picks (xs.drop mn) out0 = placeP (mn : Int) (picks.drop (k + 1)) ((xs.drop mn).drop (k + 1)) ol) := by show _ = _; rw [hpl.out, Hst.out, if_neg hpm]
                clear Hst hpl
                go_wp2
                go_roundw
                case rel => exact ⟨k + 1, ol, by omega, by go_num, Htr2, hol, HO.out, HP'.out, Hg'.out, Hz'.out, HR'.out, HB'.out⟩
                case measure => simp only [intOf]; omega
            · obtain rfl : k = picks.length := by omega
              have hfin : Hid (placeP (mn : Int) picks (xs.drop mn) out0 = ol) := by show _ = _; rw [hpl.out]; exact placeP_end (Nat.le_refl _)
              have c0 := Hg'.out.c0
              have c1 := Hg'.out.c1
              have c2 := Hg'.out.c2
              have u0 := Hz'.out.c0
              have u1 := Hz'.out.c1
              have u2 := Hz'.out.c2
              have v0 := Hz'.out.fz 0
              have v1 := Hz'.out.fz 1
              have v2 := Hz'.out.fz 2
              simp only at c0 c1 c2
              clear hpl
              go_wp2
              (try simp only [Exit.inBlock, Exit.then])
              refine bodyPost_ret (results_s3 (s := ⟨k1, a1, b1⟩) (g := w.heap.size + 1) rfl _ rfl (by exact Hz'.out.set3 k1 a1 b1)) rfl ?_
              exact gaveSLB_some (s := ⟨k1, a1, b1⟩) (by rw [HR2.out, hfin.out]) (HO.out.kept (grown_set3 _ _ _ _ _) (.inr (fun e => by have := Hg4o.out _ e; omega))) (below_set3 HB'.out (by omega) _ _ _)
end Go.Proofs.Ytnaolelijifniaa
