/- AliasSeed: an index drawn by an alias. -/
import Derived.Test.YtgemcjcghnpmdaaAlias
import Derived.Test.YtgemcjcghnpmdaaTried2
import Derived.Test.YtgemcjcghnpmdaaRange
import Derived.Test.YtgemcjcghnpmdaaShapesS
import Derived.Test.YtgemcjcghnpmdaaShare
import Derived.Test.YtgemcjcghnpmdaaFin
import Derived.Deep.RegionWith
namespace Go.Proofs.Ytgemcjcghnpmdaa
open Go.RowKit
def aliasPick (xs : List Nat) (ys : List Int) (u : Nat) (i : Nat) : Int := if flt .f32 u (xs.getD i 0) then (i : Int) else ys.getD i 0
def aliasSeed (s : Sd) (xs : List Nat) (ys : List Int) : Option (Sd × Int) :=
  if validB s && aliasB xs ys then
    match tried xs.length 64 s with
    | none => none
    | some (t, i) => some (nextSd t, aliasPick xs ys (shareOf t) i.toNat)
  else none
theorem aliasB_elim {xs : List Nat} {ys : List Int} (h : aliasB xs ys = true) : 1 ≤ xs.length ∧ xs.length ≤ 64 ∧ ys.length = xs.length := by
  unfold aliasB at h
  simp only [Bool.and_eq_true, decide_eq_true_eq] at h
  have h1 := inB_true h.1.1
  exact ⟨by omega, by omega, h.1.2⟩
theorem alias_join {s : Sd} {xs : List Nat} {ys : List Int} (h : aliasB xs ys = true) : aliasSeed s xs ys = match belowS s xs.length with
    | none => none
    | some (t, i) => some (nextSd t, aliasPick xs ys (shareOf t) i.toNat) := by
  have hl := aliasB_elim h
  unfold aliasSeed belowS
  rw [h, inB_mk (n := (xs.length : Int)) (lo := 1) (hi := 4294967296) (by omega)]
  cases validB s <;> simp
def FnSA_SNB (f : Nat) (r : Sd → List Nat → List Int → Option (Sd × Int)) : Prop :=
  ∀ (k a b : Int) (A : Option Addr) (n c : Nat) (A' : Option Addr) (n' c' B : Nat) (xs : List Nat) (ys : List Int) (w : World), Sd.ok ⟨k, a, b⟩ → Rd w B A n (f32s xs) → Rd w B A' n' (i64s ys) → B ≤ w.heap.size → n ≤ 1048576 → n' ≤ 1048576 →
    Calls Try.prog f #[.agg #[.int .i64 k, .int .u64 a, .int .u64 b], .agg #[.slice A n c, .slice A' n' c']] w (GaveSNB w (r ⟨k, a, b⟩ xs ys))
set_option maxRecDepth 100000 in
set_option maxHeartbeats 1000000 in
theorem specPick_any (s : Sd) (g ga : Nat) (A : Option Addr) (c : Nat) (A' : Option Addr) (c' B : Nat) (xs : List Nat) (ys : List Int) (w : World) (hs : s.ok) (h1 : 1 ≤ xs.length) (h64 : xs.length ≤ 64) (hyl : ys.length = xs.length)
    (hg : SeedAt w g s) (ha : AlAt w ga 33 (.slice A xs.length c) (.slice A' ys.length c')) (hne : ga ≠ g) (hx : Rd w B A xs.length (f32s xs)) (hy : Rd w B A' ys.length (i64s ys)) (hB : B ≤ g) :
    Calls Try.prog 46 #[.pointer (some ⟨g, 0, none⟩), .pointer (some ⟨ga, 0, none⟩)] w fun e w' =>
      ((tried xs.length 64 s = none ∧ e = .returned (.tuple #[.int .i64 0, .bool false])) ∨ (∃ t i, tried xs.length 64 s = some (t, i) ∧ e = .returned (.tuple #[.int .i64 (aliasPick xs ys (shareOf t) i.toNat), .bool true]) ∧ SeedAt w' g (nextSd t))) ∧ w.grownBy w' (some g) := by
  have Hk : Hid s.ok := hs
  have Hg := Lib.hid hg; have Ha := Lib.hid ha; have Hx := Lib.hid hx; have Hy := Lib.hid hy
  have hgw := hg.lt
  clear hs hg ha hx hy
  have c0 := Ha.out.c0
  go_enter Try.func46, Try.ntmps46
  go_wp2_with fail
  clear c0
  refine (specTried2 s g _ _ Hk.out (by omega) Hg.out).mono ?_
  rintro e w2 ⟨hor, hgr⟩
  rcases hor with ⟨ht, y, rfl⟩ | ⟨t, p, ht, rfl, hg2⟩
  · have Ht := Lib.hid ht
    have Hgr := Lib.hid hgr
    clear ht hgr
    go_wp2
    go_ret2
    exact ⟨.inl ⟨Ht.out, rfl⟩, Hgr.out⟩
  · have hp := tried_lt (by omega) ht
    have Hto := Lib.hid (tried_ok Hk.out ht)
    have Ht := Lib.hid ht
    obtain ⟨i, rfl⟩ : ∃ i : Nat, p = (i : Int) := ⟨p.toNat, by omega⟩
    have hi : i < xs.length := by omega
    have Ha2 := Lib.hid (Ha.out.grown hgr (by simpa using hne))
    have Hx2 := Lib.hid (Hx.out.grown hgr (by omega) (fun _ e => by cases e; exact hB))
    have Hy2 := Lib.hid (Hy.out.grown hgr (by omega) (fun _ e => by cases e; exact hB))
    have hgw2 := hg2.lt
    have Hgr := Lib.hid hgr
    have Hg2 := Lib.hid hg2
    clear ht hgr hg2 Ha Hx Hy Hg
    have a0 := Ha2.out.c0
    have a1 := Ha2.out.c1
    obtain ⟨b, off, x, rfl, hb, hxi, hcx⟩ := Hx2.out.atF hi
    obtain ⟨b', off', y, rfl, hb', hyi, hcy⟩ := Hy2.out.atI (k := i) (by omega)
    have hi' : (i : Int) < (xs.length : Int) := by omega
    have hi2 : (i : Int) < (ys.length : Int) := by omega
    go_wp2
    go_region_with (first
      | (go_at_call 43
         refine (specShare_any t g _ Hto.out Hg2.out.drew).mono ?_
         rintro e w3 ⟨u, rfl, hu, hg3, hgr3⟩
         have Ha3 := Lib.hid (Ha2.out.drew.grown hgr3 (by simpa using hne))
         have b0 := Ha3.out.c0
         have b1 := Ha3.out.c1
         have hcx3 : w3.cell? ⟨b, off + i, none⟩ = some (.float .f32 x) := (World.cell?_of_block (hgr3.block b (by show b < w2.heap.size; omega) (fun e => by injection e with e; omega))).trans hcx
         have hcy3 : w3.cell? ⟨b', off' + i, none⟩ = some (.int .i64 y) := (World.cell?_of_block (hgr3.block b' (by show b' < w2.heap.size; omega) (fun e => by injection e with e; omega))).trans hcy
         have Hg3 := Lib.hid hg3
         have Hgr3 := Lib.hid (grown_trans (grown_trans Hgr.out (grown_drew' _ _)) hgr3)
         clear hg3 hgr3))
    all_goals
      go_wp2
      all_goals (try simp only [Exit.inBlock, Exit.then])
      all_goals refine bodyPost_ret (results_tmp2 rfl _ _ _) rfl ?_
      all_goals refine ⟨.inr ⟨t, (i : Int), Ht.out, ?_, Hg3.out⟩, Hgr3.out⟩
      all_goals
        unfold aliasPick flt
        rw [← order_l hu.out, Int.toNat_natCast]
        have ex : xs.getD i 0 = x := by rw [List.getD, hxi.out]; rfl
        have ey : ys.getD i 0 = y := by rw [List.getD, hyi.out]; rfl
        rw [ex, ey]
        first
          | (have hc : (FloatKind.f32.format.order u x == some Ordering.lt) = true := by assumption
             rw [if_pos hc]
             rfl)
          | (have hc : (FloatKind.f32.format.order u x == some Ordering.lt) = false := by assumption
             rw [if_neg (by rw [hc]; decide)]
             rfl)
set_option maxRecDepth 100000 in
set_option maxHeartbeats 1000000 in
theorem specAliasSeed_any : FnSA_SNB 16 aliasSeed := by
  intro k0 a0 b0 A n c A' n' c' B xs ys w hs h h' hB hn hn'
  have hl := h.lenF
  obtain rfl : xs.length = n := hl.out
  have hl' := h'.lenI
  obtain rfl : ys.length = n' := hl'.out
  clear hl hl'
  obtain ⟨w0, hw0⟩ : ∃ w0, w0 = (((w.alloc (.cells #[.int .i64 k0, .int .u64 a0, .int .u64 b0] 26)).alloc (.cells #[.slice A xs.length c, .slice A' ys.length c'] 33)).alloc (.cells #[.int .i64 0, .int .u64 0, .int .u64 0] 26)) := ⟨_, rfl⟩
  have hz1 : ((w.alloc (.cells #[.int .i64 k0, .int .u64 a0, .int .u64 b0] 26)).alloc (.cells #[.slice A xs.length c, .slice A' ys.length c'] 33)).heap.size = w.heap.size + 2 := by rw [size_alloc', size_alloc']
  have hg : SeedAt w0 w.heap.size ⟨k0, a0, b0⟩ := by rw [hw0]; exact ((SeedAt.new w k0 a0 b0).alloc _).alloc _
  have ha : AlAt w0 (w.heap.size + 1) 33 (.slice A xs.length c) (.slice A' ys.length c') := by
    have := (AlAt.new (w.alloc (.cells #[.int .i64 k0, .int .u64 a0, .int .u64 b0] 26)) 33 (.slice A xs.length c) (.slice A' ys.length c')).alloc (.cells #[.int .i64 0, .int .u64 0, .int .u64 0] 26)
    rw [size_alloc'] at this
    rw [hw0]; exact this
  have hz : SeedAt w0 (w.heap.size + 2) ⟨0, 0, 0⟩ := by
    have := SeedAt.new ((w.alloc (.cells #[.int .i64 k0, .int .u64 a0, .int .u64 b0] 26)).alloc (.cells #[.slice A xs.length c, .slice A' ys.length c'] 33)) 0 0 0
    rw [hz1] at this
    rw [hw0]; exact this
  have hBl : Below w.heap.size w w0 := by rw [hw0]; exact (((Below.refl _ _).alloc (Nat.le_refl _) _).alloc (by rw [size_alloc']; omega) _).alloc (by rw [hz1]; omega) _
  have HR := Lib.hid (h.below hBl hB); have HQ := Lib.hid (h'.below hBl hB)
  have HB := Lib.hid hBl; have Hz := Lib.hid hz; have Hg := Lib.hid hg; have Ha := Lib.hid ha; have Hk : Hid (Sd.ok ⟨k0, a0, b0⟩) := hs
  clear hBl hz hg ha hs h h' hz1
  go_enter Try.func16, Try.ntmps16
  go_wp2_with fail
  rw [← hw0]
  clear hw0
  refine (specIs_any ⟨k0, a0, b0⟩ _ _ Hk.out Hg.out).mono ?_
  rintro e w1 ⟨rfl, rfl⟩
  have u0 := Hz.out.c0
  have u1 := Hz.out.c1
  have u2 := Hz.out.c2
  have v0 := Hz.out.fz 0
  have v1 := Hz.out.fz 1
  have v2 := Hz.out.fz 2
  simp only at u0 u1 u2
  cases hv : validB ⟨k0, a0, b0⟩ with
  | false =>
    have Hn : Hid (aliasSeed ⟨k0, a0, b0⟩ xs ys = none) := by show _ = _; simp [aliasSeed, hv]
    go_wp2
    (try simp only [Exit.inBlock, Exit.then])
    refine bodyPost_ret (results_s3 rfl _ rfl (Hz.out.set3 0 0 0)) rfl ?_
    exact gaveSNB_none Hn.out (below_set3 HB.out (by omega) _ _ _)
  | true =>
    have Hv := Lib.hid hv
    clear hv
    go_wp2_with fail
    refine (specIsAlias_any _ A xs.length c A' ys.length c' B xs ys _ HR.out HQ.out Ha.out hn hn').mono ?_
    rintro e w2 ⟨rfl, rfl⟩
    cases hal : aliasB xs ys with
    | false =>
      have Hn : Hid (aliasSeed ⟨k0, a0, b0⟩ xs ys = none) := by show _ = _; simp [aliasSeed, hal]
      clear hal
      go_wp2
      (try simp only [Exit.inBlock, Exit.then])
      refine bodyPost_ret (results_s3 rfl _ rfl (Hz.out.set3 0 0 0)) rfl ?_
      exact gaveSNB_none Hn.out (below_set3 HB.out (by omega) _ _ _)
    | true =>
      have hel := aliasB_elim hal
      have Hr : Hid (aliasSeed ⟨k0, a0, b0⟩ xs ys = match tried xs.length 64 ⟨k0, a0, b0⟩ with
        | none => none
        | some (t, i) => some (nextSd t, aliasPick xs ys (shareOf t) i.toNat)) := by show _ = _; unfold aliasSeed; rw [Hv.out, hal]; rfl
      clear hal u0 u1 u2 v0 v1 v2
      obtain ⟨he1, he2, he3⟩ := hel
      have He3 := Lib.hid he3
      clear he3
      go_wp2_with fail
      refine (specPick_any ⟨k0, a0, b0⟩ w.heap.size (w.heap.size + 1) A c A' c' B xs ys _ Hk.out he1 he2 He3.out Hg.out Ha.out (by omega) HR.out HQ.out hB).mono ?_
      rintro e w3 ⟨hor, hgr⟩
      have HZ3 := Lib.hid (Hz.out.grown hgr (by simp))
      have HB3 := Lib.hid (HB.out.grown hgr HB.out.size (fun _ h => by cases h; exact Nat.le_refl _))
      clear hgr
      have u0 := HZ3.out.c0
      have u1 := HZ3.out.c1
      have u2 := HZ3.out.c2
      have v0 := HZ3.out.fz 0
      have v1 := HZ3.out.fz 1
      have v2 := HZ3.out.fz 2
      simp only at u0 u1 u2
      rcases hor with ⟨ht, rfl⟩ | ⟨t, i, ht, rfl, hg3⟩
      · have Hn : Hid (aliasSeed ⟨k0, a0, b0⟩ xs ys = none) := by show _ = _; rw [Hr.out, ht]
        clear ht
        go_wp2
        (try simp only [Exit.inBlock, Exit.then])
        refine bodyPost_ret (results_s3 (s := ⟨0, 0, 0⟩) (g := w.heap.size + 2) rfl _ rfl (by exact HZ3.out.set3 0 0 0)) rfl ?_
        exact gaveSNB_none Hn.out (below_set3 HB3.out (by omega) _ _ _)
      · have Hn : Hid (aliasSeed ⟨k0, a0, b0⟩ xs ys = some (nextSd t, aliasPick xs ys (shareOf t) i.toNat)) := by show _ = _; rw [Hr.out, ht]
        clear ht
        generalize nextSd t = t2 at Hn hg3
        generalize aliasPick xs ys (shareOf t) i.toNat = pk at Hn ⊢
        obtain ⟨k1, a1, b1⟩ := t2
        have c0 := hg3.c0
        have c1 := hg3.c1
        have c2 := hg3.c2
        simp only at c0 c1 c2
        clear hg3
        go_wp2
        (try simp only [Exit.inBlock, Exit.then])
        refine bodyPost_ret (results_s3 (s := ⟨k1, a1, b1⟩) (g := w.heap.size + 2) rfl _ rfl (by exact HZ3.out.set3 k1 a1 b1)) rfl ?_
        exact gaveSNB_some (s := ⟨k1, a1, b1⟩) Hn.out (below_set3 HB3.out (by omega) _ _ _)
set_option maxRecDepth 100000 in
set_option maxHeartbeats 1000000 in
theorem implAliasSeed_any : FnSA_SNB 15 aliasSeed := by
  intro k0 a0 b0 A n c A' n' c' B xs ys w hs h h' hB hn hn'
  have hl := h.lenF
  obtain rfl : xs.length = n := hl.out
  have hl' := h'.lenI
  obtain rfl : ys.length = n' := hl'.out
  clear hl hl'
  obtain ⟨w0, hw0⟩ : ∃ w0, w0 = (((w.alloc (.cells #[.int .i64 k0, .int .u64 a0, .int .u64 b0] 26)).alloc (.cells #[.slice A xs.length c, .slice A' ys.length c'] 33)).alloc (.cells #[.int .i64 0, .int .u64 0, .int .u64 0] 26)) := ⟨_, rfl⟩
  have hz1 : ((w.alloc (.cells #[.int .i64 k0, .int .u64 a0, .int .u64 b0] 26)).alloc (.cells #[.slice A xs.length c, .slice A' ys.length c'] 33)).heap.size = w.heap.size + 2 := by rw [size_alloc', size_alloc']
  have hg : SeedAt w0 w.heap.size ⟨k0, a0, b0⟩ := by rw [hw0]; exact ((SeedAt.new w k0 a0 b0).alloc _).alloc _
  have ha : AlAt w0 (w.heap.size + 1) 33 (.slice A xs.length c) (.slice A' ys.length c') := by
    have := (AlAt.new (w.alloc (.cells #[.int .i64 k0, .int .u64 a0, .int .u64 b0] 26)) 33 (.slice A xs.length c) (.slice A' ys.length c')).alloc (.cells #[.int .i64 0, .int .u64 0, .int .u64 0] 26)
    rw [size_alloc'] at this
    rw [hw0]; exact this
  have hz : SeedAt w0 (w.heap.size + 2) ⟨0, 0, 0⟩ := by
    have := SeedAt.new ((w.alloc (.cells #[.int .i64 k0, .int .u64 a0, .int .u64 b0] 26)).alloc (.cells #[.slice A xs.length c, .slice A' ys.length c'] 33)) 0 0 0
    rw [hz1] at this
    rw [hw0]; exact this
  have hBl : Below w.heap.size w w0 := by rw [hw0]; exact (((Below.refl _ _).alloc (Nat.le_refl _) _).alloc (by rw [size_alloc']; omega) _).alloc (by rw [hz1]; omega) _
  have HR := Lib.hid (h.below hBl hB); have HQ := Lib.hid (h'.below hBl hB)
  have HB := Lib.hid hBl; have Hz := Lib.hid hz; have Hg := Lib.hid hg; have Ha := Lib.hid ha; have Hk : Hid (Sd.ok ⟨k0, a0, b0⟩) := hs
  clear hBl hz hg ha hs h h' hz1
  go_enter Try.func15, Try.ntmps15
  go_wp2_with fail
  rw [← hw0]
  clear hw0
  have hle0 : w.heap.size ≤ w0.heap.size := HB.out.size
  refine (implAlias_any A xs.length c A' ys.length c' B xs ys _ HR.out HQ.out (Nat.le_trans hB hle0) hn hn').mono ?_
  rintro e w1 ⟨rfl, hb⟩
  have HR1 := Lib.hid (HR.out.below hb (Nat.le_trans hB hle0)); have HQ1 := Lib.hid (HQ.out.below hb (Nat.le_trans hB hle0))
  have HB1 := Lib.hid (HB.out.trans (hb.mono hle0)); have Hz1 := Lib.hid (Hz.out.below hb Hz.out.lt); have Hg1 := Lib.hid (Hg.out.below hb Hg.out.lt); have Ha1 := Lib.hid (Ha.out.below hb Ha.out.lt)
  have hle1 : w.heap.size ≤ w1.heap.size := HB1.out.size
  clear hb HR HQ HB Hz Hg Ha hle0
  cases hal : aliasB xs ys with
  | false =>
    have Hn : Hid (aliasSeed ⟨k0, a0, b0⟩ xs ys = none) := by show _ = _; simp [aliasSeed, hal]
    have u0 := Hz1.out.c0
    have u1 := Hz1.out.c1
    have u2 := Hz1.out.c2
    have v0 := Hz1.out.fz 0
    have v1 := Hz1.out.fz 1
    have v2 := Hz1.out.fz 2
    simp only at u0 u1 u2
    clear hal
    go_wp2
    (try simp only [Exit.inBlock, Exit.then])
    refine bodyPost_ret (results_s3 (s := ⟨0, 0, 0⟩) (g := w.heap.size + 2) rfl _ rfl (by exact Hz1.out.set3 0 0 0)) rfl ?_
    exact gaveSNB_none Hn.out (below_set3 HB1.out (by omega) _ _ _)
  | true =>
    have Hr := Lib.hid (alias_join (s := ⟨k0, a0, b0⟩) hal)
    obtain ⟨he1, he2, he3⟩ := aliasB_elim hal
    have He3 := Lib.hid he3
    clear hal he3
    have c0 := Hg1.out.c0
    have c1 := Hg1.out.c1
    have c2 := Hg1.out.c2
    simp only at c0 c1 c2
    have d0 := Ha1.out.c0
    go_wp2_with fail
    clear c0 c1 c2 d0
    refine (implBelow_any ⟨k0, a0, b0⟩ xs.length _ Hk.out (by omega)).mono ?_
    rintro e w2 ⟨k1, a1, b1, p, ok, rfl, hok, hsd, hx, hb⟩
    have hg2 := Hg1.out.below hb Hg1.out.lt
    have Hz2 := Lib.hid ((Hz1.out.below hb Hz1.out.lt).far3 (g' := w.heap.size) (by omega) k1 a1 b1)
    have Ha2 := Lib.hid ((((Ha1.out.below hb Ha1.out.lt).far (p := ⟨w.heap.size, 0, none⟩) (by show w.heap.size + 1 ≠ w.heap.size; omega) (.int .i64 k1)).far (p := ⟨w.heap.size, 1, none⟩) (by show w.heap.size + 1 ≠ w.heap.size; omega) (.int .u64 a1)).far (p := ⟨w.heap.size, 2, none⟩) (by show w.heap.size + 1 ≠ w.heap.size; omega) (.int .u64 b1))
    have HB2 := Lib.hid (below_set3 (HB1.out.trans (hb.mono hle1)) (Nat.le_refl _) k1 a1 b1)
    have HR2 := Lib.hid ((((HR1.out.below hb (Nat.le_trans hB hle1)).setCell (p := ⟨w.heap.size, 0, none⟩) hB (.int .i64 k1)).setCell (p := ⟨w.heap.size, 1, none⟩) hB (.int .u64 a1)).setCell (p := ⟨w.heap.size, 2, none⟩) hB (.int .u64 b1))
    have HQ2 := Lib.hid ((((HQ1.out.below hb (Nat.le_trans hB hle1)).setCell (p := ⟨w.heap.size, 0, none⟩) hB (.int .i64 k1)).setCell (p := ⟨w.heap.size, 1, none⟩) hB (.int .u64 a1)).setCell (p := ⟨w.heap.size, 2, none⟩) hB (.int .u64 b1))
    have f0 := hg2.fz 0
    have f1 := hg2.fz 1
    have f2 := hg2.fz 2
    have x0 := hg2.c0
    have x1 := hg2.c1
    have x2 := hg2.c2
    simp only at x0 x1 x2
    have hg3 := hg2.set3 k1 a1 b1
    have y0 := hg3.c0
    have y1 := hg3.c1
    have y2 := hg3.c2
    simp only at y0 y1 y2
    have Hg3 := Lib.hid hg3
    have u0 := Hz2.out.c0
    have u1 := Hz2.out.c1
    have u2 := Hz2.out.c2
    have v0 := Hz2.out.fz 0
    have v1 := Hz2.out.fz 1
    have v2 := Hz2.out.fz 2
    simp only at u0 u1 u2
    clear hb hg2 hg3
    cases hbs : belowS ⟨k0, a0, b0⟩ xs.length with
    | none =>
      rw [hbs] at hok
      obtain rfl : ok = false := hok.out
      have Hn : Hid (aliasSeed ⟨k0, a0, b0⟩ xs ys = none) := by show _ = _; rw [Hr.out, hbs]
      clear hbs hok hsd hx
      go_wp2
      (try simp only [Exit.inBlock, Exit.then])
      refine bodyPost_ret (results_s3 (s := ⟨0, 0, 0⟩) (g := w.heap.size + 2) rfl _ rfl (by exact Hz2.out.set3 0 0 0)) rfl ?_
      exact gaveSNB_none Hn.out (below_set3 HB2.out (by omega) _ _ _)
    | some r =>
      obtain ⟨t, i'⟩ := r
      have hto := belowS_ok' Hk.out hbs
      have hib : 0 ≤ i' ∧ i' < (xs.length : Int) := by
        unfold belowS at hbs
        split at hbs
        · exact tried_lt (by omega) hbs
        · cases hbs
      rw [hbs] at hok hsd hx
      obtain rfl : ok = true := hok.out
      obtain rfl : p = i' := hx.out
      obtain rfl : (⟨k1, a1, b1⟩ : Sd) = t := hsd.out
      have Hr2 : Hid (aliasSeed ⟨k0, a0, b0⟩ xs ys = some (nextSd ⟨k1, a1, b1⟩, aliasPick xs ys (shareOf ⟨k1, a1, b1⟩) p.toNat)) := by show _ = _; rw [Hr.out, hbs]
      have Hto := Lib.hid hto
      obtain ⟨i, rfl⟩ : ∃ i : Nat, p = (i : Int) := ⟨p.toNat, by omega⟩
      clear hbs hok hsd hx hto Hr
      go_wp2_with fail
      generalize ((w2.setCell ⟨w.heap.size, 0, none⟩ (.int .i64 k1)).setCell ⟨w.heap.size, 1, none⟩ (.int .u64 a1)).setCell ⟨w.heap.size, 2, none⟩ (.int .u64 b1) = w3 at Hz2 Ha2 HB2 HR2 HQ2 Hg3 ⊢
      clear f0 f1 f2 x0 x1 x2 y0 y1 y2 u0 u1 u2 v0 v1 v2
      have hle3 : w.heap.size ≤ w3.heap.size := HB2.out.size
      refine (implShare_any ⟨k1, a1, b1⟩ _ Hto.out).mono ?_
      rintro e w4 ⟨u, rfl, hu, hb⟩
      obtain ⟨t2, ht2⟩ : ∃ t2, t2 = nextSd ⟨k1, a1, b1⟩ := ⟨_, rfl⟩
      rw [← ht2] at Hr2 ⊢
      clear ht2
      obtain ⟨k2, a2, b2⟩ := t2
      unfold Sd.val
      have hg4 := Hg3.out.below hb Hg3.out.lt
      have Hz5 := Lib.hid ((Hz2.out.below hb Hz2.out.lt).far3 (g' := w.heap.size) (by omega) k2 a2 b2)
      have Ha5 := Lib.hid ((((Ha2.out.below hb Ha2.out.lt).far (p := ⟨w.heap.size, 0, none⟩) (by show w.heap.size + 1 ≠ w.heap.size; omega) (.int .i64 k2)).far (p := ⟨w.heap.size, 1, none⟩) (by show w.heap.size + 1 ≠ w.heap.size; omega) (.int .u64 a2)).far (p := ⟨w.heap.size, 2, none⟩) (by show w.heap.size + 1 ≠ w.heap.size; omega) (.int .u64 b2))
      have HB5 := Lib.hid (below_set3 (HB2.out.trans (hb.mono hle3)) (Nat.le_refl _) k2 a2 b2)
      have HR5 := Lib.hid ((((HR2.out.below hb (Nat.le_trans hB hle3)).setCell (p := ⟨w.heap.size, 0, none⟩) hB (.int .i64 k2)).setCell (p := ⟨w.heap.size, 1, none⟩) hB (.int .u64 a2)).setCell (p := ⟨w.heap.size, 2, none⟩) hB (.int .u64 b2))
      have HQ5 := Lib.hid ((((HQ2.out.below hb (Nat.le_trans hB hle3)).setCell (p := ⟨w.heap.size, 0, none⟩) hB (.int .i64 k2)).setCell (p := ⟨w.heap.size, 1, none⟩) hB (.int .u64 a2)).setCell (p := ⟨w.heap.size, 2, none⟩) hB (.int .u64 b2))
      have Hg5 := Lib.hid (hg4.set3 k2 a2 b2)
      have f0 := hg4.fz 0
      have f1 := hg4.fz 1
      have f2 := hg4.fz 2
      have x0 := hg4.c0
      have x1 := hg4.c1
      have x2 := hg4.c2
      simp only at x0 x1 x2
      have y0 := Hg5.out.c0
      have y1 := Hg5.out.c1
      have y2 := Hg5.out.c2
      simp only at y0 y1 y2
      have u0 := Hz5.out.c0
      have u1 := Hz5.out.c1
      have u2 := Hz5.out.c2
      have v0 := Hz5.out.fz 0
      have v1 := Hz5.out.fz 1
      have v2 := Hz5.out.fz 2
      simp only at u0 u1 u2
      have hi' : (i : Int) < (xs.length : Int) := hib.2
      have hi2 : (i : Int) < (ys.length : Int) := by rw [He3.out]; exact hib.2
      obtain ⟨bb, off, x, rfl, hbb, hxi, hcx⟩ := HR5.out.atF (k := i) (by omega)
      obtain ⟨bb', off', y, rfl, hbb', hyi, hcy⟩ := HQ5.out.atI (k := i) (by omega)
      have d0 := Ha5.out.c0
      have d1 := Ha5.out.c1
      clear hb hg4
      go_wp2
      all_goals (try simp only [Exit.inBlock, Exit.then])
      all_goals refine bodyPost_ret (results_s3 (s := ⟨k2, a2, b2⟩) (g := w.heap.size + 2) rfl _ rfl (by exact Hz5.out.set3 k2 a2 b2)) rfl ?_
      all_goals refine gaveSNB_some (s := ⟨k2, a2, b2⟩) ?_ (below_set3 HB5.out (by omega) _ _ _)
      all_goals
        rw [Hr2.out]
        unfold aliasPick flt
        rw [← order_l hu.out, Int.toNat_natCast]
        have ex : xs.getD i 0 = x := by rw [List.getD, hxi.out]; rfl
        have ey : ys.getD i 0 = y := by rw [List.getD, hyi.out]; rfl
        rw [ex, ey]
        first
          | (have hc : (!FloatKind.f32.format.order u x == some Ordering.lt) = true := by assumption
             rw [if_neg (by simpa using hc)])
          | (have hc : (!FloatKind.f32.format.order u x == some Ordering.lt) = false := by assumption
             rw [if_pos (by simpa using hc)])
end Go.Proofs.Ytgemcjcghnpmdaa
