/- AliasOf: the walk of the program's function. -/
import Derived.Test.YtgemcjcghnpmdaaAliasR
import Derived.Deep.RegionWith
import Derived.Deep.RegionHeld3
namespace Go.Proofs.Ytgemcjcghnpmdaa
open Go.RowKit
set_option maxRecDepth 100000
attribute [local go_sem] run_store_float'
theorem wpOp_at {P : Program} {ops : Array Oper} {Q : Exit → Act → World → Prop} {i : Nat} {o : Oper} {K : Act → World → Prop} {a : Act} {w : World} (ho : ops[i]? = some o) (hw : Region.wanted o (yielded ops a.tmps) = true) (h : ∀ K' : Act → World → Prop, Hid (∀ a w, K a w → K' a w) → o.wp P a w K' Q) : wpOp P ops Q i K a w := by
  unfold wpOp
  rw [ho]
  simp only
  rw [if_pos hw]
  exact .inl (h K (fun _ _ h => h))
theorem own_made' (w : World) (z : Value) (n base : Nat) (e : TypeId) (hb : base ≤ w.heap.size) (hm : n ≤ maxLen) : (w.alloc (.cells (madeCells #[z] n) e)).ownsRow base e 1 (.slice (some ⟨w.heap.size, 0, none⟩) n n) n (List.replicate n z) :=
  ⟨by simp, .inr ⟨w.heap.size, n, madeCells #[z] n, rfl, hb, heap_alloc_new w _, Nat.le_refl _, hm, by rw [← Array.length_toList, madeCells_one]; simp, by rw [madeCells_one, List.take_of_length_le (by simp)]⟩⟩
theorem Iv.mk_lt {X : Value} {b n : Nat} {w0 w : World} {L : Nat → Bool} {f : Nat → Value} (h : Iv X b n w0 L f w) (o : Obj) {v : Value} (hv : blkOf v = w.heap.size) :
    (w0.heap.size ≤ blkOf v ∧ blkOf v < (w.alloc o).heap.size) ∧ (∀ j, mk4 j = true → L j = true → blkOf (f (dst4 j)) ≠ blkOf v) ∧ Iv X b n w0 L f (w.alloc o) := by
  have := h.bl.size
  rw [hv, size_alloc'']
  exact ⟨⟨this, by omega⟩, fun j hj hl => by have := (h.lt j hj hl).2; omega, h.world ((Below.refl _ _).alloc (Nat.le_refl _) o)⟩
theorem own_chg {b : Nat} {e : TypeId} {k : Nat} {xs : List Value} {w w' : World} {g c m : Nat} {P : Nat → Prop} (h : w.ownsRow b e 1 (.slice (some ⟨g, 0, none⟩) m c) k xs) (hc : Chg P w w') (hP : ¬ P g) : w'.ownsRow b e 1 (.slice (some ⟨g, 0, none⟩) m c) k xs := by
  refine ⟨h.1, ?_⟩
  rcases h.2 with hn | ⟨g', cap, cur, hv, h1, hg, rest⟩
  · exact .inl hn
  · have e1 : g = g' := by injection hv with hv; injection hv with hv; injection hv
    subst e1
    exact .inr ⟨g, cap, cur, hv, h1, (hc.block g (Array.getElem?_eq_some_iff.1 hg).1 hP).trans hg, rest⟩
set_option maxHeartbeats 2000000 in
theorem first_any (b : Bool) (g7 g8 : Nat) (W0 : World) (base n gq gv go gs cq cv co cs : Nat) (s : AS) (w : World) (hn : n ≤ 1000) (h7 : BoxV w g7 29 (.slice (some ⟨gq, 0, none⟩) n cq)) (h8 : BoxV w g8 60 (.slice (some ⟨gs, 0, none⟩) n cs)) (hP : Ph W0 base n gq gv go gs cq cv co cs w s) (hok : ASok n s) :
    Calls Try.prog 30 #[.bool b, .pointer (some ⟨g7, 0, none⟩), .pointer (some ⟨g8, 0, none⟩)] w fun e w' => e = .returned (.int .i64 (idxI (firstS s.q s.st b))) ∧ w' = w := by
  have c7 := h7.c0
  have c8 := h8.c0
  have HP := Lib.hid hP; have Hok := Lib.hid hok
  clear h7 h8 hP hok
  go_enter Try.func30, Try.ntmps30
  go_wp2
  go_loop [8] (fun i => ∃ k : Nat, k ≤ n ∧ i = .int .i64 k ∧ Hid (∀ j, j < k → pickB s.q s.st b j = false)) (fun i => n - (intOf i).toNat)
  case atStart => exact ⟨0, Nat.zero_le _, rfl, fun j hj => by omega⟩
  case round =>
    obtain ⟨k, hk, rfl, hno⟩ := hrel
    by_cases hlt : k < n
    · have hlt' : (k : Int) < (n : Int) := by omega
      have hlq : k < s.q.length := by rw [Hok.out.q]; exact hlt
      obtain ⟨x, hx⟩ : ∃ x, s.q[k]? = some x := ⟨_, List.getElem?_eq_getElem hlq⟩
      obtain ⟨t, ht⟩ : ∃ b, s.st[k]? = some b := ⟨_, List.getElem?_eq_getElem (by rw [Hok.out.st]; exact hlt)⟩
      obtain ⟨hcq, _⟩ := HP.out.cellQ hx hlt
      obtain ⟨hcs, _⟩ := HP.out.cellSt ht hlt
      have hpk := pickB_at (small := b) hx ht
      have hnext : pickB s.q s.st b k = false → Hid (∀ j, j < k + 1 → pickB s.q s.st b j = false) := fun h j hj => by
        by_cases e : j < k
        · exact hno.out j e
        · obtain rfl : j = k := by omega
          exact h
      have hfound : pickB s.q s.st b k = true → Hid (firstS s.q s.st b = some k) := fun h => firstS_some hlq h hno.out
      clear hx ht
      cases t with
      | true =>
        have hn2 := hnext (by rw [hpk]; rfl)
        clear hnext hfound hpk
        go_wp2
        go_round
        case rel => exact ⟨k + 1, by omega, by go_num, hn2⟩
        case measure => simp only [intOf]; omega
      | false =>
        cases hl : ltOne x with
        | true =>
          rw [hl] at hpk
          unfold ltOne flt at hl
          cases b with
          | true =>
            have hf := hfound (by rw [hpk]; rfl)
            clear hnext hfound hpk
            go_wp2
            go_ret
            exact ⟨by rw [hf.out]; rfl, rfl⟩
          | false =>
            have hn2 := hnext (by rw [hpk]; rfl)
            clear hnext hfound hpk
            go_wp2
            go_round
            case rel => exact ⟨k + 1, by omega, by go_num, hn2⟩
            case measure => simp only [intOf]; omega
        | false =>
          rw [hl] at hpk
          unfold ltOne flt at hl
          cases b with
          | false =>
            have hf := hfound (by rw [hpk]; rfl)
            clear hnext hfound hpk
            go_wp2
            go_ret
            exact ⟨by rw [hf.out]; rfl, rfl⟩
          | true =>
            have hn2 := hnext (by rw [hpk]; rfl)
            clear hnext hfound hpk
            go_wp2
            go_round
            case rel => exact ⟨k + 1, by omega, by go_num, hn2⟩
            case measure => simp only [intOf]; omega
    · obtain rfl : k = n := by omega
      have hf : Hid (firstS s.q s.st b = none) := firstS_none (fun j hj => hno.out j (by rw [← Hok.out.q]; exact hj))
      go_wp2
      go_ret
      exact ⟨by rw [hf.out]; rfl, rfl⟩
set_option maxHeartbeats 20000000 in
theorem implAliasOf : FnFl_AB 8 aliasR := by
  intro A n c B xs w h hB hn hcap
  have hl := h.lenF
  obtain rfl : xs.length = n := hl.out
  have hz1 : (w.alloc (.cells #[.slice none 0 0, .slice none 0 0] 33)).heap.size = w.heap.size + 1 := size_alloc'' _ _
  have hb1 : Below w.heap.size w (w.alloc (.cells #[.slice none 0 0, .slice none 0 0] 33)) := (Below.refl _ _).alloc (Nat.le_refl _) _
  have ha2 : AlAt (w.alloc (.cells #[.slice none 0 0, .slice none 0 0] 33)) w.heap.size 33 (.slice none 0 0) (.slice none 0 0) := AlAt.new w _ _ _
  have HR0 := Lib.hid h
  clear hl h hcap
  go_enter Try.func8, Try.ntmps8
  go_wp2_with fail
  generalize w.alloc (.cells #[.slice none 0 0, .slice none 0 0] 33) = w1 at hz1 hb1 ha2 ⊢
  have HR1 := Lib.hid (HR0.out.below hb1 hB); have HB1 := Lib.hid hb1; have HA1 := Lib.hid ha2; have Hz1 := Lib.hid hz1
  clear hb1 ha2 hz1
  refine (implPicks_any A xs.length c B xs _ HR1.out (by omega)).mono ?_
  rintro e w2 ⟨rfl, hb⟩
  have HA2 := Lib.hid (HA1.out.below hb HA1.out.lt)
  have hle1 : w.heap.size ≤ w1.heap.size := HB1.out.size
  have hle2 : w1.heap.size ≤ w2.heap.size := hb.size
  have HB2 := Lib.hid (HB1.out.trans (hb.mono hle1))
  have HR2 := Lib.hid (HR1.out.below hb (by omega))
  clear hb HA1 HR1 HB1
  have c0 := HA2.out.c0
  have c1 := HA2.out.c1
  have f0 := HA2.out.fz 0
  have f1 := HA2.out.fz 1
  cases hv : picksB xs with
  | false =>
    have hr : Hid (aliasR xs = none) := by show _ = _; simp [aliasR, hv]
    have HZ := Lib.hid ((HA2.out.set0 (.slice none 0 0)).set1 (.slice none 0 0))
    clear hv
    go_wp2
    refine bodyPost_ret (results_al2 rfl _ rfl HZ.out) rfl ?_
    exact gaveAB_none hr.out ((HB2.out.setCell (p := ⟨w.heap.size, 0, none⟩) (Nat.le_refl _) _).setCell (p := ⟨w.heap.size, 1, none⟩) (Nat.le_refl _) _)
  | true =>
    have hr : Hid (aliasR xs = some (lastSh (doneS xs) xs.length, (doneS xs).ot)) := by show _ = _; simp [aliasR, hv]
    obtain ⟨hn1, hn2⟩ : 1 ≤ xs.length ∧ xs.length ≤ 64 := by
      have hp := hv
      unfold picksB at hp
      rw [Bool.and_eq_true] at hp
      have := inB_true hp.1
      omega
    have hsum : isNaNB .f32 (sumF xs) = false := by
      have hp := hv
      unfold picksB at hp
      simp only [Bool.and_eq_true] at hp
      exact FinK_not_nan (pos_KV' hp.2.2).1
    have Hp := Lib.hid hv; have Hsum := Lib.hid hsum
    clear hv hsum c0 c1 f0 f1
    go_wp2_with fail
    refine (sumF_any A xs.length c B xs _ HR2.out (by omega)).mono ?_
    rintro e w3 ⟨r, rfl, hr3, q0, rfl⟩
    obtain rfl : r = sumF xs := cn_exact hr3.out Hsum.out
    clear hr3
    have hwr : IntKind.i64.wrap ((xs.length : Int) - 1) = (xs.length : Int) - 1 := by rw [IntKind.wrap_i64]; omega
    have hmk1 := fun w => run_make_row' (P := Try.prog) 29 40 (.float .f32 0) 4 Try.underlying29 info_f32 rfl .i64 .i64 xs.length (by omega) (by omega) w
    have hmk2 := fun w => run_make_row' (P := Try.prog) 60 4 (.bool false) 1 Try.underlying60 info_bool' rfl .i64 .i64 xs.length (by omega) (by omega) w
    go_wp2_with fail
    change Code.wp _ _ _ (fr4 (.slice A xs.length c) w.heap.size xs.length (floatOfInt .f32 xs.length) (sumF xs) (fun _ => undef)) _
    refine wp_region_any (by kernel_rfl) ?_
    refine wpAny_inv (fun listed a w' => ∃ f, a = fr4 (.slice A xs.length c) w.heap.size xs.length (floatOfInt .f32 xs.length) (sumF xs) f ∧ Iv (.slice A xs.length c) w.heap.size xs.length (w2.drewN q0) (fun i => listed.getD i false) f w') ?_ ?_ _ _ _ _ ?_ ?_ ?_
    · intro listed a w' hs hI i hi
      obtain ⟨f, rfl, hI⟩ := hI
      have hm := List.mem_filter.1 hi
      have hil : i < 18 := List.mem_range.1 hm.1
      have hsz : i < listed.size := by rw [hs]; exact hil
      have hlf : listed.getD i false = false := by
        have h1 := hm.2
        rw [Bool.and_eq_true] at h1
        have h2 : listed.getD i true = false := by simpa using h1.1
        rw [Array.getD, dif_pos hsz] at h2 ⊢
        exact h2
      have hdep := hm.2
      rw [Bool.and_eq_true] at hdep
      have hdep := hdep.2
      have hupd : ∀ {f' : Nat → Value} {w'' : World}, Iv (.slice A xs.length c) w.heap.size xs.length (w2.drewN q0) (upd (fun i => listed.getD i false) i true) f' w'' → Iv (.slice A xs.length c) w.heap.size xs.length (w2.drewN q0) (fun k => (listed.setIfInBounds i true).getD k false) f' w'' := fun h => by
        have e : (fun k => (listed.setIfInBounds i true).getD k false) = upd (fun i => listed.getD i false) i true := by
          funext k
          unfold upd
          simp only [Array.getD_eq_getD_getElem?, Array.getElem?_setIfInBounds]
          by_cases e : i = k
          · subst e; rw [if_pos rfl, if_pos hsz, if_pos rfl]; rfl
          · rw [if_neg e, if_neg (fun e' => e e'.symm)]
        rw [e]; exact h
      have hL : ∀ k, listed.getD k false = listed[k]?.getD false := fun k => by simp [Array.getD_eq_getD_getElem?]
      have hbw : w.heap.size ≤ w'.heap.size := by have h1 := hI.bl.size; have h2 : (w2.drewN q0).heap.size = w2.heap.size := rfl; omega
      clear hi hm
      have hcase : i = 0 ∨ i = 1 ∨ i = 2 ∨ i = 3 ∨ i = 4 ∨ i = 5 ∨ i = 6 ∨ i = 7 ∨ i = 8 ∨ i = 9 ∨ i = 10 ∨ i = 11 ∨ i = 12 ∨ i = 13 ∨ i = 14 ∨ i = 15 ∨ i = 16 ∨ i = 17 := by omega
      rcases hcase with rfl | rfl | rfl | rfl | rfl | rfl | rfl | rfl | rfl | rfl | rfl | rfl | rfl | rfl | rfl | rfl | rfl | rfl
      · skip
        refine wpOp_at rfl rfl ?_
        intro K' hK
        unfold fr4
        go_simp
        exact hK.out _ _ ⟨upd f 24 (.slice A xs.length c), rfl, hupd hI.s0⟩
      · simp [Region.binds] at hdep
        have d0 : listed.getD 0 false = true := by rw [hL]; simp [hdep]
        have e0 := hI.p0 d0
        refine wpOp_at rfl rfl ?_
        intro K' hK
        unfold fr4
        go_simp
        exact hK.out _ _ ⟨upd f 25 (.int .i64 xs.length), by simp [fr4, upd, *], hupd hI.s1⟩
      · simp [Region.binds] at hdep
        have d1 : listed.getD 1 false = true := by rw [hL]; simp [hdep]
        have e0 := hI.p1 d1
        refine wpOp_at rfl rfl ?_
        intro K' hK
        unfold fr4
        go_simp
        obtain ⟨g1, g2, g3⟩ := hI.mk_lt (.cells (madeCells #[.float .f32 0] xs.length) 40) (v := (.slice (some ⟨w'.heap.size, 0, none⟩) xs.length xs.length)) rfl
        exact hK.out _ _ ⟨upd f 26 ((.slice (some ⟨w'.heap.size, 0, none⟩) xs.length xs.length)), by simp [fr4, upd, *], hupd (g3.s2 hlf (⟨_, rfl, by have := own_made' w' (.float .f32 0) xs.length w.heap.size 40 hbw (by unfold maxLen; omega); simpa [f32s] using this⟩) g1 g2)⟩
      · skip
        refine wpOp_at rfl rfl ?_
        intro K' hK
        unfold fr4
        go_simp
        exact hK.out _ _ ⟨upd f 27 (.slice A xs.length c), rfl, hupd hI.s3⟩
      · simp [Region.binds] at hdep
        have d3 : listed.getD 3 false = true := by rw [hL]; simp [hdep]
        have e0 := hI.p3 d3
        refine wpOp_at rfl rfl ?_
        intro K' hK
        unfold fr4
        go_simp
        exact hK.out _ _ ⟨upd f 28 (.int .i64 xs.length), by simp [fr4, upd, *], hupd hI.s4⟩
      · simp [Region.binds] at hdep
        have d4 : listed.getD 4 false = true := by rw [hL]; simp [hdep]
        have e0 := hI.p4 d4
        refine wpOp_at rfl rfl ?_
        intro K' hK
        unfold fr4
        go_simp
        exact hK.out _ _ ⟨upd f 29 (.int .i64 ((xs.length : Int) - 1)), by simp [fr4, upd, *], hupd hI.s5⟩
      · simp [Region.binds] at hdep
        have d5 : listed.getD 5 false = true := by rw [hL]; simp [hdep]
        have e0 := hI.p5 d5
        refine wpOp_at rfl rfl ?_
        intro K' hK
        unfold fr4
        go_simp
        refine (numbersFrom_any 0 ((xs.length : Int) - 1) xs.length _ (by omega) (by omega) (by omega) (by omega)).mono ?_
        rintro e w9 ⟨v9, rfl, ho9, hb9⟩
        obtain ⟨g9, c9, rfl, ho9', hg9⟩ := own_addr ho9 (by rw [i64s_length, upFrom_len]; omega)
        have hlo9 := (ho9.lt g9 rfl).1
        have ho10 := ho9.base_le hbw
        unfold Own at ho10
        rw [i64s_length, upFrom_len] at ho10 ⊢
        have hbs := hI.bl.size
        exact hK.out _ _ ⟨upd f 30 (.slice (some ⟨g9, 0, none⟩) xs.length c9), by simp [fr4, upd, *], hupd ((hI.world hb9).s6 hlf ⟨_, _, rfl, ho10⟩ ⟨Nat.le_trans hbs hlo9, hg9⟩ (fun j hj hl => by have h1 := (hI.lt j hj hl).2; show _ ≠ g9; omega))⟩
      · simp [Region.binds] at hdep
        have d2 : listed.getD 2 false = true := by rw [hL]; simp [hdep]
        have d6 : listed.getD 6 false = true := by rw [hL]; simp [hdep]
        obtain ⟨q2, e2, _⟩ := hI.p2 d2
        obtain ⟨q6, c6, e6, _⟩ := hI.p6 d6
        refine wpOp_at rfl rfl ?_
        intro K' hK
        unfold fr4
        go_simp
        exact hK.out _ _ ⟨upd f 31 (.agg #[f 26, f 30]), by simp [fr4, upd, *], hupd (hI.s7 d2 d6)⟩
      · skip
        refine wpOp_at rfl rfl ?_
        intro K' hK
        unfold fr4
        go_simp
        obtain ⟨g1, g2, g3⟩ := hI.mk_lt (.cells #[] 40) (v := (.slice (some ⟨w'.heap.size, 0, none⟩) 0 0)) rfl
        exact hK.out _ _ ⟨upd f 32 ((.slice (some ⟨w'.heap.size, 0, none⟩) 0 0)), rfl, hupd (g3.s8 hlf (⟨_, rfl, own_new w' _ hbw⟩) g1 g2)⟩
      · skip
        refine wpOp_at rfl rfl ?_
        intro K' hK
        unfold fr4
        go_simp
        exact hK.out _ _ ⟨upd f 33 (.slice A xs.length c), rfl, hupd hI.s9⟩
      · simp [Region.binds] at hdep
        have d9 : listed.getD 9 false = true := by rw [hL]; simp [hdep]
        have e0 := hI.p9 d9
        refine wpOp_at rfl rfl ?_
        intro K' hK
        unfold fr4
        go_simp
        exact hK.out _ _ ⟨upd f 34 (.int .i64 xs.length), by simp [fr4, upd, *], hupd hI.s10⟩
      · simp [Region.binds] at hdep
        have d10 : listed.getD 10 false = true := by rw [hL]; simp [hdep]
        have e0 := hI.p10 d10
        refine wpOp_at rfl rfl ?_
        intro K' hK
        unfold fr4
        go_simp
        obtain ⟨g1, g2, g3⟩ := hI.mk_lt (.cells (madeCells #[.bool false] xs.length) 4) (v := (.slice (some ⟨w'.heap.size, 0, none⟩) xs.length xs.length)) rfl
        exact hK.out _ _ ⟨upd f 35 ((.slice (some ⟨w'.heap.size, 0, none⟩) xs.length xs.length)), by simp [fr4, upd, *], hupd (g3.s11 hlf (⟨_, rfl, by have := own_made' w' (.bool false) xs.length w.heap.size 4 hbw (by unfold maxLen; omega); simpa [bools'] using this⟩) g1 g2)⟩
      · skip
        refine wpOp_at rfl rfl ?_
        intro K' hK
        unfold fr4
        go_simp
        obtain ⟨g1, g2, g3⟩ := hI.mk_lt (.cells #[.slice none 0 0, .slice none 0 0] 33) (v := (.pointer (some ⟨w'.heap.size, 0, none⟩))) rfl
        exact hK.out _ _ ⟨upd f 6 ((.pointer (some ⟨w'.heap.size, 0, none⟩))), rfl, hupd (g3.s12 hlf (⟨_, rfl, hbw, AlAt.new w' _ _ _⟩) g1 g2)⟩
      · skip
        refine wpOp_at rfl rfl ?_
        intro K' hK
        unfold fr4
        go_simp
        obtain ⟨g1, g2, g3⟩ := hI.mk_lt (.cells #[.slice none 0 0] 29) (v := (.pointer (some ⟨w'.heap.size, 0, none⟩))) rfl
        exact hK.out _ _ ⟨upd f 7 ((.pointer (some ⟨w'.heap.size, 0, none⟩))), rfl, hupd (g3.s13 hlf (⟨_, rfl, hbw, BoxV.new w' _ _⟩) g1 g2)⟩
      · skip
        refine wpOp_at rfl rfl ?_
        intro K' hK
        unfold fr4
        go_simp
        obtain ⟨g1, g2, g3⟩ := hI.mk_lt (.cells #[.slice none 0 0] 60) (v := (.pointer (some ⟨w'.heap.size, 0, none⟩))) rfl
        exact hK.out _ _ ⟨upd f 8 ((.pointer (some ⟨w'.heap.size, 0, none⟩))), rfl, hupd (g3.s14 hlf (⟨_, rfl, hbw, BoxV.new w' _ _⟩) g1 g2)⟩
      · simp [Region.binds] at hdep
        have d2 : listed.getD 2 false = true := by rw [hL]; simp [hdep]
        have d6 : listed.getD 6 false = true := by rw [hL]; simp [hdep]
        have d7 : listed.getD 7 false = true := by rw [hL]; simp [hdep]
        have d12 : listed.getD 12 false = true := by rw [hL]; simp [hdep]
        obtain ⟨q2, e2, _⟩ := hI.p2 d2
        obtain ⟨q6, c6, e6, _⟩ := hI.p6 d6
        have e7 := hI.p7 d7
        obtain ⟨g, e12, _, ha⟩ := hI.p12 d12
        rw [hlf] at ha
        have k0 := ha.c0
        have k1 := ha.c1
        have k2 := ha.fz 0
        have k3 := ha.fz 1
        have hS := hI.s15 d2 d6 d12 e12
        rw [e2, e6] at e7 hS
        have HI := Lib.hid hS
        clear ha hS
        refine wpOp_at rfl rfl ?_
        intro K' hK
        unfold fr4
        go_simp
        exact hK.out _ _ ⟨f, by simp [fr4, *], hupd HI.out⟩
      · simp [Region.binds] at hdep
        have d8 : listed.getD 8 false = true := by rw [hL]; simp [hdep]
        have d13 : listed.getD 13 false = true := by rw [hL]; simp [hdep]
        obtain ⟨q8, e8, _⟩ := hI.p8 d8
        obtain ⟨g, e13, _, ha⟩ := hI.p13 d13
        rw [hlf] at ha
        have k0 := ha.c0
        have k2 := ha.fz 0
        have hS := hI.s16 d8 d13 e13
        rw [e8] at hS
        have HI := Lib.hid hS
        clear ha hS
        refine wpOp_at rfl rfl ?_
        intro K' hK
        unfold fr4
        go_simp
        exact hK.out _ _ ⟨f, by simp [fr4, *], hupd HI.out⟩
      · simp [Region.binds] at hdep
        have d11 : listed.getD 11 false = true := by rw [hL]; simp [hdep]
        have d14 : listed.getD 14 false = true := by rw [hL]; simp [hdep]
        obtain ⟨q11, e11, _⟩ := hI.p11 d11
        obtain ⟨g, e14, _, ha⟩ := hI.p14 d14
        rw [hlf] at ha
        have k0 := ha.c0
        have k2 := ha.fz 0
        have hS := hI.s17 d11 d14 e14
        rw [e11] at hS
        have HI := Lib.hid hS
        clear ha hS
        refine wpOp_at rfl rfl ?_
        intro K' hK
        unfold fr4
        go_simp
        exact hK.out _ _ ⟨f, by simp [fr4, *], hupd HI.out⟩
    · intro listed a w4 hs hI hr4
      obtain ⟨f, rfl, hI⟩ := hI
      have hconv : ∀ i, i < 18 → listed[i]?.getD true = true → listed[i]?.getD false = true := fun i hi h => by
        have hl : listed[i]? = some (listed[i]'(by rw [hs]; exact hi)) := Array.getElem?_eq_getElem _
        rw [hl] at h ⊢
        exact h
      have hr := hr4
      have hL : ∀ k, listed.getD k false = listed[k]?.getD false := fun k => by simp [Array.getD_eq_getD_getElem?]
      have m0 := List.filter_eq_nil_iff.1 hr 0 (List.mem_range.2 (by decide))
      simp [Region.binds] at m0
      have e0 := hconv 0 (by decide) m0
      have m1 := List.filter_eq_nil_iff.1 hr 1 (List.mem_range.2 (by decide))
      simp [Region.binds, e0] at m1
      have e1 := hconv 1 (by decide) m1
      have m2 := List.filter_eq_nil_iff.1 hr 2 (List.mem_range.2 (by decide))
      simp [Region.binds, e1] at m2
      have e2 := hconv 2 (by decide) m2
      have m3 := List.filter_eq_nil_iff.1 hr 3 (List.mem_range.2 (by decide))
      simp [Region.binds] at m3
      have e3 := hconv 3 (by decide) m3
      have m4 := List.filter_eq_nil_iff.1 hr 4 (List.mem_range.2 (by decide))
      simp [Region.binds, e3] at m4
      have e4 := hconv 4 (by decide) m4
      have m5 := List.filter_eq_nil_iff.1 hr 5 (List.mem_range.2 (by decide))
      simp [Region.binds, e4] at m5
      have e5 := hconv 5 (by decide) m5
      have m6 := List.filter_eq_nil_iff.1 hr 6 (List.mem_range.2 (by decide))
      simp [Region.binds, e5] at m6
      have e6 := hconv 6 (by decide) m6
      have m7 := List.filter_eq_nil_iff.1 hr 7 (List.mem_range.2 (by decide))
      simp [Region.binds, e2, e6] at m7
      have e7 := hconv 7 (by decide) m7
      have m8 := List.filter_eq_nil_iff.1 hr 8 (List.mem_range.2 (by decide))
      simp [Region.binds] at m8
      have e8 := hconv 8 (by decide) m8
      have m9 := List.filter_eq_nil_iff.1 hr 9 (List.mem_range.2 (by decide))
      simp [Region.binds] at m9
      have e9 := hconv 9 (by decide) m9
      have m10 := List.filter_eq_nil_iff.1 hr 10 (List.mem_range.2 (by decide))
      simp [Region.binds, e9] at m10
      have e10 := hconv 10 (by decide) m10
      have m11 := List.filter_eq_nil_iff.1 hr 11 (List.mem_range.2 (by decide))
      simp [Region.binds, e10] at m11
      have e11 := hconv 11 (by decide) m11
      have m12 := List.filter_eq_nil_iff.1 hr 12 (List.mem_range.2 (by decide))
      simp [Region.binds] at m12
      have e12 := hconv 12 (by decide) m12
      have m13 := List.filter_eq_nil_iff.1 hr 13 (List.mem_range.2 (by decide))
      simp [Region.binds] at m13
      have e13 := hconv 13 (by decide) m13
      have m14 := List.filter_eq_nil_iff.1 hr 14 (List.mem_range.2 (by decide))
      simp [Region.binds] at m14
      have e14 := hconv 14 (by decide) m14
      have m15 := List.filter_eq_nil_iff.1 hr 15 (List.mem_range.2 (by decide))
      simp [Region.binds, e0, e1, e2, e3, e4, e5, e6, e7, e12, e13, e14] at m15
      have e15 := hconv 15 (by decide) m15
      have m16 := List.filter_eq_nil_iff.1 hr 16 (List.mem_range.2 (by decide))
      simp [Region.binds, e0, e1, e2, e3, e4, e5, e6, e7, e8, e12, e13, e14, e15] at m16
      have e16 := hconv 16 (by decide) m16
      have m17 := List.filter_eq_nil_iff.1 hr 17 (List.mem_range.2 (by decide))
      simp [Region.binds, e0, e1, e2, e3, e4, e5, e6, e7, e8, e9, e10, e11, e12, e13, e14, e15, e16] at m17
      have e17 := hconv 17 (by decide) m17
      obtain ⟨gv, v26, ow26⟩ := hI.p2 (by rw [hL]; exact e2)
      obtain ⟨go, co, v30, ow30⟩ := hI.p6 (by rw [hL]; exact e6)
      obtain ⟨gq, v32, ow32⟩ := hI.p8 (by rw [hL]; exact e8)
      obtain ⟨gs, v35, ow35⟩ := hI.p11 (by rw [hL]; exact e11)
      obtain ⟨g6, v6, l6, b6⟩ := hI.p12 (by rw [hL]; exact e12)
      obtain ⟨g7, v7, l7, b7⟩ := hI.p13 (by rw [hL]; exact e13)
      obtain ⟨g8, v8, l8, b8⟩ := hI.p14 (by rw [hL]; exact e14)
      rw [hL, e15, if_pos rfl, if_pos rfl] at b6
      rw [hL, e16, if_pos rfl] at b7
      rw [hL, e17, if_pos rfl] at b8
      have dis : ∀ i j, mk4 i = true → mk4 j = true → i ≠ j → (i = 2 ∨ i = 6 ∨ i = 8 ∨ i = 11 ∨ i = 12 ∨ i = 13 ∨ i = 14) → (j = 2 ∨ j = 6 ∨ j = 8 ∨ j = 11 ∨ j = 12 ∨ j = 13 ∨ j = 14) → blkOf (f (dst4 i)) ≠ blkOf (f (dst4 j)) := fun i j hi hj hij h1 h2 => hI.dj i j hi hj hij
        (by rw [hL]; rcases h1 with rfl | rfl | rfl | rfl | rfl | rfl | rfl <;> assumption) (by rw [hL]; rcases h2 with rfl | rfl | rfl | rfl | rfl | rfl | rfl <;> assumption)
      have low : ∀ i, mk4 i = true → (i = 2 ∨ i = 6 ∨ i = 8 ∨ i = 11 ∨ i = 12 ∨ i = 13 ∨ i = 14) → w2.heap.size ≤ blkOf (f (dst4 i)) ∧ blkOf (f (dst4 i)) < w4.heap.size := fun i hi h1 => hI.lt i hi
        (by rw [hL]; rcases h1 with rfl | rfl | rfl | rfl | rfl | rfl | rfl <;> assumption)
      have x1 := dis 2 6 rfl rfl (by decide) (by simp) (by simp)
      have x2 := dis 2 8 rfl rfl (by decide) (by simp) (by simp)
      have x3 := dis 2 11 rfl rfl (by decide) (by simp) (by simp)
      have x4 := dis 6 8 rfl rfl (by decide) (by simp) (by simp)
      have x5 := dis 6 11 rfl rfl (by decide) (by simp) (by simp)
      have x6 := dis 8 11 rfl rfl (by decide) (by simp) (by simp)
      have x7 := dis 12 2 rfl rfl (by decide) (by simp) (by simp)
      have x8 := dis 12 6 rfl rfl (by decide) (by simp) (by simp)
      have x9 := dis 12 8 rfl rfl (by decide) (by simp) (by simp)
      have x10 := dis 12 11 rfl rfl (by decide) (by simp) (by simp)
      have x11 := dis 12 13 rfl rfl (by decide) (by simp) (by simp)
      have x12 := dis 13 2 rfl rfl (by decide) (by simp) (by simp)
      have x13 := dis 13 6 rfl rfl (by decide) (by simp) (by simp)
      have x14 := dis 13 8 rfl rfl (by decide) (by simp) (by simp)
      have x15 := dis 13 11 rfl rfl (by decide) (by simp) (by simp)
      have x16 := dis 13 14 rfl rfl (by decide) (by simp) (by simp)
      have x17 := dis 14 2 rfl rfl (by decide) (by simp) (by simp)
      have x18 := dis 14 6 rfl rfl (by decide) (by simp) (by simp)
      have x19 := dis 14 8 rfl rfl (by decide) (by simp) (by simp)
      have x20 := dis 14 11 rfl rfl (by decide) (by simp) (by simp)
      have x21 := dis 14 12 rfl rfl (by decide) (by simp) (by simp)
      have y1 := low 2 rfl (by simp)
      have y2 := low 6 rfl (by simp)
      have y3 := low 8 rfl (by simp)
      have y4 := low 11 rfl (by simp)
      have y5 := low 12 rfl (by simp)
      have y6 := low 13 rfl (by simp)
      have y7 := low 14 rfl (by simp)
      simp only [dst4, v26, v30, v32, v35, v6, v7, v8, blkOf] at x1 x2 x3 x4 x5 x6 x7 x8 x9 x10 x11 x12 x13 x14 x15 x16 x17 x18 x19 x20 x21 y1 y2 y3 y4 y5 y6 y7
      have X1 := Lib.hid x1
      have X2 := Lib.hid x2
      have X3 := Lib.hid x3
      have X4 := Lib.hid x4
      have X5 := Lib.hid x5
      have X6 := Lib.hid x6
      have X7 := Lib.hid x7
      have X8 := Lib.hid x8
      have X9 := Lib.hid x9
      have X10 := Lib.hid x10
      have X11 := Lib.hid x11
      have X12 := Lib.hid x12
      have X13 := Lib.hid x13
      have X14 := Lib.hid x14
      have X15 := Lib.hid x15
      have X16 := Lib.hid x16
      have X17 := Lib.hid x17
      have X18 := Lib.hid x18
      have X19 := Lib.hid x19
      have X20 := Lib.hid x20
      have X21 := Lib.hid x21
      clear x1 x2 x3 x4 x5 x6 x7 x8 x9 x10 x11 x12 x13 x14 x15 x16 x17 x18 x19 x20 x21
      rw [v26] at ow26 b6
      rw [v30] at ow30 b6
      rw [v32] at ow32 b7
      rw [v35] at ow35 b8
      have hbl := (below_drewN HB2.out q0).trans (hI.bl.mono (show w.heap.size ≤ (w2.drewN q0).heap.size from Nat.le_trans hle1 hle2))
      have ha2 := (HA2.out.drewN q0).below hI.bl HA2.out.lt
      have hg2 : w.heap.size < w2.heap.size := HA2.out.lt
      have O26 := Lib.hid ow26; have O30 := Lib.hid ow30; have O32 := Lib.hid ow32; have O35 := Lib.hid ow35
      have A6 := Lib.hid b6; have B7 := Lib.hid b7; have B8 := Lib.hid b8; have Bl := Lib.hid hbl; have A2 := Lib.hid ha2
      have Hz1' := Lib.hid e0
      clear hmk1 hmk2 hI hr4 hr hconv hL hs m0 m1 m2 m3 m4 m5 m6 m7 m8 m9 m10 m11 m12 m13 m14 m15 m16 m17 e0 e1 e2 e3 e4 e5 e6 e7 e8 e9 e10 e11 e12 e13 e14 e15 e16 e17 dis low l6 l7 l8 ow26 ow30 ow32 ow35 b6 b7 b8 hbl ha2
      unfold fr4
      rw [v26, v30, v32, v35, v6, v7, v8]
      clear v26 v30 v32 v35 v6 v7 v8
      generalize f 24 = z24
      generalize f 25 = z25
      generalize f 27 = z27
      generalize f 28 = z28
      generalize f 29 = z29
      generalize f 31 = z31
      generalize f 33 = z33
      generalize f 34 = z34
      go_wp2
      go_loopw [38] (fun i wr => ∃ (k : Nat) (u : Value), k ≤ xs.length ∧ i = .int .i64 k ∧ BoxV wr g7 29 u ∧ Own wr w.heap.size 40 u (f32s ((xs.map (qOf xs)).take k)) ∧ Hid (∀ q, u.ownBlock = some q → q = gq ∨ w4.heap.size ≤ q) ∧ Chg (fun q => q = g7 ∨ q = gq) w4 wr) (fun i _ => xs.length - (intOf i).toNat)
      case atStart => exact ⟨0, _, Nat.zero_le _, rfl, B7.out, O32.out, fun q hq => .inl (by injection hq with hq; exact hq.symm), Chg.refl _⟩
      case round =>
        obtain ⟨k, u, hk, rfl, hbox, hO, hub, hC⟩ := hrel
        have HX := Lib.hid hbox; have HO := Lib.hid hO; have HC := Lib.hid hC
        clear hbox hO hC
        have Bl2 := Lib.hid (Below.chg Bl.out HC.out (Nat.le_refl _) (fun q hq => by rcases hq with e | e <;> omega))
        by_cases hlt : k < xs.length
        · have hlt' : (k : Int) < (xs.length : Int) := by omega
          obtain ⟨bb, off, x, rfl, hbB, hx, hcx⟩ := (HR0.out.below Bl2.out hB).atF (k := k) hlt
          have hqk : Hid ((xs.map (qOf xs)).take (k + 1) = (xs.map (qOf xs)).take k ++ [qOf xs x]) := take_succ_of (by rw [List.getElem?_map, hx.out]; rfl)
          have hqn : Hid (isNaNB .f32 (qOf xs x) = false) := (qOf_ok Hp.out (List.mem_of_getElem? hx.out)).not_nan
          have hql : ((xs.map (qOf xs)).take k).length ≤ 2000000 := by rw [List.length_take, List.length_map]; omega
          have hbs := Bl2.out.size
          have hws := HC.out.size
          have c7 := HX.out.c0
          have t1 : True := trivial
          have t2 : True := trivial
          go_wp2_with (first
            | (have := t1; clear this t1; refine wpList_fop _ rfl .mul _ _ _ _ rfl rfl .f32 _ _ rfl rfl ?_; intro r1 q1 h1)
            | (have := t2; clear this t2; refine wpList_fop _ rfl .quo _ _ _ _ rfl rfl .f32 _ _ rfl rfl ?_; intro r2 q2 h2)
            | (at_builtin; go_must (refine emitF _ rfl _ _ rfl w.heap.size u ((xs.map (qOf xs)).take k) (by rfl) (by exact HO.out) r2 (by rfl) hql (by exact hbs) ?_)))
          obtain rfl : r2 = qOf xs x := cn_exact (by rw [h2.out, fop_l h1.out]; rfl) hqn.out
          intro u' w5 hO' hg5 hor
          rw [← hqk.out] at hO'
          have hne7 : ∀ q, u.ownBlock = some q → q ≠ g7 := fun q hq => by
            rcases hub.out q hq with e | e
            · rw [e]; exact X14.out.symm
            · omega
          have hub' : Hid (∀ q, u'.ownBlock = some q → q = gq ∨ w4.heap.size ≤ q) := fun q hq => by
            rcases hor with e | ⟨j, e, hj⟩
            · rw [e] at hq; exact hub.out q hq
            · rw [e] at hq; injection hq with hq; right; rw [← hq]; exact Nat.le_trans hws hj
          have hne7' : u'.ownBlock ≠ some g7 := fun e => by
            rcases hub'.out g7 e with e | e
            · exact X14.out e
            · omega
          have hx5 := (HX.out.drewN _).grown hg5 (fun e => hne7 g7 e.symm rfl)
          have HX5 := Lib.hid (hx5.set u')
          have HO5 := Lib.hid (own_set (g := g7) (i := 0) (z := u') hO' hne7')
          have hgc : Chg (fun q => q = g7 ∨ q = gq) w4 w5 := ⟨hg5.os.trans HC.out.os, hg5.tape.trans HC.out.tape, hg5.output.trans HC.out.output, Nat.le_trans HC.out.size hg5.size, fun q hq hn => (hg5.block q (Nat.lt_of_lt_of_le hq HC.out.size) (fun e => by
            rcases hub.out q e.symm with e | e
            · exact hn (.inr e)
            · omega)).trans (HC.out.block q hq hn)⟩
          have HC5 := Lib.hid (hgc.trans (Chg.of_grown (P := fun q => q = g7 ∨ q = gq) (grown_set1 w5 g7 0 u') (fun q hq => by injection hq with hq; exact .inl hq.symm)))
          obtain ⟨A5, c5, rfl, hc5⟩ := HO5.out.shapeF
          have hl5 : ((xs.map (qOf xs)).take (k + 1)).length = k + 1 := by rw [List.length_take, List.length_map]; omega
          rw [hl5] at HX5 HO5 HC5 hub' ⊢
          have d7 := hx5.c0
          have f7 := hx5.fz 0
          clear hO' hg5 hor h1 h2 hbs hql c7 hx5 hgc hne7 hne7' hc5 hl5 hws
          go_wp2
          go_roundw
          case rel => exact ⟨k + 1, _, by omega, by go_num, HX5.out, HO5.out, hub'.out, HC5.out⟩
          case measure => simp only [intOf]; omega
        · obtain rfl : k = xs.length := by omega
          have hO := HO.out
          rw [show (xs.map (qOf xs)).take xs.length = xs.map (qOf xs) from List.take_of_length_le (by rw [List.length_map]; exact Nat.le_refl _)] at hO
          obtain ⟨gu, cu, rfl, hu1, hu2⟩ := own_addr hO (by rw [f32s_length, List.length_map]; omega)
          have e1 : (f32s (xs.map (qOf xs))).length = xs.length := by rw [f32s_length, List.length_map]
          rw [e1] at hu1 HX hub
          have hgu := hub.out gu rfl
          have neu : ∀ {g : Nat}, g ≠ gq → g < w4.heap.size → g ≠ gu := fun h hl => by
            rcases hgu with e | e
            · rw [e]; exact h
            · omega
          have hf : Fb gu gv go gs := ⟨(neu X2.out y1.2).symm, (neu X4.out y2.2).symm, (neu X6.out.symm y4.2).symm, X1.out, X3.out, X5.out⟩
          have hwu : w.heap.size ≠ gu := by rcases hgu with e | e <;> omega
          have hlu : w.heap.size ≤ gu := by rcases hgu with e | e <;> omega
          have HP : Hid (Ph wr w.heap.size xs.length gu gv go gs cu xs.length co xs.length wr (startS xs)) :=
            ⟨hu1, own_chg O26.out HC.out (fun e => e.elim X12.out.symm X2.out), own_chg O30.out HC.out (fun e => e.elim X13.out.symm X4.out), own_chg O35.out HC.out (fun e => e.elim X15.out.symm X6.out.symm), Chg.refl _⟩
          have HA6 := Lib.hid (A6.out.chg HC.out (fun e => e.elim X11.out X9.out))
          have HA2' := Lib.hid (A2.out.chg HC.out (fun e => by rcases e with e | e <;> omega))
          have HB7 := Lib.hid HX.out
          have HB8 := Lib.hid (B8.out.chg HC.out (fun e => e.elim X16.out.symm X19.out))
          have HB6 := Bl2
          have Hlo : Hid (w.heap.size ≤ gu ∧ w.heap.size ≤ gv ∧ w.heap.size ≤ go ∧ w.heap.size ≤ gs) := ⟨hlu, by omega, by omega, by omega⟩
          have n6 : ¬ (g6 = gu ∨ g6 = gv ∨ g6 = go ∨ g6 = gs) := fun e => e.elim (neu X9.out y5.2) (fun e => e.elim X7.out (fun e => e.elim X8.out X10.out))
          have n7 : ¬ (g7 = gu ∨ g7 = gv ∨ g7 = go ∨ g7 = gs) := fun e => e.elim (neu X14.out y6.2) (fun e => e.elim X12.out (fun e => e.elim X13.out X15.out))
          have n8 : ¬ (g8 = gu ∨ g8 = gv ∨ g8 = go ∨ g8 = gs) := fun e => e.elim (neu X19.out y7.2) (fun e => e.elim X17.out (fun e => e.elim X18.out X20.out))
          have n2 : ¬ (w.heap.size = gu ∨ w.heap.size = gv ∨ w.heap.size = go ∨ w.heap.size = gs) := fun e => e.elim hwu (fun e => by rcases e with e | e | e <;> omega)
          have Hf := Lib.hid hf
          clear hf hu1 hu2 hO HO HX HC e1 hub hgu neu hwu hlu y1 y2 y3 y4 y5 y6 y7 Bl A6 A2 B7 B8 O26 O30 O32 O35 Bl2 X1 X2 X3 X4 X5 X6 X7 X8 X9 X10 X11 X12 X13 X14 X15 X16 X17 X18 X19 X20 X21
          have Hst := Lib.hid (startS_ok Hp.out)
          have hs0 : Hid (openN (startS xs).st ≤ xs.length) := by show _ ≤ _; have := openN_le (startS xs).st; rw [Hst.out.st] at this; exact this
          go_wp2
          generalize hw6 : wr = w6 at HP HA6 HA2' HB7 HB8 HB6 ⊢
          go_loopg [12] xs.length (fun g _ wr => ∃ (s : AS) (f : Nat), f ≤ g ∧ Hid (ASok xs.length s) ∧ Hid (openN s.st ≤ f) ∧ Hid (runS f s = doneS xs) ∧ Ph w6 w.heap.size xs.length gu gv go gs cu xs.length co xs.length wr s)
          case atStart => exact ⟨startS xs, xs.length, Nat.le_refl _, Hst.out, hs0.out, rfl, HP.out⟩
          case round =>
            obtain ⟨s, f, hfg, Hok, Hop, Hrun, hP⟩ := hrel
            have HP' := Lib.hid hP
            clear hP
            have Hql : Hid (s.q.length = xs.length) := Hok.out.q
            have hB7 := HB7.out.chg HP'.out.chg n7
            have hB8 := HB8.out.chg HP'.out.chg n8
            have hcl := fun b => first_any b g7 g8 w6 w.heap.size xs.length gu gv go gs cu xs.length co xs.length s wr (by omega) hB7 hB8 HP'.out Hok.out
            have Hcl := Lib.hid hcl
            clear hcl hB7 hB8
            go_wp2_with fail
            refine (Hcl.out true).mono ?_
            rintro e w8 ⟨rfl, rfl⟩
            go_wp2_with fail
            refine (Hcl.out false).mono ?_
            rintro e w8 ⟨rfl, rfl⟩
            clear Hcl
            cases h1 : firstS s.q s.st true with
            | none =>
              have hfin : Hid (s = doneS xs) := by show _ = _; rw [← Hrun.out, runS_stop (.inl h1)]
              clear h1
              have c8 := (HB8.out.chg HP'.out.chg n8).c0
              rw [show idxI none = -1 from rfl]
              generalize idxI (firstS s.q s.st false) = zz
              go_wp2
              clear c8
              go_loopw [91] (fun i W => ∃ k : Nat, k ≤ xs.length ∧ i = .int .i64 k ∧ Ph w6 w.heap.size xs.length gu gv go gs cu xs.length co xs.length W { s with sh := lastSh s k }) (fun i _ => xs.length - (intOf i).toNat)
              case atStart => exact ⟨0, Nat.zero_le _, rfl, HP'.out⟩
              case round =>
                obtain ⟨k, hk, rfl, hP⟩ := hrel
                have HP := Lib.hid hP
                clear hP
                have hA6 := HA6.out.chg HP.out.chg n6
                have c8 := (HB8.out.chg HP.out.chg n8).c0
                by_cases hlt : k < xs.length
                · have hlt' : (k : Int) < (xs.length : Int) := by omega
                  obtain ⟨b, hb⟩ : ∃ b, s.st[k]? = some b := ⟨_, List.getElem?_eq_getElem (by rw [Hok.out.st]; exact hlt)⟩
                  obtain ⟨hcs, _⟩ := HP.out.cellSt hb hlt
                  have hls : lastSh s (k + 1) = if b then lastSh s k else (lastSh s k).set k 1065353216 := by
                    conv => lhs; unfold lastSh
                    rw [getD_get hb]
                  clear hb
                  cases b with
                  | true =>
                    have HP2 : Hid (Ph w6 w.heap.size xs.length gu gv go gs cu xs.length co xs.length wr { s with sh := lastSh s (k + 1) }) := by rw [hls]; exact HP.out
                    clear hls hA6
                    go_wp2
                    go_roundw
                    case rel => exact ⟨k + 1, by omega, by go_num, HP2.out⟩
                    case measure => simp only [intOf]; omega
                  | false =>
                    obtain ⟨z, hz⟩ : ∃ z, (lastSh s k)[k]? = some z := ⟨_, List.getElem?_eq_getElem (by rw [lastSh_len, Hok.out.sh]; exact hlt)⟩
                    obtain ⟨hcz, hfz⟩ := HP.out.cellSh hz hlt
                    have HP2 : Hid (Ph w6 w.heap.size xs.length gu gv go gs cu xs.length co xs.length (wr.setCell ⟨gv, k, none⟩ (.float .f32 1065353216)) { s with sh := lastSh s (k + 1) }) := by rw [hls]; exact HP.out.setSh Hf.out k 1065353216
                    have c0 := hA6.c0
                    clear hls hz hA6
                    go_wp2
                    go_roundw
                    case rel => exact ⟨k + 1, by omega, by go_num, HP2.out⟩
                    case measure => simp only [intOf]; omega
                · obtain rfl : k = xs.length := by omega
                  have hA2 := HA2'.out.chg HP.out.chg n2
                  have c0 := hA6.c0
                  have c1 := hA6.c1
                  have d0 := hA2.c0
                  have d1 := hA2.c1
                  have f0 := hA2.fz 0
                  have f1 := hA2.fz 1
                  have hbel := Below.chg HB6.out HP.out.chg (Nat.le_refl _) (fun q hq => by have := (Hlo.out); omega)
                  have hA3 := (hA2.set0 (.slice (some ⟨gv, 0, none⟩) xs.length xs.length)).set1 (.slice (some ⟨go, 0, none⟩) xs.length co)
                  have HA3 := Lib.hid hA3; have HBl := Lib.hid hbel
                  have Ls : (lastSh s xs.length).length = xs.length := (lastSh_len _ _).trans Hok.out.sh
                  have Lo : s.ot.length = xs.length := Hok.out.ot
                  have hOs : Own wr w.heap.size 40 (.slice (some ⟨gv, 0, none⟩) xs.length xs.length) (f32s (lastSh s xs.length)) := by unfold Own; rw [f32s_length, Ls]; exact HP.out.sh
                  have hOo : Own wr w.heap.size 2 (.slice (some ⟨go, 0, none⟩) xs.length co) (i64s s.ot) := by unfold Own; rw [i64s_length, Lo]; exact HP.out.ot
                  have HOs := Lib.hid hOs; have HOo := Lib.hid hOo
                  clear hA2 hA6 hbel hA3 Ls Lo hOs hOo
                  go_wp2
                  refine bodyPost_ret (results_al2 rfl _ rfl HA3.out) rfl ?_
                  have gne : ∀ {g c m : Nat}, g ≠ w.heap.size → (Value.slice (some ⟨g, 0, none⟩) m c).ownBlock ≠ some w.heap.size := fun h e => by injection e with e; exact h e
                  have m1 : gv ≠ w.heap.size := fun e => n2 (.inr (.inl e.symm))
                  have m2 : go ≠ w.heap.size := fun e => n2 (.inr (.inr (.inl e.symm)))
                  refine ⟨_, _, true, rfl, by rw [hr.out]; rfl, ?_, ?_, fun q hq hq' => ?_, (HBl.out.setCell (p := ⟨w.heap.size, 0, none⟩) (Nat.le_refl _) _).setCell (p := ⟨w.heap.size, 1, none⟩) (Nat.le_refl _) _⟩
                  · rw [hr.out]; show Own _ _ _ _ (f32s (lastSh (doneS xs) xs.length)); rw [← hfin.out]; exact own_set (own_set HOs.out (gne m1)) (gne m1)
                  · rw [hr.out]; show Own _ _ _ _ (i64s (doneS xs).ot); rw [← hfin.out]; exact own_set (own_set HOo.out (gne m2)) (gne m2)
                  · injection hq with hq
                    injection hq' with hq'
                    exact Hf.out.vo (hq.trans hq'.symm)
            | some i =>
              cases h2 : firstS s.q s.st false with
              | none =>
                have hfin : Hid (s = doneS xs) := by show _ = _; rw [← Hrun.out, runS_stop (.inr h2)]
                have hi0 : ¬ (i : Int) < 0 := by omega
                clear h1 h2
                have c8 := (HB8.out.chg HP'.out.chg n8).c0
                simp only [idxI]
                go_wp2
                clear c8
                go_loopw [91] (fun i W => ∃ k : Nat, k ≤ xs.length ∧ i = .int .i64 k ∧ Ph w6 w.heap.size xs.length gu gv go gs cu xs.length co xs.length W { s with sh := lastSh s k }) (fun i _ => xs.length - (intOf i).toNat)
                case atStart => exact ⟨0, Nat.zero_le _, rfl, HP'.out⟩
                case round =>
                  obtain ⟨k, hk, rfl, hP⟩ := hrel
                  have HP := Lib.hid hP
                  clear hP
                  have hA6 := HA6.out.chg HP.out.chg n6
                  have c8 := (HB8.out.chg HP.out.chg n8).c0
                  by_cases hlt : k < xs.length
                  · have hlt' : (k : Int) < (xs.length : Int) := by omega
                    obtain ⟨b, hb⟩ : ∃ b, s.st[k]? = some b := ⟨_, List.getElem?_eq_getElem (by rw [Hok.out.st]; exact hlt)⟩
                    obtain ⟨hcs, _⟩ := HP.out.cellSt hb hlt
                    have hls : lastSh s (k + 1) = if b then lastSh s k else (lastSh s k).set k 1065353216 := by
                      conv => lhs; unfold lastSh
                      rw [getD_get hb]
                    clear hb
                    cases b with
                    | true =>
                      have HP2 : Hid (Ph w6 w.heap.size xs.length gu gv go gs cu xs.length co xs.length wr { s with sh := lastSh s (k + 1) }) := by rw [hls]; exact HP.out
                      clear hls hA6
                      go_wp2
                      go_roundw
                      case rel => exact ⟨k + 1, by omega, by go_num, HP2.out⟩
                      case measure => simp only [intOf]; omega
                    | false =>
                      obtain ⟨z, hz⟩ : ∃ z, (lastSh s k)[k]? = some z := ⟨_, List.getElem?_eq_getElem (by rw [lastSh_len, Hok.out.sh]; exact hlt)⟩
                      obtain ⟨hcz, hfz⟩ := HP.out.cellSh hz hlt
                      have HP2 : Hid (Ph w6 w.heap.size xs.length gu gv go gs cu xs.length co xs.length (wr.setCell ⟨gv, k, none⟩ (.float .f32 1065353216)) { s with sh := lastSh s (k + 1) }) := by rw [hls]; exact HP.out.setSh Hf.out k 1065353216
                      have c0 := hA6.c0
                      clear hls hz hA6
                      go_wp2
                      go_roundw
                      case rel => exact ⟨k + 1, by omega, by go_num, HP2.out⟩
                      case measure => simp only [intOf]; omega
                  · obtain rfl : k = xs.length := by omega
                    have hA2 := HA2'.out.chg HP.out.chg n2
                    have c0 := hA6.c0
                    have c1 := hA6.c1
                    have d0 := hA2.c0
                    have d1 := hA2.c1
                    have f0 := hA2.fz 0
                    have f1 := hA2.fz 1
                    have hbel := Below.chg HB6.out HP.out.chg (Nat.le_refl _) (fun q hq => by have := (Hlo.out); omega)
                    have hA3 := (hA2.set0 (.slice (some ⟨gv, 0, none⟩) xs.length xs.length)).set1 (.slice (some ⟨go, 0, none⟩) xs.length co)
                    have HA3 := Lib.hid hA3; have HBl := Lib.hid hbel
                    have Ls : (lastSh s xs.length).length = xs.length := (lastSh_len _ _).trans Hok.out.sh
                    have Lo : s.ot.length = xs.length := Hok.out.ot
                    have hOs : Own wr w.heap.size 40 (.slice (some ⟨gv, 0, none⟩) xs.length xs.length) (f32s (lastSh s xs.length)) := by unfold Own; rw [f32s_length, Ls]; exact HP.out.sh
                    have hOo : Own wr w.heap.size 2 (.slice (some ⟨go, 0, none⟩) xs.length co) (i64s s.ot) := by unfold Own; rw [i64s_length, Lo]; exact HP.out.ot
                    have HOs := Lib.hid hOs; have HOo := Lib.hid hOo
                    clear hA2 hA6 hbel hA3 Ls Lo hOs hOo
                    go_wp2
                    refine bodyPost_ret (results_al2 rfl _ rfl HA3.out) rfl ?_
                    have gne : ∀ {g c m : Nat}, g ≠ w.heap.size → (Value.slice (some ⟨g, 0, none⟩) m c).ownBlock ≠ some w.heap.size := fun h e => by injection e with e; exact h e
                    have m1 : gv ≠ w.heap.size := fun e => n2 (.inr (.inl e.symm))
                    have m2 : go ≠ w.heap.size := fun e => n2 (.inr (.inr (.inl e.symm)))
                    refine ⟨_, _, true, rfl, by rw [hr.out]; rfl, ?_, ?_, fun q hq hq' => ?_, (HBl.out.setCell (p := ⟨w.heap.size, 0, none⟩) (Nat.le_refl _) _).setCell (p := ⟨w.heap.size, 1, none⟩) (Nat.le_refl _) _⟩
                    · rw [hr.out]; show Own _ _ _ _ (f32s (lastSh (doneS xs) xs.length)); rw [← hfin.out]; exact own_set (own_set HOs.out (gne m1)) (gne m1)
                    · rw [hr.out]; show Own _ _ _ _ (i64s (doneS xs).ot); rw [← hfin.out]; exact own_set (own_set HOo.out (gne m2)) (gne m2)
                    · injection hq with hq
                      injection hq' with hq'
                      exact Hf.out.vo (hq.trans hq'.symm)
              | some kk =>
                have g1 := firstS_get h1
                have g2 := firstS_get h2
                have p1 := pick_st (Hok.out.st.trans Hok.out.q.symm) g1.1 g1.2
                have p2 := pick_st (Hok.out.st.trans Hok.out.q.symm) g2.1 g2.2
                obtain ⟨f', rfl⟩ : ∃ f', f = f' + 1 := ⟨f - 1, by have := openN_set p1.1; have := Hop.out; omega⟩
                have Hrun2 : Hid (runS f' (stepS s i kk) = doneS xs) := by show _ = _; rw [← Hrun.out, runS_go h1 h2]
                have Hop2 : Hid (openN (stepS s i kk).st ≤ f') := by show openN (s.st.set i true) ≤ _; have := openN_set p1.1; have := Hop.out; omega
                have hil : i < xs.length := by rw [← Hql.out]; exact g1.1
                have hkl : kk < xs.length := by rw [← Hql.out]; exact g2.1
                have Hok2 := Lib.hid (Hok.out.step hil hkl p1.2 p2.2)
                have hil' : (i : Int) < (xs.length : Int) := by omega
                have hkl' : (kk : Int) < (xs.length : Int) := by omega
                have hi0 : ¬ (i : Int) < 0 := by omega
                have hk0 : ¬ (kk : Int) < 0 := by omega
                obtain ⟨x, hx⟩ : ∃ x, s.q[i]? = some x := ⟨_, List.getElem?_eq_getElem (by rw [Hok.out.q]; exact hil)⟩
                obtain ⟨y, hy⟩ : ∃ y, s.q[kk]? = some y := ⟨_, List.getElem?_eq_getElem (by rw [Hok.out.q]; exact hkl)⟩
                obtain ⟨y1, hy1⟩ : ∃ y1, fop .sub .f32 1065353216 x = y1 := ⟨_, rfl⟩
                obtain ⟨y2, hy2⟩ : ∃ y2, fop .sub .f32 y y1 = y2 := ⟨_, rfl⟩
                have o2 : isNaNB .f32 y2 = false := by
                  rw [← hy2, ← hy1]
                  exact (okQ_sub (Hok.out.okq i x hx) (by rw [← p1.2, getD_get hx]) (Hok.out.okq kk y hy) (by rw [← p2.2, getD_get hy])).not_nan
                have o1 : isNaNB .f32 y1 = false := by
                  have h3 := small_rn (Hok.out.okq i x hx) (by rw [← p1.2, getD_get hx])
                  have hone : Rn .f32 1065353216 1065353216 1065353216 := Rn.const (by decide +kernel)
                  have := Rn.sub (lo := 0) (hi := 1065353216) hone h3 (by decide +kernel)
                  rw [hy1] at this
                  exact FinK_not_nan this.1
                have hstep : Hid ({ s with q := s.q.set kk y2, st := s.st.set i true, sh := s.sh.set i x, ot := s.ot.set i (kk : Int) } = stepS s i kk) := by
                  show _ = _
                  unfold stepS
                  rw [getD_get hx, getD_get hy, hy1, hy2]
                have hs1 := fun (t : TypeId) (w : World) => run_fop_num (P := Try.prog) (op := .sub) hy1 o1 t w
                have hs2 := fun (t : TypeId) (w : World) => run_fop_num (P := Try.prog) (op := .sub) hy2 o2 t w
                obtain ⟨z, hz⟩ : ∃ z, s.sh[i]? = some z := ⟨_, List.getElem?_eq_getElem (by rw [Hok.out.sh]; exact hil)⟩
                obtain ⟨zo, hzo⟩ : ∃ z, s.ot[i]? = some z := ⟨_, List.getElem?_eq_getElem (by rw [Hok.out.ot]; exact hil)⟩
                have hA6 := HA6.out.chg HP'.out.chg n6
                have c0 := hA6.c0
                have c1 := hA6.c1
                have c7 := (HB7.out.chg HP'.out.chg n7).c0
                have c8 := (HB8.out.chg HP'.out.chg n8).c0
                obtain ⟨cq1, _⟩ := HP'.out.cellQ hx hil
                obtain ⟨csh, fsh⟩ := HP'.out.cellSh hz hil
                have Hx := Lib.hid hx; have Hy := Lib.hid hy
                have Hs1 := Lib.hid hs1; have Hs2 := Lib.hid hs2
                have Hz := Lib.hid hz; have Hzo := Lib.hid hzo; have Hp1 := Lib.hid p1.1
                clear h1 h2 g1 g2 p1 p2 hA6 hx hy hz hzo hy1 hy2 o1 o2 hs1 hs2
                simp only [idxI]
                have HPa := Lib.hid (HP'.out.setSh Hf.out i x)
                have HPb := Lib.hid (HPa.out.setOt Hf.out i (kk : Int))
                have HPc := Lib.hid (HPb.out.setSt Hf.out i true)
                have hS : ∀ {W : World} {s' : AS}, Ph w6 w.heap.size xs.length gu gv go gs cu xs.length co xs.length W s' → s'.q = s.q → (W.cell? ⟨g6, 0, none⟩ = some (.slice (some ⟨gv, 0, none⟩) xs.length xs.length) ∧ W.cell? ⟨g6, 1, none⟩ = some (.slice (some ⟨go, 0, none⟩) xs.length co) ∧ W.cell? ⟨g8, 0, none⟩ = some (.slice (some ⟨gs, 0, none⟩) xs.length xs.length) ∧ W.cell? ⟨g7, 0, none⟩ = some (.slice (some ⟨gu, 0, none⟩) xs.length cu) ∧ W.cell? ⟨gu, i, none⟩ = some (.float .f32 x)) := fun h hq =>
                  ⟨(HA6.out.chg h.chg n6).c0, (HA6.out.chg h.chg n6).c1, (HB8.out.chg h.chg n8).c0, (HB7.out.chg h.chg n7).c0, (h.cellQ (by rw [hq]; exact Hx.out) hil).1⟩
                have K0 := Lib.hid (hS HP'.out rfl)
                have K1 := Lib.hid (hS HPa.out rfl)
                have K2 := Lib.hid (hS HPb.out rfl)
                have K3 := Lib.hid (hS HPc.out rfl)
                obtain ⟨cot, fot⟩ := HPa.out.cellOt Hzo.out hil
                obtain ⟨cst, fst⟩ := HPb.out.cellSt Hp1.out hil
                clear hS
                have HPd' := Lib.hid HPc.out.drew
                go_wp2_with fail
                go_region_held3 (fun W => W.cell? ⟨g6, 0, none⟩ = some (.slice (some ⟨gv, 0, none⟩) xs.length xs.length) ∧ W.cell? ⟨g6, 1, none⟩ = some (.slice (some ⟨go, 0, none⟩) xs.length co) ∧ W.cell? ⟨g8, 0, none⟩ = some (.slice (some ⟨gs, 0, none⟩) xs.length xs.length) ∧ W.cell? ⟨g7, 0, none⟩ = some (.slice (some ⟨gu, 0, none⟩) xs.length cu) ∧ W.cell? ⟨gu, i, none⟩ = some (.float .f32 x)) (first | exact K0.out | exact K1.out | exact K2.out | exact K3.out) (fail)
                generalize (((w8.setCell ⟨gv, i, none⟩ (.float .f32 x)).setCell ⟨go, i, none⟩ (.int .i64 (kk : Int))).setCell ⟨gs, i, none⟩ (.bool true)).drew = w10 at HPd' ⊢
                clear csh fsh cot fot cst fst HPa HPb HPc K0 K1 K2 K3 c0 c1 c7 c8 cq1
                have c7 := (HB7.out.chg HPd'.out.chg n7).c0
                obtain ⟨cq1, _⟩ := HPd'.out.cellQ Hx.out hil
                obtain ⟨cq2, fq2⟩ := HPd'.out.cellQ Hy.out hkl
                have hs1 := Hs1.out
                have hs2 := Hs2.out
                have HPd := Lib.hid (HPd'.out.drew.setQ Hf.out kk y2)
                clear HPd'
                go_wp2_with fail
                go_still_tail 11, (by kernel_rfl)
                change wpList _ _ _ _ _ w10.drew
                go_wp2
                go_roundg f'
                case measure => omega
                case rel => exact ⟨stepS s i kk, f', Nat.le_refl _, Hok2.out, Hop2.out, Hrun2.out, by rw [← hstep.out]; exact HPd.out⟩
    · decide
    · rfl
    · refine ⟨fun _ => undef, rfl, ?_⟩
      have hno : ∀ k, (fun i => (Array.replicate 18 false).getD i false) k = true → False := fun k e => by
        simp only [Array.getD_eq_getD_getElem?, Array.getElem?_replicate] at e
        split at e <;> cases e
      exact { bl := ⟨rfl, rfl, rfl, Nat.le_refl _, fun _ _ => rfl⟩, p0 := fun e => (hno _ e).elim, p1 := fun e => (hno _ e).elim, p2 := fun e => (hno _ e).elim, p3 := fun e => (hno _ e).elim, p4 := fun e => (hno _ e).elim, p5 := fun e => (hno _ e).elim, p6 := fun e => (hno _ e).elim, p7 := fun e => (hno _ e).elim, p8 := fun e => (hno _ e).elim, p9 := fun e => (hno _ e).elim, p10 := fun e => (hno _ e).elim, p11 := fun e => (hno _ e).elim, p12 := fun e => (hno _ e).elim, p13 := fun e => (hno _ e).elim, p14 := fun e => (hno _ e).elim, q7 := fun e => (hno _ e).elim, q15 := fun e => (hno _ e).elim, q16 := fun e => (hno _ e).elim, q17 := fun e => (hno _ e).elim, lt := fun i _ e => (hno _ e).elim, dj := fun i j _ _ _ e => (hno _ e).elim }
end Go.Proofs.Ytgemcjcghnpmdaa
