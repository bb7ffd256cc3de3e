/- slices.Sort of finite float32: the heap. -/
import Derived.Test.YtmhhjegceibjoaaSrtI
namespace Go.Proofs.Ytmhhjegceibjoaa
open Go.RowKit
set_option maxRecDepth 100000
attribute [local go_sem] run_store_float'
set_option maxHeartbeats 4000000 in
theorem sift_any (g n c f lo hi : Nat) (xs : List Nat) (w : World) (h : Dt w g n c xs) (hf : f + hi ≤ n) (hlo : lo ≤ n) (hn : n ≤ 100000) (hh : Heap f (lo + 1) hi xs) :
    Calls Try.prog 31 #[.slice (some ⟨g, 0, none⟩) n c, .int .i64 lo, .int .i64 hi, .int .i64 f] w fun e w' => e = .returned (.tuple #[]) ∧ Fx w g n c f (f + hi) xs (Heap f lo hi) w' := by
  have H := Lib.hid h
  have Hh := Lib.hid (Sift.start hh)
  clear h hh
  go_enter Try.func31, Try.ntmps31
  go_wp2_with fail
  go_loopw [8] (fun v wr => ∃ (r : Nat) (ys : List Nat), lo ≤ r ∧ r ≤ n ∧ v = .int .i64 r ∧ Hid (Dt wr g n c ys) ∧ Hid (w.grownBy wr (some g)) ∧ Hid (Sw f (f + hi) xs ys) ∧ Hid (Sift f lo hi r ys)) (fun v _ => n + 1 - (intOf v).toNat)
  case atStart => exact ⟨lo, xs, Nat.le_refl _, hlo, rfl, H, World.grownBy.refl _ _, Sw.refl _ _ _, Hh⟩
  case round =>
    obtain ⟨r, ys, hlr, hrn, rfl, hD, hG, hS, hI⟩ := hrel
    obtain ⟨d, hd⟩ : ∃ d : Nat, d = 2 * r + 1 := ⟨_, rfl⟩
    have hdi : 2 * (r : Int) + 1 = (d : Int) := by omega
    have hyl : Hid (ys.length = n) := hD.out.len
    have Hd := Lib.hid hd
    have hdb : d ≤ 2 * n + 1 ∧ r < d := by omega
    clear hd
    by_cases hdh : d < hi
    · have hdh' : ¬ (d : Int) ≥ (hi : Int) := by omega
      obtain ⟨d1, hd1⟩ : ∃ d1 : Nat, d1 = d + 1 := ⟨_, rfl⟩
      have hd1i : (d : Int) + 1 = (d1 : Int) := by omega
      have Hd1 := Lib.hid hd1
      have hd1b : d1 ≤ hi := by omega
      clear hd1
      obtain ⟨fd, hfd⟩ : ∃ fd : Nat, fd = f + d := ⟨_, rfl⟩
      have hfdi : (f : Int) + (d : Int) = (fd : Int) := by omega
      have Hfd := Lib.hid hfd
      have hfdb : fd < n := by omega
      clear hfd
      obtain ⟨fr, hfr⟩ : ∃ fr : Nat, fr = f + r := ⟨_, rfl⟩
      have hfri : (f : Int) + (r : Int) = (fr : Int) := by omega
      have Hfr := Lib.hid hfr
      have hfrb : fr < n := by omega
      clear hfr
      have hfrn : (fr : Int) < (n : Int) := by omega
      have hfdn : (fd : Int) < (n : Int) := by omega
      have hcr := hD.out.cell (i := fr) (by omega)
      have hxr := hD.out.num (i := fr) (by omega)
      have hcd := hD.out.cell (i := fd) (by omega)
      have hxd := hD.out.num (i := fd) (by omega)
      have hffr := hD.out.fz fr
      have hffd := hD.out.fz fd
      by_cases hd1h : d1 < hi
      · have hd1h' : (d1 : Int) < (hi : Int) := by omega
        obtain ⟨fd1, hfd1⟩ : ∃ fd1 : Nat, fd1 = f + d1 := ⟨_, rfl⟩
        have hfd1i : (fd : Int) + 1 = (fd1 : Int) := by have := Hfd.out; have := Hd1.out; omega
        have hfd1j : (f : Int) + (d1 : Int) = (fd1 : Int) := by omega
        have hfd1b : fd1 < n := by have := Hfd.out; have := Hd1.out; omega
        have Hfd1 := Lib.hid hfd1
        clear hfd1
        have hfd1n : (fd1 : Int) < (n : Int) := by omega
        have hcd1 := hD.out.cell (i := fd1) (by omega)
        have hxd1 := hD.out.num (i := fd1) (by omega)
        have hffd1 := hD.out.fz fd1
        have hlb : ltB ys fd fd1 = decide (kA ys fd < kA ys fd1) := ltB_true hxd hxd1
        obtain ⟨z, hz⟩ : ∃ z, ys.getD fd 0 = z := ⟨_, rfl⟩
        obtain ⟨z1, hz1⟩ : ∃ z1, ys.getD fd1 0 = z1 := ⟨_, rfl⟩
        unfold ltB at hlb
        rw [hz, hz1] at hlb
        rw [hz] at hcd
        rw [hz1] at hcd1
        have hxz : FinK .f32 z := by rw [← hz]; exact hxd
        by_cases hless : kA ys fd < kA ys fd1
        · rw [decide_eq_true hless] at hlb
          have hbig : ∀ q, q < hi → q = 2 * r + 1 ∨ q = 2 * r + 2 → hp f ys q ≤ hp f ys d1 := fun q q1 q2 => by
            unfold hp
            rcases q2 with e | e
            · rw [show f + q = fd by have := Hfd.out; have := Hd.out; omega, show f + d1 = fd1 by have := Hfd1.out; omega]; omega
            · rw [show f + q = fd1 by have := Hfd1.out; have := Hd.out; have := Hd1.out; omega, show f + d1 = fd1 by have := Hfd1.out; omega]; exact Int.le_refl _
          go_wp2_with fail
          go_quiet ((go_at_call 26; exact Calls.quiet_of_same (less_s hxz hlb)))
          clear hless hlb hz
          rw [← hz1] at hcd1
          clear hz1
          obtain ⟨x, hx⟩ : ∃ x, ys.getD fr 0 = x := ⟨_, rfl⟩
          obtain ⟨y, hy⟩ : ∃ y, ys.getD fd1 0 = y := ⟨_, rfl⟩
          have hlr2 : ltB ys fr fd1 = decide (kA ys fr < kA ys fd1) := ltB_true hxr hxd1
          have hsw := hD.out.swap (i := fr) (j := fd1) (by omega) (by omega)
          unfold ltB at hlr2
          rw [hx, hy] at hlr2 hsw
          rw [hx] at hcr hxr
          rw [hy] at hcd1
          have hne : fr ≠ fd1 := by have := Hd.out; have := Hd1.out; have := Hfr.out; have := Hfd1.out; omega
          by_cases hless2 : kA ys fr < kA ys fd1
          · rw [decide_eq_true hless2] at hlr2
            have HS := Lib.hid hsw.1
            have HG := Lib.hid (grown_trans' hG.out hsw.2)
            have HW : Hid (Sw f (f + hi) xs (swapL ys fr fd1)) := hS.out.trans (Sw.swap (by have := Hfr.out; omega) (by have := Hfd1.out; omega) (by have := hS.out.len; have := hyl.out; omega))
            have HI : Hid (Sift f lo hi d1 (swapL ys fr fd1)) := by
              have := hI.out.step (m := d1) hlr (by have := Hd.out; have := Hd1.out; omega) (by omega) (by have := hyl.out; omega) (fun q q1 q2 => hbig q q1 q2) (by unfold hp; rw [← Hfr.out, ← Hfd1.out]; exact hless2)
              rw [← Hfr.out, ← Hfd1.out] at this
              exact this
            clear hsw hless2 hx hy hbig
            go_wp2_with fail
            go_quiet ((go_at_call 26; exact quiet_add (less_q hxr hlr2)))
            go_wp2_with fail
            go_big_region
            go_wp2_with fail
            go_roundw
            case rel => exact ⟨d1, swapL ys fr fd1, by have := Hd.out; have := Hd1.out; omega, by have := Hd.out; have := Hd1.out; omega, by go_num, ⟨HS.out.own, HS.out.len, HS.out.fin⟩, ⟨HG.out.os, HG.out.tape, HG.out.output, HG.out.size, HG.out.block⟩, HW, HI⟩
            case measure => have := Hd.out; have := Hd1.out; simp only [intOf]; omega
          · rw [decide_eq_false hless2] at hlr2
            have HP : Hid (Heap f lo hi ys) := hI.out.done (fun q q0 q1 q2 => by
              have := hbig q q1 (by have := Hd.out; have := Hd1.out; omega)
              unfold hp at this ⊢
              rw [← Hfd1.out] at this
              rw [← Hfr.out]
              omega)
            clear hsw hless2 hx hy hbig
            go_wp2_with fail
            go_quiet ((go_at_call 26; exact quiet_add (less_q hxr hlr2)))
            go_wp2_with fail
            (try simp only [Exit.inBlock, Exit.then])
            refine bodyPost_ret (results_none rfl _ _ _) rfl ?_
            exact ⟨rfl, ys, ⟨hD.out.own, hD.out.len, hD.out.fin⟩, ⟨hG.out.os, hG.out.tape, hG.out.output, hG.out.size, hG.out.block⟩, hS, HP⟩
        · rw [decide_eq_false hless] at hlb
          have hbig : ∀ q, q < hi → q = 2 * r + 1 ∨ q = 2 * r + 2 → hp f ys q ≤ hp f ys d := fun q q1 q2 => by
            unfold hp
            rcases q2 with e | e
            · rw [show f + q = fd by have := Hfd.out; have := Hd.out; omega, show f + d = fd by have := Hfd.out; omega]; exact Int.le_refl _
            · rw [show f + q = fd1 by have := Hfd1.out; have := Hd.out; have := Hd1.out; omega, show f + d = fd by have := Hfd.out; omega]; omega
          go_wp2_with fail
          go_quiet ((go_at_call 26; exact Calls.quiet_of_same (less_s hxz hlb)))
          clear hless hlb hz1 hcd1 hxd1 hffd1
          rw [← hz] at hcd
          clear hz hxz
          obtain ⟨x, hx⟩ : ∃ x, ys.getD fr 0 = x := ⟨_, rfl⟩
          obtain ⟨y, hy⟩ : ∃ y, ys.getD fd 0 = y := ⟨_, rfl⟩
          have hlr2 : ltB ys fr fd = decide (kA ys fr < kA ys fd) := ltB_true hxr hxd
          have hsw := hD.out.swap (i := fr) (j := fd) (by omega) (by omega)
          unfold ltB at hlr2
          rw [hx, hy] at hlr2 hsw
          rw [hx] at hcr hxr
          rw [hy] at hcd
          have hne : fr ≠ fd := by have := Hd.out; have := Hd1.out; have := Hfr.out; have := Hfd.out; omega
          by_cases hless2 : kA ys fr < kA ys fd
          · rw [decide_eq_true hless2] at hlr2
            have HS := Lib.hid hsw.1
            have HG := Lib.hid (grown_trans' hG.out hsw.2)
            have HW : Hid (Sw f (f + hi) xs (swapL ys fr fd)) := hS.out.trans (Sw.swap (by have := Hfr.out; omega) (by have := Hfd.out; omega) (by have := hS.out.len; have := hyl.out; omega))
            have HI : Hid (Sift f lo hi d (swapL ys fr fd)) := by
              have := hI.out.step (m := d) hlr (by have := Hd.out; have := Hd1.out; omega) (by omega) (by have := hyl.out; omega) (fun q q1 q2 => hbig q q1 q2) (by unfold hp; rw [← Hfr.out, ← Hfd.out]; exact hless2)
              rw [← Hfr.out, ← Hfd.out] at this
              exact this
            clear hsw hless2 hx hy hbig
            go_wp2_with fail
            go_quiet ((go_at_call 26; exact quiet_add (less_q hxr hlr2)))
            go_wp2_with fail
            go_big_region
            go_wp2_with fail
            go_roundw
            case rel => exact ⟨d, swapL ys fr fd, by have := Hd.out; have := Hd1.out; omega, by have := Hd.out; have := Hd1.out; omega, by go_num, ⟨HS.out.own, HS.out.len, HS.out.fin⟩, ⟨HG.out.os, HG.out.tape, HG.out.output, HG.out.size, HG.out.block⟩, HW, HI⟩
            case measure => have := Hd.out; have := Hd1.out; simp only [intOf]; omega
          · rw [decide_eq_false hless2] at hlr2
            have HP : Hid (Heap f lo hi ys) := hI.out.done (fun q q0 q1 q2 => by
              have := hbig q q1 (by have := Hd.out; have := Hd1.out; omega)
              unfold hp at this ⊢
              rw [← Hfd.out] at this
              rw [← Hfr.out]
              omega)
            clear hsw hless2 hx hy hbig
            go_wp2_with fail
            go_quiet ((go_at_call 26; exact quiet_add (less_q hxr hlr2)))
            go_wp2_with fail
            (try simp only [Exit.inBlock, Exit.then])
            refine bodyPost_ret (results_none rfl _ _ _) rfl ?_
            exact ⟨rfl, ys, ⟨hD.out.own, hD.out.len, hD.out.fin⟩, ⟨hG.out.os, hG.out.tape, hG.out.output, hG.out.size, hG.out.block⟩, hS, HP⟩
      · have hd1h' : decide ((d1 : Int) < (hi : Int)) = false := decide_eq_false (by omega)
        have hbig : ∀ q, q < hi → q = 2 * r + 1 ∨ q = 2 * r + 2 → hp f ys q ≤ hp f ys d := fun q q1 q2 => by
          unfold hp
          rcases q2 with e | e
          · rw [show f + q = fd by have := Hfd.out; have := Hd.out; omega, show f + d = fd by have := Hfd.out; omega]; exact Int.le_refl _
          · have := Hd.out; have := Hd1.out; omega
        go_wp2_with fail
        go_quiet (fail)
        obtain ⟨x, hx⟩ : ∃ x, ys.getD fr 0 = x := ⟨_, rfl⟩
        obtain ⟨y, hy⟩ : ∃ y, ys.getD fd 0 = y := ⟨_, rfl⟩
        have hlr2 : ltB ys fr fd = decide (kA ys fr < kA ys fd) := ltB_true hxr hxd
        have hsw := hD.out.swap (i := fr) (j := fd) (by omega) (by omega)
        unfold ltB at hlr2
        rw [hx, hy] at hlr2 hsw
        rw [hx] at hcr hxr
        rw [hy] at hcd
        have hne : fr ≠ fd := by have := Hd.out; have := Hd1.out; have := Hfr.out; have := Hfd.out; omega
        by_cases hless2 : kA ys fr < kA ys fd
        · rw [decide_eq_true hless2] at hlr2
          have HS := Lib.hid hsw.1
          have HG := Lib.hid (grown_trans' hG.out hsw.2)
          have HW : Hid (Sw f (f + hi) xs (swapL ys fr fd)) := hS.out.trans (Sw.swap (by have := Hfr.out; omega) (by have := Hfd.out; omega) (by have := hS.out.len; have := hyl.out; omega))
          have HI : Hid (Sift f lo hi d (swapL ys fr fd)) := by
            have := hI.out.step (m := d) hlr (by have := Hd.out; have := Hd1.out; omega) (by omega) (by have := hyl.out; omega) (fun q q1 q2 => hbig q q1 q2) (by unfold hp; rw [← Hfr.out, ← Hfd.out]; exact hless2)
            rw [← Hfr.out, ← Hfd.out] at this
            exact this
          clear hsw hless2 hx hy hbig
          go_wp2_with fail
          go_quiet ((go_at_call 26; exact quiet_add (less_q hxr hlr2)))
          go_wp2_with fail
          go_big_region
          go_wp2_with fail
          go_roundw
          case rel => exact ⟨d, swapL ys fr fd, by have := Hd.out; have := Hd1.out; omega, by have := Hd.out; have := Hd1.out; omega, by go_num, ⟨HS.out.own, HS.out.len, HS.out.fin⟩, ⟨HG.out.os, HG.out.tape, HG.out.output, HG.out.size, HG.out.block⟩, HW, HI⟩
          case measure => have := Hd.out; have := Hd1.out; simp only [intOf]; omega
        · rw [decide_eq_false hless2] at hlr2
          have HP : Hid (Heap f lo hi ys) := hI.out.done (fun q q0 q1 q2 => by
            have := hbig q q1 (by have := Hd.out; have := Hd1.out; omega)
            unfold hp at this ⊢
            rw [← Hfd.out] at this
            rw [← Hfr.out]
            omega)
          clear hsw hless2 hx hy hbig
          go_wp2_with fail
          go_quiet ((go_at_call 26; exact quiet_add (less_q hxr hlr2)))
          go_wp2_with fail
          (try simp only [Exit.inBlock, Exit.then])
          refine bodyPost_ret (results_none rfl _ _ _) rfl ?_
          exact ⟨rfl, ys, ⟨hD.out.own, hD.out.len, hD.out.fin⟩, ⟨hG.out.os, hG.out.tape, hG.out.output, hG.out.size, hG.out.block⟩, hS, HP⟩
    · have hdh' : (d : Int) ≥ (hi : Int) := by omega
      have HP : Hid (Heap f lo hi ys) := hI.out.done (fun q q0 q1 q2 => by have := Hd.out; omega)
      go_wp2_with fail
      go_end0
      exact ⟨rfl, ys, hD, hG, hS, HP⟩
set_option maxHeartbeats 400000 in
theorem heapSort_any (g n c a b : Nat) (xs : List Nat) (w : World) (h : Dt w g n c xs) (hab : a < b) (hb : b ≤ n) (hn : n ≤ 100000) :
    Calls Try.prog 21 #[.slice (some ⟨g, 0, none⟩) n c, .int .i64 a, .int .i64 b] w fun e w' => e = .returned (.tuple #[]) ∧ Fx w g n c a b xs (Srt a b) w' := by
  have H := Lib.hid h
  clear h
  obtain ⟨m, hm⟩ : ∃ m : Nat, b = a + m := ⟨b - a, by omega⟩
  have hm1 : (b : Int) - (a : Int) = (m : Int) := by omega
  have Hm : Hid (a + m = b) := hm.symm
  have hmn : a + m ≤ n ∧ 1 ≤ m := by omega
  clear hm
  obtain ⟨t, ht⟩ : ∃ t : Nat, t = (m - 1) / 2 := ⟨_, rfl⟩
  have htd : ((m : Int) - 1).tdiv 2 = (t : Int) := by rw [Int.tdiv_eq_ediv_of_nonneg (by omega)]; omega
  have hwt : IntKind.i64.wrap (t : Int) = (t : Int) := by rw [IntKind.wrap_i64]; omega
  have Ht := Lib.hid ht
  have htb : t ≤ m := by omega
  clear ht
  go_enter Try.func21, Try.ntmps21
  go_wp2_with fail
  go_loopw [9] (fun v wr => ∃ (i : Nat) (ys : List Nat), i ≤ t + 1 ∧ v = .int .i64 ((i : Int) - 1) ∧ Hid (Dt wr g n c ys) ∧ Hid (w.grownBy wr (some g)) ∧ Hid (Sw a b xs ys) ∧ Hid (Heap a i m ys)) (fun v _ => (intOf v + 1).toNat)
  case atStart => exact ⟨t + 1, xs, Nat.le_refl _, by go_num, H, World.grownBy.refl _ _, Sw.refl _ _ _, Heap.small (by have := Ht.out; omega)⟩
  case round =>
    obtain ⟨i, ys, hit, rfl, hD, hG, hS, hP⟩ := hrel
    by_cases hi0 : 0 < i
    · obtain ⟨p, hp⟩ : ∃ p : Nat, i = p + 1 := ⟨i - 1, by omega⟩
      subst hp
      have hpi : ((p + 1 : Nat) : Int) - 1 = (p : Int) := by omega
      rw [hpi]
      have hp0 : (p : Int) ≥ 0 := by omega
      clear hpi
      go_wp2_with fail
      refine (sift_any g n c a p m ys _ hD.out (by omega) (by omega) hn hP.out).mono ?_
      rintro e wq ⟨rfl, zs, hD2, hG2, hS2, hP2⟩
      have HG := Lib.hid (grown_trans' hG.out hG2.out)
      have HS : Hid (Sw a b xs zs) := hS.out.trans (by have := hS2.out; rw [Hm.out] at this; exact this)
      go_wp2_with fail
      go_roundw
      case rel => exact ⟨p, zs, by omega, by go_num, hD2, HG, HS, hP2⟩
      case measure => simp only [intOf]; omega
    · obtain rfl : i = 0 := by omega
      have hQ := Lib.hid (Pop.start hP.out)
      have hn0 : ¬ (((0 : Nat) : Int) - 1) ≥ 0 := by omega
      clear hP
      go_wp2_with fail
      go_loopw [10] (fun v wr => ∃ (i : Nat) (ys : List Nat), i ≤ m ∧ v = .int .i64 ((i : Int) - 1) ∧ Hid (Dt wr g n c ys) ∧ Hid (w.grownBy wr (some g)) ∧ Hid (Sw a b xs ys) ∧ Hid (Pop a m i ys)) (fun v _ => (intOf v + 1).toNat)
      case atStart => exact ⟨m, ys, Nat.le_refl _, by go_num, hD, hG, hS, hQ⟩
      case round =>
        obtain ⟨i, ys, him, rfl, hD, hG, hS, hQ⟩ := hrel
        by_cases hi0 : 0 < i
        · obtain ⟨p, hp⟩ : ∃ p : Nat, i = p + 1 := ⟨i - 1, by omega⟩
          subst hp
          have hpi : ((p + 1 : Nat) : Int) - 1 = (p : Int) := by omega
          rw [hpi]
          have hp0 : (p : Int) ≥ 0 := by omega
          clear hpi
          obtain ⟨ap, hap⟩ : ∃ ap : Nat, ap = a + p := ⟨_, rfl⟩
          have hapi : (a : Int) + (p : Int) = (ap : Int) := by omega
          have han : (a : Int) < (n : Int) := by omega
          have hapn : (ap : Int) < (n : Int) := by omega
          have hc1 := hD.out.cell (i := a) (by omega)
          have hc2 := hD.out.cell (i := ap) (by omega)
          have hf1 := hD.out.fz a
          have hf2 := hD.out.fz ap
          have hsw := hD.out.swap (i := a) (j := ap) (by omega) (by omega)
          have HSw : Hid (Sw a b ys (swapL ys a ap)) := Sw.swap (by have := Hm.out; omega) (by have := Hm.out; omega) (by have := hD.out.len; have := Hm.out; omega)
          have hps := hQ.out.swapped (by omega) (by have := hD.out.len; omega)
          rw [← hap] at hps
          have Hps := Lib.hid hps
          obtain ⟨x, hx⟩ : ∃ x, ys.getD a 0 = x := ⟨_, rfl⟩
          obtain ⟨y, hy⟩ : ∃ y, ys.getD ap 0 = y := ⟨_, rfl⟩
          have Hl : Hid ((swapL ys a ap).length = n) := by show _ = _; rw [swapL_len]; exact hD.out.len
          rw [hx, hy] at hsw
          rw [hx] at hc1
          rw [hy] at hc2
          have HS := Lib.hid hsw.1.drew
          have HG := Lib.hid (grownBy_drew (grown_trans' hG.out hsw.2))
          have Hap := Lib.hid hap
          clear hsw hps hx hy hap hD hG hQ
          rcases Nat.eq_zero_or_pos p with hpz | hpp
          · have hapa : ap = a := by have := Hap.out; omega
            subst hpz
            subst hapa
            have hxy : x = y := by
              rw [hc1] at hc2
              injection hc2 with e
              injection e
            subst hxy
            go_wp2_with fail
            go_big_region
            go_wp2_with fail
            refine (sift_any g n c ap 0 0 (swapL ys ap ap) _ HS.out (by omega) (by omega) hn Hps.out.1).mono ?_
            rintro e wq ⟨rfl, zs, hD2, hG2, hS2, hP2⟩
            have HGq : Hid (w.grownBy wq (some g)) := grown_trans' HG.out hG2.out
            have HSq : Hid (Sw ap b xs zs) := hS.out.trans (HSw.out.trans (hS2.out.weak (Nat.le_refl _) (by have := Hm.out; omega)))
            have HQq : Hid (Pop ap m 0 zs) := Pop.sifted (by have := Hl.out; omega) (by omega) hS2.out hP2.out Hps.out.2.1 Hps.out.2.2
            go_wp2_with fail
            go_roundw
            case rel => exact ⟨0, zs, by omega, by go_num, hD2, HGq, HSq, HQq⟩
            case measure => simp only [intOf]; omega
          · have hne : a ≠ ap := by have := Hap.out; omega
            go_wp2_with fail
            go_big_region
            go_wp2_with fail
            refine (sift_any g n c a 0 p (swapL ys a ap) _ HS.out (by omega) (by omega) hn Hps.out.1).mono ?_
            rintro e wq ⟨rfl, zs, hD2, hG2, hS2, hP2⟩
            have HGq : Hid (w.grownBy wq (some g)) := grown_trans' HG.out hG2.out
            have HSq : Hid (Sw a b xs zs) := hS.out.trans (HSw.out.trans (hS2.out.weak (Nat.le_refl _) (by have := Hm.out; omega)))
            have HQq : Hid (Pop a m p zs) := Pop.sifted (by have := Hl.out; omega) (by omega) hS2.out hP2.out Hps.out.2.1 Hps.out.2.2
            go_wp2_with fail
            go_roundw
            case rel => exact ⟨p, zs, by omega, by go_num, hD2, HGq, HSq, HQq⟩
            case measure => simp only [intOf]; omega
        · obtain rfl : i = 0 := by omega
          have hT : Hid (Srt a b ys) := by have := hQ.out.end_; rw [Hm.out] at this; exact this
          have hn0 : ¬ (((0 : Nat) : Int) - 1) ≥ 0 := by omega
          go_wp2_with fail
          go_end0
          exact ⟨rfl, ys, hD, hG, hS, hT⟩
end Go.Proofs.Ytmhhjegceibjoaa
