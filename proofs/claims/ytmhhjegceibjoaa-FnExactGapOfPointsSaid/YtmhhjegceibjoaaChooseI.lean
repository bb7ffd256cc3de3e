/- slices.Sort of finite float32: the choice of a pivot. -/
import Derived.Test.YtmhhjegceibjoaaSrtI
import Derived.Deep.DeepCutAuto
namespace Go.Proofs.Ytmhhjegceibjoaa
open Go.RowKit
set_option maxRecDepth 100000
/-- A box of one whole number. -/
def BoxN (w : World) (s : Nat) (t : Int) : Prop := w.heap[s]? = some (.cells #[.int .i64 t] 3 (0, 0))
section
variable {w w' : World} {s : Nat} {t : Int}
theorem BoxN.lt (h : BoxN w s t) : s < w.heap.size := (Array.getElem?_eq_some_iff.1 h).1
theorem BoxN.c0 (h : BoxN w s t) : w.cell? ⟨s, 0, none⟩ = some (.int .i64 t) := cell_of_row w s 0 _ 3 (0, 0) h
theorem BoxN.fz (h : BoxN w s t) (i : Nat) : w.frozen? ⟨s, i, none⟩ = false := by
  unfold World.frozen? BoxN at *
  simp [h]
theorem BoxN.set (h : BoxN w s t) (t' : Int) : BoxN (w.setCell ⟨s, 0, none⟩ (.int .i64 t')) s t' := by
  unfold BoxN at h ⊢
  simp [World.setCell, Array.getElem?_modify, h]
end
theorem grown_put (w : World) (s : Nat) (u : Value) : w.grownBy (w.setCell ⟨s, 0, none⟩ u) (some s) :=
  ⟨rfl, rfl, rfl, by simp [World.setCell], fun k _ hn => Below.heap_setCell _ _ _ _ (fun e => hn (by rw [e]))⟩
theorem Dt.grown {w w' : World} {g n c : Nat} {xs : List Nat} {row : Option Nat} (h : Dt w g n c xs) (hg : w.grownBy w' row) (hne : some g ≠ row) : Dt w' g n c xs :=
  ⟨World.ownsRow.kept h.own hg (.inr hne), h.len, h.fin⟩
set_option maxHeartbeats 2000000 in
theorem order2_any (g n c x y s : Nat) (t : Int) (xs : List Nat) (w : World) (h : Dt w g n c xs) (hs : BoxN w s t) (hx : x < n) (hy : y < n) (ht : 0 ≤ t ∧ t ≤ 100) :
    Calls Try.prog 37 #[.slice (some ⟨g, 0, none⟩) n c, .int .i64 x, .int .i64 y, .pointer (some ⟨s, 0, none⟩)] w fun e w' => ∃ (u v : Nat) (t' : Int), e = .returned (.tuple #[.int .i64 u, .int .i64 v]) ∧ (u = x ∧ v = y ∨ u = y ∧ v = x) ∧ (t ≤ t' ∧ t' ≤ t + 1) ∧ Hid (BoxN w' s t') ∧ Hid (w.grownBy w' (some s)) := by
  have hc1 := h.cell hx
  have hc2 := h.cell hy
  have hx1 := h.num hy
  have hxn : (x : Int) < (n : Int) := by omega
  have hyn : (y : Int) < (n : Int) := by omega
  have hb0 := hs.c0
  have hbf := hs.fz 0
  have HB := Lib.hid hs
  obtain ⟨u, hu⟩ : ∃ u, xs.getD x 0 = u := ⟨_, rfl⟩
  obtain ⟨v, hv⟩ : ∃ v, xs.getD y 0 = v := ⟨_, rfl⟩
  rw [hu] at hc1
  rw [hv] at hc2 hx1
  clear h hs hu hv hx hy
  obtain ⟨bl, hbl⟩ : ∃ bl, flt .f32 v u = bl := ⟨_, rfl⟩
  go_enter Try.func37, Try.ntmps37
  go_wp2_with fail
  go_quiet ((go_at_call 26; exact Calls.quiet_of_same (less_s hx1 hbl)))
  cases bl with
  | true =>
    have HS := Lib.hid (HB.out.set (t + 1))
    have HG := Lib.hid (grown_put w s (.int .i64 (t + 1)))
    go_wp2_with fail
    go_ret2
    exact ⟨y, x, t + 1, rfl, .inr ⟨rfl, rfl⟩, by omega, HS.out, ⟨HG.out.os, HG.out.tape, HG.out.output, HG.out.size, HG.out.block⟩⟩
  | false =>
    go_wp2_with fail
    go_ret2
    exact ⟨x, y, t, rfl, .inl ⟨rfl, rfl⟩, by omega, HB.out, ⟨rfl, rfl, rfl, Nat.le_refl _, fun _ _ _ => rfl⟩⟩
set_option maxHeartbeats 2000000 in
theorem median_any (g n c x y z s : Nat) (t : Int) (xs : List Nat) (w : World) (h : Dt w g n c xs) (hs : BoxN w s t) (hx : x < n) (hy : y < n) (hz : z < n) (ht : 0 ≤ t ∧ t ≤ 90) (hne : g ≠ s) :
    Calls Try.prog 35 #[.slice (some ⟨g, 0, none⟩) n c, .int .i64 x, .int .i64 y, .int .i64 z, .pointer (some ⟨s, 0, none⟩)] w fun e w' => ∃ (r : Nat) (t' : Int), e = .returned (.int .i64 r) ∧ (r = x ∨ r = y ∨ r = z) ∧ (t ≤ t' ∧ t' ≤ t + 3) ∧ Hid (BoxN w' s t') ∧ Hid (w.grownBy w' (some s)) := by
  have hne' : some g ≠ some s := fun e => by injection e with e; exact hne e
  have H := Lib.hid h; have HS := Lib.hid hs; have Hne := Lib.hid hne'
  clear h hs hne hne'
  go_enter Try.func35, Try.ntmps35
  go_wp2_with fail
  refine (order2_any g n c x y s t xs _ H.out HS.out hx hy (by omega)).mono ?_
  rintro e w1 ⟨u1, v1, t1, rfl, ho1, ht1, hb1, hg1⟩
  have H1 := Lib.hid (H.out.grown hg1.out Hne.out)
  have hu1 : u1 < n ∧ v1 < n ∧ (u1 = x ∨ u1 = y) ∧ (v1 = x ∨ v1 = y) := by omega
  clear ho1
  go_wp2_with fail
  refine (order2_any g n c v1 z s t1 xs _ H1.out hb1.out hu1.2.1 hz (by omega)).mono ?_
  rintro e w2 ⟨u2, v2, t2, rfl, ho2, ht2, hb2, hg2⟩
  have H2 := Lib.hid (H1.out.grown hg2.out Hne.out)
  have hu2 : u2 < n ∧ (u2 = x ∨ u2 = y ∨ u2 = z) := by omega
  have G2 := Lib.hid (grown_trans' hg1.out hg2.out)
  clear ho2
  go_wp2_with fail
  refine (order2_any g n c u1 u2 s t2 xs _ H2.out hb2.out hu1.1 hu2.1 (by omega)).mono ?_
  rintro e w3 ⟨u3, v3, t3, rfl, ho3, ht3, hb3, hg3⟩
  have G3 := Lib.hid (grown_trans' G2.out hg3.out)
  have hv3 : v3 = x ∨ v3 = y ∨ v3 = z := by omega
  have htt : t ≤ t3 ∧ t3 ≤ t + 3 := by omega
  clear ho3
  go_wp2_with fail
  go_ret
  exact ⟨v3, t3, rfl, hv3, htt, hb3, G3⟩
theorem medAdj_any (g n c x s : Nat) (t : Int) (xs : List Nat) (w : World) (h : Dt w g n c xs) (hs : BoxN w s t) (hx0 : 0 < x) (hx : x + 1 < n) (hn : n ≤ 100000) (ht : 0 ≤ t ∧ t ≤ 90) (hne : g ≠ s) :
    Calls Try.prog 34 #[.slice (some ⟨g, 0, none⟩) n c, .int .i64 x, .pointer (some ⟨s, 0, none⟩)] w fun e w' => ∃ (r : Nat) (t' : Int), e = .returned (.int .i64 r) ∧ (x ≤ r + 1 ∧ r ≤ x + 1) ∧ (t ≤ t' ∧ t' ≤ t + 3) ∧ Hid (BoxN w' s t') ∧ Hid (w.grownBy w' (some s)) := by
  have H := Lib.hid h; have HS := Lib.hid hs
  clear h hs
  obtain ⟨p, hp⟩ : ∃ p : Nat, x = p + 1 := ⟨x - 1, by omega⟩
  have hpi : (x : Int) - 1 = (p : Int) := by omega
  obtain ⟨q, hq⟩ : ∃ q : Nat, q = x + 1 := ⟨_, rfl⟩
  have hqi : (x : Int) + 1 = (q : Int) := by omega
  have Hp := Lib.hid hp; have Hq := Lib.hid hq
  have hb : p < n ∧ q < n ∧ x < n := by omega
  clear hp hq
  go_enter Try.func34, Try.ntmps34
  go_wp2_with fail
  refine (median_any g n c p x q s t xs _ H.out HS.out hb.1 hb.2.2 hb.2.1 ht hne).mono ?_
  rintro e w1 ⟨r, t1, rfl, ho, ht1, hb1, hg1⟩
  have hr : x ≤ r + 1 ∧ r ≤ x + 1 := by have := Hp.out; have := Hq.out; omega
  clear ho
  go_wp2_with fail
  go_ret
  exact ⟨r, t1, rfl, hr, ht1, hb1, hg1⟩
set_option maxHeartbeats 4000000 in
theorem choose_any (g n c a b : Nat) (xs : List Nat) (w : World) (h : Dt w g n c xs) (hab : a + 12 < b) (hb : b ≤ n) (hn : n ≤ 100000) :
    Calls Try.prog 23 #[.slice (some ⟨g, 0, none⟩) n c, .int .i64 a, .int .i64 b] w fun e w' => ∃ (p : Nat) (t : Int), e = .returned (.tuple #[.int .i64 p, .int .i64 t]) ∧ (a ≤ p ∧ p < b) ∧ (0 ≤ t ∧ t ≤ 2) ∧ Hid (Below w.heap.size w w') := by
  have hgl := h.lt (by omega)
  have H := Lib.hid h
  clear h
  obtain ⟨l, hl⟩ : ∃ l : Nat, b = a + l := ⟨b - a, by omega⟩
  have hli : (b : Int) - (a : Int) = (l : Int) := by omega
  obtain ⟨q, hq⟩ : ∃ q : Nat, q = l / 4 := ⟨_, rfl⟩
  have hqd : (l : Int).tdiv 4 = (q : Int) := by rw [Int.tdiv_eq_ediv_of_nonneg (by omega)]; omega
  have hqw : IntKind.i64.wrap (q : Int) = (q : Int) := by rw [IntKind.wrap_i64]; omega
  obtain ⟨i, hi⟩ : ∃ i : Nat, i = a + q := ⟨_, rfl⟩
  obtain ⟨q2, hq2⟩ : ∃ q2 : Nat, q2 = q * 2 := ⟨_, rfl⟩
  obtain ⟨q3, hq3⟩ : ∃ q3 : Nat, q3 = q * 3 := ⟨_, rfl⟩
  obtain ⟨j, hj⟩ : ∃ j : Nat, j = a + q2 := ⟨_, rfl⟩
  obtain ⟨k, hk⟩ : ∃ k : Nat, k = a + q3 := ⟨_, rfl⟩
  have e1 : (a : Int) + (q : Int) = (i : Int) := by omega
  have e2 : (q : Int) * 2 = (q2 : Int) := by omega
  have e3 : (q : Int) * 3 = (q3 : Int) := by omega
  have e4 : (a : Int) + (q2 : Int) = (j : Int) := by omega
  have e5 : (a : Int) + (q3 : Int) = (k : Int) := by omega
  have hbd : 13 ≤ l ∧ q ≤ 25000 ∧ q2 ≤ 50000 ∧ q3 ≤ 75000 ∧ a ≤ 100000 ∧ l ≤ 100000 := by omega
  have hr : a + 3 ≤ i ∧ i + 3 ≤ b ∧ a + 6 ≤ j ∧ j + 6 ≤ b ∧ a + 9 ≤ k ∧ k + 3 ≤ b := by omega
  have h8 : (l : Int) ≥ 8 := by omega
  clear hl hq hi hq2 hq3 hj hk
  have HS := Lib.hid (show BoxN (w.alloc (.cells #[.int .i64 0] 3)) w.heap.size 0 from heap_alloc_new w _)
  have H0 := Lib.hid (H.out.grown (World.grownBy_alloc w (.cells #[.int .i64 0] 3) none) (by simp))
  have HB0 : Hid (Below w.heap.size w (w.alloc (.cells #[.int .i64 0] 3))) := (Below.refl _ _).alloc (Nat.le_refl _) _
  obtain ⟨s, hs⟩ : ∃ s, w.heap.size = s := ⟨_, rfl⟩
  have hne : g ≠ s := by omega
  have Hs := Lib.hid hs
  go_enter Try.func23, Try.ntmps23
  by_cases h50 : 50 ≤ l
  · have h50' : (l : Int) ≥ 50 := by omega
    go_wp2_with fail
    clear hs
    rw [Hs.out] at HS HB0
    generalize w.alloc (.cells #[.int .i64 0] 3) = w0 at HS H0 HB0 ⊢
    refine (medAdj_any g n c i s 0 xs _ H0.out HS.out (by omega) (by omega) hn (by omega) hne).mono ?_
    rintro e w1 ⟨i', t1, rfl, hi', ht1, hb1, hg1⟩
    have H1 := Lib.hid (H0.out.grown hg1.out (by simpa using hne))
    have HB1 := Lib.hid (HB0.out.grown hg1.out (by have := HB0.out.size; have := Hs.out; omega) (fun k e => by injection e with e; omega))
    go_wp2_with fail
    refine (medAdj_any g n c j s t1 xs _ H1.out hb1.out (by omega) (by omega) hn (by omega) hne).mono ?_
    rintro e w2 ⟨j', t2, rfl, hj', ht2, hb2, hg2⟩
    have H2 := Lib.hid (H1.out.grown hg2.out (by simpa using hne))
    have HB2 := Lib.hid (HB1.out.grown hg2.out (by have := HB1.out.size; have := Hs.out; omega) (fun k e => by injection e with e; omega))
    go_wp2_with fail
    refine (medAdj_any g n c k s t2 xs _ H2.out hb2.out (by omega) (by omega) hn (by omega) hne).mono ?_
    rintro e w3 ⟨k', t3, rfl, hk', ht3, hb3, hg3⟩
    have H3 := Lib.hid (H2.out.grown hg3.out (by simpa using hne))
    have HB3 := Lib.hid (HB2.out.grown hg3.out (by have := HB2.out.size; have := Hs.out; omega) (fun k e => by injection e with e; omega))
    go_wp2_with fail
    refine (median_any g n c i' j' k' s t3 xs _ H3.out hb3.out (by omega) (by omega) (by omega) (by omega) hne).mono ?_
    rintro e w4 ⟨r, t4, rfl, hr4, ht4, hb4, hg4⟩
    have HB4 := Lib.hid (HB3.out.grown hg4.out (by have := HB3.out.size; have := Hs.out; omega) (fun k e => by injection e with e; omega))
    have hrr : a ≤ r ∧ r < b := by omega
    have hc := hb4.out.c0
    clear hr4
    rw [← Hs.out] at HB4
    by_cases c0 : t4 = 0
    · go_wp2_with fail
      go_ret2
      exact ⟨r, 1, rfl, hrr, by omega, HB4⟩
    · by_cases c12 : t4 = 12
      · go_wp2_with fail
        go_ret2
        exact ⟨r, 2, rfl, hrr, by omega, HB4⟩
      · go_wp2_with fail
        go_ret2
        exact ⟨r, 0, rfl, hrr, by omega, HB4⟩
  · have h50' : ¬ (l : Int) ≥ 50 := by omega
    go_wp2_with fail
    clear hs
    rw [Hs.out] at HS HB0
    generalize w.alloc (.cells #[.int .i64 0] 3) = w0 at HS H0 HB0 ⊢
    refine (median_any g n c i j k s 0 xs _ H0.out HS.out (by omega) (by omega) (by omega) (by omega) hne).mono ?_
    rintro e w4 ⟨r, t4, rfl, hr4, ht4, hb4, hg4⟩
    have HB4 := Lib.hid (HB0.out.grown hg4.out (by have := HB0.out.size; have := Hs.out; omega) (fun k e => by injection e with e; omega))
    have hrr : a ≤ r ∧ r < b := by omega
    have hc := hb4.out.c0
    clear hr4
    rw [← Hs.out] at HB4
    by_cases c0 : t4 = 0
    · go_wp2_with fail
      go_ret2
      exact ⟨r, 1, rfl, hrr, by omega, HB4⟩
    · have c12 : t4 ≠ 12 := by omega
      go_wp2_with fail
      go_ret2
      exact ⟨r, 0, rfl, hrr, by omega, HB4⟩
end Go.Proofs.Ytmhhjegceibjoaa
