/- GapOfPoints: the program's function. -/
import Derived.Test.YtmhhjegceibjoaaSortG
import Derived.Test.YtmhhjegceibjoaaGapP
import Derived.Test.YtmhhjegceibjoaaPicks
import Derived.Test.YtmhhjegceibjoaaEmitF
namespace Go.Proofs.Ytmhhjegceibjoaa
open Go.RowKit
set_option maxRecDepth 100000
theorem notPart_any (x : Nat) (w : World) : Calls Try.prog 16 #[.float .f32 x] w fun e w' => e = .returned (.bool (!partB x)) ∧ ∃ q, w' = w.drewN q := by
  by_cases h : (FloatKind.f32.format.order x 0 = some Ordering.gt ∨ FloatKind.f32.format.order x 0 = some Ordering.eq)
  · go_enter Try.func16, Try.ntmps16
    go_wp2
    go_ret
    exact ⟨by simp [partB, ge0, le1, h], 0, rfl⟩
  · have e : partB x = false := by
      have : ge0 x = false := by
        have h1 : ¬ FloatKind.f32.format.order x 0 = some Ordering.gt := fun e => h (.inl e)
        have h2 : ¬ FloatKind.f32.format.order x 0 = some Ordering.eq := fun e => h (.inr e)
        simp [ge0, h1, h2]
      simp [partB, this]
    rw [e]
    go_enter Try.func16, Try.ntmps16
    go_wp2
    go_ret
    exact ⟨rfl, 0, rfl⟩
set_option maxHeartbeats 1000000 in
theorem findPart_any (A : Option Addr) (n c B : Nat) (xs : List Nat) (w : World) (h : Rd w B A n (f32s xs)) (hn : xs.length ≤ 2000000) :
    Calls Try.prog 19 #[.slice A n c, .func (.func 16) #[] #[]] w fun e w' => ∃ k : Int, e = .returned (.int .i64 k) ∧ Hid (decide (k ≥ 0) = !allP partB xs) ∧ ∃ q, w' = w.drewN q := by
  have hl := h.lenF
  obtain rfl : xs.length = n := hl.out
  clear hl
  go_enter Try.func19, Try.ntmps19
  go_wp2_with fail
  go_loopw [8] (fun i wr => ∃ k q : Nat, k ≤ xs.length ∧ i = .int .i64 k ∧ Hid (∀ (j x : Nat), j < k → xs[j]? = some x → partB x = true) ∧ wr = w.drewN q) (fun i _ => xs.length - (intOf i).toNat)
  case atStart => exact ⟨0, 0, Nat.zero_le _, rfl, fun j x hj => absurd hj (by omega), rfl⟩
  case round =>
    obtain ⟨k, q, hk, rfl, hv, rfl⟩ := hrel
    by_cases hlt : k < xs.length
    · obtain ⟨b, off, x, rfl, hbB, hx, hc⟩ := h.atF hlt
      have hlt' : (k : Int) < (xs.length : Int) := by omega
      clear h
      by_cases hp : partB x = true
      · have hvs : Hid (∀ (j x : Nat), j < k + 1 → xs[j]? = some x → partB x = true) := by
          intro j y hj hy
          by_cases hjk : j < k
          · exact hv.out j y hjk hy
          · obtain rfl : j = k := by omega
            have := hx.out.symm.trans hy
            injection this with this
            rw [← this]; exact hp
        go_wp2_with fail
        refine (notPart_any _ _).mono ?_
        rintro e w2 ⟨rfl, q2, rfl⟩
        rw [hp]
        clear hp
        go_wp2
        go_roundw
        case rel => exact ⟨k + 1, _, by omega, by go_num, hvs, rfl⟩
        case measure => simp only [intOf]; omega
      · have hp' : partB x = false := by simpa using hp
        have hall := allP_false hx.out hp'
        go_wp2_with fail
        refine (notPart_any _ _).mono ?_
        rintro e w2 ⟨rfl, q2, rfl⟩
        rw [hp']
        have Hall := Lib.hid hall
        clear hp hp' hall
        go_wp2
        go_ret
        exact ⟨k, rfl, by show _ = _; rw [Hall.out]; simp, _, rfl⟩
    · have hall := allP_true (p := partB) (xs := xs) (fun j x hx => hv.out j x (by have := (List.getElem?_eq_some_iff.1 hx).1; omega) hx)
      have Hall := Lib.hid hall
      clear hall
      go_wp2
      go_ret
      exact ⟨-1, rfl, by show _ = _; rw [Hall.out]; simp, _, rfl⟩
theorem hasPart_any (A : Option Addr) (n c B : Nat) (xs : List Nat) (w : World) (h : Rd w B A n (f32s xs)) (hn : xs.length ≤ 2000000) :
    Calls Try.prog 15 #[.slice A n c, .func (.func 16) #[] #[]] w fun e w' => e = .returned (.bool (!allP partB xs)) ∧ ∃ q, w' = w.drewN q := by
  go_enter Try.func15, Try.ntmps15
  go_wp2_with fail
  refine (findPart_any A n c B xs _ h hn).mono ?_
  rintro e w2 ⟨k, rfl, hk, q, rfl⟩
  go_wp2
  go_ret
  exact ⟨ret_bool hk.out, q, rfl⟩
theorem areParts_any (A : Option Addr) (n c B : Nat) (xs : List Nat) (w : World) (h : Rd w B A n (f32s xs)) (hn : xs.length ≤ 2000000) :
    Calls Try.prog 12 #[.slice A n c] w fun e w' => e = .returned (.bool (allP partB xs)) ∧ ∃ q, w' = w.drewN q := by
  go_enter Try.func12, Try.ntmps12
  go_wp2_with fail
  refine (hasPart_any A n c B xs w h hn).mono ?_
  rintro e w2 ⟨rfl, q, rfl⟩
  go_wp2
  go_ret
  exact ⟨by simp, q, rfl⟩
def sortK (xs : List Nat) : List Nat := xs.mergeSort (fun a b => decide (KV .f32 a ≤ KV .f32 b))
def gapR (xs : List Nat) : Option Nat := if (inB xs.length 1 256 && allP partB xs) = true then some (wk .f32 (mxI 0 (sortK xs) xs.length xs.length)) else none
theorem sortK_srt (xs : List Nat) : Srt 0 xs.length (sortK xs) := by
  have hp : (sortK xs).Pairwise (fun a b => decide (KV .f32 a ≤ KV .f32 b) = true) :=
    List.pairwise_mergeSort (fun a b c h1 h2 => by simp only [decide_eq_true_eq] at *; omega) (fun a b => by simp only [Bool.or_eq_true, decide_eq_true_eq]; omega) xs
  have hl : (sortK xs).length = xs.length := List.length_mergeSort xs
  intro i j _ hij hj
  by_cases e : i = j
  · rw [e]; exact Int.le_refl _
  · have := (List.pairwise_iff_getElem.1 hp) i j (by omega) (by omega) (by omega)
    unfold kA
    rw [List.getD_eq_getElem?_getD, List.getElem?_eq_getElem (by omega : i < (sortK xs).length), List.getD_eq_getElem?_getD, List.getElem?_eq_getElem (by omega : j < (sortK xs).length)]
    simpa using this
theorem sortK_perm (xs : List Nat) : (sortK xs).Perm xs := List.mergeSort_perm xs _
theorem allP_parts {xs : List Nat} (h : allP partB xs = true) : AllP xs := fun x hx => part_Rn (List.all_eq_true.1 h x hx)
/-- What both functions find, in the words of the statement. -/
theorem gap_same {xs ys : List Nat} {n m : Nat} (hl : xs.length = n) (h1 : 1 ≤ n) (hn : n ≤ 256) (hall : allP partB xs = true) (hp : ys.Perm xs) (hs : Srt 0 n ys) {s : Int} (hs0 : s ≤ 0) (hk : KV .f32 m = mxI s ys n n) (hw : Wd m) (hf : FinK .f32 m) : cn .f32 m = (gapR xs).getD 0 := by
  have hA := allP_parts hall
  have hAy : AllP ys := fun x hx => hA x (hp.mem_iff.1 hx)
  have hAs : AllP (sortK xs) := fun x hx => hA x ((sortK_perm xs).mem_iff.1 hx)
  have hyl : ys.length = n := by rw [hp.length_eq]; exact hl
  have hsl : (sortK xs).length = n := by rw [(sortK_perm xs).length_eq]; exact hl
  have hsrt := sortK_srt xs
  rw [hl] at hsrt
  have hkeys := srt_keys (hp.trans (sortK_perm xs).symm) hyl hs hsrt
  have e := mxI_same (s := s) h1 hn hAy hAs hyl hsl hkeys n (Nat.le_refl _)
  have hpos := mxI_pos (s := s) h1 hn hAs hsl
  have e0 := mxI_from hs0 (sortK xs) n n
  have hg : gapR xs = some (wk .f32 (mxI 0 (sortK xs) n n)) := by
    unfold gapR
    rw [hl, inB_mk (by omega), hall]; rfl
  rw [hg, hf.cn]
  show m = wk .f32 (mxI 0 (sortK xs) n n)
  have hkm : KV .f32 m = mxI 0 (sortK xs) n n := by omega
  rw [← hkm]
  rcases hw with h | h
  · omega
  · exact h
theorem gapR_yes {xs : List Nat} {n : Nat} (hl : xs.length = n) (h1 : 1 ≤ n) (hn : n ≤ 256) (hall : allP partB xs = true) : (gapR xs).isSome = true := by
  unfold gapR
  rw [hl, inB_mk (by omega), hall]; rfl
theorem gapR_no {xs : List Nat} (h : xs.length < 1 ∨ 256 < xs.length ∨ allP partB xs = false) : gapR xs = none := by
  unfold gapR
  rcases h with h | h | h
  · rw [inB_not (by omega)]; rfl
  · rw [inB_not (by omega)]; rfl
  · rw [h, Bool.and_false]; rfl
theorem own_dt {w : World} {b : Nat} {v : Value} {xs : List Nat} {n : Nat} (h : Own w b 23 v (f32s xs)) (hn : xs.length = n) (h1 : 1 ≤ n) (hf : AllF xs) : ∃ g c, v = .slice (some ⟨g, 0, none⟩) n c ∧ b ≤ g ∧ Dt w g n c xs := by
  subst hn
  obtain ⟨A, c, rfl, _⟩ := h.shapeF
  have h' := h
  unfold Own at h'
  rw [f32s_length] at h'
  rcases h'.2 with ⟨_, h0⟩ | ⟨g, cap, cur, hv, hb, rest⟩
  · omega
  · simp only [Value.slice.injEq] at hv
    obtain ⟨rfl, -, rfl⟩ := hv
    exact ⟨g, c, rfl, hb, ⟨h'.1, .inr ⟨g, c, cur, rfl, Nat.le_refl _, rest⟩⟩, rfl, hf⟩
theorem run_maxF3 {P : Program} (w : World) (ts : Array TypeId) (t : TypeId) {x y z : Nat} (hx : FinK .f32 x) (hy : FinK .f32 y) (hz : FinK .f32 z) : (Builtin.max_ ts t #[.float .f32 x, .float .f32 y, .float .f32 z]).run P w = .ok (.float .f32 (maxF (maxF x y) z)) w := by
  have h2 : ∀ {x y : Nat}, FinK .f32 x → FinK .f32 y → Builtin.max2 (.float .f32 x) (.float .f32 y) = pure (.float .f32 (maxF x y)) := by
    intro x y hx hy
    unfold Builtin.max2 maxF
    simp only
    rw [order_KV hx hy]
    cases compare (KV .f32 x) (KV .f32 y) <;> rfl
  have h3 := h2 (maxF_fin hx hy) hz
  simp [Builtin.max_, h2 hx hy, h3]
def FnFl_FB (f : Nat) (r : List Nat → Option Nat) : Prop :=
  ∀ (A : Option Addr) (n c B : Nat) (xs : List Nat) (w : World), Rd w B A n (f32s xs) → B ≤ w.heap.size → xs.length ≤ 1048576 → n ≤ c ∧ c ≤ maxLen → Calls Try.prog f #[.slice A n c] w (GaveFB w (r xs))
theorem gaveFB_no {w w' : World} {r : Option Nat} (h : r = none) (hb : Below w.heap.size w w') : GaveFB w r (.returned (.tuple #[.float .f32 0, .bool false])) w' := by
  subst h; exact ⟨0, false, rfl, rfl, by show _ = _; decide +kernel, hb⟩
set_option maxHeartbeats 4000000 in
theorem implGap : FnFl_FB 6 gapR := by
  intro A n c B xs w h hB hn hcap
  have hl := h.lenF
  have HR := Lib.hid h
  clear h hcap
  go_enter Try.func6, Try.ntmps6
  by_cases h1 : n < 1
  · have h1' : (n : Int) < 1 := by omega
    have hr : Hid (gapR xs = none) := gapR_no (by have := hl.out; omega)
    clear HR
    go_wp2_with fail
    go_ret2
    exact gaveFB_no hr.out (Below.refl _ _)
  · have h1' : ¬ (n : Int) < 1 := by omega
    by_cases h2 : 256 < n
    · have h2' : (256 : Int) < (n : Int) := by omega
      have hr : Hid (gapR xs = none) := gapR_no (by have := hl.out; omega)
      clear HR
      go_wp2_with fail
      go_ret2
      exact gaveFB_no hr.out (Below.refl _ _)
    · have h2' : ¬ (256 : Int) < (n : Int) := by omega
      go_wp2_with fail
      refine (areParts_any A n c B xs _ HR.out (by have := hl.out; omega)).mono ?_
      rintro e w1 ⟨rfl, q, rfl⟩
      cases hall : allP partB xs with
      | false =>
        have hr : Hid (gapR xs = none) := gapR_no (.inr (.inr hall))
        clear HR hall
        go_wp2_with fail
        go_ret2
        exact gaveFB_no hr.out (below_drewN' q)
      | true =>
        have Hall := Lib.hid hall
        have HR1 := Lib.hid (HR.out.below (below_drewN' q) hB)
        clear hall HR
        go_wp2_with fail
        refine (cloneF_any A n c B xs _ HR1.out hB hn).mono ?_
        rintro e w2 ⟨v, rfl, hO, hb2⟩
        obtain ⟨g, c2, rfl, hg, hD⟩ := own_dt hO hl.out (by omega) (allP_parts Hall.out).fin
        have HD := Lib.hid hD
        have HB2 : Hid (Below w.heap.size w w2) := (below_drewN' q).trans hb2
        have hgw : w.heap.size ≤ g := hg
        clear hO hb2 hD HR1 hg
        go_wp2_with fail
        refine (sortF_any g n c2 xs _ HD.out (by omega) (by omega)).mono ?_
        rintro e w3 ⟨rfl, ys, hD3, hG3, hS3, hT3⟩
        have HB3 := Lib.hid (HB2.out.grown hG3.out (by have := HB2.out.size; omega) (fun k e => by injection e with e; omega))
        have HP : Hid (AllP ys) := fun x hx => allP_parts Hall.out x (hS3.out.perm.mem_iff.1 hx)
        clear HD HB2 hG3
        have hn1 : 1 ≤ n ∧ n ≤ 256 := by omega
        have hyl : Hid (ys.length = n) := hD3.out.len
        go_wp2_with fail
        go_loop [6, 31] (fun q i => ∃ k m : Nat, k ≤ n ∧ i = .int .i64 k ∧ q = .float .f32 m ∧ Hid (FinK .f32 m ∧ KV .f32 m = mxI 0 ys n k ∧ Wd m)) (fun _ i => n - (intOf i).toNat)
        case atStart => exact ⟨0, 0, Nat.zero_le _, rfl, rfl, zero_KV2.1, zero_KV2.2, .inl (by rw [zero_KV2.2]; exact Int.le_refl _)⟩
        case round =>
          obtain ⟨k, m, hk, rfl, rfl, hm⟩ := hrel
          by_cases hlt : k < n
          · have hlt' : (k : Int) < (n : Int) := by omega
            have hc := hD3.out.cell (i := k) hlt
            have hp := HP.out _ (getD_mem (xs := ys) (i := k) (by have := hyl.out; omega))
            obtain ⟨y, hy⟩ : ∃ y, ys.getD k 0 = y := ⟨_, rfl⟩
            have e1 : fop .quo .f32 (floatOfInt .f32 ((k : Int) + 1)) (floatOfInt .f32 (n : Int)) = quoN (k + 1) n := by unfold quoN; push_cast; rfl
            have e2 : fop .quo .f32 (floatOfInt .f32 (k : Int)) (floatOfInt .f32 (n : Int)) = quoN k n := rfl
            have r1 := quo_Rn (i := k + 1) (by omega) hn1.1 hn1.2
            have r2 := quo_Rn (i := k) (by omega) hn1.1 hn1.2
            rw [hy] at hc hp
            have r3 := subU_Rn (i := k + 1) (by omega) hn1.1 hn1.2 hp
            have r4 := subL_Rn (i := k) (by omega) hn1.1 hn1.2 hp
            have w3_ := sub_Wd r1.1 hp.1
            have w4_ := sub_Wd hp.1 r2.1
            have hM : Hid (mxI 0 ys n (k + 1) = max (max (mxI 0 ys n k) (KV .f32 (fop .sub .f32 (quoN (k + 1) n) y))) (KV .f32 (fop .sub .f32 y (quoN k n)))) := by show _ = _; rw [← hy]; rfl
            obtain ⟨a1, ha1⟩ : ∃ a1, quoN (k + 1) n = a1 := ⟨_, rfl⟩
            obtain ⟨a2, ha2⟩ : ∃ a2, quoN k n = a2 := ⟨_, rfl⟩
            rw [ha1] at e1 r1 r3 w3_ hM
            rw [ha2] at e2 r2 r4 w4_ hM
            obtain ⟨s1, hs1⟩ : ∃ s1, fop .sub .f32 a1 y = s1 := ⟨_, rfl⟩
            obtain ⟨s2, hs2⟩ : ∃ s2, fop .sub .f32 y a2 = s2 := ⟨_, rfl⟩
            rw [hs1] at r3 w3_ hM
            rw [hs2] at r4 w4_ hM
            have n1 := FinK_not_nan r1.1
            have n2 := FinK_not_nan r2.1
            have n3 := FinK_not_nan r3.1
            have n4 := FinK_not_nan r4.1
            have g1 := fun (t : TypeId) (w : World) => run_fop_num2 (P := Try.prog) e1 n1 t w
            have g2 := fun (t : TypeId) (w : World) => run_fop_num2 (P := Try.prog) e2 n2 t w
            have g3 := fun (t : TypeId) (w : World) => run_fop_num2 (P := Try.prog) hs1 n3 t w
            have g4 := fun (t : TypeId) (w : World) => run_fop_num2 (P := Try.prog) hs2 n4 t w
            have g5 := fun (ts : Array TypeId) (t : TypeId) (w : World) => run_maxF3 (P := Try.prog) w ts t hm.out.1 r3.1 r4.1
            have hm2 : Hid (FinK .f32 (maxF (maxF m s1) s2) ∧ KV .f32 (maxF (maxF m s1) s2) = mxI 0 ys n (k + 1) ∧ Wd (maxF (maxF m s1) s2)) :=
              ⟨maxF_fin (maxF_fin hm.out.1 r3.1) r4.1, by rw [maxF_KV (maxF_fin hm.out.1 r3.1) r4.1, maxF_KV hm.out.1 r3.1, hM.out, hm.out.2.1], maxF_Wd (maxF_Wd hm.out.2.2 w3_) w4_⟩
            clear hy hp r1 r2 r3 r4 w3_ w4_ hM ha1 ha2 hs1 hs2 e1 e2 n1 n2 n3 n4 hm
            go_wp2_with fail
            go_round
            case rel => exact ⟨k + 1, _, by omega, by go_num, rfl, hm2⟩
            case measure => simp only [intOf]; omega
          · obtain rfl : k = n := by omega
            have hres : Hid (cn .f32 m = (gapR xs).getD 0) := gap_same hl.out hn1.1 hn1.2 Hall.out hS3.out.perm hT3.out (Int.le_refl 0) hm.out.2.1 hm.out.2.2 hm.out.1
            have hsome := gapR_yes hl.out hn1.1 hn1.2 Hall.out
            go_wp2_with fail
            go_ret2
            exact ⟨m, true, rfl, hsome.symm, hres, HB3.out⟩
end Go.Proofs.Ytmhhjegceibjoaa
