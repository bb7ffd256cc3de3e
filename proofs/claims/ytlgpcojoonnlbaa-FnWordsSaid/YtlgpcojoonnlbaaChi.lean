/- ChiOf: the sum of squares over shares. -/
import Derived.Test.YtlgpcojoonnlbaaPicks
import Derived.Test.YtlgpcojoonnlbaaZ04
import Derived.Test.YtlgpcojoonnlbaaSmall
import Derived.BigRegion
namespace Go.Proofs.Ytlgpcojoonnlbaa
open Go.RowKit
/-! A finite sum, difference or product has finite parts; a finite quotient has a finite numerator. -/
def isNumD : Ieee.Datum → Bool
  | .number .. => true
  | _ => false
def isNum (x : Nat) : Bool := isNumD (Ieee.single.read x)
theorem read_inf (s : Bool) : Ieee.single.read (Ieee.single.write (.infinity s)) = .infinity s := by
  cases s <;> decide
theorem num_qnan : isNum (qnan .f32) = false := by decide
theorem fop_some {op : BinOp} {x y r : Nat} (h : floatBits op .f32 x y = some r) : fop op .f32 x y = r := by unfold fop; rw [h]; rfl
theorem fop_nil {op : BinOp} {x y : Nat} (h : floatBits op .f32 x y = none) : fop op .f32 x y = qnan .f32 := by unfold fop; rw [h]; rfl
theorem num_of_map {o : Option Ieee.Datum} (hn : ∀ d, o = some d → d.isNaN = false) (h : isNum ((o.map Ieee.single.write).getD (qnan .f32)) = true) : ∃ s m e, o = some (.number s m e) := by
  cases o with
  | none => rw [show isNum (((none : Option Ieee.Datum).map Ieee.single.write).getD (qnan .f32)) = false from num_qnan] at h; cases h
  | some d =>
    cases d with
    | number s m e => exact ⟨s, m, e, rfl⟩
    | infinity s =>
      have : isNum (Ieee.single.write (.infinity s)) = false := by unfold isNum; rw [read_inf]; rfl
      rw [show isNum (((some (Ieee.Datum.infinity s)).map Ieee.single.write).getD (qnan .f32)) = isNum (Ieee.single.write (.infinity s)) from rfl, this] at h
      cases h
    | nan s t =>
      have := hn _ rfl
      cases this
theorem num_add {x y : Nat} (h : isNum (fop .add .f32 x y) = true) : isNum x = true ∧ isNum y = true := by
  obtain ⟨s, m, e, ho⟩ := num_of_map (o := (Ieee.single.read x).sum (Ieee.single.read y)) (fun _ e => sum_not_nan e) h
  unfold isNum
  cases hx : Ieee.single.read x <;> cases hy : Ieee.single.read y <;> rw [hx, hy] at ho <;> simp [Ieee.Datum.sum] at ho <;> exact ⟨rfl, rfl⟩
theorem num_sub {x y : Nat} (h : isNum (fop .sub .f32 x y) = true) : isNum x = true ∧ isNum y = true := by
  obtain ⟨s, m, e, ho⟩ := num_of_map (o := (Ieee.single.read x).sum (Ieee.single.read y).opposite) (fun _ e => sum_not_nan e) h
  unfold isNum
  cases hx : Ieee.single.read x <;> cases hy : Ieee.single.read y <;> rw [hx, hy] at ho <;> simp [Ieee.Datum.sum, Ieee.Datum.opposite] at ho <;> exact ⟨rfl, rfl⟩
theorem num_mul {x y : Nat} (h : isNum (fop .mul .f32 x y) = true) : isNum x = true ∧ isNum y = true := by
  obtain ⟨s, m, e, ho⟩ := num_of_map (o := (Ieee.single.read x).product (Ieee.single.read y)) (fun _ e => product_not_nan e) h
  unfold isNum
  cases hx : Ieee.single.read x <;> cases hy : Ieee.single.read y <;> rw [hx, hy] at ho <;> simp [Ieee.Datum.product] at ho <;> exact ⟨rfl, rfl⟩
theorem num_quo {x y : Nat} (h : isNum (fop .quo .f32 x y) = true) : isNum x = true := by
  obtain ⟨s, m, e, ho⟩ := num_of_map (o := (Ieee.single.read x).quotient (Ieee.single.fractionBits + 2) (Ieee.single.read y)) (fun _ e => quotient_not_nan e) h
  unfold isNum
  cases hx : Ieee.single.read x <;> cases hy : Ieee.single.read y <;> rw [hx, hy] at ho <;> simp [Ieee.Datum.quotient] at ho <;> rfl
theorem finB_num (x : Nat) : finB x = isNum x := by
  have h0 : isNum x = true → fop .sub .f32 x x = 0 := by
    intro h
    unfold isNum at h
    cases hx : Ieee.single.read x with
    | number s m e =>
      show ((((Ieee.single.read x).sum (Ieee.single.read x).opposite).map Ieee.single.write).getD (qnan .f32)) = 0
      rw [hx]
      have hz : (Ieee.signed s m (e - min e e).toNat + Ieee.signed (!s) m (e - min e e).toNat) = 0 := by
        cases s <;> simp [Ieee.signed] <;> omega
      simp only [Ieee.Datum.opposite, Ieee.Datum.sum, hz, if_true, Option.map_some, Option.getD_some, Ieee.Format.write]
      cases s <;> simp [Ieee.Format.nearest, Ieee.Format.word]
    | infinity s => rw [hx] at h; cases h
    | nan s t => rw [hx] at h; cases h
  cases h : isNum x with
  | true =>
    unfold finB feq
    rw [h0 h, order_self (zero_not_nan .f32)]
    rfl
  | false =>
    have h1 : fop .sub .f32 x x = qnan .f32 := by
      unfold isNum at h
      apply fop_nil
      show ((Ieee.single.read x).sum (Ieee.single.read x).opposite).map Ieee.single.write = none
      cases hx : Ieee.single.read x with
      | number s m e => rw [hx] at h; cases h
      | infinity s => cases s <;> rfl
      | nan s t => rfl
    unfold finB feq
    rw [h1, order_nan_l (qnan_isNaN .f32)]
    rfl
def chiE (n s : Nat) : Nat := fop .mul .f32 s n
def chiZ (n : Nat) (c : Int) (s : Nat) : Nat := fop .sub .f32 (floatOfInt .f32 c) (chiE n s)
def chiP (n : Nat) (c : Int) (s : Nat) : Nat := fop .quo .f32 (fop .mul .f32 (chiZ n c s) (chiZ n c s)) (chiE n s)
theorem chiP_fin {n : Nat} {c : Int} {s : Nat} (h : finB (chiP n c s) = true) : finB (chiE n s) = true ∧ finB (chiZ n c s) = true := by
  rw [finB_num] at h ⊢
  rw [finB_num]
  have h1 := (num_mul (num_quo h)).1
  exact ⟨(num_sub h1).2, h1⟩
/-- The sum as far as it goes. -/
def chiSum (n : Nat) : List Int → List Nat → Nat → Nat
  | c :: cs, s :: ss, a => chiSum n cs ss (fop .add .f32 a (chiP n c s))
  | _, _, a => a
theorem chiSum_fin {n : Nat} {cs : List Int} {ss : List Nat} {a : Nat} (h : finB (chiSum n cs ss a) = true) : finB a = true := by
  induction cs generalizing ss a with
  | nil => exact h
  | cons c cs ih =>
    cases ss with
    | nil => exact h
    | cons s ss =>
      have := ih (ss := ss) (a := fop .add .f32 a (chiP n c s)) h
      rw [finB_num] at this ⊢
      exact (num_add this).1
theorem chiSum_part {n : Nat} {cs : List Int} {ss : List Nat} {a : Nat} {c : Int} {s : Nat} (h : finB (chiSum n (c :: cs) (s :: ss) a) = true) : finB (chiP n c s) = true := by
  have := chiSum_fin (n := n) (cs := cs) (ss := ss) (a := fop .add .f32 a (chiP n c s)) h
  rw [finB_num] at this ⊢
  exact (num_add this).2
theorem dropC {α : Type} {xs : List α} {k : Nat} {x : α} (h : xs[k]? = some x) : xs.drop k = x :: xs.drop (k + 1) := by
  have hk := (List.getElem?_eq_some_iff.1 h).1
  rw [List.drop_eq_getElem_cons hk]
  congr 1
  rw [List.getElem?_eq_getElem hk] at h
  exact Option.some.inj h
theorem chiSum_drop {n : Nat} {cs : List Int} {ss : List Nat} {k : Nat} {c : Int} {s : Nat} (hc : cs[k]? = some c) (hs : ss[k]? = some s) (a : Nat) : chiSum n (cs.drop k) (ss.drop k) a = chiSum n (cs.drop (k + 1)) (ss.drop (k + 1)) (fop .add .f32 a (chiP n c s)) := by
  rw [dropC hc, dropC hs, chiSum]
theorem chiSum_end {n : Nat} {cs : List Int} {ss : List Nat} {k : Nat} (h : cs.length ≤ k) (a : Nat) : chiSum n (cs.drop k) ss a = a := by
  rw [List.drop_eq_nil_of_le h]
  cases ss <;> rfl
def sumN (cs : List Int) : Int := cs.foldl (fun s x => s + x) 0
theorem sumN_snoc (cs : List Int) (c : Int) : sumN (cs ++ [c]) = sumN cs + c := by simp [sumN, List.foldl_append]
def countsB (cs : List Int) : Bool := cs.all fun c => inB c 0 1000000
def chiOf (cs : List Int) (ss : List Nat) : Option Nat :=
  if inB cs.length 1 256 && decide (ss.length = cs.length) && allP posB ss && countsB cs && decide (sumN cs ≠ 0) && finB (chiSum (floatOfInt .f32 (sumN cs)) cs ss 0) then some (chiSum (floatOfInt .f32 (sumN cs)) cs ss 0) else none
theorem countsB_false {cs : List Int} {k : Nat} {c : Int} (hc : cs[k]? = some c) (h : inB c 0 1000000 = false) : countsB cs = false := by
  unfold countsB
  rw [List.all_eq_false]
  exact ⟨c, List.mem_of_getElem? hc, by simp [h]⟩
theorem countsB_true {cs : List Int} (h : ∀ (j : Nat) (c : Int), cs[j]? = some c → inB c 0 1000000 = true) : countsB cs = true := by
  unfold countsB
  rw [List.all_eq_true]
  intro c hc
  obtain ⟨j, hj⟩ := List.mem_iff_getElem?.1 hc
  exact h j c hj
theorem chiOf_len {cs : List Int} {ss : List Nat} (h : inB cs.length 1 256 = false) : chiOf cs ss = none := by simp [chiOf, h]
theorem chiOf_ne {cs : List Int} {ss : List Nat} (h : ¬ ss.length = cs.length) : chiOf cs ss = none := by simp [chiOf, h]
theorem chiOf_pos {cs : List Int} {ss : List Nat} (h : allP posB ss = false) : chiOf cs ss = none := by simp [chiOf, h]
theorem chiOf_counts {cs : List Int} {ss : List Nat} (h : countsB cs = false) : chiOf cs ss = none := by simp [chiOf, h]
theorem chiOf_zero {cs : List Int} {ss : List Nat} (h : sumN cs = 0) : chiOf cs ss = none := by simp [chiOf, h]
theorem chiOf_inf {cs : List Int} {ss : List Nat} (h : finB (chiSum (floatOfInt .f32 (sumN cs)) cs ss 0) = false) : chiOf cs ss = none := by simp [chiOf, h]
theorem chiOf_yes {cs : List Int} {ss : List Nat} (h1 : inB cs.length 1 256 = true) (h2 : ss.length = cs.length) (h3 : allP posB ss = true) (h4 : countsB cs = true) (h5 : ¬ sumN cs = 0) (h6 : finB (chiSum (floatOfInt .f32 (sumN cs)) cs ss 0) = true) : chiOf cs ss = some (chiSum (floatOfInt .f32 (sumN cs)) cs ss 0) := by
  unfold chiOf
  rw [h1, h3, h4, h6, h2]
  simp [h5]
theorem gaveFBn {w w' : World} {r : Option Nat} (h : r = none) (hb : Below w.heap.size w w') : GaveFB w r (.returned (.tuple #[.float .f32 0, .bool false])) w' := by
  subst h
  exact ⟨0, false, rfl, rfl, cn_of_not (zero_not_nan .f32), hb⟩
theorem gaveFBs {w w' : World} {r : Option Nat} {x y : Nat} (h : r = some y) (hx : cn .f32 x = y) (hb : Below w.heap.size w w') : GaveFB w r (.returned (.tuple #[.float .f32 x, .bool true])) w' := by
  subst h
  exact ⟨x, true, rfl, rfl, hx, hb⟩
theorem rd_newF' (w : World) (xs : List Nat) (e : TypeId) : Rd (w.alloc (.cells (f32s xs).toArray e)) (w.heap.size + 1) (some ⟨w.heap.size, 0, none⟩) xs.length (f32s xs) := by
  refine ⟨f32s_length xs, fun _ => ⟨w.heap.size, 0, rfl, by omega, fun j u hu => ?_⟩⟩
  rw [Nat.zero_add, cell_of_row _ _ j _ e (0, 0) (heap_alloc_new w _)]
  simpa using hu
theorem checked_any (x : Nat) (w : World) : Calls Try.prog 34 #[.float .f32 x] w fun e w' => ((finB x = true ∧ e = .returned (.tuple #[.float .f32 x, .bool true])) ∨ (finB x = false ∧ e = .returned (.tuple #[.float .f32 0, .bool false]))) ∧ ∃ q, w' = w.drewN q := by
  go_enter Try.func34, Try.ntmps34
  go_wp2_with fail
  refine (isFin_any _ _).mono ?_
  rintro e w1 ⟨rfl, q, rfl⟩
  cases hf : finB x with
  | false =>
    go_wp2
    go_ret2
    exact ⟨.inr ⟨hf, rfl⟩, q, rfl⟩
  | true =>
    go_wp2
    go_ret2
    exact ⟨.inl ⟨hf, rfl⟩, q, rfl⟩
theorem sumN_take {xs : List Int} {k : Nat} {c : Int} (h : xs[k]? = some c) : sumN (xs.take (k + 1)) = sumN (xs.take k) + c := by rw [take_succ_of h, sumN_snoc]
set_option maxRecDepth 100000 in
set_option maxHeartbeats 2000000 in
theorem implChi : FnLFl_FB 16 chiOf := by
  intro A n c B xs A' n' c' B' ys w h hB hn hf hcap h' hB' hn' hcap'
  have hl := h.lenI
  obtain rfl : xs.length = n := hl.out
  have hl' := h'.lenF
  obtain rfl : ys.length = n' := hl'.out
  clear hl hl' hf hcap hcap'
  have HR := Lib.hid h; have HQ := Lib.hid h'
  clear h h'
  by_cases h1 : (xs.length : Int) < 1
  · have Hn := Lib.hid (chiOf_len (cs := xs) (ss := ys) (inB_not (by omega)))
    go_enter Try.func16, Try.ntmps16
    go_wp2
    go_ret2
    exact gaveFBn Hn.out (Below.refl _ _)
  by_cases h2 : (256 : Int) < (xs.length : Int)
  · have Hn := Lib.hid (chiOf_len (cs := xs) (ss := ys) (inB_not (by omega)))
    go_enter Try.func16, Try.ntmps16
    go_wp2
    go_ret2
    exact gaveFBn Hn.out (Below.refl _ _)
  have Hin : Hid (inB (xs.length : Int) 1 256 = true) := inB_mk (by omega)
  by_cases hlen : ys.length = xs.length
  · have hne : (((ys.length : Nat) : Int) != ((xs.length : Nat) : Int)) = false := by rw [hlen]; simp
    have Hlen := Lib.hid hlen
    have hyl : ys.length ≤ 256 := by omega
    clear hlen
    go_enter Try.func16, Try.ntmps16
    go_wp2_with fail
    refine (arePos_any A' ys.length c' B' ys _ HQ.out (by omega)).mono ?_
    rintro e w1 ⟨rfl, q0, rfl⟩
    cases hpos : allP posB ys with
    | false =>
      have Hn := Lib.hid (chiOf_pos (cs := xs) hpos)
      clear hpos
      go_wp2
      go_ret2
      exact gaveFBn Hn.out (below_drewN' q0)
    | true =>
      have Hpos := Lib.hid hpos
      clear hpos
      go_wp2
      go_loopw [6, 38] (fun a i wr => ∃ k : Nat, k ≤ xs.length ∧ i = .int .i64 k ∧ a = .int .i64 (sumN (xs.take k)) ∧ 0 ≤ sumN (xs.take k) ∧ sumN (xs.take k) ≤ 1000000 * k ∧ Hid (∀ (j : Nat) (x : Int), j < k → xs[j]? = some x → inB x 0 1000000 = true) ∧ wr = w.drewN q0) (fun _ i _ => xs.length - (intOf i).toNat)
      case atStart => exact ⟨0, Nat.zero_le _, rfl, rfl, by simp [sumN], by simp [sumN], fun j x hj => absurd hj (by omega), rfl⟩
      case round =>
        obtain ⟨k, hk, rfl, rfl, hs0, hs1, hv, rfl⟩ := hrel
        by_cases hlt : k < xs.length
        · obtain ⟨b, off, x, rfl, hbB, hx, hcx⟩ := HR.out.atI (k := k) hlt
          have hlt' : (k : Int) < (xs.length : Int) := by omega
          have Hsu := Lib.hid (sumN_take hx.out)
          generalize sumN (xs.take k) = q at hs0 hs1 Hsu ⊢
          go_wp2_with fail
          refine (within_any _ _ _ _).mono ?_
          rintro e w2 ⟨rfl, rfl⟩
          cases hi : inB x 0 1000000 with
          | false =>
            have Hn := Lib.hid (chiOf_counts (ss := ys) (countsB_false hx.out hi))
            clear hi
            go_wp2
            go_ret2
            exact gaveFBn Hn.out (below_drewN' q0)
          | true =>
            have hib := inB_true hi
            have Hi := Lib.hid hi
            have hvs : Hid (∀ (j : Nat) (x : Int), j < k + 1 → xs[j]? = some x → inB x 0 1000000 = true) := by
              intro j z hj hz
              by_cases hjk : j < k
              · exact hv.out j z hjk hz
              · obtain rfl : j = k := by omega
                have := hx.out.symm.trans hz
                injection this with this
                rw [← this]; exact Hi.out
            clear hi
            go_wp2
            go_roundw
            case rel => exact ⟨k + 1, by omega, by go_num, by rw [Hsu.out], by rw [Hsu.out]; omega, by rw [Hsu.out]; omega, hvs, trivial⟩
            case measure => simp only [intOf]; omega
        · obtain rfl : k = xs.length := by omega
          have Hc := Lib.hid (countsB_true (cs := xs) (fun j x hx => hv.out j x (List.getElem?_eq_some_iff.1 hx).1 hx))
          rw [List.take_length] at hs0 hs1 ⊢
          obtain ⟨q, hq⟩ : ∃ q, q = sumN xs := ⟨_, rfl⟩
          rw [← hq] at hs0 hs1 ⊢
          have Hq := Lib.hid hq
          clear hq hv
          obtain ⟨wo, hwo⟩ : ∃ wo : World, wo = w.drewN q0 := ⟨_, rfl⟩
          rw [← hwo]
          have HB0 : Hid (Below w.heap.size w wo) := by rw [hwo]; exact below_drewN' q0
          clear hwo
          go_wp2
          go_loopw [10, 53] (fun a i wr => ∃ (k r : Nat), k ≤ xs.length ∧ i = .int .i64 k ∧ a = .float .f32 r ∧ Hid (chiSum (floatOfInt .f32 q) xs ys 0 = chiSum (floatOfInt .f32 q) (xs.drop k) (ys.drop k) (cn .f32 r)) ∧ Below w.heap.size w wr) (fun _ i _ => xs.length - (intOf i).toNat)
          case atStart => exact ⟨0, 0, Nat.zero_le _, rfl, rfl, by show _ = _; rw [cn_of_not (zero_not_nan .f32)]; rfl, HB0.out⟩
          case round =>
            obtain ⟨k, r, hk, rfl, rfl, hch, hbel⟩ := hrel
            have HB' := Lib.hid hbel
            clear hbel
            by_cases hlt : k < xs.length
            · obtain ⟨b, off, cc, hA, hbB, hx, hcx⟩ := (HR.out.below HB'.out hB).atI (k := k) hlt
              obtain ⟨b', off', sh, hA', hbB', hy, hcy⟩ := (HQ.out.below HB'.out hB').atF (k := k) (by have := Hlen.out; omega)
              subst hA hA'
              have hlt' : (k : Int) < (xs.length : Int) := by omega
              have hlt2 : (k : Int) < (ys.length : Int) := by have := Hlen.out; omega
              have Hst := Lib.hid (chiSum_drop (n := floatOfInt .f32 q) hx.out hy.out (cn .f32 r))
              have Hpt : Hid (finB (chiSum (floatOfInt .f32 q) xs ys 0) = true → finB (chiP (floatOfInt .f32 q) cc sh) = true) := by
                intro hf
                rw [hch.out, dropC hx.out, dropC hy.out] at hf
                exact chiSum_part hf
              have t1 : True := trivial
              have t2 : True := trivial
              have t3 : True := trivial
              have t4 : True := trivial
              obtain ⟨N, hN⟩ : ∃ N, N = floatOfInt .f32 q := ⟨_, rfl⟩
              rw [← hN] at Hst Hpt hch ⊢
              have HN := Lib.hid hN
              clear hN
              go_wp2_with (first
                | (have := t1; clear this t1; refine wpList_fop _ rfl .mul _ _ _ _ rfl rfl .f32 _ _ rfl rfl ?_; intro r1 q1 h1)
                | (have := t2; clear this t2; refine wpList_fop _ rfl .sub _ _ _ _ rfl rfl .f32 _ _ rfl rfl ?_; intro r2 q2 h2)
                | (have := t3; clear this t3; refine wpList_fop _ rfl .mul _ _ _ _ rfl rfl .f32 _ _ rfl rfl ?_; intro r3 q3 h3)
                | (have := t4; clear this t4; refine wpList_fop _ rfl .quo _ _ _ _ rfl rfl .f32 _ _ rfl rfl ?_; intro r4 q4 h4))
              refine (areFin_any _ 3 3 _ [r1, r2, r4] _ (by exact rd_newF' (wr.drewN (q1 + q2 + q3 + q4)) [r1, r2, r4] 45) (by simp)).mono ?_
              rintro e w2 ⟨rfl, q5, rfl⟩
              have e1 : cn .f32 r1 = chiE N sh := h1.out
              have e2 : cn .f32 r2 = chiZ N cc sh := by rw [h2.out, fop_r e1]; rfl
              have e4 : cn .f32 r4 = chiP N cc sh := by rw [h4.out, fop_l h3.out, fop_r e1, fop_l e2, fop_r e2]; rfl
              have hall : allP finB [r1, r2, r4] = (finB (chiE N sh) && (finB (chiZ N cc sh) && finB (chiP N cc sh))) := by
                rw [← e1, ← e2, ← e4, finB_cn, finB_cn, finB_cn]
                simp [allP]
              have HB2 := Lib.hid (below_drewN ((below_drewN HB'.out (q1 + q2 + q3 + q4)).alloc HB'.out.size (.cells #[.float .f32 r1, .float .f32 r2, .float .f32 r4] 45)) q5)
              cases hfin : allP finB [r1, r2, r4] with
              | false =>
                have hno : finB (chiSum (floatOfInt .f32 (sumN xs)) xs ys 0) = false := by
                  cases hc : finB (chiSum (floatOfInt .f32 (sumN xs)) xs ys 0) with
                  | false => rfl
                  | true =>
                    have hp := Hpt.out (by rw [HN.out, Hq.out]; exact hc)
                    have hez := chiP_fin hp
                    rw [hall, hp, hez.1, hez.2] at hfin
                    cases hfin
                have Hn := Lib.hid (chiOf_inf hno)
                clear hfin hall hno e1 e2 e4
                go_wp2
                go_ret2
                exact gaveFBn Hn.out HB2.out
              | true =>
                have E4 := Lib.hid e4
                clear hfin hall e1 e2 e4
                go_wp2_with (refine wpList_fop _ rfl .add _ _ _ _ rfl rfl .f32 _ _ rfl rfl ?_; intro r5 q6 h5)
                have hnx : Hid (chiSum N xs ys 0 = chiSum N (xs.drop (k + 1)) (ys.drop (k + 1)) (cn .f32 r5)) := by
                  show _ = _
                  rw [hch.out, Hst.out, h5.out, fop_r E4.out]
                  congr 1
                  rw [← fop_cn .add .f32 r, ← fop_cn .add .f32 (cn .f32 r), cn_cn]
                go_roundw
                case rel => exact ⟨k + 1, r5, by omega, by go_num, rfl, hnx, ⟨HB2.out.os, HB2.out.tape, HB2.out.output, HB2.out.size, HB2.out.block⟩⟩
                case measure => simp only [intOf]; omega
            · obtain rfl : k = xs.length := by omega
              have hend : Hid (chiSum (floatOfInt .f32 q) xs ys 0 = cn .f32 r) := by show _ = _; rw [hch.out]; exact chiSum_end (Nat.le_refl _) _
              clear hch
              by_cases hq0 : q = 0
              · have Hn := Lib.hid (chiOf_zero (ss := ys) (Hq.out.symm.trans hq0))
                subst hq0
                go_wp2
                go_ret2
                exact gaveFBn Hn.out HB'.out
              · have hq1 : (q == 0) = false := by simpa using hq0
                go_wp2_with fail
                refine (checked_any _ _).mono ?_
                rintro e w2 ⟨hor, q3, rfl⟩
                have hfr : finB r = finB (chiSum (floatOfInt .f32 (sumN xs)) xs ys 0) := by rw [← Hq.out, hend.out, finB_cn]
                rcases hor with ⟨hf, rfl⟩ | ⟨hf, rfl⟩
                · have Hn := Lib.hid (chiOf_yes Hin.out Hlen.out Hpos.out Hc.out (fun e => hq0 (Hq.out.trans e)) (hfr.symm.trans hf))
                  clear hf hfr hq1 hq0
                  go_wp2
                  go_ret2
                  exact gaveFBs Hn.out (by rw [← Hq.out, hend.out]) (below_drewN HB'.out q3)
                · have Hn := Lib.hid (chiOf_inf (cs := xs) (ss := ys) (hfr.symm.trans hf))
                  clear hf hfr hq1 hq0
                  go_wp2
                  go_ret2
                  exact gaveFBn Hn.out (below_drewN HB'.out q3)
  · have hne : (((ys.length : Nat) : Int) != ((xs.length : Nat) : Int)) = true := by simp; omega
    have Hn := Lib.hid (chiOf_ne hlen)
    clear hlen
    go_enter Try.func16, Try.ntmps16
    go_wp2
    go_ret2
    exact gaveFBn Hn.out (Below.refl _ _)
end Go.Proofs.Ytlgpcojoonnlbaa
