/- impl.isJoined: whether the edges join all numbers. -/
import Derived.Test.YtgkbkbmhdhlffaaJoinP
import Derived.Test.YtgkbkbmhdhlffaaIndex
namespace Go.Proofs.Ytgkbkbmhdhlffaa
open Go.RowKit
theorem own_oneI (w : World) (x : Int) {base : Nat} (hb : base ≤ w.heap.size) : Own (w.alloc (.cells #[.int .i64 x] 2)) base 2 (.slice (some ⟨w.heap.size, 0, none⟩) 1 1) (i64s [x]) :=
  ⟨by simp [i64s], .inr ⟨w.heap.size, 1, #[.int .i64 x], rfl, hb, heap_alloc_new w _, by simp [i64s], by unfold maxLen; omega, by simp, by simp [i64s]⟩⟩
set_option maxHeartbeats 4000000 in
theorem joined_any (A : Option Addr) (n c B : Nat) (E : List Ed) (m : Nat) (w : World) (h : Rd w B A n (i64s (flatI E))) (hB : B ≤ w.heap.size) (hE : EdOk E m) (hl : E.length ≤ 256) (h1 : 1 ≤ m) (h2 : m ≤ 64) :
    Calls Try.prog 31 #[.slice A n c, .int .i64 m] w fun e w' => ∃ b, e = .returned (.bool b) ∧ (b = true ↔ Conn E (List.range m)) ∧ Below w.heap.size w w' := by
  have hln := h.lenI
  obtain rfl : (flatI E).length = n := hln.out
  have hN : Hid ((flatI E).length = 2 * E.length) := flatI_len E
  obtain ⟨N, hNe⟩ : ∃ N, N = (flatI E).length := ⟨_, rfl⟩
  have hNe' := Lib.hid hNe
  rw [← hNe] at h ⊢
  clear hNe hln
  have hN2 : Hid (N = 2 * E.length) := hNe'.out.trans hN.out
  have hN5 : N ≤ 512 := by have := hN2.out; omega
  have HR := Lib.hid h
  have HE := Lib.hid hE
  clear h hE hN
  go_enter Try.func31, Try.ntmps31
  go_wp2
  go_loopw [5, 6] (fun rv i wr => ∃ (k : Nat) (L : List Int), k ≤ L.length ∧ i = .int .i64 k ∧ Hid (Reach E m L) ∧ Hid (∀ j, j < k → ∀ x, L[j]? = some x → Shut E L x N) ∧ Own wr w.heap.size 2 rv (i64s L) ∧ Below w.heap.size w wr) (fun _ i _ => 64 - (intOf i).toNat)
  case atStart => exact ⟨0, [0], Nat.zero_le _, rfl, reach_0 h1, fun j hj => absurd hj (by omega), own_oneI w 0 (Nat.le_refl _), (Below.refl _ _).alloc (Nat.le_refl _) _⟩
  case round =>
    obtain ⟨k, L, hk, rfl, hRe, hSh, hO, hbel⟩ := hrel
    have hLm : L.length ≤ 64 := by have := hRe.out.len; omega
    obtain ⟨Ar, cr, rfl, hcap⟩ := hO.shapeI
    have HO := Lib.hid hO; have HB := Lib.hid hbel
    have hs := hbel.size
    clear hO hbel
    by_cases hlt : k < L.length
    · have hlt' : (k : Int) < (L.length : Int) := by omega
      obtain ⟨xk, hxk⟩ : ∃ xk, L[k]? = some xk := ⟨_, List.getElem?_eq_getElem hlt⟩
      have Hxk := Lib.hid hxk
      have Hkm := Lib.hid (List.mem_iff_getElem?.2 ⟨k, hxk⟩)
      clear hxk
      go_wp2
      go_loopw [5, 19] (fun rv i wi => ∃ (q : Nat) (M : List Int), q ≤ N ∧ i = .int .i64 q ∧ L.length ≤ M.length ∧ Hid (∀ y ∈ L, y ∈ M) ∧ Hid (∀ j, j < L.length → M[j]? = L[j]?) ∧ Hid (Reach E m M) ∧ Hid (Shut E M xk q) ∧ Own wi w.heap.size 2 rv (i64s M) ∧ Below w.heap.size w wi) (fun _ i _ => N - (intOf i).toNat)
      case atStart => exact ⟨0, L, Nat.zero_le _, rfl, Nat.le_refl _, fun y hy => hy, fun _ _ => rfl, hRe, fun j hj => absurd hj (by omega), HO.out, HB.out⟩
      case round =>
        obtain ⟨q, M, hq, rfl, hLM, hsub, hpre, hReM, hShM, hO, hbel⟩ := hrel
        have hMm : M.length ≤ 64 := by have := hReM.out.len; omega
        obtain ⟨AM, cM, rfl, hcapM⟩ := hO.shapeI
        have hs2 := hbel.size
        have HOM := Lib.hid hO; have HBM := Lib.hid hbel
        clear hO hbel HO HB hs
        by_cases hqt : q < N
        · have hqt' : (q : Int) < (N : Int) := by omega
          have hR2 := Lib.hid (HR.out.below HBM.out hB)
          have hfl : flipN q < N := by have := hN2.out; rw [this]; exact flip_lt (by omega)
          obtain ⟨b, off, x, hA, hbB, hx, hcx⟩ := hR2.out.atI (k := q) hqt
          obtain ⟨b2, off2, o, hA2, hbB2, ho, hco⟩ := hR2.out.atI (k := flipN q) hfl
          subst hA
          obtain ⟨rfl, rfl⟩ : b = b2 ∧ off = off2 := by simpa using hA2
          obtain ⟨g, y, hAM, hy, hcy, hfy⟩ := HOM.out.atI (k := k) (by omega)
          obtain rfl : y = xk := by have := hy.out; rw [hpre.out k hlt, Hxk.out] at this; exact (Option.some.inj this).symm
          subst hAM
          have hkM : (k : Int) < (M.length : Int) := by omega
          have hxor := xor1 q (by omega)
          have hflI : ((flipN q : Nat) : Int) < (N : Int) := by omega
          have hKm := Lib.hid (hsub.out _ Hkm.out)
          have Ho := Lib.hid ho.out
          have Hx := Lib.hid hx.out
          clear hA2 hy hx
          generalize flipN q = fq at hxor hflI hfl ho hco
          have hqw : IntKind.i64.wrap ((q : Int) + 1) = (q : Int) + 1 := IntWalk.i64_in _ (by omega)
          by_cases he : x = y
          · subst he
            go_wp2_with fail
            refine (contains_any _ M.length cM _ M o _ HOM.out.rdI (by omega)).mono ?_
            rintro e w1 ⟨rfl, rfl⟩
            by_cases hin : o ∈ M
            · rw [decide_eq_true hin]
              have hSn : Hid (Shut E M x (q + 1)) := hShM.out.next fun _ o' ho' => by rw [Ho.out] at ho'; obtain rfl := Option.some.inj ho'; exact hin
              clear hin hShM
              go_wp2
              go_roundw
              case rel => exact ⟨q + 1, M, by omega, by go_num, hLM, hsub, hpre, hReM, hSn, HOM.out, HBM.out⟩
              case measure => simp only [intOf]; omega
            · rw [decide_eq_false hin]
              have hRe2 := Lib.hid (hReM.out.step HE.out Hx.out Ho.out hKm.out hin)
              have hSn : Hid (Shut E (M ++ [o]) x (q + 1)) := (hShM.out.more fun y hy => List.mem_append_left _ hy).next fun _ o' ho' => by rw [Ho.out] at ho'; obtain rfl := Option.some.inj ho'; exact List.mem_append_right _ (List.mem_singleton.2 rfl)
              have hsub2 : Hid (∀ y ∈ L, y ∈ M ++ [o]) := fun y hy => List.mem_append_left _ (hsub.out y hy)
              have hpre2 : Hid (∀ j, j < L.length → (M ++ [o])[j]? = L[j]?) := fun j hj => by rw [List.getElem?_append_left (by omega)]; exact hpre.out j hj
              clear hin hShM hReM hsub hpre
              go_wp2_with (at_builtin; go_must (refine emitI w1 rfl _ _ rfl w.heap.size (.slice (some ⟨g, 0, none⟩) M.length cM) M rfl HOM.out o rfl ?c1 hs2 ?_))
              case c1 => omega
              intro v' w3 hO' hg hor
              have hB' := below_ownGrown HBM.out HOM.out hg (Nat.le_refl _) (Nat.le_refl _)
              have HO' := Lib.hid hO'; have HB' := Lib.hid hB'
              clear hO' hg hor hB'
              go_wp2
              go_roundw
              case rel => exact ⟨q + 1, M ++ [o], by omega, by go_num, by rw [List.length_append]; omega, hsub2, hpre2, hRe2, hSn, HO'.out, HB'.out⟩
              case measure => simp only [intOf]; omega
          · have hSn : Hid (Shut E M y (q + 1)) := hShM.out.next fun hx' => by rw [Hx.out] at hx'; exact absurd (Option.some.inj hx') he
            have hb : (x == y) = false := by rw [beq_eq_false_iff_ne]; exact he
            clear hShM he
            go_wp2
            go_roundw
            case rel => exact ⟨q + 1, M, by omega, by go_num, hLM, hsub, hpre, hReM, hSn, HOM.out, HBM.out⟩
            case measure => simp only [intOf]; omega
        · obtain rfl : q = N := by omega
          have hSh2 : Hid (∀ j, j < k + 1 → ∀ x, M[j]? = some x → Shut E M x q) := by
            intro j hj x hx
            rcases Nat.lt_succ_iff_lt_or_eq.1 hj with h3 | rfl
            · rw [hpre.out j (by omega)] at hx
              exact (hSh.out j h3 x hx).more hsub.out
            · rw [hpre.out j hlt, Hxk.out] at hx
              obtain rfl := Option.some.inj hx
              exact hShM.out
          clear hSh hShM
          go_wp2
          go_roundw
          case rel => exact ⟨k + 1, M, by omega, by go_num, hReM, hSh2, HOM.out, HBM.out⟩
          case measure => simp only [intOf]; omega
    · obtain rfl : k = L.length := by omega
      have hc : Hid (L.length = m ↔ Conn E (List.range m)) := hRe.out.conn HE.out h1 fun x hx => by
        obtain ⟨j, hj⟩ := List.mem_iff_getElem?.1 hx
        have := hSh.out j (List.getElem?_eq_some_iff.1 hj).1 x hj
        rw [hNe'.out] at this
        exact this
      clear hSh hRe
      go_wp2
      go_ret
      refine ⟨decide (L.length = m), ?_, ?_, HB.out⟩
      · have hbq : ((L.length : Int) == (m : Int)) = decide (L.length = m) := by
          rw [Bool.eq_iff_iff]
          simp
          omega
        exact ret_bool hbq
      · rw [decide_eq_true_eq]; exact hc.out
end Go.Proofs.Ytgkbkbmhdhlffaa
