/- 'TreeAdd' of the program and of the reference. -/
import Derived.Test.YtgemcjcghnpmdaaTreeSumW
namespace Go.Proofs.Ytgemcjcghnpmdaa
open Go.RowKit

/-- A tree in which a weight is greater. -/
def treeAdd (xs : List Int) (i b : Int) : Option (List Int) :=
  match treeLeaves xs with
  | some ws => if inB i 0 (xs.length - 1) = true ∧ inB b (-1000000) 1000000 = true then treeOfL (ws.set i.toNat (ws.getD i.toNat 0 + b)) else none
  | none => none
theorem treeAdd_short (xs : List Int) (i b : Int) (h : xs.length ≤ 1048576) : ((treeAdd xs i b).getD []).length ≤ 2000000 := by
  unfold treeAdd
  split
  · rename_i ws hws
    have := (treeLeaves_some hws).1
    split
    · exact treeOfL_short _ (by rw [List.length_set]; omega)
    · simp
  · simp
theorem areW_set {ws : List Int} (h : areW ws = true) {m : Nat} {x : Int} (hm : m < ws.length) : areW (ws.set m x) = inB x 0 1000000 := by
  obtain ⟨h1, h2, h3⟩ := areW_parts h
  have e1 : inB ((ws.set m x).length : Int) 1 64 = true := by rw [List.length_set]; exact inB_mk (by omega)
  unfold areW
  rw [e1]
  cases hx : inB x 0 1000000 with
  | true =>
    rw [allW_true]
    · rfl
    · intro k y hy
      rw [List.getElem?_set] at hy
      by_cases hkm : m = k
      · subst hkm
        simp [hm] at hy
        rw [← hy]; exact hx
      · rw [if_neg hkm] at hy
        rw [allW, List.all_eq_true] at h3
        exact h3 y (List.mem_of_getElem? hy)
  | false =>
    rw [allW_false (k := m) (x := x) _ hx]
    · rfl
    · simp [hm]

set_option maxHeartbeats 1000000 in
theorem implTreeAdd : FnLNN_LB 21 treeAdd := by
  intro A n c B xs i b w h hB hn hf hcap hi hb
  have hl := h.lenI
  obtain rfl : xs.length = n := hl.out
  clear hl
  cases hr : treeLeaves xs with
  | none =>
    have hno : Hid (treeAdd xs i b = none) := by show _ = _; unfold treeAdd; rw [hr]
    go_enter Try.func21, Try.ntmps21
    go_wp2_with fail
    refine (weightsOf_any A xs.length c B xs _ h hB hn).mono ?_
    rw [hr]
    rintro e w2 ⟨v, ok, ws, rfl, hok, -, ho, hb⟩
    obtain rfl : ok = false := hok.out
    have HB := Lib.hid hb
    clear hr ho hb hok
    go_wp2
    go_ret2
    exact ⟨_, _, rfl, by rw [hno.out]; rfl, by rw [hno.out]; exact own_none _ _ _, HB.out⟩
  | some ws =>
    obtain ⟨hwl, hwa⟩ := treeLeaves_some hr
    obtain ⟨h1, h64, hall⟩ := areW_parts hwa
    have hsum : Hid (treeAdd xs i b = if inB i 0 (xs.length - 1) = true ∧ inB b (-1000000) 1000000 = true then treeOfL (ws.set i.toNat (ws.getD i.toNat 0 + b)) else none) := by show _ = _; unfold treeAdd; rw [hr]
    have Hall := Lib.hid hall; have Hwl := Lib.hid hwl; have Hwa := Lib.hid hwa
    have h64' : xs.length ≤ 64 := by omega
    clear hwa hall hwl
    go_enter Try.func21, Try.ntmps21
    go_wp2_with fail
    refine (weightsOf_any A xs.length c B xs _ h hB hn).mono ?_
    rw [hr]
    rintro e w2 ⟨v, ok, ws', rfl, hok, hws, ho, hb'⟩
    obtain rfl : ok = true := hok.out
    obtain rfl : ws' = ws := by have := hws.out rfl; injection this
    obtain ⟨A2, c2, rfl, hc2⟩ := ho.shapeI
    have HB := Lib.hid hb'; have HO := Lib.hid ho
    have hs := hb'.size
    clear hr ho hb' hok hws
    by_cases hin : inB i 0 ((xs.length : Int) - 1) = true
    · have hbd := inB_true hin
      obtain ⟨m, rfl⟩ := Int.eq_ofNat_of_zero_le hbd.1
      have hmw : m < ws'.length := by have := Hwl.out; omega
      have hmw' : (m : Int) < (ws'.length : Int) := by omega
      have hin2 : inB (m : Int) 0 ((ws'.length : Int) - 1) = true := by rw [Hwl.out]; exact hin
      by_cases hinb : inB b (-1000000) 1000000 = true
      · have hyes : Hid (treeAdd xs m b = treeOfL (ws'.set m (ws'.getD m 0 + b))) := by show _ = _; rw [hsum.out, if_pos ⟨hin, hinb⟩]; rfl
        have hbb := inB_true hinb
        obtain ⟨g, x, hA2, hx, hcx, hfx⟩ := HO.out.atI hmw
        subst hA2
        have hxb : 0 ≤ x ∧ x ≤ 1000000 := by
          have := Hall.out
          rw [allW, List.all_eq_true] at this
          exact inB_true (this x (List.mem_of_getElem? hx.out))
        have hyes2 : Hid (treeAdd xs m b = treeOfL (ws'.set m (x + b))) := by show _ = _; rw [hyes.out, List.getD, hx.out]; rfl
        clear hyes hin
        go_wp2_with fail
        refine (within_any _ _ _ _).mono ?_
        rintro e w3 ⟨rfl, rfl⟩
        rw [hin2]
        go_wp2_with fail
        refine (within_any _ _ _ _).mono ?_
        rintro e w3 ⟨rfl, rfl⟩
        rw [hinb]
        clear hin2 hinb
        have hst := (HO.out.stored rfl m (x + b)).1
        have hb3 := HB.out.setCell (p := ⟨g, m, none⟩) (by have := HO.out.lt g rfl; exact this.1) (.int .i64 (x + b))
        have hrd := hst.rdI
        rw [List.length_set] at hrd
        have HB3 := Lib.hid hb3; have HRD := Lib.hid hrd
        have hs3 := hb3.size
        have hfit : Hid (Fit (ws'.set m (x + b))) := by
          intro y hy
          obtain ⟨k, hk⟩ := List.mem_iff_getElem?.1 hy
          rw [List.getElem?_set] at hk
          by_cases hkm : m = k
          · subst hkm
            simp [hmw] at hk
            omega
          · rw [if_neg hkm] at hk
            have := Hall.out
            rw [allW, List.all_eq_true] at this
            have := inB_true (this y (List.mem_of_getElem? hk))
            omega
        clear hst hb3 hrd
        go_wp2_with fail
        refine (implTreeOf _ ws'.length c2 _ (ws'.set m (x + b)) _ HRD.out (Nat.le_refl _) (by rw [List.length_set]; omega) hfit.out hc2.out).mono ?_
        rw [← hyes2.out]
        rintro e w4 ⟨v4, ok4, rfl, hok4, ho4, hb4⟩
        have HO4 := Lib.hid (ho4.base_le hs3); have HB4 := Lib.hid (HB3.out.trans (hb4.mono hs3))
        clear ho4 hb4
        go_wp2
        go_ret2
        exact ⟨_, _, rfl, hok4.out, HO4.out, HB4.out⟩
      · have hinb' : inB b (-1000000) 1000000 = false := by simpa using hinb
        have hno : Hid (treeAdd xs m b = none) := by show _ = _; rw [hsum.out, if_neg (fun h => hinb h.2)]
        clear hinb hin
        go_wp2_with fail
        refine (within_any _ _ _ _).mono ?_
        rintro e w3 ⟨rfl, rfl⟩
        rw [hin2]
        clear hin2
        go_wp2_with fail
        refine (within_any _ _ _ _).mono ?_
        rintro e w3 ⟨rfl, rfl⟩
        rw [hinb']
        go_wp2
        go_ret2
        exact ⟨_, _, rfl, by rw [hno.out]; rfl, by rw [hno.out]; exact own_none _ _ _, HB.out⟩
    · have hin' : inB i 0 ((ws'.length : Int) - 1) = false := by rw [Hwl.out]; simpa using hin
      have hno : Hid (treeAdd xs i b = none) := by show _ = _; rw [hsum.out, if_neg (fun h => hin h.1)]
      clear hin
      go_wp2_with fail
      refine (within_any _ _ _ _).mono ?_
      rintro e w3 ⟨rfl, rfl⟩
      rw [hin']
      go_wp2
      go_ret2
      exact ⟨_, _, rfl, by rw [hno.out]; rfl, by rw [hno.out]; exact own_none _ _ _, HB.out⟩
end Go.Proofs.Ytgemcjcghnpmdaa
