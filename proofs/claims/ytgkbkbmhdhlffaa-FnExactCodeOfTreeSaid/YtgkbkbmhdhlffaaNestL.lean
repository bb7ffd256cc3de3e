/- Lists of lists: marks laid and held. -/
import Derived.Test.YtgkbkbmhdhlffaaNest
namespace Go.Proofs.Ytgkbkbmhdhlffaa
open Go.RowKit
/-- How many numbers all lists have. -/
def total : List (List Int) → Nat
  | [] => 0
  | L :: Ls => L.length + total Ls
def marksLL (k0 : Nat) : List (List Int) → List (List Int)
  | [] => []
  | L :: Ls => marks k0 L.length :: marksLL (k0 + L.length) Ls
theorem marksLL_len (k0 : Nat) (Ls : List (List Int)) : (marksLL k0 Ls).length = Ls.length := by
  induction Ls generalizing k0 with
  | nil => rfl
  | cons L Ls ih => rw [marksLL, List.length_cons, ih, List.length_cons]
theorem total_take {Ls : List (List Int)} {k : Nat} {L : List Int} (h : Ls[k]? = some L) : total (Ls.take (k + 1)) = total (Ls.take k) + L.length := by
  induction Ls generalizing k with
  | nil => simp at h
  | cons L' Ls ih =>
    cases k with
    | zero =>
      simp only [List.getElem?_cons_zero, Option.some.injEq] at h
      subst h
      simp [total]
    | succ k =>
      rw [List.getElem?_cons_succ] at h
      simp only [List.take_succ_cons, total, ih h]
      omega
theorem total_take_le (Ls : List (List Int)) (k : Nat) : total (Ls.take k) ≤ total Ls := by
  induction Ls generalizing k with
  | nil => simp
  | cons L Ls ih =>
    cases k with
    | zero => simp [total]
    | succ k => simp only [List.take_succ_cons, total]; have := ih k; omega
theorem total_at {Ls : List (List Int)} {k : Nat} {L : List Int} (h : Ls[k]? = some L) : L.length ≤ total Ls := by
  have h1 := total_take h
  have h2 := total_take_le Ls (k + 1)
  omega
theorem marksLL_get {Ls : List (List Int)} {k : Nat} {L : List Int} (k0 : Nat) (h : Ls[k]? = some L) : (marksLL k0 Ls)[k]? = some (marks (k0 + total (Ls.take k)) L.length) := by
  induction Ls generalizing k k0 with
  | nil => simp at h
  | cons L' Ls ih =>
    cases k with
    | zero =>
      simp only [List.getElem?_cons_zero, Option.some.injEq] at h
      subst h
      simp [marksLL, total]
    | succ k =>
      rw [List.getElem?_cons_succ] at h
      rw [marksLL, List.getElem?_cons_succ, ih _ h, List.take_succ_cons, total, Nat.add_assoc]
theorem total_marks (k0 : Nat) (Ls : List (List Int)) : total (marksLL k0 Ls) = total Ls := by
  induction Ls generalizing k0 with
  | nil => rfl
  | cons L Ls ih => rw [marksLL, total, ih, total, marks_len]
theorem mixed_get {Ls : List (List Int)} {k : Nat} {L : List Int} (k0 : Nat) (h : Ls[k]? = some L) : ((marksLL k0 Ls).take k ++ Ls.drop k)[k]? = some L := by
  have hk := (List.getElem?_eq_some_iff.1 h).1
  rw [List.getElem?_append_right (by rw [List.length_take, marksLL_len]; omega), List.length_take, marksLL_len, List.getElem?_drop]
  rw [show k + (k - min k Ls.length) = k by omega]
  exact h
theorem mixed_set {Ls : List (List Int)} {k : Nat} {L : List Int} (k0 : Nat) (h : Ls[k]? = some L) : ((marksLL k0 Ls).take k ++ Ls.drop k).set k (marks (k0 + total (Ls.take k)) L.length) = (marksLL k0 Ls).take (k + 1) ++ Ls.drop (k + 1) := by
  have hk := (List.getElem?_eq_some_iff.1 h).1
  rw [take_succ_of (marksLL_get k0 h), List.drop_eq_getElem_cons hk, List.append_assoc, List.singleton_append]
  exact set_append_here _ _ _ _ _ (by rw [List.length_take, marksLL_len]; omega)
set_option maxHeartbeats 1000000 in
theorem markLL_any (A : Option Addr) (n c b k0 : Nat) (P : Nat → Prop) (Ls : List (List Int)) (w : World) (h : OwnLL w P b (.slice A n c) Ls) (hn : Ls.length ≤ 100000) (hm : total Ls ≤ 1000000) (hk0 : k0 ≤ 1000000) :
    Calls Try.prog 17 #[.slice A n c, .int .i64 k0] w fun e w' => e = .returned (.int .i64 ((k0 + total Ls : Nat) : Int)) ∧ OwnLL w' P b (.slice A n c) (marksLL k0 Ls) ∧ Chg P w w' := by
  obtain ⟨_, _, e1, _⟩ := h.shape
  simp only [Value.slice.injEq] at e1
  obtain ⟨-, rfl, -⟩ := e1
  obtain ⟨vs, h⟩ := h
  have H := Lib.hid h
  clear h
  go_enter Try.func17, Try.ntmps17
  go_wp2
  go_loopw [1, 5] (fun q i wr => ∃ k : Nat, k ≤ Ls.length ∧ i = .int .i64 k ∧ q = .int .i64 ((k0 + total (Ls.take k) : Nat) : Int) ∧ OwnVs wr P b (.slice A Ls.length c) vs ((marksLL k0 Ls).take k ++ Ls.drop k) ∧ Chg P w wr) (fun _ i _ => Ls.length - (intOf i).toNat)
  case atStart => exact ⟨0, Nat.zero_le _, rfl, by simp [total], by simpa using H.out, Chg.refl _⟩
  case round =>
    obtain ⟨k, hk, rfl, rfl, hO, hC⟩ := hrel
    have HO := Lib.hid hO; have HC := Lib.hid hC
    clear hO hC
    by_cases hlt : k < Ls.length
    · have hlt' : (k : Int) < (Ls.length : Int) := by omega
      obtain ⟨L, hL⟩ : ∃ L, Ls[k]? = some L := ⟨_, List.getElem?_eq_getElem hlt⟩
      obtain ⟨g, u, A1, c1, rfl, hu, rfl, hc1, ho1⟩ := HO.out.at_ (mixed_get k0 hL)
      have hl := total_at hL
      have ht := total_take_le Ls k
      have ht1 := total_take hL
      obtain ⟨s, hs⟩ : ∃ s, s = total (Ls.take k) := ⟨_, rfl⟩
      obtain ⟨m, hm'⟩ : ∃ m, m = L.length := ⟨_, rfl⟩
      have hset := mixed_set k0 hL
      rw [← hs, ← hm'] at hset
      rw [← hs] at ht ht1 ⊢
      rw [← hm'] at hl ht1 hc1 ho1
      have Hu := Lib.hid hu; have Ho1 := Lib.hid ho1; have Ht1 := Lib.hid ht1; have Hset := Lib.hid hset
      rw [← hm'] at Hu
      clear hu hL ho1 ht1 hset hs hm'
      go_wp2_with fail
      refine (markI_any A1 m c1 b (k0 + s) L _ Ho1.out (by omega) (by omega)).mono ?_
      rintro e w2 ⟨rfl, ho2, hg2⟩
      have HO2 := Lib.hid (HO.out.setAt Hu.out hg2 ho2)
      rw [Hset.out] at HO2
      have HC2 := Lib.hid (HC.out.trans (Chg.of_grown hg2 (fun j hj => HO.out.blks k _ Hu.out j hj)))
      clear ho2 hg2
      go_wp2
      go_roundw
      case rel => exact ⟨k + 1, by omega, by go_num, by rw [Ht1.out]; go_num, HO2.out, HC2.out⟩
      case measure => simp only [intOf]; omega
    · obtain rfl : k = Ls.length := by omega
      have hO := HO.out
      rw [List.drop_length, List.append_nil, List.take_of_length_le (by rw [marksLL_len]; exact Nat.le_refl _)] at hO
      have HO3 := Lib.hid hO
      clear hO HO
      have htk : total (Ls.take Ls.length) = total Ls := by rw [List.take_length]
      rw [htk]
      clear htk
      go_wp2
      go_ret
      exact ⟨rfl, ⟨vs, HO3.out⟩, HC.out⟩
set_option maxHeartbeats 1000000 in
theorem heldLL_any (A : Option Addr) (n c b k0 : Nat) (P : Nat → Prop) (Ls : List (List Int)) (w : World) (h : OwnLL w P b (.slice A n c) (marksLL k0 Ls)) (hn : Ls.length ≤ 100000) (hm : total Ls ≤ 1000000) (hk0 : k0 ≤ 1000000) :
    Calls Try.prog 18 #[.slice A n c, .int .i64 k0] w fun e w' => e = .returned (.int .i64 ((k0 + total Ls : Nat) : Int)) ∧ ∃ q, w' = w.drewN q := by
  obtain ⟨_, _, e1, _⟩ := h.shape
  simp only [Value.slice.injEq] at e1
  obtain ⟨-, hn', -⟩ := e1
  rw [marksLL_len] at hn'
  subst hn'
  obtain ⟨vs, h⟩ := h
  have H := Lib.hid h
  clear h
  go_enter Try.func18, Try.ntmps18
  go_wp2
  go_loopw [1, 5] (fun q i wr => ∃ k d : Nat, k ≤ Ls.length ∧ i = .int .i64 k ∧ q = .int .i64 ((k0 + total (Ls.take k) : Nat) : Int) ∧ wr = w.drewN d) (fun _ i _ => Ls.length - (intOf i).toNat)
  case atStart => exact ⟨0, 0, Nat.zero_le _, rfl, by simp [total], rfl⟩
  case round =>
    obtain ⟨k, d, hk, rfl, rfl, rfl⟩ := hrel
    by_cases hlt : k < Ls.length
    · have hlt' : (k : Int) < (Ls.length : Int) := by omega
      obtain ⟨L, hL⟩ : ∃ L, Ls[k]? = some L := ⟨_, List.getElem?_eq_getElem hlt⟩
      obtain ⟨g, u, A1, c1, rfl, hu, rfl, hc1, ho1⟩ := H.out.at_ (marksLL_get k0 hL)
      have hl := total_at hL
      have ht := total_take_le Ls k
      have ht1 := total_take hL
      obtain ⟨s, hs⟩ : ∃ s, s = total (Ls.take k) := ⟨_, rfl⟩
      obtain ⟨m, hm'⟩ : ∃ m, m = L.length := ⟨_, rfl⟩
      rw [← hs, ← hm'] at ho1
      rw [← hs] at ht ht1 ⊢
      rw [← hm'] at hl ht1 
      rw [marks_len] at hc1 ho1
      rw [← hm'] at hc1
      have Hr1 := Lib.hid ho1.rdI
      rw [marks_len] at Hr1
      have Ht1 := Lib.hid ht1
      clear hu hL ho1 ht1 hs hm'
      go_wp2_with fail
      refine (heldI_any A1 m c1 _ (k0 + s) _ (Hr1.out.drewN d) (by omega) (by omega)).mono ?_
      rintro e w2 ⟨rfl, q, rfl⟩
      have hge : ¬ ((k0 + s + m : Nat) : Int) < 0 := by omega
      go_wp2
      go_roundw
      case rel => exact ⟨k + 1, _, by omega, by go_num, by rw [Ht1.out]; go_num, rfl⟩
      case measure => simp only [intOf]; omega
    · obtain rfl : k = Ls.length := by omega
      have htk : total (Ls.take Ls.length) = total Ls := by rw [List.take_length]
      rw [htk]
      clear htk
      go_wp2
      go_ret
      exact ⟨rfl, _, rfl⟩
end Go.Proofs.Ytgkbkbmhdhlffaa
