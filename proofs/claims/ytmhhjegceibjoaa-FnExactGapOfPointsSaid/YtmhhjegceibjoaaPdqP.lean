/- The plain law of the pattern-defeating quicksort's rounds. -/
import Derived.Test.YtmhhjegceibjoaaPartJ
namespace Go.Proofs.Ytmhhjegceibjoaa
open Go.RowKit
/-- Of the places from a up to b only those from a' up to b' are left to be put in order. -/
structure St (a b : Nat) (xs : List Nat) (a' b' : Nat) (zs : List Nat) : Prop where
  sw : Sw a b xs zs
  out : ∀ p q, a ≤ p → p ≤ q → q < b → p < a' ∨ b' ≤ q → kA zs p ≤ kA zs q
  lb : Lb a' b' zs
theorem St.start {a b : Nat} {xs : List Nat} (h : Lb a b xs) : St a b xs a b xs := ⟨Sw.refl _ _ _, fun p q h1 h2 h3 h4 => by omega, h⟩
theorem St.more {a b a' b' : Nat} {xs ys zs : List Nat} (h : St a b xs a' b' ys) (hs : Sw a' b' ys zs) (ha : a ≤ a') (hb : b' ≤ b) (hl : b ≤ ys.length) : St a b xs a' b' zs := by
  refine ⟨h.sw.trans (hs.weak ha hb), fun p q h1 h2 h3 h4 => ?_, h.lb.sw hs (by omega)⟩
  by_cases hp : a' ≤ p ∧ p < b'
  · obtain ⟨j, j1, j2, e⟩ := hs.from_ (by omega) hp.1 hp.2
    have hq : zs.getD q 0 = ys.getD q 0 := hs.out q (by omega)
    unfold kA
    rw [e, hq]
    exact h.out j q (by omega) (by omega) h3 (by omega)
  · have hpe : zs.getD p 0 = ys.getD p 0 := hs.out p (by omega)
    by_cases hq : a' ≤ q ∧ q < b'
    · obtain ⟨j, j1, j2, e⟩ := hs.from_ (by omega) hq.1 hq.2
      unfold kA
      rw [e, hpe]
      exact h.out p j h1 (by omega) (by omega) (by omega)
    · have hqe : zs.getD q 0 = ys.getD q 0 := hs.out q (by omega)
      unfold kA
      rw [hpe, hqe]
      exact h.out p q h1 h2 h3 h4
theorem St.end_ {a b a' b' : Nat} {xs zs : List Nat} (h : St a b xs a' b' zs) (hs : Srt a' b' zs) : Srt a b zs := fun p q h1 h2 h3 => by
  by_cases c : p < a' ∨ b' ≤ q
  · exact h.out p q h1 h2 h3 c
  · exact hs p q (by omega) h2 (by omega)
theorem St.eq {a b a' b' m : Nat} {xs zs : List Nat} (h : St a b xs a' b' zs) (ha : a ≤ a') (hm : a' < m) (hp : ∀ q q', a' ≤ q → q < m → q ≤ q' → q' < b' → kA zs q ≤ kA zs q') : St a b xs m b' zs := by
  refine ⟨h.sw, fun p q h1 h2 h3 h4 => ?_, fun i h0 h1 h2 => hp (m - 1) i (by omega) (by omega) (by omega) h2⟩
  by_cases c : p < a' ∨ b' ≤ q
  · exact h.out p q h1 h2 h3 c
  · exact hp p q (by omega) (by omega) h2 (by omega)
theorem St.left {a b a' b' m : Nat} {xs zs us : List Nat} (h : St a b xs a' b' zs) (ha : a ≤ a') (hm : a' ≤ m) (hmb : m < b') (hb : b' ≤ b) (hl : b ≤ zs.length) (hc : Cut a' b' m zs) (hs : Sw a' m zs us) (ht : Srt a' m us) : St a b xs (m + 1) b' us := by
  have hr := h.more (hs.weak (Nat.le_refl _) (by omega)) ha hb hl
  have hall := hs.all (by omega) (P := fun x => KV .f32 x ≤ kA zs m) (fun i i1 i2 => hc.1 i i1 i2)
  have hout : ∀ q, m ≤ q → kA us q = kA zs q := fun q hq => by unfold kA; rw [hs.out q (by omega)]
  refine ⟨hr.sw, fun p q h1 h2 h3 h4 => ?_, fun i h0 h1 h2 => ?_⟩
  · by_cases c : p < a' ∨ b' ≤ q
    · exact hr.out p q h1 h2 h3 c
    · by_cases cp : p < m
      · by_cases cq : q < m
        · exact ht p q (by omega) h2 cq
        · have h5 : kA us p ≤ kA zs m := hall p (by omega) cp
          rw [hout q (by omega)]
          by_cases e : q = m
          · rw [e]; exact h5
          · exact Int.le_trans h5 (hc.2 q (by omega) (by omega))
      · have e : p = m := by omega
        rw [e, hout m (Nat.le_refl _), hout q (by omega)]
        by_cases e2 : q = m
        · rw [e2]; exact Int.le_refl _
        · exact hc.2 q (by omega) (by omega)
  · rw [Nat.add_sub_cancel, hout m (Nat.le_refl _), hout i (by omega)]
    exact hc.2 i (by omega) h2
theorem St.right {a b a' b' m : Nat} {xs zs us : List Nat} (h : St a b xs a' b' zs) (ha : a ≤ a') (hm : a' ≤ m) (hmb : m < b') (hb : b' ≤ b) (hl : b ≤ zs.length) (hc : Cut a' b' m zs) (hs : Sw (m + 1) b' zs us) (ht : Srt (m + 1) b' us) : St a b xs a' m us := by
  have hr := h.more (hs.weak (by omega) (Nat.le_refl _)) ha hb hl
  have hall := hs.all (by omega) (P := fun x => kA zs m ≤ KV .f32 x) (fun i i1 i2 => hc.2 i (by omega) i2)
  have hout : ∀ q, q ≤ m → kA us q = kA zs q := fun q hq => by unfold kA; rw [hs.out q (by omega)]
  refine ⟨hr.sw, fun p q h1 h2 h3 h4 => ?_, fun i h0 h1 h2 => hr.lb i h0 h1 (by omega)⟩
  by_cases c : p < a' ∨ b' ≤ q
  · exact hr.out p q h1 h2 h3 c
  · by_cases cp : p ≤ m
    · by_cases cq : q = m
      · rw [hout p cp, hout q (by omega), cq]
        by_cases e : p = m
        · rw [e]; exact Int.le_refl _
        · exact hc.1 p (by omega) (by omega)
      · have h5 : kA zs m ≤ kA us q := hall q (by omega) (by omega)
        rw [hout p cp]
        by_cases e : p = m
        · rw [e]; exact h5
        · exact Int.le_trans (hc.1 p (by omega) (by omega)) h5
    · exact ht p q (by omega) h2 (by omega)
theorem St.lbR {a b a' b' m : Nat} {xs zs : List Nat} (_ : St a b xs a' b' zs) (hc : Cut a' b' m zs) : Lb (m + 1) b' zs := fun i h0 h1 h2 => by rw [Nat.add_sub_cancel]; exact hc.2 i (by omega) h2
theorem St.lbL {a b a' b' m : Nat} {xs zs : List Nat} (h : St a b xs a' b' zs) (hm : m ≤ b') : Lb a' m zs := fun i h0 h1 h2 => h.lb i h0 h1 (by omega)
end Go.Proofs.Ytmhhjegceibjoaa
