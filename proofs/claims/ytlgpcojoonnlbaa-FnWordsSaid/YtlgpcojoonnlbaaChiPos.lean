/- ChiOf at few counts and alike shares: it answers, and at least 0. -/
import Derived.Test.YtlgpcojoonnlbaaChi
import Derived.Test.YtlgpcojoonnlbaaLog
import Derived.Test.YtlgpcojoonnlbaaBump
namespace Go.Proofs.Ytlgpcojoonnlbaa
open Go.RowKit Mag
set_option maxRecDepth 100000
/-- One of d * d alike shares. -/
def shF (d : Nat) : Nat := fop .quo .f32 1065353216 (floatOfInt .f32 ((d * d : Nat) : Int))
theorem chiP_rn : ∀ d : Nat, d < 5 → ∀ n : Nat, n < 20 → ∀ c : Nat, c < 21 → rnB .f32 (0 : Nat) (1191182336 : Nat) (chiP (floatOfInt .f32 ((n + 1 : Nat) : Int)) (c : Int) (shF (d + 1))) = true := by decide +kernel
def kB (k : Nat) : Nat := floatOfInt .f32 ((k * 65536 : Nat) : Int)
theorem kB_chk : ∀ k : Nat, k < 26 → chkAdd .f32 (0 : Nat) (kB k) (0 : Nat) (1191182336 : Nat) (0 : Nat) (kB (k + 1)) = true := by decide +kernel
theorem shF_pos : ∀ d : Nat, d < 5 → posB (shF (d + 1)) = true := by decide +kernel
theorem shF_num : ∀ d : Nat, d < 5 → isNaNB .f32 (shF (d + 1)) = false := by decide +kernel
theorem kB_zero : Rn .f32 (0 : Nat) (kB 0) 0 := Rn.const (by decide +kernel)
theorem chiSum_rn {d n : Nat} (hd : d < 5) (hn : n < 20) : ∀ (cs : List Int) (m k a : Nat), (∀ c ∈ cs, 0 ≤ c ∧ c ≤ 20) → k + cs.length ≤ 26 → Rn .f32 (0 : Nat) (kB k) a → ∃ j, Rn .f32 (0 : Nat) (kB j) (chiSum (floatOfInt .f32 ((n + 1 : Nat) : Int)) cs (List.replicate m (shF (d + 1))) a) := by
  intro cs
  induction cs with
  | nil => intro m k a _ _ ha; exact ⟨k, ha⟩
  | cons c cs ih =>
    intro m k a hc hk ha
    cases m with
    | zero => exact ⟨k, ha⟩
    | succ m =>
      obtain ⟨h0, h1⟩ := hc c (List.mem_cons_self ..)
      obtain ⟨b, hb⟩ : ∃ b : Nat, c = b := ⟨c.toNat, by omega⟩
      have hp := Rn.const (chiP_rn d hd n hn b (by omega))
      rw [← hb] at hp
      have hk2 : k + 1 + cs.length ≤ 26 := by rw [List.length_cons] at hk; omega
      have hs := ha.add hp (kB_chk k (by omega))
      have hcs : ∀ c ∈ cs, 0 ≤ c ∧ c ≤ 20 := fun c h => hc c (List.mem_cons_of_mem _ h)
      rw [List.replicate_succ, chiSum]
      generalize fop .add .f32 a (chiP (floatOfInt .f32 ((n + 1 : Nat) : Int)) c (shF (d + 1))) = y at hs ⊢
      exact ih m (k + 1) y hcs hk2 hs
theorem countsB_few {cs : List Int} (h : ∀ c ∈ cs, 0 ≤ c ∧ c ≤ 20) : countsB cs = true :=
  countsB_true fun j c hj => inB_mk (by have := h c (List.mem_of_getElem? hj); omega)
theorem sumN_tot (cs : List Int) : sumN cs = totN cs := by
  have : ∀ (cs : List Int) (a : Int), cs.foldl (fun s x => s + x) a = a + totN cs := by
    intro cs
    induction cs with
    | nil => intro a; simp [totN]
    | cons x t ih => intro a; rw [List.foldl_cons, ih, totN]; omega
  rw [sumN, this]; omega
/-- It answers, and the answer is finite and at least 0. -/
theorem chi_few {d : Nat} {cs : List Int} (hd : 1 ≤ d ∧ d ≤ 5) (hl : cs.length = d * d) (hc : ∀ c ∈ cs, 0 ≤ c ∧ c ≤ 20) (ht : 1 ≤ totN cs ∧ totN cs ≤ 20) :
    ∃ x : Nat, chiOf cs (List.replicate (d * d) (shF d)) = some x ∧ FinK .f32 x ∧ fge .f32 x 0 = true := by
  obtain ⟨e, rfl⟩ : ∃ e, d = e + 1 := ⟨d - 1, by omega⟩
  obtain ⟨n, hn⟩ : ∃ n : Nat, totN cs = ((n + 1 : Nat) : Int) := ⟨(totN cs).toNat - 1, by omega⟩
  have h25 : (e + 1) * (e + 1) ≤ 5 * 5 := Nat.mul_le_mul (by omega) (by omega)
  have h1 : 1 * 1 ≤ (e + 1) * (e + 1) := Nat.mul_le_mul (by omega) (by omega)
  obtain ⟨j, hj⟩ := chiSum_rn (d := e) (n := n) (by omega) (by omega) cs ((e + 1) * (e + 1)) 0 0 hc (by omega) kB_zero
  refine ⟨_, chiOf_yes (inB_mk (by omega)) (by rw [List.length_replicate, hl]) ?_ (countsB_few hc) (by rw [sumN_tot]; omega) (by rw [sumN_tot, hn]; exact fin_of_FinK hj.1), by rw [sumN_tot, hn]; exact hj.1, ?_⟩
  · rw [allP, List.all_eq_true]
    intro x hx
    rw [List.eq_of_mem_replicate hx]
    exact shF_pos e (by omega)
  · rw [sumN_tot, hn]
    have h0 : Rn .f32 0 0 0 := Rn.const (by decide +kernel)
    rw [fge_KV hj.1 h0.1]
    have g1 := hj.2.1
    have g2 := h0.2
    exact decide_eq_true (by omega)
end Go.Proofs.Ytlgpcojoonnlbaa
