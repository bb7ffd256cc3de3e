/- A number below n, drawn by the reference: parted. -/
import Derived.Test.YtgemcjcghnpmdaaTried
import Derived.Test.YtgemcjcghnpmdaaValid
namespace Go.Proofs.Ytgemcjcghnpmdaa
open Go.RowKit
theorem specTried2 (s : Sd) (g : Nat) (n : Int) (w : World) (hs : s.ok) (hn : 1 ≤ n ∧ n ≤ 4294967296) (hg : SeedAt w g s) :
    Calls Try.prog 54 #[.pointer (some ⟨g, 0, none⟩), .int .i64 n] w fun e w' =>
      ((tried n 64 s = none ∧ ∃ x, e = .returned (.tuple #[.int .i64 x, .bool false])) ∨ (∃ t x, tried n 64 s = some (t, x) ∧ e = .returned (.tuple #[.int .i64 x, .bool true]) ∧ SeedAt w' g t)) ∧ w.grownBy w' (some g) := by
  refine (specTried_any s g n w hs hn hg).mono ?_
  rintro e w' ⟨x, ok, rfl, hok, hx, ⟨s', hg', _, hs3⟩, hgr⟩
  refine ⟨?_, hgr⟩
  cases ht : tried n 64 s with
  | none =>
    rw [ht] at hok
    obtain rfl : ok = false := hok.out
    exact .inl ⟨rfl, x, rfl⟩
  | some r =>
    obtain ⟨t, y⟩ := r
    rw [ht] at hok hx hs3
    obtain rfl : ok = true := hok.out
    obtain rfl : x = y := hx.out
    obtain rfl : s' = t := hs3 rfl
    exact .inr ⟨s', x, rfl, rfl, hg'⟩
theorem tried_valid' {n : Int} {k : Nat} {s t : Sd} {x : Int} (hs : s.ok) (h : tried n k s = some (t, x)) : validB t = validB s := by
  induction k generalizing s with
  | zero => cases h
  | succ k ih =>
    unfold tried at h
    split at h
    · simp only [Option.some.injEq, Prod.mk.injEq] at h
      rw [← h.1, validB_next hs]
    · rw [ih (nextSd_ok hs) h, validB_next hs]
theorem belowS_ok' {s t : Sd} {n x : Int} (h : s.ok) (hb : belowS s n = some (t, x)) : t.ok := by
  unfold belowS at hb
  split at hb
  · exact tried_ok h hb
  · cases hb
end Go.Proofs.Ytgemcjcghnpmdaa
