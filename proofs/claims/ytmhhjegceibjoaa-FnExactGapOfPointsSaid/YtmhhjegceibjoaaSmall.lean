/- Small functions on int64: bounds. -/
import Derived.Test.YtmhhjegceibjoaaBase
import Derived.Test.YtmhhjegceibjoaaProg
namespace Go.Proofs.Ytmhhjegceibjoaa
open Go.RowKit

/-- Whether n lies between two bounds: a name that the walk does not open. -/
def inB (n lo hi : Int) : Bool := decide (lo ≤ n ∧ n ≤ hi)
theorem inB_true {n lo hi : Int} (h : inB n lo hi = true) : lo ≤ n ∧ n ≤ hi := by simpa [inB] using h
theorem inB_false {n lo hi : Int} (h : inB n lo hi = false) : n < lo ∨ hi < n := by simp [inB] at h; omega
theorem inB_mk {n lo hi : Int} (h : lo ≤ n ∧ n ≤ hi) : inB n lo hi = true := by simp [inB, h]
theorem inB_not {n lo hi : Int} (h : n < lo ∨ hi < n) : inB n lo hi = false := by simp [inB]; omega

end Go.Proofs.Ytmhhjegceibjoaa
