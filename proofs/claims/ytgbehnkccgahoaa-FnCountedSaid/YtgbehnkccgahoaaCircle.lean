/- CirclePoint: a point of the circle. -/
import Derived.Test.YtgbehnkccgahoaaPhasor
import Derived.Test.YtgbehnkccgahoaaWait
namespace Go.Proofs.Ytgbehnkccgahoaa
open Go.RowKit Mag
set_option maxRecDepth 100000
def circleSeed (s : Sd) : Option (Sd × Nat × Nat) := if validB s then some (nextSd s, phRe (widen (shareOf s)), phIm (widen (shareOf s))) else none
theorem cn_phRe (t : Nat) : cn .f32 (phRe t) = phRe t := cn_narrow _
theorem cn_phIm (t : Nat) : cn .f32 (phIm t) = phIm t := cn_narrow _
end Go.Proofs.Ytgbehnkccgahoaa
