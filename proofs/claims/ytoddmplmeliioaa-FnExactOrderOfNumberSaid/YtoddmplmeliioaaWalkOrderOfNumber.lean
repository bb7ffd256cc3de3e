/- The walk of the statement FnExactOrderOfNumber, whole. -/
import Derived.Test.YtoddmplmeliioaaLawOrderOfNumber
import Derived.Test.YtoddmplmeliioaaOrderNum
namespace Go.Proofs.Ytoddmplmeliioaa
open Go.RowKit
theorem walk_OrderOfNumber
    (w : World) (n_aN : Int) (hf_aN : -9223372036854775808 ≤ n_aN ∧ n_aN ≤ 9223372036854775807) (n_aK : Int) (hf_aK : -9223372036854775808 ≤ n_aK ∧ n_aK ≤ 9223372036854775807) :
    Calls Try.prog 9 #[.int .i64 n_aN, .int .i64 n_aK] w fun e w' => e = .returned (.bool true) ∧ Below w.heap.size w w' :=
  law_OrderOfNumber orderOfNumber specOrderOfNumber implOrderOfNumber orderOfNumber_short w n_aN hf_aN n_aK hf_aK
end Go.Proofs.Ytoddmplmeliioaa
