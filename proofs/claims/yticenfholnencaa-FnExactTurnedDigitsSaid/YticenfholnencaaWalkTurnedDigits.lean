/- The walk of the statement FnExactTurnedDigits, whole. -/
import Derived.Test.YticenfholnencaaLawTurnedDigits
import Derived.Test.YticenfholnencaaTurned
namespace Go.Proofs.Yticenfholnencaa
open Go.RowKit
theorem walk_TurnedDigits
    (w : World) (n_aN : Int) (hf_aN : -9223372036854775808 ≤ n_aN ∧ n_aN ≤ 9223372036854775807) (n_aBase : Int) (hf_aBase : -9223372036854775808 ≤ n_aBase ∧ n_aBase ≤ 9223372036854775807) (A_aDigits : Option Addr) (n_aDigits c_aDigits : Nat) (xs_aDigits : List Int) (h_aDigits : Rd w w.heap.size A_aDigits n_aDigits (i64s xs_aDigits)) (hn_aDigits : n_aDigits ≤ maxLen) (hf_aDigits : Fit xs_aDigits) :
    Calls Try.prog 12 #[.int .i64 n_aN, .int .i64 n_aBase, .slice A_aDigits n_aDigits c_aDigits] w fun e w' => e = .returned (.bool true) ∧ Below w.heap.size w w' :=
  law_TurnedDigits turnedDig specTurnedDig implTurnedDig w n_aN hf_aN n_aBase hf_aBase A_aDigits n_aDigits c_aDigits xs_aDigits h_aDigits hn_aDigits hf_aDigits
end Go.Proofs.Yticenfholnencaa
