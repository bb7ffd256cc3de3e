/- The walk of the statement FnExactWordsOf, whole. -/
import Derived.Test.YtbfofbpjdmgogaaLawWordsOf
import Derived.Test.YtbfofbpjdmgogaaWordsOf
namespace Go.Proofs.Ytbfofbpjdmgogaa
open Go.RowKit
theorem walk_WordsOf
    (w : World) (k_aS a_aS b_aS : Int) (hf_aS : Sd.ok ⟨k_aS, a_aS, b_aS⟩) (n_aCount : Int) (hf_aCount : -9223372036854775808 ≤ n_aCount ∧ n_aCount ≤ 9223372036854775807) :
    Calls Try.prog 3 #[.agg #[.int .i64 k_aS, .int .u64 a_aS, .int .u64 b_aS], .int .i64 n_aCount] w fun e w' => e = .returned (.bool true) ∧ Below w.heap.size w w' :=
  law_WordsOf wordsOf specWordsOf_any implWordsOf_any wordsOf_short w k_aS a_aS b_aS hf_aS n_aCount hf_aCount
end Go.Proofs.Ytbfofbpjdmgogaa
