/- The walk of the statement FnExactStreamSeed, whole. -/
import Derived.Test.YtbfofbpjdmgogaaLawStreamSeed
import Derived.Test.YtbfofbpjdmgogaaStream
namespace Go.Proofs.Ytbfofbpjdmgogaa
open Go.RowKit
theorem walk_StreamSeed
    (w : World) (k_aS a_aS b_aS : Int) (hf_aS : Sd.ok ⟨k_aS, a_aS, b_aS⟩) (A_aList : Option Addr) (n_aList c_aList : Nat) (xs_aList : List Int) (h_aList : Rd w w.heap.size A_aList n_aList (i64s xs_aList)) (hn_aList : n_aList ≤ maxLen) (hf_aList : Fit xs_aList) (n_aK : Int) (hf_aK : -9223372036854775808 ≤ n_aK ∧ n_aK ≤ 9223372036854775807) :
    Calls Try.prog 10 #[.agg #[.int .i64 k_aS, .int .u64 a_aS, .int .u64 b_aS], .slice A_aList n_aList c_aList, .int .i64 n_aK] w fun e w' => e = .returned (.bool true) ∧ Below w.heap.size w w' :=
  law_StreamSeed streamSeed specStream_any implStream_any stream_short w k_aS a_aS b_aS hf_aS A_aList n_aList c_aList xs_aList h_aList hn_aList hf_aList n_aK hf_aK
end Go.Proofs.Ytbfofbpjdmgogaa
