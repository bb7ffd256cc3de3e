/- The walk of the statement FnExactMeetingsIn, whole. -/
import Derived.Test.YtgkbkbmhdhlffaaLawMeetingsIn
import Derived.Test.YtgkbkbmhdhlffaaMeetJ
namespace Go.Proofs.Ytgkbkbmhdhlffaa
open Go.RowKit
theorem walk_MeetingsIn
    (w : World) (A_aWords : Option Addr) (n_aWords c_aWords : Nat) (xs_aWords : List Int) (h_aWords : Rd w w.heap.size A_aWords n_aWords (i64s xs_aWords)) (hn_aWords : n_aWords ≤ maxLen) (hf_aWords : Fit xs_aWords) (n_aSize : Int) (hf_aSize : -9223372036854775808 ≤ n_aSize ∧ n_aSize ≤ 9223372036854775807) :
    Calls Try.prog 3 #[.slice A_aWords n_aWords c_aWords, .int .i64 n_aSize] w fun e w' => e = .returned (.bool true) ∧ Below w.heap.size w w' :=
  law_MeetingsIn meetR specMeetings implMeetings w A_aWords n_aWords c_aWords xs_aWords h_aWords hn_aWords hf_aWords n_aSize hf_aSize
end Go.Proofs.Ytgkbkbmhdhlffaa
