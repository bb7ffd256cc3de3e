/-
  No cell of these rows narrows 'for every input' (looked for: loops, veiled, ifaces, maps, wideKeys, modest, calm, conditions, laid).
  DERIVED. THE GIVEN ROWS OF THIS SEAT. 8 by the template 'for every input the law returns true; each argument reads behind the call as it read before'; 0 by the template 'total and deterministic' (their statements: YtdofpnhmlhkoiaaTotals.lean).
  GIVEN WITH THE SEED: the statements are not yours to turn. If you find one false, say at which input.
  Laid BY PROGRAM, IN A SANDBOX (cutbox-rows.mjs): the forced cells as the released guide's own fill.sh prints them over the translation 0a735dca0a4f5457… (all of the seat's roots in one cut). By AI agents, Wed Nov 11 2026. No macro, syntax, notation, axiom, sorry.
-/
import Derived.Test.YtdofpnhmlhkoiaaChecked
import GoSem.Claim
import GoSem.ClaimJoined
import GoSem.ClaimMapViews
import Derived.JoinedTies
import Derived.KernelRfl
namespace Go.Proofs.Ytdofpnhmlhkoiaa
/- THE CELL 'sum', in the pinned program and in every row, IS THE sha256 OF THE DUMP (.gsa) THAT YtdofpnhmlhkoiaaProg.lean LOADS. Nothing in Lean hashes anything: it is a label: what it is worth is what the hold of that sum in a sandbox is worth. -/
noncomputable def Try.pinned : Pinned := { name := "ytdofpnhmlhkoiaa", sum := "0a735dca0a4f545764f0a47848f38887490fb4648fe57d8b8ab1364412043cfb", checked := Try.checked }
namespace Rows
def none {H : Type} : Left H := { results := [], args := [] }

/-- 'laws.FnExactWaitSeed': WHATEVER THE INPUT: true; the input reads as it did. -/
def fnExactWaitSeedSpec : ChangeSpec := { name := "fnExactWaitSeed", fn := fun _ => fun
  | [d1, d2] => { results := [.lit (.bool true)], args := [d1, d2] }
  | _ => none }
def fnExactWaitSeedRow : OpenClaim := { program := "ytdofpnhmlhkoiaa", sum := "0a735dca0a4f545764f0a47848f38887490fb4648fe57d8b8ab1364412043cfb", func := "loop.example/g01339/laws.FnExactWaitSeed", spec := "fnExactWaitSeed", inPlace := ["math.Float64frombits", "math.Float64bits"], unfollowed := true, recurses := true, apart := false }
def FnExactWaitSeedSaid : Prop := fnExactWaitSeedRow.holds Try.pinned (OpenSpec.ofChange fnExactWaitSeedSpec)

/-- ITS FALSE NEIGHBOUR: 'it returns false'. Refute it at one input. -/
def fnExactWaitSeedWrong : ChangeSpec := { name := "fnExactWaitSeed", fn := fun _ => fun
  | [d1, d2] => { results := [.lit (.bool false)], args := [d1, d2] }
  | _ => none }
def FnExactWaitSeedWrongFalsely : Prop := fnExactWaitSeedRow.holds Try.pinned (OpenSpec.ofChange fnExactWaitSeedWrong)

/-- 'laws.FnExactBellQuotient': WHATEVER THE INPUT: true; the input reads as it did. -/
def fnExactBellQuotientSpec : ChangeSpec := { name := "fnExactBellQuotient", fn := fun _ => fun
  | [d] => { results := [.lit (.bool true)], args := [d] }
  | _ => none }
def fnExactBellQuotientRow : OpenClaim := { program := "ytdofpnhmlhkoiaa", sum := "0a735dca0a4f545764f0a47848f38887490fb4648fe57d8b8ab1364412043cfb", func := "loop.example/g01339/laws.FnExactBellQuotient", spec := "fnExactBellQuotient", inPlace := ["math.Float64frombits", "math.Float64bits"], apart := false }
def FnExactBellQuotientSaid : Prop := fnExactBellQuotientRow.holds Try.pinned (OpenSpec.ofChange fnExactBellQuotientSpec)

/-- ITS FALSE NEIGHBOUR: 'it returns false'. Refute it at one input. -/
def fnExactBellQuotientWrong : ChangeSpec := { name := "fnExactBellQuotient", fn := fun _ => fun
  | [d] => { results := [.lit (.bool false)], args := [d] }
  | _ => none }
def FnExactBellQuotientWrongFalsely : Prop := fnExactBellQuotientRow.holds Try.pinned (OpenSpec.ofChange fnExactBellQuotientWrong)

/-- 'laws.FnExactCountSeed': WHATEVER THE INPUT: true; the input reads as it did. -/
def fnExactCountSeedSpec : ChangeSpec := { name := "fnExactCountSeed", fn := fun _ => fun
  | [d1, d2] => { results := [.lit (.bool true)], args := [d1, d2] }
  | _ => none }
def fnExactCountSeedRow : OpenClaim := { program := "ytdofpnhmlhkoiaa", sum := "0a735dca0a4f545764f0a47848f38887490fb4648fe57d8b8ab1364412043cfb", func := "loop.example/g01339/laws.FnExactCountSeed", spec := "fnExactCountSeed", inPlace := ["math.Float64frombits"], apart := false }
def FnExactCountSeedSaid : Prop := fnExactCountSeedRow.holds Try.pinned (OpenSpec.ofChange fnExactCountSeedSpec)

/-- ITS FALSE NEIGHBOUR: 'it returns false'. Refute it at one input. -/
def fnExactCountSeedWrong : ChangeSpec := { name := "fnExactCountSeed", fn := fun _ => fun
  | [d1, d2] => { results := [.lit (.bool false)], args := [d1, d2] }
  | _ => none }
def FnExactCountSeedWrongFalsely : Prop := fnExactCountSeedRow.holds Try.pinned (OpenSpec.ofChange fnExactCountSeedWrong)

/-- 'laws.FnExactBallPoint': WHATEVER THE INPUT: true; the input reads as it did. -/
def fnExactBallPointSpec : ChangeSpec := { name := "fnExactBallPoint", fn := fun _ => fun
  | [d] => { results := [.lit (.bool true)], args := [d] }
  | _ => none }
def fnExactBallPointRow : OpenClaim := { program := "ytdofpnhmlhkoiaa", sum := "0a735dca0a4f545764f0a47848f38887490fb4648fe57d8b8ab1364412043cfb", func := "loop.example/g01339/laws.FnExactBallPoint", spec := "fnExactBallPoint", inPlace := ["math.sqrt"], apart := false }
def FnExactBallPointSaid : Prop := fnExactBallPointRow.holds Try.pinned (OpenSpec.ofChange fnExactBallPointSpec)

/-- ITS FALSE NEIGHBOUR: 'it returns false'. Refute it at one input. -/
def fnExactBallPointWrong : ChangeSpec := { name := "fnExactBallPoint", fn := fun _ => fun
  | [d] => { results := [.lit (.bool false)], args := [d] }
  | _ => none }
def FnExactBallPointWrongFalsely : Prop := fnExactBallPointRow.holds Try.pinned (OpenSpec.ofChange fnExactBallPointWrong)

/-- 'laws.FnExactCirclePoint': WHATEVER THE INPUT: true; the input reads as it did. -/
def fnExactCirclePointSpec : ChangeSpec := { name := "fnExactCirclePoint", fn := fun _ => fun
  | [d] => { results := [.lit (.bool true)], args := [d] }
  | _ => none }
def fnExactCirclePointRow : OpenClaim := { program := "ytdofpnhmlhkoiaa", sum := "0a735dca0a4f545764f0a47848f38887490fb4648fe57d8b8ab1364412043cfb", func := "loop.example/g01339/laws.FnExactCirclePoint", spec := "fnExactCirclePoint", inPlace := ["math.Float32frombits", "math.Float64frombits", "math.Float64bits", "math.archTrunc"], apart := false }
def FnExactCirclePointSaid : Prop := fnExactCirclePointRow.holds Try.pinned (OpenSpec.ofChange fnExactCirclePointSpec)

/-- ITS FALSE NEIGHBOUR: 'it returns false'. Refute it at one input. -/
def fnExactCirclePointWrong : ChangeSpec := { name := "fnExactCirclePoint", fn := fun _ => fun
  | [d] => { results := [.lit (.bool false)], args := [d] }
  | _ => none }
def FnExactCirclePointWrongFalsely : Prop := fnExactCirclePointRow.holds Try.pinned (OpenSpec.ofChange fnExactCirclePointWrong)

/-- 'laws.FnExactEvenSeed': WHATEVER THE INPUT: true; the input reads as it did. -/
def fnExactEvenSeedSpec : ChangeSpec := { name := "fnExactEvenSeed", fn := fun _ => fun
  | [d] => { results := [.lit (.bool true)], args := [d] }
  | _ => none }
def fnExactEvenSeedRow : OpenClaim := { program := "ytdofpnhmlhkoiaa", sum := "0a735dca0a4f545764f0a47848f38887490fb4648fe57d8b8ab1364412043cfb", func := "loop.example/g01339/laws.FnExactEvenSeed", spec := "fnExactEvenSeed", inPlace := ["math.Float64bits", "math.Float64frombits"], apart := false }
def FnExactEvenSeedSaid : Prop := fnExactEvenSeedRow.holds Try.pinned (OpenSpec.ofChange fnExactEvenSeedSpec)

/-- ITS FALSE NEIGHBOUR: 'it returns false'. Refute it at one input. -/
def fnExactEvenSeedWrong : ChangeSpec := { name := "fnExactEvenSeed", fn := fun _ => fun
  | [d] => { results := [.lit (.bool false)], args := [d] }
  | _ => none }
def FnExactEvenSeedWrongFalsely : Prop := fnExactEvenSeedRow.holds Try.pinned (OpenSpec.ofChange fnExactEvenSeedWrong)

/-- 'laws.FnExactFirstSeed': WHATEVER THE INPUT: true; the input reads as it did. -/
def fnExactFirstSeedSpec : ChangeSpec := { name := "fnExactFirstSeed", fn := fun _ => fun
  | [d1, d2] => { results := [.lit (.bool true)], args := [d1, d2] }
  | _ => none }
def fnExactFirstSeedRow : OpenClaim := { program := "ytdofpnhmlhkoiaa", sum := "0a735dca0a4f545764f0a47848f38887490fb4648fe57d8b8ab1364412043cfb", func := "loop.example/g01339/laws.FnExactFirstSeed", spec := "fnExactFirstSeed", inPlace := ["math.Float64frombits", "math.Float64bits", "math.archFloor", "math.archTrunc"], apart := false }
def FnExactFirstSeedSaid : Prop := fnExactFirstSeedRow.holds Try.pinned (OpenSpec.ofChange fnExactFirstSeedSpec)

/-- ITS FALSE NEIGHBOUR: 'it returns false'. Refute it at one input. -/
def fnExactFirstSeedWrong : ChangeSpec := { name := "fnExactFirstSeed", fn := fun _ => fun
  | [d1, d2] => { results := [.lit (.bool false)], args := [d1, d2] }
  | _ => none }
def FnExactFirstSeedWrongFalsely : Prop := fnExactFirstSeedRow.holds Try.pinned (OpenSpec.ofChange fnExactFirstSeedWrong)

/-- 'laws.FnExactBellPair': WHATEVER THE INPUT: true; the input reads as it did. -/
def fnExactBellPairSpec : ChangeSpec := { name := "fnExactBellPair", fn := fun _ => fun
  | [d] => { results := [.lit (.bool true)], args := [d] }
  | _ => none }
def fnExactBellPairRow : OpenClaim := { program := "ytdofpnhmlhkoiaa", sum := "0a735dca0a4f545764f0a47848f38887490fb4648fe57d8b8ab1364412043cfb", func := "loop.example/g01339/laws.FnExactBellPair", spec := "fnExactBellPair", inPlace := ["math.Float32frombits", "math.Float64frombits", "math.Float64bits", "math.sqrt", "math.archTrunc"], unfollowed := true, recurses := true, apart := false }
def FnExactBellPairSaid : Prop := fnExactBellPairRow.holds Try.pinned (OpenSpec.ofChange fnExactBellPairSpec)

/-- ITS FALSE NEIGHBOUR: 'it returns false'. Refute it at one input. -/
def fnExactBellPairWrong : ChangeSpec := { name := "fnExactBellPair", fn := fun _ => fun
  | [d] => { results := [.lit (.bool false)], args := [d] }
  | _ => none }
def FnExactBellPairWrongFalsely : Prop := fnExactBellPairRow.holds Try.pinned (OpenSpec.ofChange fnExactBellPairWrong)

/- THE SECOND FORM. 'bulk': how many values and letters a reading holds, each counted each time it is reached (what is shared counts as often as it is met; a slice's spare places count too). A statement '..UptoSaid' is the law's where the arguments, and the package variables that the reading takes, are together of bulk at most 1048576: NARROWER than '..Said'. Prove '..Said' where nothing that the law and all that it calls make is longer than what came in: it says more and counts as full. Else prove '..UptoSaid'. A law counts once. -/
mutual
def uptoBulk {H : Type} : DataW H → Nat
  | .lit (.string bytes) => bytes.length + 1
  | .lit _ => 1
  | .nil => 1
  | .ptr d => uptoBulk d + 1
  | .slice elems spare => uptoBulkAll elems + uptoBulkAll spare + 1
  | .agg parts => uptoBulkAll parts + 1
  | .iface _ d => uptoBulk d + 1
  | .map entries => uptoBulkEntries entries + 1
  | .held _ => 1
def uptoBulkAll {H : Type} : List (DataW H) → Nat
  | [] => 0
  | d :: r => uptoBulk d + uptoBulkAll r
def uptoBulkEntries {H : Type} : List (Lit × DataW H) → Nat
  | [] => 0
  | x :: r => uptoBulkEntry x + uptoBulkEntries r
def uptoBulkEntry {H : Type} : Lit × DataW H → Nat
  | (.string bytes, d) => bytes.length + uptoBulk d + 1
  | (_, d) => uptoBulk d + 1
 end
def uptoSmall : (H : Type) → List (DataW H) → Bool := fun _ ds => decide (uptoBulkAll ds ≤ 1048576)
def OpenSpec.upto (s : _root_.Go.ChangeSpec) : _root_.Go.OpenSpec := { _root_.Go.OpenSpec.ofChange s with cond := some uptoSmall }

/-- 'laws.FnExactWaitSeed', WHERE WHAT IT READS IS OF BULK AT MOST 1048576: true; the input reads as it did. -/
def fnExactWaitSeedUptoRow : OpenClaim := { program := "ytdofpnhmlhkoiaa", sum := "0a735dca0a4f545764f0a47848f38887490fb4648fe57d8b8ab1364412043cfb", func := "loop.example/g01339/laws.FnExactWaitSeed", spec := "fnExactWaitSeed", inPlace := ["math.Float64frombits", "math.Float64bits"], unfollowed := true, recurses := true, apart := false, narrowed := true }
def FnExactWaitSeedUptoSaid : Prop := fnExactWaitSeedUptoRow.holds Try.pinned (OpenSpec.upto fnExactWaitSeedSpec)

/-- 'laws.FnExactBellQuotient', WHERE WHAT IT READS IS OF BULK AT MOST 1048576: true; the input reads as it did. -/
def fnExactBellQuotientUptoRow : OpenClaim := { program := "ytdofpnhmlhkoiaa", sum := "0a735dca0a4f545764f0a47848f38887490fb4648fe57d8b8ab1364412043cfb", func := "loop.example/g01339/laws.FnExactBellQuotient", spec := "fnExactBellQuotient", inPlace := ["math.Float64frombits", "math.Float64bits"], apart := false, narrowed := true }
def FnExactBellQuotientUptoSaid : Prop := fnExactBellQuotientUptoRow.holds Try.pinned (OpenSpec.upto fnExactBellQuotientSpec)

/-- 'laws.FnExactCountSeed', WHERE WHAT IT READS IS OF BULK AT MOST 1048576: true; the input reads as it did. -/
def fnExactCountSeedUptoRow : OpenClaim := { program := "ytdofpnhmlhkoiaa", sum := "0a735dca0a4f545764f0a47848f38887490fb4648fe57d8b8ab1364412043cfb", func := "loop.example/g01339/laws.FnExactCountSeed", spec := "fnExactCountSeed", inPlace := ["math.Float64frombits"], apart := false, narrowed := true }
def FnExactCountSeedUptoSaid : Prop := fnExactCountSeedUptoRow.holds Try.pinned (OpenSpec.upto fnExactCountSeedSpec)

/-- 'laws.FnExactBallPoint', WHERE WHAT IT READS IS OF BULK AT MOST 1048576: true; the input reads as it did. -/
def fnExactBallPointUptoRow : OpenClaim := { program := "ytdofpnhmlhkoiaa", sum := "0a735dca0a4f545764f0a47848f38887490fb4648fe57d8b8ab1364412043cfb", func := "loop.example/g01339/laws.FnExactBallPoint", spec := "fnExactBallPoint", inPlace := ["math.sqrt"], apart := false, narrowed := true }
def FnExactBallPointUptoSaid : Prop := fnExactBallPointUptoRow.holds Try.pinned (OpenSpec.upto fnExactBallPointSpec)

/-- 'laws.FnExactCirclePoint', WHERE WHAT IT READS IS OF BULK AT MOST 1048576: true; the input reads as it did. -/
def fnExactCirclePointUptoRow : OpenClaim := { program := "ytdofpnhmlhkoiaa", sum := "0a735dca0a4f545764f0a47848f38887490fb4648fe57d8b8ab1364412043cfb", func := "loop.example/g01339/laws.FnExactCirclePoint", spec := "fnExactCirclePoint", inPlace := ["math.Float32frombits", "math.Float64frombits", "math.Float64bits", "math.archTrunc"], apart := false, narrowed := true }
def FnExactCirclePointUptoSaid : Prop := fnExactCirclePointUptoRow.holds Try.pinned (OpenSpec.upto fnExactCirclePointSpec)

/-- 'laws.FnExactEvenSeed', WHERE WHAT IT READS IS OF BULK AT MOST 1048576: true; the input reads as it did. -/
def fnExactEvenSeedUptoRow : OpenClaim := { program := "ytdofpnhmlhkoiaa", sum := "0a735dca0a4f545764f0a47848f38887490fb4648fe57d8b8ab1364412043cfb", func := "loop.example/g01339/laws.FnExactEvenSeed", spec := "fnExactEvenSeed", inPlace := ["math.Float64bits", "math.Float64frombits"], apart := false, narrowed := true }
def FnExactEvenSeedUptoSaid : Prop := fnExactEvenSeedUptoRow.holds Try.pinned (OpenSpec.upto fnExactEvenSeedSpec)

/-- 'laws.FnExactFirstSeed', WHERE WHAT IT READS IS OF BULK AT MOST 1048576: true; the input reads as it did. -/
def fnExactFirstSeedUptoRow : OpenClaim := { program := "ytdofpnhmlhkoiaa", sum := "0a735dca0a4f545764f0a47848f38887490fb4648fe57d8b8ab1364412043cfb", func := "loop.example/g01339/laws.FnExactFirstSeed", spec := "fnExactFirstSeed", inPlace := ["math.Float64frombits", "math.Float64bits", "math.archFloor", "math.archTrunc"], apart := false, narrowed := true }
def FnExactFirstSeedUptoSaid : Prop := fnExactFirstSeedUptoRow.holds Try.pinned (OpenSpec.upto fnExactFirstSeedSpec)

/-- 'laws.FnExactBellPair', WHERE WHAT IT READS IS OF BULK AT MOST 1048576: true; the input reads as it did. -/
def fnExactBellPairUptoRow : OpenClaim := { program := "ytdofpnhmlhkoiaa", sum := "0a735dca0a4f545764f0a47848f38887490fb4648fe57d8b8ab1364412043cfb", func := "loop.example/g01339/laws.FnExactBellPair", spec := "fnExactBellPair", inPlace := ["math.Float32frombits", "math.Float64frombits", "math.Float64bits", "math.sqrt", "math.archTrunc"], unfollowed := true, recurses := true, apart := false, narrowed := true }
def FnExactBellPairUptoSaid : Prop := fnExactBellPairUptoRow.holds Try.pinned (OpenSpec.upto fnExactBellPairSpec)

end Rows
end Go.Proofs.Ytdofpnhmlhkoiaa
