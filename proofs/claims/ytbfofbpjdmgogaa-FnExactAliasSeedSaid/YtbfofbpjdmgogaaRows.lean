/-
  No cell of these rows narrows 'for every input' (looked for: loops, veiled, ifaces, maps, wideKeys, modest, calm, conditions, laid).
  DERIVED. THE GIVEN ROWS OF THIS SEAT. 13 by the template 'for every input the law returns true; each argument reads behind the call as it read before'; 0 by the template 'total and deterministic' (their statements: YtbfofbpjdmgogaaTotals.lean).
  GIVEN WITH THE SEED: the statements are not yours to turn. If you find one false, say at which input.
  Laid BY PROGRAM, IN A SANDBOX (cutbox-rows.mjs): the forced cells as the released guide's own fill.sh prints them over the translation 6563bbb350c42ee9… (all of the seat's roots in one cut). By AI agents, Wed Nov 11 2026. No macro, syntax, notation, axiom, sorry.
-/
import Derived.Test.YtbfofbpjdmgogaaChecked
import GoSem.Claim
import GoSem.ClaimJoined
import GoSem.ClaimMapViews
import Derived.JoinedTies
import Derived.KernelRfl
namespace Go.Proofs.Ytbfofbpjdmgogaa
/- THE CELL 'sum', in the pinned program and in every row, IS THE sha256 OF THE DUMP (.gsa) THAT YtbfofbpjdmgogaaProg.lean LOADS. Nothing in Lean hashes anything: it is a label: what it is worth is what the hold of that sum in a sandbox is worth. -/
noncomputable def Try.pinned : Pinned := { name := "ytbfofbpjdmgogaa", sum := "6563bbb350c42ee94f9511e9714408212e425f64d9b8f1acb8f7153ff9b5a849", checked := Try.checked }
namespace Rows
def none {H : Type} : Left H := { results := [], args := [] }

/-- 'laws.FnExactWordsOf': WHATEVER THE INPUT: true; the input reads as it did. -/
def fnExactWordsOfSpec : ChangeSpec := { name := "fnExactWordsOf", fn := fun _ => fun
  | [d1, d2] => { results := [.lit (.bool true)], args := [d1, d2] }
  | _ => none }
def fnExactWordsOfRow : OpenClaim := { program := "ytbfofbpjdmgogaa", sum := "6563bbb350c42ee94f9511e9714408212e425f64d9b8f1acb8f7153ff9b5a849", func := "loop.example/g01339/laws.FnExactWordsOf", spec := "fnExactWordsOf", apart := false }
def FnExactWordsOfSaid : Prop := fnExactWordsOfRow.holds Try.pinned (OpenSpec.ofChange fnExactWordsOfSpec)

/-- ITS FALSE NEIGHBOUR: 'it returns false'. Refute it at one input. -/
def fnExactWordsOfWrong : ChangeSpec := { name := "fnExactWordsOf", fn := fun _ => fun
  | [d1, d2] => { results := [.lit (.bool false)], args := [d1, d2] }
  | _ => none }
def FnExactWordsOfWrongFalsely : Prop := fnExactWordsOfRow.holds Try.pinned (OpenSpec.ofChange fnExactWordsOfWrong)

/-- 'laws.FnExactSkipSeed': WHATEVER THE INPUT: true; the input reads as it did. -/
def fnExactSkipSeedSpec : ChangeSpec := { name := "fnExactSkipSeed", fn := fun _ => fun
  | [d1, d2] => { results := [.lit (.bool true)], args := [d1, d2] }
  | _ => none }
def fnExactSkipSeedRow : OpenClaim := { program := "ytbfofbpjdmgogaa", sum := "6563bbb350c42ee94f9511e9714408212e425f64d9b8f1acb8f7153ff9b5a849", func := "loop.example/g01339/laws.FnExactSkipSeed", spec := "fnExactSkipSeed", apart := false }
def FnExactSkipSeedSaid : Prop := fnExactSkipSeedRow.holds Try.pinned (OpenSpec.ofChange fnExactSkipSeedSpec)

/-- ITS FALSE NEIGHBOUR: 'it returns false'. Refute it at one input. -/
def fnExactSkipSeedWrong : ChangeSpec := { name := "fnExactSkipSeed", fn := fun _ => fun
  | [d1, d2] => { results := [.lit (.bool false)], args := [d1, d2] }
  | _ => none }
def FnExactSkipSeedWrongFalsely : Prop := fnExactSkipSeedRow.holds Try.pinned (OpenSpec.ofChange fnExactSkipSeedWrong)

/-- 'laws.FnExactHitsSeed': WHATEVER THE INPUT: true; the input reads as it did. -/
def fnExactHitsSeedSpec : ChangeSpec := { name := "fnExactHitsSeed", fn := fun _ => fun
  | [d1, d2, d3] => { results := [.lit (.bool true)], args := [d1, d2, d3] }
  | _ => none }
def fnExactHitsSeedRow : OpenClaim := { program := "ytbfofbpjdmgogaa", sum := "6563bbb350c42ee94f9511e9714408212e425f64d9b8f1acb8f7153ff9b5a849", func := "loop.example/g01339/laws.FnExactHitsSeed", spec := "fnExactHitsSeed", apart := false }
def FnExactHitsSeedSaid : Prop := fnExactHitsSeedRow.holds Try.pinned (OpenSpec.ofChange fnExactHitsSeedSpec)

/-- ITS FALSE NEIGHBOUR: 'it returns false'. Refute it at one input. -/
def fnExactHitsSeedWrong : ChangeSpec := { name := "fnExactHitsSeed", fn := fun _ => fun
  | [d1, d2, d3] => { results := [.lit (.bool false)], args := [d1, d2, d3] }
  | _ => none }
def FnExactHitsSeedWrongFalsely : Prop := fnExactHitsSeedRow.holds Try.pinned (OpenSpec.ofChange fnExactHitsSeedWrong)

/-- 'laws.FnExactBetweenSeed': WHATEVER THE INPUT: true; the input reads as it did. -/
def fnExactBetweenSeedSpec : ChangeSpec := { name := "fnExactBetweenSeed", fn := fun _ => fun
  | [d1, d2, d3] => { results := [.lit (.bool true)], args := [d1, d2, d3] }
  | _ => none }
def fnExactBetweenSeedRow : OpenClaim := { program := "ytbfofbpjdmgogaa", sum := "6563bbb350c42ee94f9511e9714408212e425f64d9b8f1acb8f7153ff9b5a849", func := "loop.example/g01339/laws.FnExactBetweenSeed", spec := "fnExactBetweenSeed", unfollowed := true, recurses := true, apart := false }
def FnExactBetweenSeedSaid : Prop := fnExactBetweenSeedRow.holds Try.pinned (OpenSpec.ofChange fnExactBetweenSeedSpec)

/-- ITS FALSE NEIGHBOUR: 'it returns false'. Refute it at one input. -/
def fnExactBetweenSeedWrong : ChangeSpec := { name := "fnExactBetweenSeed", fn := fun _ => fun
  | [d1, d2, d3] => { results := [.lit (.bool false)], args := [d1, d2, d3] }
  | _ => none }
def FnExactBetweenSeedWrongFalsely : Prop := fnExactBetweenSeedRow.holds Try.pinned (OpenSpec.ofChange fnExactBetweenSeedWrong)

/-- 'laws.FnExactDiscPoint': WHATEVER THE INPUT: true; the input reads as it did. -/
def fnExactDiscPointSpec : ChangeSpec := { name := "fnExactDiscPoint", fn := fun _ => fun
  | [d] => { results := [.lit (.bool true)], args := [d] }
  | _ => none }
def fnExactDiscPointRow : OpenClaim := { program := "ytbfofbpjdmgogaa", sum := "6563bbb350c42ee94f9511e9714408212e425f64d9b8f1acb8f7153ff9b5a849", func := "loop.example/g01339/laws.FnExactDiscPoint", spec := "fnExactDiscPoint", apart := false }
def FnExactDiscPointSaid : Prop := fnExactDiscPointRow.holds Try.pinned (OpenSpec.ofChange fnExactDiscPointSpec)

/-- ITS FALSE NEIGHBOUR: 'it returns false'. Refute it at one input. -/
def fnExactDiscPointWrong : ChangeSpec := { name := "fnExactDiscPoint", fn := fun _ => fun
  | [d] => { results := [.lit (.bool false)], args := [d] }
  | _ => none }
def FnExactDiscPointWrongFalsely : Prop := fnExactDiscPointRow.holds Try.pinned (OpenSpec.ofChange fnExactDiscPointWrong)

/-- 'laws.FnExactCardsSeed': WHATEVER THE INPUT: true; the input reads as it did. -/
def fnExactCardsSeedSpec : ChangeSpec := { name := "fnExactCardsSeed", fn := fun _ => fun
  | [d1, d2] => { results := [.lit (.bool true)], args := [d1, d2] }
  | _ => none }
def fnExactCardsSeedRow : OpenClaim := { program := "ytbfofbpjdmgogaa", sum := "6563bbb350c42ee94f9511e9714408212e425f64d9b8f1acb8f7153ff9b5a849", func := "loop.example/g01339/laws.FnExactCardsSeed", spec := "fnExactCardsSeed", apart := false }
def FnExactCardsSeedSaid : Prop := fnExactCardsSeedRow.holds Try.pinned (OpenSpec.ofChange fnExactCardsSeedSpec)

/-- ITS FALSE NEIGHBOUR: 'it returns false'. Refute it at one input. -/
def fnExactCardsSeedWrong : ChangeSpec := { name := "fnExactCardsSeed", fn := fun _ => fun
  | [d1, d2] => { results := [.lit (.bool false)], args := [d1, d2] }
  | _ => none }
def FnExactCardsSeedWrongFalsely : Prop := fnExactCardsSeedRow.holds Try.pinned (OpenSpec.ofChange fnExactCardsSeedWrong)

/-- 'laws.FnExactPickSeed': WHATEVER THE INPUT: true; the input reads as it did. -/
def fnExactPickSeedSpec : ChangeSpec := { name := "fnExactPickSeed", fn := fun _ => fun
  | [d1, d2] => { results := [.lit (.bool true)], args := [d1, d2] }
  | _ => none }
def fnExactPickSeedRow : OpenClaim := { program := "ytbfofbpjdmgogaa", sum := "6563bbb350c42ee94f9511e9714408212e425f64d9b8f1acb8f7153ff9b5a849", func := "loop.example/g01339/laws.FnExactPickSeed", spec := "fnExactPickSeed", unfollowed := true, recurses := true, apart := false }
def FnExactPickSeedSaid : Prop := fnExactPickSeedRow.holds Try.pinned (OpenSpec.ofChange fnExactPickSeedSpec)

/-- ITS FALSE NEIGHBOUR: 'it returns false'. Refute it at one input. -/
def fnExactPickSeedWrong : ChangeSpec := { name := "fnExactPickSeed", fn := fun _ => fun
  | [d1, d2] => { results := [.lit (.bool false)], args := [d1, d2] }
  | _ => none }
def FnExactPickSeedWrongFalsely : Prop := fnExactPickSeedRow.holds Try.pinned (OpenSpec.ofChange fnExactPickSeedWrong)

/-- 'laws.FnExactStreamSeed': WHATEVER THE INPUT: true; the input reads as it did. -/
def fnExactStreamSeedSpec : ChangeSpec := { name := "fnExactStreamSeed", fn := fun _ => fun
  | [d1, d2, d3] => { results := [.lit (.bool true)], args := [d1, d2, d3] }
  | _ => none }
def fnExactStreamSeedRow : OpenClaim := { program := "ytbfofbpjdmgogaa", sum := "6563bbb350c42ee94f9511e9714408212e425f64d9b8f1acb8f7153ff9b5a849", func := "loop.example/g01339/laws.FnExactStreamSeed", spec := "fnExactStreamSeed", apart := false }
def FnExactStreamSeedSaid : Prop := fnExactStreamSeedRow.holds Try.pinned (OpenSpec.ofChange fnExactStreamSeedSpec)

/-- ITS FALSE NEIGHBOUR: 'it returns false'. Refute it at one input. -/
def fnExactStreamSeedWrong : ChangeSpec := { name := "fnExactStreamSeed", fn := fun _ => fun
  | [d1, d2, d3] => { results := [.lit (.bool false)], args := [d1, d2, d3] }
  | _ => none }
def FnExactStreamSeedWrongFalsely : Prop := fnExactStreamSeedRow.holds Try.pinned (OpenSpec.ofChange fnExactStreamSeedWrong)

/-- 'laws.FnExactReturnSeed': WHATEVER THE INPUT: true; the input reads as it did. -/
def fnExactReturnSeedSpec : ChangeSpec := { name := "fnExactReturnSeed", fn := fun _ => fun
  | [d1, d2, d3] => { results := [.lit (.bool true)], args := [d1, d2, d3] }
  | _ => none }
def fnExactReturnSeedRow : OpenClaim := { program := "ytbfofbpjdmgogaa", sum := "6563bbb350c42ee94f9511e9714408212e425f64d9b8f1acb8f7153ff9b5a849", func := "loop.example/g01339/laws.FnExactReturnSeed", spec := "fnExactReturnSeed", apart := false }
def FnExactReturnSeedSaid : Prop := fnExactReturnSeedRow.holds Try.pinned (OpenSpec.ofChange fnExactReturnSeedSpec)

/-- ITS FALSE NEIGHBOUR: 'it returns false'. Refute it at one input. -/
def fnExactReturnSeedWrong : ChangeSpec := { name := "fnExactReturnSeed", fn := fun _ => fun
  | [d1, d2, d3] => { results := [.lit (.bool false)], args := [d1, d2, d3] }
  | _ => none }
def FnExactReturnSeedWrongFalsely : Prop := fnExactReturnSeedRow.holds Try.pinned (OpenSpec.ofChange fnExactReturnSeedWrong)

/-- 'laws.FnExactTreeSeed': WHATEVER THE INPUT: true; the input reads as it did. -/
def fnExactTreeSeedSpec : ChangeSpec := { name := "fnExactTreeSeed", fn := fun _ => fun
  | [d1, d2] => { results := [.lit (.bool true)], args := [d1, d2] }
  | _ => none }
def fnExactTreeSeedRow : OpenClaim := { program := "ytbfofbpjdmgogaa", sum := "6563bbb350c42ee94f9511e9714408212e425f64d9b8f1acb8f7153ff9b5a849", func := "loop.example/g01339/laws.FnExactTreeSeed", spec := "fnExactTreeSeed", unfollowed := true, recurses := true, apart := false }
def FnExactTreeSeedSaid : Prop := fnExactTreeSeedRow.holds Try.pinned (OpenSpec.ofChange fnExactTreeSeedSpec)

/-- ITS FALSE NEIGHBOUR: 'it returns false'. Refute it at one input. -/
def fnExactTreeSeedWrong : ChangeSpec := { name := "fnExactTreeSeed", fn := fun _ => fun
  | [d1, d2] => { results := [.lit (.bool false)], args := [d1, d2] }
  | _ => none }
def FnExactTreeSeedWrongFalsely : Prop := fnExactTreeSeedRow.holds Try.pinned (OpenSpec.ofChange fnExactTreeSeedWrong)

/-- 'laws.FnExactAliasSeed': WHATEVER THE INPUT: true; the input reads as it did. -/
def fnExactAliasSeedSpec : ChangeSpec := { name := "fnExactAliasSeed", fn := fun _ => fun
  | [d1, d2] => { results := [.lit (.bool true)], args := [d1, d2] }
  | _ => none }
def fnExactAliasSeedRow : OpenClaim := { program := "ytbfofbpjdmgogaa", sum := "6563bbb350c42ee94f9511e9714408212e425f64d9b8f1acb8f7153ff9b5a849", func := "loop.example/g01339/laws.FnExactAliasSeed", spec := "fnExactAliasSeed", apart := false }
def FnExactAliasSeedSaid : Prop := fnExactAliasSeedRow.holds Try.pinned (OpenSpec.ofChange fnExactAliasSeedSpec)

/-- ITS FALSE NEIGHBOUR: 'it returns false'. Refute it at one input. -/
def fnExactAliasSeedWrong : ChangeSpec := { name := "fnExactAliasSeed", fn := fun _ => fun
  | [d1, d2] => { results := [.lit (.bool false)], args := [d1, d2] }
  | _ => none }
def FnExactAliasSeedWrongFalsely : Prop := fnExactAliasSeedRow.holds Try.pinned (OpenSpec.ofChange fnExactAliasSeedWrong)

/-- 'laws.FnExactSampleSeed': WHATEVER THE INPUT: true; the input reads as it did. -/
def fnExactSampleSeedSpec : ChangeSpec := { name := "fnExactSampleSeed", fn := fun _ => fun
  | [d1, d2, d3] => { results := [.lit (.bool true)], args := [d1, d2, d3] }
  | _ => none }
def fnExactSampleSeedRow : OpenClaim := { program := "ytbfofbpjdmgogaa", sum := "6563bbb350c42ee94f9511e9714408212e425f64d9b8f1acb8f7153ff9b5a849", func := "loop.example/g01339/laws.FnExactSampleSeed", spec := "fnExactSampleSeed", recurses := true, apart := false }
def FnExactSampleSeedSaid : Prop := fnExactSampleSeedRow.holds Try.pinned (OpenSpec.ofChange fnExactSampleSeedSpec)

/-- ITS FALSE NEIGHBOUR: 'it returns false'. Refute it at one input. -/
def fnExactSampleSeedWrong : ChangeSpec := { name := "fnExactSampleSeed", fn := fun _ => fun
  | [d1, d2, d3] => { results := [.lit (.bool false)], args := [d1, d2, d3] }
  | _ => none }
def FnExactSampleSeedWrongFalsely : Prop := fnExactSampleSeedRow.holds Try.pinned (OpenSpec.ofChange fnExactSampleSeedWrong)

/-- 'laws.FnExactAliasOf': WHATEVER THE INPUT: true; the input reads as it did. -/
def fnExactAliasOfSpec : ChangeSpec := { name := "fnExactAliasOf", fn := fun _ => fun
  | [d] => { results := [.lit (.bool true)], args := [d] }
  | _ => none }
def fnExactAliasOfRow : OpenClaim := { program := "ytbfofbpjdmgogaa", sum := "6563bbb350c42ee94f9511e9714408212e425f64d9b8f1acb8f7153ff9b5a849", func := "loop.example/g01339/laws.FnExactAliasOf", spec := "fnExactAliasOf", unfollowed := true, recurses := true, apart := false }
def FnExactAliasOfSaid : Prop := fnExactAliasOfRow.holds Try.pinned (OpenSpec.ofChange fnExactAliasOfSpec)

/-- ITS FALSE NEIGHBOUR: 'it returns false'. Refute it at one input. -/
def fnExactAliasOfWrong : ChangeSpec := { name := "fnExactAliasOf", fn := fun _ => fun
  | [d] => { results := [.lit (.bool false)], args := [d] }
  | _ => none }
def FnExactAliasOfWrongFalsely : Prop := fnExactAliasOfRow.holds Try.pinned (OpenSpec.ofChange fnExactAliasOfWrong)

/- THE SECOND FORM. 'bulk': how many values and letters a reading holds, each counted each time it is reached (what is shared counts as often as it is met; a slice's spare places count too). A statement '..UptoSaid' is the law's where the arguments, and the package variables that the reading takes, are together of bulk at most 1048576: NARROWER than '..Said'. Prove '..Said' where nothing that the law and all that it calls make is longer than what came in: it says more and counts as full. Else prove '..UptoSaid'. A law counts once. -/
mutual
def uptoBulk {H : Type} : DataW H → Nat
  | .lit (.string bytes) => bytes.length + 1
  | .lit _ => 1
  | .nil => 1
  | .ptr d => uptoBulk d + 1
  | .slice elems spare => uptoBulkAll elems + uptoBulkAll spare + 1
  | .agg parts => uptoBulkAll parts + 1
  | .iface _ d => uptoBulk d + 1
  | .map entries => uptoBulkEntries entries + 1
  | .held _ => 1
def uptoBulkAll {H : Type} : List (DataW H) → Nat
  | [] => 0
  | d :: r => uptoBulk d + uptoBulkAll r
def uptoBulkEntries {H : Type} : List (Lit × DataW H) → Nat
  | [] => 0
  | x :: r => uptoBulkEntry x + uptoBulkEntries r
def uptoBulkEntry {H : Type} : Lit × DataW H → Nat
  | (.string bytes, d) => bytes.length + uptoBulk d + 1
  | (_, d) => uptoBulk d + 1
 end
def uptoSmall : (H : Type) → List (DataW H) → Bool := fun _ ds => decide (uptoBulkAll ds ≤ 1048576)
def OpenSpec.upto (s : _root_.Go.ChangeSpec) : _root_.Go.OpenSpec := { _root_.Go.OpenSpec.ofChange s with cond := some uptoSmall }

/-- 'laws.FnExactWordsOf', WHERE WHAT IT READS IS OF BULK AT MOST 1048576: true; the input reads as it did. -/
def fnExactWordsOfUptoRow : OpenClaim := { program := "ytbfofbpjdmgogaa", sum := "6563bbb350c42ee94f9511e9714408212e425f64d9b8f1acb8f7153ff9b5a849", func := "loop.example/g01339/laws.FnExactWordsOf", spec := "fnExactWordsOf", apart := false, narrowed := true }
def FnExactWordsOfUptoSaid : Prop := fnExactWordsOfUptoRow.holds Try.pinned (OpenSpec.upto fnExactWordsOfSpec)

/-- 'laws.FnExactSkipSeed', WHERE WHAT IT READS IS OF BULK AT MOST 1048576: true; the input reads as it did. -/
def fnExactSkipSeedUptoRow : OpenClaim := { program := "ytbfofbpjdmgogaa", sum := "6563bbb350c42ee94f9511e9714408212e425f64d9b8f1acb8f7153ff9b5a849", func := "loop.example/g01339/laws.FnExactSkipSeed", spec := "fnExactSkipSeed", apart := false, narrowed := true }
def FnExactSkipSeedUptoSaid : Prop := fnExactSkipSeedUptoRow.holds Try.pinned (OpenSpec.upto fnExactSkipSeedSpec)

/-- 'laws.FnExactHitsSeed', WHERE WHAT IT READS IS OF BULK AT MOST 1048576: true; the input reads as it did. -/
def fnExactHitsSeedUptoRow : OpenClaim := { program := "ytbfofbpjdmgogaa", sum := "6563bbb350c42ee94f9511e9714408212e425f64d9b8f1acb8f7153ff9b5a849", func := "loop.example/g01339/laws.FnExactHitsSeed", spec := "fnExactHitsSeed", apart := false, narrowed := true }
def FnExactHitsSeedUptoSaid : Prop := fnExactHitsSeedUptoRow.holds Try.pinned (OpenSpec.upto fnExactHitsSeedSpec)

/-- 'laws.FnExactBetweenSeed', WHERE WHAT IT READS IS OF BULK AT MOST 1048576: true; the input reads as it did. -/
def fnExactBetweenSeedUptoRow : OpenClaim := { program := "ytbfofbpjdmgogaa", sum := "6563bbb350c42ee94f9511e9714408212e425f64d9b8f1acb8f7153ff9b5a849", func := "loop.example/g01339/laws.FnExactBetweenSeed", spec := "fnExactBetweenSeed", unfollowed := true, recurses := true, apart := false, narrowed := true }
def FnExactBetweenSeedUptoSaid : Prop := fnExactBetweenSeedUptoRow.holds Try.pinned (OpenSpec.upto fnExactBetweenSeedSpec)

/-- 'laws.FnExactDiscPoint', WHERE WHAT IT READS IS OF BULK AT MOST 1048576: true; the input reads as it did. -/
def fnExactDiscPointUptoRow : OpenClaim := { program := "ytbfofbpjdmgogaa", sum := "6563bbb350c42ee94f9511e9714408212e425f64d9b8f1acb8f7153ff9b5a849", func := "loop.example/g01339/laws.FnExactDiscPoint", spec := "fnExactDiscPoint", apart := false, narrowed := true }
def FnExactDiscPointUptoSaid : Prop := fnExactDiscPointUptoRow.holds Try.pinned (OpenSpec.upto fnExactDiscPointSpec)

/-- 'laws.FnExactCardsSeed', WHERE WHAT IT READS IS OF BULK AT MOST 1048576: true; the input reads as it did. -/
def fnExactCardsSeedUptoRow : OpenClaim := { program := "ytbfofbpjdmgogaa", sum := "6563bbb350c42ee94f9511e9714408212e425f64d9b8f1acb8f7153ff9b5a849", func := "loop.example/g01339/laws.FnExactCardsSeed", spec := "fnExactCardsSeed", apart := false, narrowed := true }
def FnExactCardsSeedUptoSaid : Prop := fnExactCardsSeedUptoRow.holds Try.pinned (OpenSpec.upto fnExactCardsSeedSpec)

/-- 'laws.FnExactPickSeed', WHERE WHAT IT READS IS OF BULK AT MOST 1048576: true; the input reads as it did. -/
def fnExactPickSeedUptoRow : OpenClaim := { program := "ytbfofbpjdmgogaa", sum := "6563bbb350c42ee94f9511e9714408212e425f64d9b8f1acb8f7153ff9b5a849", func := "loop.example/g01339/laws.FnExactPickSeed", spec := "fnExactPickSeed", unfollowed := true, recurses := true, apart := false, narrowed := true }
def FnExactPickSeedUptoSaid : Prop := fnExactPickSeedUptoRow.holds Try.pinned (OpenSpec.upto fnExactPickSeedSpec)

/-- 'laws.FnExactStreamSeed', WHERE WHAT IT READS IS OF BULK AT MOST 1048576: true; the input reads as it did. -/
def fnExactStreamSeedUptoRow : OpenClaim := { program := "ytbfofbpjdmgogaa", sum := "6563bbb350c42ee94f9511e9714408212e425f64d9b8f1acb8f7153ff9b5a849", func := "loop.example/g01339/laws.FnExactStreamSeed", spec := "fnExactStreamSeed", apart := false, narrowed := true }
def FnExactStreamSeedUptoSaid : Prop := fnExactStreamSeedUptoRow.holds Try.pinned (OpenSpec.upto fnExactStreamSeedSpec)

/-- 'laws.FnExactReturnSeed', WHERE WHAT IT READS IS OF BULK AT MOST 1048576: true; the input reads as it did. -/
def fnExactReturnSeedUptoRow : OpenClaim := { program := "ytbfofbpjdmgogaa", sum := "6563bbb350c42ee94f9511e9714408212e425f64d9b8f1acb8f7153ff9b5a849", func := "loop.example/g01339/laws.FnExactReturnSeed", spec := "fnExactReturnSeed", apart := false, narrowed := true }
def FnExactReturnSeedUptoSaid : Prop := fnExactReturnSeedUptoRow.holds Try.pinned (OpenSpec.upto fnExactReturnSeedSpec)

/-- 'laws.FnExactTreeSeed', WHERE WHAT IT READS IS OF BULK AT MOST 1048576: true; the input reads as it did. -/
def fnExactTreeSeedUptoRow : OpenClaim := { program := "ytbfofbpjdmgogaa", sum := "6563bbb350c42ee94f9511e9714408212e425f64d9b8f1acb8f7153ff9b5a849", func := "loop.example/g01339/laws.FnExactTreeSeed", spec := "fnExactTreeSeed", unfollowed := true, recurses := true, apart := false, narrowed := true }
def FnExactTreeSeedUptoSaid : Prop := fnExactTreeSeedUptoRow.holds Try.pinned (OpenSpec.upto fnExactTreeSeedSpec)

/-- 'laws.FnExactAliasSeed', WHERE WHAT IT READS IS OF BULK AT MOST 1048576: true; the input reads as it did. -/
def fnExactAliasSeedUptoRow : OpenClaim := { program := "ytbfofbpjdmgogaa", sum := "6563bbb350c42ee94f9511e9714408212e425f64d9b8f1acb8f7153ff9b5a849", func := "loop.example/g01339/laws.FnExactAliasSeed", spec := "fnExactAliasSeed", apart := false, narrowed := true }
def FnExactAliasSeedUptoSaid : Prop := fnExactAliasSeedUptoRow.holds Try.pinned (OpenSpec.upto fnExactAliasSeedSpec)

/-- 'laws.FnExactSampleSeed', WHERE WHAT IT READS IS OF BULK AT MOST 1048576: true; the input reads as it did. -/
def fnExactSampleSeedUptoRow : OpenClaim := { program := "ytbfofbpjdmgogaa", sum := "6563bbb350c42ee94f9511e9714408212e425f64d9b8f1acb8f7153ff9b5a849", func := "loop.example/g01339/laws.FnExactSampleSeed", spec := "fnExactSampleSeed", recurses := true, apart := false, narrowed := true }
def FnExactSampleSeedUptoSaid : Prop := fnExactSampleSeedUptoRow.holds Try.pinned (OpenSpec.upto fnExactSampleSeedSpec)

/-- 'laws.FnExactAliasOf', WHERE WHAT IT READS IS OF BULK AT MOST 1048576: true; the input reads as it did. -/
def fnExactAliasOfUptoRow : OpenClaim := { program := "ytbfofbpjdmgogaa", sum := "6563bbb350c42ee94f9511e9714408212e425f64d9b8f1acb8f7153ff9b5a849", func := "loop.example/g01339/laws.FnExactAliasOf", spec := "fnExactAliasOf", unfollowed := true, recurses := true, apart := false, narrowed := true }
def FnExactAliasOfUptoSaid : Prop := fnExactAliasOfUptoRow.holds Try.pinned (OpenSpec.upto fnExactAliasOfSpec)

end Rows
end Go.Proofs.Ytbfofbpjdmgogaa
