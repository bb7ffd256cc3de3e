/-
  No cell of these rows narrows 'for every input' (looked for: loops, veiled, ifaces, maps, wideKeys, modest, calm, conditions, laid).
  DERIVED. THE GIVEN ROWS OF THIS SEAT. 12 by the template 'for every input the law returns true; each argument reads behind the call as it read before'; 0 by the template 'total and deterministic' (their statements: YticenfholnencaaTotals.lean).
  GIVEN WITH THE SEED: the statements are not yours to turn. If you find one false, say at which input.
  Laid BY PROGRAM, IN A SANDBOX (cutbox-rows.mjs): the forced cells as the released guide's own fill.sh prints them over the translation 85cda704261793b9… (all of the seat's roots in one cut). By AI agents, Wed Nov 11 2026. No macro, syntax, notation, axiom, sorry.
-/
import Derived.Test.YticenfholnencaaChecked
import GoSem.Claim
import GoSem.ClaimJoined
import GoSem.ClaimMapViews
import Derived.JoinedTies
import Derived.KernelRfl
namespace Go.Proofs.Yticenfholnencaa
/- THE CELL 'sum', in the pinned program and in every row, IS THE sha256 OF THE DUMP (.gsa) THAT YticenfholnencaaProg.lean LOADS. Nothing in Lean hashes anything: it is a label: what it is worth is what the hold of that sum in a sandbox is worth. -/
noncomputable def Try.pinned : Pinned := { name := "yticenfholnencaa", sum := "85cda704261793b97024517b3f5c689534c0eced5aef1eb8dfe86538edd11fb0", checked := Try.checked }
namespace Rows
def none {H : Type} : Left H := { results := [], args := [] }

/-- 'laws.FnExactValidAlias': WHATEVER THE INPUT: true; the input reads as it did. -/
def fnExactValidAliasSpec : ChangeSpec := { name := "fnExactValidAlias", fn := fun _ => fun
  | [d] => { results := [.lit (.bool true)], args := [d] }
  | _ => none }
def fnExactValidAliasRow : OpenClaim := { program := "yticenfholnencaa", sum := "85cda704261793b97024517b3f5c689534c0eced5aef1eb8dfe86538edd11fb0", func := "loop.example/g01339/laws.FnExactValidAlias", spec := "fnExactValidAlias", apart := false }
def FnExactValidAliasSaid : Prop := fnExactValidAliasRow.holds Try.pinned (OpenSpec.ofChange fnExactValidAliasSpec)

/-- ITS FALSE NEIGHBOUR: 'it returns false'. Refute it at one input. -/
def fnExactValidAliasWrong : ChangeSpec := { name := "fnExactValidAlias", fn := fun _ => fun
  | [d] => { results := [.lit (.bool false)], args := [d] }
  | _ => none }
def FnExactValidAliasWrongFalsely : Prop := fnExactValidAliasRow.holds Try.pinned (OpenSpec.ofChange fnExactValidAliasWrong)

/-- 'laws.FnExactSpreadPoints': WHATEVER THE INPUT: true; the input reads as it did. -/
def fnExactSpreadPointsSpec : ChangeSpec := { name := "fnExactSpreadPoints", fn := fun _ => fun
  | [d1, d2] => { results := [.lit (.bool true)], args := [d1, d2] }
  | _ => none }
def fnExactSpreadPointsRow : OpenClaim := { program := "yticenfholnencaa", sum := "85cda704261793b97024517b3f5c689534c0eced5aef1eb8dfe86538edd11fb0", func := "loop.example/g01339/laws.FnExactSpreadPoints", spec := "fnExactSpreadPoints", apart := false }
def FnExactSpreadPointsSaid : Prop := fnExactSpreadPointsRow.holds Try.pinned (OpenSpec.ofChange fnExactSpreadPointsSpec)

/-- ITS FALSE NEIGHBOUR: 'it returns false'. Refute it at one input. -/
def fnExactSpreadPointsWrong : ChangeSpec := { name := "fnExactSpreadPoints", fn := fun _ => fun
  | [d1, d2] => { results := [.lit (.bool false)], args := [d1, d2] }
  | _ => none }
def FnExactSpreadPointsWrongFalsely : Prop := fnExactSpreadPointsRow.holds Try.pinned (OpenSpec.ofChange fnExactSpreadPointsWrong)

/-- 'laws.FnExactChiOf': WHATEVER THE INPUT: true; the input reads as it did. -/
def fnExactChiOfSpec : ChangeSpec := { name := "fnExactChiOf", fn := fun _ => fun
  | [d1, d2] => { results := [.lit (.bool true)], args := [d1, d2] }
  | _ => none }
def fnExactChiOfRow : OpenClaim := { program := "yticenfholnencaa", sum := "85cda704261793b97024517b3f5c689534c0eced5aef1eb8dfe86538edd11fb0", func := "loop.example/g01339/laws.FnExactChiOf", spec := "fnExactChiOf", unfollowed := true, recurses := true, apart := false }
def FnExactChiOfSaid : Prop := fnExactChiOfRow.holds Try.pinned (OpenSpec.ofChange fnExactChiOfSpec)

/-- ITS FALSE NEIGHBOUR: 'it returns false'. Refute it at one input. -/
def fnExactChiOfWrong : ChangeSpec := { name := "fnExactChiOf", fn := fun _ => fun
  | [d1, d2] => { results := [.lit (.bool false)], args := [d1, d2] }
  | _ => none }
def FnExactChiOfWrongFalsely : Prop := fnExactChiOfRow.holds Try.pinned (OpenSpec.ofChange fnExactChiOfWrong)

/-- 'laws.FnExactBallPoint': WHATEVER THE INPUT: true; the input reads as it did. -/
def fnExactBallPointSpec : ChangeSpec := { name := "fnExactBallPoint", fn := fun _ => fun
  | [d] => { results := [.lit (.bool true)], args := [d] }
  | _ => none }
def fnExactBallPointRow : OpenClaim := { program := "yticenfholnencaa", sum := "85cda704261793b97024517b3f5c689534c0eced5aef1eb8dfe86538edd11fb0", func := "loop.example/g01339/laws.FnExactBallPoint", spec := "fnExactBallPoint", inPlace := ["math.sqrt"], apart := false }
def FnExactBallPointSaid : Prop := fnExactBallPointRow.holds Try.pinned (OpenSpec.ofChange fnExactBallPointSpec)

/-- ITS FALSE NEIGHBOUR: 'it returns false'. Refute it at one input. -/
def fnExactBallPointWrong : ChangeSpec := { name := "fnExactBallPoint", fn := fun _ => fun
  | [d] => { results := [.lit (.bool false)], args := [d] }
  | _ => none }
def FnExactBallPointWrongFalsely : Prop := fnExactBallPointRow.holds Try.pinned (OpenSpec.ofChange fnExactBallPointWrong)

/-- 'laws.FnExactWaitSeed': WHATEVER THE INPUT: true; the input reads as it did. -/
def fnExactWaitSeedSpec : ChangeSpec := { name := "fnExactWaitSeed", fn := fun _ => fun
  | [d1, d2] => { results := [.lit (.bool true)], args := [d1, d2] }
  | _ => none }
def fnExactWaitSeedRow : OpenClaim := { program := "yticenfholnencaa", sum := "85cda704261793b97024517b3f5c689534c0eced5aef1eb8dfe86538edd11fb0", func := "loop.example/g01339/laws.FnExactWaitSeed", spec := "fnExactWaitSeed", inPlace := ["math.Float64frombits", "math.Float64bits"], unfollowed := true, recurses := true, apart := false }
def FnExactWaitSeedSaid : Prop := fnExactWaitSeedRow.holds Try.pinned (OpenSpec.ofChange fnExactWaitSeedSpec)

/-- ITS FALSE NEIGHBOUR: 'it returns false'. Refute it at one input. -/
def fnExactWaitSeedWrong : ChangeSpec := { name := "fnExactWaitSeed", fn := fun _ => fun
  | [d1, d2] => { results := [.lit (.bool false)], args := [d1, d2] }
  | _ => none }
def FnExactWaitSeedWrongFalsely : Prop := fnExactWaitSeedRow.holds Try.pinned (OpenSpec.ofChange fnExactWaitSeedWrong)

/-- 'laws.FnExactBellQuotient': WHATEVER THE INPUT: true; the input reads as it did. -/
def fnExactBellQuotientSpec : ChangeSpec := { name := "fnExactBellQuotient", fn := fun _ => fun
  | [d] => { results := [.lit (.bool true)], args := [d] }
  | _ => none }
def fnExactBellQuotientRow : OpenClaim := { program := "yticenfholnencaa", sum := "85cda704261793b97024517b3f5c689534c0eced5aef1eb8dfe86538edd11fb0", func := "loop.example/g01339/laws.FnExactBellQuotient", spec := "fnExactBellQuotient", inPlace := ["math.Float64frombits", "math.Float64bits"], apart := false }
def FnExactBellQuotientSaid : Prop := fnExactBellQuotientRow.holds Try.pinned (OpenSpec.ofChange fnExactBellQuotientSpec)

/-- ITS FALSE NEIGHBOUR: 'it returns false'. Refute it at one input. -/
def fnExactBellQuotientWrong : ChangeSpec := { name := "fnExactBellQuotient", fn := fun _ => fun
  | [d] => { results := [.lit (.bool false)], args := [d] }
  | _ => none }
def FnExactBellQuotientWrongFalsely : Prop := fnExactBellQuotientRow.holds Try.pinned (OpenSpec.ofChange fnExactBellQuotientWrong)

/-- 'laws.FnExactIsOrder': WHATEVER THE INPUT: true; the input reads as it did. -/
def fnExactIsOrderSpec : ChangeSpec := { name := "fnExactIsOrder", fn := fun _ => fun
  | [d] => { results := [.lit (.bool true)], args := [d] }
  | _ => none }
def fnExactIsOrderRow : OpenClaim := { program := "yticenfholnencaa", sum := "85cda704261793b97024517b3f5c689534c0eced5aef1eb8dfe86538edd11fb0", func := "loop.example/g01339/laws.FnExactIsOrder", spec := "fnExactIsOrder", recurses := true, apart := false }
def FnExactIsOrderSaid : Prop := fnExactIsOrderRow.holds Try.pinned (OpenSpec.ofChange fnExactIsOrderSpec)

/-- ITS FALSE NEIGHBOUR: 'it returns false'. Refute it at one input. -/
def fnExactIsOrderWrong : ChangeSpec := { name := "fnExactIsOrder", fn := fun _ => fun
  | [d] => { results := [.lit (.bool false)], args := [d] }
  | _ => none }
def FnExactIsOrderWrongFalsely : Prop := fnExactIsOrderRow.holds Try.pinned (OpenSpec.ofChange fnExactIsOrderWrong)

/-- 'laws.FnExactNumberOfOrder': WHATEVER THE INPUT: true; the input reads as it did. -/
def fnExactNumberOfOrderSpec : ChangeSpec := { name := "fnExactNumberOfOrder", fn := fun _ => fun
  | [d] => { results := [.lit (.bool true)], args := [d] }
  | _ => none }
def fnExactNumberOfOrderRow : OpenClaim := { program := "yticenfholnencaa", sum := "85cda704261793b97024517b3f5c689534c0eced5aef1eb8dfe86538edd11fb0", func := "loop.example/g01339/laws.FnExactNumberOfOrder", spec := "fnExactNumberOfOrder", recurses := true, apart := false }
def FnExactNumberOfOrderSaid : Prop := fnExactNumberOfOrderRow.holds Try.pinned (OpenSpec.ofChange fnExactNumberOfOrderSpec)

/-- ITS FALSE NEIGHBOUR: 'it returns false'. Refute it at one input. -/
def fnExactNumberOfOrderWrong : ChangeSpec := { name := "fnExactNumberOfOrder", fn := fun _ => fun
  | [d] => { results := [.lit (.bool false)], args := [d] }
  | _ => none }
def FnExactNumberOfOrderWrongFalsely : Prop := fnExactNumberOfOrderRow.holds Try.pinned (OpenSpec.ofChange fnExactNumberOfOrderWrong)

/-- 'laws.FnExactCodeOfOrder': WHATEVER THE INPUT: true; the input reads as it did. -/
def fnExactCodeOfOrderSpec : ChangeSpec := { name := "fnExactCodeOfOrder", fn := fun _ => fun
  | [d] => { results := [.lit (.bool true)], args := [d] }
  | _ => none }
def fnExactCodeOfOrderRow : OpenClaim := { program := "yticenfholnencaa", sum := "85cda704261793b97024517b3f5c689534c0eced5aef1eb8dfe86538edd11fb0", func := "loop.example/g01339/laws.FnExactCodeOfOrder", spec := "fnExactCodeOfOrder", recurses := true, apart := false }
def FnExactCodeOfOrderSaid : Prop := fnExactCodeOfOrderRow.holds Try.pinned (OpenSpec.ofChange fnExactCodeOfOrderSpec)

/-- ITS FALSE NEIGHBOUR: 'it returns false'. Refute it at one input. -/
def fnExactCodeOfOrderWrong : ChangeSpec := { name := "fnExactCodeOfOrder", fn := fun _ => fun
  | [d] => { results := [.lit (.bool false)], args := [d] }
  | _ => none }
def FnExactCodeOfOrderWrongFalsely : Prop := fnExactCodeOfOrderRow.holds Try.pinned (OpenSpec.ofChange fnExactCodeOfOrderWrong)

/-- 'laws.FnExactTurnedDigits': WHATEVER THE INPUT: true; the input reads as it did. -/
def fnExactTurnedDigitsSpec : ChangeSpec := { name := "fnExactTurnedDigits", fn := fun _ => fun
  | [d1, d2, d3] => { results := [.lit (.bool true)], args := [d1, d2, d3] }
  | _ => none }
def fnExactTurnedDigitsRow : OpenClaim := { program := "yticenfholnencaa", sum := "85cda704261793b97024517b3f5c689534c0eced5aef1eb8dfe86538edd11fb0", func := "loop.example/g01339/laws.FnExactTurnedDigits", spec := "fnExactTurnedDigits", recurses := true, apart := false }
def FnExactTurnedDigitsSaid : Prop := fnExactTurnedDigitsRow.holds Try.pinned (OpenSpec.ofChange fnExactTurnedDigitsSpec)

/-- ITS FALSE NEIGHBOUR: 'it returns false'. Refute it at one input. -/
def fnExactTurnedDigitsWrong : ChangeSpec := { name := "fnExactTurnedDigits", fn := fun _ => fun
  | [d1, d2, d3] => { results := [.lit (.bool false)], args := [d1, d2, d3] }
  | _ => none }
def FnExactTurnedDigitsWrongFalsely : Prop := fnExactTurnedDigitsRow.holds Try.pinned (OpenSpec.ofChange fnExactTurnedDigitsWrong)

/-- 'laws.FnExactAreEdges': WHATEVER THE INPUT: true; the input reads as it did. -/
def fnExactAreEdgesSpec : ChangeSpec := { name := "fnExactAreEdges", fn := fun _ => fun
  | [d1, d2] => { results := [.lit (.bool true)], args := [d1, d2] }
  | _ => none }
def fnExactAreEdgesRow : OpenClaim := { program := "yticenfholnencaa", sum := "85cda704261793b97024517b3f5c689534c0eced5aef1eb8dfe86538edd11fb0", func := "loop.example/g01339/laws.FnExactAreEdges", spec := "fnExactAreEdges", unfollowed := true, recurses := true, apart := false }
def FnExactAreEdgesSaid : Prop := fnExactAreEdgesRow.holds Try.pinned (OpenSpec.ofChange fnExactAreEdgesSpec)

/-- ITS FALSE NEIGHBOUR: 'it returns false'. Refute it at one input. -/
def fnExactAreEdgesWrong : ChangeSpec := { name := "fnExactAreEdges", fn := fun _ => fun
  | [d1, d2] => { results := [.lit (.bool false)], args := [d1, d2] }
  | _ => none }
def FnExactAreEdgesWrongFalsely : Prop := fnExactAreEdgesRow.holds Try.pinned (OpenSpec.ofChange fnExactAreEdgesWrong)

/-- 'laws.FnExactDegreesOf': WHATEVER THE INPUT: true; the input reads as it did. -/
def fnExactDegreesOfSpec : ChangeSpec := { name := "fnExactDegreesOf", fn := fun _ => fun
  | [d1, d2] => { results := [.lit (.bool true)], args := [d1, d2] }
  | _ => none }
def fnExactDegreesOfRow : OpenClaim := { program := "yticenfholnencaa", sum := "85cda704261793b97024517b3f5c689534c0eced5aef1eb8dfe86538edd11fb0", func := "loop.example/g01339/laws.FnExactDegreesOf", spec := "fnExactDegreesOf", unfollowed := true, recurses := true, apart := false }
def FnExactDegreesOfSaid : Prop := fnExactDegreesOfRow.holds Try.pinned (OpenSpec.ofChange fnExactDegreesOfSpec)

/-- ITS FALSE NEIGHBOUR: 'it returns false'. Refute it at one input. -/
def fnExactDegreesOfWrong : ChangeSpec := { name := "fnExactDegreesOf", fn := fun _ => fun
  | [d1, d2] => { results := [.lit (.bool false)], args := [d1, d2] }
  | _ => none }
def FnExactDegreesOfWrongFalsely : Prop := fnExactDegreesOfRow.holds Try.pinned (OpenSpec.ofChange fnExactDegreesOfWrong)

/- THE SECOND FORM. 'bulk': how many values and letters a reading holds, each counted each time it is reached (what is shared counts as often as it is met; a slice's spare places count too). A statement '..UptoSaid' is the law's where the arguments, and the package variables that the reading takes, are together of bulk at most 1048576: NARROWER than '..Said'. Prove '..Said' where nothing that the law and all that it calls make is longer than what came in: it says more and counts as full. Else prove '..UptoSaid'. A law counts once. -/
mutual
def uptoBulk {H : Type} : DataW H → Nat
  | .lit (.string bytes) => bytes.length + 1
  | .lit _ => 1
  | .nil => 1
  | .ptr d => uptoBulk d + 1
  | .slice elems spare => uptoBulkAll elems + uptoBulkAll spare + 1
  | .agg parts => uptoBulkAll parts + 1
  | .iface _ d => uptoBulk d + 1
  | .map entries => uptoBulkEntries entries + 1
  | .held _ => 1
def uptoBulkAll {H : Type} : List (DataW H) → Nat
  | [] => 0
  | d :: r => uptoBulk d + uptoBulkAll r
def uptoBulkEntries {H : Type} : List (Lit × DataW H) → Nat
  | [] => 0
  | x :: r => uptoBulkEntry x + uptoBulkEntries r
def uptoBulkEntry {H : Type} : Lit × DataW H → Nat
  | (.string bytes, d) => bytes.length + uptoBulk d + 1
  | (_, d) => uptoBulk d + 1
 end
def uptoSmall : (H : Type) → List (DataW H) → Bool := fun _ ds => decide (uptoBulkAll ds ≤ 1048576)
def OpenSpec.upto (s : _root_.Go.ChangeSpec) : _root_.Go.OpenSpec := { _root_.Go.OpenSpec.ofChange s with cond := some uptoSmall }

/-- 'laws.FnExactValidAlias', WHERE WHAT IT READS IS OF BULK AT MOST 1048576: true; the input reads as it did. -/
def fnExactValidAliasUptoRow : OpenClaim := { program := "yticenfholnencaa", sum := "85cda704261793b97024517b3f5c689534c0eced5aef1eb8dfe86538edd11fb0", func := "loop.example/g01339/laws.FnExactValidAlias", spec := "fnExactValidAlias", apart := false, narrowed := true }
def FnExactValidAliasUptoSaid : Prop := fnExactValidAliasUptoRow.holds Try.pinned (OpenSpec.upto fnExactValidAliasSpec)

/-- 'laws.FnExactSpreadPoints', WHERE WHAT IT READS IS OF BULK AT MOST 1048576: true; the input reads as it did. -/
def fnExactSpreadPointsUptoRow : OpenClaim := { program := "yticenfholnencaa", sum := "85cda704261793b97024517b3f5c689534c0eced5aef1eb8dfe86538edd11fb0", func := "loop.example/g01339/laws.FnExactSpreadPoints", spec := "fnExactSpreadPoints", apart := false, narrowed := true }
def FnExactSpreadPointsUptoSaid : Prop := fnExactSpreadPointsUptoRow.holds Try.pinned (OpenSpec.upto fnExactSpreadPointsSpec)

/-- 'laws.FnExactChiOf', WHERE WHAT IT READS IS OF BULK AT MOST 1048576: true; the input reads as it did. -/
def fnExactChiOfUptoRow : OpenClaim := { program := "yticenfholnencaa", sum := "85cda704261793b97024517b3f5c689534c0eced5aef1eb8dfe86538edd11fb0", func := "loop.example/g01339/laws.FnExactChiOf", spec := "fnExactChiOf", unfollowed := true, recurses := true, apart := false, narrowed := true }
def FnExactChiOfUptoSaid : Prop := fnExactChiOfUptoRow.holds Try.pinned (OpenSpec.upto fnExactChiOfSpec)

/-- 'laws.FnExactBallPoint', WHERE WHAT IT READS IS OF BULK AT MOST 1048576: true; the input reads as it did. -/
def fnExactBallPointUptoRow : OpenClaim := { program := "yticenfholnencaa", sum := "85cda704261793b97024517b3f5c689534c0eced5aef1eb8dfe86538edd11fb0", func := "loop.example/g01339/laws.FnExactBallPoint", spec := "fnExactBallPoint", inPlace := ["math.sqrt"], apart := false, narrowed := true }
def FnExactBallPointUptoSaid : Prop := fnExactBallPointUptoRow.holds Try.pinned (OpenSpec.upto fnExactBallPointSpec)

/-- 'laws.FnExactWaitSeed', WHERE WHAT IT READS IS OF BULK AT MOST 1048576: true; the input reads as it did. -/
def fnExactWaitSeedUptoRow : OpenClaim := { program := "yticenfholnencaa", sum := "85cda704261793b97024517b3f5c689534c0eced5aef1eb8dfe86538edd11fb0", func := "loop.example/g01339/laws.FnExactWaitSeed", spec := "fnExactWaitSeed", inPlace := ["math.Float64frombits", "math.Float64bits"], unfollowed := true, recurses := true, apart := false, narrowed := true }
def FnExactWaitSeedUptoSaid : Prop := fnExactWaitSeedUptoRow.holds Try.pinned (OpenSpec.upto fnExactWaitSeedSpec)

/-- 'laws.FnExactBellQuotient', WHERE WHAT IT READS IS OF BULK AT MOST 1048576: true; the input reads as it did. -/
def fnExactBellQuotientUptoRow : OpenClaim := { program := "yticenfholnencaa", sum := "85cda704261793b97024517b3f5c689534c0eced5aef1eb8dfe86538edd11fb0", func := "loop.example/g01339/laws.FnExactBellQuotient", spec := "fnExactBellQuotient", inPlace := ["math.Float64frombits", "math.Float64bits"], apart := false, narrowed := true }
def FnExactBellQuotientUptoSaid : Prop := fnExactBellQuotientUptoRow.holds Try.pinned (OpenSpec.upto fnExactBellQuotientSpec)

/-- 'laws.FnExactIsOrder', WHERE WHAT IT READS IS OF BULK AT MOST 1048576: true; the input reads as it did. -/
def fnExactIsOrderUptoRow : OpenClaim := { program := "yticenfholnencaa", sum := "85cda704261793b97024517b3f5c689534c0eced5aef1eb8dfe86538edd11fb0", func := "loop.example/g01339/laws.FnExactIsOrder", spec := "fnExactIsOrder", recurses := true, apart := false, narrowed := true }
def FnExactIsOrderUptoSaid : Prop := fnExactIsOrderUptoRow.holds Try.pinned (OpenSpec.upto fnExactIsOrderSpec)

/-- 'laws.FnExactNumberOfOrder', WHERE WHAT IT READS IS OF BULK AT MOST 1048576: true; the input reads as it did. -/
def fnExactNumberOfOrderUptoRow : OpenClaim := { program := "yticenfholnencaa", sum := "85cda704261793b97024517b3f5c689534c0eced5aef1eb8dfe86538edd11fb0", func := "loop.example/g01339/laws.FnExactNumberOfOrder", spec := "fnExactNumberOfOrder", recurses := true, apart := false, narrowed := true }
def FnExactNumberOfOrderUptoSaid : Prop := fnExactNumberOfOrderUptoRow.holds Try.pinned (OpenSpec.upto fnExactNumberOfOrderSpec)

/-- 'laws.FnExactCodeOfOrder', WHERE WHAT IT READS IS OF BULK AT MOST 1048576: true; the input reads as it did. -/
def fnExactCodeOfOrderUptoRow : OpenClaim := { program := "yticenfholnencaa", sum := "85cda704261793b97024517b3f5c689534c0eced5aef1eb8dfe86538edd11fb0", func := "loop.example/g01339/laws.FnExactCodeOfOrder", spec := "fnExactCodeOfOrder", recurses := true, apart := false, narrowed := true }
def FnExactCodeOfOrderUptoSaid : Prop := fnExactCodeOfOrderUptoRow.holds Try.pinned (OpenSpec.upto fnExactCodeOfOrderSpec)

/-- 'laws.FnExactTurnedDigits', WHERE WHAT IT READS IS OF BULK AT MOST 1048576: true; the input reads as it did. -/
def fnExactTurnedDigitsUptoRow : OpenClaim := { program := "yticenfholnencaa", sum := "85cda704261793b97024517b3f5c689534c0eced5aef1eb8dfe86538edd11fb0", func := "loop.example/g01339/laws.FnExactTurnedDigits", spec := "fnExactTurnedDigits", recurses := true, apart := false, narrowed := true }
def FnExactTurnedDigitsUptoSaid : Prop := fnExactTurnedDigitsUptoRow.holds Try.pinned (OpenSpec.upto fnExactTurnedDigitsSpec)

/-- 'laws.FnExactAreEdges', WHERE WHAT IT READS IS OF BULK AT MOST 1048576: true; the input reads as it did. -/
def fnExactAreEdgesUptoRow : OpenClaim := { program := "yticenfholnencaa", sum := "85cda704261793b97024517b3f5c689534c0eced5aef1eb8dfe86538edd11fb0", func := "loop.example/g01339/laws.FnExactAreEdges", spec := "fnExactAreEdges", unfollowed := true, recurses := true, apart := false, narrowed := true }
def FnExactAreEdgesUptoSaid : Prop := fnExactAreEdgesUptoRow.holds Try.pinned (OpenSpec.upto fnExactAreEdgesSpec)

/-- 'laws.FnExactDegreesOf', WHERE WHAT IT READS IS OF BULK AT MOST 1048576: true; the input reads as it did. -/
def fnExactDegreesOfUptoRow : OpenClaim := { program := "yticenfholnencaa", sum := "85cda704261793b97024517b3f5c689534c0eced5aef1eb8dfe86538edd11fb0", func := "loop.example/g01339/laws.FnExactDegreesOf", spec := "fnExactDegreesOf", unfollowed := true, recurses := true, apart := false, narrowed := true }
def FnExactDegreesOfUptoSaid : Prop := fnExactDegreesOfUptoRow.holds Try.pinned (OpenSpec.upto fnExactDegreesOfSpec)

end Rows
end Go.Proofs.Yticenfholnencaa
