/-
  No cell of these rows narrows 'for every input' (looked for: loops, veiled, ifaces, maps, wideKeys, modest, calm, conditions, laid).
  DERIVED. THE GIVEN ROWS OF THIS SEAT. 11 by the template 'for every input the law returns true; each argument reads behind the call as it read before'; 0 by the template 'total and deterministic' (their statements: YtoddmplmeliioaaTotals.lean).
  GIVEN WITH THE SEED: the statements are not yours to turn. If you find one false, say at which input.
  Laid BY PROGRAM, IN A SANDBOX (cutbox-rows.mjs): the forced cells as the released guide's own fill.sh prints them over the translation b8dbc07d51511934… (all of the seat's roots in one cut). By AI agents, Wed Nov 11 2026. No macro, syntax, notation, axiom, sorry.
-/
import Derived.Test.YtoddmplmeliioaaChecked
import GoSem.Claim
import GoSem.ClaimJoined
import GoSem.ClaimMapViews
import Derived.JoinedTies
import Derived.KernelRfl
namespace Go.Proofs.Ytoddmplmeliioaa
/- THE CELL 'sum', in the pinned program and in every row, IS THE sha256 OF THE DUMP (.gsa) THAT YtoddmplmeliioaaProg.lean LOADS. Nothing in Lean hashes anything: it is a label: what it is worth is what the hold of that sum in a sandbox is worth. -/
noncomputable def Try.pinned : Pinned := { name := "ytoddmplmeliioaa", sum := "b8dbc07d5151193426aab81f70c57bd013fd3ad37d14bd09a4c757d3ea64c036", checked := Try.checked }
namespace Rows
def none {H : Type} : Left H := { results := [], args := [] }

/-- 'laws.FnExactArePicks': WHATEVER THE INPUT: true; the input reads as it did. -/
def fnExactArePicksSpec : ChangeSpec := { name := "fnExactArePicks", fn := fun _ => fun
  | [d] => { results := [.lit (.bool true)], args := [d] }
  | _ => none }
def fnExactArePicksRow : OpenClaim := { program := "ytoddmplmeliioaa", sum := "b8dbc07d5151193426aab81f70c57bd013fd3ad37d14bd09a4c757d3ea64c036", func := "loop.example/g01339/laws.FnExactArePicks", spec := "fnExactArePicks", unfollowed := true, recurses := true, apart := false }
def FnExactArePicksSaid : Prop := fnExactArePicksRow.holds Try.pinned (OpenSpec.ofChange fnExactArePicksSpec)

/-- ITS FALSE NEIGHBOUR: 'it returns false'. Refute it at one input. -/
def fnExactArePicksWrong : ChangeSpec := { name := "fnExactArePicks", fn := fun _ => fun
  | [d] => { results := [.lit (.bool false)], args := [d] }
  | _ => none }
def FnExactArePicksWrongFalsely : Prop := fnExactArePicksRow.holds Try.pinned (OpenSpec.ofChange fnExactArePicksWrong)

/-- 'laws.FnExactSpreadPoints': WHATEVER THE INPUT: true; the input reads as it did. -/
def fnExactSpreadPointsSpec : ChangeSpec := { name := "fnExactSpreadPoints", fn := fun _ => fun
  | [d1, d2] => { results := [.lit (.bool true)], args := [d1, d2] }
  | _ => none }
def fnExactSpreadPointsRow : OpenClaim := { program := "ytoddmplmeliioaa", sum := "b8dbc07d5151193426aab81f70c57bd013fd3ad37d14bd09a4c757d3ea64c036", func := "loop.example/g01339/laws.FnExactSpreadPoints", spec := "fnExactSpreadPoints", apart := false }
def FnExactSpreadPointsSaid : Prop := fnExactSpreadPointsRow.holds Try.pinned (OpenSpec.ofChange fnExactSpreadPointsSpec)

/-- ITS FALSE NEIGHBOUR: 'it returns false'. Refute it at one input. -/
def fnExactSpreadPointsWrong : ChangeSpec := { name := "fnExactSpreadPoints", fn := fun _ => fun
  | [d1, d2] => { results := [.lit (.bool false)], args := [d1, d2] }
  | _ => none }
def FnExactSpreadPointsWrongFalsely : Prop := fnExactSpreadPointsRow.holds Try.pinned (OpenSpec.ofChange fnExactSpreadPointsWrong)

/-- 'laws.FnExactOrderOfCode': WHATEVER THE INPUT: true; the input reads as it did. -/
def fnExactOrderOfCodeSpec : ChangeSpec := { name := "fnExactOrderOfCode", fn := fun _ => fun
  | [d] => { results := [.lit (.bool true)], args := [d] }
  | _ => none }
def fnExactOrderOfCodeRow : OpenClaim := { program := "ytoddmplmeliioaa", sum := "b8dbc07d5151193426aab81f70c57bd013fd3ad37d14bd09a4c757d3ea64c036", func := "loop.example/g01339/laws.FnExactOrderOfCode", spec := "fnExactOrderOfCode", apart := false }
def FnExactOrderOfCodeSaid : Prop := fnExactOrderOfCodeRow.holds Try.pinned (OpenSpec.ofChange fnExactOrderOfCodeSpec)

/-- ITS FALSE NEIGHBOUR: 'it returns false'. Refute it at one input. -/
def fnExactOrderOfCodeWrong : ChangeSpec := { name := "fnExactOrderOfCode", fn := fun _ => fun
  | [d] => { results := [.lit (.bool false)], args := [d] }
  | _ => none }
def FnExactOrderOfCodeWrongFalsely : Prop := fnExactOrderOfCodeRow.holds Try.pinned (OpenSpec.ofChange fnExactOrderOfCodeWrong)

/-- 'laws.FnExactTreeOf': WHATEVER THE INPUT: true; the input reads as it did. -/
def fnExactTreeOfSpec : ChangeSpec := { name := "fnExactTreeOf", fn := fun _ => fun
  | [d] => { results := [.lit (.bool true)], args := [d] }
  | _ => none }
def fnExactTreeOfRow : OpenClaim := { program := "ytoddmplmeliioaa", sum := "b8dbc07d5151193426aab81f70c57bd013fd3ad37d14bd09a4c757d3ea64c036", func := "loop.example/g01339/laws.FnExactTreeOf", spec := "fnExactTreeOf", unfollowed := true, recurses := true, apart := false }
def FnExactTreeOfSaid : Prop := fnExactTreeOfRow.holds Try.pinned (OpenSpec.ofChange fnExactTreeOfSpec)

/-- ITS FALSE NEIGHBOUR: 'it returns false'. Refute it at one input. -/
def fnExactTreeOfWrong : ChangeSpec := { name := "fnExactTreeOf", fn := fun _ => fun
  | [d] => { results := [.lit (.bool false)], args := [d] }
  | _ => none }
def FnExactTreeOfWrongFalsely : Prop := fnExactTreeOfRow.holds Try.pinned (OpenSpec.ofChange fnExactTreeOfWrong)

/-- 'laws.FnExactTreeSum': WHATEVER THE INPUT: true; the input reads as it did. -/
def fnExactTreeSumSpec : ChangeSpec := { name := "fnExactTreeSum", fn := fun _ => fun
  | [d1, d2] => { results := [.lit (.bool true)], args := [d1, d2] }
  | _ => none }
def fnExactTreeSumRow : OpenClaim := { program := "ytoddmplmeliioaa", sum := "b8dbc07d5151193426aab81f70c57bd013fd3ad37d14bd09a4c757d3ea64c036", func := "loop.example/g01339/laws.FnExactTreeSum", spec := "fnExactTreeSum", unfollowed := true, recurses := true, apart := false }
def FnExactTreeSumSaid : Prop := fnExactTreeSumRow.holds Try.pinned (OpenSpec.ofChange fnExactTreeSumSpec)

/-- ITS FALSE NEIGHBOUR: 'it returns false'. Refute it at one input. -/
def fnExactTreeSumWrong : ChangeSpec := { name := "fnExactTreeSum", fn := fun _ => fun
  | [d1, d2] => { results := [.lit (.bool false)], args := [d1, d2] }
  | _ => none }
def FnExactTreeSumWrongFalsely : Prop := fnExactTreeSumRow.holds Try.pinned (OpenSpec.ofChange fnExactTreeSumWrong)

/-- 'laws.FnExactAreEdges': WHATEVER THE INPUT: true; the input reads as it did. -/
def fnExactAreEdgesSpec : ChangeSpec := { name := "fnExactAreEdges", fn := fun _ => fun
  | [d1, d2] => { results := [.lit (.bool true)], args := [d1, d2] }
  | _ => none }
def fnExactAreEdgesRow : OpenClaim := { program := "ytoddmplmeliioaa", sum := "b8dbc07d5151193426aab81f70c57bd013fd3ad37d14bd09a4c757d3ea64c036", func := "loop.example/g01339/laws.FnExactAreEdges", spec := "fnExactAreEdges", unfollowed := true, recurses := true, apart := false }
def FnExactAreEdgesSaid : Prop := fnExactAreEdgesRow.holds Try.pinned (OpenSpec.ofChange fnExactAreEdgesSpec)

/-- ITS FALSE NEIGHBOUR: 'it returns false'. Refute it at one input. -/
def fnExactAreEdgesWrong : ChangeSpec := { name := "fnExactAreEdges", fn := fun _ => fun
  | [d1, d2] => { results := [.lit (.bool false)], args := [d1, d2] }
  | _ => none }
def FnExactAreEdgesWrongFalsely : Prop := fnExactAreEdgesRow.holds Try.pinned (OpenSpec.ofChange fnExactAreEdgesWrong)

/-- 'laws.FnExactOrderOfNumber': WHATEVER THE INPUT: true; the input reads as it did. -/
def fnExactOrderOfNumberSpec : ChangeSpec := { name := "fnExactOrderOfNumber", fn := fun _ => fun
  | [d1, d2] => { results := [.lit (.bool true)], args := [d1, d2] }
  | _ => none }
def fnExactOrderOfNumberRow : OpenClaim := { program := "ytoddmplmeliioaa", sum := "b8dbc07d5151193426aab81f70c57bd013fd3ad37d14bd09a4c757d3ea64c036", func := "loop.example/g01339/laws.FnExactOrderOfNumber", spec := "fnExactOrderOfNumber", apart := false }
def FnExactOrderOfNumberSaid : Prop := fnExactOrderOfNumberRow.holds Try.pinned (OpenSpec.ofChange fnExactOrderOfNumberSpec)

/-- ITS FALSE NEIGHBOUR: 'it returns false'. Refute it at one input. -/
def fnExactOrderOfNumberWrong : ChangeSpec := { name := "fnExactOrderOfNumber", fn := fun _ => fun
  | [d1, d2] => { results := [.lit (.bool false)], args := [d1, d2] }
  | _ => none }
def FnExactOrderOfNumberWrongFalsely : Prop := fnExactOrderOfNumberRow.holds Try.pinned (OpenSpec.ofChange fnExactOrderOfNumberWrong)

/-- 'laws.FnExactValidAlias': WHATEVER THE INPUT: true; the input reads as it did. -/
def fnExactValidAliasSpec : ChangeSpec := { name := "fnExactValidAlias", fn := fun _ => fun
  | [d] => { results := [.lit (.bool true)], args := [d] }
  | _ => none }
def fnExactValidAliasRow : OpenClaim := { program := "ytoddmplmeliioaa", sum := "b8dbc07d5151193426aab81f70c57bd013fd3ad37d14bd09a4c757d3ea64c036", func := "loop.example/g01339/laws.FnExactValidAlias", spec := "fnExactValidAlias", apart := false }
def FnExactValidAliasSaid : Prop := fnExactValidAliasRow.holds Try.pinned (OpenSpec.ofChange fnExactValidAliasSpec)

/-- ITS FALSE NEIGHBOUR: 'it returns false'. Refute it at one input. -/
def fnExactValidAliasWrong : ChangeSpec := { name := "fnExactValidAlias", fn := fun _ => fun
  | [d] => { results := [.lit (.bool false)], args := [d] }
  | _ => none }
def FnExactValidAliasWrongFalsely : Prop := fnExactValidAliasRow.holds Try.pinned (OpenSpec.ofChange fnExactValidAliasWrong)

/-- 'laws.FnExactChiOf': WHATEVER THE INPUT: true; the input reads as it did. -/
def fnExactChiOfSpec : ChangeSpec := { name := "fnExactChiOf", fn := fun _ => fun
  | [d1, d2] => { results := [.lit (.bool true)], args := [d1, d2] }
  | _ => none }
def fnExactChiOfRow : OpenClaim := { program := "ytoddmplmeliioaa", sum := "b8dbc07d5151193426aab81f70c57bd013fd3ad37d14bd09a4c757d3ea64c036", func := "loop.example/g01339/laws.FnExactChiOf", spec := "fnExactChiOf", unfollowed := true, recurses := true, apart := false }
def FnExactChiOfSaid : Prop := fnExactChiOfRow.holds Try.pinned (OpenSpec.ofChange fnExactChiOfSpec)

/-- ITS FALSE NEIGHBOUR: 'it returns false'. Refute it at one input. -/
def fnExactChiOfWrong : ChangeSpec := { name := "fnExactChiOf", fn := fun _ => fun
  | [d1, d2] => { results := [.lit (.bool false)], args := [d1, d2] }
  | _ => none }
def FnExactChiOfWrongFalsely : Prop := fnExactChiOfRow.holds Try.pinned (OpenSpec.ofChange fnExactChiOfWrong)

/-- 'laws.FnExactTreeAdd': WHATEVER THE INPUT: true; the input reads as it did. -/
def fnExactTreeAddSpec : ChangeSpec := { name := "fnExactTreeAdd", fn := fun _ => fun
  | [d1, d2, d3] => { results := [.lit (.bool true)], args := [d1, d2, d3] }
  | _ => none }
def fnExactTreeAddRow : OpenClaim := { program := "ytoddmplmeliioaa", sum := "b8dbc07d5151193426aab81f70c57bd013fd3ad37d14bd09a4c757d3ea64c036", func := "loop.example/g01339/laws.FnExactTreeAdd", spec := "fnExactTreeAdd", unfollowed := true, recurses := true, apart := false }
def FnExactTreeAddSaid : Prop := fnExactTreeAddRow.holds Try.pinned (OpenSpec.ofChange fnExactTreeAddSpec)

/-- ITS FALSE NEIGHBOUR: 'it returns false'. Refute it at one input. -/
def fnExactTreeAddWrong : ChangeSpec := { name := "fnExactTreeAdd", fn := fun _ => fun
  | [d1, d2, d3] => { results := [.lit (.bool false)], args := [d1, d2, d3] }
  | _ => none }
def FnExactTreeAddWrongFalsely : Prop := fnExactTreeAddRow.holds Try.pinned (OpenSpec.ofChange fnExactTreeAddWrong)

/-- 'laws.FnExactDegreesOf': WHATEVER THE INPUT: true; the input reads as it did. -/
def fnExactDegreesOfSpec : ChangeSpec := { name := "fnExactDegreesOf", fn := fun _ => fun
  | [d1, d2] => { results := [.lit (.bool true)], args := [d1, d2] }
  | _ => none }
def fnExactDegreesOfRow : OpenClaim := { program := "ytoddmplmeliioaa", sum := "b8dbc07d5151193426aab81f70c57bd013fd3ad37d14bd09a4c757d3ea64c036", func := "loop.example/g01339/laws.FnExactDegreesOf", spec := "fnExactDegreesOf", unfollowed := true, recurses := true, apart := false }
def FnExactDegreesOfSaid : Prop := fnExactDegreesOfRow.holds Try.pinned (OpenSpec.ofChange fnExactDegreesOfSpec)

/-- ITS FALSE NEIGHBOUR: 'it returns false'. Refute it at one input. -/
def fnExactDegreesOfWrong : ChangeSpec := { name := "fnExactDegreesOf", fn := fun _ => fun
  | [d1, d2] => { results := [.lit (.bool false)], args := [d1, d2] }
  | _ => none }
def FnExactDegreesOfWrongFalsely : Prop := fnExactDegreesOfRow.holds Try.pinned (OpenSpec.ofChange fnExactDegreesOfWrong)

/- THE SECOND FORM. 'bulk': how many values and letters a reading holds, each counted each time it is reached (what is shared counts as often as it is met; a slice's spare places count too). A statement '..UptoSaid' is the law's where the arguments, and the package variables that the reading takes, are together of bulk at most 1048576: NARROWER than '..Said'. Prove '..Said' where nothing that the law and all that it calls make is longer than what came in: it says more and counts as full. Else prove '..UptoSaid'. A law counts once. -/
mutual
def uptoBulk {H : Type} : DataW H → Nat
  | .lit (.string bytes) => bytes.length + 1
  | .lit _ => 1
  | .nil => 1
  | .ptr d => uptoBulk d + 1
  | .slice elems spare => uptoBulkAll elems + uptoBulkAll spare + 1
  | .agg parts => uptoBulkAll parts + 1
  | .iface _ d => uptoBulk d + 1
  | .map entries => uptoBulkEntries entries + 1
  | .held _ => 1
def uptoBulkAll {H : Type} : List (DataW H) → Nat
  | [] => 0
  | d :: r => uptoBulk d + uptoBulkAll r
def uptoBulkEntries {H : Type} : List (Lit × DataW H) → Nat
  | [] => 0
  | x :: r => uptoBulkEntry x + uptoBulkEntries r
def uptoBulkEntry {H : Type} : Lit × DataW H → Nat
  | (.string bytes, d) => bytes.length + uptoBulk d + 1
  | (_, d) => uptoBulk d + 1
 end
def uptoSmall : (H : Type) → List (DataW H) → Bool := fun _ ds => decide (uptoBulkAll ds ≤ 1048576)
def OpenSpec.upto (s : _root_.Go.ChangeSpec) : _root_.Go.OpenSpec := { _root_.Go.OpenSpec.ofChange s with cond := some uptoSmall }

/-- 'laws.FnExactArePicks', WHERE WHAT IT READS IS OF BULK AT MOST 1048576: true; the input reads as it did. -/
def fnExactArePicksUptoRow : OpenClaim := { program := "ytoddmplmeliioaa", sum := "b8dbc07d5151193426aab81f70c57bd013fd3ad37d14bd09a4c757d3ea64c036", func := "loop.example/g01339/laws.FnExactArePicks", spec := "fnExactArePicks", unfollowed := true, recurses := true, apart := false, narrowed := true }
def FnExactArePicksUptoSaid : Prop := fnExactArePicksUptoRow.holds Try.pinned (OpenSpec.upto fnExactArePicksSpec)

/-- 'laws.FnExactSpreadPoints', WHERE WHAT IT READS IS OF BULK AT MOST 1048576: true; the input reads as it did. -/
def fnExactSpreadPointsUptoRow : OpenClaim := { program := "ytoddmplmeliioaa", sum := "b8dbc07d5151193426aab81f70c57bd013fd3ad37d14bd09a4c757d3ea64c036", func := "loop.example/g01339/laws.FnExactSpreadPoints", spec := "fnExactSpreadPoints", apart := false, narrowed := true }
def FnExactSpreadPointsUptoSaid : Prop := fnExactSpreadPointsUptoRow.holds Try.pinned (OpenSpec.upto fnExactSpreadPointsSpec)

/-- 'laws.FnExactOrderOfCode', WHERE WHAT IT READS IS OF BULK AT MOST 1048576: true; the input reads as it did. -/
def fnExactOrderOfCodeUptoRow : OpenClaim := { program := "ytoddmplmeliioaa", sum := "b8dbc07d5151193426aab81f70c57bd013fd3ad37d14bd09a4c757d3ea64c036", func := "loop.example/g01339/laws.FnExactOrderOfCode", spec := "fnExactOrderOfCode", apart := false, narrowed := true }
def FnExactOrderOfCodeUptoSaid : Prop := fnExactOrderOfCodeUptoRow.holds Try.pinned (OpenSpec.upto fnExactOrderOfCodeSpec)

/-- 'laws.FnExactTreeOf', WHERE WHAT IT READS IS OF BULK AT MOST 1048576: true; the input reads as it did. -/
def fnExactTreeOfUptoRow : OpenClaim := { program := "ytoddmplmeliioaa", sum := "b8dbc07d5151193426aab81f70c57bd013fd3ad37d14bd09a4c757d3ea64c036", func := "loop.example/g01339/laws.FnExactTreeOf", spec := "fnExactTreeOf", unfollowed := true, recurses := true, apart := false, narrowed := true }
def FnExactTreeOfUptoSaid : Prop := fnExactTreeOfUptoRow.holds Try.pinned (OpenSpec.upto fnExactTreeOfSpec)

/-- 'laws.FnExactTreeSum', WHERE WHAT IT READS IS OF BULK AT MOST 1048576: true; the input reads as it did. -/
def fnExactTreeSumUptoRow : OpenClaim := { program := "ytoddmplmeliioaa", sum := "b8dbc07d5151193426aab81f70c57bd013fd3ad37d14bd09a4c757d3ea64c036", func := "loop.example/g01339/laws.FnExactTreeSum", spec := "fnExactTreeSum", unfollowed := true, recurses := true, apart := false, narrowed := true }
def FnExactTreeSumUptoSaid : Prop := fnExactTreeSumUptoRow.holds Try.pinned (OpenSpec.upto fnExactTreeSumSpec)

/-- 'laws.FnExactAreEdges', WHERE WHAT IT READS IS OF BULK AT MOST 1048576: true; the input reads as it did. -/
def fnExactAreEdgesUptoRow : OpenClaim := { program := "ytoddmplmeliioaa", sum := "b8dbc07d5151193426aab81f70c57bd013fd3ad37d14bd09a4c757d3ea64c036", func := "loop.example/g01339/laws.FnExactAreEdges", spec := "fnExactAreEdges", unfollowed := true, recurses := true, apart := false, narrowed := true }
def FnExactAreEdgesUptoSaid : Prop := fnExactAreEdgesUptoRow.holds Try.pinned (OpenSpec.upto fnExactAreEdgesSpec)

/-- 'laws.FnExactOrderOfNumber', WHERE WHAT IT READS IS OF BULK AT MOST 1048576: true; the input reads as it did. -/
def fnExactOrderOfNumberUptoRow : OpenClaim := { program := "ytoddmplmeliioaa", sum := "b8dbc07d5151193426aab81f70c57bd013fd3ad37d14bd09a4c757d3ea64c036", func := "loop.example/g01339/laws.FnExactOrderOfNumber", spec := "fnExactOrderOfNumber", apart := false, narrowed := true }
def FnExactOrderOfNumberUptoSaid : Prop := fnExactOrderOfNumberUptoRow.holds Try.pinned (OpenSpec.upto fnExactOrderOfNumberSpec)

/-- 'laws.FnExactValidAlias', WHERE WHAT IT READS IS OF BULK AT MOST 1048576: true; the input reads as it did. -/
def fnExactValidAliasUptoRow : OpenClaim := { program := "ytoddmplmeliioaa", sum := "b8dbc07d5151193426aab81f70c57bd013fd3ad37d14bd09a4c757d3ea64c036", func := "loop.example/g01339/laws.FnExactValidAlias", spec := "fnExactValidAlias", apart := false, narrowed := true }
def FnExactValidAliasUptoSaid : Prop := fnExactValidAliasUptoRow.holds Try.pinned (OpenSpec.upto fnExactValidAliasSpec)

/-- 'laws.FnExactChiOf', WHERE WHAT IT READS IS OF BULK AT MOST 1048576: true; the input reads as it did. -/
def fnExactChiOfUptoRow : OpenClaim := { program := "ytoddmplmeliioaa", sum := "b8dbc07d5151193426aab81f70c57bd013fd3ad37d14bd09a4c757d3ea64c036", func := "loop.example/g01339/laws.FnExactChiOf", spec := "fnExactChiOf", unfollowed := true, recurses := true, apart := false, narrowed := true }
def FnExactChiOfUptoSaid : Prop := fnExactChiOfUptoRow.holds Try.pinned (OpenSpec.upto fnExactChiOfSpec)

/-- 'laws.FnExactTreeAdd', WHERE WHAT IT READS IS OF BULK AT MOST 1048576: true; the input reads as it did. -/
def fnExactTreeAddUptoRow : OpenClaim := { program := "ytoddmplmeliioaa", sum := "b8dbc07d5151193426aab81f70c57bd013fd3ad37d14bd09a4c757d3ea64c036", func := "loop.example/g01339/laws.FnExactTreeAdd", spec := "fnExactTreeAdd", unfollowed := true, recurses := true, apart := false, narrowed := true }
def FnExactTreeAddUptoSaid : Prop := fnExactTreeAddUptoRow.holds Try.pinned (OpenSpec.upto fnExactTreeAddSpec)

/-- 'laws.FnExactDegreesOf', WHERE WHAT IT READS IS OF BULK AT MOST 1048576: true; the input reads as it did. -/
def fnExactDegreesOfUptoRow : OpenClaim := { program := "ytoddmplmeliioaa", sum := "b8dbc07d5151193426aab81f70c57bd013fd3ad37d14bd09a4c757d3ea64c036", func := "loop.example/g01339/laws.FnExactDegreesOf", spec := "fnExactDegreesOf", unfollowed := true, recurses := true, apart := false, narrowed := true }
def FnExactDegreesOfUptoSaid : Prop := fnExactDegreesOfUptoRow.holds Try.pinned (OpenSpec.upto fnExactDegreesOfSpec)

end Rows
end Go.Proofs.Ytoddmplmeliioaa
