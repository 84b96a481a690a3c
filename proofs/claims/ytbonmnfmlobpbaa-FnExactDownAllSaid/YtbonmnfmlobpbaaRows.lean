/-
  No cell of these rows narrows 'for every input' (looked for: loops, veiled, ifaces, maps, wideKeys, modest, calm, conditions, laid).
  DERIVED. THE GIVEN ROWS OF THIS SEAT. 12 by the template 'for every input the law returns true; each argument reads behind the call as it read before'; 0 by the template 'total and deterministic' (their statements: YtbonmnfmlobpbaaTotals.lean).
  GIVEN WITH THE SEED: the statements are not yours to turn. If you find one false, say at which input.
  Laid BY PROGRAM, IN A SANDBOX (cutbox-rows.mjs): the forced cells as the released guide's own fill.sh prints them over the translation ae308f23dff2470c… (all of the seat's roots in one cut). By AI agents, Wed Nov 11 2026. No macro, syntax, notation, axiom, sorry.
-/
import Derived.Test.YtbonmnfmlobpbaaChecked
import GoSem.Claim
import GoSem.ClaimJoined
import GoSem.ClaimMapViews
import Derived.JoinedTies
import Derived.KernelRfl
namespace Go.Proofs.Ytbonmnfmlobpbaa
/- THE CELL 'sum', in the pinned program and in every row, IS THE sha256 OF THE DUMP (.gsa) THAT YtbonmnfmlobpbaaProg.lean LOADS. Nothing in Lean hashes anything: it is a label: what it is worth is what the hold of that sum in a sandbox is worth. -/
noncomputable def Try.pinned : Pinned := { name := "ytbonmnfmlobpbaa", sum := "ae308f23dff2470c2c0defbaafcac41120a83efa8fd113f59d5ea4ce5d178bdd", checked := Try.checked }
namespace Rows
def none {H : Type} : Left H := { results := [], args := [] }

/-- 'laws.FnExactTilingBy': WHATEVER THE INPUT: true; the input reads as it did. -/
def fnExactTilingBySpec : ChangeSpec := { name := "fnExactTilingBy", fn := fun _ => fun
  | [d1, d2] => { results := [.lit (.bool true)], args := [d1, d2] }
  | _ => none }
def fnExactTilingByRow : OpenClaim := { program := "ytbonmnfmlobpbaa", sum := "ae308f23dff2470c2c0defbaafcac41120a83efa8fd113f59d5ea4ce5d178bdd", func := "loop.example/dominotilings/laws.FnExactTilingBy", spec := "fnExactTilingBy", unfollowed := true, recurses := true, apart := false }
def FnExactTilingBySaid : Prop := fnExactTilingByRow.holds Try.pinned (OpenSpec.ofChange fnExactTilingBySpec)

/-- ITS FALSE NEIGHBOUR: 'it returns false'. Refute it at one input. -/
def fnExactTilingByWrong : ChangeSpec := { name := "fnExactTilingBy", fn := fun _ => fun
  | [d1, d2] => { results := [.lit (.bool false)], args := [d1, d2] }
  | _ => none }
def FnExactTilingByWrongFalsely : Prop := fnExactTilingByRow.holds Try.pinned (OpenSpec.ofChange fnExactTilingByWrong)

/-- 'laws.FnExactTilingLow': WHATEVER THE INPUT: true; the input reads as it did. -/
def fnExactTilingLowSpec : ChangeSpec := { name := "fnExactTilingLow", fn := fun _ => fun
  | [d1, d2, d3] => { results := [.lit (.bool true)], args := [d1, d2, d3] }
  | _ => none }
def fnExactTilingLowRow : OpenClaim := { program := "ytbonmnfmlobpbaa", sum := "ae308f23dff2470c2c0defbaafcac41120a83efa8fd113f59d5ea4ce5d178bdd", func := "loop.example/dominotilings/laws.FnExactTilingLow", spec := "fnExactTilingLow", unfollowed := true, recurses := true, apart := false }
def FnExactTilingLowSaid : Prop := fnExactTilingLowRow.holds Try.pinned (OpenSpec.ofChange fnExactTilingLowSpec)

/-- ITS FALSE NEIGHBOUR: 'it returns false'. Refute it at one input. -/
def fnExactTilingLowWrong : ChangeSpec := { name := "fnExactTilingLow", fn := fun _ => fun
  | [d1, d2, d3] => { results := [.lit (.bool false)], args := [d1, d2, d3] }
  | _ => none }
def FnExactTilingLowWrongFalsely : Prop := fnExactTilingLowRow.holds Try.pinned (OpenSpec.ofChange fnExactTilingLowWrong)

/-- 'laws.FnExactTilingHigh': WHATEVER THE INPUT: true; the input reads as it did. -/
def fnExactTilingHighSpec : ChangeSpec := { name := "fnExactTilingHigh", fn := fun _ => fun
  | [d1, d2, d3] => { results := [.lit (.bool true)], args := [d1, d2, d3] }
  | _ => none }
def fnExactTilingHighRow : OpenClaim := { program := "ytbonmnfmlobpbaa", sum := "ae308f23dff2470c2c0defbaafcac41120a83efa8fd113f59d5ea4ce5d178bdd", func := "loop.example/dominotilings/laws.FnExactTilingHigh", spec := "fnExactTilingHigh", unfollowed := true, recurses := true, apart := false }
def FnExactTilingHighSaid : Prop := fnExactTilingHighRow.holds Try.pinned (OpenSpec.ofChange fnExactTilingHighSpec)

/-- ITS FALSE NEIGHBOUR: 'it returns false'. Refute it at one input. -/
def fnExactTilingHighWrong : ChangeSpec := { name := "fnExactTilingHigh", fn := fun _ => fun
  | [d1, d2, d3] => { results := [.lit (.bool false)], args := [d1, d2, d3] }
  | _ => none }
def FnExactTilingHighWrongFalsely : Prop := fnExactTilingHighRow.holds Try.pinned (OpenSpec.ofChange fnExactTilingHighWrong)

/-- 'laws.FnExactFlipRise': WHATEVER THE INPUT: true; the input reads as it did. -/
def fnExactFlipRiseSpec : ChangeSpec := { name := "fnExactFlipRise", fn := fun _ => fun
  | [d1, d2, d3] => { results := [.lit (.bool true)], args := [d1, d2, d3] }
  | _ => none }
def fnExactFlipRiseRow : OpenClaim := { program := "ytbonmnfmlobpbaa", sum := "ae308f23dff2470c2c0defbaafcac41120a83efa8fd113f59d5ea4ce5d178bdd", func := "loop.example/dominotilings/laws.FnExactFlipRise", spec := "fnExactFlipRise", unfollowed := true, recurses := true, apart := false }
def FnExactFlipRiseSaid : Prop := fnExactFlipRiseRow.holds Try.pinned (OpenSpec.ofChange fnExactFlipRiseSpec)

/-- ITS FALSE NEIGHBOUR: 'it returns false'. Refute it at one input. -/
def fnExactFlipRiseWrong : ChangeSpec := { name := "fnExactFlipRise", fn := fun _ => fun
  | [d1, d2, d3] => { results := [.lit (.bool false)], args := [d1, d2, d3] }
  | _ => none }
def FnExactFlipRiseWrongFalsely : Prop := fnExactFlipRiseRow.holds Try.pinned (OpenSpec.ofChange fnExactFlipRiseWrong)

/-- 'laws.FnExactDownOf': WHATEVER THE INPUT: true; the input reads as it did. -/
def fnExactDownOfSpec : ChangeSpec := { name := "fnExactDownOf", fn := fun _ => fun
  | [d1, d2] => { results := [.lit (.bool true)], args := [d1, d2] }
  | _ => none }
def fnExactDownOfRow : OpenClaim := { program := "ytbonmnfmlobpbaa", sum := "ae308f23dff2470c2c0defbaafcac41120a83efa8fd113f59d5ea4ce5d178bdd", func := "loop.example/dominotilings/laws.FnExactDownOf", spec := "fnExactDownOf", unfollowed := true, recurses := true, apart := false }
def FnExactDownOfSaid : Prop := fnExactDownOfRow.holds Try.pinned (OpenSpec.ofChange fnExactDownOfSpec)

/-- ITS FALSE NEIGHBOUR: 'it returns false'. Refute it at one input. -/
def fnExactDownOfWrong : ChangeSpec := { name := "fnExactDownOf", fn := fun _ => fun
  | [d1, d2] => { results := [.lit (.bool false)], args := [d1, d2] }
  | _ => none }
def FnExactDownOfWrongFalsely : Prop := fnExactDownOfRow.holds Try.pinned (OpenSpec.ofChange fnExactDownOfWrong)

/-- 'laws.FnExactUpOf': WHATEVER THE INPUT: true; the input reads as it did. -/
def fnExactUpOfSpec : ChangeSpec := { name := "fnExactUpOf", fn := fun _ => fun
  | [d1, d2] => { results := [.lit (.bool true)], args := [d1, d2] }
  | _ => none }
def fnExactUpOfRow : OpenClaim := { program := "ytbonmnfmlobpbaa", sum := "ae308f23dff2470c2c0defbaafcac41120a83efa8fd113f59d5ea4ce5d178bdd", func := "loop.example/dominotilings/laws.FnExactUpOf", spec := "fnExactUpOf", unfollowed := true, recurses := true, apart := false }
def FnExactUpOfSaid : Prop := fnExactUpOfRow.holds Try.pinned (OpenSpec.ofChange fnExactUpOfSpec)

/-- ITS FALSE NEIGHBOUR: 'it returns false'. Refute it at one input. -/
def fnExactUpOfWrong : ChangeSpec := { name := "fnExactUpOf", fn := fun _ => fun
  | [d1, d2] => { results := [.lit (.bool false)], args := [d1, d2] }
  | _ => none }
def FnExactUpOfWrongFalsely : Prop := fnExactUpOfRow.holds Try.pinned (OpenSpec.ofChange fnExactUpOfWrong)

/-- 'laws.FnExactDownAll': WHATEVER THE INPUT: true; the input reads as it did. -/
def fnExactDownAllSpec : ChangeSpec := { name := "fnExactDownAll", fn := fun _ => fun
  | [d1, d2] => { results := [.lit (.bool true)], args := [d1, d2] }
  | _ => none }
def fnExactDownAllRow : OpenClaim := { program := "ytbonmnfmlobpbaa", sum := "ae308f23dff2470c2c0defbaafcac41120a83efa8fd113f59d5ea4ce5d178bdd", func := "loop.example/dominotilings/laws.FnExactDownAll", spec := "fnExactDownAll", unfollowed := true, recurses := true, apart := false }
def FnExactDownAllSaid : Prop := fnExactDownAllRow.holds Try.pinned (OpenSpec.ofChange fnExactDownAllSpec)

/-- ITS FALSE NEIGHBOUR: 'it returns false'. Refute it at one input. -/
def fnExactDownAllWrong : ChangeSpec := { name := "fnExactDownAll", fn := fun _ => fun
  | [d1, d2] => { results := [.lit (.bool false)], args := [d1, d2] }
  | _ => none }
def FnExactDownAllWrongFalsely : Prop := fnExactDownAllRow.holds Try.pinned (OpenSpec.ofChange fnExactDownAllWrong)

/-- 'laws.FnExactFlipWay': WHATEVER THE INPUT: true; the input reads as it did. -/
def fnExactFlipWaySpec : ChangeSpec := { name := "fnExactFlipWay", fn := fun _ => fun
  | [d1, d2, d3] => { results := [.lit (.bool true)], args := [d1, d2, d3] }
  | _ => none }
def fnExactFlipWayRow : OpenClaim := { program := "ytbonmnfmlobpbaa", sum := "ae308f23dff2470c2c0defbaafcac41120a83efa8fd113f59d5ea4ce5d178bdd", func := "loop.example/dominotilings/laws.FnExactFlipWay", spec := "fnExactFlipWay", unfollowed := true, recurses := true, apart := false }
def FnExactFlipWaySaid : Prop := fnExactFlipWayRow.holds Try.pinned (OpenSpec.ofChange fnExactFlipWaySpec)

/-- ITS FALSE NEIGHBOUR: 'it returns false'. Refute it at one input. -/
def fnExactFlipWayWrong : ChangeSpec := { name := "fnExactFlipWay", fn := fun _ => fun
  | [d1, d2, d3] => { results := [.lit (.bool false)], args := [d1, d2, d3] }
  | _ => none }
def FnExactFlipWayWrongFalsely : Prop := fnExactFlipWayRow.holds Try.pinned (OpenSpec.ofChange fnExactFlipWayWrong)

/-- 'laws.FnExactHeightSum': WHATEVER THE INPUT: true; the input reads as it did. -/
def fnExactHeightSumSpec : ChangeSpec := { name := "fnExactHeightSum", fn := fun _ => fun
  | [d1, d2] => { results := [.lit (.bool true)], args := [d1, d2] }
  | _ => none }
def fnExactHeightSumRow : OpenClaim := { program := "ytbonmnfmlobpbaa", sum := "ae308f23dff2470c2c0defbaafcac41120a83efa8fd113f59d5ea4ce5d178bdd", func := "loop.example/dominotilings/laws.FnExactHeightSum", spec := "fnExactHeightSum", unfollowed := true, recurses := true, apart := false }
def FnExactHeightSumSaid : Prop := fnExactHeightSumRow.holds Try.pinned (OpenSpec.ofChange fnExactHeightSumSpec)

/-- ITS FALSE NEIGHBOUR: 'it returns false'. Refute it at one input. -/
def fnExactHeightSumWrong : ChangeSpec := { name := "fnExactHeightSum", fn := fun _ => fun
  | [d1, d2] => { results := [.lit (.bool false)], args := [d1, d2] }
  | _ => none }
def FnExactHeightSumWrongFalsely : Prop := fnExactHeightSumRow.holds Try.pinned (OpenSpec.ofChange fnExactHeightSumWrong)

/-- 'laws.FnExactReachMany': WHATEVER THE INPUT: true; the input reads as it did. -/
def fnExactReachManySpec : ChangeSpec := { name := "fnExactReachMany", fn := fun _ => fun
  | [d1, d2] => { results := [.lit (.bool true)], args := [d1, d2] }
  | _ => none }
def fnExactReachManyRow : OpenClaim := { program := "ytbonmnfmlobpbaa", sum := "ae308f23dff2470c2c0defbaafcac41120a83efa8fd113f59d5ea4ce5d178bdd", func := "loop.example/dominotilings/laws.FnExactReachMany", spec := "fnExactReachMany", unfollowed := true, recurses := true, apart := false }
def FnExactReachManySaid : Prop := fnExactReachManyRow.holds Try.pinned (OpenSpec.ofChange fnExactReachManySpec)

/-- ITS FALSE NEIGHBOUR: 'it returns false'. Refute it at one input. -/
def fnExactReachManyWrong : ChangeSpec := { name := "fnExactReachMany", fn := fun _ => fun
  | [d1, d2] => { results := [.lit (.bool false)], args := [d1, d2] }
  | _ => none }
def FnExactReachManyWrongFalsely : Prop := fnExactReachManyRow.holds Try.pinned (OpenSpec.ofChange fnExactReachManyWrong)

/-- 'laws.FnExactLowest': WHATEVER THE INPUT: true; the input reads as it did. -/
def fnExactLowestSpec : ChangeSpec := { name := "fnExactLowest", fn := fun _ => fun
  | [d] => { results := [.lit (.bool true)], args := [d] }
  | _ => none }
def fnExactLowestRow : OpenClaim := { program := "ytbonmnfmlobpbaa", sum := "ae308f23dff2470c2c0defbaafcac41120a83efa8fd113f59d5ea4ce5d178bdd", func := "loop.example/dominotilings/laws.FnExactLowest", spec := "fnExactLowest", unfollowed := true, recurses := true, apart := false }
def FnExactLowestSaid : Prop := fnExactLowestRow.holds Try.pinned (OpenSpec.ofChange fnExactLowestSpec)

/-- ITS FALSE NEIGHBOUR: 'it returns false'. Refute it at one input. -/
def fnExactLowestWrong : ChangeSpec := { name := "fnExactLowest", fn := fun _ => fun
  | [d] => { results := [.lit (.bool false)], args := [d] }
  | _ => none }
def FnExactLowestWrongFalsely : Prop := fnExactLowestRow.holds Try.pinned (OpenSpec.ofChange fnExactLowestWrong)

/-- 'laws.FnExactHighest': WHATEVER THE INPUT: true; the input reads as it did. -/
def fnExactHighestSpec : ChangeSpec := { name := "fnExactHighest", fn := fun _ => fun
  | [d] => { results := [.lit (.bool true)], args := [d] }
  | _ => none }
def fnExactHighestRow : OpenClaim := { program := "ytbonmnfmlobpbaa", sum := "ae308f23dff2470c2c0defbaafcac41120a83efa8fd113f59d5ea4ce5d178bdd", func := "loop.example/dominotilings/laws.FnExactHighest", spec := "fnExactHighest", unfollowed := true, recurses := true, apart := false }
def FnExactHighestSaid : Prop := fnExactHighestRow.holds Try.pinned (OpenSpec.ofChange fnExactHighestSpec)

/-- ITS FALSE NEIGHBOUR: 'it returns false'. Refute it at one input. -/
def fnExactHighestWrong : ChangeSpec := { name := "fnExactHighest", fn := fun _ => fun
  | [d] => { results := [.lit (.bool false)], args := [d] }
  | _ => none }
def FnExactHighestWrongFalsely : Prop := fnExactHighestRow.holds Try.pinned (OpenSpec.ofChange fnExactHighestWrong)

/- THE SECOND FORM. 'bulk': how many values and letters a reading holds, each counted each time it is reached (what is shared counts as often as it is met; a slice's spare places count too). A statement '..UptoSaid' is the law's where the arguments, and the package variables that the reading takes, are together of bulk at most 1048576: NARROWER than '..Said'. Prove '..Said' where nothing that the law and all that it calls make is longer than what came in: it says more and counts as full. Else prove '..UptoSaid'. A law counts once. -/
mutual
def uptoBulk {H : Type} : DataW H → Nat
  | .lit (.string bytes) => bytes.length + 1
  | .lit _ => 1
  | .nil => 1
  | .ptr d => uptoBulk d + 1
  | .slice elems spare => uptoBulkAll elems + uptoBulkAll spare + 1
  | .agg parts => uptoBulkAll parts + 1
  | .iface _ d => uptoBulk d + 1
  | .map entries => uptoBulkEntries entries + 1
  | .held _ => 1
def uptoBulkAll {H : Type} : List (DataW H) → Nat
  | [] => 0
  | d :: r => uptoBulk d + uptoBulkAll r
def uptoBulkEntries {H : Type} : List (Lit × DataW H) → Nat
  | [] => 0
  | x :: r => uptoBulkEntry x + uptoBulkEntries r
def uptoBulkEntry {H : Type} : Lit × DataW H → Nat
  | (.string bytes, d) => bytes.length + uptoBulk d + 1
  | (_, d) => uptoBulk d + 1
 end
def uptoSmall : (H : Type) → List (DataW H) → Bool := fun _ ds => decide (uptoBulkAll ds ≤ 1048576)
def OpenSpec.upto (s : _root_.Go.ChangeSpec) : _root_.Go.OpenSpec := { _root_.Go.OpenSpec.ofChange s with cond := some uptoSmall }

/-- 'laws.FnExactTilingBy', WHERE WHAT IT READS IS OF BULK AT MOST 1048576: true; the input reads as it did. -/
def fnExactTilingByUptoRow : OpenClaim := { program := "ytbonmnfmlobpbaa", sum := "ae308f23dff2470c2c0defbaafcac41120a83efa8fd113f59d5ea4ce5d178bdd", func := "loop.example/dominotilings/laws.FnExactTilingBy", spec := "fnExactTilingBy", unfollowed := true, recurses := true, apart := false, narrowed := true }
def FnExactTilingByUptoSaid : Prop := fnExactTilingByUptoRow.holds Try.pinned (OpenSpec.upto fnExactTilingBySpec)

/-- 'laws.FnExactTilingLow', WHERE WHAT IT READS IS OF BULK AT MOST 1048576: true; the input reads as it did. -/
def fnExactTilingLowUptoRow : OpenClaim := { program := "ytbonmnfmlobpbaa", sum := "ae308f23dff2470c2c0defbaafcac41120a83efa8fd113f59d5ea4ce5d178bdd", func := "loop.example/dominotilings/laws.FnExactTilingLow", spec := "fnExactTilingLow", unfollowed := true, recurses := true, apart := false, narrowed := true }
def FnExactTilingLowUptoSaid : Prop := fnExactTilingLowUptoRow.holds Try.pinned (OpenSpec.upto fnExactTilingLowSpec)

/-- 'laws.FnExactTilingHigh', WHERE WHAT IT READS IS OF BULK AT MOST 1048576: true; the input reads as it did. -/
def fnExactTilingHighUptoRow : OpenClaim := { program := "ytbonmnfmlobpbaa", sum := "ae308f23dff2470c2c0defbaafcac41120a83efa8fd113f59d5ea4ce5d178bdd", func := "loop.example/dominotilings/laws.FnExactTilingHigh", spec := "fnExactTilingHigh", unfollowed := true, recurses := true, apart := false, narrowed := true }
def FnExactTilingHighUptoSaid : Prop := fnExactTilingHighUptoRow.holds Try.pinned (OpenSpec.upto fnExactTilingHighSpec)

/-- 'laws.FnExactFlipRise', WHERE WHAT IT READS IS OF BULK AT MOST 1048576: true; the input reads as it did. -/
def fnExactFlipRiseUptoRow : OpenClaim := { program := "ytbonmnfmlobpbaa", sum := "ae308f23dff2470c2c0defbaafcac41120a83efa8fd113f59d5ea4ce5d178bdd", func := "loop.example/dominotilings/laws.FnExactFlipRise", spec := "fnExactFlipRise", unfollowed := true, recurses := true, apart := false, narrowed := true }
def FnExactFlipRiseUptoSaid : Prop := fnExactFlipRiseUptoRow.holds Try.pinned (OpenSpec.upto fnExactFlipRiseSpec)

/-- 'laws.FnExactDownOf', WHERE WHAT IT READS IS OF BULK AT MOST 1048576: true; the input reads as it did. -/
def fnExactDownOfUptoRow : OpenClaim := { program := "ytbonmnfmlobpbaa", sum := "ae308f23dff2470c2c0defbaafcac41120a83efa8fd113f59d5ea4ce5d178bdd", func := "loop.example/dominotilings/laws.FnExactDownOf", spec := "fnExactDownOf", unfollowed := true, recurses := true, apart := false, narrowed := true }
def FnExactDownOfUptoSaid : Prop := fnExactDownOfUptoRow.holds Try.pinned (OpenSpec.upto fnExactDownOfSpec)

/-- 'laws.FnExactUpOf', WHERE WHAT IT READS IS OF BULK AT MOST 1048576: true; the input reads as it did. -/
def fnExactUpOfUptoRow : OpenClaim := { program := "ytbonmnfmlobpbaa", sum := "ae308f23dff2470c2c0defbaafcac41120a83efa8fd113f59d5ea4ce5d178bdd", func := "loop.example/dominotilings/laws.FnExactUpOf", spec := "fnExactUpOf", unfollowed := true, recurses := true, apart := false, narrowed := true }
def FnExactUpOfUptoSaid : Prop := fnExactUpOfUptoRow.holds Try.pinned (OpenSpec.upto fnExactUpOfSpec)

/-- 'laws.FnExactDownAll', WHERE WHAT IT READS IS OF BULK AT MOST 1048576: true; the input reads as it did. -/
def fnExactDownAllUptoRow : OpenClaim := { program := "ytbonmnfmlobpbaa", sum := "ae308f23dff2470c2c0defbaafcac41120a83efa8fd113f59d5ea4ce5d178bdd", func := "loop.example/dominotilings/laws.FnExactDownAll", spec := "fnExactDownAll", unfollowed := true, recurses := true, apart := false, narrowed := true }
def FnExactDownAllUptoSaid : Prop := fnExactDownAllUptoRow.holds Try.pinned (OpenSpec.upto fnExactDownAllSpec)

/-- 'laws.FnExactFlipWay', WHERE WHAT IT READS IS OF BULK AT MOST 1048576: true; the input reads as it did. -/
def fnExactFlipWayUptoRow : OpenClaim := { program := "ytbonmnfmlobpbaa", sum := "ae308f23dff2470c2c0defbaafcac41120a83efa8fd113f59d5ea4ce5d178bdd", func := "loop.example/dominotilings/laws.FnExactFlipWay", spec := "fnExactFlipWay", unfollowed := true, recurses := true, apart := false, narrowed := true }
def FnExactFlipWayUptoSaid : Prop := fnExactFlipWayUptoRow.holds Try.pinned (OpenSpec.upto fnExactFlipWaySpec)

/-- 'laws.FnExactHeightSum', WHERE WHAT IT READS IS OF BULK AT MOST 1048576: true; the input reads as it did. -/
def fnExactHeightSumUptoRow : OpenClaim := { program := "ytbonmnfmlobpbaa", sum := "ae308f23dff2470c2c0defbaafcac41120a83efa8fd113f59d5ea4ce5d178bdd", func := "loop.example/dominotilings/laws.FnExactHeightSum", spec := "fnExactHeightSum", unfollowed := true, recurses := true, apart := false, narrowed := true }
def FnExactHeightSumUptoSaid : Prop := fnExactHeightSumUptoRow.holds Try.pinned (OpenSpec.upto fnExactHeightSumSpec)

/-- 'laws.FnExactReachMany', WHERE WHAT IT READS IS OF BULK AT MOST 1048576: true; the input reads as it did. -/
def fnExactReachManyUptoRow : OpenClaim := { program := "ytbonmnfmlobpbaa", sum := "ae308f23dff2470c2c0defbaafcac41120a83efa8fd113f59d5ea4ce5d178bdd", func := "loop.example/dominotilings/laws.FnExactReachMany", spec := "fnExactReachMany", unfollowed := true, recurses := true, apart := false, narrowed := true }
def FnExactReachManyUptoSaid : Prop := fnExactReachManyUptoRow.holds Try.pinned (OpenSpec.upto fnExactReachManySpec)

/-- 'laws.FnExactLowest', WHERE WHAT IT READS IS OF BULK AT MOST 1048576: true; the input reads as it did. -/
def fnExactLowestUptoRow : OpenClaim := { program := "ytbonmnfmlobpbaa", sum := "ae308f23dff2470c2c0defbaafcac41120a83efa8fd113f59d5ea4ce5d178bdd", func := "loop.example/dominotilings/laws.FnExactLowest", spec := "fnExactLowest", unfollowed := true, recurses := true, apart := false, narrowed := true }
def FnExactLowestUptoSaid : Prop := fnExactLowestUptoRow.holds Try.pinned (OpenSpec.upto fnExactLowestSpec)

/-- 'laws.FnExactHighest', WHERE WHAT IT READS IS OF BULK AT MOST 1048576: true; the input reads as it did. -/
def fnExactHighestUptoRow : OpenClaim := { program := "ytbonmnfmlobpbaa", sum := "ae308f23dff2470c2c0defbaafcac41120a83efa8fd113f59d5ea4ce5d178bdd", func := "loop.example/dominotilings/laws.FnExactHighest", spec := "fnExactHighest", unfollowed := true, recurses := true, apart := false, narrowed := true }
def FnExactHighestUptoSaid : Prop := fnExactHighestUptoRow.holds Try.pinned (OpenSpec.upto fnExactHighestSpec)

end Rows
end Go.Proofs.Ytbonmnfmlobpbaa
