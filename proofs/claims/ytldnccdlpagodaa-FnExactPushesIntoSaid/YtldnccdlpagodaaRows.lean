/-
  No cell of these rows narrows 'for every input' (looked for: loops, veiled, ifaces, maps, wideKeys, modest, calm, conditions, laid).
  DERIVED. THE GIVEN ROWS OF THIS SEAT. 10 by the template 'for every input the law returns true; each argument reads behind the call as it read before'; 0 by the template 'total and deterministic' (their statements: YtldnccdlpagodaaTotals.lean).
  GIVEN WITH THE SEED: the statements are not yours to turn. If you find one false, say at which input.
  Laid BY PROGRAM, IN A SANDBOX (cutbox-rows.mjs): the forced cells as the released guide's own fill.sh prints them over the translation 2d21ac8e6b870534… (all of the seat's roots in one cut). By AI agents, Wed Nov 11 2026. No macro, syntax, notation, axiom, sorry.
-/
import Derived.Test.YtldnccdlpagodaaChecked
import GoSem.Claim
import GoSem.ClaimJoined
import GoSem.ClaimMapViews
import Derived.JoinedTies
import Derived.KernelRfl
namespace Go.Proofs.Ytldnccdlpagodaa
/- THE CELL 'sum', in the pinned program and in every row, IS THE sha256 OF THE DUMP (.gsa) THAT YtldnccdlpagodaaProg.lean LOADS. Nothing in Lean hashes anything: it is a label: what it is worth is what the hold of that sum in a sandbox is worth. -/
noncomputable def Try.pinned : Pinned := { name := "ytldnccdlpagodaa", sum := "2d21ac8e6b870534ce71288d45dbcbbf77a3328056529f44a9fb4a3618fd9396", checked := Try.checked }
namespace Rows
def none {H : Type} : Left H := { results := [], args := [] }

/-- 'laws.FnExactFlipWay': WHATEVER THE INPUT: true; the input reads as it did. -/
def fnExactFlipWaySpec : ChangeSpec := { name := "fnExactFlipWay", fn := fun _ => fun
  | [d1, d2, d3] => { results := [.lit (.bool true)], args := [d1, d2, d3] }
  | _ => none }
def fnExactFlipWayRow : OpenClaim := { program := "ytldnccdlpagodaa", sum := "2d21ac8e6b870534ce71288d45dbcbbf77a3328056529f44a9fb4a3618fd9396", func := "loop.example/dominotilings/laws.FnExactFlipWay", spec := "fnExactFlipWay", unfollowed := true, recurses := true, apart := false }
def FnExactFlipWaySaid : Prop := fnExactFlipWayRow.holds Try.pinned (OpenSpec.ofChange fnExactFlipWaySpec)

/-- ITS FALSE NEIGHBOUR: 'it returns false'. Refute it at one input. -/
def fnExactFlipWayWrong : ChangeSpec := { name := "fnExactFlipWay", fn := fun _ => fun
  | [d1, d2, d3] => { results := [.lit (.bool false)], args := [d1, d2, d3] }
  | _ => none }
def FnExactFlipWayWrongFalsely : Prop := fnExactFlipWayRow.holds Try.pinned (OpenSpec.ofChange fnExactFlipWayWrong)

/-- 'laws.FnExactHeightSum': WHATEVER THE INPUT: true; the input reads as it did. -/
def fnExactHeightSumSpec : ChangeSpec := { name := "fnExactHeightSum", fn := fun _ => fun
  | [d1, d2] => { results := [.lit (.bool true)], args := [d1, d2] }
  | _ => none }
def fnExactHeightSumRow : OpenClaim := { program := "ytldnccdlpagodaa", sum := "2d21ac8e6b870534ce71288d45dbcbbf77a3328056529f44a9fb4a3618fd9396", func := "loop.example/dominotilings/laws.FnExactHeightSum", spec := "fnExactHeightSum", unfollowed := true, recurses := true, apart := false }
def FnExactHeightSumSaid : Prop := fnExactHeightSumRow.holds Try.pinned (OpenSpec.ofChange fnExactHeightSumSpec)

/-- ITS FALSE NEIGHBOUR: 'it returns false'. Refute it at one input. -/
def fnExactHeightSumWrong : ChangeSpec := { name := "fnExactHeightSum", fn := fun _ => fun
  | [d1, d2] => { results := [.lit (.bool false)], args := [d1, d2] }
  | _ => none }
def FnExactHeightSumWrongFalsely : Prop := fnExactHeightSumRow.holds Try.pinned (OpenSpec.ofChange fnExactHeightSumWrong)

/-- 'laws.FnExactReachMany': WHATEVER THE INPUT: true; the input reads as it did. -/
def fnExactReachManySpec : ChangeSpec := { name := "fnExactReachMany", fn := fun _ => fun
  | [d1, d2] => { results := [.lit (.bool true)], args := [d1, d2] }
  | _ => none }
def fnExactReachManyRow : OpenClaim := { program := "ytldnccdlpagodaa", sum := "2d21ac8e6b870534ce71288d45dbcbbf77a3328056529f44a9fb4a3618fd9396", func := "loop.example/dominotilings/laws.FnExactReachMany", spec := "fnExactReachMany", unfollowed := true, recurses := true, apart := false }
def FnExactReachManySaid : Prop := fnExactReachManyRow.holds Try.pinned (OpenSpec.ofChange fnExactReachManySpec)

/-- ITS FALSE NEIGHBOUR: 'it returns false'. Refute it at one input. -/
def fnExactReachManyWrong : ChangeSpec := { name := "fnExactReachMany", fn := fun _ => fun
  | [d1, d2] => { results := [.lit (.bool false)], args := [d1, d2] }
  | _ => none }
def FnExactReachManyWrongFalsely : Prop := fnExactReachManyRow.holds Try.pinned (OpenSpec.ofChange fnExactReachManyWrong)

/-- 'laws.FnExactLowest': WHATEVER THE INPUT: true; the input reads as it did. -/
def fnExactLowestSpec : ChangeSpec := { name := "fnExactLowest", fn := fun _ => fun
  | [d] => { results := [.lit (.bool true)], args := [d] }
  | _ => none }
def fnExactLowestRow : OpenClaim := { program := "ytldnccdlpagodaa", sum := "2d21ac8e6b870534ce71288d45dbcbbf77a3328056529f44a9fb4a3618fd9396", func := "loop.example/dominotilings/laws.FnExactLowest", spec := "fnExactLowest", unfollowed := true, recurses := true, apart := false }
def FnExactLowestSaid : Prop := fnExactLowestRow.holds Try.pinned (OpenSpec.ofChange fnExactLowestSpec)

/-- ITS FALSE NEIGHBOUR: 'it returns false'. Refute it at one input. -/
def fnExactLowestWrong : ChangeSpec := { name := "fnExactLowest", fn := fun _ => fun
  | [d] => { results := [.lit (.bool false)], args := [d] }
  | _ => none }
def FnExactLowestWrongFalsely : Prop := fnExactLowestRow.holds Try.pinned (OpenSpec.ofChange fnExactLowestWrong)

/-- 'laws.FnExactHighest': WHATEVER THE INPUT: true; the input reads as it did. -/
def fnExactHighestSpec : ChangeSpec := { name := "fnExactHighest", fn := fun _ => fun
  | [d] => { results := [.lit (.bool true)], args := [d] }
  | _ => none }
def fnExactHighestRow : OpenClaim := { program := "ytldnccdlpagodaa", sum := "2d21ac8e6b870534ce71288d45dbcbbf77a3328056529f44a9fb4a3618fd9396", func := "loop.example/dominotilings/laws.FnExactHighest", spec := "fnExactHighest", unfollowed := true, recurses := true, apart := false }
def FnExactHighestSaid : Prop := fnExactHighestRow.holds Try.pinned (OpenSpec.ofChange fnExactHighestSpec)

/-- ITS FALSE NEIGHBOUR: 'it returns false'. Refute it at one input. -/
def fnExactHighestWrong : ChangeSpec := { name := "fnExactHighest", fn := fun _ => fun
  | [d] => { results := [.lit (.bool false)], args := [d] }
  | _ => none }
def FnExactHighestWrongFalsely : Prop := fnExactHighestRow.holds Try.pinned (OpenSpec.ofChange fnExactHighestWrong)

/-- 'laws.FnExactPushOne': WHATEVER THE INPUT: true; the input reads as it did. -/
def fnExactPushOneSpec : ChangeSpec := { name := "fnExactPushOne", fn := fun _ => fun
  | [d1, d2, d3] => { results := [.lit (.bool true)], args := [d1, d2, d3] }
  | _ => none }
def fnExactPushOneRow : OpenClaim := { program := "ytldnccdlpagodaa", sum := "2d21ac8e6b870534ce71288d45dbcbbf77a3328056529f44a9fb4a3618fd9396", func := "loop.example/dominotilings/laws.FnExactPushOne", spec := "fnExactPushOne", unfollowed := true, recurses := true, apart := false }
def FnExactPushOneSaid : Prop := fnExactPushOneRow.holds Try.pinned (OpenSpec.ofChange fnExactPushOneSpec)

/-- ITS FALSE NEIGHBOUR: 'it returns false'. Refute it at one input. -/
def fnExactPushOneWrong : ChangeSpec := { name := "fnExactPushOne", fn := fun _ => fun
  | [d1, d2, d3] => { results := [.lit (.bool false)], args := [d1, d2, d3] }
  | _ => none }
def FnExactPushOneWrongFalsely : Prop := fnExactPushOneRow.holds Try.pinned (OpenSpec.ofChange fnExactPushOneWrong)

/-- 'laws.FnExactPushRun': WHATEVER THE INPUT: true; the input reads as it did. -/
def fnExactPushRunSpec : ChangeSpec := { name := "fnExactPushRun", fn := fun _ => fun
  | [d1, d2, d3] => { results := [.lit (.bool true)], args := [d1, d2, d3] }
  | _ => none }
def fnExactPushRunRow : OpenClaim := { program := "ytldnccdlpagodaa", sum := "2d21ac8e6b870534ce71288d45dbcbbf77a3328056529f44a9fb4a3618fd9396", func := "loop.example/dominotilings/laws.FnExactPushRun", spec := "fnExactPushRun", unfollowed := true, recurses := true, apart := false }
def FnExactPushRunSaid : Prop := fnExactPushRunRow.holds Try.pinned (OpenSpec.ofChange fnExactPushRunSpec)

/-- ITS FALSE NEIGHBOUR: 'it returns false'. Refute it at one input. -/
def fnExactPushRunWrong : ChangeSpec := { name := "fnExactPushRun", fn := fun _ => fun
  | [d1, d2, d3] => { results := [.lit (.bool false)], args := [d1, d2, d3] }
  | _ => none }
def FnExactPushRunWrongFalsely : Prop := fnExactPushRunRow.holds Try.pinned (OpenSpec.ofChange fnExactPushRunWrong)

/-- 'laws.FnExactPushesFrom': WHATEVER THE INPUT: true; the input reads as it did. -/
def fnExactPushesFromSpec : ChangeSpec := { name := "fnExactPushesFrom", fn := fun _ => fun
  | [d1, d2, d3] => { results := [.lit (.bool true)], args := [d1, d2, d3] }
  | _ => none }
def fnExactPushesFromRow : OpenClaim := { program := "ytldnccdlpagodaa", sum := "2d21ac8e6b870534ce71288d45dbcbbf77a3328056529f44a9fb4a3618fd9396", func := "loop.example/dominotilings/laws.FnExactPushesFrom", spec := "fnExactPushesFrom", unfollowed := true, recurses := true, apart := false }
def FnExactPushesFromSaid : Prop := fnExactPushesFromRow.holds Try.pinned (OpenSpec.ofChange fnExactPushesFromSpec)

/-- ITS FALSE NEIGHBOUR: 'it returns false'. Refute it at one input. -/
def fnExactPushesFromWrong : ChangeSpec := { name := "fnExactPushesFrom", fn := fun _ => fun
  | [d1, d2, d3] => { results := [.lit (.bool false)], args := [d1, d2, d3] }
  | _ => none }
def FnExactPushesFromWrongFalsely : Prop := fnExactPushesFromRow.holds Try.pinned (OpenSpec.ofChange fnExactPushesFromWrong)

/-- 'laws.FnExactPushesInto': WHATEVER THE INPUT: true; the input reads as it did. -/
def fnExactPushesIntoSpec : ChangeSpec := { name := "fnExactPushesInto", fn := fun _ => fun
  | [d1, d2] => { results := [.lit (.bool true)], args := [d1, d2] }
  | _ => none }
def fnExactPushesIntoRow : OpenClaim := { program := "ytldnccdlpagodaa", sum := "2d21ac8e6b870534ce71288d45dbcbbf77a3328056529f44a9fb4a3618fd9396", func := "loop.example/dominotilings/laws.FnExactPushesInto", spec := "fnExactPushesInto", unfollowed := true, recurses := true, apart := false }
def FnExactPushesIntoSaid : Prop := fnExactPushesIntoRow.holds Try.pinned (OpenSpec.ofChange fnExactPushesIntoSpec)

/-- ITS FALSE NEIGHBOUR: 'it returns false'. Refute it at one input. -/
def fnExactPushesIntoWrong : ChangeSpec := { name := "fnExactPushesInto", fn := fun _ => fun
  | [d1, d2] => { results := [.lit (.bool false)], args := [d1, d2] }
  | _ => none }
def FnExactPushesIntoWrongFalsely : Prop := fnExactPushesIntoRow.holds Try.pinned (OpenSpec.ofChange fnExactPushesIntoWrong)

/-- 'laws.FnExactPushedMany': WHATEVER THE INPUT: true; the input reads as it did. -/
def fnExactPushedManySpec : ChangeSpec := { name := "fnExactPushedMany", fn := fun _ => fun
  | [d1, d2] => { results := [.lit (.bool true)], args := [d1, d2] }
  | _ => none }
def fnExactPushedManyRow : OpenClaim := { program := "ytldnccdlpagodaa", sum := "2d21ac8e6b870534ce71288d45dbcbbf77a3328056529f44a9fb4a3618fd9396", func := "loop.example/dominotilings/laws.FnExactPushedMany", spec := "fnExactPushedMany", unfollowed := true, recurses := true, apart := false }
def FnExactPushedManySaid : Prop := fnExactPushedManyRow.holds Try.pinned (OpenSpec.ofChange fnExactPushedManySpec)

/-- ITS FALSE NEIGHBOUR: 'it returns false'. Refute it at one input. -/
def fnExactPushedManyWrong : ChangeSpec := { name := "fnExactPushedMany", fn := fun _ => fun
  | [d1, d2] => { results := [.lit (.bool false)], args := [d1, d2] }
  | _ => none }
def FnExactPushedManyWrongFalsely : Prop := fnExactPushedManyRow.holds Try.pinned (OpenSpec.ofChange fnExactPushedManyWrong)

/- THE SECOND FORM. 'bulk': how many values and letters a reading holds, each counted each time it is reached (what is shared counts as often as it is met; a slice's spare places count too). A statement '..UptoSaid' is the law's where the arguments, and the package variables that the reading takes, are together of bulk at most 1048576: NARROWER than '..Said'. Prove '..Said' where nothing that the law and all that it calls make is longer than what came in: it says more and counts as full. Else prove '..UptoSaid'. A law counts once. -/
mutual
def uptoBulk {H : Type} : DataW H → Nat
  | .lit (.string bytes) => bytes.length + 1
  | .lit _ => 1
  | .nil => 1
  | .ptr d => uptoBulk d + 1
  | .slice elems spare => uptoBulkAll elems + uptoBulkAll spare + 1
  | .agg parts => uptoBulkAll parts + 1
  | .iface _ d => uptoBulk d + 1
  | .map entries => uptoBulkEntries entries + 1
  | .held _ => 1
def uptoBulkAll {H : Type} : List (DataW H) → Nat
  | [] => 0
  | d :: r => uptoBulk d + uptoBulkAll r
def uptoBulkEntries {H : Type} : List (Lit × DataW H) → Nat
  | [] => 0
  | x :: r => uptoBulkEntry x + uptoBulkEntries r
def uptoBulkEntry {H : Type} : Lit × DataW H → Nat
  | (.string bytes, d) => bytes.length + uptoBulk d + 1
  | (_, d) => uptoBulk d + 1
 end
def uptoSmall : (H : Type) → List (DataW H) → Bool := fun _ ds => decide (uptoBulkAll ds ≤ 1048576)
def OpenSpec.upto (s : _root_.Go.ChangeSpec) : _root_.Go.OpenSpec := { _root_.Go.OpenSpec.ofChange s with cond := some uptoSmall }

/-- 'laws.FnExactFlipWay', WHERE WHAT IT READS IS OF BULK AT MOST 1048576: true; the input reads as it did. -/
def fnExactFlipWayUptoRow : OpenClaim := { program := "ytldnccdlpagodaa", sum := "2d21ac8e6b870534ce71288d45dbcbbf77a3328056529f44a9fb4a3618fd9396", func := "loop.example/dominotilings/laws.FnExactFlipWay", spec := "fnExactFlipWay", unfollowed := true, recurses := true, apart := false, narrowed := true }
def FnExactFlipWayUptoSaid : Prop := fnExactFlipWayUptoRow.holds Try.pinned (OpenSpec.upto fnExactFlipWaySpec)

/-- 'laws.FnExactHeightSum', WHERE WHAT IT READS IS OF BULK AT MOST 1048576: true; the input reads as it did. -/
def fnExactHeightSumUptoRow : OpenClaim := { program := "ytldnccdlpagodaa", sum := "2d21ac8e6b870534ce71288d45dbcbbf77a3328056529f44a9fb4a3618fd9396", func := "loop.example/dominotilings/laws.FnExactHeightSum", spec := "fnExactHeightSum", unfollowed := true, recurses := true, apart := false, narrowed := true }
def FnExactHeightSumUptoSaid : Prop := fnExactHeightSumUptoRow.holds Try.pinned (OpenSpec.upto fnExactHeightSumSpec)

/-- 'laws.FnExactReachMany', WHERE WHAT IT READS IS OF BULK AT MOST 1048576: true; the input reads as it did. -/
def fnExactReachManyUptoRow : OpenClaim := { program := "ytldnccdlpagodaa", sum := "2d21ac8e6b870534ce71288d45dbcbbf77a3328056529f44a9fb4a3618fd9396", func := "loop.example/dominotilings/laws.FnExactReachMany", spec := "fnExactReachMany", unfollowed := true, recurses := true, apart := false, narrowed := true }
def FnExactReachManyUptoSaid : Prop := fnExactReachManyUptoRow.holds Try.pinned (OpenSpec.upto fnExactReachManySpec)

/-- 'laws.FnExactLowest', WHERE WHAT IT READS IS OF BULK AT MOST 1048576: true; the input reads as it did. -/
def fnExactLowestUptoRow : OpenClaim := { program := "ytldnccdlpagodaa", sum := "2d21ac8e6b870534ce71288d45dbcbbf77a3328056529f44a9fb4a3618fd9396", func := "loop.example/dominotilings/laws.FnExactLowest", spec := "fnExactLowest", unfollowed := true, recurses := true, apart := false, narrowed := true }
def FnExactLowestUptoSaid : Prop := fnExactLowestUptoRow.holds Try.pinned (OpenSpec.upto fnExactLowestSpec)

/-- 'laws.FnExactHighest', WHERE WHAT IT READS IS OF BULK AT MOST 1048576: true; the input reads as it did. -/
def fnExactHighestUptoRow : OpenClaim := { program := "ytldnccdlpagodaa", sum := "2d21ac8e6b870534ce71288d45dbcbbf77a3328056529f44a9fb4a3618fd9396", func := "loop.example/dominotilings/laws.FnExactHighest", spec := "fnExactHighest", unfollowed := true, recurses := true, apart := false, narrowed := true }
def FnExactHighestUptoSaid : Prop := fnExactHighestUptoRow.holds Try.pinned (OpenSpec.upto fnExactHighestSpec)

/-- 'laws.FnExactPushOne', WHERE WHAT IT READS IS OF BULK AT MOST 1048576: true; the input reads as it did. -/
def fnExactPushOneUptoRow : OpenClaim := { program := "ytldnccdlpagodaa", sum := "2d21ac8e6b870534ce71288d45dbcbbf77a3328056529f44a9fb4a3618fd9396", func := "loop.example/dominotilings/laws.FnExactPushOne", spec := "fnExactPushOne", unfollowed := true, recurses := true, apart := false, narrowed := true }
def FnExactPushOneUptoSaid : Prop := fnExactPushOneUptoRow.holds Try.pinned (OpenSpec.upto fnExactPushOneSpec)

/-- 'laws.FnExactPushRun', WHERE WHAT IT READS IS OF BULK AT MOST 1048576: true; the input reads as it did. -/
def fnExactPushRunUptoRow : OpenClaim := { program := "ytldnccdlpagodaa", sum := "2d21ac8e6b870534ce71288d45dbcbbf77a3328056529f44a9fb4a3618fd9396", func := "loop.example/dominotilings/laws.FnExactPushRun", spec := "fnExactPushRun", unfollowed := true, recurses := true, apart := false, narrowed := true }
def FnExactPushRunUptoSaid : Prop := fnExactPushRunUptoRow.holds Try.pinned (OpenSpec.upto fnExactPushRunSpec)

/-- 'laws.FnExactPushesFrom', WHERE WHAT IT READS IS OF BULK AT MOST 1048576: true; the input reads as it did. -/
def fnExactPushesFromUptoRow : OpenClaim := { program := "ytldnccdlpagodaa", sum := "2d21ac8e6b870534ce71288d45dbcbbf77a3328056529f44a9fb4a3618fd9396", func := "loop.example/dominotilings/laws.FnExactPushesFrom", spec := "fnExactPushesFrom", unfollowed := true, recurses := true, apart := false, narrowed := true }
def FnExactPushesFromUptoSaid : Prop := fnExactPushesFromUptoRow.holds Try.pinned (OpenSpec.upto fnExactPushesFromSpec)

/-- 'laws.FnExactPushesInto', WHERE WHAT IT READS IS OF BULK AT MOST 1048576: true; the input reads as it did. -/
def fnExactPushesIntoUptoRow : OpenClaim := { program := "ytldnccdlpagodaa", sum := "2d21ac8e6b870534ce71288d45dbcbbf77a3328056529f44a9fb4a3618fd9396", func := "loop.example/dominotilings/laws.FnExactPushesInto", spec := "fnExactPushesInto", unfollowed := true, recurses := true, apart := false, narrowed := true }
def FnExactPushesIntoUptoSaid : Prop := fnExactPushesIntoUptoRow.holds Try.pinned (OpenSpec.upto fnExactPushesIntoSpec)

/-- 'laws.FnExactPushedMany', WHERE WHAT IT READS IS OF BULK AT MOST 1048576: true; the input reads as it did. -/
def fnExactPushedManyUptoRow : OpenClaim := { program := "ytldnccdlpagodaa", sum := "2d21ac8e6b870534ce71288d45dbcbbf77a3328056529f44a9fb4a3618fd9396", func := "loop.example/dominotilings/laws.FnExactPushedMany", spec := "fnExactPushedMany", unfollowed := true, recurses := true, apart := false, narrowed := true }
def FnExactPushedManyUptoSaid : Prop := fnExactPushedManyUptoRow.holds Try.pinned (OpenSpec.upto fnExactPushedManySpec)

end Rows
end Go.Proofs.Ytldnccdlpagodaa
