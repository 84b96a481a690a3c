/-
  No cell of these rows narrows 'for every input' (looked for: loops, veiled, ifaces, maps, wideKeys, modest, calm, conditions, laid).
  DERIVED. THE GIVEN ROWS OF THIS SEAT. 12 by the template 'for every input the law returns true; each argument reads behind the call as it read before'; 0 by the template 'total and deterministic' (their statements: YtblgnkgakhjjnaaTotals.lean).
  GIVEN WITH THE SEED: the statements are not yours to turn. If you find one false, say at which input.
  Laid BY PROGRAM, IN A SANDBOX (cutbox-rows.mjs): the forced cells as the released guide's own fill.sh prints them over the translation 1ccd2b3b7fcb8b43… (all of the seat's roots in one cut). By AI agents, Wed Nov 11 2026. No macro, syntax, notation, axiom, sorry.
-/
import Derived.Test.YtblgnkgakhjjnaaChecked
import GoSem.Claim
import GoSem.ClaimJoined
import GoSem.ClaimMapViews
import Derived.JoinedTies
import Derived.KernelRfl
namespace Go.Proofs.Ytblgnkgakhjjnaa
/- THE CELL 'sum', in the pinned program and in every row, IS THE sha256 OF THE DUMP (.gsa) THAT YtblgnkgakhjjnaaProg.lean LOADS. Nothing in Lean hashes anything: it is a label: what it is worth is what the hold of that sum in a sandbox is worth. -/
noncomputable def Try.pinned : Pinned := { name := "ytblgnkgakhjjnaa", sum := "1ccd2b3b7fcb8b43fdaa2793e562902881d04c80d7ef5cd829814b4419059b18", checked := Try.checked }
namespace Rows
def none {H : Type} : Left H := { results := [], args := [] }

/-- 'laws.FnExactPushesBy': WHATEVER THE INPUT: true; the input reads as it did. -/
def fnExactPushesBySpec : ChangeSpec := { name := "fnExactPushesBy", fn := fun _ => fun
  | [d1, d2, d3] => { results := [.lit (.bool true)], args := [d1, d2, d3] }
  | _ => none }
def fnExactPushesByRow : OpenClaim := { program := "ytblgnkgakhjjnaa", sum := "1ccd2b3b7fcb8b43fdaa2793e562902881d04c80d7ef5cd829814b4419059b18", func := "loop.example/dominotilings/laws.FnExactPushesBy", spec := "fnExactPushesBy", unfollowed := true, recurses := true, apart := false }
def FnExactPushesBySaid : Prop := fnExactPushesByRow.holds Try.pinned (OpenSpec.ofChange fnExactPushesBySpec)

/-- ITS FALSE NEIGHBOUR: 'it returns false'. Refute it at one input. -/
def fnExactPushesByWrong : ChangeSpec := { name := "fnExactPushesBy", fn := fun _ => fun
  | [d1, d2, d3] => { results := [.lit (.bool false)], args := [d1, d2, d3] }
  | _ => none }
def FnExactPushesByWrongFalsely : Prop := fnExactPushesByRow.holds Try.pinned (OpenSpec.ofChange fnExactPushesByWrong)

/-- 'laws.FnExactHeightsLow': WHATEVER THE INPUT: true; the input reads as it did. -/
def fnExactHeightsLowSpec : ChangeSpec := { name := "fnExactHeightsLow", fn := fun _ => fun
  | [d1, d2, d3] => { results := [.lit (.bool true)], args := [d1, d2, d3] }
  | _ => none }
def fnExactHeightsLowRow : OpenClaim := { program := "ytblgnkgakhjjnaa", sum := "1ccd2b3b7fcb8b43fdaa2793e562902881d04c80d7ef5cd829814b4419059b18", func := "loop.example/dominotilings/laws.FnExactHeightsLow", spec := "fnExactHeightsLow", unfollowed := true, recurses := true, apart := false }
def FnExactHeightsLowSaid : Prop := fnExactHeightsLowRow.holds Try.pinned (OpenSpec.ofChange fnExactHeightsLowSpec)

/-- ITS FALSE NEIGHBOUR: 'it returns false'. Refute it at one input. -/
def fnExactHeightsLowWrong : ChangeSpec := { name := "fnExactHeightsLow", fn := fun _ => fun
  | [d1, d2, d3] => { results := [.lit (.bool false)], args := [d1, d2, d3] }
  | _ => none }
def FnExactHeightsLowWrongFalsely : Prop := fnExactHeightsLowRow.holds Try.pinned (OpenSpec.ofChange fnExactHeightsLowWrong)

/-- 'laws.FnPushesValid': WHATEVER THE INPUT: true; the input reads as it did. -/
def fnPushesValidSpec : ChangeSpec := { name := "fnPushesValid", fn := fun _ => fun
  | [d] => { results := [.lit (.bool true)], args := [d] }
  | _ => none }
def fnPushesValidRow : OpenClaim := { program := "ytblgnkgakhjjnaa", sum := "1ccd2b3b7fcb8b43fdaa2793e562902881d04c80d7ef5cd829814b4419059b18", func := "loop.example/dominotilings/laws.FnPushesValid", spec := "fnPushesValid", unfollowed := true, recurses := true, apart := false }
def FnPushesValidSaid : Prop := fnPushesValidRow.holds Try.pinned (OpenSpec.ofChange fnPushesValidSpec)

/-- ITS FALSE NEIGHBOUR: 'it returns false'. Refute it at one input. -/
def fnPushesValidWrong : ChangeSpec := { name := "fnPushesValid", fn := fun _ => fun
  | [d] => { results := [.lit (.bool false)], args := [d] }
  | _ => none }
def FnPushesValidWrongFalsely : Prop := fnPushesValidRow.holds Try.pinned (OpenSpec.ofChange fnPushesValidWrong)

/-- 'laws.FnFlipsOf': WHATEVER THE INPUT: true; the input reads as it did. -/
def fnFlipsOfSpec : ChangeSpec := { name := "fnFlipsOf", fn := fun _ => fun
  | [d] => { results := [.lit (.bool true)], args := [d] }
  | _ => none }
def fnFlipsOfRow : OpenClaim := { program := "ytblgnkgakhjjnaa", sum := "1ccd2b3b7fcb8b43fdaa2793e562902881d04c80d7ef5cd829814b4419059b18", func := "loop.example/dominotilings/laws.FnFlipsOf", spec := "fnFlipsOf", unfollowed := true, recurses := true, apart := false }
def FnFlipsOfSaid : Prop := fnFlipsOfRow.holds Try.pinned (OpenSpec.ofChange fnFlipsOfSpec)

/-- ITS FALSE NEIGHBOUR: 'it returns false'. Refute it at one input. -/
def fnFlipsOfWrong : ChangeSpec := { name := "fnFlipsOf", fn := fun _ => fun
  | [d] => { results := [.lit (.bool false)], args := [d] }
  | _ => none }
def FnFlipsOfWrongFalsely : Prop := fnFlipsOfRow.holds Try.pinned (OpenSpec.ofChange fnFlipsOfWrong)

/-- 'laws.FnExactTilingBy': WHATEVER THE INPUT: true; the input reads as it did. -/
def fnExactTilingBySpec : ChangeSpec := { name := "fnExactTilingBy", fn := fun _ => fun
  | [d1, d2] => { results := [.lit (.bool true)], args := [d1, d2] }
  | _ => none }
def fnExactTilingByRow : OpenClaim := { program := "ytblgnkgakhjjnaa", sum := "1ccd2b3b7fcb8b43fdaa2793e562902881d04c80d7ef5cd829814b4419059b18", func := "loop.example/dominotilings/laws.FnExactTilingBy", spec := "fnExactTilingBy", unfollowed := true, recurses := true, apart := false }
def FnExactTilingBySaid : Prop := fnExactTilingByRow.holds Try.pinned (OpenSpec.ofChange fnExactTilingBySpec)

/-- ITS FALSE NEIGHBOUR: 'it returns false'. Refute it at one input. -/
def fnExactTilingByWrong : ChangeSpec := { name := "fnExactTilingBy", fn := fun _ => fun
  | [d1, d2] => { results := [.lit (.bool false)], args := [d1, d2] }
  | _ => none }
def FnExactTilingByWrongFalsely : Prop := fnExactTilingByRow.holds Try.pinned (OpenSpec.ofChange fnExactTilingByWrong)

/-- 'laws.FnFlipRun': WHATEVER THE INPUT: true; the input reads as it did. -/
def fnFlipRunSpec : ChangeSpec := { name := "fnFlipRun", fn := fun _ => fun
  | [d] => { results := [.lit (.bool true)], args := [d] }
  | _ => none }
def fnFlipRunRow : OpenClaim := { program := "ytblgnkgakhjjnaa", sum := "1ccd2b3b7fcb8b43fdaa2793e562902881d04c80d7ef5cd829814b4419059b18", func := "loop.example/dominotilings/laws.FnFlipRun", spec := "fnFlipRun", recurses := true, apart := false }
def FnFlipRunSaid : Prop := fnFlipRunRow.holds Try.pinned (OpenSpec.ofChange fnFlipRunSpec)

/-- ITS FALSE NEIGHBOUR: 'it returns false'. Refute it at one input. -/
def fnFlipRunWrong : ChangeSpec := { name := "fnFlipRun", fn := fun _ => fun
  | [d] => { results := [.lit (.bool false)], args := [d] }
  | _ => none }
def FnFlipRunWrongFalsely : Prop := fnFlipRunRow.holds Try.pinned (OpenSpec.ofChange fnFlipRunWrong)

/-- 'laws.FnFlipOne': WHATEVER THE INPUT: true; the input reads as it did. -/
def fnFlipOneSpec : ChangeSpec := { name := "fnFlipOne", fn := fun _ => fun
  | [d] => { results := [.lit (.bool true)], args := [d] }
  | _ => none }
def fnFlipOneRow : OpenClaim := { program := "ytblgnkgakhjjnaa", sum := "1ccd2b3b7fcb8b43fdaa2793e562902881d04c80d7ef5cd829814b4419059b18", func := "loop.example/dominotilings/laws.FnFlipOne", spec := "fnFlipOne", recurses := true, apart := false }
def FnFlipOneSaid : Prop := fnFlipOneRow.holds Try.pinned (OpenSpec.ofChange fnFlipOneSpec)

/-- ITS FALSE NEIGHBOUR: 'it returns false'. Refute it at one input. -/
def fnFlipOneWrong : ChangeSpec := { name := "fnFlipOne", fn := fun _ => fun
  | [d] => { results := [.lit (.bool false)], args := [d] }
  | _ => none }
def FnFlipOneWrongFalsely : Prop := fnFlipOneRow.holds Try.pinned (OpenSpec.ofChange fnFlipOneWrong)

/-- 'laws.FnPushesBy': WHATEVER THE INPUT: true; the input reads as it did. -/
def fnPushesBySpec : ChangeSpec := { name := "fnPushesBy", fn := fun _ => fun
  | [d] => { results := [.lit (.bool true)], args := [d] }
  | _ => none }
def fnPushesByRow : OpenClaim := { program := "ytblgnkgakhjjnaa", sum := "1ccd2b3b7fcb8b43fdaa2793e562902881d04c80d7ef5cd829814b4419059b18", func := "loop.example/dominotilings/laws.FnPushesBy", spec := "fnPushesBy", unfollowed := true, recurses := true, apart := false }
def FnPushesBySaid : Prop := fnPushesByRow.holds Try.pinned (OpenSpec.ofChange fnPushesBySpec)

/-- ITS FALSE NEIGHBOUR: 'it returns false'. Refute it at one input. -/
def fnPushesByWrong : ChangeSpec := { name := "fnPushesBy", fn := fun _ => fun
  | [d] => { results := [.lit (.bool false)], args := [d] }
  | _ => none }
def FnPushesByWrongFalsely : Prop := fnPushesByRow.holds Try.pinned (OpenSpec.ofChange fnPushesByWrong)

/-- 'laws.FnExactReachMany': WHATEVER THE INPUT: true; the input reads as it did. -/
def fnExactReachManySpec : ChangeSpec := { name := "fnExactReachMany", fn := fun _ => fun
  | [d1, d2] => { results := [.lit (.bool true)], args := [d1, d2] }
  | _ => none }
def fnExactReachManyRow : OpenClaim := { program := "ytblgnkgakhjjnaa", sum := "1ccd2b3b7fcb8b43fdaa2793e562902881d04c80d7ef5cd829814b4419059b18", func := "loop.example/dominotilings/laws.FnExactReachMany", spec := "fnExactReachMany", unfollowed := true, recurses := true, apart := false }
def FnExactReachManySaid : Prop := fnExactReachManyRow.holds Try.pinned (OpenSpec.ofChange fnExactReachManySpec)

/-- ITS FALSE NEIGHBOUR: 'it returns false'. Refute it at one input. -/
def fnExactReachManyWrong : ChangeSpec := { name := "fnExactReachMany", fn := fun _ => fun
  | [d1, d2] => { results := [.lit (.bool false)], args := [d1, d2] }
  | _ => none }
def FnExactReachManyWrongFalsely : Prop := fnExactReachManyRow.holds Try.pinned (OpenSpec.ofChange fnExactReachManyWrong)

/-- 'laws.FnExactApart': WHATEVER THE INPUT: true; the input reads as it did. -/
def fnExactApartSpec : ChangeSpec := { name := "fnExactApart", fn := fun _ => fun
  | [d1, d2, d3] => { results := [.lit (.bool true)], args := [d1, d2, d3] }
  | _ => none }
def fnExactApartRow : OpenClaim := { program := "ytblgnkgakhjjnaa", sum := "1ccd2b3b7fcb8b43fdaa2793e562902881d04c80d7ef5cd829814b4419059b18", func := "loop.example/dominotilings/laws.FnExactApart", spec := "fnExactApart", unfollowed := true, recurses := true, apart := false }
def FnExactApartSaid : Prop := fnExactApartRow.holds Try.pinned (OpenSpec.ofChange fnExactApartSpec)

/-- ITS FALSE NEIGHBOUR: 'it returns false'. Refute it at one input. -/
def fnExactApartWrong : ChangeSpec := { name := "fnExactApart", fn := fun _ => fun
  | [d1, d2, d3] => { results := [.lit (.bool false)], args := [d1, d2, d3] }
  | _ => none }
def FnExactApartWrongFalsely : Prop := fnExactApartRow.holds Try.pinned (OpenSpec.ofChange fnExactApartWrong)

/-- 'laws.FnExactHeightsOf': WHATEVER THE INPUT: true; the input reads as it did. -/
def fnExactHeightsOfSpec : ChangeSpec := { name := "fnExactHeightsOf", fn := fun _ => fun
  | [d1, d2] => { results := [.lit (.bool true)], args := [d1, d2] }
  | _ => none }
def fnExactHeightsOfRow : OpenClaim := { program := "ytblgnkgakhjjnaa", sum := "1ccd2b3b7fcb8b43fdaa2793e562902881d04c80d7ef5cd829814b4419059b18", func := "loop.example/dominotilings/laws.FnExactHeightsOf", spec := "fnExactHeightsOf", unfollowed := true, recurses := true, apart := false }
def FnExactHeightsOfSaid : Prop := fnExactHeightsOfRow.holds Try.pinned (OpenSpec.ofChange fnExactHeightsOfSpec)

/-- ITS FALSE NEIGHBOUR: 'it returns false'. Refute it at one input. -/
def fnExactHeightsOfWrong : ChangeSpec := { name := "fnExactHeightsOf", fn := fun _ => fun
  | [d1, d2] => { results := [.lit (.bool false)], args := [d1, d2] }
  | _ => none }
def FnExactHeightsOfWrongFalsely : Prop := fnExactHeightsOfRow.holds Try.pinned (OpenSpec.ofChange fnExactHeightsOfWrong)

/-- 'laws.FnExactBelow': WHATEVER THE INPUT: true; the input reads as it did. -/
def fnExactBelowSpec : ChangeSpec := { name := "fnExactBelow", fn := fun _ => fun
  | [d1, d2, d3] => { results := [.lit (.bool true)], args := [d1, d2, d3] }
  | _ => none }
def fnExactBelowRow : OpenClaim := { program := "ytblgnkgakhjjnaa", sum := "1ccd2b3b7fcb8b43fdaa2793e562902881d04c80d7ef5cd829814b4419059b18", func := "loop.example/dominotilings/laws.FnExactBelow", spec := "fnExactBelow", unfollowed := true, recurses := true, apart := false }
def FnExactBelowSaid : Prop := fnExactBelowRow.holds Try.pinned (OpenSpec.ofChange fnExactBelowSpec)

/-- ITS FALSE NEIGHBOUR: 'it returns false'. Refute it at one input. -/
def fnExactBelowWrong : ChangeSpec := { name := "fnExactBelow", fn := fun _ => fun
  | [d1, d2, d3] => { results := [.lit (.bool false)], args := [d1, d2, d3] }
  | _ => none }
def FnExactBelowWrongFalsely : Prop := fnExactBelowRow.holds Try.pinned (OpenSpec.ofChange fnExactBelowWrong)

/- THE SECOND FORM. 'bulk': how many values and letters a reading holds, each counted each time it is reached (what is shared counts as often as it is met; a slice's spare places count too). A statement '..UptoSaid' is the law's where the arguments, and the package variables that the reading takes, are together of bulk at most 1048576: NARROWER than '..Said'. Prove '..Said' where nothing that the law and all that it calls make is longer than what came in: it says more and counts as full. Else prove '..UptoSaid'. A law counts once. -/
mutual
def uptoBulk {H : Type} : DataW H → Nat
  | .lit (.string bytes) => bytes.length + 1
  | .lit _ => 1
  | .nil => 1
  | .ptr d => uptoBulk d + 1
  | .slice elems spare => uptoBulkAll elems + uptoBulkAll spare + 1
  | .agg parts => uptoBulkAll parts + 1
  | .iface _ d => uptoBulk d + 1
  | .map entries => uptoBulkEntries entries + 1
  | .held _ => 1
def uptoBulkAll {H : Type} : List (DataW H) → Nat
  | [] => 0
  | d :: r => uptoBulk d + uptoBulkAll r
def uptoBulkEntries {H : Type} : List (Lit × DataW H) → Nat
  | [] => 0
  | x :: r => uptoBulkEntry x + uptoBulkEntries r
def uptoBulkEntry {H : Type} : Lit × DataW H → Nat
  | (.string bytes, d) => bytes.length + uptoBulk d + 1
  | (_, d) => uptoBulk d + 1
 end
def uptoSmall : (H : Type) → List (DataW H) → Bool := fun _ ds => decide (uptoBulkAll ds ≤ 1048576)
def OpenSpec.upto (s : _root_.Go.ChangeSpec) : _root_.Go.OpenSpec := { _root_.Go.OpenSpec.ofChange s with cond := some uptoSmall }

/-- 'laws.FnExactPushesBy', WHERE WHAT IT READS IS OF BULK AT MOST 1048576: true; the input reads as it did. -/
def fnExactPushesByUptoRow : OpenClaim := { program := "ytblgnkgakhjjnaa", sum := "1ccd2b3b7fcb8b43fdaa2793e562902881d04c80d7ef5cd829814b4419059b18", func := "loop.example/dominotilings/laws.FnExactPushesBy", spec := "fnExactPushesBy", unfollowed := true, recurses := true, apart := false, narrowed := true }
def FnExactPushesByUptoSaid : Prop := fnExactPushesByUptoRow.holds Try.pinned (OpenSpec.upto fnExactPushesBySpec)

/-- 'laws.FnExactHeightsLow', WHERE WHAT IT READS IS OF BULK AT MOST 1048576: true; the input reads as it did. -/
def fnExactHeightsLowUptoRow : OpenClaim := { program := "ytblgnkgakhjjnaa", sum := "1ccd2b3b7fcb8b43fdaa2793e562902881d04c80d7ef5cd829814b4419059b18", func := "loop.example/dominotilings/laws.FnExactHeightsLow", spec := "fnExactHeightsLow", unfollowed := true, recurses := true, apart := false, narrowed := true }
def FnExactHeightsLowUptoSaid : Prop := fnExactHeightsLowUptoRow.holds Try.pinned (OpenSpec.upto fnExactHeightsLowSpec)

/-- 'laws.FnPushesValid', WHERE WHAT IT READS IS OF BULK AT MOST 1048576: true; the input reads as it did. -/
def fnPushesValidUptoRow : OpenClaim := { program := "ytblgnkgakhjjnaa", sum := "1ccd2b3b7fcb8b43fdaa2793e562902881d04c80d7ef5cd829814b4419059b18", func := "loop.example/dominotilings/laws.FnPushesValid", spec := "fnPushesValid", unfollowed := true, recurses := true, apart := false, narrowed := true }
def FnPushesValidUptoSaid : Prop := fnPushesValidUptoRow.holds Try.pinned (OpenSpec.upto fnPushesValidSpec)

/-- 'laws.FnFlipsOf', WHERE WHAT IT READS IS OF BULK AT MOST 1048576: true; the input reads as it did. -/
def fnFlipsOfUptoRow : OpenClaim := { program := "ytblgnkgakhjjnaa", sum := "1ccd2b3b7fcb8b43fdaa2793e562902881d04c80d7ef5cd829814b4419059b18", func := "loop.example/dominotilings/laws.FnFlipsOf", spec := "fnFlipsOf", unfollowed := true, recurses := true, apart := false, narrowed := true }
def FnFlipsOfUptoSaid : Prop := fnFlipsOfUptoRow.holds Try.pinned (OpenSpec.upto fnFlipsOfSpec)

/-- 'laws.FnExactTilingBy', WHERE WHAT IT READS IS OF BULK AT MOST 1048576: true; the input reads as it did. -/
def fnExactTilingByUptoRow : OpenClaim := { program := "ytblgnkgakhjjnaa", sum := "1ccd2b3b7fcb8b43fdaa2793e562902881d04c80d7ef5cd829814b4419059b18", func := "loop.example/dominotilings/laws.FnExactTilingBy", spec := "fnExactTilingBy", unfollowed := true, recurses := true, apart := false, narrowed := true }
def FnExactTilingByUptoSaid : Prop := fnExactTilingByUptoRow.holds Try.pinned (OpenSpec.upto fnExactTilingBySpec)

/-- 'laws.FnFlipRun', WHERE WHAT IT READS IS OF BULK AT MOST 1048576: true; the input reads as it did. -/
def fnFlipRunUptoRow : OpenClaim := { program := "ytblgnkgakhjjnaa", sum := "1ccd2b3b7fcb8b43fdaa2793e562902881d04c80d7ef5cd829814b4419059b18", func := "loop.example/dominotilings/laws.FnFlipRun", spec := "fnFlipRun", recurses := true, apart := false, narrowed := true }
def FnFlipRunUptoSaid : Prop := fnFlipRunUptoRow.holds Try.pinned (OpenSpec.upto fnFlipRunSpec)

/-- 'laws.FnFlipOne', WHERE WHAT IT READS IS OF BULK AT MOST 1048576: true; the input reads as it did. -/
def fnFlipOneUptoRow : OpenClaim := { program := "ytblgnkgakhjjnaa", sum := "1ccd2b3b7fcb8b43fdaa2793e562902881d04c80d7ef5cd829814b4419059b18", func := "loop.example/dominotilings/laws.FnFlipOne", spec := "fnFlipOne", recurses := true, apart := false, narrowed := true }
def FnFlipOneUptoSaid : Prop := fnFlipOneUptoRow.holds Try.pinned (OpenSpec.upto fnFlipOneSpec)

/-- 'laws.FnPushesBy', WHERE WHAT IT READS IS OF BULK AT MOST 1048576: true; the input reads as it did. -/
def fnPushesByUptoRow : OpenClaim := { program := "ytblgnkgakhjjnaa", sum := "1ccd2b3b7fcb8b43fdaa2793e562902881d04c80d7ef5cd829814b4419059b18", func := "loop.example/dominotilings/laws.FnPushesBy", spec := "fnPushesBy", unfollowed := true, recurses := true, apart := false, narrowed := true }
def FnPushesByUptoSaid : Prop := fnPushesByUptoRow.holds Try.pinned (OpenSpec.upto fnPushesBySpec)

/-- 'laws.FnExactReachMany', WHERE WHAT IT READS IS OF BULK AT MOST 1048576: true; the input reads as it did. -/
def fnExactReachManyUptoRow : OpenClaim := { program := "ytblgnkgakhjjnaa", sum := "1ccd2b3b7fcb8b43fdaa2793e562902881d04c80d7ef5cd829814b4419059b18", func := "loop.example/dominotilings/laws.FnExactReachMany", spec := "fnExactReachMany", unfollowed := true, recurses := true, apart := false, narrowed := true }
def FnExactReachManyUptoSaid : Prop := fnExactReachManyUptoRow.holds Try.pinned (OpenSpec.upto fnExactReachManySpec)

/-- 'laws.FnExactApart', WHERE WHAT IT READS IS OF BULK AT MOST 1048576: true; the input reads as it did. -/
def fnExactApartUptoRow : OpenClaim := { program := "ytblgnkgakhjjnaa", sum := "1ccd2b3b7fcb8b43fdaa2793e562902881d04c80d7ef5cd829814b4419059b18", func := "loop.example/dominotilings/laws.FnExactApart", spec := "fnExactApart", unfollowed := true, recurses := true, apart := false, narrowed := true }
def FnExactApartUptoSaid : Prop := fnExactApartUptoRow.holds Try.pinned (OpenSpec.upto fnExactApartSpec)

/-- 'laws.FnExactHeightsOf', WHERE WHAT IT READS IS OF BULK AT MOST 1048576: true; the input reads as it did. -/
def fnExactHeightsOfUptoRow : OpenClaim := { program := "ytblgnkgakhjjnaa", sum := "1ccd2b3b7fcb8b43fdaa2793e562902881d04c80d7ef5cd829814b4419059b18", func := "loop.example/dominotilings/laws.FnExactHeightsOf", spec := "fnExactHeightsOf", unfollowed := true, recurses := true, apart := false, narrowed := true }
def FnExactHeightsOfUptoSaid : Prop := fnExactHeightsOfUptoRow.holds Try.pinned (OpenSpec.upto fnExactHeightsOfSpec)

/-- 'laws.FnExactBelow', WHERE WHAT IT READS IS OF BULK AT MOST 1048576: true; the input reads as it did. -/
def fnExactBelowUptoRow : OpenClaim := { program := "ytblgnkgakhjjnaa", sum := "1ccd2b3b7fcb8b43fdaa2793e562902881d04c80d7ef5cd829814b4419059b18", func := "loop.example/dominotilings/laws.FnExactBelow", spec := "fnExactBelow", unfollowed := true, recurses := true, apart := false, narrowed := true }
def FnExactBelowUptoSaid : Prop := fnExactBelowUptoRow.holds Try.pinned (OpenSpec.upto fnExactBelowSpec)

end Rows
end Go.Proofs.Ytblgnkgakhjjnaa
