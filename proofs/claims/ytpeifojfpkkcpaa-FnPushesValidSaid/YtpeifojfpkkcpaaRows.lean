/-
  No cell of these rows narrows 'for every input' (looked for: loops, veiled, ifaces, maps, wideKeys, modest, calm, conditions, laid).
  DERIVED. THE GIVEN ROWS OF THIS SEAT. 11 by the template 'for every input the law returns true; each argument reads behind the call as it read before'; 0 by the template 'total and deterministic' (their statements: YtpeifojfpkkcpaaTotals.lean).
  GIVEN WITH THE SEED: the statements are not yours to turn. If you find one false, say at which input.
  Laid BY PROGRAM, IN A SANDBOX (cutbox-rows.mjs): the forced cells as the released guide's own fill.sh prints them over the translation e13ada08f1bc2521… (all of the seat's roots in one cut). By AI agents, Wed Nov 11 2026. No macro, syntax, notation, axiom, sorry.
-/
import Derived.Test.YtpeifojfpkkcpaaChecked
import GoSem.Claim
import GoSem.ClaimJoined
import GoSem.ClaimMapViews
import Derived.JoinedTies
import Derived.KernelRfl
namespace Go.Proofs.Ytpeifojfpkkcpaa
/- THE CELL 'sum', in the pinned program and in every row, IS THE sha256 OF THE DUMP (.gsa) THAT YtpeifojfpkkcpaaProg.lean LOADS. Nothing in Lean hashes anything: it is a label: what it is worth is what the hold of that sum in a sandbox is worth. -/
noncomputable def Try.pinned : Pinned := { name := "ytpeifojfpkkcpaa", sum := "e13ada08f1bc252136e08671236f6e941b71d67f6b39a81ee9aa98ec5ff93fba", checked := Try.checked }
namespace Rows
def none {H : Type} : Left H := { results := [], args := [] }

/-- 'laws.FnFlipRun': WHATEVER THE INPUT: true; the input reads as it did. -/
def fnFlipRunSpec : ChangeSpec := { name := "fnFlipRun", fn := fun _ => fun
  | [d] => { results := [.lit (.bool true)], args := [d] }
  | _ => none }
def fnFlipRunRow : OpenClaim := { program := "ytpeifojfpkkcpaa", sum := "e13ada08f1bc252136e08671236f6e941b71d67f6b39a81ee9aa98ec5ff93fba", func := "loop.example/dominotilings/laws.FnFlipRun", spec := "fnFlipRun", recurses := true, apart := false }
def FnFlipRunSaid : Prop := fnFlipRunRow.holds Try.pinned (OpenSpec.ofChange fnFlipRunSpec)

/-- ITS FALSE NEIGHBOUR: 'it returns false'. Refute it at one input. -/
def fnFlipRunWrong : ChangeSpec := { name := "fnFlipRun", fn := fun _ => fun
  | [d] => { results := [.lit (.bool false)], args := [d] }
  | _ => none }
def FnFlipRunWrongFalsely : Prop := fnFlipRunRow.holds Try.pinned (OpenSpec.ofChange fnFlipRunWrong)

/-- 'laws.FnPushesValid': WHATEVER THE INPUT: true; the input reads as it did. -/
def fnPushesValidSpec : ChangeSpec := { name := "fnPushesValid", fn := fun _ => fun
  | [d] => { results := [.lit (.bool true)], args := [d] }
  | _ => none }
def fnPushesValidRow : OpenClaim := { program := "ytpeifojfpkkcpaa", sum := "e13ada08f1bc252136e08671236f6e941b71d67f6b39a81ee9aa98ec5ff93fba", func := "loop.example/dominotilings/laws.FnPushesValid", spec := "fnPushesValid", unfollowed := true, recurses := true, apart := false }
def FnPushesValidSaid : Prop := fnPushesValidRow.holds Try.pinned (OpenSpec.ofChange fnPushesValidSpec)

/-- ITS FALSE NEIGHBOUR: 'it returns false'. Refute it at one input. -/
def fnPushesValidWrong : ChangeSpec := { name := "fnPushesValid", fn := fun _ => fun
  | [d] => { results := [.lit (.bool false)], args := [d] }
  | _ => none }
def FnPushesValidWrongFalsely : Prop := fnPushesValidRow.holds Try.pinned (OpenSpec.ofChange fnPushesValidWrong)

/-- 'laws.FnPushesBy': WHATEVER THE INPUT: true; the input reads as it did. -/
def fnPushesBySpec : ChangeSpec := { name := "fnPushesBy", fn := fun _ => fun
  | [d] => { results := [.lit (.bool true)], args := [d] }
  | _ => none }
def fnPushesByRow : OpenClaim := { program := "ytpeifojfpkkcpaa", sum := "e13ada08f1bc252136e08671236f6e941b71d67f6b39a81ee9aa98ec5ff93fba", func := "loop.example/dominotilings/laws.FnPushesBy", spec := "fnPushesBy", unfollowed := true, recurses := true, apart := false }
def FnPushesBySaid : Prop := fnPushesByRow.holds Try.pinned (OpenSpec.ofChange fnPushesBySpec)

/-- ITS FALSE NEIGHBOUR: 'it returns false'. Refute it at one input. -/
def fnPushesByWrong : ChangeSpec := { name := "fnPushesBy", fn := fun _ => fun
  | [d] => { results := [.lit (.bool false)], args := [d] }
  | _ => none }
def FnPushesByWrongFalsely : Prop := fnPushesByRow.holds Try.pinned (OpenSpec.ofChange fnPushesByWrong)

/-- 'laws.FnPushesFrom': WHATEVER THE INPUT: true; the input reads as it did. -/
def fnPushesFromSpec : ChangeSpec := { name := "fnPushesFrom", fn := fun _ => fun
  | [d] => { results := [.lit (.bool true)], args := [d] }
  | _ => none }
def fnPushesFromRow : OpenClaim := { program := "ytpeifojfpkkcpaa", sum := "e13ada08f1bc252136e08671236f6e941b71d67f6b39a81ee9aa98ec5ff93fba", func := "loop.example/dominotilings/laws.FnPushesFrom", spec := "fnPushesFrom", unfollowed := true, recurses := true, apart := false }
def FnPushesFromSaid : Prop := fnPushesFromRow.holds Try.pinned (OpenSpec.ofChange fnPushesFromSpec)

/-- ITS FALSE NEIGHBOUR: 'it returns false'. Refute it at one input. -/
def fnPushesFromWrong : ChangeSpec := { name := "fnPushesFrom", fn := fun _ => fun
  | [d] => { results := [.lit (.bool false)], args := [d] }
  | _ => none }
def FnPushesFromWrongFalsely : Prop := fnPushesFromRow.holds Try.pinned (OpenSpec.ofChange fnPushesFromWrong)

/-- 'laws.FnPushesInto': WHATEVER THE INPUT: true; the input reads as it did. -/
def fnPushesIntoSpec : ChangeSpec := { name := "fnPushesInto", fn := fun _ => fun
  | [d] => { results := [.lit (.bool true)], args := [d] }
  | _ => none }
def fnPushesIntoRow : OpenClaim := { program := "ytpeifojfpkkcpaa", sum := "e13ada08f1bc252136e08671236f6e941b71d67f6b39a81ee9aa98ec5ff93fba", func := "loop.example/dominotilings/laws.FnPushesInto", spec := "fnPushesInto", unfollowed := true, recurses := true, apart := false }
def FnPushesIntoSaid : Prop := fnPushesIntoRow.holds Try.pinned (OpenSpec.ofChange fnPushesIntoSpec)

/-- ITS FALSE NEIGHBOUR: 'it returns false'. Refute it at one input. -/
def fnPushesIntoWrong : ChangeSpec := { name := "fnPushesInto", fn := fun _ => fun
  | [d] => { results := [.lit (.bool false)], args := [d] }
  | _ => none }
def FnPushesIntoWrongFalsely : Prop := fnPushesIntoRow.holds Try.pinned (OpenSpec.ofChange fnPushesIntoWrong)

/-- 'laws.FnUpOf': WHATEVER THE INPUT: true; the input reads as it did. -/
def fnUpOfSpec : ChangeSpec := { name := "fnUpOf", fn := fun _ => fun
  | [d] => { results := [.lit (.bool true)], args := [d] }
  | _ => none }
def fnUpOfRow : OpenClaim := { program := "ytpeifojfpkkcpaa", sum := "e13ada08f1bc252136e08671236f6e941b71d67f6b39a81ee9aa98ec5ff93fba", func := "loop.example/dominotilings/laws.FnUpOf", spec := "fnUpOf", unfollowed := true, recurses := true, apart := false }
def FnUpOfSaid : Prop := fnUpOfRow.holds Try.pinned (OpenSpec.ofChange fnUpOfSpec)

/-- ITS FALSE NEIGHBOUR: 'it returns false'. Refute it at one input. -/
def fnUpOfWrong : ChangeSpec := { name := "fnUpOf", fn := fun _ => fun
  | [d] => { results := [.lit (.bool false)], args := [d] }
  | _ => none }
def FnUpOfWrongFalsely : Prop := fnUpOfRow.holds Try.pinned (OpenSpec.ofChange fnUpOfWrong)

/-- 'laws.FnDownOf': WHATEVER THE INPUT: true; the input reads as it did. -/
def fnDownOfSpec : ChangeSpec := { name := "fnDownOf", fn := fun _ => fun
  | [d] => { results := [.lit (.bool true)], args := [d] }
  | _ => none }
def fnDownOfRow : OpenClaim := { program := "ytpeifojfpkkcpaa", sum := "e13ada08f1bc252136e08671236f6e941b71d67f6b39a81ee9aa98ec5ff93fba", func := "loop.example/dominotilings/laws.FnDownOf", spec := "fnDownOf", unfollowed := true, recurses := true, apart := false }
def FnDownOfSaid : Prop := fnDownOfRow.holds Try.pinned (OpenSpec.ofChange fnDownOfSpec)

/-- ITS FALSE NEIGHBOUR: 'it returns false'. Refute it at one input. -/
def fnDownOfWrong : ChangeSpec := { name := "fnDownOf", fn := fun _ => fun
  | [d] => { results := [.lit (.bool false)], args := [d] }
  | _ => none }
def FnDownOfWrongFalsely : Prop := fnDownOfRow.holds Try.pinned (OpenSpec.ofChange fnDownOfWrong)

/-- 'laws.FnDownAll': WHATEVER THE INPUT: true; the input reads as it did. -/
def fnDownAllSpec : ChangeSpec := { name := "fnDownAll", fn := fun _ => fun
  | [d] => { results := [.lit (.bool true)], args := [d] }
  | _ => none }
def fnDownAllRow : OpenClaim := { program := "ytpeifojfpkkcpaa", sum := "e13ada08f1bc252136e08671236f6e941b71d67f6b39a81ee9aa98ec5ff93fba", func := "loop.example/dominotilings/laws.FnDownAll", spec := "fnDownAll", unfollowed := true, recurses := true, apart := false }
def FnDownAllSaid : Prop := fnDownAllRow.holds Try.pinned (OpenSpec.ofChange fnDownAllSpec)

/-- ITS FALSE NEIGHBOUR: 'it returns false'. Refute it at one input. -/
def fnDownAllWrong : ChangeSpec := { name := "fnDownAll", fn := fun _ => fun
  | [d] => { results := [.lit (.bool false)], args := [d] }
  | _ => none }
def FnDownAllWrongFalsely : Prop := fnDownAllRow.holds Try.pinned (OpenSpec.ofChange fnDownAllWrong)

/-- 'laws.FnFlipWay': WHATEVER THE INPUT: true; the input reads as it did. -/
def fnFlipWaySpec : ChangeSpec := { name := "fnFlipWay", fn := fun _ => fun
  | [d] => { results := [.lit (.bool true)], args := [d] }
  | _ => none }
def fnFlipWayRow : OpenClaim := { program := "ytpeifojfpkkcpaa", sum := "e13ada08f1bc252136e08671236f6e941b71d67f6b39a81ee9aa98ec5ff93fba", func := "loop.example/dominotilings/laws.FnFlipWay", spec := "fnFlipWay", unfollowed := true, recurses := true, apart := false }
def FnFlipWaySaid : Prop := fnFlipWayRow.holds Try.pinned (OpenSpec.ofChange fnFlipWaySpec)

/-- ITS FALSE NEIGHBOUR: 'it returns false'. Refute it at one input. -/
def fnFlipWayWrong : ChangeSpec := { name := "fnFlipWay", fn := fun _ => fun
  | [d] => { results := [.lit (.bool false)], args := [d] }
  | _ => none }
def FnFlipWayWrongFalsely : Prop := fnFlipWayRow.holds Try.pinned (OpenSpec.ofChange fnFlipWayWrong)

/-- 'laws.FnHeightsOf': WHATEVER THE INPUT: true; the input reads as it did. -/
def fnHeightsOfSpec : ChangeSpec := { name := "fnHeightsOf", fn := fun _ => fun
  | [d] => { results := [.lit (.bool true)], args := [d] }
  | _ => none }
def fnHeightsOfRow : OpenClaim := { program := "ytpeifojfpkkcpaa", sum := "e13ada08f1bc252136e08671236f6e941b71d67f6b39a81ee9aa98ec5ff93fba", func := "loop.example/dominotilings/laws.FnHeightsOf", spec := "fnHeightsOf", unfollowed := true, recurses := true, apart := false }
def FnHeightsOfSaid : Prop := fnHeightsOfRow.holds Try.pinned (OpenSpec.ofChange fnHeightsOfSpec)

/-- ITS FALSE NEIGHBOUR: 'it returns false'. Refute it at one input. -/
def fnHeightsOfWrong : ChangeSpec := { name := "fnHeightsOf", fn := fun _ => fun
  | [d] => { results := [.lit (.bool false)], args := [d] }
  | _ => none }
def FnHeightsOfWrongFalsely : Prop := fnHeightsOfRow.holds Try.pinned (OpenSpec.ofChange fnHeightsOfWrong)

/-- 'laws.FnApart': WHATEVER THE INPUT: true; the input reads as it did. -/
def fnApartSpec : ChangeSpec := { name := "fnApart", fn := fun _ => fun
  | [d] => { results := [.lit (.bool true)], args := [d] }
  | _ => none }
def fnApartRow : OpenClaim := { program := "ytpeifojfpkkcpaa", sum := "e13ada08f1bc252136e08671236f6e941b71d67f6b39a81ee9aa98ec5ff93fba", func := "loop.example/dominotilings/laws.FnApart", spec := "fnApart", unfollowed := true, recurses := true, apart := false }
def FnApartSaid : Prop := fnApartRow.holds Try.pinned (OpenSpec.ofChange fnApartSpec)

/-- ITS FALSE NEIGHBOUR: 'it returns false'. Refute it at one input. -/
def fnApartWrong : ChangeSpec := { name := "fnApart", fn := fun _ => fun
  | [d] => { results := [.lit (.bool false)], args := [d] }
  | _ => none }
def FnApartWrongFalsely : Prop := fnApartRow.holds Try.pinned (OpenSpec.ofChange fnApartWrong)

/- THE SECOND FORM. 'bulk': how many values and letters a reading holds, each counted each time it is reached (what is shared counts as often as it is met; a slice's spare places count too). A statement '..UptoSaid' is the law's where the arguments, and the package variables that the reading takes, are together of bulk at most 1048576: NARROWER than '..Said'. Prove '..Said' where nothing that the law and all that it calls make is longer than what came in: it says more and counts as full. Else prove '..UptoSaid'. A law counts once. -/
mutual
def uptoBulk {H : Type} : DataW H → Nat
  | .lit (.string bytes) => bytes.length + 1
  | .lit _ => 1
  | .nil => 1
  | .ptr d => uptoBulk d + 1
  | .slice elems spare => uptoBulkAll elems + uptoBulkAll spare + 1
  | .agg parts => uptoBulkAll parts + 1
  | .iface _ d => uptoBulk d + 1
  | .map entries => uptoBulkEntries entries + 1
  | .held _ => 1
def uptoBulkAll {H : Type} : List (DataW H) → Nat
  | [] => 0
  | d :: r => uptoBulk d + uptoBulkAll r
def uptoBulkEntries {H : Type} : List (Lit × DataW H) → Nat
  | [] => 0
  | x :: r => uptoBulkEntry x + uptoBulkEntries r
def uptoBulkEntry {H : Type} : Lit × DataW H → Nat
  | (.string bytes, d) => bytes.length + uptoBulk d + 1
  | (_, d) => uptoBulk d + 1
 end
def uptoSmall : (H : Type) → List (DataW H) → Bool := fun _ ds => decide (uptoBulkAll ds ≤ 1048576)
def OpenSpec.upto (s : _root_.Go.ChangeSpec) : _root_.Go.OpenSpec := { _root_.Go.OpenSpec.ofChange s with cond := some uptoSmall }

/-- 'laws.FnFlipRun', WHERE WHAT IT READS IS OF BULK AT MOST 1048576: true; the input reads as it did. -/
def fnFlipRunUptoRow : OpenClaim := { program := "ytpeifojfpkkcpaa", sum := "e13ada08f1bc252136e08671236f6e941b71d67f6b39a81ee9aa98ec5ff93fba", func := "loop.example/dominotilings/laws.FnFlipRun", spec := "fnFlipRun", recurses := true, apart := false, narrowed := true }
def FnFlipRunUptoSaid : Prop := fnFlipRunUptoRow.holds Try.pinned (OpenSpec.upto fnFlipRunSpec)

/-- 'laws.FnPushesValid', WHERE WHAT IT READS IS OF BULK AT MOST 1048576: true; the input reads as it did. -/
def fnPushesValidUptoRow : OpenClaim := { program := "ytpeifojfpkkcpaa", sum := "e13ada08f1bc252136e08671236f6e941b71d67f6b39a81ee9aa98ec5ff93fba", func := "loop.example/dominotilings/laws.FnPushesValid", spec := "fnPushesValid", unfollowed := true, recurses := true, apart := false, narrowed := true }
def FnPushesValidUptoSaid : Prop := fnPushesValidUptoRow.holds Try.pinned (OpenSpec.upto fnPushesValidSpec)

/-- 'laws.FnPushesBy', WHERE WHAT IT READS IS OF BULK AT MOST 1048576: true; the input reads as it did. -/
def fnPushesByUptoRow : OpenClaim := { program := "ytpeifojfpkkcpaa", sum := "e13ada08f1bc252136e08671236f6e941b71d67f6b39a81ee9aa98ec5ff93fba", func := "loop.example/dominotilings/laws.FnPushesBy", spec := "fnPushesBy", unfollowed := true, recurses := true, apart := false, narrowed := true }
def FnPushesByUptoSaid : Prop := fnPushesByUptoRow.holds Try.pinned (OpenSpec.upto fnPushesBySpec)

/-- 'laws.FnPushesFrom', WHERE WHAT IT READS IS OF BULK AT MOST 1048576: true; the input reads as it did. -/
def fnPushesFromUptoRow : OpenClaim := { program := "ytpeifojfpkkcpaa", sum := "e13ada08f1bc252136e08671236f6e941b71d67f6b39a81ee9aa98ec5ff93fba", func := "loop.example/dominotilings/laws.FnPushesFrom", spec := "fnPushesFrom", unfollowed := true, recurses := true, apart := false, narrowed := true }
def FnPushesFromUptoSaid : Prop := fnPushesFromUptoRow.holds Try.pinned (OpenSpec.upto fnPushesFromSpec)

/-- 'laws.FnPushesInto', WHERE WHAT IT READS IS OF BULK AT MOST 1048576: true; the input reads as it did. -/
def fnPushesIntoUptoRow : OpenClaim := { program := "ytpeifojfpkkcpaa", sum := "e13ada08f1bc252136e08671236f6e941b71d67f6b39a81ee9aa98ec5ff93fba", func := "loop.example/dominotilings/laws.FnPushesInto", spec := "fnPushesInto", unfollowed := true, recurses := true, apart := false, narrowed := true }
def FnPushesIntoUptoSaid : Prop := fnPushesIntoUptoRow.holds Try.pinned (OpenSpec.upto fnPushesIntoSpec)

/-- 'laws.FnUpOf', WHERE WHAT IT READS IS OF BULK AT MOST 1048576: true; the input reads as it did. -/
def fnUpOfUptoRow : OpenClaim := { program := "ytpeifojfpkkcpaa", sum := "e13ada08f1bc252136e08671236f6e941b71d67f6b39a81ee9aa98ec5ff93fba", func := "loop.example/dominotilings/laws.FnUpOf", spec := "fnUpOf", unfollowed := true, recurses := true, apart := false, narrowed := true }
def FnUpOfUptoSaid : Prop := fnUpOfUptoRow.holds Try.pinned (OpenSpec.upto fnUpOfSpec)

/-- 'laws.FnDownOf', WHERE WHAT IT READS IS OF BULK AT MOST 1048576: true; the input reads as it did. -/
def fnDownOfUptoRow : OpenClaim := { program := "ytpeifojfpkkcpaa", sum := "e13ada08f1bc252136e08671236f6e941b71d67f6b39a81ee9aa98ec5ff93fba", func := "loop.example/dominotilings/laws.FnDownOf", spec := "fnDownOf", unfollowed := true, recurses := true, apart := false, narrowed := true }
def FnDownOfUptoSaid : Prop := fnDownOfUptoRow.holds Try.pinned (OpenSpec.upto fnDownOfSpec)

/-- 'laws.FnDownAll', WHERE WHAT IT READS IS OF BULK AT MOST 1048576: true; the input reads as it did. -/
def fnDownAllUptoRow : OpenClaim := { program := "ytpeifojfpkkcpaa", sum := "e13ada08f1bc252136e08671236f6e941b71d67f6b39a81ee9aa98ec5ff93fba", func := "loop.example/dominotilings/laws.FnDownAll", spec := "fnDownAll", unfollowed := true, recurses := true, apart := false, narrowed := true }
def FnDownAllUptoSaid : Prop := fnDownAllUptoRow.holds Try.pinned (OpenSpec.upto fnDownAllSpec)

/-- 'laws.FnFlipWay', WHERE WHAT IT READS IS OF BULK AT MOST 1048576: true; the input reads as it did. -/
def fnFlipWayUptoRow : OpenClaim := { program := "ytpeifojfpkkcpaa", sum := "e13ada08f1bc252136e08671236f6e941b71d67f6b39a81ee9aa98ec5ff93fba", func := "loop.example/dominotilings/laws.FnFlipWay", spec := "fnFlipWay", unfollowed := true, recurses := true, apart := false, narrowed := true }
def FnFlipWayUptoSaid : Prop := fnFlipWayUptoRow.holds Try.pinned (OpenSpec.upto fnFlipWaySpec)

/-- 'laws.FnHeightsOf', WHERE WHAT IT READS IS OF BULK AT MOST 1048576: true; the input reads as it did. -/
def fnHeightsOfUptoRow : OpenClaim := { program := "ytpeifojfpkkcpaa", sum := "e13ada08f1bc252136e08671236f6e941b71d67f6b39a81ee9aa98ec5ff93fba", func := "loop.example/dominotilings/laws.FnHeightsOf", spec := "fnHeightsOf", unfollowed := true, recurses := true, apart := false, narrowed := true }
def FnHeightsOfUptoSaid : Prop := fnHeightsOfUptoRow.holds Try.pinned (OpenSpec.upto fnHeightsOfSpec)

/-- 'laws.FnApart', WHERE WHAT IT READS IS OF BULK AT MOST 1048576: true; the input reads as it did. -/
def fnApartUptoRow : OpenClaim := { program := "ytpeifojfpkkcpaa", sum := "e13ada08f1bc252136e08671236f6e941b71d67f6b39a81ee9aa98ec5ff93fba", func := "loop.example/dominotilings/laws.FnApart", spec := "fnApart", unfollowed := true, recurses := true, apart := false, narrowed := true }
def FnApartUptoSaid : Prop := fnApartUptoRow.holds Try.pinned (OpenSpec.upto fnApartSpec)

end Rows
end Go.Proofs.Ytpeifojfpkkcpaa
