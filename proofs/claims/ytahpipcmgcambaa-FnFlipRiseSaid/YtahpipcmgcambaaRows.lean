/-
  No cell of these rows narrows 'for every input' (looked for: loops, veiled, ifaces, maps, wideKeys, modest, calm, conditions, laid).
  DERIVED. THE GIVEN ROWS OF THIS SEAT. 12 by the template 'for every input the law returns true; each argument reads behind the call as it read before'; 0 by the template 'total and deterministic' (their statements: YtahpipcmgcambaaTotals.lean).
  GIVEN WITH THE SEED: the statements are not yours to turn. If you find one false, say at which input.
  Laid BY PROGRAM, IN A SANDBOX (cutbox-rows.mjs): the forced cells as the released guide's own fill.sh prints them over the translation 38a3c8d4a32fd3a5… (all of the seat's roots in one cut). By AI agents, Wed Nov 11 2026. No macro, syntax, notation, axiom, sorry.
-/
import Derived.Test.YtahpipcmgcambaaChecked
import GoSem.Claim
import GoSem.ClaimJoined
import GoSem.ClaimMapViews
import Derived.JoinedTies
import Derived.KernelRfl
namespace Go.Proofs.Ytahpipcmgcambaa
/- THE CELL 'sum', in the pinned program and in every row, IS THE sha256 OF THE DUMP (.gsa) THAT YtahpipcmgcambaaProg.lean LOADS. Nothing in Lean hashes anything: it is a label: what it is worth is what the hold of that sum in a sandbox is worth. -/
noncomputable def Try.pinned : Pinned := { name := "ytahpipcmgcambaa", sum := "38a3c8d4a32fd3a5d276211ea12313f736321022b6d9453c5eef334c8629f9d8", checked := Try.checked }
namespace Rows
def none {H : Type} : Left H := { results := [], args := [] }

/-- 'laws.FnTilingBy': WHATEVER THE INPUT: true; the input reads as it did. -/
def fnTilingBySpec : ChangeSpec := { name := "fnTilingBy", fn := fun _ => fun
  | [d] => { results := [.lit (.bool true)], args := [d] }
  | _ => none }
def fnTilingByRow : OpenClaim := { program := "ytahpipcmgcambaa", sum := "38a3c8d4a32fd3a5d276211ea12313f736321022b6d9453c5eef334c8629f9d8", func := "loop.example/dominotilings/laws.FnTilingBy", spec := "fnTilingBy", unfollowed := true, recurses := true, apart := false }
def FnTilingBySaid : Prop := fnTilingByRow.holds Try.pinned (OpenSpec.ofChange fnTilingBySpec)

/-- ITS FALSE NEIGHBOUR: 'it returns false'. Refute it at one input. -/
def fnTilingByWrong : ChangeSpec := { name := "fnTilingBy", fn := fun _ => fun
  | [d] => { results := [.lit (.bool false)], args := [d] }
  | _ => none }
def FnTilingByWrongFalsely : Prop := fnTilingByRow.holds Try.pinned (OpenSpec.ofChange fnTilingByWrong)

/-- 'laws.FnHeightsOk': WHATEVER THE INPUT: true; the input reads as it did. -/
def fnHeightsOkSpec : ChangeSpec := { name := "fnHeightsOk", fn := fun _ => fun
  | [d] => { results := [.lit (.bool true)], args := [d] }
  | _ => none }
def fnHeightsOkRow : OpenClaim := { program := "ytahpipcmgcambaa", sum := "38a3c8d4a32fd3a5d276211ea12313f736321022b6d9453c5eef334c8629f9d8", func := "loop.example/dominotilings/laws.FnHeightsOk", spec := "fnHeightsOk", unfollowed := true, recurses := true, apart := false }
def FnHeightsOkSaid : Prop := fnHeightsOkRow.holds Try.pinned (OpenSpec.ofChange fnHeightsOkSpec)

/-- ITS FALSE NEIGHBOUR: 'it returns false'. Refute it at one input. -/
def fnHeightsOkWrong : ChangeSpec := { name := "fnHeightsOk", fn := fun _ => fun
  | [d] => { results := [.lit (.bool false)], args := [d] }
  | _ => none }
def FnHeightsOkWrongFalsely : Prop := fnHeightsOkRow.holds Try.pinned (OpenSpec.ofChange fnHeightsOkWrong)

/-- 'laws.FnHeightsHigh': WHATEVER THE INPUT: true; the input reads as it did. -/
def fnHeightsHighSpec : ChangeSpec := { name := "fnHeightsHigh", fn := fun _ => fun
  | [d] => { results := [.lit (.bool true)], args := [d] }
  | _ => none }
def fnHeightsHighRow : OpenClaim := { program := "ytahpipcmgcambaa", sum := "38a3c8d4a32fd3a5d276211ea12313f736321022b6d9453c5eef334c8629f9d8", func := "loop.example/dominotilings/laws.FnHeightsHigh", spec := "fnHeightsHigh", unfollowed := true, recurses := true, apart := false }
def FnHeightsHighSaid : Prop := fnHeightsHighRow.holds Try.pinned (OpenSpec.ofChange fnHeightsHighSpec)

/-- ITS FALSE NEIGHBOUR: 'it returns false'. Refute it at one input. -/
def fnHeightsHighWrong : ChangeSpec := { name := "fnHeightsHigh", fn := fun _ => fun
  | [d] => { results := [.lit (.bool false)], args := [d] }
  | _ => none }
def FnHeightsHighWrongFalsely : Prop := fnHeightsHighRow.holds Try.pinned (OpenSpec.ofChange fnHeightsHighWrong)

/-- 'laws.FnHeightsLow': WHATEVER THE INPUT: true; the input reads as it did. -/
def fnHeightsLowSpec : ChangeSpec := { name := "fnHeightsLow", fn := fun _ => fun
  | [d] => { results := [.lit (.bool true)], args := [d] }
  | _ => none }
def fnHeightsLowRow : OpenClaim := { program := "ytahpipcmgcambaa", sum := "38a3c8d4a32fd3a5d276211ea12313f736321022b6d9453c5eef334c8629f9d8", func := "loop.example/dominotilings/laws.FnHeightsLow", spec := "fnHeightsLow", unfollowed := true, recurses := true, apart := false }
def FnHeightsLowSaid : Prop := fnHeightsLowRow.holds Try.pinned (OpenSpec.ofChange fnHeightsLowSpec)

/-- ITS FALSE NEIGHBOUR: 'it returns false'. Refute it at one input. -/
def fnHeightsLowWrong : ChangeSpec := { name := "fnHeightsLow", fn := fun _ => fun
  | [d] => { results := [.lit (.bool false)], args := [d] }
  | _ => none }
def FnHeightsLowWrongFalsely : Prop := fnHeightsLowRow.holds Try.pinned (OpenSpec.ofChange fnHeightsLowWrong)

/-- 'laws.FnTilingHigh': WHATEVER THE INPUT: true; the input reads as it did. -/
def fnTilingHighSpec : ChangeSpec := { name := "fnTilingHigh", fn := fun _ => fun
  | [d] => { results := [.lit (.bool true)], args := [d] }
  | _ => none }
def fnTilingHighRow : OpenClaim := { program := "ytahpipcmgcambaa", sum := "38a3c8d4a32fd3a5d276211ea12313f736321022b6d9453c5eef334c8629f9d8", func := "loop.example/dominotilings/laws.FnTilingHigh", spec := "fnTilingHigh", unfollowed := true, recurses := true, apart := false }
def FnTilingHighSaid : Prop := fnTilingHighRow.holds Try.pinned (OpenSpec.ofChange fnTilingHighSpec)

/-- ITS FALSE NEIGHBOUR: 'it returns false'. Refute it at one input. -/
def fnTilingHighWrong : ChangeSpec := { name := "fnTilingHigh", fn := fun _ => fun
  | [d] => { results := [.lit (.bool false)], args := [d] }
  | _ => none }
def FnTilingHighWrongFalsely : Prop := fnTilingHighRow.holds Try.pinned (OpenSpec.ofChange fnTilingHighWrong)

/-- 'laws.FnBelow': WHATEVER THE INPUT: true; the input reads as it did. -/
def fnBelowSpec : ChangeSpec := { name := "fnBelow", fn := fun _ => fun
  | [d] => { results := [.lit (.bool true)], args := [d] }
  | _ => none }
def fnBelowRow : OpenClaim := { program := "ytahpipcmgcambaa", sum := "38a3c8d4a32fd3a5d276211ea12313f736321022b6d9453c5eef334c8629f9d8", func := "loop.example/dominotilings/laws.FnBelow", spec := "fnBelow", unfollowed := true, recurses := true, apart := false }
def FnBelowSaid : Prop := fnBelowRow.holds Try.pinned (OpenSpec.ofChange fnBelowSpec)

/-- ITS FALSE NEIGHBOUR: 'it returns false'. Refute it at one input. -/
def fnBelowWrong : ChangeSpec := { name := "fnBelow", fn := fun _ => fun
  | [d] => { results := [.lit (.bool false)], args := [d] }
  | _ => none }
def FnBelowWrongFalsely : Prop := fnBelowRow.holds Try.pinned (OpenSpec.ofChange fnBelowWrong)

/-- 'laws.FnFlipRise': WHATEVER THE INPUT: true; the input reads as it did. -/
def fnFlipRiseSpec : ChangeSpec := { name := "fnFlipRise", fn := fun _ => fun
  | [d] => { results := [.lit (.bool true)], args := [d] }
  | _ => none }
def fnFlipRiseRow : OpenClaim := { program := "ytahpipcmgcambaa", sum := "38a3c8d4a32fd3a5d276211ea12313f736321022b6d9453c5eef334c8629f9d8", func := "loop.example/dominotilings/laws.FnFlipRise", spec := "fnFlipRise", unfollowed := true, recurses := true, apart := false }
def FnFlipRiseSaid : Prop := fnFlipRiseRow.holds Try.pinned (OpenSpec.ofChange fnFlipRiseSpec)

/-- ITS FALSE NEIGHBOUR: 'it returns false'. Refute it at one input. -/
def fnFlipRiseWrong : ChangeSpec := { name := "fnFlipRise", fn := fun _ => fun
  | [d] => { results := [.lit (.bool false)], args := [d] }
  | _ => none }
def FnFlipRiseWrongFalsely : Prop := fnFlipRiseRow.holds Try.pinned (OpenSpec.ofChange fnFlipRiseWrong)

/-- 'laws.FnFlipOne': WHATEVER THE INPUT: true; the input reads as it did. -/
def fnFlipOneSpec : ChangeSpec := { name := "fnFlipOne", fn := fun _ => fun
  | [d] => { results := [.lit (.bool true)], args := [d] }
  | _ => none }
def fnFlipOneRow : OpenClaim := { program := "ytahpipcmgcambaa", sum := "38a3c8d4a32fd3a5d276211ea12313f736321022b6d9453c5eef334c8629f9d8", func := "loop.example/dominotilings/laws.FnFlipOne", spec := "fnFlipOne", recurses := true, apart := false }
def FnFlipOneSaid : Prop := fnFlipOneRow.holds Try.pinned (OpenSpec.ofChange fnFlipOneSpec)

/-- ITS FALSE NEIGHBOUR: 'it returns false'. Refute it at one input. -/
def fnFlipOneWrong : ChangeSpec := { name := "fnFlipOne", fn := fun _ => fun
  | [d] => { results := [.lit (.bool false)], args := [d] }
  | _ => none }
def FnFlipOneWrongFalsely : Prop := fnFlipOneRow.holds Try.pinned (OpenSpec.ofChange fnFlipOneWrong)

/-- 'laws.FnFlipRun': WHATEVER THE INPUT: true; the input reads as it did. -/
def fnFlipRunSpec : ChangeSpec := { name := "fnFlipRun", fn := fun _ => fun
  | [d] => { results := [.lit (.bool true)], args := [d] }
  | _ => none }
def fnFlipRunRow : OpenClaim := { program := "ytahpipcmgcambaa", sum := "38a3c8d4a32fd3a5d276211ea12313f736321022b6d9453c5eef334c8629f9d8", func := "loop.example/dominotilings/laws.FnFlipRun", spec := "fnFlipRun", recurses := true, apart := false }
def FnFlipRunSaid : Prop := fnFlipRunRow.holds Try.pinned (OpenSpec.ofChange fnFlipRunSpec)

/-- ITS FALSE NEIGHBOUR: 'it returns false'. Refute it at one input. -/
def fnFlipRunWrong : ChangeSpec := { name := "fnFlipRun", fn := fun _ => fun
  | [d] => { results := [.lit (.bool false)], args := [d] }
  | _ => none }
def FnFlipRunWrongFalsely : Prop := fnFlipRunRow.holds Try.pinned (OpenSpec.ofChange fnFlipRunWrong)

/-- 'laws.FnPushesValid': WHATEVER THE INPUT: true; the input reads as it did. -/
def fnPushesValidSpec : ChangeSpec := { name := "fnPushesValid", fn := fun _ => fun
  | [d] => { results := [.lit (.bool true)], args := [d] }
  | _ => none }
def fnPushesValidRow : OpenClaim := { program := "ytahpipcmgcambaa", sum := "38a3c8d4a32fd3a5d276211ea12313f736321022b6d9453c5eef334c8629f9d8", func := "loop.example/dominotilings/laws.FnPushesValid", spec := "fnPushesValid", unfollowed := true, recurses := true, apart := false }
def FnPushesValidSaid : Prop := fnPushesValidRow.holds Try.pinned (OpenSpec.ofChange fnPushesValidSpec)

/-- ITS FALSE NEIGHBOUR: 'it returns false'. Refute it at one input. -/
def fnPushesValidWrong : ChangeSpec := { name := "fnPushesValid", fn := fun _ => fun
  | [d] => { results := [.lit (.bool false)], args := [d] }
  | _ => none }
def FnPushesValidWrongFalsely : Prop := fnPushesValidRow.holds Try.pinned (OpenSpec.ofChange fnPushesValidWrong)

/-- 'laws.FnHeightsOf': WHATEVER THE INPUT: true; the input reads as it did. -/
def fnHeightsOfSpec : ChangeSpec := { name := "fnHeightsOf", fn := fun _ => fun
  | [d] => { results := [.lit (.bool true)], args := [d] }
  | _ => none }
def fnHeightsOfRow : OpenClaim := { program := "ytahpipcmgcambaa", sum := "38a3c8d4a32fd3a5d276211ea12313f736321022b6d9453c5eef334c8629f9d8", func := "loop.example/dominotilings/laws.FnHeightsOf", spec := "fnHeightsOf", unfollowed := true, recurses := true, apart := false }
def FnHeightsOfSaid : Prop := fnHeightsOfRow.holds Try.pinned (OpenSpec.ofChange fnHeightsOfSpec)

/-- ITS FALSE NEIGHBOUR: 'it returns false'. Refute it at one input. -/
def fnHeightsOfWrong : ChangeSpec := { name := "fnHeightsOf", fn := fun _ => fun
  | [d] => { results := [.lit (.bool false)], args := [d] }
  | _ => none }
def FnHeightsOfWrongFalsely : Prop := fnHeightsOfRow.holds Try.pinned (OpenSpec.ofChange fnHeightsOfWrong)

/-- 'laws.FnApart': WHATEVER THE INPUT: true; the input reads as it did. -/
def fnApartSpec : ChangeSpec := { name := "fnApart", fn := fun _ => fun
  | [d] => { results := [.lit (.bool true)], args := [d] }
  | _ => none }
def fnApartRow : OpenClaim := { program := "ytahpipcmgcambaa", sum := "38a3c8d4a32fd3a5d276211ea12313f736321022b6d9453c5eef334c8629f9d8", func := "loop.example/dominotilings/laws.FnApart", spec := "fnApart", unfollowed := true, recurses := true, apart := false }
def FnApartSaid : Prop := fnApartRow.holds Try.pinned (OpenSpec.ofChange fnApartSpec)

/-- ITS FALSE NEIGHBOUR: 'it returns false'. Refute it at one input. -/
def fnApartWrong : ChangeSpec := { name := "fnApart", fn := fun _ => fun
  | [d] => { results := [.lit (.bool false)], args := [d] }
  | _ => none }
def FnApartWrongFalsely : Prop := fnApartRow.holds Try.pinned (OpenSpec.ofChange fnApartWrong)

/- THE SECOND FORM. 'bulk': how many values and letters a reading holds, each counted each time it is reached (what is shared counts as often as it is met; a slice's spare places count too). A statement '..UptoSaid' is the law's where the arguments, and the package variables that the reading takes, are together of bulk at most 1048576: NARROWER than '..Said'. Prove '..Said' where nothing that the law and all that it calls make is longer than what came in: it says more and counts as full. Else prove '..UptoSaid'. A law counts once. -/
mutual
def uptoBulk {H : Type} : DataW H → Nat
  | .lit (.string bytes) => bytes.length + 1
  | .lit _ => 1
  | .nil => 1
  | .ptr d => uptoBulk d + 1
  | .slice elems spare => uptoBulkAll elems + uptoBulkAll spare + 1
  | .agg parts => uptoBulkAll parts + 1
  | .iface _ d => uptoBulk d + 1
  | .map entries => uptoBulkEntries entries + 1
  | .held _ => 1
def uptoBulkAll {H : Type} : List (DataW H) → Nat
  | [] => 0
  | d :: r => uptoBulk d + uptoBulkAll r
def uptoBulkEntries {H : Type} : List (Lit × DataW H) → Nat
  | [] => 0
  | x :: r => uptoBulkEntry x + uptoBulkEntries r
def uptoBulkEntry {H : Type} : Lit × DataW H → Nat
  | (.string bytes, d) => bytes.length + uptoBulk d + 1
  | (_, d) => uptoBulk d + 1
 end
def uptoSmall : (H : Type) → List (DataW H) → Bool := fun _ ds => decide (uptoBulkAll ds ≤ 1048576)
def OpenSpec.upto (s : _root_.Go.ChangeSpec) : _root_.Go.OpenSpec := { _root_.Go.OpenSpec.ofChange s with cond := some uptoSmall }

/-- 'laws.FnTilingBy', WHERE WHAT IT READS IS OF BULK AT MOST 1048576: true; the input reads as it did. -/
def fnTilingByUptoRow : OpenClaim := { program := "ytahpipcmgcambaa", sum := "38a3c8d4a32fd3a5d276211ea12313f736321022b6d9453c5eef334c8629f9d8", func := "loop.example/dominotilings/laws.FnTilingBy", spec := "fnTilingBy", unfollowed := true, recurses := true, apart := false, narrowed := true }
def FnTilingByUptoSaid : Prop := fnTilingByUptoRow.holds Try.pinned (OpenSpec.upto fnTilingBySpec)

/-- 'laws.FnHeightsOk', WHERE WHAT IT READS IS OF BULK AT MOST 1048576: true; the input reads as it did. -/
def fnHeightsOkUptoRow : OpenClaim := { program := "ytahpipcmgcambaa", sum := "38a3c8d4a32fd3a5d276211ea12313f736321022b6d9453c5eef334c8629f9d8", func := "loop.example/dominotilings/laws.FnHeightsOk", spec := "fnHeightsOk", unfollowed := true, recurses := true, apart := false, narrowed := true }
def FnHeightsOkUptoSaid : Prop := fnHeightsOkUptoRow.holds Try.pinned (OpenSpec.upto fnHeightsOkSpec)

/-- 'laws.FnHeightsHigh', WHERE WHAT IT READS IS OF BULK AT MOST 1048576: true; the input reads as it did. -/
def fnHeightsHighUptoRow : OpenClaim := { program := "ytahpipcmgcambaa", sum := "38a3c8d4a32fd3a5d276211ea12313f736321022b6d9453c5eef334c8629f9d8", func := "loop.example/dominotilings/laws.FnHeightsHigh", spec := "fnHeightsHigh", unfollowed := true, recurses := true, apart := false, narrowed := true }
def FnHeightsHighUptoSaid : Prop := fnHeightsHighUptoRow.holds Try.pinned (OpenSpec.upto fnHeightsHighSpec)

/-- 'laws.FnHeightsLow', WHERE WHAT IT READS IS OF BULK AT MOST 1048576: true; the input reads as it did. -/
def fnHeightsLowUptoRow : OpenClaim := { program := "ytahpipcmgcambaa", sum := "38a3c8d4a32fd3a5d276211ea12313f736321022b6d9453c5eef334c8629f9d8", func := "loop.example/dominotilings/laws.FnHeightsLow", spec := "fnHeightsLow", unfollowed := true, recurses := true, apart := false, narrowed := true }
def FnHeightsLowUptoSaid : Prop := fnHeightsLowUptoRow.holds Try.pinned (OpenSpec.upto fnHeightsLowSpec)

/-- 'laws.FnTilingHigh', WHERE WHAT IT READS IS OF BULK AT MOST 1048576: true; the input reads as it did. -/
def fnTilingHighUptoRow : OpenClaim := { program := "ytahpipcmgcambaa", sum := "38a3c8d4a32fd3a5d276211ea12313f736321022b6d9453c5eef334c8629f9d8", func := "loop.example/dominotilings/laws.FnTilingHigh", spec := "fnTilingHigh", unfollowed := true, recurses := true, apart := false, narrowed := true }
def FnTilingHighUptoSaid : Prop := fnTilingHighUptoRow.holds Try.pinned (OpenSpec.upto fnTilingHighSpec)

/-- 'laws.FnBelow', WHERE WHAT IT READS IS OF BULK AT MOST 1048576: true; the input reads as it did. -/
def fnBelowUptoRow : OpenClaim := { program := "ytahpipcmgcambaa", sum := "38a3c8d4a32fd3a5d276211ea12313f736321022b6d9453c5eef334c8629f9d8", func := "loop.example/dominotilings/laws.FnBelow", spec := "fnBelow", unfollowed := true, recurses := true, apart := false, narrowed := true }
def FnBelowUptoSaid : Prop := fnBelowUptoRow.holds Try.pinned (OpenSpec.upto fnBelowSpec)

/-- 'laws.FnFlipRise', WHERE WHAT IT READS IS OF BULK AT MOST 1048576: true; the input reads as it did. -/
def fnFlipRiseUptoRow : OpenClaim := { program := "ytahpipcmgcambaa", sum := "38a3c8d4a32fd3a5d276211ea12313f736321022b6d9453c5eef334c8629f9d8", func := "loop.example/dominotilings/laws.FnFlipRise", spec := "fnFlipRise", unfollowed := true, recurses := true, apart := false, narrowed := true }
def FnFlipRiseUptoSaid : Prop := fnFlipRiseUptoRow.holds Try.pinned (OpenSpec.upto fnFlipRiseSpec)

/-- 'laws.FnFlipOne', WHERE WHAT IT READS IS OF BULK AT MOST 1048576: true; the input reads as it did. -/
def fnFlipOneUptoRow : OpenClaim := { program := "ytahpipcmgcambaa", sum := "38a3c8d4a32fd3a5d276211ea12313f736321022b6d9453c5eef334c8629f9d8", func := "loop.example/dominotilings/laws.FnFlipOne", spec := "fnFlipOne", recurses := true, apart := false, narrowed := true }
def FnFlipOneUptoSaid : Prop := fnFlipOneUptoRow.holds Try.pinned (OpenSpec.upto fnFlipOneSpec)

/-- 'laws.FnFlipRun', WHERE WHAT IT READS IS OF BULK AT MOST 1048576: true; the input reads as it did. -/
def fnFlipRunUptoRow : OpenClaim := { program := "ytahpipcmgcambaa", sum := "38a3c8d4a32fd3a5d276211ea12313f736321022b6d9453c5eef334c8629f9d8", func := "loop.example/dominotilings/laws.FnFlipRun", spec := "fnFlipRun", recurses := true, apart := false, narrowed := true }
def FnFlipRunUptoSaid : Prop := fnFlipRunUptoRow.holds Try.pinned (OpenSpec.upto fnFlipRunSpec)

/-- 'laws.FnPushesValid', WHERE WHAT IT READS IS OF BULK AT MOST 1048576: true; the input reads as it did. -/
def fnPushesValidUptoRow : OpenClaim := { program := "ytahpipcmgcambaa", sum := "38a3c8d4a32fd3a5d276211ea12313f736321022b6d9453c5eef334c8629f9d8", func := "loop.example/dominotilings/laws.FnPushesValid", spec := "fnPushesValid", unfollowed := true, recurses := true, apart := false, narrowed := true }
def FnPushesValidUptoSaid : Prop := fnPushesValidUptoRow.holds Try.pinned (OpenSpec.upto fnPushesValidSpec)

/-- 'laws.FnHeightsOf', WHERE WHAT IT READS IS OF BULK AT MOST 1048576: true; the input reads as it did. -/
def fnHeightsOfUptoRow : OpenClaim := { program := "ytahpipcmgcambaa", sum := "38a3c8d4a32fd3a5d276211ea12313f736321022b6d9453c5eef334c8629f9d8", func := "loop.example/dominotilings/laws.FnHeightsOf", spec := "fnHeightsOf", unfollowed := true, recurses := true, apart := false, narrowed := true }
def FnHeightsOfUptoSaid : Prop := fnHeightsOfUptoRow.holds Try.pinned (OpenSpec.upto fnHeightsOfSpec)

/-- 'laws.FnApart', WHERE WHAT IT READS IS OF BULK AT MOST 1048576: true; the input reads as it did. -/
def fnApartUptoRow : OpenClaim := { program := "ytahpipcmgcambaa", sum := "38a3c8d4a32fd3a5d276211ea12313f736321022b6d9453c5eef334c8629f9d8", func := "loop.example/dominotilings/laws.FnApart", spec := "fnApart", unfollowed := true, recurses := true, apart := false, narrowed := true }
def FnApartUptoSaid : Prop := fnApartUptoRow.holds Try.pinned (OpenSpec.upto fnApartSpec)

end Rows
end Go.Proofs.Ytahpipcmgcambaa
