/-
  No cell of these rows narrows 'for every input' (looked for: loops, veiled, ifaces, maps, wideKeys, modest, calm, conditions, laid).
  DERIVED. THE GIVEN ROWS OF THIS SEAT. 10 by the template 'for every input the law returns true; each argument reads behind the call as it read before'; 0 by the template 'total and deterministic' (their statements: YthepfpiphlfgnaaTotals.lean).
  GIVEN WITH THE SEED: the statements are not yours to turn. If you find one false, say at which input.
  Laid BY PROGRAM, IN A SANDBOX (cutbox-rows.mjs): the forced cells as the released guide's own fill.sh prints them over the translation efe7cfd61d1be090… (all of the seat's roots in one cut). By AI agents, Wed Nov 11 2026. No macro, syntax, notation, axiom, sorry.
-/
import Derived.Test.YthepfpiphlfgnaaChecked
import GoSem.Claim
import GoSem.ClaimJoined
import GoSem.ClaimMapViews
import Derived.JoinedTies
import Derived.KernelRfl
namespace Go.Proofs.Ythepfpiphlfgnaa
/- THE CELL 'sum', in the pinned program and in every row, IS THE sha256 OF THE DUMP (.gsa) THAT YthepfpiphlfgnaaProg.lean LOADS. Nothing in Lean hashes anything: it is a label: what it is worth is what the hold of that sum in a sandbox is worth. -/
noncomputable def Try.pinned : Pinned := { name := "ythepfpiphlfgnaa", sum := "efe7cfd61d1be090ce1a7abf43b2687a8d1525ff480a256196fea932e6bd5ec5", checked := Try.checked }
namespace Rows
def none {H : Type} : Left H := { results := [], args := [] }

/-- 'laws.FnTilingLow': WHATEVER THE INPUT: true; the input reads as it did. -/
def fnTilingLowSpec : ChangeSpec := { name := "fnTilingLow", fn := fun _ => fun
  | [d1, d2] => { results := [.lit (.bool true)], args := [d1, d2] }
  | _ => none }
def fnTilingLowRow : OpenClaim := { program := "ythepfpiphlfgnaa", sum := "efe7cfd61d1be090ce1a7abf43b2687a8d1525ff480a256196fea932e6bd5ec5", func := "loop.example/dominotilings/laws.FnTilingLow", spec := "fnTilingLow", unfollowed := true, recurses := true, apart := false }
def FnTilingLowSaid : Prop := fnTilingLowRow.holds Try.pinned (OpenSpec.ofChange fnTilingLowSpec)

/-- ITS FALSE NEIGHBOUR: 'it returns false'. Refute it at one input. -/
def fnTilingLowWrong : ChangeSpec := { name := "fnTilingLow", fn := fun _ => fun
  | [d1, d2] => { results := [.lit (.bool false)], args := [d1, d2] }
  | _ => none }
def FnTilingLowWrongFalsely : Prop := fnTilingLowRow.holds Try.pinned (OpenSpec.ofChange fnTilingLowWrong)

/-- 'laws.FnLowest': WHATEVER THE INPUT: true; the input reads as it did. -/
def fnLowestSpec : ChangeSpec := { name := "fnLowest", fn := fun _ => fun
  | [d] => { results := [.lit (.bool true)], args := [d] }
  | _ => none }
def fnLowestRow : OpenClaim := { program := "ythepfpiphlfgnaa", sum := "efe7cfd61d1be090ce1a7abf43b2687a8d1525ff480a256196fea932e6bd5ec5", func := "loop.example/dominotilings/laws.FnLowest", spec := "fnLowest", unfollowed := true, recurses := true, apart := false }
def FnLowestSaid : Prop := fnLowestRow.holds Try.pinned (OpenSpec.ofChange fnLowestSpec)

/-- ITS FALSE NEIGHBOUR: 'it returns false'. Refute it at one input. -/
def fnLowestWrong : ChangeSpec := { name := "fnLowest", fn := fun _ => fun
  | [d] => { results := [.lit (.bool false)], args := [d] }
  | _ => none }
def FnLowestWrongFalsely : Prop := fnLowestRow.holds Try.pinned (OpenSpec.ofChange fnLowestWrong)

/-- 'laws.FnHeightSum': WHATEVER THE INPUT: true; the input reads as it did. -/
def fnHeightSumSpec : ChangeSpec := { name := "fnHeightSum", fn := fun _ => fun
  | [d] => { results := [.lit (.bool true)], args := [d] }
  | _ => none }
def fnHeightSumRow : OpenClaim := { program := "ythepfpiphlfgnaa", sum := "efe7cfd61d1be090ce1a7abf43b2687a8d1525ff480a256196fea932e6bd5ec5", func := "loop.example/dominotilings/laws.FnHeightSum", spec := "fnHeightSum", unfollowed := true, recurses := true, apart := false }
def FnHeightSumSaid : Prop := fnHeightSumRow.holds Try.pinned (OpenSpec.ofChange fnHeightSumSpec)

/-- ITS FALSE NEIGHBOUR: 'it returns false'. Refute it at one input. -/
def fnHeightSumWrong : ChangeSpec := { name := "fnHeightSum", fn := fun _ => fun
  | [d] => { results := [.lit (.bool false)], args := [d] }
  | _ => none }
def FnHeightSumWrongFalsely : Prop := fnHeightSumRow.holds Try.pinned (OpenSpec.ofChange fnHeightSumWrong)

/-- 'laws.FnHighest': WHATEVER THE INPUT: true; the input reads as it did. -/
def fnHighestSpec : ChangeSpec := { name := "fnHighest", fn := fun _ => fun
  | [d] => { results := [.lit (.bool true)], args := [d] }
  | _ => none }
def fnHighestRow : OpenClaim := { program := "ythepfpiphlfgnaa", sum := "efe7cfd61d1be090ce1a7abf43b2687a8d1525ff480a256196fea932e6bd5ec5", func := "loop.example/dominotilings/laws.FnHighest", spec := "fnHighest", unfollowed := true, recurses := true, apart := false }
def FnHighestSaid : Prop := fnHighestRow.holds Try.pinned (OpenSpec.ofChange fnHighestSpec)

/-- ITS FALSE NEIGHBOUR: 'it returns false'. Refute it at one input. -/
def fnHighestWrong : ChangeSpec := { name := "fnHighest", fn := fun _ => fun
  | [d] => { results := [.lit (.bool false)], args := [d] }
  | _ => none }
def FnHighestWrongFalsely : Prop := fnHighestRow.holds Try.pinned (OpenSpec.ofChange fnHighestWrong)

/-- 'laws.FnFrozen': WHATEVER THE INPUT: true; the input reads as it did. -/
def fnFrozenSpec : ChangeSpec := { name := "fnFrozen", fn := fun _ => fun
  | [d] => { results := [.lit (.bool true)], args := [d] }
  | _ => none }
def fnFrozenRow : OpenClaim := { program := "ythepfpiphlfgnaa", sum := "efe7cfd61d1be090ce1a7abf43b2687a8d1525ff480a256196fea932e6bd5ec5", func := "loop.example/dominotilings/laws.FnFrozen", spec := "fnFrozen", unfollowed := true, recurses := true, apart := false }
def FnFrozenSaid : Prop := fnFrozenRow.holds Try.pinned (OpenSpec.ofChange fnFrozenSpec)

/-- ITS FALSE NEIGHBOUR: 'it returns false'. Refute it at one input. -/
def fnFrozenWrong : ChangeSpec := { name := "fnFrozen", fn := fun _ => fun
  | [d] => { results := [.lit (.bool false)], args := [d] }
  | _ => none }
def FnFrozenWrongFalsely : Prop := fnFrozenRow.holds Try.pinned (OpenSpec.ofChange fnFrozenWrong)

/-- 'laws.FnReachMany': WHATEVER THE INPUT: true; the input reads as it did. -/
def fnReachManySpec : ChangeSpec := { name := "fnReachMany", fn := fun _ => fun
  | [d] => { results := [.lit (.bool true)], args := [d] }
  | _ => none }
def fnReachManyRow : OpenClaim := { program := "ythepfpiphlfgnaa", sum := "efe7cfd61d1be090ce1a7abf43b2687a8d1525ff480a256196fea932e6bd5ec5", func := "loop.example/dominotilings/laws.FnReachMany", spec := "fnReachMany", unfollowed := true, recurses := true, apart := false }
def FnReachManySaid : Prop := fnReachManyRow.holds Try.pinned (OpenSpec.ofChange fnReachManySpec)

/-- ITS FALSE NEIGHBOUR: 'it returns false'. Refute it at one input. -/
def fnReachManyWrong : ChangeSpec := { name := "fnReachMany", fn := fun _ => fun
  | [d] => { results := [.lit (.bool false)], args := [d] }
  | _ => none }
def FnReachManyWrongFalsely : Prop := fnReachManyRow.holds Try.pinned (OpenSpec.ofChange fnReachManyWrong)

/-- 'laws.FnFlipsOf': WHATEVER THE INPUT: true; the input reads as it did. -/
def fnFlipsOfSpec : ChangeSpec := { name := "fnFlipsOf", fn := fun _ => fun
  | [d] => { results := [.lit (.bool true)], args := [d] }
  | _ => none }
def fnFlipsOfRow : OpenClaim := { program := "ythepfpiphlfgnaa", sum := "efe7cfd61d1be090ce1a7abf43b2687a8d1525ff480a256196fea932e6bd5ec5", func := "loop.example/dominotilings/laws.FnFlipsOf", spec := "fnFlipsOf", unfollowed := true, recurses := true, apart := false }
def FnFlipsOfSaid : Prop := fnFlipsOfRow.holds Try.pinned (OpenSpec.ofChange fnFlipsOfSpec)

/-- ITS FALSE NEIGHBOUR: 'it returns false'. Refute it at one input. -/
def fnFlipsOfWrong : ChangeSpec := { name := "fnFlipsOf", fn := fun _ => fun
  | [d] => { results := [.lit (.bool false)], args := [d] }
  | _ => none }
def FnFlipsOfWrongFalsely : Prop := fnFlipsOfRow.holds Try.pinned (OpenSpec.ofChange fnFlipsOfWrong)

/-- 'laws.FnFlipLines': WHATEVER THE INPUT: true; the input reads as it did. -/
def fnFlipLinesSpec : ChangeSpec := { name := "fnFlipLines", fn := fun _ => fun
  | [d] => { results := [.lit (.bool true)], args := [d] }
  | _ => none }
def fnFlipLinesRow : OpenClaim := { program := "ythepfpiphlfgnaa", sum := "efe7cfd61d1be090ce1a7abf43b2687a8d1525ff480a256196fea932e6bd5ec5", func := "loop.example/dominotilings/laws.FnFlipLines", spec := "fnFlipLines", unfollowed := true, recurses := true, apart := false }
def FnFlipLinesSaid : Prop := fnFlipLinesRow.holds Try.pinned (OpenSpec.ofChange fnFlipLinesSpec)

/-- ITS FALSE NEIGHBOUR: 'it returns false'. Refute it at one input. -/
def fnFlipLinesWrong : ChangeSpec := { name := "fnFlipLines", fn := fun _ => fun
  | [d] => { results := [.lit (.bool false)], args := [d] }
  | _ => none }
def FnFlipLinesWrongFalsely : Prop := fnFlipLinesRow.holds Try.pinned (OpenSpec.ofChange fnFlipLinesWrong)

/-- 'laws.FnExactPushedMany': WHATEVER THE INPUT: true; the input reads as it did. -/
def fnExactPushedManySpec : ChangeSpec := { name := "fnExactPushedMany", fn := fun _ => fun
  | [d1, d2] => { results := [.lit (.bool true)], args := [d1, d2] }
  | _ => none }
def fnExactPushedManyRow : OpenClaim := { program := "ythepfpiphlfgnaa", sum := "efe7cfd61d1be090ce1a7abf43b2687a8d1525ff480a256196fea932e6bd5ec5", func := "loop.example/dominotilings/laws.FnExactPushedMany", spec := "fnExactPushedMany", unfollowed := true, recurses := true, apart := false }
def FnExactPushedManySaid : Prop := fnExactPushedManyRow.holds Try.pinned (OpenSpec.ofChange fnExactPushedManySpec)

/-- ITS FALSE NEIGHBOUR: 'it returns false'. Refute it at one input. -/
def fnExactPushedManyWrong : ChangeSpec := { name := "fnExactPushedMany", fn := fun _ => fun
  | [d1, d2] => { results := [.lit (.bool false)], args := [d1, d2] }
  | _ => none }
def FnExactPushedManyWrongFalsely : Prop := fnExactPushedManyRow.holds Try.pinned (OpenSpec.ofChange fnExactPushedManyWrong)

/-- 'laws.FnExactReachMany': WHATEVER THE INPUT: true; the input reads as it did. -/
def fnExactReachManySpec : ChangeSpec := { name := "fnExactReachMany", fn := fun _ => fun
  | [d1, d2] => { results := [.lit (.bool true)], args := [d1, d2] }
  | _ => none }
def fnExactReachManyRow : OpenClaim := { program := "ythepfpiphlfgnaa", sum := "efe7cfd61d1be090ce1a7abf43b2687a8d1525ff480a256196fea932e6bd5ec5", func := "loop.example/dominotilings/laws.FnExactReachMany", spec := "fnExactReachMany", unfollowed := true, recurses := true, apart := false }
def FnExactReachManySaid : Prop := fnExactReachManyRow.holds Try.pinned (OpenSpec.ofChange fnExactReachManySpec)

/-- ITS FALSE NEIGHBOUR: 'it returns false'. Refute it at one input. -/
def fnExactReachManyWrong : ChangeSpec := { name := "fnExactReachMany", fn := fun _ => fun
  | [d1, d2] => { results := [.lit (.bool false)], args := [d1, d2] }
  | _ => none }
def FnExactReachManyWrongFalsely : Prop := fnExactReachManyRow.holds Try.pinned (OpenSpec.ofChange fnExactReachManyWrong)

/- THE SECOND FORM. 'bulk': how many values and letters a reading holds, each counted each time it is reached (what is shared counts as often as it is met; a slice's spare places count too). A statement '..UptoSaid' is the law's where the arguments, and the package variables that the reading takes, are together of bulk at most 1048576: NARROWER than '..Said'. Prove '..Said' where nothing that the law and all that it calls make is longer than what came in: it says more and counts as full. Else prove '..UptoSaid'. A law counts once. -/
mutual
def uptoBulk {H : Type} : DataW H → Nat
  | .lit (.string bytes) => bytes.length + 1
  | .lit _ => 1
  | .nil => 1
  | .ptr d => uptoBulk d + 1
  | .slice elems spare => uptoBulkAll elems + uptoBulkAll spare + 1
  | .agg parts => uptoBulkAll parts + 1
  | .iface _ d => uptoBulk d + 1
  | .map entries => uptoBulkEntries entries + 1
  | .held _ => 1
def uptoBulkAll {H : Type} : List (DataW H) → Nat
  | [] => 0
  | d :: r => uptoBulk d + uptoBulkAll r
def uptoBulkEntries {H : Type} : List (Lit × DataW H) → Nat
  | [] => 0
  | x :: r => uptoBulkEntry x + uptoBulkEntries r
def uptoBulkEntry {H : Type} : Lit × DataW H → Nat
  | (.string bytes, d) => bytes.length + uptoBulk d + 1
  | (_, d) => uptoBulk d + 1
 end
def uptoSmall : (H : Type) → List (DataW H) → Bool := fun _ ds => decide (uptoBulkAll ds ≤ 1048576)
def OpenSpec.upto (s : _root_.Go.ChangeSpec) : _root_.Go.OpenSpec := { _root_.Go.OpenSpec.ofChange s with cond := some uptoSmall }

/-- 'laws.FnTilingLow', WHERE WHAT IT READS IS OF BULK AT MOST 1048576: true; the input reads as it did. -/
def fnTilingLowUptoRow : OpenClaim := { program := "ythepfpiphlfgnaa", sum := "efe7cfd61d1be090ce1a7abf43b2687a8d1525ff480a256196fea932e6bd5ec5", func := "loop.example/dominotilings/laws.FnTilingLow", spec := "fnTilingLow", unfollowed := true, recurses := true, apart := false, narrowed := true }
def FnTilingLowUptoSaid : Prop := fnTilingLowUptoRow.holds Try.pinned (OpenSpec.upto fnTilingLowSpec)

/-- 'laws.FnLowest', WHERE WHAT IT READS IS OF BULK AT MOST 1048576: true; the input reads as it did. -/
def fnLowestUptoRow : OpenClaim := { program := "ythepfpiphlfgnaa", sum := "efe7cfd61d1be090ce1a7abf43b2687a8d1525ff480a256196fea932e6bd5ec5", func := "loop.example/dominotilings/laws.FnLowest", spec := "fnLowest", unfollowed := true, recurses := true, apart := false, narrowed := true }
def FnLowestUptoSaid : Prop := fnLowestUptoRow.holds Try.pinned (OpenSpec.upto fnLowestSpec)

/-- 'laws.FnHeightSum', WHERE WHAT IT READS IS OF BULK AT MOST 1048576: true; the input reads as it did. -/
def fnHeightSumUptoRow : OpenClaim := { program := "ythepfpiphlfgnaa", sum := "efe7cfd61d1be090ce1a7abf43b2687a8d1525ff480a256196fea932e6bd5ec5", func := "loop.example/dominotilings/laws.FnHeightSum", spec := "fnHeightSum", unfollowed := true, recurses := true, apart := false, narrowed := true }
def FnHeightSumUptoSaid : Prop := fnHeightSumUptoRow.holds Try.pinned (OpenSpec.upto fnHeightSumSpec)

/-- 'laws.FnHighest', WHERE WHAT IT READS IS OF BULK AT MOST 1048576: true; the input reads as it did. -/
def fnHighestUptoRow : OpenClaim := { program := "ythepfpiphlfgnaa", sum := "efe7cfd61d1be090ce1a7abf43b2687a8d1525ff480a256196fea932e6bd5ec5", func := "loop.example/dominotilings/laws.FnHighest", spec := "fnHighest", unfollowed := true, recurses := true, apart := false, narrowed := true }
def FnHighestUptoSaid : Prop := fnHighestUptoRow.holds Try.pinned (OpenSpec.upto fnHighestSpec)

/-- 'laws.FnFrozen', WHERE WHAT IT READS IS OF BULK AT MOST 1048576: true; the input reads as it did. -/
def fnFrozenUptoRow : OpenClaim := { program := "ythepfpiphlfgnaa", sum := "efe7cfd61d1be090ce1a7abf43b2687a8d1525ff480a256196fea932e6bd5ec5", func := "loop.example/dominotilings/laws.FnFrozen", spec := "fnFrozen", unfollowed := true, recurses := true, apart := false, narrowed := true }
def FnFrozenUptoSaid : Prop := fnFrozenUptoRow.holds Try.pinned (OpenSpec.upto fnFrozenSpec)

/-- 'laws.FnReachMany', WHERE WHAT IT READS IS OF BULK AT MOST 1048576: true; the input reads as it did. -/
def fnReachManyUptoRow : OpenClaim := { program := "ythepfpiphlfgnaa", sum := "efe7cfd61d1be090ce1a7abf43b2687a8d1525ff480a256196fea932e6bd5ec5", func := "loop.example/dominotilings/laws.FnReachMany", spec := "fnReachMany", unfollowed := true, recurses := true, apart := false, narrowed := true }
def FnReachManyUptoSaid : Prop := fnReachManyUptoRow.holds Try.pinned (OpenSpec.upto fnReachManySpec)

/-- 'laws.FnFlipsOf', WHERE WHAT IT READS IS OF BULK AT MOST 1048576: true; the input reads as it did. -/
def fnFlipsOfUptoRow : OpenClaim := { program := "ythepfpiphlfgnaa", sum := "efe7cfd61d1be090ce1a7abf43b2687a8d1525ff480a256196fea932e6bd5ec5", func := "loop.example/dominotilings/laws.FnFlipsOf", spec := "fnFlipsOf", unfollowed := true, recurses := true, apart := false, narrowed := true }
def FnFlipsOfUptoSaid : Prop := fnFlipsOfUptoRow.holds Try.pinned (OpenSpec.upto fnFlipsOfSpec)

/-- 'laws.FnFlipLines', WHERE WHAT IT READS IS OF BULK AT MOST 1048576: true; the input reads as it did. -/
def fnFlipLinesUptoRow : OpenClaim := { program := "ythepfpiphlfgnaa", sum := "efe7cfd61d1be090ce1a7abf43b2687a8d1525ff480a256196fea932e6bd5ec5", func := "loop.example/dominotilings/laws.FnFlipLines", spec := "fnFlipLines", unfollowed := true, recurses := true, apart := false, narrowed := true }
def FnFlipLinesUptoSaid : Prop := fnFlipLinesUptoRow.holds Try.pinned (OpenSpec.upto fnFlipLinesSpec)

/-- 'laws.FnExactPushedMany', WHERE WHAT IT READS IS OF BULK AT MOST 1048576: true; the input reads as it did. -/
def fnExactPushedManyUptoRow : OpenClaim := { program := "ythepfpiphlfgnaa", sum := "efe7cfd61d1be090ce1a7abf43b2687a8d1525ff480a256196fea932e6bd5ec5", func := "loop.example/dominotilings/laws.FnExactPushedMany", spec := "fnExactPushedMany", unfollowed := true, recurses := true, apart := false, narrowed := true }
def FnExactPushedManyUptoSaid : Prop := fnExactPushedManyUptoRow.holds Try.pinned (OpenSpec.upto fnExactPushedManySpec)

/-- 'laws.FnExactReachMany', WHERE WHAT IT READS IS OF BULK AT MOST 1048576: true; the input reads as it did. -/
def fnExactReachManyUptoRow : OpenClaim := { program := "ythepfpiphlfgnaa", sum := "efe7cfd61d1be090ce1a7abf43b2687a8d1525ff480a256196fea932e6bd5ec5", func := "loop.example/dominotilings/laws.FnExactReachMany", spec := "fnExactReachMany", unfollowed := true, recurses := true, apart := false, narrowed := true }
def FnExactReachManyUptoSaid : Prop := fnExactReachManyUptoRow.holds Try.pinned (OpenSpec.upto fnExactReachManySpec)

end Rows
end Go.Proofs.Ythepfpiphlfgnaa
