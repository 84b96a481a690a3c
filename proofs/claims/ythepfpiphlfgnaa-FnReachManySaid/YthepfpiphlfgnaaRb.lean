/-
  YthepfpiphlfgnaaRb: a fresh row of numbers and a yes or no, as results.
-/
import Derived.Test.YthepfpiphlfgnaaEx
namespace Go.Proofs.Ythepfpiphlfgnaa
open Go.RowKit

/-- A fresh row of numbers, and a yes or no. -/
def RetIB (w : World) (L : List Int) (b : Bool) (e : Ending) (w' : World) : Prop :=
  ∃ A c c', e = .returned (.tuple #[.slice A L.length c', .bool b]) ∧ w'.ownsRow w.heap.size 3 1 (.slice A L.length c) L.length (L.map (Value.int .i64)) ∧ Below w.heap.size w w'

end Go.Proofs.Ythepfpiphlfgnaa
