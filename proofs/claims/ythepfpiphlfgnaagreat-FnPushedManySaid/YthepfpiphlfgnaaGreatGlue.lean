/-
  YthepfpiphlfgnaaGreatGlue: what the exact laws' own functions on slices and regions do: copies, sizes, equality, marks.
-/
import Derived.Test.YthepfpiphlfgnaaGreatWa
namespace Go.Proofs.YthepfpiphlfgnaaGreat
open Go.RowKit


theorem map_some {α : Type} {f : α → Value} {L : List α} {j : Nat} {x : α} (h : L[j]? = some x) : (L.map f)[j]? = some (f x) := by rw [List.getElem?_map, h]; rfl


/-- A fresh row of numbers. -/
def IntsRet (w : World) (bs : List Int) (e : Ending) (w' : World) : Prop :=
  ∃ g, e = .returned (.slice (some ⟨g, 0, none⟩) bs.length bs.length) ∧ w'.ownsRow w.heap.size 3 1 (.slice (some ⟨g, 0, none⟩) bs.length bs.length) bs.length (bs.map (Value.int .i64)) ∧ Below w.heap.size w w'







/-! ### Marks -/






/-! ### A region, copied -/


end Go.Proofs.YthepfpiphlfgnaaGreat
