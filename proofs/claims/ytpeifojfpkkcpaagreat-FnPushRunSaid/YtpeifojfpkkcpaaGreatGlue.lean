/-
  YtpeifojfpkkcpaaGreatGlue: what the exact laws' own functions on slices and regions do: copies, sizes, equality, marks.
-/
import Derived.Test.YtpeifojfpkkcpaaGreatWa
namespace Go.Proofs.YtpeifojfpkkcpaaGreat
open Go.RowKit


theorem set_next {α : Type} {L M : List α} {k : Nat} {x : α} (hl : L.length = M.length) (hx : M[k]? = some x) (h : ∀ j, j < k → L[j]? = M[j]?) : (L.set k x).length = M.length ∧ ∀ j, j < k + 1 → (L.set k x)[j]? = M[j]? := by
  refine ⟨by simpa using hl, fun j hj => ?_⟩
  rw [List.getElem?_set]
  by_cases hjk : k = j
  · subst hjk
    rw [if_pos rfl, if_pos (by rw [hl]; exact (List.getElem?_eq_some_iff.1 hx).1), hx]
  · rw [if_neg hjk]; exact h j (by omega)
theorem list_all {α : Type} {L M : List α} (hl : L.length = M.length) (h : ∀ j, j < M.length → L[j]? = M[j]?) : L = M := by
  apply List.ext_getElem?
  intro i
  by_cases hi : i < M.length
  · exact h i hi
  · rw [List.getElem?_eq_none (by omega), List.getElem?_eq_none (by omega)]
theorem map_some {α : Type} {f : α → Value} {L : List α} {j : Nat} {x : α} (h : L[j]? = some x) : (L.map f)[j]? = some (f x) := by rw [List.getElem?_map, h]; rfl


/-- A fresh row of numbers. -/
def IntsRet (w : World) (bs : List Int) (e : Ending) (w' : World) : Prop :=
  ∃ g, e = .returned (.slice (some ⟨g, 0, none⟩) bs.length bs.length) ∧ w'.ownsRow w.heap.size 3 1 (.slice (some ⟨g, 0, none⟩) bs.length bs.length) bs.length (bs.map (Value.int .i64)) ∧ Below w.heap.size w w'







/-! ### Marks -/






/-! ### A region, copied -/


end Go.Proofs.YtpeifojfpkkcpaaGreat
