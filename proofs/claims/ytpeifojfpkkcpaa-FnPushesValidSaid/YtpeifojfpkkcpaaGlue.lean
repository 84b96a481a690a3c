/-
  YtpeifojfpkkcpaaGlue: what the exact laws' own functions on slices and regions do: copies, sizes, equality, marks.
-/
import Derived.Test.YtpeifojfpkkcpaaWa
namespace Go.Proofs.Ytpeifojfpkkcpaa
open Go.RowKit

/-- A fresh row of truths. -/
def BoolsRet (w : World) (bs : List Bool) (e : Ending) (w' : World) : Prop :=
  ∃ g, e = .returned (.slice (some ⟨g, 0, none⟩) bs.length bs.length) ∧ w'.ownsRow w.heap.size 4 1 (.slice (some ⟨g, 0, none⟩) bs.length bs.length) bs.length (bs.map Value.bool) ∧ Below w.heap.size w w'

theorem set_next {α : Type} {L M : List α} {k : Nat} {x : α} (hl : L.length = M.length) (hx : M[k]? = some x) (h : ∀ j, j < k → L[j]? = M[j]?) : (L.set k x).length = M.length ∧ ∀ j, j < k + 1 → (L.set k x)[j]? = M[j]? := by
  refine ⟨by simpa using hl, fun j hj => ?_⟩
  rw [List.getElem?_set]
  by_cases hjk : k = j
  · subst hjk
    rw [if_pos rfl, if_pos (by rw [hl]; exact (List.getElem?_eq_some_iff.1 hx).1), hx]
  · rw [if_neg hjk]; exact h j (by omega)
theorem list_all {α : Type} {L M : List α} (hl : L.length = M.length) (h : ∀ j, j < M.length → L[j]? = M[j]?) : L = M := by
  apply List.ext_getElem?
  intro i
  by_cases hi : i < M.length
  · exact h i hi
  · rw [List.getElem?_eq_none (by omega), List.getElem?_eq_none (by omega)]
theorem map_some {α : Type} {f : α → Value} {L : List α} {j : Nat} {x : α} (h : L[j]? = some x) : (L.map f)[j]? = some (f x) := by rw [List.getElem?_map, h]; rfl

/-- A fresh row of numbers. -/
def IntsRet (w : World) (bs : List Int) (e : Ending) (w' : World) : Prop :=
  ∃ g, e = .returned (.slice (some ⟨g, 0, none⟩) bs.length bs.length) ∧ w'.ownsRow w.heap.size 3 1 (.slice (some ⟨g, 0, none⟩) bs.length bs.length) bs.length (bs.map (Value.int .i64)) ∧ Below w.heap.size w w'

/-! ### Marks -/
def BMarked (w : World) (base : Nat) (v : Value) (n : Nat) (k : Int) (e : Ending) (w' : World) : Prop :=
  ∃ bs : List Bool, e = .returned (.int .i64 (k + n)) ∧ w'.ownsRow base 4 1 v n (bs.map Value.bool) ∧ w.grownBy w' v.ownBlock

/-- The numbers that a list is marked with. -/
def marksL (k : Int) (n : Nat) : List Int := (List.range n).map fun i : Nat => k + (i : Int)
theorem marksL_len (k : Int) (n : Nat) : (marksL k n).length = n := by simp [marksL]
theorem marksL_at (k : Int) (n j : Nat) (h : j < n) : (marksL k n)[j]? = some (k + (j : Int)) := by simp [marksL, h]
def IMarked (w : World) (base : Nat) (v : Value) (n : Nat) (k : Int) (e : Ending) (w' : World) : Prop :=
  e = .returned (.int .i64 (k + n)) ∧ w'.ownsRow base 3 1 v n ((marksL k n).map (Value.int .i64)) ∧ w.grownBy w' v.ownBlock

/-! ### A region, copied -/
def RegionRet (w : World) (W T : Int) (bs : List Bool) (e : Ending) (w' : World) : Prop :=
  ∃ g, e = .returned (.agg #[.int .i64 W, .int .i64 T, .slice (some ⟨g, 0, none⟩) bs.length bs.length]) ∧ w'.ownsRow w.heap.size 4 1 (.slice (some ⟨g, 0, none⟩) bs.length bs.length) bs.length (bs.map Value.bool) ∧ Below w.heap.size w w'

end Go.Proofs.Ytpeifojfpkkcpaa
