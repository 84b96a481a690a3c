/-
  YthepfpiphlfgnaaGreatEx: what the exact laws' walks need of rows that lie apart.
-/
import Derived.Test.YthepfpiphlfgnaaGreatTi
import Derived.Test.YthepfpiphlfgnaaGreatGlue
namespace Go.Proofs.YthepfpiphlfgnaaGreat
open Go.RowKit

theorem own_lt {w : World} {base : Nat} {e : TypeId} {size : Nat} {v : Value} {n : Nat} {xs : List Value} (h : w.ownsRow base e size v n xs) {g : Nat} (hg : v.ownBlock = some g) : base ≤ g ∧ g < w.heap.size := by
  rcases h.2 with ⟨rfl, _⟩ | ⟨g', cap, cur, rfl, hb, hh, _⟩
  · simp [Value.ownBlock] at hg
  · have : g' = g := by simpa [Value.ownBlock] using hg
    subst this
    exact ⟨hb, (Array.getElem?_eq_some_iff.1 hh).1⟩

/-- A fresh row of numbers, whatever capacity the slice names. -/
def RetInts (w : World) (L : List Int) (e : Ending) (w' : World) : Prop :=
  ∃ A c c', e = .returned (.slice A L.length c') ∧ w'.ownsRow w.heap.size 3 1 (.slice A L.length c) L.length (L.map (Value.int .i64)) ∧ Below w.heap.size w w'


end Go.Proofs.YthepfpiphlfgnaaGreat
