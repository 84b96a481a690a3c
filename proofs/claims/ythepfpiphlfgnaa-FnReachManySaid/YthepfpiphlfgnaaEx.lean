/-
  YthepfpiphlfgnaaEx: what the exact laws' walks need of rows that lie apart.
-/
import Derived.Test.YthepfpiphlfgnaaTi
import Derived.Test.YthepfpiphlfgnaaGlue
namespace Go.Proofs.Ythepfpiphlfgnaa
open Go.RowKit

theorem own_lt {w : World} {base : Nat} {e : TypeId} {size : Nat} {v : Value} {n : Nat} {xs : List Value} (h : w.ownsRow base e size v n xs) {g : Nat} (hg : v.ownBlock = some g) : base ≤ g ∧ g < w.heap.size := by
  rcases h.2 with ⟨rfl, _⟩ | ⟨g', cap, cur, rfl, hb, hh, _⟩
  · simp [Value.ownBlock] at hg
  · have : g' = g := by simpa [Value.ownBlock] using hg
    subst this
    exact ⟨hb, (Array.getElem?_eq_some_iff.1 hh).1⟩
theorem own_sep {w w' : World} {base base' n n' size size' : Nat} {e e' : TypeId} {v v' : Value} {xs xs' : List Value} (h : w.ownsRow base e size v n xs) (h' : w'.ownsRow base' e' size' v' n' xs') (hb : w.heap.size ≤ base') : v.ownBlock = none ∨ v.ownBlock ≠ v'.ownBlock := by
  cases hv : v.ownBlock with
  | none => exact .inl rfl
  | some g =>
    right
    intro he
    have h1 := own_lt h hv
    have h2 := own_lt h' he.symm
    omega
theorem blk_sep {w w' : World} {g base' n' size' : Nat} {t e' : TypeId} {cs : Array Value} {v' : Value} {xs' : List Value} (h : Blk w g t cs) (h' : w'.ownsRow base' e' size' v' n' xs') (hb : w.heap.size ≤ base') : some g ≠ v'.ownBlock := by
  intro he
  have h1 := h.lt
  have h2 := own_lt h' he.symm
  omega
theorem sep_new {w : World} {base n size X : Nat} {e : TypeId} {v : Value} {xs : List Value} (h : w.ownsRow base e size v n xs) (hX : X = w.heap.size) : some X ≠ v.ownBlock := by
  intro he
  have := own_lt h he.symm
  omega
theorem size_sep {w' : World} {m base' n' size' : Nat} {e' : TypeId} {v' : Value} {xs' : List Value} (h' : w'.ownsRow base' e' size' v' n' xs') (hb : m ≤ base') : ∀ g, v'.ownBlock = some g → m ≤ g := by
  intro g hg
  have := own_lt h' hg
  omega
theorem sep_symm {a b : Option Nat} (h : a = none ∨ a ≠ b) : b = none ∨ b ≠ a := by
  rcases h with rfl | h
  · cases b with
    | none => exact .inl rfl
    | some g => right; simp
  · exact .inr (Ne.symm h)

/-- A fresh row of numbers, whatever capacity the slice names. -/
def RetInts (w : World) (L : List Int) (e : Ending) (w' : World) : Prop :=
  ∃ A c c', e = .returned (.slice A L.length c') ∧ w'.ownsRow w.heap.size 3 1 (.slice A L.length c) L.length (L.map (Value.int .i64)) ∧ Below w.heap.size w w'
theorem ret_own {w w' : World} {L : List Int} {e : Ending} (h : OwnInts w L e w') : RetInts w L e w' := by
  obtain ⟨A, c, h1, _, h2, h3⟩ := h
  exact ⟨A, c, c, h1, h2, h3⟩
theorem ret_clip {w w' : World} {L : List Int} {e : Ending} (h : ClipInts w L e w') : RetInts w L e w' := by
  obtain ⟨A, c, h1, h2, h3⟩ := h
  exact ⟨A, c, _, h1, h2, h3⟩
theorem ret_fresh {w w' : World} {L : List Int} {e : Ending} (h : IntsRet w L e w') : RetInts w L e w' := by
  obtain ⟨g, h1, h2, h3⟩ := h
  exact ⟨_, _, _, h1, h2, h3⟩

end Go.Proofs.Ythepfpiphlfgnaa
