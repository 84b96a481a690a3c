/-
  YthllacljhmiflaaFnExactSeedNextW: the walk of FnExactSeedNext.
-/
import Derived.Test.YthllacljhmiflaaSeed
namespace Go.Proofs.Ythllacljhmiflaa
open Go.RowKit

theorem FnExactSeedNext_walk (w : World) (a : Int) (_w : (Lit.int .i64 a).wf = true) :
    Calls Try.prog 3 #[.int .i64 a] w fun e w' => e = .returned (.bool true) ∧ Below w.heap.size w w' := by
  go_enter Try.func3, Try.ntmps3
  go_wp2_with (first
    | (go_at_call 16; refine (seedI _ _).mono ?_; rintro e w' ⟨rfl, rfl⟩)
    | (go_at_call 15; refine (seedS _ _).mono ?_; rintro e w' ⟨rfl, rfl⟩))
  go_ret
  exact ⟨rfl, Below.refl _ _⟩

end Go.Proofs.Ythllacljhmiflaa
