/-
  YthepfpiphlfgnaaPy: PushedMany of both sides, for any arguments.
-/
import Derived.Test.YthepfpiphlfgnaaPm
import Derived.Test.YthepfpiphlfgnaaPn
namespace Go.Proofs.Ythepfpiphlfgnaa
open Go.RowKit

theorem pushedManyI_any (W T : Int) (A : Option Addr) (n c B : Nat) (bs : List Bool) (P : Option Addr) (m d D : Nat) (ps : List (Int × Bool)) (w : World)
    (hl : bs.length = n) (hr : Reads w B 1 A n (bs.map Value.bool)) (hB : B ≤ w.heap.size) (hn : n ≤ 9223372036854775807)
    (hm : ps.length = m) (hp : Reads w D 2 P m (pc ps)) (hD : D ≤ w.heap.size) (hmm : m ≤ 9223372036854775807) :
    Calls Try.prog 58 #[.agg #[.int .i64 W, .int .i64 T, .slice A n c], .slice P m d] w fun e w' => e = .returned (.int .i64 (pmV W T bs ps)) ∧ Below w.heap.size w w' := by
  cases h : pushesB W T bs ps with
  | true =>
    obtain ⟨R, hR, rfl, rfl, rfl, hS⟩ := simple_cases (simple_of_pushes h)
    rw [pmV_yes h]
    subst hl
    exact pushedManyI_ok R hR hS A c B P m d D ps h w hr hB hm hp hD hmm
  | false =>
    rw [pmV_no h]
    have hb0 : Below w.heap.size w (w.alloc (boxR W T A n c)) := (Below.refl _ _).alloc (Nat.le_refl _) _
    have hPV := hide (PushesValidI_any W T A n c B bs P m d D ps _ hl (hr.below (hb0.mono hB)) (Nat.le_trans hB hb0.size) hn hm (hp.below (hb0.mono hD)) (Nat.le_trans hD hb0.size) hmm)
    rw [h] at hPV
    clear h hr hp
    go_enter Try.func58, Try.ntmps58
    go_wp2_with fail
    refine (unhide hPV).mono ?_
    rintro e w1 ⟨rfl, hb1⟩
    go_wp2_with fail
    go_ret
    exact ⟨rfl, hb0.trans (hb1.mono hb0.size)⟩

theorem pushedManyS_any (W T : Int) (A : Option Addr) (n c B : Nat) (bs : List Bool) (P : Option Addr) (m d D : Nat) (ps : List (Int × Bool)) (w : World)
    (hl : bs.length = n) (hr : Reads w B 1 A n (bs.map Value.bool)) (hB : B ≤ w.heap.size) (hn : n ≤ 9223372036854775807)
    (hm : ps.length = m) (hp : Reads w D 2 P m (pc ps)) (hD : D ≤ w.heap.size) (hmm : m ≤ 9223372036854775807) :
    Calls Try.prog 55 #[.agg #[.int .i64 W, .int .i64 T, .slice A n c], .slice P m d] w fun e w' => e = .returned (.int .i64 (pmV W T bs ps)) ∧ Below w.heap.size w w' := by
  cases h : pushesB W T bs ps with
  | true =>
    obtain ⟨R, hR, rfl, rfl, rfl, hS⟩ := simple_cases (simple_of_pushes h)
    rw [pmV_yes h]
    subst hl
    exact pushedManyS_ok R hR hS A c B P m d D ps h w hr hB hm hp hD hmm
  | false =>
    rw [pmV_no h]
    have hb0 : Below w.heap.size w (w.alloc (boxR W T A n c)) := (Below.refl _ _).alloc (Nat.le_refl _) _
    have hPV := hide (PushesValidS_any W T A n c B bs P m d D ps _ hl (hr.below (hb0.mono hB)) (Nat.le_trans hB hb0.size) hn hm (hp.below (hb0.mono hD)) (Nat.le_trans hD hb0.size) hmm)
    rw [h] at hPV
    clear h hr hp
    go_enter Try.func55, Try.ntmps55
    go_wp2_with fail
    refine (unhide hPV).mono ?_
    rintro e w1 ⟨rfl, hb1⟩
    go_wp2_with fail
    go_ret
    exact ⟨rfl, hb0.trans (hb1.mono hb0.size)⟩

end Go.Proofs.Ythepfpiphlfgnaa
