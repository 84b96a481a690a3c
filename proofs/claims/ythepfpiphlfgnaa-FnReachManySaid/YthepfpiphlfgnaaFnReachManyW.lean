/-
  YthepfpiphlfgnaaFnReachManyW: the walk of FnReachMany.
-/
import Derived.Test.YthepfpiphlfgnaaRlz
import Derived.Test.YthepfpiphlfgnaaLz
import Derived.Test.YthepfpiphlfgnaaCz
namespace Go.Proofs.Ythepfpiphlfgnaa
open Go.RowKit

set_option maxHeartbeats 4000000 in
set_option maxRecDepth 20000 in
theorem FnReachMany_walk (w : World) (A : Option Addr) (n c : Nat) (zs : List Int) (hnc : n ≤ c) (hm : n ≤ maxLen) (_hl : zs.length = n) (hr : Reads w w.heap.size 1 A n (zs.map (Value.int .u8))) (hwz : ∀ z ∈ zs, (Lit.int .u8 z).wf = true) :
    Calls Try.prog 8 #[.slice A n c] w fun e w' => e = .returned (.bool true) ∧ Below w.heap.size w w' := by
  unfold maxLen at hm
  by_cases hb : 1048576 < n
  · go_enter Try.func8, Try.ntmps8
    go_wp2_with fail
    go_ret
    exact ⟨rfl, Below.refl _ _⟩
  · have hDR := hide (drawReachMany_any A n c zs w hr hnc (by omega) hwz)
    clear hr hwz hm _hl
    go_enter Try.func8, Try.ntmps8
    go_wp2_with fail
    refine (unhide hDR).mono ?_
    rintro e w1 ⟨W, T, A2, c2, Da, da, bs, a, rfl, hreg, ha1, hna, hB1⟩
    clear hDR
    have hS2 := LS.start (W := W) (T := T) hB1 hreg
    have ha2 : LI w (w1.alloc (.cells #[.int .i64 W, .int .i64 T, .slice A2 bs.length c2] 25)) Da da a := ha1.below ((Below.refl _ _).alloc (Nat.le_refl _) _)
    clear hreg hB1 ha1
    go_upto_region 4 with fail
    generalize w1.alloc (.cells #[.int .i64 W, .int .i64 T, .slice A2 bs.length c2] 25) = w2 at *
    generalize w1.heap.size = x at *
    have hbs := hS2.len
    obtain ⟨sb, hsb⟩ : ∃ sb, simpleB W T bs = sb := ⟨_, rfl⟩
    obtain ⟨tm, htm⟩ : ∃ tm, tmI W T bs = tm := ⟨_, rfl⟩
    obtain ⟨rm, hrm⟩ : ∃ rm, rmV W T bs a = rm := ⟨_, rfl⟩
    have hc : rm = -1 ∨ (1 ≤ rm ∧ rm ≤ tm ∧ (sb = true → rm = tm)) := by
      by_cases h : tilingB W T bs a = true ∧ cnt bs ≤ 16
      · right
        have := law_reach h.1 h.2
        rw [hrm, htm, hsb] at this
        exact this
      · left; rw [← hrm]; exact rmV_no h
    have hbd : tm ≤ 262144 := by rw [← htm]; exact (tmI_bd W T bs).2
    have hC2 := reachManyI_any W T A2 bs.length c2 w2.heap.size bs a Da a.length da w2 rfl rfl ha2.some0 hS2.rd ha2.rd (Nat.le_refl _) (by omega) (by omega)
    rw [hrm] at hC2
    obtain ⟨x0, x1, x2⟩ := hS2.cells
    go_wp2_with fail
    refine hC2.mono ?_
    rintro e w3 ⟨rfl, hw3⟩
    have hS3 := hS2.below hw3
    have ha3 := ha2.below hw3
    clear hS2 hC2 hw3 ha2 x0 x1 x2
    have hC3 := reachManyS_any W T A2 bs.length c2 w3.heap.size bs a Da a.length da w3 rfl rfl ha3.some0 hS3.rd ha3.rd (Nat.le_refl _) (by omega) (by omega)
    rw [hrm] at hC3
    obtain ⟨x0, x1, x2⟩ := hS3.cells
    go_wp2_with fail
    refine hC3.mono ?_
    rintro e w4 ⟨rfl, hw4⟩
    have hS4 := hS3.below hw4
    have ha4 := ha3.below hw4
    clear hS3 hC3 hw4 ha3 x0 x1 x2
    have hnn : (rm != rm) = false := by simp
    rcases hc with rfl | ⟨h1, h2, h3⟩
    ·
      have hbel := hS4.bel
      clear hS4 ha4
      go_wp2_with fail
      refine (alive_any _).mono ?_
      rintro e w5 ⟨rfl, hw5⟩
      go_wp2_with fail
      go_ret
      exact ⟨rfl, hbel.trans (hw5.mono hbel.size)⟩
    ·
      have hn0 : decide (rm < 0) = false := decide_eq_false (by omega)
      have hn1 : decide (1 ≤ rm) = true := decide_eq_true h1
      have hn2 : decide (rm ≤ tm) = true := decide_eq_true h2
      have hC4 := tilingsManyI_any W T A2 bs.length c2 w4.heap.size bs w4 rfl hS4.rd (Nat.le_refl _) (by omega)
      rw [htm] at hC4
      obtain ⟨x0, x1, x2⟩ := hS4.cells
      go_wp2_with fail
      refine hC4.mono ?_
      rintro e w5 ⟨rfl, hw5⟩
      have hS5 := hS4.below hw5
      have ha5 := ha4.below hw5
      clear hS4 hC4 hw5 ha4 x0 x1 x2
      have hC5 := SimpleI_any W T A2 bs.length c2 w5.heap.size bs w5 hS5.rd (Nat.le_refl _) (by omega)
      rw [hsb] at hC5
      obtain ⟨x0, x1, x2⟩ := hS5.cells
      go_wp2_with fail
      refine hC5.mono ?_
      rintro e w6 ⟨rfl, hw6⟩
      have hS6 := hS5.below hw6
      have ha6 := ha5.below hw6
      clear hS5 hC5 hw6 ha5 x0 x1 x2
      cases sb with
      | false =>
        clear h3
        have hbel := hS6.bel
        clear hS6 ha6
        go_wp2_with fail
        go_ret
        exact ⟨rfl, hbel⟩
      | true =>
        replace h3 := h3 (by first | rfl | trivial)
        subst h3
        have hbel := hS6.bel
        clear hS6 ha6
        go_wp2_with fail
        go_ret
        exact ⟨rfl, hbel⟩

end Go.Proofs.Ythepfpiphlfgnaa
