/-
  YthepfpiphlfgnaaFnFlipLinesW: the walk of FnFlipLines.
-/
import Derived.Test.YthepfpiphlfgnaaDkl
import Derived.Test.YthepfpiphlfgnaaLz
import Derived.Test.YthepfpiphlfgnaaCz
import Derived.Test.YthepfpiphlfgnaaTuz
namespace Go.Proofs.Ythepfpiphlfgnaa
open Go.RowKit

set_option maxHeartbeats 4000000 in
set_option maxRecDepth 20000 in
theorem FnFlipLines_walk (w : World) (A : Option Addr) (n c : Nat) (zs : List Int) (hnc : n ≤ c) (hm : n ≤ maxLen) (_hl : zs.length = n) (hr : Reads w w.heap.size 1 A n (zs.map (Value.int .u8))) (hwz : ∀ z ∈ zs, (Lit.int .u8 z).wf = true) :
    Calls Try.prog 10 #[.slice A n c] w fun e w' => e = .returned (.bool true) ∧ Below w.heap.size w w' := by
  unfold maxLen at hm
  by_cases hb : 1048576 < n
  · go_enter Try.func10, Try.ntmps10
    go_wp2_with fail
    go_ret
    exact ⟨rfl, Below.refl _ _⟩
  · have hDR := hide (drawFlipLines_any A n c zs w hr hnc (by omega) hwz)
    clear hr hwz hm _hl
    go_enter Try.func10, Try.ntmps10
    go_wp2_with fail
    refine (unhide hDR).mono ?_
    rintro e w1 ⟨W, T, A2, c2, bs, rfl, hreg, hB1⟩
    clear hDR
    have hS2 := LS.start (W := W) (T := T) hB1 hreg
    clear hreg hB1 
    go_upto_region 4 with fail
    generalize w1.alloc (.cells #[.int .i64 W, .int .i64 T, .slice A2 bs.length c2] 25) = w2 at *
    generalize w1.heap.size = x at *
    have hbs := hS2.len
    obtain ⟨sb, hsb⟩ : ∃ sb, simpleB W T bs = sb := ⟨_, rfl⟩
    obtain ⟨tm, htm⟩ : ∃ tm, tmI W T bs = tm := ⟨_, rfl⟩
    obtain ⟨rm, hrm⟩ : ∃ rm, flnV W T bs = rm := ⟨_, rfl⟩
    have hc : rm = -1 ∨ (0 ≤ rm ∧ (sb = true → tm - 1 ≤ rm) ∧ ∃ R : Reg, R.ok ∧ W = (R.W : Int) ∧ T = (R.T : Int) ∧ bs = R.C ∧ flnV R.T R.W (turnR R).C = rm) := by
      by_cases h : validB W T bs = true ∧ cnt bs ≤ 16
      · right
        obtain ⟨R, hR, rfl, rfl, rfl⟩ := reg_of_valid h.1
        rw [← hrm]
        refine ⟨by rw [flnV_yes hR h.2]; omega, fun h2 => by rw [← htm]; exact law_flipLines (hsb.trans h2) h.2, R, hR, rfl, rfl, rfl, flnV_turn hR h.2⟩
      · left; rw [← hrm]; exact flnV_no h
    have hbd : -1 ≤ tm ∧ tm ≤ 262144 := by rw [← htm]; exact tmI_bd W T bs
    have hC2 := flipLinesI_any W T A2 bs.length c2 w2.heap.size bs w2 rfl hS2.rd (Nat.le_refl _) (by omega)
    rw [hrm] at hC2
    obtain ⟨x0, x1, x2⟩ := hS2.cells
    go_wp2_with fail
    refine hC2.mono ?_
    rintro e w3 ⟨rfl, hw3⟩
    have hS3 := hS2.below hw3
    clear hS2 hC2 hw3  x0 x1 x2
    have hC3 := flipLinesS_any W T A2 bs.length c2 w3.heap.size bs w3 rfl hS3.rd (Nat.le_refl _) (by omega)
    rw [hrm] at hC3
    obtain ⟨x0, x1, x2⟩ := hS3.cells
    go_wp2_with fail
    refine hC3.mono ?_
    rintro e w4 ⟨rfl, hw4⟩
    have hS4 := hS3.below hw4
    clear hS3 hC3 hw4  x0 x1 x2
    have hnn : (rm != rm) = false := by simp
    rcases hc with rfl | ⟨h1, h2, hturn⟩
    ·
      have hbel := hS4.bel
      clear hS4 
      go_wp2_with fail
      refine (alive_any _).mono ?_
      rintro e w5 ⟨rfl, hw5⟩
      go_wp2_with fail
      go_ret
      exact ⟨rfl, hbel.trans (hw5.mono hbel.size)⟩
    ·
      have hn0 : decide (rm < 0) = false := decide_eq_false (by omega)
      have HTU := Lib.hid hturn
      clear hturn
      have hC4 := SimpleI_any W T A2 bs.length c2 w4.heap.size bs w4 hS4.rd (Nat.le_refl _) (by omega)
      rw [hsb] at hC4
      obtain ⟨x0, x1, x2⟩ := hS4.cells
      go_wp2_with fail
      refine hC4.mono ?_
      rintro e w5 ⟨rfl, hw5⟩
      have hS5 := hS4.below hw5
      clear hS4 hC4 hw5  x0 x1 x2
      cases sb with
      | false =>
        obtain ⟨R, hR, rfl, rfl, rfl, hturn⟩ := HTU.out
        clear HTU
        have hC5 := turnI_ok R hR A2 c2 w5.heap.size w5 hS5.rd (Nat.le_refl _)
        obtain ⟨x0, x1, x2⟩ := hS5.cells
        go_wp2_with fail
        refine hC5.mono ?_
        rintro e w6 ⟨gt, ct, rfl, hot, hw6⟩
        have hS6 := hS5.below hw6
        clear hS5 hC5 hw6 x0 x1 x2
        have htl : (turnR R).C.length = R.C.length := by show ((List.range R.C.length).map _).length = _; rw [List.length_map, List.length_range]
        have hrt : Reads w6 w6.heap.size 1 (some ⟨gt, 0, none⟩) R.C.length ((turnR R).C.map Value.bool) := Reads.of_own hot
        clear hot
        have hl36 := (len_bd hR).2
        have hC6 := flipLinesI_any R.T R.W (some ⟨gt, 0, none⟩) R.C.length ct w6.heap.size (turnR R).C w6 htl hrt (Nat.le_refl _) (by omega)
        rw [hturn] at hC6
        clear hturn htl hrt
        go_wp2_with fail
        refine hC6.mono ?_
        rintro e w7 ⟨rfl, hw7⟩
        have hS7 := hS6.below hw7
        clear hS6 hC6 hw7
        have hbel := hS7.bel
        clear hS7 
        go_wp2_with fail
        go_ret
        exact ⟨rfl, hbel⟩
      | true =>
        replace h2 := h2 (by first | rfl | trivial)
        have hC5 := tilingsManyI_any W T A2 bs.length c2 w5.heap.size bs w5 rfl hS5.rd (Nat.le_refl _) (by omega)
        rw [htm] at hC5
        obtain ⟨x0, x1, x2⟩ := hS5.cells
        go_wp2_with fail
        refine hC5.mono ?_
        rintro e w6 ⟨rfl, hw6⟩
        have hS6 := hS5.below hw6
        clear hS5 hC5 hw6  x0 x1 x2
        have hw1 : IntKind.i64.wrap (tm - 1) = tm - 1 := IntWalk.i64_in _ (by omega)
        have hd1 : decide (tm - 1 ≤ rm) = true := decide_eq_true h2
        obtain ⟨R, hR, rfl, rfl, rfl, hturn⟩ := HTU.out
        clear HTU
        have hC6 := turnI_ok R hR A2 c2 w6.heap.size w6 hS6.rd (Nat.le_refl _)
        obtain ⟨x0, x1, x2⟩ := hS6.cells
        go_wp2_with fail
        refine hC6.mono ?_
        rintro e w7 ⟨gt, ct, rfl, hot, hw7⟩
        have hS7 := hS6.below hw7
        clear hS6 hC6 hw7 x0 x1 x2
        have htl : (turnR R).C.length = R.C.length := by show ((List.range R.C.length).map _).length = _; rw [List.length_map, List.length_range]
        have hrt : Reads w7 w7.heap.size 1 (some ⟨gt, 0, none⟩) R.C.length ((turnR R).C.map Value.bool) := Reads.of_own hot
        clear hot
        have hl36 := (len_bd hR).2
        have hC7 := flipLinesI_any R.T R.W (some ⟨gt, 0, none⟩) R.C.length ct w7.heap.size (turnR R).C w7 htl hrt (Nat.le_refl _) (by omega)
        rw [hturn] at hC7
        clear hturn htl hrt
        go_wp2_with fail
        refine hC7.mono ?_
        rintro e w8 ⟨rfl, hw8⟩
        have hS8 := hS7.below hw8
        clear hS7 hC7 hw8
        have hbel := hS8.bel
        clear hS8 
        go_wp2_with fail
        go_ret
        exact ⟨rfl, hbel⟩

end Go.Proofs.Ythepfpiphlfgnaa
