/-
  YtpeifojfpkkcpaaFnPushesIntoW: the walk of FnPushesInto.
-/
import Derived.Test.YtpeifojfpkkcpaaDm
import Derived.Test.YtpeifojfpkkcpaaLz
import Derived.Test.YtpeifojfpkkcpaaLee
namespace Go.Proofs.Ytpeifojfpkkcpaa
open Go.RowKit

set_option maxHeartbeats 4000000 in
set_option maxRecDepth 20000 in
theorem FnPushesInto_walk (w : World) (A : Option Addr) (n c : Nat) (zs : List Int) (hnc : n ≤ c) (hm : n ≤ maxLen) (_hl : zs.length = n) (hr : Reads w w.heap.size 1 A n (zs.map (Value.int .u8))) (hwz : ∀ z ∈ zs, (Lit.int .u8 z).wf = true) :
    Calls Try.prog 7 #[.slice A n c] w fun e w' => e = .returned (.bool true) ∧ Below w.heap.size w w' := by
  unfold maxLen at hm
  by_cases hb : 1048576 < n
  · go_enter Try.func7, Try.ntmps7
    go_wp2_with fail
    go_ret
    exact ⟨rfl, Below.refl _ _⟩
  · have hDR := hide (drawPushesInto_any A n c zs w hr hnc (by omega) hwz)
    clear hr hwz hm _hl
    go_enter Try.func7, Try.ntmps7
    go_wp2_with fail
    refine (unhide hDR).mono ?_
    rintro e w1 ⟨W, T, A2, c2, Da, da, bs, a, rfl, hreg, ha1, hna, hB1⟩
    clear hDR
    have hS2 := LS.start (W := W) (T := T) hB1 hreg
    have ha2 : LI w (w1.alloc (.cells #[.int .i64 W, .int .i64 T, .slice A2 bs.length c2] 25)) Da da a := ha1.below ((Below.refl _ _).alloc (Nat.le_refl _) _)
    clear hreg hB1 ha1
    go_upto_region 4 with fail
    generalize w1.alloc (.cells #[.int .i64 W, .int .i64 T, .slice A2 bs.length c2] 25) = w2 at *
    generalize w1.heap.size = x at *
    have hbs := hS2.len
    have hlaw := law_pushesInto (W := W) (T := T) (bs := bs) (b := a)
    have hcb := cornersB_bd W T bs
    obtain ⟨N, hN⟩ : ∃ N, piV W T bs a = N := ⟨_, rfl⟩
    obtain ⟨C, hC⟩ : ∃ C, cornersB W T bs = C := ⟨_, rfl⟩
    rw [hN, hC] at hlaw
    rw [hC] at hcb
    have hnn : (N != N) = false := by simp
    have hC2 := pushesIntoI_any W T A2 bs.length c2 w2.heap.size bs a Da a.length da w2 rfl rfl (LI.addr ha2) hS2.rd ha2.rd (Nat.le_refl _) (by omega) (by omega)
    rw [hN] at hC2
    obtain ⟨x0, x1, x2⟩ := hS2.cells
    go_wp2_with fail
    refine hC2.mono ?_
    rintro e w3 ⟨rfl, hw3⟩
    have hS3 := hS2.below hw3
    have ha3 := ha2.below hw3
    clear hS2 hC2 hw3 ha2 x0 x1 x2
    have hC3 := pushesIntoS_any W T A2 bs.length c2 w3.heap.size bs a Da a.length da w3 rfl rfl hS3.rd ha3.rd (Nat.le_refl _) (by omega) (by omega)
    rw [hN] at hC3
    obtain ⟨x0, x1, x2⟩ := hS3.cells
    go_wp2_with fail
    refine hC3.mono ?_
    rintro e w4 ⟨rfl, hw4⟩
    have hS4 := hS3.below hw4
    have ha4 := ha3.below hw4
    clear hS3 hC3 hw4 ha3 x0 x1 x2
    by_cases hneg : N < 0
    ·
      obtain rfl : N = -1 := by rcases hlaw with h | h <;> omega
      clear hlaw hnn hneg
      have hbel := hS4.bel
      clear hS4 ha4
      go_wp2_with fail
      refine (alive_any _).mono ?_
      rintro e w5 ⟨rfl, hw5⟩
      go_wp2_with fail
      go_ret
      exact ⟨rfl, hbel.trans (hw5.mono hbel.size)⟩
    ·
      obtain ⟨rfl, hC0⟩ : N = 2 * C ∧ 0 ≤ C := hlaw.resolve_left (by omega)
      have hlt : decide (2 * C < 0) = false := decide_eq_false hneg
      have hw2 : IntKind.i64.wrap (2 * C) = 2 * C := IntWalk.i64_in _ (by omega)
      have heq : ((2 * C) == (2 * C)) = true := by simp
      clear hlaw hnn hneg
      have hC4 := cornerManyI_any W T A2 bs.length c2 w4.heap.size bs w4 rfl hS4.rd (Nat.le_refl _) (by omega)
      rw [hC] at hC4
      obtain ⟨x0, x1, x2⟩ := hS4.cells
      go_wp2_with fail
      refine hC4.mono ?_
      rintro e w5 ⟨rfl, hw5⟩
      have hS5 := hS4.below hw5
      have ha5 := ha4.below hw5
      clear hS4 hC4 hw5 ha4 x0 x1 x2
      have hbel := hS5.bel
      clear hS5 ha5
      go_wp2_with fail
      go_ret
      exact ⟨rfl, hbel⟩

end Go.Proofs.Ytpeifojfpkkcpaa
