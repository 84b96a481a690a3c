/-
  YtpeifojfpkkcpaaFnPushesByW: the walk of FnPushesBy.
-/
import Derived.Test.YtpeifojfpkkcpaaDl
import Derived.Test.YtpeifojfpkkcpaaLz
import Derived.Test.YtpeifojfpkkcpaaPw
import Derived.BigRegion
namespace Go.Proofs.Ytpeifojfpkkcpaa
open Go.RowKit

set_option maxHeartbeats 4000000 in
set_option maxRecDepth 20000 in
theorem FnPushesBy_walk (w : World) (A : Option Addr) (n c : Nat) (zs : List Int) (hnc : n ≤ c) (hm : n ≤ maxLen) (_hl : zs.length = n) (hr : Reads w w.heap.size 1 A n (zs.map (Value.int .u8))) (hwz : ∀ z ∈ zs, (Lit.int .u8 z).wf = true) :
    Calls Try.prog 5 #[.slice A n c] w fun e w' => e = .returned (.bool true) ∧ Below w.heap.size w w' := by
  unfold maxLen at hm
  by_cases hb : 1048576 < n
  · go_enter Try.func5, Try.ntmps5
    go_wp2_with fail
    go_ret
    exact ⟨rfl, Below.refl _ _⟩
  · have hDR := hide (drawPushesBy_any A n c zs w hr hnc (by omega) hwz)
    clear hr hwz hm _hl
    go_enter Try.func5, Try.ntmps5
    go_wp2_with fail
    refine (unhide hDR).mono ?_
    rintro e w1 ⟨W, T, A2, c2, bs, s, m, rfl, hreg, hs1, hs2, hm1, hm2, hB1⟩
    clear hDR
    have hS2 := LS.start (W := W) (T := T) hB1 hreg
    clear hreg hB1 
    go_upto_region 4 with fail
    generalize w1.alloc (.cells #[.int .i64 W, .int .i64 T, .slice A2 bs.length c2] 25) = w2 at *
    generalize w1.heap.size = x at *
    have hbs := hS2.len
    have hXl := pushesByL_len W T bs s m
    have hYl := pushesByL_len W T bs s (m + 1)
    have hlaw := law_pushesBy (W := W) (T := T) (bs := bs) (s := s) (m := m)
    obtain ⟨X, hX⟩ : ∃ X, pushesByL W T bs s m = X := ⟨_, rfl⟩
    obtain ⟨Y, hY⟩ : ∃ Y, pushesByL W T bs s (m + 1) = Y := ⟨_, rfl⟩
    rw [hX] at hXl hlaw
    rw [hY] at hYl hlaw
    have hmw : IntKind.i64.wrap (m + 1) = m + 1 := IntWalk.i64_in _ (by omega)
    have hC2 := PushesByI_any W T A2 bs.length c2 w2.heap.size bs s m w2 rfl hS2.rd (Nat.le_refl _) (by omega)
    rw [hX] at hC2
    obtain ⟨x0, x1, x2⟩ := hS2.cells
    go_wp2_with fail
    refine hC2.mono ?_
    rintro e w3 ⟨A3, c3, c3', rfl, ho3, hw3, hcap3⟩
    have hS3 := hS2.below hw3
    have hX3 : LP w w3 A3 X := LP.of hS2.bel.size ho3
    clear hS2 hC2 hw3  ho3 x0 x1 x2
    have hC3 := PushesByS_any W T A2 bs.length c2 w3.heap.size bs s m w3 rfl hS3.rd (Nat.le_refl _) (by omega)
    rw [hX] at hC3
    obtain ⟨x0, x1, x2⟩ := hS3.cells
    go_wp2_with fail
    refine hC3.mono ?_
    rintro e w4 ⟨A4, c4, c4', rfl, ho4, hw4, hcap4⟩
    have hS4 := hS3.below hw4
    have hX4 := hX3.below hw4
    have hZ4 : LP w w4 A4 X := LP.of hS3.bel.size ho4
    clear hS3 hC3 hw4 hX3 ho4 x0 x1 x2
    have hC4 := samePushes_same A3 A4 c3' c4' w4.heap.size w4.heap.size X w4 hX4.rd hZ4.rd (by omega)
    go_wp2_with fail
    refine hC4.mono ?_
    rintro e w5 ⟨rfl, hw5⟩
    have hS5 := hS4.below hw5
    have hX5 := hX4.below hw5
    clear hS4 hC4 hw5 hX4 hZ4 
    by_cases h0 : X.length = 0
    ·
      have h0d : ((X.length : Int) == 0) = true := by rw [h0]; rfl
      clear hlaw h0
      have hbel := hS5.bel
      clear hS5 hX5
      go_wp2_with fail
      refine (alive_any _).mono ?_
      rintro e w6 ⟨rfl, hw6⟩
      go_wp2_with fail
      go_ret
      exact ⟨rfl, hbel.trans (hw6.mono hbel.size)⟩
    ·
      have h0d : ((X.length : Int) == 0) = false := by rw [beq_eq_false_iff_ne]; omega
      obtain ⟨e1, e2, e3, e4⟩ := hlaw.resolve_left h0
      clear hlaw
      subst e1
      have hC5 := PushesByI_any W T A2 bs.length c2 w5.heap.size bs s ((X.length : Int) + 1) w5 rfl hS5.rd (Nat.le_refl _) (by omega)
      rw [hY] at hC5
      obtain ⟨x0, x1, x2⟩ := hS5.cells
      go_wp2_with fail
      refine hC5.mono ?_
      rintro e w6 ⟨A6, c6, c6', rfl, ho6, hw6, hcap6⟩
      have hS6 := hS5.below hw6
      have hX6 := hX5.below hw6
      have hY6 : LP w w6 A6 Y := LP.of hS5.bel.size ho6
      clear hS5 hC5 hw6 hX5 ho6 x0 x1 x2
      have hme : ((X.length : Int) == (X.length : Int)) = true := by simp
      rcases e4 with h128 | ⟨e5, e6⟩
      ·
        have hd128 : ((X.length : Int) == 128) = true := by rw [h128]; rfl
        have hC6 := PushesValidI_any W T A2 bs.length c2 w6.heap.size bs A3 X.length c3' w6.heap.size X w6 rfl hS6.rd (Nat.le_refl _) (by omega) rfl hX6.rd (Nat.le_refl _) (by omega)
        rw [e3] at hC6
        obtain ⟨x0, x1, x2⟩ := hS6.cells
        go_wp2_with fail
        refine hC6.mono ?_
        rintro e w7 ⟨rfl, hw7⟩
        have hS7 := hS6.below hw7
        have hX7 := hX6.below hw7
        have hY7 := hY6.below hw7
        clear hS6 hC6 hw7 hX6 hY6 x0 x1 x2
        have hbel := hS7.bel
        clear hS7 hX7 hY7
        go_wp2_with fail
        go_ret
        exact ⟨rfl, hbel⟩
      ·
        have hd128 : ((X.length : Int) == 128) = false := by
          rw [beq_eq_false_iff_ne]
          intro h
          have hb : pushesByL W T bs s ((X.length : Int) + 1) = [] := pushesByL_no fun h2 => by omega
          rw [hY] at hb
          rw [hb] at e5
          simp at e5
          omega
        have hYe : ((Y.length : Int) == (X.length : Int) + 1) = true := by rw [e5]; simp
        have hC6 := PushesValidI_any W T A2 bs.length c2 w6.heap.size bs A3 X.length c3' w6.heap.size X w6 rfl hS6.rd (Nat.le_refl _) (by omega) rfl hX6.rd (Nat.le_refl _) (by omega)
        rw [e3] at hC6
        obtain ⟨x0, x1, x2⟩ := hS6.cells
        go_wp2_with fail
        refine hC6.mono ?_
        rintro e w7 ⟨rfl, hw7⟩
        have hS7 := hS6.below hw7
        have hX7 := hX6.below hw7
        have hY7 := hY6.below hw7
        clear hS6 hC6 hw7 hX6 hY6 x0 x1 x2
        have hi0 : (0 : Int) ≤ (X.length : Int) := by omega
        have hi1 : (X.length : Int) ≤ (Y.length : Int) := by omega
        have hi2 : (X.length : Int) ≤ (c6' : Int) := by omega
        have hSP := samePushes_same A6 A3 c6' c3' w7.heap.size w7.heap.size X w7 (by have := hY7.rd.takeP (k := X.length) (by omega); rw [e6] at this; exact this) hX7.rd (by omega)
        have hbel := hS7.bel
        clear hY hX
        go_wp2_with fail
        refine hSP.mono ?_
        rintro e w8 ⟨rfl, hw8⟩
        go_wp2_with fail
        go_ret
        exact ⟨rfl, hbel.trans (hw8.mono hbel.size)⟩

end Go.Proofs.Ytpeifojfpkkcpaa
