/-
  YtahpipcmgcambaaFnHeightsOkW: the walk of FnHeightsOk.
-/
import Derived.Test.YtahpipcmgcambaaDv
import Derived.Test.YtahpipcmgcambaaLw
import Derived.Test.YtahpipcmgcambaaLz
import Derived.Test.YtahpipcmgcambaaByS
namespace Go.Proofs.Ytahpipcmgcambaa
open Go.RowKit

set_option maxHeartbeats 4000000 in
set_option maxRecDepth 20000 in
theorem FnHeightsOk_walk (w : World) (A : Option Addr) (n c : Nat) (zs : List Int) (hnc : n ≤ c) (hm : n ≤ maxLen) (_hl : zs.length = n) (hr : Reads w w.heap.size 1 A n (zs.map (Value.int .u8))) (hwz : ∀ z ∈ zs, (Lit.int .u8 z).wf = true) :
    Calls Try.prog 4 #[.slice A n c] w fun e w' => e = .returned (.bool true) ∧ Below w.heap.size w w' := by
  unfold maxLen at hm
  by_cases hb : 1048576 < n
  · go_enter Try.func4, Try.ntmps4
    go_wp2_with fail
    go_ret
    exact ⟨rfl, Below.refl _ _⟩
  · have hDR := hide (drawHeightsOk_any A n c zs w hr hnc (by omega) hwz)
    clear hr hwz hm _hl
    go_enter Try.func4, Try.ntmps4
    go_wp2_with fail
    refine (unhide hDR).mono ?_
    rintro e w1 ⟨W, T, A2, c2, Da, da, bs, a, rfl, hreg, ha1, hna, hB1⟩
    clear hDR
    have hS2 := LS.start (W := W) (T := T) hB1 hreg
    have ha2 : LI w (w1.alloc (.cells #[.int .i64 W, .int .i64 T, .slice A2 bs.length c2] 25)) Da da a := ha1.below ((Below.refl _ _).alloc (Nat.le_refl _) _)
    clear hreg hB1 ha1
    go_upto_region 4 with fail
    generalize w1.alloc (.cells #[.int .i64 W, .int .i64 T, .slice A2 bs.length c2] 25) = w2 at *
    generalize w1.heap.size = x at *
    have hbs := hS2.len
    have hXl := byV_len (W := W) (T := T) (bs := bs) (hs := a)
    obtain ⟨ok, hok⟩ : ∃ ok, hokB W T bs a = ok := ⟨_, rfl⟩
    have hyes : ok = true → tilingB W T bs (byV W T bs a) = true := fun h => (law_by (hok.trans h)).1
    have hyes2 : ok = true → htsOf W T bs (byV W T bs a) = a := fun h => (law_by (hok.trans h)).2
    obtain ⟨X, hX⟩ : ∃ X, byV W T bs a = X := ⟨_, rfl⟩
    rw [hX] at hXl hyes hyes2
    have hC2 := hokI_any W T A2 bs.length c2 w2.heap.size bs a Da a.length da w2 rfl rfl hS2.rd ha2.rd (Nat.le_refl _) (by omega) (by omega)
    rw [hok] at hC2
    obtain ⟨x0, x1, x2⟩ := hS2.cells
    go_wp2_with fail
    refine hC2.mono ?_
    rintro e w3 ⟨rfl, hw3⟩
    have hS3 := hS2.below hw3
    have ha3 := ha2.below hw3
    clear hS2 hC2 hw3 ha2 x0 x1 x2
    have hC3 := hokS_any W T A2 bs.length c2 w3.heap.size bs a Da a.length da w3 rfl rfl hS3.rd ha3.rd (Nat.le_refl _) (by omega) (by omega)
    rw [hok] at hC3
    obtain ⟨x0, x1, x2⟩ := hS3.cells
    go_wp2_with fail
    refine hC3.mono ?_
    rintro e w4 ⟨rfl, hw4⟩
    have hS4 := hS3.below hw4
    have ha4 := ha3.below hw4
    clear hS3 hC3 hw4 ha3 x0 x1 x2
    cases ok with
    | true =>
      have hT := hyes rfl
      have hH := hyes2 rfl
      clear hyes hyes2
      have hC4 := tilingByI_any W T A2 bs.length c2 w4.heap.size bs a Da a.length da w4 rfl rfl hS4.rd ha4.rd (Nat.le_refl _) (by omega) (by omega)
      rw [hX, hok] at hC4
      obtain ⟨x0, x1, x2⟩ := hS4.cells
      go_wp2_with fail
      refine hC4.mono ?_
      rintro e w5 ⟨A5, c5, c5', rfl, ho5, hw5⟩
      have hS5 := hS4.below hw5
      have ha5 := ha4.below hw5
      have hX5 : LI w w5 A5 c5' X := LI.of hS4.bel.size ho5
      clear hS4 hC4 hw5 ha4 ho5 x0 x1 x2
      have hC5 := tilingOkI_any W T A2 bs.length c2 w5.heap.size bs X A5 X.length c5' w5 rfl rfl hS5.rd hX5.rd (Nat.le_refl _) (by omega) (by omega)
      rw [hT] at hC5
      obtain ⟨x0, x1, x2⟩ := hS5.cells
      go_wp2_with fail
      refine hC5.mono ?_
      rintro e w6 ⟨rfl, hw6⟩
      have hS6 := hS5.below hw6
      have ha6 := ha5.below hw6
      have hX6 := hX5.below hw6
      clear hS5 hC5 hw6 ha5 hX5 x0 x1 x2
      have hC6 := heightsOfI_any W T A2 bs.length c2 w6.heap.size bs X A5 X.length c5' w6 rfl rfl hS6.rd hX6.rd (Nat.le_refl _) (by omega) (by omega)
      rw [hH] at hC6
      obtain ⟨x0, x1, x2⟩ := hS6.cells
      go_wp2_with fail
      refine hC6.mono ?_
      rintro e w7 ⟨A7, c7', rfl, _, ho7, hw7⟩
      have hS7 := hS6.below hw7
      have ha7 := ha6.below hw7
      have hX7 := hX6.below hw7
      have hH7 : LI w w7 A7 c7' a := LI.of hS6.bel.size ho7
      clear hS6 hC6 hw7 ha6 hX6 ho7 x0 x1 x2
      have hC7 := sameInts_any a a A7 Da a.length c7' a.length da w7.heap.size w7 rfl rfl hH7.rd ha7.rd (by omega) (by omega)
      rw [beq_self_list] at hC7
      go_wp2_with fail
      refine hC7.mono ?_
      rintro e w8 ⟨rfl, hw8⟩
      have hS8 := hS7.below hw8
      have ha8 := ha7.below hw8
      have hX8 := hX7.below hw8
      have hH8 := hH7.below hw8
      clear hS7 hC7 hw8 ha7 hX7 hH7 
      have hbel := hS8.bel
      clear hS8 ha8 hX8 hH8
      go_wp2_with fail
      refine (alive_any _).mono ?_
      rintro e w9 ⟨rfl, hw9⟩
      go_wp2_with fail
      go_ret
      exact ⟨rfl, hbel.trans (hw9.mono hbel.size)⟩
    | false =>
      clear hyes hyes2
      have hC4 := tilingByI_any W T A2 bs.length c2 w4.heap.size bs a Da a.length da w4 rfl rfl hS4.rd ha4.rd (Nat.le_refl _) (by omega) (by omega)
      rw [hX, hok] at hC4
      obtain ⟨x0, x1, x2⟩ := hS4.cells
      go_wp2_with fail
      refine hC4.mono ?_
      rintro e w5 ⟨A5, c5, c5', rfl, ho5, hw5⟩
      have hS5 := hS4.below hw5
      have ha5 := ha4.below hw5
      have hX5 : LI w w5 A5 c5' X := LI.of hS4.bel.size ho5
      clear hS4 hC4 hw5 ha4 ho5 x0 x1 x2
      have hbel := hS5.bel
      clear hS5 ha5 hX5
      go_wp2_with fail
      refine (alive_any _).mono ?_
      rintro e w6 ⟨rfl, hw6⟩
      go_wp2_with fail
      go_ret
      exact ⟨rfl, hbel.trans (hw6.mono hbel.size)⟩

end Go.Proofs.Ytahpipcmgcambaa
