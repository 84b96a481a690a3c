/-
  YtahpipcmgcambaaFnTilingByW: the walk of FnTilingBy.
-/
import Derived.Test.YtahpipcmgcambaaDv
import Derived.Test.YtahpipcmgcambaaLw
import Derived.Test.YtahpipcmgcambaaLz
import Derived.Test.YtahpipcmgcambaaByS
namespace Go.Proofs.Ytahpipcmgcambaa
open Go.RowKit

set_option maxHeartbeats 4000000 in
set_option maxRecDepth 20000 in
theorem FnTilingBy_walk (w : World) (A : Option Addr) (n c : Nat) (zs : List Int) (hnc : n ≤ c) (hm : n ≤ maxLen) (_hl : zs.length = n) (hr : Reads w w.heap.size 1 A n (zs.map (Value.int .u8))) (hwz : ∀ z ∈ zs, (Lit.int .u8 z).wf = true) :
    Calls Try.prog 3 #[.slice A n c] w fun e w' => e = .returned (.bool true) ∧ Below w.heap.size w w' := by
  unfold maxLen at hm
  by_cases hb : 1048576 < n
  · go_enter Try.func3, Try.ntmps3
    go_wp2_with fail
    go_ret
    exact ⟨rfl, Below.refl _ _⟩
  · have hDR := hide (drawTilingBy_any A n c zs w hr hnc (by omega) hwz)
    clear hr hwz hm _hl
    go_enter Try.func3, Try.ntmps3
    go_wp2_with fail
    refine (unhide hDR).mono ?_
    rintro e w1 ⟨W, T, A2, c2, Da, da, bs, a, rfl, hreg, ha1, hna, hB1⟩
    clear hDR
    have hS2 := LS.start (W := W) (T := T) hB1 hreg
    have ha2 : LI w (w1.alloc (.cells #[.int .i64 W, .int .i64 T, .slice A2 bs.length c2] 25)) Da da a := ha1.below ((Below.refl _ _).alloc (Nat.le_refl _) _)
    clear hreg hB1 ha1
    go_upto_region 4 with fail
    generalize w1.alloc (.cells #[.int .i64 W, .int .i64 T, .slice A2 bs.length c2] 25) = w2 at *
    generalize w1.heap.size = x at *
    have hbs := hS2.len
    have hXl := byV_len (W := W) (T := T) (bs := bs) (hs := a)
    obtain ⟨ok, hok⟩ : ∃ ok, hokB W T bs a = ok := ⟨_, rfl⟩
    have hyes : ok = true → tilingB W T bs (byV W T bs a) = true := fun h => (law_by (hok.trans h)).1
    have hno : ok = false → byV W T bs a = [] := fun h => byV_no (hok.trans h)
    obtain ⟨X, hX⟩ : ∃ X, byV W T bs a = X := ⟨_, rfl⟩
    rw [hX] at hXl hyes hno
    have hC2 := tilingByI_any W T A2 bs.length c2 w2.heap.size bs a Da a.length da w2 rfl rfl hS2.rd ha2.rd (Nat.le_refl _) (by omega) (by omega)
    rw [hX, hok] at hC2
    obtain ⟨x0, x1, x2⟩ := hS2.cells
    go_wp2_with fail
    refine hC2.mono ?_
    rintro e w3 ⟨A3, c3, c3', rfl, ho3, hw3⟩
    have hS3 := hS2.below hw3
    have ha3 := ha2.below hw3
    have hX3 : LI w w3 A3 c3' X := LI.of hS2.bel.size ho3
    clear hS2 hC2 hw3 ha2 ho3 x0 x1 x2
    have hC3 := tilingByS_any W T A2 bs.length c2 w3.heap.size bs a Da a.length da w3 rfl rfl hS3.rd ha3.rd (Nat.le_refl _) (by omega) (by omega)
    rw [hX, hok] at hC3
    obtain ⟨x0, x1, x2⟩ := hS3.cells
    go_wp2_with fail
    refine hC3.mono ?_
    rintro e w4 ⟨A4, c4, c4', rfl, ho4, hw4⟩
    have hS4 := hS3.below hw4
    have ha4 := ha3.below hw4
    have hX4 := hX3.below hw4
    have hY4 : LI w w4 A4 c4' X := LI.of hS3.bel.size ho4
    clear hS3 hC3 hw4 ha3 hX3 ho4 x0 x1 x2
    have hC4 := sameInts_any X X A3 A4 X.length c3' X.length c4' w4.heap.size w4 rfl rfl hX4.rd hY4.rd (by omega) (by omega)
    rw [beq_self_list] at hC4
    go_wp2_with fail
    refine hC4.mono ?_
    rintro e w5 ⟨rfl, hw5⟩
    have hS5 := hS4.below hw5
    have ha5 := ha4.below hw5
    have hX5 := hX4.below hw5
    clear hS4 hC4 hw5 ha4 hX4 hY4 
    cases ok with
    | true =>
      have hT := hyes rfl
      clear hyes hno
      have hC5 := hokI_any W T A2 bs.length c2 w5.heap.size bs a Da a.length da w5 rfl rfl hS5.rd ha5.rd (Nat.le_refl _) (by omega) (by omega)
      rw [hok] at hC5
      obtain ⟨x0, x1, x2⟩ := hS5.cells
      go_wp2_with fail
      refine hC5.mono ?_
      rintro e w6 ⟨rfl, hw6⟩
      have hS6 := hS5.below hw6
      have ha6 := ha5.below hw6
      have hX6 := hX5.below hw6
      clear hS5 hC5 hw6 ha5 hX5 x0 x1 x2
      have hC6 := tilingOkI_any W T A2 bs.length c2 w6.heap.size bs X A3 X.length c3' w6 rfl rfl hS6.rd hX6.rd (Nat.le_refl _) (by omega) (by omega)
      rw [hT] at hC6
      obtain ⟨x0, x1, x2⟩ := hS6.cells
      go_wp2_with fail
      refine hC6.mono ?_
      rintro e w7 ⟨rfl, hw7⟩
      have hS7 := hS6.below hw7
      have ha7 := ha6.below hw7
      have hX7 := hX6.below hw7
      clear hS6 hC6 hw7 ha6 hX6 x0 x1 x2
      have hbel := hS7.bel
      clear hS7 ha7 hX7
      go_wp2_with fail
      refine (alive_any _).mono ?_
      rintro e w8 ⟨rfl, hw8⟩
      go_wp2_with fail
      go_ret
      exact ⟨rfl, hbel.trans (hw8.mono hbel.size)⟩
    | false =>
      have hE := hno rfl
      clear hyes hno
      subst hE
      have hC5 := hokI_any W T A2 bs.length c2 w5.heap.size bs a Da a.length da w5 rfl rfl hS5.rd ha5.rd (Nat.le_refl _) (by omega) (by omega)
      rw [hok] at hC5
      obtain ⟨x0, x1, x2⟩ := hS5.cells
      go_wp2_with fail
      refine hC5.mono ?_
      rintro e w6 ⟨rfl, hw6⟩
      have hS6 := hS5.below hw6
      have ha6 := ha5.below hw6
      have hX6 := hX5.below hw6
      clear hS5 hC5 hw6 ha5 hX5 x0 x1 x2
      have hbel := hS6.bel
      clear hS6 ha6 hX6
      go_wp2_with fail
      refine (alive_any _).mono ?_
      rintro e w7 ⟨rfl, hw7⟩
      go_wp2_with fail
      go_ret
      exact ⟨rfl, hbel.trans (hw7.mono hbel.size)⟩

end Go.Proofs.Ytahpipcmgcambaa
