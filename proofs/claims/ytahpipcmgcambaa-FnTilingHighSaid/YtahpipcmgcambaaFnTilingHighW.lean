/-
  YtahpipcmgcambaaFnTilingHighW: the walk of FnTilingHigh.
-/
import Derived.Test.YtahpipcmgcambaaDv
import Derived.Test.YtahpipcmgcambaaLw
import Derived.Test.YtahpipcmgcambaaLz
namespace Go.Proofs.Ytahpipcmgcambaa
open Go.RowKit
theorem twoB_comm {W T : Int} {bs : List Bool} {a b : List Int} : twoB W T bs b a = twoB W T bs a b := by unfold twoB; rw [Bool.and_comm]
theorem twoB_self {W T : Int} {bs : List Bool} {a b : List Int} (h : twoB W T bs a b = true) : twoB W T bs a a = true := twoB_iff.2 ⟨(twoB_iff.1 h).1, (twoB_iff.1 h).1⟩

set_option maxHeartbeats 4000000 in
set_option maxRecDepth 20000 in
theorem FnTilingHigh_walk (w : World) (A : Option Addr) (n c : Nat) (zs : List Int) (hnc : n ≤ c) (hm : n ≤ maxLen) (_hl : zs.length = n) (hr : Reads w w.heap.size 1 A n (zs.map (Value.int .u8))) (hwz : ∀ z ∈ zs, (Lit.int .u8 z).wf = true) :
    Calls Try.prog 7 #[.slice A n c] w fun e w' => e = .returned (.bool true) ∧ Below w.heap.size w w' := by
  unfold maxLen at hm
  by_cases hb : 1048576 < n
  · go_enter Try.func7, Try.ntmps7
    go_wp2_with fail
    go_ret
    exact ⟨rfl, Below.refl _ _⟩
  · have hDR := hide (drawTilingHigh_any A n c zs w hr hnc (by omega) hwz)
    clear hr hwz hm _hl
    go_enter Try.func7, Try.ntmps7
    go_wp2_with fail
    refine (unhide hDR).mono ?_
    rintro e w1 ⟨W, T, A2, c2, Da, da, Db, db, bs, a, b, rfl, hreg, ha1, hna, hb1, hnb, hB1⟩
    clear hDR
    have hS2 := LS.start (W := W) (T := T) hB1 hreg
    have ha2 : LI w (w1.alloc (.cells #[.int .i64 W, .int .i64 T, .slice A2 bs.length c2] 25)) Da da a := ha1.below ((Below.refl _ _).alloc (Nat.le_refl _) _)
    have hb2 : LI w (w1.alloc (.cells #[.int .i64 W, .int .i64 T, .slice A2 bs.length c2] 25)) Db db b := hb1.below ((Below.refl _ _).alloc (Nat.le_refl _) _)
    clear hreg hB1 ha1 hb1
    go_upto_region 4 with fail
    generalize w1.alloc (.cells #[.int .i64 W, .int .i64 T, .slice A2 bs.length c2] 25) = w2 at *
    generalize w1.heap.size = x at *
    have hbs := hS2.len
    have hXl := twoV_len (f := max) (W := W) (T := T) (bs := bs) (a := a) (b := b)
    obtain ⟨ok, hok⟩ : ∃ ok, twoB W T bs a b = ok := ⟨_, rfl⟩
    have hyes : ok = true → tilingB W T bs (twoV max W T bs a b) = true ∧ belowB W T bs a (twoV max W T bs a b) = true ∧ belowB W T bs b (twoV max W T bs a b) = true ∧ twoV max W T bs b a = twoV max W T bs a b ∧ twoV max W T bs a a = a := fun h => law_high (hok.trans h)
    have hno : ok = false → twoV max W T bs a b = [] := fun h => twoV_mty (hok.trans h)
    have hself : ok = true → twoB W T bs a a = true := fun h => twoB_self (hok.trans h)
    obtain ⟨X, hX⟩ : ∃ X, twoV max W T bs a b = X := ⟨_, rfl⟩
    rw [hX] at hXl hyes hno
    have hC2 := tilingHighI_any W T A2 bs.length c2 w2.heap.size bs a Da a.length da b Db b.length db w2 rfl rfl rfl hS2.rd ha2.rd hb2.rd (Nat.le_refl _) (by omega) (by omega) (by omega)
    rw [hX, hok] at hC2
    obtain ⟨x0, x1, x2⟩ := hS2.cells
    go_wp2_with fail
    refine hC2.mono ?_
    rintro e w3 ⟨A3, c3, c3', rfl, ho3, hw3⟩
    have hS3 := hS2.below hw3
    have ha3 := ha2.below hw3
    have hb3 := hb2.below hw3
    have hX3 : LI w w3 A3 c3' X := LI.of hS2.bel.size ho3
    clear hS2 hC2 hw3 ha2 hb2 ho3 x0 x1 x2
    have hC3 := tilingHighS_any W T A2 bs.length c2 w3.heap.size bs a Da a.length da b Db b.length db w3 rfl rfl rfl hS3.rd ha3.rd hb3.rd (Nat.le_refl _) (by omega) (by omega) (by omega)
    rw [hX, hok] at hC3
    obtain ⟨x0, x1, x2⟩ := hS3.cells
    go_wp2_with fail
    refine hC3.mono ?_
    rintro e w4 ⟨A4, c4, c4', rfl, ho4, hw4⟩
    have hS4 := hS3.below hw4
    have ha4 := ha3.below hw4
    have hb4 := hb3.below hw4
    have hX4 := hX3.below hw4
    have hY4 : LI w w4 A4 c4' X := LI.of hS3.bel.size ho4
    clear hS3 hC3 hw4 ha3 hb3 hX3 ho4 x0 x1 x2
    have hC4 := sameInts_any X X A3 A4 X.length c3' X.length c4' w4.heap.size w4 rfl rfl hX4.rd hY4.rd (by omega) (by omega)
    rw [beq_self_list] at hC4
    go_wp2_with fail
    refine hC4.mono ?_
    rintro e w5 ⟨rfl, hw5⟩
    have hS5 := hS4.below hw5
    have ha5 := ha4.below hw5
    have hb5 := hb4.below hw5
    have hX5 := hX4.below hw5
    clear hS4 hC4 hw5 ha4 hb4 hX4 hY4 
    cases ok with
    | true =>
      obtain ⟨t1, t2, t3, t4, t5⟩ := hyes rfl
      have t6 := hself rfl
      clear hyes hno hself
      have hC5 := tilingHighI_any W T A2 bs.length c2 w5.heap.size bs b Db b.length db a Da a.length da w5 rfl rfl rfl hS5.rd hb5.rd ha5.rd (Nat.le_refl _) (by omega) (by omega) (by omega)
      rw [t4, twoB_comm, hok] at hC5
      obtain ⟨x0, x1, x2⟩ := hS5.cells
      go_wp2_with fail
      refine hC5.mono ?_
      rintro e w6 ⟨A6, c6, c6', rfl, ho6, hw6⟩
      have hS6 := hS5.below hw6
      have ha6 := ha5.below hw6
      have hb6 := hb5.below hw6
      have hX6 := hX5.below hw6
      have hQ6 : LI w w6 A6 c6' X := LI.of hS5.bel.size ho6
      clear hS5 hC5 hw6 ha5 hb5 hX5 ho6 x0 x1 x2
      have hC6 := tilingHighI_any W T A2 bs.length c2 w6.heap.size bs a Da a.length da a Da a.length da w6 rfl rfl rfl hS6.rd ha6.rd ha6.rd (Nat.le_refl _) (by omega) (by omega) (by omega)
      rw [t5, t6] at hC6
      obtain ⟨x0, x1, x2⟩ := hS6.cells
      go_wp2_with fail
      refine hC6.mono ?_
      rintro e w7 ⟨A7, c7, c7', rfl, ho7, hw7⟩
      have hS7 := hS6.below hw7
      have ha7 := ha6.below hw7
      have hb7 := hb6.below hw7
      have hX7 := hX6.below hw7
      have hQ7 := hQ6.below hw7
      have hP7 : LI w w7 A7 c7' a := LI.of hS6.bel.size ho7
      clear hS6 hC6 hw7 ha6 hb6 hX6 hQ6 ho7 x0 x1 x2
      have hC7 := tilingOkI_any W T A2 bs.length c2 w7.heap.size bs X A3 X.length c3' w7 rfl rfl hS7.rd hX7.rd (Nat.le_refl _) (by omega) (by omega)
      rw [t1] at hC7
      obtain ⟨x0, x1, x2⟩ := hS7.cells
      go_wp2_with fail
      refine hC7.mono ?_
      rintro e w8 ⟨rfl, hw8⟩
      have hS8 := hS7.below hw8
      have ha8 := ha7.below hw8
      have hb8 := hb7.below hw8
      have hX8 := hX7.below hw8
      have hQ8 := hQ7.below hw8
      have hP8 := hP7.below hw8
      clear hS7 hC7 hw8 ha7 hb7 hX7 hQ7 hP7 x0 x1 x2
      have hC8 := belowI_any W T A2 bs.length c2 w8.heap.size bs a Da a.length da X A3 X.length c3' w8 rfl rfl rfl hS8.rd ha8.rd hX8.rd (Nat.le_refl _) (by omega) (by omega) (by omega)
      rw [t2] at hC8
      obtain ⟨x0, x1, x2⟩ := hS8.cells
      go_wp2_with fail
      refine hC8.mono ?_
      rintro e w9 ⟨rfl, hw9⟩
      have hS9 := hS8.below hw9
      have ha9 := ha8.below hw9
      have hb9 := hb8.below hw9
      have hX9 := hX8.below hw9
      have hQ9 := hQ8.below hw9
      have hP9 := hP8.below hw9
      clear hS8 hC8 hw9 ha8 hb8 hX8 hQ8 hP8 x0 x1 x2
      have hC9 := belowI_any W T A2 bs.length c2 w9.heap.size bs b Db b.length db X A3 X.length c3' w9 rfl rfl rfl hS9.rd hb9.rd hX9.rd (Nat.le_refl _) (by omega) (by omega) (by omega)
      rw [t3] at hC9
      obtain ⟨x0, x1, x2⟩ := hS9.cells
      go_wp2_with fail
      refine hC9.mono ?_
      rintro e w10 ⟨rfl, hw10⟩
      have hS10 := hS9.below hw10
      have ha10 := ha9.below hw10
      have hb10 := hb9.below hw10
      have hX10 := hX9.below hw10
      have hQ10 := hQ9.below hw10
      have hP10 := hP9.below hw10
      clear hS9 hC9 hw10 ha9 hb9 hX9 hQ9 hP9 x0 x1 x2
      have hC10 := sameInts_any X X A6 A3 X.length c6' X.length c3' w10.heap.size w10 rfl rfl hQ10.rd hX10.rd (by omega) (by omega)
      rw [beq_self_list] at hC10
      go_wp2_with fail
      refine hC10.mono ?_
      rintro e w11 ⟨rfl, hw11⟩
      have hS11 := hS10.below hw11
      have ha11 := ha10.below hw11
      have hb11 := hb10.below hw11
      have hX11 := hX10.below hw11
      have hQ11 := hQ10.below hw11
      have hP11 := hP10.below hw11
      clear hS10 hC10 hw11 ha10 hb10 hX10 hQ10 hP10 
      have hC11 := sameInts_any a a A7 Da a.length c7' a.length da w11.heap.size w11 rfl rfl hP11.rd ha11.rd (by omega) (by omega)
      rw [beq_self_list] at hC11
      go_wp2_with fail
      refine hC11.mono ?_
      rintro e w12 ⟨rfl, hw12⟩
      have hS12 := hS11.below hw12
      have ha12 := ha11.below hw12
      have hb12 := hb11.below hw12
      have hX12 := hX11.below hw12
      have hQ12 := hQ11.below hw12
      have hP12 := hP11.below hw12
      clear hS11 hC11 hw12 ha11 hb11 hX11 hQ11 hP11 
      have hbel := hS12.bel
      clear hS12 ha12 hb12 hX12 hQ12 hP12
      go_wp2_with fail
      go_ret
      exact ⟨rfl, hbel⟩
    | false =>
      have hE := hno rfl
      clear hyes hno hself
      subst hE
      have hbel := hS5.bel
      clear hS5 ha5 hb5 hX5
      go_wp2_with fail
      refine (alive_any _).mono ?_
      rintro e w6 ⟨rfl, hw6⟩
      go_wp2_with fail
      go_ret
      exact ⟨rfl, hbel.trans (hw6.mono hbel.size)⟩

end Go.Proofs.Ytahpipcmgcambaa
