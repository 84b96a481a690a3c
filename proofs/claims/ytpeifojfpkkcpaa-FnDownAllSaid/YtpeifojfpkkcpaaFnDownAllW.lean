/-
  YtpeifojfpkkcpaaFnDownAllW: the walk of FnDownAll.
-/
import Derived.Test.YtpeifojfpkkcpaaDv
import Derived.Test.YtpeifojfpkkcpaaLz
import Derived.Test.YtpeifojfpkkcpaaLdd
import Derived.Test.YtpeifojfpkkcpaaFd3
namespace Go.Proofs.Ytpeifojfpkkcpaa
open Go.RowKit

set_option maxHeartbeats 4000000 in
set_option maxRecDepth 20000 in
theorem FnDownAll_walk (w : World) (A : Option Addr) (n c : Nat) (zs : List Int) (hnc : n ≤ c) (hm : n ≤ maxLen) (_hl : zs.length = n) (hr : Reads w w.heap.size 1 A n (zs.map (Value.int .u8))) (hwz : ∀ z ∈ zs, (Lit.int .u8 z).wf = true) :
    Calls Try.prog 10 #[.slice A n c] w fun e w' => e = .returned (.bool true) ∧ Below w.heap.size w w' := by
  unfold maxLen at hm
  by_cases hb : 1048576 < n
  · go_enter Try.func10, Try.ntmps10
    go_wp2_with fail
    go_ret
    exact ⟨rfl, Below.refl _ _⟩
  · have hDR := hide (drawDownAll_any A n c zs w hr hnc (by omega) hwz)
    clear hr hwz hm _hl
    go_enter Try.func10, Try.ntmps10
    go_wp2_with fail
    refine (unhide hDR).mono ?_
    rintro e w1 ⟨W, T, A2, c2, Da, da, bs, a, rfl, hreg, ha1, hna, hB1⟩
    clear hDR
    have hS2 := LS.start (W := W) (T := T) hB1 hreg
    have ha2 : LI w (w1.alloc (.cells #[.int .i64 W, .int .i64 T, .slice A2 bs.length c2] 25)) Da da a := ha1.below ((Below.refl _ _).alloc (Nat.le_refl _) _)
    clear hreg hB1 ha1
    go_upto_region 4 with fail
    generalize w1.alloc (.cells #[.int .i64 W, .int .i64 T, .slice A2 bs.length c2] 25) = w2 at *
    generalize w1.heap.size = x at *
    have hbs := hS2.len
    have hXl := daV_len (W := W) (T := T) (bs := bs) (L := a)
    have hlaw := law_downAll (W := W) (T := T) (bs := bs) (L := a)
    have hno := da_no (W := W) (T := T) (bs := bs) (L := a)
    have htd : tiledB W T bs a = (simpleB W T bs && tilingB W T bs a) := rfl
    obtain ⟨sb, hsb⟩ : ∃ sb, simpleB W T bs = sb := ⟨_, rfl⟩
    obtain ⟨tb, htb⟩ : ∃ tb, tilingB W T bs a = tb := ⟨_, rfl⟩
    rw [hsb, htb] at htd
    obtain ⟨X, hX⟩ : ∃ X, daV W T bs a = X := ⟨_, rfl⟩
    obtain ⟨N, hN⟩ : ∃ N, daN W T bs a = N := ⟨_, rfl⟩
    rw [hX, hN] at hlaw hno
    rw [hX] at hXl
    have hnn : (N != N) = false := by simp
    have hC2 := downAllI_any W T A2 bs.length c2 w2.heap.size bs a Da a.length da ha2.plain w2 rfl rfl hS2.rd ha2.rd (Nat.le_refl _) (by omega) (by omega)
    rw [hX, hN] at hC2
    obtain ⟨x0, x1, x2⟩ := hS2.cells
    go_wp2_with fail
    refine hC2.mono ?_
    rintro e w3 ⟨A3, c3, c3', rfl, ho3, hw3⟩
    have hS3 := hS2.below hw3
    have ha3 := ha2.below hw3
    have hX3 : LI w w3 A3 c3' X := LI.of hS2.bel.size ho3
    clear hS2 hC2 hw3 ha2 ho3 x0 x1 x2
    have hC3 := downAllS_any W T A2 bs.length c2 w3.heap.size bs a Da a.length da w3 rfl rfl hS3.rd ha3.rd (Nat.le_refl _) (by omega) (by omega)
    rw [hX, hN] at hC3
    obtain ⟨x0, x1, x2⟩ := hS3.cells
    go_wp2_with fail
    refine hC3.mono ?_
    rintro e w4 ⟨A4, c4, c4', rfl, ho4, hw4⟩
    have hS4 := hS3.below hw4
    have ha4 := ha3.below hw4
    have hX4 := hX3.below hw4
    have hY4 : LI w w4 A4 c4' X := LI.of hS3.bel.size ho4
    clear hS3 hC3 hw4 ha3 hX3 ho4 x0 x1 x2
    have hC4 := sameInts_any X X A3 A4 X.length c3' X.length c4' w4.heap.size w4 rfl rfl hX4.rd hY4.rd (by omega) (by omega)
    rw [beq_self_list] at hC4
    go_wp2_with fail
    refine hC4.mono ?_
    rintro e w5 ⟨rfl, hw5⟩
    have hS5 := hS4.below hw5
    have ha5 := ha4.below hw5
    have hX5 := hX4.below hw5
    clear hS4 hC4 hw5 ha4 hX4 hY4 
    have hC5 := SimpleS_any W T A2 bs.length c2 w5.heap.size bs w5 hS5.rd (Nat.le_refl _) (by omega)
    rw [hsb] at hC5
    obtain ⟨x0, x1, x2⟩ := hS5.cells
    go_wp2_with fail
    refine hC5.mono ?_
    rintro e w6 ⟨rfl, hw6⟩
    have hS6 := hS5.below hw6
    have ha6 := ha5.below hw6
    have hX6 := hX5.below hw6
    clear hS5 hC5 hw6 ha5 hX5 x0 x1 x2
    cases sb with
    | false =>
      obtain ⟨rfl, rfl⟩ := hno (htd.trans rfl)
      clear hno hlaw hnn hX hN
      have hbel := hS6.bel
      clear hS6 ha6 hX6
      go_wp2_with fail
      refine (alive_any _).mono ?_
      rintro e w7 ⟨rfl, hw7⟩
      go_wp2_with fail
      go_ret
      exact ⟨rfl, hbel.trans (hw7.mono hbel.size)⟩
    | true =>
      have hC6 := tilingOkS_any W T A2 bs.length c2 w6.heap.size bs a Da a.length da w6 rfl rfl hS6.rd ha6.rd (Nat.le_refl _) (by omega) (by omega)
      rw [htb] at hC6
      obtain ⟨x0, x1, x2⟩ := hS6.cells
      go_wp2_with fail
      refine hC6.mono ?_
      rintro e w7 ⟨rfl, hw7⟩
      have hS7 := hS6.below hw7
      have ha7 := ha6.below hw7
      have hX7 := hX6.below hw7
      clear hS6 hC6 hw7 ha6 hX6 x0 x1 x2
      cases tb with
      | false =>
        obtain ⟨rfl, rfl⟩ := hno (htd.trans rfl)
        clear hno hlaw hnn hX hN
        have hbel := hS7.bel
        clear hS7 ha7 hX7
        go_wp2_with fail
        refine (alive_any _).mono ?_
        rintro e w8 ⟨rfl, hw8⟩
        go_wp2_with fail
        go_ret
        exact ⟨rfl, hbel.trans (hw8.mono hbel.size)⟩
      | true =>
        obtain ⟨e1, e2, e3⟩ := hlaw (htd.trans rfl)
        clear hno hlaw hnn hX hN
        have heq : (N == N) = true := by simp
        have hC7 := lowestI_any W T A2 bs.length c2 w7.heap.size bs w7 rfl hS7.rd (Nat.le_refl _) (by omega)
        rw [e1, e2] at hC7
        obtain ⟨x0, x1, x2⟩ := hS7.cells
        go_wp2_with fail
        refine hC7.mono ?_
        rintro e w8 ⟨A8, c8, c8', rfl, ho8, hw8⟩
        have hS8 := hS7.below hw8
        have ha8 := ha7.below hw8
        have hX8 := hX7.below hw8
        have hQ8 : LI w w8 A8 c8' X := LI.of hS7.bel.size ho8
        clear hS7 hC7 hw8 ha7 hX7 ho8 x0 x1 x2
        have hC8 := sameInts_any X X A8 A3 X.length c8' X.length c3' w8.heap.size w8 rfl rfl hQ8.rd hX8.rd (by omega) (by omega)
        rw [beq_self_list] at hC8
        go_wp2_with fail
        refine hC8.mono ?_
        rintro e w9 ⟨rfl, hw9⟩
        have hS9 := hS8.below hw9
        have ha9 := ha8.below hw9
        have hX9 := hX8.below hw9
        have hQ9 := hQ8.below hw9
        clear hS8 hC8 hw9 ha8 hX8 hQ8 
        have hC9 := apartI_any W T A2 bs.length c2 w9.heap.size bs a Da a.length da X A3 X.length c3' w9 rfl rfl rfl hS9.rd ha9.rd hX9.rd (Nat.le_refl _) (by omega) (by omega) (by omega)
        rw [e3] at hC9
        obtain ⟨x0, x1, x2⟩ := hS9.cells
        go_wp2_with fail
        refine hC9.mono ?_
        rintro e w10 ⟨rfl, hw10⟩
        have hS10 := hS9.below hw10
        have ha10 := ha9.below hw10
        have hX10 := hX9.below hw10
        have hQ10 := hQ9.below hw10
        clear hS9 hC9 hw10 ha9 hX9 hQ9 x0 x1 x2
        have hbel := hS10.bel
        clear hS10 ha10 hX10 hQ10
        go_wp2_with fail
        go_ret
        exact ⟨rfl, hbel⟩

end Go.Proofs.Ytpeifojfpkkcpaa
