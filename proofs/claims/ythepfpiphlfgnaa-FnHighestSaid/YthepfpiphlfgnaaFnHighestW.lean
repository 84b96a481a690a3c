/-
  YthepfpiphlfgnaaFnHighestW: the walk of FnHighest.
-/
import Derived.Test.YthepfpiphlfgnaaDkl
import Derived.Test.YthepfpiphlfgnaaLz
import Derived.Test.YthepfpiphlfgnaaCz
import Derived.Test.YthepfpiphlfgnaaTt
namespace Go.Proofs.Ythepfpiphlfgnaa
open Go.RowKit

set_option maxHeartbeats 4000000 in
set_option maxRecDepth 20000 in
theorem FnHighest_walk (w : World) (A : Option Addr) (n c : Nat) (zs : List Int) (hnc : n ≤ c) (hm : n ≤ maxLen) (_hl : zs.length = n) (hr : Reads w w.heap.size 1 A n (zs.map (Value.int .u8))) (hwz : ∀ z ∈ zs, (Lit.int .u8 z).wf = true) :
    Calls Try.prog 6 #[.slice A n c] w fun e w' => e = .returned (.bool true) ∧ Below w.heap.size w w' := by
  unfold maxLen at hm
  by_cases hb : 1048576 < n
  · go_enter Try.func6, Try.ntmps6
    go_wp2_with fail
    go_ret
    exact ⟨rfl, Below.refl _ _⟩
  · have hDR := hide (drawHighest_any A n c zs w hr hnc (by omega) hwz)
    clear hr hwz hm _hl
    go_enter Try.func6, Try.ntmps6
    go_wp2_with fail
    refine (unhide hDR).mono ?_
    rintro e w1 ⟨W, T, A2, c2, bs, rfl, hreg, hB1⟩
    clear hDR
    have hS2 := LS.start (W := W) (T := T) hB1 hreg
    clear hreg hB1 
    go_upto_region 4 with fail
    generalize w1.alloc (.cells #[.int .i64 W, .int .i64 T, .slice A2 bs.length c2] 25) = w2 at *
    generalize w1.heap.size = x at *
    have hbs := hS2.len
    have hXl : (exV max W T bs).length ≤ 36 := exV_len
    have hLl : (exV min W T bs).length ≤ 36 := exV_len
    obtain ⟨eb, heb⟩ : ∃ eb, exB W T bs = eb := ⟨_, rfl⟩
    obtain ⟨tm, htm⟩ : ∃ tm, tmI W T bs = tm := ⟨_, rfl⟩
    have hbdm : -1 ≤ tm ∧ tm ≤ 262144 := by rw [← htm]; exact tmI_bd W T bs
    have hno := fun (h : eb = false) => exB_no (heb.trans h)
    have hyes := fun (h : eb = true) => law_highest (heb.trans h)
    have hone := fun (h : eb = true) => law_onlyone (heb.trans h)
    obtain ⟨X, hX⟩ : ∃ X, exV max W T bs = X := ⟨_, rfl⟩
    obtain ⟨sb, hsb⟩ : ∃ sb, simpleB W T bs = sb := ⟨_, rfl⟩
    rw [hX] at hXl hyes hno hone
    rw [htm] at hyes hno hone
    rw [hsb] at hno
    obtain ⟨Lo, hLo⟩ : ∃ Lo, exV min W T bs = Lo := ⟨_, rfl⟩
    rw [hLo] at hone hLl
    have hC2 := highestI_any W T A2 bs.length c2 w2.heap.size bs w2 rfl hS2.rd (Nat.le_refl _) (by omega)
    rw [hX, heb] at hC2
    obtain ⟨x0, x1, x2⟩ := hS2.cells
    go_wp2_with fail
    refine hC2.mono ?_
    rintro e w3 ⟨A3, c3, c3', rfl, ho3, hw3⟩
    have hS3 := hS2.below hw3
    have hX3 : LI w w3 A3 c3' X := LI.of hS2.bel.size ho3
    clear hS2 hC2 hw3  ho3 x0 x1 x2
    have hC3 := highestS_any W T A2 bs.length c2 w3.heap.size bs w3 rfl hS3.rd (Nat.le_refl _) (by omega)
    rw [hX, heb] at hC3
    obtain ⟨x0, x1, x2⟩ := hS3.cells
    go_wp2_with fail
    refine hC3.mono ?_
    rintro e w4 ⟨A4, c4, c4', rfl, ho4, hw4⟩
    have hS4 := hS3.below hw4
    have hX4 := hX3.below hw4
    have hY4 : LI w w4 A4 c4' X := LI.of hS3.bel.size ho4
    clear hS3 hC3 hw4 hX3 ho4 x0 x1 x2
    have hC4 := sameInts_any X X A3 A4 X.length c3' X.length c4' w4.heap.size w4 rfl rfl hX4.rd hY4.rd (by omega) (by omega)
    rw [beq_self_list] at hC4
    go_wp2_with fail
    refine hC4.mono ?_
    rintro e w5 ⟨rfl, hw5⟩
    have hS5 := hS4.below hw5
    have hX5 := hX4.below hw5
    clear hS4 hC4 hw5 hX4 hY4 
    cases eb with
    | true =>
      obtain ⟨t1, t2, t3⟩ := hyes rfl
      have hone := hone rfl
      clear hno hyes
      have hC5 := tilingsManyI_any W T A2 bs.length c2 w5.heap.size bs w5 rfl hS5.rd (Nat.le_refl _) (by omega)
      rw [htm] at hC5
      obtain ⟨x0, x1, x2⟩ := hS5.cells
      go_wp2_with fail
      refine hC5.mono ?_
      rintro e w6 ⟨rfl, hw6⟩
      have hS6 := hS5.below hw6
      have hX6 := hX5.below hw6
      clear hS5 hC5 hw6 hX5 x0 x1 x2
      have hdiv : tm.tdiv 20 = tm / 20 := Int.tdiv_eq_ediv_of_nonneg (by omega)
      have HT3 := Lib.hid t3
      have HT1 := Lib.hid t1
      have HON := Lib.hid hone
      clear t3 t1 hone
      go_upto_region 12 with fail
      go_loopg [9] tm.toNat (fun r s8 wr => ∃ k : Int, r = (tm - k).toNat ∧ 0 ≤ k ∧ k ≤ 600000 ∧ s8 = .int .i64 k ∧ LS w wr x W T A2 c2 bs ∧ LI w wr A3 c3' X)
      case atStart => exact ⟨0, by omega, by omega, by omega, rfl, hS6, hX6⟩
      case round =>
        clear hS6 hX6
        obtain ⟨k, hk, hk0, hk6, rfl, hS, hXX⟩ := hrel
        have HK := Lib.hid hk
        clear hk
        by_cases hlt : k < tm
        · obtain ⟨z1, z2⟩ := HT3.out k hk0 hlt
          obtain ⟨Y, hY⟩ : ∃ Y, toIV W T bs k = Y := ⟨_, rfl⟩
          have hYl : Y.length ≤ 36 := by rw [← hY]; exact toIV_len36 W T bs k
          have hC1 := tilingOfI_any W T A2 bs.length c2 wr.heap.size bs k wr rfl hS.rd (Nat.le_refl _) (by omega)
          rw [hY, z1] at hC1
          rw [hY] at z2
          obtain ⟨x0, x1, x2⟩ := hS.cells
          go_wp2_with fail
          refine hC1.mono ?_
          rintro e w8 ⟨A8, c8, c8', rfl, ho8, hw8⟩
          have hS8 := hS.below hw8
          have hX8 := hXX.below hw8
          have hY8 : LI w w8 A8 c8' Y := LI.of hS.bel.size ho8
          clear hS hXX hw8 hC1 ho8 x0 x1 x2
          have hC2 := belowI_any W T A2 bs.length c2 w8.heap.size bs Y A8 Y.length c8' X A3 X.length c3' w8 rfl rfl rfl hS8.rd hY8.rd hX8.rd (Nat.le_refl _) (by omega) (by omega) (by omega)
          rw [z2] at hC2
          obtain ⟨x0, x1, x2⟩ := hS8.cells
          go_wp2_with fail
          refine hC2.mono ?_
          rintro e w9 ⟨rfl, hw9⟩
          have hS9 := hS8.below hw9
          have hX9 := hX8.below hw9
          clear hS8 hX8 hY8 hw9 hC2 x0 x1 x2
          have hw1 : IntKind.i64.wrap (k + 1) = k + 1 := IntWalk.i64_in _ (by omega)
          have hw2 : IntKind.i64.wrap (tm / 20) = tm / 20 := IntWalk.i64_in _ (by omega)
          have hw3 : IntKind.i64.wrap (k + 1 + tm / 20) = k + 1 + tm / 20 := IntWalk.i64_in _ (by omega)
          go_wp2_with fail
          go_roundg ((tm - (k + 1 + tm / 20)).toNat)
          case measure => have := HK.out; omega
          case rel => exact ⟨k + 1 + tm / 20, rfl, by omega, by omega, by go_num, hS9, hX9⟩
        · have t1 := HT1.out
          have hone := HON.out
          have hC1 := lowestI_any W T A2 bs.length c2 wr.heap.size bs wr rfl hS.rd (Nat.le_refl _) (by omega)
          rw [hLo, heb] at hC1
          obtain ⟨x0, x1, x2⟩ := hS.cells
          go_wp2_with fail
          refine hC1.mono ?_
          rintro e w8 ⟨A8, c8, c8', rfl, ho8, hw8⟩
          have hS8 := hS.below hw8
          have hX8 := hXX.below hw8
          have hY8 : LI w w8 A8 c8' Lo := LI.of hS.bel.size ho8
          clear hS hXX hw8 hC1 ho8 x0 x1 x2
          have hC := tilingOkI_any W T A2 bs.length c2 w8.heap.size bs X A3 X.length c3' w8 rfl rfl hS8.rd hX8.rd (Nat.le_refl _) (by omega) (by omega)
          rw [t1] at hC
          obtain ⟨x0, x1, x2⟩ := hS8.cells
          go_wp2_with fail
          refine hC.mono ?_
          rintro e w9 ⟨rfl, hb9⟩
          have hS9 := hS8.below hb9
          have hX9 := hX8.below hb9
          have hY9 := hY8.below hb9
          clear hS8 hX8 hY8 hb9 hC x0 x1 x2
          have hC := sameInts_any Lo X A8 A3 Lo.length c8' X.length c3' w9.heap.size w9 rfl rfl hY9.rd hX9.rd (by omega) (by omega)
          go_wp2_with fail
          refine hC.mono ?_
          rintro e w10 ⟨rfl, hb10⟩
          have hbel := (hS9.below hb10).bel
          clear hS9 hX9 hY9 hb10 hC
          go_wp2_with fail
          go_ret
          exact ⟨rfl, hbel⟩
    | false =>
      obtain ⟨_, hE, _⟩ := hno rfl
      clear hno hyes hone
      subst hE
      have hbel := hS5.bel
      clear hS5 hX5
      go_wp2_with fail
      refine (alive_any _).mono ?_
      rintro e w6 ⟨rfl, hw6⟩
      go_wp2_with fail
      go_ret
      exact ⟨rfl, hbel.trans (hw6.mono hbel.size)⟩

end Go.Proofs.Ythepfpiphlfgnaa
