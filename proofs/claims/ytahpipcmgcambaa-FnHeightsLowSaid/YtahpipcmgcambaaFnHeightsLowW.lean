/-
  YtahpipcmgcambaaFnHeightsLowW: the walk of FnHeightsLow.
-/
import Derived.Test.YtahpipcmgcambaaDv
import Derived.Test.YtahpipcmgcambaaLw
import Derived.Test.YtahpipcmgcambaaLz
import Derived.Test.YtahpipcmgcambaaHx
import Derived.BigRegion
namespace Go.Proofs.Ytahpipcmgcambaa
open Go.RowKit
theorem lowL_cases {W T : Int} {bs : List Bool} {a b : List Int} : lowL W T bs a b = [] ∨ (hokB W T bs (lowL W T bs a b) = true ∧ (highL W T bs a b).length = (lowL W T bs a b).length ∧ a.length = (lowL W T bs a b).length ∧ b.length = (lowL W T bs a b).length ∧ ∀ j, j < (lowL W T bs a b).length → (lowL W T bs a b).getD j 0 + (highL W T bs a b).getD j 0 = a.getD j 0 + b.getD j 0) := by
  cases h1 : hokB W T bs a with
  | false => exact .inl (by unfold lowL; rw [h1]; simp)
  | true =>
    cases h2 : hokB W T bs b with
    | false => exact .inl (by unfold lowL; rw [h2]; simp)
    | true =>
      obtain ⟨h3, _, h5⟩ := law_low h1 h2
      have e : lowL W T bs a b = List.zipWith min a b := by unfold lowL; rw [h1, h2]; simp
      have e2 : highL W T bs a b = List.zipWith max a b := by unfold highL; rw [h1, h2]; simp
      rw [e, e2]
      refine .inr ⟨h3, by simp, by simp; omega, by simp; omega, fun j hj => ?_⟩
      simp only [List.length_zipWith] at hj
      rw [zip_getD (by omega) (by omega), zip_getD (by omega) (by omega)]
      omega

set_option maxHeartbeats 4000000 in
set_option maxRecDepth 20000 in
theorem FnHeightsLow_walk (w : World) (A : Option Addr) (n c : Nat) (zs : List Int) (hnc : n ≤ c) (hm : n ≤ maxLen) (_hl : zs.length = n) (hr : Reads w w.heap.size 1 A n (zs.map (Value.int .u8))) (hwz : ∀ z ∈ zs, (Lit.int .u8 z).wf = true) :
    Calls Try.prog 6 #[.slice A n c] w fun e w' => e = .returned (.bool true) ∧ Below w.heap.size w w' := by
  unfold maxLen at hm
  by_cases hb : 1048576 < n
  · go_enter Try.func6, Try.ntmps6
    go_wp2_with fail
    go_ret
    exact ⟨rfl, Below.refl _ _⟩
  · have hDR := hide (drawHeightsLow_any A n c zs w hr hnc (by omega) hwz)
    clear hr hwz hm _hl
    go_enter Try.func6, Try.ntmps6
    go_wp2_with fail
    refine (unhide hDR).mono ?_
    rintro e w1 ⟨W, T, A2, c2, Da, da, Db, db, bs, a, b, rfl, hreg, ha1, hna, hb1, hnb, hB1⟩
    clear hDR
    have hS2 := LS.start (W := W) (T := T) hB1 hreg
    have ha2 : LI w (w1.alloc (.cells #[.int .i64 W, .int .i64 T, .slice A2 bs.length c2] 25)) Da da a := ha1.below ((Below.refl _ _).alloc (Nat.le_refl _) _)
    have hb2 : LI w (w1.alloc (.cells #[.int .i64 W, .int .i64 T, .slice A2 bs.length c2] 25)) Db db b := hb1.below ((Below.refl _ _).alloc (Nat.le_refl _) _)
    clear hreg hB1 ha1 hb1
    go_upto_region 4 with fail
    generalize w1.alloc (.cells #[.int .i64 W, .int .i64 T, .slice A2 bs.length c2] 25) = w2 at *
    generalize w1.heap.size = x at *
    have hbs := hS2.len
    have hXl : (lowL W T bs a b).length ≤ a.length := lowL_len
    have hXc := lowL_cases (W := W) (T := T) (bs := bs) (a := a) (b := b)
    obtain ⟨X, hX⟩ : ∃ X, lowL W T bs a b = X := ⟨_, rfl⟩
    obtain ⟨Y, hY⟩ : ∃ Y, highL W T bs a b = Y := ⟨_, rfl⟩
    rw [hX] at hXl hXc
    rw [hY] at hXc
    have hC2 := lowI_any W T A2 bs.length c2 w2.heap.size bs a Da a.length da b Db b.length db w2 rfl rfl rfl hS2.rd ha2.rd hb2.rd (Nat.le_refl _) (by omega) (by omega) (by omega)
    rw [hX] at hC2
    obtain ⟨x0, x1, x2⟩ := hS2.cells
    go_wp2_with fail
    refine hC2.mono ?_
    rintro e w3 ⟨A3, c3, c3', rfl, ho3, hw3⟩
    have hS3 := hS2.below hw3
    have ha3 := ha2.below hw3
    have hb3 := hb2.below hw3
    have hX3 : LI w w3 A3 c3' X := LI.of hS2.bel.size ho3
    clear hS2 hC2 hw3 ha2 hb2 ho3 x0 x1 x2
    have hC3 := lowS_any W T A2 bs.length c2 w3.heap.size bs a Da a.length da b Db b.length db w3 rfl rfl rfl hS3.rd ha3.rd hb3.rd (Nat.le_refl _) (by omega) (by omega) (by omega)
    rw [hX] at hC3
    obtain ⟨x0, x1, x2⟩ := hS3.cells
    go_wp2_with fail
    refine hC3.mono ?_
    rintro e w4 ⟨A4, c4, c4', rfl, ho4, hw4⟩
    have hS4 := hS3.below hw4
    have ha4 := ha3.below hw4
    have hb4 := hb3.below hw4
    have hX4 := hX3.below hw4
    have hZ4 : LI w w4 A4 c4' X := LI.of hS3.bel.size ho4
    clear hS3 hC3 hw4 ha3 hb3 hX3 ho4 x0 x1 x2
    have hC4 := sameInts_any X X A3 A4 X.length c3' X.length c4' w4.heap.size w4 rfl rfl hX4.rd hZ4.rd (by omega) (by omega)
    rw [beq_self_list] at hC4
    go_wp2_with fail
    refine hC4.mono ?_
    rintro e w5 ⟨rfl, hw5⟩
    have hS5 := hS4.below hw5
    have ha5 := ha4.below hw5
    have hb5 := hb4.below hw5
    have hX5 := hX4.below hw5
    clear hS4 hC4 hw5 ha4 hb4 hX4 hZ4 
    rcases hXc with rfl | ⟨hOK, e1, e2, e3, hsum⟩
    ·
      have hbel := hS5.bel
      clear hS5 ha5 hb5 hX5
      go_wp2_with fail
      refine (alive_any _).mono ?_
      rintro e w6 ⟨rfl, hw6⟩
      go_wp2_with fail
      go_ret
      exact ⟨rfl, hbel.trans (hw6.mono hbel.size)⟩
    · by_cases hX0 : X.length = 0
      · obtain rfl := List.eq_nil_of_length_eq_zero hX0
        have hbel := hS5.bel
        clear hS5 ha5 hb5 hX5
        go_wp2_with fail
        refine (alive_any _).mono ?_
        rintro e w6 ⟨rfl, hw6⟩
        go_wp2_with fail
        go_ret
        exact ⟨rfl, hbel.trans (hw6.mono hbel.size)⟩
      · have hX0d : ((X.length : Int) == 0) = false := by rw [beq_eq_false_iff_ne]; omega
        have E1 := Lib.hid e1
        have E2 := Lib.hid e2
        have E3 := Lib.hid e3
        have HSUM := Lib.hid hsum
        have hlen : ((Y.length : Int) != (X.length : Int)) = false := by rw [bne_eq_false_iff_eq]; omega
        have hYl : Y.length ≤ 99 := by omega
        clear hX0 e1 e2 e3 hsum
        have hC5 := highI_any W T A2 bs.length c2 w5.heap.size bs a Da a.length da b Db b.length db w5 rfl rfl rfl hS5.rd ha5.rd hb5.rd (Nat.le_refl _) (by omega) (by omega) (by omega)
        rw [hY] at hC5
        obtain ⟨x0, x1, x2⟩ := hS5.cells
        go_wp2_with fail
        refine hC5.mono ?_
        rintro e w6 ⟨A6, c6, c6', rfl, ho6, hw6⟩
        have hS6 := hS5.below hw6
        have ha6 := ha5.below hw6
        have hb6 := hb5.below hw6
        have hX6 := hX5.below hw6
        have hY6 : LI w w6 A6 c6' Y := LI.of hS5.bel.size ho6
        clear hS5 hC5 hw6 ha5 hb5 hX5 ho6 x0 x1 x2
        go_upto_region 13 with fail
        go_loopg [8] X.length (fun r s8 wr => ∃ j : Nat, j + r = X.length ∧ s8 = .int .i64 (j : Nat) ∧ LS w wr x W T A2 c2 bs ∧ LI w wr Da da a ∧ LI w wr Db db b ∧ LI w wr A3 c3' X ∧ LI w wr A6 c6' Y)
        case atStart => exact ⟨0, by omega, rfl, hS6, ha6, hb6, hX6, hY6⟩
        case round =>
          clear hS6 ha6 hb6 hX6 hY6
          obtain ⟨j, hj, rfl, hS, ha, hb', hXX, hYY⟩ := hrel
          have HJ := Lib.hid hj
          clear hj
          by_cases hlt : j < X.length
          · have j1 : j < Y.length := by rw [E1.out]; exact hlt
            have j2 : j < a.length := by rw [E2.out]; exact hlt
            have j3 : j < b.length := by rw [E3.out]; exact hlt
            obtain ⟨g1, hg1, d1⟩ := ha.cell j2
            obtain ⟨g2, hg2, d2⟩ := hb'.cell j3
            obtain ⟨g3, hg3, d3⟩ := hXX.cell hlt
            obtain ⟨g4, hg4, d4⟩ := hYY.cell j1
            subst hg1
            subst hg2
            subst hg3
            subst hg4
            have hs := HSUM.out j hlt
            generalize a.getD j 0 = z1 at *
            generalize b.getD j 0 = z2 at *
            generalize X.getD j 0 = z3 at *
            generalize Y.getD j 0 = z4 at *
            obtain ⟨sm, hsm⟩ : ∃ sm, IntKind.i64.wrap (z1 + z2) = sm := ⟨_, rfl⟩
            have hsm2 : IntKind.i64.wrap (z3 + z4) = sm := by rw [hs]; exact hsm
            have hne : (sm != sm) = false := by simp
            clear hs
            go_wp2
            go_quiet (fail)
            go_wp2_with fail
            go_roundg (X.length - (j + 1))
            case measure => have := HJ.out; omega
            case rel =>
              have hbd := below_drewN (Below.refl wr.heap.size wr) nq
              exact ⟨j + 1, by have := HJ.out; omega, by go_num, hS.below hbd, ha.below hbd, hb'.below hbd, hXX.below hbd, hYY.below hbd⟩
          · obtain rfl : j = X.length := by have := HJ.out; omega
            have hC := hokI_any W T A2 bs.length c2 wr.heap.size bs X A3 X.length c3' wr rfl rfl hS.rd hXX.rd (Nat.le_refl _) (by omega) (by omega)
            rw [hOK] at hC
            obtain ⟨x0, x1, x2⟩ := hS.cells
            go_wp2_with fail
            refine hC.mono ?_
            rintro e w9 ⟨rfl, hb9⟩
            have hbel := (hS.below hb9).bel
            clear hS ha hb' hXX hYY hC hb9 x0 x1 x2
            go_wp2_with fail
            go_ret
            exact ⟨rfl, hbel⟩

end Go.Proofs.Ytahpipcmgcambaa
