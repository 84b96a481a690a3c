/-
  YtahpipcmgcambaaFnHeightsHighW: the walk of FnHeightsHigh.
-/
import Derived.Test.YtahpipcmgcambaaDv
import Derived.Test.YtahpipcmgcambaaLw
import Derived.Test.YtahpipcmgcambaaLz
import Derived.Test.YtahpipcmgcambaaHx
namespace Go.Proofs.Ytahpipcmgcambaa
open Go.RowKit
theorem highL_cases {W T : Int} {bs : List Bool} {a b : List Int} : highL W T bs a b = [] ∨ (hokB W T bs (highL W T bs a b) = true ∧ highL W T bs b a = highL W T bs a b) := by
  cases h1 : hokB W T bs a with
  | false => exact .inl (by unfold highL; rw [h1]; simp)
  | true =>
    cases h2 : hokB W T bs b with
    | false => exact .inl (by unfold highL; rw [h2]; simp)
    | true =>
      obtain ⟨_, h4, _⟩ := law_low h1 h2
      have e : highL W T bs a b = List.zipWith max a b := by unfold highL; rw [h1, h2]; simp
      have e2 : highL W T bs b a = List.zipWith max b a := by unfold highL; rw [h1, h2]; simp
      exact .inr ⟨by rw [e]; exact h4, by rw [e, e2]; exact zip_comm (fun x y => by omega) b a⟩

set_option maxHeartbeats 4000000 in
set_option maxRecDepth 20000 in
theorem FnHeightsHigh_walk (w : World) (A : Option Addr) (n c : Nat) (zs : List Int) (hnc : n ≤ c) (hm : n ≤ maxLen) (_hl : zs.length = n) (hr : Reads w w.heap.size 1 A n (zs.map (Value.int .u8))) (hwz : ∀ z ∈ zs, (Lit.int .u8 z).wf = true) :
    Calls Try.prog 5 #[.slice A n c] w fun e w' => e = .returned (.bool true) ∧ Below w.heap.size w w' := by
  unfold maxLen at hm
  by_cases hb : 1048576 < n
  · go_enter Try.func5, Try.ntmps5
    go_wp2_with fail
    go_ret
    exact ⟨rfl, Below.refl _ _⟩
  · have hDR := hide (drawHeightsHigh_any A n c zs w hr hnc (by omega) hwz)
    clear hr hwz hm _hl
    go_enter Try.func5, Try.ntmps5
    go_wp2_with fail
    refine (unhide hDR).mono ?_
    rintro e w1 ⟨W, T, A2, c2, Da, da, Db, db, bs, a, b, rfl, hreg, ha1, hna, hb1, hnb, hB1⟩
    clear hDR
    have hS2 := LS.start (W := W) (T := T) hB1 hreg
    have ha2 : LI w (w1.alloc (.cells #[.int .i64 W, .int .i64 T, .slice A2 bs.length c2] 25)) Da da a := ha1.below ((Below.refl _ _).alloc (Nat.le_refl _) _)
    have hb2 : LI w (w1.alloc (.cells #[.int .i64 W, .int .i64 T, .slice A2 bs.length c2] 25)) Db db b := hb1.below ((Below.refl _ _).alloc (Nat.le_refl _) _)
    clear hreg hB1 ha1 hb1
    go_upto_region 4 with fail
    generalize w1.alloc (.cells #[.int .i64 W, .int .i64 T, .slice A2 bs.length c2] 25) = w2 at *
    generalize w1.heap.size = x at *
    have hbs := hS2.len
    have hXl : (highL W T bs a b).length ≤ a.length := highL_len
    have hXc := highL_cases (W := W) (T := T) (bs := bs) (a := a) (b := b)
    obtain ⟨Z, hZ⟩ : ∃ Z, highL W T bs b a = Z := ⟨_, rfl⟩
    obtain ⟨X, hX⟩ : ∃ X, highL W T bs a b = X := ⟨_, rfl⟩
    rw [hX] at hXl hXc
    have hC2 := highI_any W T A2 bs.length c2 w2.heap.size bs a Da a.length da b Db b.length db w2 rfl rfl rfl hS2.rd ha2.rd hb2.rd (Nat.le_refl _) (by omega) (by omega) (by omega)
    rw [hX] at hC2
    obtain ⟨x0, x1, x2⟩ := hS2.cells
    go_wp2_with fail
    refine hC2.mono ?_
    rintro e w3 ⟨A3, c3, c3', rfl, ho3, hw3⟩
    have hS3 := hS2.below hw3
    have ha3 := ha2.below hw3
    have hb3 := hb2.below hw3
    have hX3 : LI w w3 A3 c3' X := LI.of hS2.bel.size ho3
    clear hS2 hC2 hw3 ha2 hb2 ho3 x0 x1 x2
    have hC3 := highS_any W T A2 bs.length c2 w3.heap.size bs a Da a.length da b Db b.length db w3 rfl rfl rfl hS3.rd ha3.rd hb3.rd (Nat.le_refl _) (by omega) (by omega) (by omega)
    rw [hX] at hC3
    obtain ⟨x0, x1, x2⟩ := hS3.cells
    go_wp2_with fail
    refine hC3.mono ?_
    rintro e w4 ⟨A4, c4, c4', rfl, ho4, hw4⟩
    have hS4 := hS3.below hw4
    have ha4 := ha3.below hw4
    have hb4 := hb3.below hw4
    have hX4 := hX3.below hw4
    have hY4 : LI w w4 A4 c4' X := LI.of hS3.bel.size ho4
    clear hS3 hC3 hw4 ha3 hb3 hX3 ho4 x0 x1 x2
    have hC4 := sameInts_any X X A3 A4 X.length c3' X.length c4' w4.heap.size w4 rfl rfl hX4.rd hY4.rd (by omega) (by omega)
    rw [beq_self_list] at hC4
    go_wp2_with fail
    refine hC4.mono ?_
    rintro e w5 ⟨rfl, hw5⟩
    have hS5 := hS4.below hw5
    have ha5 := ha4.below hw5
    have hb5 := hb4.below hw5
    have hX5 := hX4.below hw5
    clear hS4 hC4 hw5 ha4 hb4 hX4 hY4 
    rcases hXc with rfl | ⟨hOK, hcm⟩
    ·
      have hbel := hS5.bel
      clear hS5 ha5 hb5 hX5
      go_wp2_with fail
      refine (alive_any _).mono ?_
      rintro e w6 ⟨rfl, hw6⟩
      go_wp2_with fail
      go_ret
      exact ⟨rfl, hbel.trans (hw6.mono hbel.size)⟩
    · rw [hZ] at hcm
      have hcm := hcm.symm
      subst hcm
      by_cases hX0 : X.length = 0
      · obtain rfl := List.eq_nil_of_length_eq_zero hX0
        have hbel := hS5.bel
        clear hS5 ha5 hb5 hX5
        go_wp2_with fail
        refine (alive_any _).mono ?_
        rintro e w6 ⟨rfl, hw6⟩
        go_wp2_with fail
        go_ret
        exact ⟨rfl, hbel.trans (hw6.mono hbel.size)⟩
      · have hX0d : ((X.length : Int) == 0) = false := by rw [beq_eq_false_iff_ne]; omega
        clear hX0
        have hC5 := hokI_any W T A2 bs.length c2 w5.heap.size bs X A3 X.length c3' w5 rfl rfl hS5.rd hX5.rd (Nat.le_refl _) (by omega) (by omega)
        rw [hOK] at hC5
        obtain ⟨x0, x1, x2⟩ := hS5.cells
        go_wp2_with fail
        refine hC5.mono ?_
        rintro e w6 ⟨rfl, hw6⟩
        have hS6 := hS5.below hw6
        have ha6 := ha5.below hw6
        have hb6 := hb5.below hw6
        have hX6 := hX5.below hw6
        clear hS5 hC5 hw6 ha5 hb5 hX5 x0 x1 x2
        have hC6 := highI_any W T A2 bs.length c2 w6.heap.size bs b Db b.length db a Da a.length da w6 rfl rfl rfl hS6.rd hb6.rd ha6.rd (Nat.le_refl _) (by omega) (by omega) (by omega)
        rw [hZ] at hC6
        obtain ⟨x0, x1, x2⟩ := hS6.cells
        go_wp2_with fail
        refine hC6.mono ?_
        rintro e w7 ⟨A7, c7, c7', rfl, ho7, hw7⟩
        have hS7 := hS6.below hw7
        have ha7 := ha6.below hw7
        have hb7 := hb6.below hw7
        have hX7 := hX6.below hw7
        have hQ7 : LI w w7 A7 c7' X := LI.of hS6.bel.size ho7
        clear hS6 hC6 hw7 ha6 hb6 hX6 ho7 x0 x1 x2
        have hC7 := sameInts_any X X A7 A3 X.length c7' X.length c3' w7.heap.size w7 rfl rfl hQ7.rd hX7.rd (by omega) (by omega)
        rw [beq_self_list] at hC7
        go_wp2_with fail
        refine hC7.mono ?_
        rintro e w8 ⟨rfl, hw8⟩
        have hS8 := hS7.below hw8
        have ha8 := ha7.below hw8
        have hb8 := hb7.below hw8
        have hX8 := hX7.below hw8
        have hQ8 := hQ7.below hw8
        clear hS7 hC7 hw8 ha7 hb7 hX7 hQ7 
        have hbel := hS8.bel
        clear hS8 ha8 hb8 hX8 hQ8
        go_wp2_with fail
        go_ret
        exact ⟨rfl, hbel⟩

end Go.Proofs.Ytahpipcmgcambaa
