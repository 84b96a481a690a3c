/-
  YthepfpiphlfgnaaFnHeightSumW: the walk of FnHeightSum.
-/
import Derived.Test.YthepfpiphlfgnaaDkl
import Derived.Test.YthepfpiphlfgnaaLz
import Derived.Test.YthepfpiphlfgnaaCz
import Derived.Test.YthepfpiphlfgnaaTt
import Derived.BigRegion
namespace Go.Proofs.Ythepfpiphlfgnaa
open Go.RowKit
theorem mul_bd51 {t z : Int} (h : -1 ≤ t ∧ t ≤ 262144) (g : -51 ≤ z ∧ z ≤ 51) : -20000000 ≤ t * z ∧ t * z ≤ 20000000 := by
  rcases (show t = -1 ∨ 0 ≤ t by omega) with rfl | h0
  · omega
  · have a := Int.mul_le_mul_of_nonneg_left g.1 h0
    have b := Int.mul_le_mul_of_nonneg_left g.2 h0
    omega

set_option maxHeartbeats 4000000 in
set_option maxRecDepth 20000 in
theorem FnHeightSum_walk (w : World) (A : Option Addr) (n c : Nat) (zs : List Int) (hnc : n ≤ c) (hm : n ≤ maxLen) (_hl : zs.length = n) (hr : Reads w w.heap.size 1 A n (zs.map (Value.int .u8))) (hwz : ∀ z ∈ zs, (Lit.int .u8 z).wf = true) :
    Calls Try.prog 5 #[.slice A n c] w fun e w' => e = .returned (.bool true) ∧ Below w.heap.size w w' := by
  unfold maxLen at hm
  by_cases hb : 1048576 < n
  · go_enter Try.func5, Try.ntmps5
    go_wp2_with fail
    go_ret
    exact ⟨rfl, Below.refl _ _⟩
  · have hDR := hide (drawHeightSum_any A n c zs w hr hnc (by omega) hwz)
    clear hr hwz hm _hl
    go_enter Try.func5, Try.ntmps5
    go_wp2_with fail
    refine (unhide hDR).mono ?_
    rintro e w1 ⟨W, T, A2, c2, bs, k, rfl, hreg, hk1, hk2, hB1⟩
    clear hDR
    have hS2 := LS.start (W := W) (T := T) hB1 hreg
    clear hreg hB1 
    go_upto_region 4 with fail
    generalize w1.alloc (.cells #[.int .i64 W, .int .i64 T, .slice A2 bs.length c2] 25) = w2 at *
    generalize w1.heap.size = x at *
    have hbs := hS2.len
    have hll := exV_len (f := min) (W := W) (T := T) (bs := bs)
    have hhl := exV_len (f := max) (W := W) (T := T) (bs := bs)
    have hno := hsmV_ex (W := W) (T := T) (bs := bs) (k := k)
    have hyes := law_heightSum (W := W) (T := T) (bs := bs) (k := k)
    obtain ⟨eb, heb⟩ : ∃ eb, exB W T bs = eb := ⟨_, rfl⟩
    obtain ⟨tm, htm⟩ : ∃ tm, tmI W T bs = tm := ⟨_, rfl⟩
    have hbdm : -1 ≤ tm ∧ tm ≤ 262144 := by rw [← htm]; exact tmI_bd W T bs
    obtain ⟨n, hn⟩ : ∃ n, hsmV W T bs k = n := ⟨_, rfl⟩
    obtain ⟨Lo, hLo⟩ : ∃ Lo, exV min W T bs = Lo := ⟨_, rfl⟩
    obtain ⟨Hi, hHi⟩ : ∃ Hi, exV max W T bs = Hi := ⟨_, rfl⟩
    have hPl := htsOf_len (W := W) (T := T) (bs := bs) (L := Lo)
    have hQl := htsOf_len (W := W) (T := T) (bs := bs) (L := Hi)
    rw [hLo] at hll hyes
    rw [hHi] at hhl hyes
    obtain ⟨P, hP⟩ : ∃ P, htsOf W T bs Lo = P := ⟨_, rfl⟩
    obtain ⟨Q, hQ⟩ : ∃ Q, htsOf W T bs Hi = Q := ⟨_, rfl⟩
    rw [heb, hn] at hno hyes
    rw [htm, hP, hQ] at hyes
    rw [hP] at hPl
    rw [hQ] at hQl
    have hC2 := heightSumI_any W T A2 bs.length c2 w2.heap.size bs k w2 rfl hS2.rd (Nat.le_refl _) (by omega)
    rw [hn] at hC2
    obtain ⟨x0, x1, x2⟩ := hS2.cells
    go_wp2_with fail
    refine hC2.mono ?_
    rintro e w3 ⟨rfl, hw3⟩
    have hS3 := hS2.below hw3
    clear hS2 hC2 hw3  x0 x1 x2
    have hC3 := heightSumS_any W T A2 bs.length c2 w3.heap.size bs k w3 rfl hS3.rd (Nat.le_refl _) (by omega)
    rw [hn] at hC3
    obtain ⟨x0, x1, x2⟩ := hS3.cells
    go_wp2_with fail
    refine hC3.mono ?_
    rintro e w4 ⟨rfl, hw4⟩
    have hS4 := hS3.below hw4
    clear hS3 hC3 hw4  x0 x1 x2
    have hnn : (n != n) = false := by simp
    have hC4 := lowestI_any W T A2 bs.length c2 w4.heap.size bs w4 rfl hS4.rd (Nat.le_refl _) (by omega)
    rw [hLo, heb] at hC4
    obtain ⟨x0, x1, x2⟩ := hS4.cells
    go_wp2_with fail
    refine hC4.mono ?_
    rintro e w5 ⟨A5, c5, c5', rfl, ho5, hw5⟩
    have hS5 := hS4.below hw5
    have hLo5 : LI w w5 A5 c5' Lo := LI.of hS4.bel.size ho5
    clear hS4 hC4 hw5  ho5 x0 x1 x2
    cases eb with
    | false =>
      have hno := hno rfl
      clear hyes
      rcases hno with rfl | rfl
      ·
        have hbel := hS5.bel
        clear hS5 hLo5
        go_wp2_with fail
        refine (alive_any _).mono ?_
        rintro e w6 ⟨rfl, hw6⟩
        go_wp2_with fail
        go_ret
        exact ⟨rfl, hbel.trans (hw6.mono hbel.size)⟩
      ·
        have hbel := hS5.bel
        clear hS5 hLo5
        go_wp2_with fail
        refine (alive_any _).mono ?_
        rintro e w6 ⟨rfl, hw6⟩
        go_wp2_with fail
        go_ret
        exact ⟨rfl, hbel.trans (hw6.mono hbel.size)⟩
    | true =>
      by_cases hm : n = -1000000
      ·
        clear hyes hno
        subst hm
        have hbel := hS5.bel
        clear hS5 hLo5
        go_wp2_with fail
        refine (alive_any _).mono ?_
        rintro e w6 ⟨rfl, hw6⟩
        go_wp2_with fail
        go_ret
        exact ⟨rfl, hbel.trans (hw6.mono hbel.size)⟩
      ·
        have hmd : (n == -1000000) = false := by rw [beq_eq_false_iff_ne]; exact hm
        obtain ⟨q, rfl, q1, q2, q3, q4⟩ := hyes rfl hm
        clear hno hyes
        have l1 : decide ((P.length : Int) ≤ (q : Int)) = false := decide_eq_false (by omega)
        have l2 : decide ((Q.length : Int) ≤ (q : Int)) = false := decide_eq_false (by omega)
        have hC5 := highestI_any W T A2 bs.length c2 w5.heap.size bs w5 rfl hS5.rd (Nat.le_refl _) (by omega)
        rw [hHi, heb] at hC5
        obtain ⟨x0, x1, x2⟩ := hS5.cells
        go_wp2_with fail
        refine hC5.mono ?_
        rintro e w6 ⟨A6, c6, c6', rfl, ho6, hw6⟩
        have hS6 := hS5.below hw6
        have hLo6 := hLo5.below hw6
        have hHi6 : LI w w6 A6 c6' Hi := LI.of hS5.bel.size ho6
        clear hS5 hC5 hw6 hLo5 ho6 x0 x1 x2
        have hC6 := heightsOfI_any W T A2 bs.length c2 w6.heap.size bs Lo A5 Lo.length c5' w6 rfl rfl hS6.rd hLo6.rd (Nat.le_refl _) (by omega) (by omega)
        rw [hP] at hC6
        obtain ⟨x0, x1, x2⟩ := hS6.cells
        go_wp2_with fail
        refine hC6.mono ?_
        rintro e w7 ⟨A7, c7', rfl, _, ho7, hw7⟩
        have hS7 := hS6.below hw7
        have hHi7 := hHi6.below hw7
        have hP7 : LI w w7 A7 c7' P := LI.of hS6.bel.size ho7
        clear hS6 hC6 hw7 hLo6 hHi6 ho7 x0 x1 x2
        have hC7 := heightsOfI_any W T A2 bs.length c2 w7.heap.size bs Hi A6 Hi.length c6' w7 rfl rfl hS7.rd hHi7.rd (Nat.le_refl _) (by omega) (by omega)
        rw [hQ] at hC7
        obtain ⟨x0, x1, x2⟩ := hS7.cells
        go_wp2_with fail
        refine hC7.mono ?_
        rintro e w8 ⟨A8, c8', rfl, _, ho8, hw8⟩
        have hS8 := hS7.below hw8
        have hP8 := hP7.below hw8
        have hQ8 : LI w w8 A8 c8' Q := LI.of hS7.bel.size ho8
        clear hS7 hC7 hw8 hHi7 hP7 ho8 x0 x1 x2
        have hC8 := tilingsManyI_any W T A2 bs.length c2 w8.heap.size bs w8 rfl hS8.rd (Nat.le_refl _) (by omega)
        rw [htm] at hC8
        obtain ⟨x0, x1, x2⟩ := hS8.cells
        go_wp2_with fail
        refine hC8.mono ?_
        rintro e w9 ⟨rfl, hw9⟩
        have hS9 := hS8.below hw9
        have hP9 := hP8.below hw9
        have hQ9 := hQ8.below hw9
        clear hS8 hC8 hw9 hP8 hQ8 x0 x1 x2
        obtain ⟨g1, hg1, d1⟩ := hP9.cell q1
        obtain ⟨g2, hg2, d2⟩ := hQ9.cell q2
        subst hg1
        subst hg2
        have Q1 := Lib.hid q1
        have Q2 := Lib.hid q2
        have hbel := hS9.bel
        clear hS9 hP9 hQ9 q1 q2
        generalize P.getD q 0 = lo at *
        generalize Q.getD q 0 = hi at *
        by_cases h99 : lo = 99
        · have hn0 := q3 h99
          subst h99 hn0
          go_wp2_with fail
          go_ret
          exact ⟨rfl, hbel⟩
        · obtain ⟨r1, r2, r3, r4, r5, r6, r7⟩ := q4 h99
          have h99d : (lo == 99) = false := by rw [beq_eq_false_iff_ne]; exact h99
          have u1 := mul_bd51 hbdm ⟨r4, r5⟩
          have u2 := mul_bd51 hbdm ⟨r6, r7⟩
          clear q3 q4 r4 r5 r6 r7 h99
          obtain ⟨u, hu⟩ : ∃ u, tm * lo = u := ⟨_, rfl⟩
          obtain ⟨v, hv⟩ : ∃ v, tm * hi = v := ⟨_, rfl⟩
          rw [hu] at r1 r3 u1
          rw [hv] at r2 u2
          have x1 : IntKind.i64.wrap u = u := IntWalk.i64_in _ (by omega)
          have x2 : IntKind.i64.wrap v = v := IntWalk.i64_in _ (by omega)
          have x3 : IntKind.i64.wrap (n - u) = n - u := IntWalk.i64_in _ (by omega)
          have x4 : (n - u).tmod 4 = 0 := by rw [Int.tmod_eq_emod_of_nonneg (by omega)]; exact r3
          have x5 : decide (u ≤ n) = true := decide_eq_true r1
          have x6 : decide (n ≤ v) = true := decide_eq_true r2
          clear r3
          go_wp2_with fail
          go_ret
          exact ⟨rfl, hbel⟩

end Go.Proofs.Ythepfpiphlfgnaa
