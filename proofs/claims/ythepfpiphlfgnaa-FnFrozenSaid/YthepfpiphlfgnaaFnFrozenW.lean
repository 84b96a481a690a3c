/-
  YthepfpiphlfgnaaFnFrozenW: the walk of FnFrozen.
-/
import Derived.Test.YthepfpiphlfgnaaDt
import Derived.Test.YthepfpiphlfgnaaLz
import Derived.Test.YthepfpiphlfgnaaCz
namespace Go.Proofs.Ythepfpiphlfgnaa
open Go.RowKit

set_option maxHeartbeats 4000000 in
set_option maxRecDepth 20000 in
theorem FnFrozen_walk (w : World) (A : Option Addr) (n c : Nat) (zs : List Int) (hnc : n ≤ c) (hm : n ≤ maxLen) (_hl : zs.length = n) (hr : Reads w w.heap.size 1 A n (zs.map (Value.int .u8))) (hwz : ∀ z ∈ zs, (Lit.int .u8 z).wf = true) :
    Calls Try.prog 7 #[.slice A n c] w fun e w' => e = .returned (.bool true) ∧ Below w.heap.size w w' := by
  unfold maxLen at hm
  by_cases hb : 1048576 < n
  · go_enter Try.func7, Try.ntmps7
    go_wp2_with fail
    go_ret
    exact ⟨rfl, Below.refl _ _⟩
  · have hDR := hide (drawFrozen_any A n c zs w hr hnc (by omega) hwz)
    clear hr hwz hm _hl
    go_enter Try.func7, Try.ntmps7
    go_wp2_with fail
    refine (unhide hDR).mono ?_
    rintro e w1 ⟨W, T, A2, c2, Da, da, bs, a, rfl, hreg, ha1, hna, hB1⟩
    clear hDR
    have hS2 := LS.start (W := W) (T := T) hB1 hreg
    have ha2 : LI w (w1.alloc (.cells #[.int .i64 W, .int .i64 T, .slice A2 bs.length c2] 25)) Da da a := ha1.below ((Below.refl _ _).alloc (Nat.le_refl _) _)
    clear hreg hB1 ha1
    go_upto_region 4 with fail
    generalize w1.alloc (.cells #[.int .i64 W, .int .i64 T, .slice A2 bs.length c2] 25) = w2 at *
    generalize w1.heap.size = x at *
    have hbs := hS2.len
    obtain ⟨fb, hfb⟩ : ∃ fb, frzB W T bs a = fb := ⟨_, rfl⟩
    obtain ⟨V, hV⟩ : ∃ V, fsV W T bs a = V := ⟨_, rfl⟩
    obtain ⟨sb, hsb⟩ : ∃ sb, simpleB W T bs = sb := ⟨_, rfl⟩
    obtain ⟨tm, htm⟩ : ∃ tm, tmI W T bs = tm := ⟨_, rfl⟩
    have hyes : fb = true → V = [] := fun h => by rw [← hV]; exact (frzB_yes (hfb.trans h)).2
    have hone : fb = true → sb = true → tm = 1 := fun h h2 => by rw [← htm]; exact law_frozen (frzB_yes (hfb.trans h)).1 (frzB_yes (hfb.trans h)).2 (hsb.trans h2)
    have hC2 := frozenI_any W T A2 bs.length c2 w2.heap.size bs a Da a.length da w2 rfl rfl hS2.rd ha2.rd (Nat.le_refl _) (by omega) (by omega)
    rw [hfb] at hC2
    obtain ⟨x0, x1, x2⟩ := hS2.cells
    go_wp2_with fail
    refine hC2.mono ?_
    rintro e w3 ⟨rfl, hw3⟩
    have hS3 := hS2.below hw3
    have ha3 := ha2.below hw3
    clear hS2 hC2 hw3 ha2 x0 x1 x2
    have hC3 := frozenS_any W T A2 bs.length c2 w3.heap.size bs a Da a.length da w3 rfl rfl hS3.rd ha3.rd (Nat.le_refl _) (by omega) (by omega)
    rw [hfb] at hC3
    obtain ⟨x0, x1, x2⟩ := hS3.cells
    go_wp2_with fail
    refine hC3.mono ?_
    rintro e w4 ⟨rfl, hw4⟩
    have hS4 := hS3.below hw4
    have ha4 := ha3.below hw4
    clear hS3 hC3 hw4 ha3 x0 x1 x2
    cases fb with
    | false =>
      clear hyes hone
      have hbel := hS4.bel
      clear hS4 ha4
      go_wp2_with fail
      refine (alive_any _).mono ?_
      rintro e w5 ⟨rfl, hw5⟩
      go_wp2_with fail
      go_ret
      exact ⟨rfl, hbel.trans (hw5.mono hbel.size)⟩
    | true =>
      replace hyes := hyes (by first | rfl | trivial)
      replace hone := hone (by first | rfl | trivial)
      subst hyes
      have hC4 := SimpleI_any W T A2 bs.length c2 w4.heap.size bs w4 hS4.rd (Nat.le_refl _) (by omega)
      rw [hsb] at hC4
      obtain ⟨x0, x1, x2⟩ := hS4.cells
      go_wp2_with fail
      refine hC4.mono ?_
      rintro e w5 ⟨rfl, hw5⟩
      have hS5 := hS4.below hw5
      have ha5 := ha4.below hw5
      clear hS4 hC4 hw5 ha4 x0 x1 x2
      cases sb with
      | false =>
        clear hone
        have hC5 := flipsOfI_any W T A2 bs.length c2 w5.heap.size bs a Da a.length da w5 rfl rfl hS5.rd ha5.rd (Nat.le_refl _) (by omega) (by omega)
        rw [hV] at hC5
        obtain ⟨x0, x1, x2⟩ := hS5.cells
        go_wp2_with fail
        refine hC5.mono ?_
        rintro e w6 ⟨A6, c6, c6', rfl, ho6, hw6⟩
        have hS6 := hS5.below hw6
        have ha6 := ha5.below hw6
        clear hS5 hC5 hw6 ha5 ho6 x0 x1 x2
        have hbel := hS6.bel
        clear hS6 ha6
        go_wp2_with fail
        refine (alive_any _).mono ?_
        rintro e w7 ⟨rfl, hw7⟩
        go_wp2_with fail
        go_ret
        exact ⟨rfl, hbel.trans (hw7.mono hbel.size)⟩
      | true =>
        replace hone := hone (by first | rfl | trivial)
        subst hone
        have hC5 := tilingsManyI_any W T A2 bs.length c2 w5.heap.size bs w5 rfl hS5.rd (Nat.le_refl _) (by omega)
        rw [htm] at hC5
        obtain ⟨x0, x1, x2⟩ := hS5.cells
        go_wp2_with fail
        refine hC5.mono ?_
        rintro e w6 ⟨rfl, hw6⟩
        have hS6 := hS5.below hw6
        have ha6 := ha5.below hw6
        clear hS5 hC5 hw6 ha5 x0 x1 x2
        have hC6 := flipsOfI_any W T A2 bs.length c2 w6.heap.size bs a Da a.length da w6 rfl rfl hS6.rd ha6.rd (Nat.le_refl _) (by omega) (by omega)
        rw [hV] at hC6
        obtain ⟨x0, x1, x2⟩ := hS6.cells
        go_wp2_with fail
        refine hC6.mono ?_
        rintro e w7 ⟨A7, c7, c7', rfl, ho7, hw7⟩
        have hS7 := hS6.below hw7
        have ha7 := ha6.below hw7
        clear hS6 hC6 hw7 ha6 ho7 x0 x1 x2
        have hbel := hS7.bel
        clear hS7 ha7
        go_wp2_with fail
        refine (alive_any _).mono ?_
        rintro e w8 ⟨rfl, hw8⟩
        go_wp2_with fail
        go_ret
        exact ⟨rfl, hbel.trans (hw8.mono hbel.size)⟩

end Go.Proofs.Ythepfpiphlfgnaa
