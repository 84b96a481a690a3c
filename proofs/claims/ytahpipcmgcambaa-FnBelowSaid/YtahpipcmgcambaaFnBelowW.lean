/-
  YtahpipcmgcambaaFnBelowW: the walk of FnBelow.
-/
import Derived.Test.YtahpipcmgcambaaDv
import Derived.Test.YtahpipcmgcambaaLw
import Derived.Test.YtahpipcmgcambaaLz
namespace Go.Proofs.Ytahpipcmgcambaa
open Go.RowKit

set_option maxHeartbeats 4000000 in
set_option maxRecDepth 20000 in
theorem FnBelow_walk (w : World) (A : Option Addr) (n c : Nat) (zs : List Int) (hnc : n ≤ c) (hm : n ≤ maxLen) (_hl : zs.length = n) (hr : Reads w w.heap.size 1 A n (zs.map (Value.int .u8))) (hwz : ∀ z ∈ zs, (Lit.int .u8 z).wf = true) :
    Calls Try.prog 8 #[.slice A n c] w fun e w' => e = .returned (.bool true) ∧ Below w.heap.size w w' := by
  unfold maxLen at hm
  by_cases hb : 1048576 < n
  · go_enter Try.func8, Try.ntmps8
    go_wp2_with fail
    go_ret
    exact ⟨rfl, Below.refl _ _⟩
  · have hDR := hide (drawBelow_any A n c zs w hr hnc (by omega) hwz)
    clear hr hwz hm _hl
    go_enter Try.func8, Try.ntmps8
    go_wp2_with fail
    refine (unhide hDR).mono ?_
    rintro e w1 ⟨W, T, A2, c2, Da, da, Db, db, bs, a, b, rfl, hreg, ha1, hna, hb1, hnb, hB1⟩
    clear hDR
    have hS2 := LS.start (W := W) (T := T) hB1 hreg
    have ha2 : LI w (w1.alloc (.cells #[.int .i64 W, .int .i64 T, .slice A2 bs.length c2] 25)) Da da a := ha1.below ((Below.refl _ _).alloc (Nat.le_refl _) _)
    have hb2 : LI w (w1.alloc (.cells #[.int .i64 W, .int .i64 T, .slice A2 bs.length c2] 25)) Db db b := hb1.below ((Below.refl _ _).alloc (Nat.le_refl _) _)
    clear hreg hB1 ha1 hb1
    go_upto_region 4 with fail
    generalize w1.alloc (.cells #[.int .i64 W, .int .i64 T, .slice A2 bs.length c2] 25) = w2 at *
    generalize w1.heap.size = x at *
    have hbs := hS2.len
    obtain ⟨ok, hok⟩ : ∃ ok, belowB W T bs a b = ok := ⟨_, rfl⟩
    obtain ⟨tb, htb⟩ : ∃ tb, twoB W T bs a b = tb := ⟨_, rfl⟩
    have hXl := twoV_len36 keeps_min (W := W) (T := T) (bs := bs) (a := a) (b := b)
    obtain ⟨l1, l2, l3⟩ := law_below (W := W) (T := T) (bs := bs) (a := a) (b := b)
    obtain ⟨X, hX⟩ : ∃ X, twoV min W T bs a b = X := ⟨_, rfl⟩
    rw [hok] at l1 l2 l3
    rw [htb] at l2 l3
    rw [hX] at hXl l2
    have hC2 := belowI_any W T A2 bs.length c2 w2.heap.size bs a Da a.length da b Db b.length db w2 rfl rfl rfl hS2.rd ha2.rd hb2.rd (Nat.le_refl _) (by omega) (by omega) (by omega)
    rw [hok] at hC2
    obtain ⟨x0, x1, x2⟩ := hS2.cells
    go_wp2_with fail
    refine hC2.mono ?_
    rintro e w3 ⟨rfl, hw3⟩
    have hS3 := hS2.below hw3
    have ha3 := ha2.below hw3
    have hb3 := hb2.below hw3
    clear hS2 hC2 hw3 ha2 hb2 x0 x1 x2
    have hC3 := belowS_any W T A2 bs.length c2 w3.heap.size bs a Da a.length da b Db b.length db w3 rfl rfl rfl hS3.rd ha3.rd hb3.rd (Nat.le_refl _) (by omega) (by omega) (by omega)
    rw [hok] at hC3
    obtain ⟨x0, x1, x2⟩ := hS3.cells
    go_wp2_with fail
    refine hC3.mono ?_
    rintro e w4 ⟨rfl, hw4⟩
    have hS4 := hS3.below hw4
    have ha4 := ha3.below hw4
    have hb4 := hb3.below hw4
    clear hS3 hC3 hw4 ha3 hb3 x0 x1 x2
    have hC4 := tilingLowI_any W T A2 bs.length c2 w4.heap.size bs a Da a.length da b Db b.length db w4 rfl rfl rfl hS4.rd ha4.rd hb4.rd (Nat.le_refl _) (by omega) (by omega) (by omega)
    rw [hX, htb] at hC4
    obtain ⟨x0, x1, x2⟩ := hS4.cells
    go_wp2_with fail
    refine hC4.mono ?_
    rintro e w5 ⟨A5, c5, c5', rfl, ho5, hw5⟩
    have hS5 := hS4.below hw5
    have ha5 := ha4.below hw5
    have hb5 := hb4.below hw5
    have hX5 : LI w w5 A5 c5' X := LI.of hS4.bel.size ho5
    clear hS4 hC4 hw5 ha4 hb4 ho5 x0 x1 x2
    cases ok with
    | true =>
      have ht := l3 rfl
      subst ht
      have hsl : (X == a) = true := (l2 rfl).symm
      obtain ⟨lb, hlb⟩ : ∃ lb, belowB W T bs b a = lb := ⟨_, rfl⟩
      have hab : lb = true → (a == b) = true := fun h => by rw [l1 rfl (hlb.trans h)]; exact beq_self_list b
      clear l1 l2 l3
      have hC5 := belowI_any W T A2 bs.length c2 w5.heap.size bs b Db b.length db a Da a.length da w5 rfl rfl rfl hS5.rd hb5.rd ha5.rd (Nat.le_refl _) (by omega) (by omega) (by omega)
      rw [hlb] at hC5
      obtain ⟨x0, x1, x2⟩ := hS5.cells
      go_wp2_with fail
      refine hC5.mono ?_
      rintro e w6 ⟨rfl, hw6⟩
      have hS6 := hS5.below hw6
      have ha6 := ha5.below hw6
      have hb6 := hb5.below hw6
      have hX6 := hX5.below hw6
      clear hS5 hC5 hw6 ha5 hb5 hX5 x0 x1 x2
      cases lb with
      | true =>
        have hab := hab rfl
        have hC6 := sameInts_any a b Da Db a.length da b.length db w6.heap.size w6 rfl rfl ha6.rd hb6.rd (by omega) (by omega)
        rw [hab] at hC6
        go_wp2_with fail
        refine hC6.mono ?_
        rintro e w7 ⟨rfl, hw7⟩
        have hS7 := hS6.below hw7
        have ha7 := ha6.below hw7
        have hb7 := hb6.below hw7
        have hX7 := hX6.below hw7
        clear hS6 hC6 hw7 ha6 hb6 hX6 
        have hC7 := sameInts_any X a A5 Da X.length c5' a.length da w7.heap.size w7 rfl rfl hX7.rd ha7.rd (by omega) (by omega)
        rw [hsl] at hC7
        go_wp2_with fail
        refine hC7.mono ?_
        rintro e w8 ⟨rfl, hw8⟩
        have hS8 := hS7.below hw8
        have ha8 := ha7.below hw8
        have hb8 := hb7.below hw8
        have hX8 := hX7.below hw8
        clear hS7 hC7 hw8 ha7 hb7 hX7 
        have hbel := hS8.bel
        clear hS8 ha8 hb8 hX8
        go_wp2_with fail
        refine (alive_any _).mono ?_
        rintro e w9 ⟨rfl, hw9⟩
        go_wp2_with fail
        go_ret
        exact ⟨rfl, hbel.trans (hw9.mono hbel.size)⟩
      | false =>
        clear hab
        have hC6 := sameInts_any X a A5 Da X.length c5' a.length da w6.heap.size w6 rfl rfl hX6.rd ha6.rd (by omega) (by omega)
        rw [hsl] at hC6
        go_wp2_with fail
        refine hC6.mono ?_
        rintro e w7 ⟨rfl, hw7⟩
        have hS7 := hS6.below hw7
        have ha7 := ha6.below hw7
        have hb7 := hb6.below hw7
        have hX7 := hX6.below hw7
        clear hS6 hC6 hw7 ha6 hb6 hX6 
        have hbel := hS7.bel
        clear hS7 ha7 hb7 hX7
        go_wp2_with fail
        refine (alive_any _).mono ?_
        rintro e w8 ⟨rfl, hw8⟩
        go_wp2_with fail
        go_ret
        exact ⟨rfl, hbel.trans (hw8.mono hbel.size)⟩
    | false =>
      clear l1 l3
      cases tb with
      | false =>
        clear l2
        have hbel := hS5.bel
        clear hS5 ha5 hb5 hX5
        go_wp2_with fail
        refine (alive_any _).mono ?_
        rintro e w6 ⟨rfl, hw6⟩
        go_wp2_with fail
        go_ret
        exact ⟨rfl, hbel.trans (hw6.mono hbel.size)⟩
      | true =>
        have hsl : (X == a) = false := (l2 rfl).symm
        clear l2
        have hC5 := sameInts_any X a A5 Da X.length c5' a.length da w5.heap.size w5 rfl rfl hX5.rd ha5.rd (by omega) (by omega)
        rw [hsl] at hC5
        go_wp2_with fail
        refine hC5.mono ?_
        rintro e w6 ⟨rfl, hw6⟩
        have hS6 := hS5.below hw6
        have ha6 := ha5.below hw6
        have hb6 := hb5.below hw6
        have hX6 := hX5.below hw6
        clear hS5 hC5 hw6 ha5 hb5 hX5 
        have hbel := hS6.bel
        clear hS6 ha6 hb6 hX6
        go_wp2_with fail
        refine (alive_any _).mono ?_
        rintro e w7 ⟨rfl, hw7⟩
        go_wp2_with fail
        go_ret
        exact ⟨rfl, hbel.trans (hw7.mono hbel.size)⟩

end Go.Proofs.Ytahpipcmgcambaa
