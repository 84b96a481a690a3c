/-
  YtpeifojfpkkcpaaFnFlipWayW: the walk of FnFlipWay.
-/
import Derived.Test.YtpeifojfpkkcpaaDv
import Derived.Test.YtpeifojfpkkcpaaLz
import Derived.Test.YtpeifojfpkkcpaaLdd
import Derived.Test.YtpeifojfpkkcpaaFz4
import Derived.Test.YtpeifojfpkkcpaaFo
namespace Go.Proofs.Ytpeifojfpkkcpaa
open Go.RowKit

set_option maxHeartbeats 4000000 in
set_option maxRecDepth 20000 in
theorem FnFlipWay_walk (w : World) (A : Option Addr) (n c : Nat) (zs : List Int) (hnc : n ≤ c) (hm : n ≤ maxLen) (_hl : zs.length = n) (hr : Reads w w.heap.size 1 A n (zs.map (Value.int .u8))) (hwz : ∀ z ∈ zs, (Lit.int .u8 z).wf = true) :
    Calls Try.prog 11 #[.slice A n c] w fun e w' => e = .returned (.bool true) ∧ Below w.heap.size w w' := by
  unfold maxLen at hm
  by_cases hb : 1048576 < n
  · go_enter Try.func11, Try.ntmps11
    go_wp2_with fail
    go_ret
    exact ⟨rfl, Below.refl _ _⟩
  · have hDR := hide (drawFlipWay_any A n c zs w hr hnc (by omega) hwz)
    clear hr hwz hm _hl
    go_enter Try.func11, Try.ntmps11
    go_wp2_with fail
    refine (unhide hDR).mono ?_
    rintro e w1 ⟨W, T, A2, c2, Da, da, Db, db, bs, a, b, rfl, hreg, ha1, hna, hb1, hnb, hB1⟩
    clear hDR
    have hS2 := LS.start (W := W) (T := T) hB1 hreg
    have ha2 : LI w (w1.alloc (.cells #[.int .i64 W, .int .i64 T, .slice A2 bs.length c2] 25)) Da da a := ha1.below ((Below.refl _ _).alloc (Nat.le_refl _) _)
    have hb2 : LI w (w1.alloc (.cells #[.int .i64 W, .int .i64 T, .slice A2 bs.length c2] 25)) Db db b := hb1.below ((Below.refl _ _).alloc (Nat.le_refl _) _)
    clear hreg hB1 ha1 hb1
    go_upto_region 4 with fail
    generalize w1.alloc (.cells #[.int .i64 W, .int .i64 T, .slice A2 bs.length c2] 25) = w2 at *
    generalize w1.heap.size = x at *
    have hbs := hS2.len
    have hXl := fwV_len (W := W) (T := T) (bs := bs) (M := a) (N := b)
    have hlaw := law_flipWay (W := W) (T := T) (bs := bs) (M := a) (N := b)
    have hno := fwV_no (W := W) (T := T) (bs := bs) (M := a) (N := b)
    have hap := apartV_no (W := W) (T := T) (bs := bs) (a := a) (b := b)
    obtain ⟨ok, hok⟩ : ∃ ok, (tiledB W T bs a && tiledB W T bs b) = ok := ⟨_, rfl⟩
    obtain ⟨X, hX⟩ : ∃ X, fwV W T bs a b = X := ⟨_, rfl⟩
    obtain ⟨N, hN⟩ : ∃ N, apartV W T bs a b = N := ⟨_, rfl⟩
    rw [hX] at hXl hlaw hno
    rw [hN] at hlaw hap
    have hbF : ∀ w', LI w w' Db db b → b ≠ [] → ∃ gb, Db = some ⟨gb, 0, none⟩ := fun w' h hne => by
      obtain ⟨gl, e, _⟩ := h.cell (List.length_pos_iff.2 hne)
      exact ⟨gl, e⟩
    have hoo : (ok != ok) = false := by simp
    have hC2 := flipWayI_any W T A2 bs.length c2 w2.heap.size bs a Da a.length da b Db b.length db w2 rfl rfl rfl ha2.plain (hbF _ hb2) hS2.rd ha2.rd hb2.rd (Nat.le_refl _) (by omega) (by omega) (by omega)
    rw [hX, hok] at hC2
    obtain ⟨x0, x1, x2⟩ := hS2.cells
    go_wp2_with fail
    refine hC2.mono ?_
    rintro e w3 ⟨A3, c3, c3', rfl, ho3, hw3⟩
    have hS3 := hS2.below hw3
    have ha3 := ha2.below hw3
    have hb3 := hb2.below hw3
    have hX3 : LI w w3 A3 c3' X := LI.of hS2.bel.size ho3
    clear hS2 hC2 hw3 ha2 hb2 ho3 x0 x1 x2
    have hC3 := flipWayS_any W T A2 bs.length c2 w3.heap.size bs a Da a.length da b Db b.length db w3 rfl rfl rfl hS3.rd ha3.rd hb3.rd (Nat.le_refl _) (by omega) (by omega) (by omega)
    rw [hX, hok] at hC3
    obtain ⟨x0, x1, x2⟩ := hS3.cells
    go_wp2_with fail
    refine hC3.mono ?_
    rintro e w4 ⟨A4, c4, c4', rfl, ho4, hw4⟩
    have hS4 := hS3.below hw4
    have ha4 := ha3.below hw4
    have hb4 := hb3.below hw4
    have hX4 := hX3.below hw4
    have hY4 : LI w w4 A4 c4' X := LI.of hS3.bel.size ho4
    clear hS3 hC3 hw4 ha3 hb3 hX3 ho4 x0 x1 x2
    have hC4 := sameInts_any X X A3 A4 X.length c3' X.length c4' w4.heap.size w4 rfl rfl hX4.rd hY4.rd (by omega) (by omega)
    rw [beq_self_list] at hC4
    go_wp2_with fail
    refine hC4.mono ?_
    rintro e w5 ⟨rfl, hw5⟩
    have hS5 := hS4.below hw5
    have ha5 := ha4.below hw5
    have hb5 := hb4.below hw5
    have hX5 := hX4.below hw5
    clear hS4 hC4 hw5 ha4 hb4 hX4 hY4 
    cases ok with
    | false =>
      obtain rfl := hno (fun h => by rw [h.1, h.2] at hok; cases hok)
      have hap2 := hap hok
      clear hno hlaw hap
      have hC5 := apartI_any W T A2 bs.length c2 w5.heap.size bs a Da a.length da b Db b.length db w5 rfl rfl rfl hS5.rd ha5.rd hb5.rd (Nat.le_refl _) (by omega) (by omega) (by omega)
      rw [hN, hap2] at hC5
      obtain ⟨x0, x1, x2⟩ := hS5.cells
      go_wp2_with fail
      refine hC5.mono ?_
      rintro e w6 ⟨rfl, hw6⟩
      have hS6 := hS5.below hw6
      have ha6 := ha5.below hw6
      have hb6 := hb5.below hw6
      have hX6 := hX5.below hw6
      clear hS5 hC5 hw6 ha5 hb5 hX5 x0 x1 x2
      have hbel := hS6.bel
      clear hS6 ha6 hb6 hX6
      go_wp2_with fail
      refine (alive_any _).mono ?_
      rintro e w7 ⟨rfl, hw7⟩
      go_wp2_with fail
      go_ret
      exact ⟨rfl, hbel.trans (hw7.mono hbel.size)⟩
    | true =>
      obtain ⟨S, hS0, hSN, hAN, hSl, hSt⟩ := hlaw (Bool.and_eq_true _ _ ▸ hok).1 (Bool.and_eq_true _ _ ▸ hok).2
      have HST := Lib.hid hSt
      have HSL := Lib.hid hSl
      have HS0 := Lib.hid hS0
      have HSN := Lib.hid hSN
      have HAN := Lib.hid hAN
      clear hno hlaw hap hX hbF hSt hSl hS0 hSN hAN hok hoo
      go_upto_region 12 with fail
      go_loopg [10, 11] X.length (fun r s10 s11 wr => ∃ (j : Nat) (DN : Option Addr) (cN : Nat), j + r = X.length ∧ s11 = .int .i64 (j : Nat) ∧ s10 = .slice DN (S j).length cN ∧ LS w wr x W T A2 c2 bs ∧ LI w wr Da da a ∧ LI w wr Db db b ∧ LI w wr A3 c3' X ∧ LI w wr DN cN (S j))
      case atStart => exact ⟨0, Da, da, by omega, rfl, by rw [HS0.out], hS5, ha5, hb5, hX5, by rw [HS0.out]; exact ha5⟩
      case round =>
        clear hS5 ha5 hb5 hX5
        obtain ⟨j, DN, cN, hj, rfl, rfl, hS5, ha5, hb5, hX5, hQ5⟩ := hrel
        have HJ := Lib.hid hj
        clear hj
        have hQl := HSL.out j
        by_cases hlt : j < X.length
        · obtain ⟨t1, t2, hz1, hz2⟩ := HST.out j hlt
          obtain ⟨gx, hgx, d1⟩ := hX5.cell hlt
          subst hgx
          generalize X.getD j 0 = z at *
          obtain ⟨V, hV⟩ : ∃ V, S (j + 1) = V := ⟨_, rfl⟩
          obtain ⟨Q, hQ⟩ : ∃ Q, S j = Q := ⟨_, rfl⟩
          have HV := Lib.hid hV
          have hVl := HSL.out (j + 1)
          rw [hQ] at t1 t2 hQ5 hQl
          rw [hQ]
          rw [hV] at t1 hVl
          clear hQ hV
          obtain ⟨fv, hfv⟩ : ∃ fv, foB W T bs Q z = fv := ⟨_, rfl⟩
          rw [t2] at hfv
          subst hfv
          have hV := t1
          have hfv := t2
          clear t1 t2
          have hd0 := (Below.refl wr.heap.size wr).drew
          have hFO := hide (flipOneI_any W T A2 bs.length c2 wr.drew.heap.size bs Q DN Q.length cN z (by omega) hQ5.plain wr.drew rfl rfl (hS5.below hd0).rd (hQ5.below hd0).rd (Nat.le_refl _) (by omega) (by omega))
          rw [hV, hfv] at hFO
          obtain ⟨x0, x1, x2⟩ := (hS5.below hd0).cells
          have x3 : wr.drew.cell? ⟨gx, j, none⟩ = some (.int .i64 z) := d1
          have hsz0 := hS5.bel.size
          go_upto_region 14 with fail
          go_region_held3 (fun w' => w'.cell? ⟨x, 0, none⟩ = some (.int .i64 W) ∧ w'.cell? ⟨x, 1, none⟩ = some (.int .i64 T) ∧ w'.cell? ⟨x, 2, none⟩ = some (.slice A2 bs.length c2) ∧ w'.cell? ⟨gx, j, none⟩ = some (.int .i64 z))
            (first
              | exact ⟨x0, x1, x2, x3⟩
              | exact ⟨(hS5.below hW6).cells.1, (hS5.below hW6).cells.2.1, (hS5.below hW6).cells.2.2, cell_kept d1 hW6⟩)
            (first
              | (go_at_call 49; (with_reducible refine (unhide hFO).mono ?_); rintro e w6 ⟨A6, c6, c6', rfl, ho6, hw6⟩; have hW6 := hd0.trans (hw6.mono hd0.size)))
          have hS6 := hS5.below hW6
          have ha6 := ha5.below hW6
          have hb6 := hb5.below hW6
          have hX6 := hX5.below hW6
          have hQ6 := hQ5.below hW6
          have hV6 : LI w w6 A6 c6' V := LI.of (wr := wr.drew) (by simpa using hsz0) ho6
          clear hS5 hFO hw6 ho6 x0 x1 x2 x3 hd0 hW6 ha5 hb5 hX5 hQ5
          go_wp2_with fail
          go_roundg (X.length - (j + 1))
          case measure => have := HJ.out; omega
          case rel => exact ⟨j + 1, A6, c6', by have := HJ.out; omega, by go_num, by rw [HV.out], hS6, ha6, hb6, hX6, by rw [HV.out]; exact hV6⟩
        ·
          obtain rfl : j = X.length := by have := HJ.out; omega
          have heq : ((X.length : Int) == (X.length : Int)) = true := by simp
          rw [HSN.out] at hQ5 hQl
          rw [HSN.out]
          clear HJ
          have hC5 := sameInts_any b b DN Db b.length cN b.length db wr.heap.size wr rfl rfl hQ5.rd hb5.rd (by omega) (by omega)
          rw [beq_self_list] at hC5
          go_wp2_with fail
          refine hC5.mono ?_
          rintro e w6 ⟨rfl, hw6⟩
          have hS6 := hS5.below hw6
          have ha6 := ha5.below hw6
          have hb6 := hb5.below hw6
          have hX6 := hX5.below hw6
          have hQ6 := hQ5.below hw6
          clear hS5 hC5 hw6 ha5 hb5 hX5 hQ5 
          have hC6 := apartI_any W T A2 bs.length c2 w6.heap.size bs a Da a.length da b Db b.length db w6 rfl rfl rfl hS6.rd ha6.rd hb6.rd (Nat.le_refl _) (by omega) (by omega) (by omega)
          rw [hN, HAN.out] at hC6
          obtain ⟨x0, x1, x2⟩ := hS6.cells
          go_wp2_with fail
          refine hC6.mono ?_
          rintro e w7 ⟨rfl, hw7⟩
          have hS7 := hS6.below hw7
          have ha7 := ha6.below hw7
          have hb7 := hb6.below hw7
          have hX7 := hX6.below hw7
          have hQ7 := hQ6.below hw7
          clear hS6 hC6 hw7 ha6 hb6 hX6 hQ6 x0 x1 x2
          have hbel := hS7.bel
          clear hS7 ha7 hb7 hX7 hQ7
          go_wp2_with fail
          go_ret
          exact ⟨rfl, hbel⟩

end Go.Proofs.Ytpeifojfpkkcpaa
