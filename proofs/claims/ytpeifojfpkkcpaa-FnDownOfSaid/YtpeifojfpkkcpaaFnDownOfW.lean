/-
  YtpeifojfpkkcpaaFnDownOfW: the walk of FnDownOf.
-/
import Derived.Test.YtpeifojfpkkcpaaDv
import Derived.Test.YtpeifojfpkkcpaaLz
import Derived.Test.YtpeifojfpkkcpaaLdd
import Derived.Test.YtpeifojfpkkcpaaFo
namespace Go.Proofs.Ytpeifojfpkkcpaa
open Go.RowKit

set_option maxHeartbeats 4000000 in
set_option maxRecDepth 20000 in
theorem FnDownOf_walk (w : World) (A : Option Addr) (n c : Nat) (zs : List Int) (hnc : n ≤ c) (hm : n ≤ maxLen) (_hl : zs.length = n) (hr : Reads w w.heap.size 1 A n (zs.map (Value.int .u8))) (hwz : ∀ z ∈ zs, (Lit.int .u8 z).wf = true) :
    Calls Try.prog 9 #[.slice A n c] w fun e w' => e = .returned (.bool true) ∧ Below w.heap.size w w' := by
  unfold maxLen at hm
  by_cases hb : 1048576 < n
  · go_enter Try.func9, Try.ntmps9
    go_wp2_with fail
    go_ret
    exact ⟨rfl, Below.refl _ _⟩
  · have hDR := hide (drawDownOf_any A n c zs w hr hnc (by omega) hwz)
    clear hr hwz hm _hl
    go_enter Try.func9, Try.ntmps9
    go_wp2_with fail
    refine (unhide hDR).mono ?_
    rintro e w1 ⟨W, T, A2, c2, Da, da, bs, a, rfl, hreg, ha1, hna, hB1⟩
    clear hDR
    have hS2 := LS.start (W := W) (T := T) hB1 hreg
    have ha2 : LI w (w1.alloc (.cells #[.int .i64 W, .int .i64 T, .slice A2 bs.length c2] 25)) Da da a := ha1.below ((Below.refl _ _).alloc (Nat.le_refl _) _)
    clear hreg hB1 ha1
    go_upto_region 4 with fail
    generalize w1.alloc (.cells #[.int .i64 W, .int .i64 T, .slice A2 bs.length c2] 25) = w2 at *
    generalize w1.heap.size = x at *
    have hbs := hS2.len
    have hXl := rgV_len (W := W) (T := T) (bs := bs) (L := a) (b := -4)
    have hlaw := law_downOf (W := W) (T := T) (bs := bs) (L := a)
    have hno := rgV_no (W := W) (T := T) (bs := bs) (L := a) (b := -4)
    have hsm := rgV_small (W := W) (T := T) (bs := bs) (L := a) (b := -4)
    have hasc := asc_rgV (W := W) (T := T) (bs := bs) (L := a) (b := -4)
    have htd : tiledB W T bs a = (simpleB W T bs && tilingB W T bs a) := rfl
    obtain ⟨sb, hsb⟩ : ∃ sb, simpleB W T bs = sb := ⟨_, rfl⟩
    obtain ⟨tb, htb⟩ : ∃ tb, tilingB W T bs a = tb := ⟨_, rfl⟩
    rw [hsb, htb] at htd
    obtain ⟨X, hX⟩ : ∃ X, rgV W T bs a (-4) = X := ⟨_, rfl⟩
    rw [hX] at hXl hlaw hno hsm hasc
    have HASC := Lib.hid hasc
    have HSM := Lib.hid hsm
    clear hasc hsm
    have hC2 := downOfI_any W T A2 bs.length c2 w2.heap.size bs a Da a.length da ha2.plain w2 rfl rfl hS2.rd ha2.rd (Nat.le_refl _) (by omega) (by omega)
    rw [hX] at hC2
    obtain ⟨x0, x1, x2⟩ := hS2.cells
    go_wp2_with fail
    refine hC2.mono ?_
    rintro e w3 ⟨A3, c3, c3', rfl, ho3, hw3⟩
    have hS3 := hS2.below hw3
    have ha3 := ha2.below hw3
    have hX3 : LI w w3 A3 c3' X := LI.of hS2.bel.size ho3
    clear hS2 hC2 hw3 ha2 ho3 x0 x1 x2
    have hC3 := downOfS_any W T A2 bs.length c2 w3.heap.size bs a Da a.length da w3 rfl rfl hS3.rd ha3.rd (Nat.le_refl _) (by omega) (by omega)
    rw [hX] at hC3
    obtain ⟨x0, x1, x2⟩ := hS3.cells
    go_wp2_with fail
    refine hC3.mono ?_
    rintro e w4 ⟨A4, c4, c4', rfl, ho4, hw4⟩
    have hS4 := hS3.below hw4
    have ha4 := ha3.below hw4
    have hX4 := hX3.below hw4
    have hY4 : LI w w4 A4 c4' X := LI.of hS3.bel.size ho4
    clear hS3 hC3 hw4 ha3 hX3 ho4 x0 x1 x2
    have hC4 := sameInts_any X X A3 A4 X.length c3' X.length c4' w4.heap.size w4 rfl rfl hX4.rd hY4.rd (by omega) (by omega)
    rw [beq_self_list] at hC4
    go_wp2_with fail
    refine hC4.mono ?_
    rintro e w5 ⟨rfl, hw5⟩
    have hS5 := hS4.below hw5
    have ha5 := ha4.below hw5
    have hX5 := hX4.below hw5
    clear hS4 hC4 hw5 ha4 hX4 hY4 
    have hC5 := SimpleS_any W T A2 bs.length c2 w5.heap.size bs w5 hS5.rd (Nat.le_refl _) (by omega)
    rw [hsb] at hC5
    obtain ⟨x0, x1, x2⟩ := hS5.cells
    go_wp2_with fail
    refine hC5.mono ?_
    rintro e w6 ⟨rfl, hw6⟩
    have hS6 := hS5.below hw6
    have ha6 := ha5.below hw6
    have hX6 := hX5.below hw6
    clear hS5 hC5 hw6 ha5 hX5 x0 x1 x2
    cases sb with
    | false =>
      obtain rfl := hno (htd.trans rfl)
      clear hno hlaw hX HASC HSM
      have hbel := hS6.bel
      clear hS6 ha6 hX6
      go_wp2_with fail
      refine (alive_any _).mono ?_
      rintro e w7 ⟨rfl, hw7⟩
      go_wp2_with fail
      go_ret
      exact ⟨rfl, hbel.trans (hw7.mono hbel.size)⟩
    | true =>
      have hC6 := tilingOkS_any W T A2 bs.length c2 w6.heap.size bs a Da a.length da w6 rfl rfl hS6.rd ha6.rd (Nat.le_refl _) (by omega) (by omega)
      rw [htb] at hC6
      obtain ⟨x0, x1, x2⟩ := hS6.cells
      go_wp2_with fail
      refine hC6.mono ?_
      rintro e w7 ⟨rfl, hw7⟩
      have hS7 := hS6.below hw7
      have ha7 := ha6.below hw7
      have hX7 := hX6.below hw7
      clear hS6 hC6 hw7 ha6 hX6 x0 x1 x2
      cases tb with
      | false =>
        obtain rfl := hno (htd.trans rfl)
        clear hno hlaw hX HASC HSM
        have hbel := hS7.bel
        clear hS7 ha7 hX7
        go_wp2_with fail
        refine (alive_any _).mono ?_
        rintro e w8 ⟨rfl, hw8⟩
        go_wp2_with fail
        go_ret
        exact ⟨rfl, hbel.trans (hw8.mono hbel.size)⟩
      | true =>
        obtain ⟨e1, e2, e3⟩ := hlaw (htd.trans rfl)
        have E3 := Lib.hid e3
        have HE2 := Lib.hid e2
        clear hno hlaw hX e2 e3 htd htb hsb
        go_upto_region 10 with fail
        go_loopg [6] X.length (fun r s6 wr => ∃ j : Nat, j + r = X.length ∧ s6 = .int .i64 (j : Nat) ∧ LS w wr x W T A2 c2 bs ∧ LI w wr Da da a ∧ LI w wr A3 c3' X)
        case atStart => exact ⟨0, by omega, rfl, hS7, ha7, hX7⟩
        case round =>
          clear hS7 ha7 hX7
          obtain ⟨j, hj, rfl, hS7, ha7, hX7⟩ := hrel
          have HJ := Lib.hid hj
          clear hj
          by_cases hlt : j < X.length
          · have hmem : X.getD j 0 ∈ X := by rw [List.getD_eq_getElem?_getD, List.getElem?_eq_getElem hlt]; exact List.getElem_mem hlt
            obtain ⟨hz1, hz2⟩ := HSM.out _ hmem
            have hbz := E3.out _ hmem
            obtain ⟨gx, hgx, d1⟩ := hX7.cell hlt
            subst hgx
            clear hmem
            generalize X.getD j 0 = z at *
            obtain ⟨V, hV⟩ : ∃ V, foV W T bs a z = V := ⟨_, rfl⟩
            obtain ⟨fv, hfv⟩ : ∃ fv, foB W T bs a z = fv := ⟨_, rfl⟩
            have hVl := foV_len (W := W) (T := T) (bs := bs) (L := a) (k := z)
            rw [hV] at hbz hVl
            have hd0 := (Below.refl wr.heap.size wr).drew
            have hFO := hide (flipOneI_any W T A2 bs.length c2 wr.drew.heap.size bs a Da a.length da z (by omega) ha7.plain wr.drew rfl rfl (hS7.below hd0).rd (ha7.below hd0).rd (Nat.le_refl _) (by omega) (by omega))
            rw [hV, hfv] at hFO
            obtain ⟨x0, x1, x2⟩ := (hS7.below hd0).cells
            have x3 : wr.drew.cell? ⟨gx, j, none⟩ = some (.int .i64 z) := d1
            have hsz0 := hS7.bel.size
            go_upto_region 12 with fail
            go_region_held3 (fun w' => w'.cell? ⟨x, 0, none⟩ = some (.int .i64 W) ∧ w'.cell? ⟨x, 1, none⟩ = some (.int .i64 T) ∧ w'.cell? ⟨x, 2, none⟩ = some (.slice A2 bs.length c2) ∧ w'.cell? ⟨gx, j, none⟩ = some (.int .i64 z))
              (first
                | exact ⟨x0, x1, x2, x3⟩
                | exact ⟨(hS7.below hW8).cells.1, (hS7.below hW8).cells.2.1, (hS7.below hW8).cells.2.2, cell_kept d1 hW8⟩)
              (first
                | (go_at_call 49; (with_reducible refine (unhide hFO).mono ?_); rintro e w8 ⟨A8, c8, c8', rfl, ho8, hw8⟩; have hW8 := hd0.trans (hw8.mono hd0.size)))
            have hS8 := hS7.below hW8
            have ha8 := ha7.below hW8
            have hX8 := hX7.below hW8
            have hV8 : LI w w8 A8 c8' V := LI.of (wr := wr.drew) (by simpa using hsz0) ho8
            clear hS7 hFO hw8 ho8 x0 x1 x2 x3 hd0 hW8 ha7 hX7
            have hC8 := belowI_any W T A2 bs.length c2 w8.heap.size bs V A8 V.length c8' a Da a.length da w8 rfl rfl rfl hS8.rd hV8.rd ha8.rd (Nat.le_refl _) (by omega) (by omega) (by omega)
            rw [hbz] at hC8
            obtain ⟨x0, x1, x2⟩ := hS8.cells
            go_wp2_with fail
            refine hC8.mono ?_
            rintro e w9 ⟨rfl, hw9⟩
            have hS9 := hS8.below hw9
            have ha9 := ha8.below hw9
            have hX9 := hX8.below hw9
            have hV9 := hV8.below hw9
            clear hS8 hC8 hw9 ha8 hX8 hV8 x0 x1 x2
            go_wp2_with fail
            go_roundg (X.length - (j + 1))
            case measure => have := HJ.out; omega
            case rel => exact ⟨j + 1, by have := HJ.out; omega, by go_num, hS9, ha9, hX9⟩
          ·
            clear HJ
            obtain ⟨V, hV⟩ : ∃ V, exV min W T bs = V := ⟨_, rfl⟩
            have hVl : (exV min W T bs).length ≤ 36 := exV_len
            have he2 := HE2.out
            rw [hV] at he2 hVl
            have hsv : ((X.length : Int) == 0) = (V == a) := by
              rw [Bool.eq_iff_iff, beq_iff_eq, beq_iff_eq]
              constructor
              · intro h; exact he2.1 (by omega)
              · intro h; have := he2.2 h; omega
            clear he2 HE2
            have hC7 := lowestI_any W T A2 bs.length c2 wr.heap.size bs wr rfl hS7.rd (Nat.le_refl _) (by omega)
            rw [e1, hV] at hC7
            obtain ⟨x0, x1, x2⟩ := hS7.cells
            go_wp2_with fail
            refine hC7.mono ?_
            rintro e w8 ⟨A8, c8, c8', rfl, ho8, hw8⟩
            have hS8 := hS7.below hw8
            have ha8 := ha7.below hw8
            have hX8 := hX7.below hw8
            have hV8 : LI w w8 A8 c8' V := LI.of hS7.bel.size ho8
            clear hS7 hC7 hw8 ha7 hX7 ho8 x0 x1 x2
            obtain ⟨sv, hsvd⟩ : ∃ sv, (V == a) = sv := ⟨_, rfl⟩
            rw [hsvd] at hsv
            have hss : (sv == sv) = true := by simp
            clear hV
            have hC8 := ascend_any X A3 X.length c3' w8.heap.size w8 rfl HASC.out hX8.rd (by omega)
            go_wp2_with fail
            refine hC8.mono ?_
            rintro e w9 ⟨rfl, hw9⟩
            have hS9 := hS8.below hw9
            have ha9 := ha8.below hw9
            have hX9 := hX8.below hw9
            have hV9 := hV8.below hw9
            clear hS8 hC8 hw9 ha8 hX8 hV8 
            have hC9 := sameInts_any V a A8 Da V.length c8' a.length da w9.heap.size w9 rfl rfl hV9.rd ha9.rd (by omega) (by omega)
            rw [hsvd] at hC9
            go_wp2_with fail
            refine hC9.mono ?_
            rintro e w10 ⟨rfl, hw10⟩
            have hS10 := hS9.below hw10
            have ha10 := ha9.below hw10
            have hX10 := hX9.below hw10
            have hV10 := hV9.below hw10
            clear hS9 hC9 hw10 ha9 hX9 hV9 
            have hbel := hS10.bel
            clear hS10 ha10 hX10 hV10
            go_wp2_with fail
            go_ret
            exact ⟨rfl, hbel⟩

end Go.Proofs.Ytpeifojfpkkcpaa
