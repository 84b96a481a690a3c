/-
  YtpeifojfpkkcpaaFnHeightsOfW: the walk of FnHeightsOf.
-/
import Derived.Test.YtpeifojfpkkcpaaDv
import Derived.Test.YtpeifojfpkkcpaaLz
import Derived.Test.YtpeifojfpkkcpaaLi
import Derived.Test.YtpeifojfpkkcpaaByS
import Derived.BigRegion
namespace Go.Proofs.Ytpeifojfpkkcpaa
open Go.RowKit

set_option maxHeartbeats 4000000 in
set_option maxRecDepth 20000 in
theorem FnHeightsOf_walk (w : World) (A : Option Addr) (n c : Nat) (zs : List Int) (hnc : n ≤ c) (hm : n ≤ maxLen) (_hl : zs.length = n) (hr : Reads w w.heap.size 1 A n (zs.map (Value.int .u8))) (hwz : ∀ z ∈ zs, (Lit.int .u8 z).wf = true) :
    Calls Try.prog 12 #[.slice A n c] w fun e w' => e = .returned (.bool true) ∧ Below w.heap.size w w' := by
  unfold maxLen at hm
  by_cases hb : 1048576 < n
  · go_enter Try.func12, Try.ntmps12
    go_wp2_with fail
    go_ret
    exact ⟨rfl, Below.refl _ _⟩
  · have hDR := hide (drawHeightsOf_any A n c zs w hr hnc (by omega) hwz)
    clear hr hwz hm _hl
    go_enter Try.func12, Try.ntmps12
    go_wp2_with fail
    refine (unhide hDR).mono ?_
    rintro e w1 ⟨W, T, A2, c2, Da, da, bs, a, rfl, hreg, ha1, hna, hB1⟩
    clear hDR
    have hS2 := LS.start (W := W) (T := T) hB1 hreg
    have ha2 : LI w (w1.alloc (.cells #[.int .i64 W, .int .i64 T, .slice A2 bs.length c2] 25)) Da da a := ha1.below ((Below.refl _ _).alloc (Nat.le_refl _) _)
    clear hreg hB1 ha1
    go_upto_region 4 with fail
    generalize w1.alloc (.cells #[.int .i64 W, .int .i64 T, .slice A2 bs.length c2] 25) = w2 at *
    generalize w1.heap.size = x at *
    have hbs := hS2.len
    have hHl := htsOf_len (W := W) (T := T) (bs := bs) (L := a)
    have hlaw := law_hts (W := W) (T := T) (bs := bs) (L := a)
    have hfi := law_first (W := W) (T := T) (bs := bs) (L := a)
    have htw := law_two_hts (W := W) (T := T) (bs := bs) (a := a) (c := tfV W T bs)
    have hTF := fun ht => tilingFirstI_t W T A2 bs.length c2 w2.heap.size bs a ht
    have hpos : tiledB W T bs a = true → 0 < (htsOf W T bs a).length := fun h => (law_two_hts h h).2.1
    have htd : tiledB W T bs a = (simpleB W T bs && tilingB W T bs a) := rfl
    obtain ⟨sb, hsb⟩ : ∃ sb, simpleB W T bs = sb := ⟨_, rfl⟩
    obtain ⟨tb, htb⟩ : ∃ tb, tilingB W T bs a = tb := ⟨_, rfl⟩
    rw [hsb, htb] at htd
    obtain ⟨H, hH⟩ : ∃ H, htsOf W T bs a = H := ⟨_, rfl⟩
    obtain ⟨F, hF⟩ : ∃ F, tfV W T bs = F := ⟨_, rfl⟩
    obtain ⟨G, hG⟩ : ∃ G, htsOf W T bs F = G := ⟨_, rfl⟩
    have hno : tiledB W T bs a = false → H = [] := fun h => by rw [← hH]; exact htsOf_no h
    rw [hH] at hHl hlaw hpos
    rw [hF] at hfi htw
    rw [hH, hG] at htw
    clear hTF
    have hC2 := heightsOfI_any W T A2 bs.length c2 w2.heap.size bs a Da a.length da w2 rfl rfl hS2.rd ha2.rd (Nat.le_refl _) (by omega) (by omega)
    rw [hH] at hC2
    obtain ⟨x0, x1, x2⟩ := hS2.cells
    go_wp2_with fail
    refine hC2.mono ?_
    rintro e w3 ⟨A3, c3', rfl, _, ho3, hw3⟩
    have hS3 := hS2.below hw3
    have ha3 := ha2.below hw3
    have hH3 : LI w w3 A3 c3' H := LI.of hS2.bel.size ho3
    clear hS2 hC2 hw3 ha2 ho3 x0 x1 x2
    have hC3 := heightsOfS_any W T A2 bs.length c2 w3.heap.size bs a Da a.length da w3 rfl rfl hS3.rd ha3.rd (Nat.le_refl _) (by omega) (by omega)
    rw [hH] at hC3
    obtain ⟨x0, x1, x2⟩ := hS3.cells
    go_wp2_with fail
    refine hC3.mono ?_
    rintro e w4 ⟨A4, c4', rfl, _, ho4, hw4⟩
    have hS4 := hS3.below hw4
    have ha4 := ha3.below hw4
    have hH4 := hH3.below hw4
    have hY4 : LI w w4 A4 c4' H := LI.of hS3.bel.size ho4
    clear hS3 hC3 hw4 ha3 hH3 ho4 x0 x1 x2
    have hC4 := sameInts_any H H A3 A4 H.length c3' H.length c4' w4.heap.size w4 rfl rfl hH4.rd hY4.rd (by omega) (by omega)
    rw [beq_self_list] at hC4
    go_wp2_with fail
    refine hC4.mono ?_
    rintro e w5 ⟨rfl, hw5⟩
    have hS5 := hS4.below hw5
    have ha5 := ha4.below hw5
    have hH5 := hH4.below hw5
    clear hS4 hC4 hw5 ha4 hH4 hY4 
    by_cases h0 : H.length = 0
    ·
      have hn0 : (sb && tb) = false := by
        rw [← htd]
        cases h : tiledB W T bs a with
        | false => rfl
        | true => have := hpos h; omega
      have h0d : ((H.length : Int) == 0) = true := by rw [h0]; rfl
      clear hlaw hfi htw hpos hno h0
      have hC5 := SimpleI_any W T A2 bs.length c2 w5.heap.size bs w5 hS5.rd (Nat.le_refl _) (by omega)
      rw [hsb] at hC5
      obtain ⟨x0, x1, x2⟩ := hS5.cells
      go_wp2_with fail
      refine hC5.mono ?_
      rintro e w6 ⟨rfl, hw6⟩
      have hS6 := hS5.below hw6
      have ha6 := ha5.below hw6
      have hH6 := hH5.below hw6
      clear hS5 hC5 hw6 ha5 hH5 x0 x1 x2
      cases sb with
      | false =>
        have hbel := hS6.bel
        clear hS6 ha6 hH6
        go_wp2_with fail
        refine (alive_any _).mono ?_
        rintro e w7 ⟨rfl, hw7⟩
        go_wp2_with fail
        go_ret
        exact ⟨rfl, hbel.trans (hw7.mono hbel.size)⟩
      | true =>
        have htf : tb = false := hn0
        subst htf
        have hC6 := tilingOkI_any W T A2 bs.length c2 w6.heap.size bs a Da a.length da w6 rfl rfl hS6.rd ha6.rd (Nat.le_refl _) (by omega) (by omega)
        rw [htb] at hC6
        obtain ⟨x0, x1, x2⟩ := hS6.cells
        go_wp2_with fail
        refine hC6.mono ?_
        rintro e w7 ⟨rfl, hw7⟩
        have hS7 := hS6.below hw7
        have ha7 := ha6.below hw7
        have hH7 := hH6.below hw7
        clear hS6 hC6 hw7 ha6 hH6 x0 x1 x2
        have hbel := hS7.bel
        clear hS7 ha7 hH7
        go_wp2_with fail
        refine (alive_any _).mono ?_
        rintro e w8 ⟨rfl, hw8⟩
        go_wp2_with fail
        go_ret
        exact ⟨rfl, hbel.trans (hw8.mono hbel.size)⟩
    ·
      have ht : tiledB W T bs a = true := by
        cases h : tiledB W T bs a with
        | true => rfl
        | false => exact absurd (by rw [hno h]; rfl) h0
      have h0d : ((H.length : Int) == 0) = false := by rw [beq_eq_false_iff_ne]; omega
      obtain ⟨l1, l2⟩ := hlaw ht
      obtain ⟨ft, hFl⟩ := hfi ht
      obtain ⟨g1, g2, g3⟩ := htw ht ft
      have HG1 := Lib.hid g1
      have HG3 := Lib.hid g3
      have hGl : G.length ≤ 49 := by rw [g1]; exact hHl
      have hnl : ((G.length : Int) != (H.length : Int)) = false := by rw [bne_eq_false_iff_eq]; omega
      clear hlaw hfi htw hpos hno h0 htd hsb htb g1 g3
      have hC5 := tilingByI_any W T A2 bs.length c2 w5.heap.size bs H A3 H.length c3' w5 rfl rfl hS5.rd hH5.rd (Nat.le_refl _) (by omega) (by omega)
      rw [l2, l1] at hC5
      obtain ⟨x0, x1, x2⟩ := hS5.cells
      go_wp2_with fail
      refine hC5.mono ?_
      rintro e w6 ⟨A6, c6, c6', rfl, ho6, hw6⟩
      have hS6 := hS5.below hw6
      have ha6 := ha5.below hw6
      have hH6 := hH5.below hw6
      have hX6 : LI w w6 A6 c6' a := LI.of hS5.bel.size ho6
      clear hS5 hC5 hw6 ha5 hH5 ho6 x0 x1 x2
      have hC6 := tilingFirstI_t W T A2 bs.length c2 w6.heap.size bs a ht w6 rfl hS6.rd (Nat.le_refl _)
      rw [hF] at hC6
      obtain ⟨x0, x1, x2⟩ := hS6.cells
      go_wp2_with fail
      refine hC6.mono ?_
      rintro e w7 ⟨A7, c7, c7', rfl, ho7, hw7⟩
      have hS7 := hS6.below hw7
      have ha7 := ha6.below hw7
      have hH7 := hH6.below hw7
      have hX7 := hX6.below hw7
      have hF7 : LI w w7 A7 c7' F := LI.of hS6.bel.size ho7
      clear hS6 hC6 hw7 ha6 hH6 hX6 ho7 x0 x1 x2
      have hC7 := heightsOfI_any W T A2 bs.length c2 w7.heap.size bs F A7 F.length c7' w7 rfl rfl hS7.rd hF7.rd (Nat.le_refl _) (by omega) (by omega)
      rw [hG] at hC7
      obtain ⟨x0, x1, x2⟩ := hS7.cells
      go_wp2_with fail
      refine hC7.mono ?_
      rintro e w8 ⟨A8, c8', rfl, _, ho8, hw8⟩
      have hS8 := hS7.below hw8
      have ha8 := ha7.below hw8
      have hH8 := hH7.below hw8
      have hX8 := hX7.below hw8
      have hF8 := hF7.below hw8
      have hG8 : LI w w8 A8 c8' G := LI.of hS7.bel.size ho8
      clear hS7 hC7 hw8 ha7 hH7 hX7 hF7 ho8 x0 x1 x2
      go_upto_region 15 with fail
      go_loopg [11] H.length (fun r s11 wr => ∃ j : Nat, j + r = H.length ∧ s11 = .int .i64 (j : Nat) ∧ LS w wr x W T A2 c2 bs ∧ LI w wr Da da a ∧ LI w wr A3 c3' H ∧ LI w wr A6 c6' a ∧ LI w wr A7 c7' F ∧ LI w wr A8 c8' G)
      case atStart => exact ⟨0, by omega, rfl, hS8, ha8, hH8, hX8, hF8, hG8⟩
      case round =>
        clear hS8 ha8 hH8 hX8 hF8 hG8
        obtain ⟨j, hj, rfl, hS8, ha8, hH8, hX8, hF8, hG8⟩ := hrel
        have HJ := Lib.hid hj
        clear hj
        by_cases hlt : j < H.length
        · have j1 : j < G.length := by rw [HG1.out]; exact hlt
          obtain ⟨g1, hg1, d1⟩ := hH8.cell hlt
          obtain ⟨g2, hg2, d2⟩ := hG8.cell j1
          subst hg1
          subst hg2
          obtain ⟨hm, hz1, hz2⟩ := HG3.out j hlt
          generalize H.getD j 0 = z1 at *
          generalize G.getD j 0 = z2 at *
          have hsub : IntKind.i64.wrap (z1 - z2) = z1 - z2 := IntWalk.i64_in _ (by omega)
          have h00 : ((0 : Int) != 0) = false := rfl
          clear hz1 hz2
          go_wp2
          go_quiet (fail)
          go_wp2_with fail
          go_roundg (H.length - (j + 1))
          case measure => have := HJ.out; omega
          case rel =>
            have hbd := below_drewN (Below.refl wr.heap.size wr) nq
            exact ⟨j + 1, by have := HJ.out; omega, by go_num, hS8.below hbd, ha8.below hbd, hH8.below hbd, hX8.below hbd, hF8.below hbd, hG8.below hbd⟩
        ·
          clear HJ
          have hC8 := hokI_any W T A2 bs.length c2 wr.heap.size bs H A3 H.length c3' wr rfl rfl hS8.rd hH8.rd (Nat.le_refl _) (by omega) (by omega)
          rw [l1] at hC8
          obtain ⟨x0, x1, x2⟩ := hS8.cells
          go_wp2_with fail
          refine hC8.mono ?_
          rintro e w9 ⟨rfl, hw9⟩
          have hS9 := hS8.below hw9
          have ha9 := ha8.below hw9
          have hH9 := hH8.below hw9
          have hX9 := hX8.below hw9
          have hF9 := hF8.below hw9
          have hG9 := hG8.below hw9
          clear hS8 hC8 hw9 ha8 hH8 hX8 hF8 hG8 x0 x1 x2
          have hC9 := sameInts_any a a A6 Da a.length c6' a.length da w9.heap.size w9 rfl rfl hX9.rd ha9.rd (by omega) (by omega)
          rw [beq_self_list] at hC9
          go_wp2_with fail
          refine hC9.mono ?_
          rintro e w10 ⟨rfl, hw10⟩
          have hS10 := hS9.below hw10
          have ha10 := ha9.below hw10
          have hH10 := hH9.below hw10
          have hX10 := hX9.below hw10
          have hF10 := hF9.below hw10
          have hG10 := hG9.below hw10
          clear hS9 hC9 hw10 ha9 hH9 hX9 hF9 hG9 
          have hbel := hS10.bel
          clear hS10 ha10 hH10 hX10 hF10 hG10
          go_wp2_with fail
          go_ret
          exact ⟨rfl, hbel⟩

end Go.Proofs.Ytpeifojfpkkcpaa
