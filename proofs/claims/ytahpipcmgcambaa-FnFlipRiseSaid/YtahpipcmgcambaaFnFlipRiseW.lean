/-
  YtahpipcmgcambaaFnFlipRiseW: the walk of FnFlipRise.
-/
import Derived.Test.YtahpipcmgcambaaDv
import Derived.Test.YtahpipcmgcambaaLw
import Derived.Test.YtahpipcmgcambaaLz
import Derived.Test.YtahpipcmgcambaaFo
import Derived.BigRegion
namespace Go.Proofs.Ytahpipcmgcambaa
open Go.RowKit
theorem frV_bd {W T : Int} {bs : List Bool} {L : List Int} {k : Int} : frV W T bs L k = 0 ∨ frV W T bs L k = 4 ∨ frV W T bs L k = -4 := by
  cases h : tiledB W T bs L with
  | false => exact .inl (frV_no h)
  | true =>
    obtain ⟨R, hR, rfl, rfl, rfl, hS, h1, h2⟩ := tiled_cases h
    rw [frV_yes h]
    by_cases hz : rsZ R L k = 0
    · exact .inl hz
    · obtain ⟨_, _, _, _, hr, _⟩ := law_rise hR hS ⟨h1, h2⟩ hz
      exact .inr hr
/-- What FnFlipRise says where the flip can be done. -/
theorem law_flipRise {W T : Int} {bs : List Bool} {L : List Int} {k : Int} (h : frV W T bs L k ≠ 0) :
    ∃ m : Nat, k = (m : Int) ∧ htsOf W T bs (foV W T bs L k) = (htsOf W T bs L).set m ((htsOf W T bs L).getD m 0 + frV W T bs L k) ∧ m < (htsOf W T bs L).length ∧
      frV W T bs (foV W T bs L k) k = - frV W T bs L k ∧ apartV W T bs L (foV W T bs L k) = 1 := by
  cases ht : tiledB W T bs L with
  | false => exact absurd (frV_no ht) h
  | true =>
    obtain ⟨R, hR, rfl, rfl, rfl, hS, h1, h2⟩ := tiled_cases ht
    rw [frV_yes ht] at h ⊢
    obtain ⟨m, rfl, hm, hf, hr, ht2, e1, e2, e3⟩ := law_rise hR hS ⟨h1, h2⟩ h
    have hl : laidB R.W R.T R.C L = true := by rw [laidB_ok hR]; exact (laysB_iff hR).2 h1
    rw [(foV_yes (k := (m : Int)) hl).1]
    exact ⟨m, rfl, e1, by rw [hts_len hR hS ⟨h1, h2⟩]; exact hm, e2, e3⟩
/-- And where it cannot. -/
theorem law_flipRise0 {W T : Int} {bs : List Bool} {L : List Int} {k : Int} (h : frV W T bs L k = 0) (hf : foB W T bs L k = true) (hs : simpleB W T bs = true) : tilingB W T bs L = false := by
  cases ht : tilingB W T bs L with
  | false => rfl
  | true =>
    have htd : tiledB W T bs L = true := by unfold tiledB; rw [hs, ht]; rfl
    obtain ⟨R, hR, rfl, rfl, rfl, hS, h1, h2⟩ := tiled_cases htd
    have hl : laidB R.W R.T R.C L = true := by rw [laidB_ok hR]; exact (laysB_iff hR).2 h1
    rw [(foV_yes (k := k) hl).2] at hf
    rw [frV_yes htd] at h
    obtain ⟨m, rfl, _, _⟩ := flB_nat hf
    rw [rsZ_nat] at h
    have := rsV_or hf
    omega

set_option maxHeartbeats 4000000 in
set_option maxRecDepth 20000 in
theorem FnFlipRise_walk (w : World) (A : Option Addr) (n c : Nat) (zs : List Int) (hnc : n ≤ c) (hm : n ≤ maxLen) (_hl : zs.length = n) (hr : Reads w w.heap.size 1 A n (zs.map (Value.int .u8))) (hwz : ∀ z ∈ zs, (Lit.int .u8 z).wf = true) :
    Calls Try.prog 9 #[.slice A n c] w fun e w' => e = .returned (.bool true) ∧ Below w.heap.size w w' := by
  unfold maxLen at hm
  by_cases hb : 1048576 < n
  · go_enter Try.func9, Try.ntmps9
    go_wp2_with fail
    go_ret
    exact ⟨rfl, Below.refl _ _⟩
  · have hDR := hide (drawFlipRise_any A n c zs w hr hnc (by omega) hwz)
    clear hr hwz hm _hl
    go_enter Try.func9, Try.ntmps9
    go_wp2_with fail
    refine (unhide hDR).mono ?_
    rintro e w1 ⟨W, T, A2, c2, Da, da, bs, a, k, rfl, hreg, ha1, hna, hk1, hk2, hB1⟩
    clear hDR
    have hS2 := LS.start (W := W) (T := T) hB1 hreg
    have ha2 : LI w (w1.alloc (.cells #[.int .i64 W, .int .i64 T, .slice A2 bs.length c2] 25)) Da da a := ha1.below ((Below.refl _ _).alloc (Nat.le_refl _) _)
    clear hreg hB1 ha1
    go_upto_region 4 with fail
    generalize w1.alloc (.cells #[.int .i64 W, .int .i64 T, .slice A2 bs.length c2] 25) = w2 at *
    generalize w1.heap.size = x at *
    have hbs := hS2.len
    have hfr := frV_bd (W := W) (T := T) (bs := bs) (L := a) (k := k)
    have hl0 := law_flipRise0 (W := W) (T := T) (bs := bs) (L := a) (k := k)
    have hl1 := law_flipRise (W := W) (T := T) (bs := bs) (L := a) (k := k)
    have hXl := foV_len (W := W) (T := T) (bs := bs) (L := a) (k := k)
    obtain ⟨fr, hF⟩ : ∃ fr, frV W T bs a k = fr := ⟨_, rfl⟩
    obtain ⟨X, hX⟩ : ∃ X, foV W T bs a k = X := ⟨_, rfl⟩
    obtain ⟨fo, hfo⟩ : ∃ fo, foB W T bs a k = fo := ⟨_, rfl⟩
    rw [hF] at hfr hl0 hl1
    rw [hfo] at hl0
    rw [hX] at hl1 hXl
    have hC2 := flipRiseI_any W T A2 bs.length c2 w2.heap.size bs a Da a.length da k (by omega) ha2.plain w2 rfl rfl hS2.rd ha2.rd (Nat.le_refl _) (by omega) (by omega)
    rw [hF] at hC2
    obtain ⟨x0, x1, x2⟩ := hS2.cells
    go_wp2_with fail
    refine hC2.mono ?_
    rintro e w3 ⟨rfl, hw3⟩
    have hS3 := hS2.below hw3
    have ha3 := ha2.below hw3
    clear hS2 hC2 hw3 ha2 x0 x1 x2
    have hC3 := flipRiseS_any W T A2 bs.length c2 w3.heap.size bs a Da a.length da k w3 rfl rfl hS3.rd ha3.rd (Nat.le_refl _) (by omega) (by omega)
    rw [hF] at hC3
    obtain ⟨x0, x1, x2⟩ := hS3.cells
    go_wp2_with fail
    refine hC3.mono ?_
    rintro e w4 ⟨rfl, hw4⟩
    have hS4 := hS3.below hw4
    have ha4 := ha3.below hw4
    clear hS3 hC3 hw4 ha3 x0 x1 x2
    have hnn : (fr != fr) = false := by simp
    have hC4 := flipOneI_any W T A2 bs.length c2 w4.heap.size bs a Da a.length da k (by omega) ha4.plain w4 rfl rfl hS4.rd ha4.rd (Nat.le_refl _) (by omega) (by omega)
    rw [hX, hfo] at hC4
    obtain ⟨x0, x1, x2⟩ := hS4.cells
    go_wp2_with fail
    refine hC4.mono ?_
    rintro e w5 ⟨A5, c5, c5', rfl, ho5, hw5⟩
    have hS5 := hS4.below hw5
    have ha5 := ha4.below hw5
    have hX5 : LI w w5 A5 c5' X := LI.of hS4.bel.size ho5
    clear hS4 hC4 hw5 ha4 ho5 x0 x1 x2
    clear hnn
    by_cases h0 : fr = 0
    · subst h0
      cases fo with
      | false =>
        clear hl0 hl1
        have hbel := hS5.bel
        clear hS5 ha5 hX5
        go_wp2_with fail
        refine (alive_any _).mono ?_
        rintro e w6 ⟨rfl, hw6⟩
        go_wp2_with fail
        go_ret
        exact ⟨rfl, hbel.trans (hw6.mono hbel.size)⟩
      | true =>
        obtain ⟨sb, hsb⟩ : ∃ sb, simpleB W T bs = sb := ⟨_, rfl⟩
        have hl2 := hl0 rfl rfl
        rw [hsb] at hl2
        clear hl0 hl1
        have hC5 := SimpleI_any W T A2 bs.length c2 w5.heap.size bs w5 hS5.rd (Nat.le_refl _) (by omega)
        rw [hsb] at hC5
        obtain ⟨x0, x1, x2⟩ := hS5.cells
        go_wp2_with fail
        refine hC5.mono ?_
        rintro e w6 ⟨rfl, hw6⟩
        have hS6 := hS5.below hw6
        have ha6 := ha5.below hw6
        have hX6 := hX5.below hw6
        clear hS5 hC5 hw6 ha5 hX5 x0 x1 x2
        cases sb with
        | false =>
          clear hl2
          have hbel := hS6.bel
          clear hS6 ha6 hX6
          go_wp2_with fail
          refine (alive_any _).mono ?_
          rintro e w7 ⟨rfl, hw7⟩
          go_wp2_with fail
          go_ret
          exact ⟨rfl, hbel.trans (hw7.mono hbel.size)⟩
        | true =>
          have hl3 := hl2 rfl
          clear hl2
          have hC6 := tilingOkI_any W T A2 bs.length c2 w6.heap.size bs a Da a.length da w6 rfl rfl hS6.rd ha6.rd (Nat.le_refl _) (by omega) (by omega)
          rw [hl3] at hC6
          obtain ⟨x0, x1, x2⟩ := hS6.cells
          go_wp2_with fail
          refine hC6.mono ?_
          rintro e w7 ⟨rfl, hw7⟩
          have hS7 := hS6.below hw7
          have ha7 := ha6.below hw7
          have hX7 := hX6.below hw7
          clear hS6 hC6 hw7 ha6 hX6 x0 x1 x2
          have hbel := hS7.bel
          clear hS7 ha7 hX7
          go_wp2_with fail
          refine (alive_any _).mono ?_
          rintro e w8 ⟨rfl, hw8⟩
          go_wp2_with fail
          go_ret
          exact ⟨rfl, hbel.trans (hw8.mono hbel.size)⟩
    · obtain ⟨m, rfl, hts, hm, e2, e3⟩ := hl1 h0
      have h0d : (fr == 0) = false := by simpa using h0
      have hfr2 : fr = 4 ∨ fr = -4 := hfr.resolve_left h0
      have hHl := htsOf_len (W := W) (T := T) (bs := bs) (L := a)
      obtain ⟨H, hH⟩ : ∃ H, htsOf W T bs a = H := ⟨_, rfl⟩
      rw [hH] at hts hHl hm
      obtain ⟨G, hG⟩ : ∃ G, G = H.set m (H.getD m 0 + fr) := ⟨_, rfl⟩
      rw [← hG] at hts
      have hGl : G.length = H.length := by rw [hG, List.length_set]
      have hGm : G.getD m 0 = H.getD m 0 + fr := by rw [hG, List.getD_eq_getElem?_getD, List.getElem?_set_self hm]; rfl
      have hGj : ∀ j, j ≠ m → G.getD j 0 = H.getD j 0 := fun j hj => by rw [hG, List.getD_eq_getElem?_getD, List.getElem?_set_ne (Ne.symm hj), ← List.getD_eq_getElem?_getD]
      have HGL := Lib.hid hGl
      have HGM := Lib.hid hGm
      have HGJ := Lib.hid hGj
      have hGl9 : G.length ≤ 99 := by omega
      have hlen : ((H.length : Int) != (G.length : Int)) = false := by rw [bne_eq_false_iff_eq]; omega
      have hn4 : ((fr != 4) && (fr != -4)) = false := by rcases hfr2 with h | h <;> rw [h] <;> rfl
      clear hl0 hl1 hG hGl hGm hGj h0 hfr
      have hC5 := heightsOfI_any W T A2 bs.length c2 w5.heap.size bs a Da a.length da w5 rfl rfl hS5.rd ha5.rd (Nat.le_refl _) (by omega) (by omega)
      rw [hH] at hC5
      obtain ⟨x0, x1, x2⟩ := hS5.cells
      go_wp2_with fail
      refine hC5.mono ?_
      rintro e w6 ⟨A6, c6', rfl, _, ho6, hw6⟩
      have hS6 := hS5.below hw6
      have ha6 := ha5.below hw6
      have hX6 := hX5.below hw6
      have hP6 : LI w w6 A6 c6' H := LI.of hS5.bel.size ho6
      clear hS5 hC5 hw6 ha5 hX5 ho6 x0 x1 x2
      have hC6 := heightsOfI_any W T A2 bs.length c2 w6.heap.size bs X A5 X.length c5' w6 rfl rfl hS6.rd hX6.rd (Nat.le_refl _) (by omega) (by omega)
      rw [hts] at hC6
      obtain ⟨x0, x1, x2⟩ := hS6.cells
      go_wp2_with fail
      refine hC6.mono ?_
      rintro e w7 ⟨A7, c7', rfl, _, ho7, hw7⟩
      have hS7 := hS6.below hw7
      have ha7 := ha6.below hw7
      have hX7 := hX6.below hw7
      have hP7 := hP6.below hw7
      have hQ7 : LI w w7 A7 c7' G := LI.of hS6.bel.size ho7
      clear hS6 hC6 hw7 ha6 hX6 hP6 ho7 x0 x1 x2
      rcases hfr2 with rfl | rfl
      ·
        clear hn4
        go_upto_region 15 with fail
        go_loopg [11] H.length (fun r s11 wr => ∃ j : Nat, j + r = H.length ∧ s11 = .int .i64 (j : Nat) ∧ LS w wr x W T A2 c2 bs ∧ LI w wr Da da a ∧ LI w wr A5 c5' X ∧ LI w wr A6 c6' H ∧ LI w wr A7 c7' G)
        case atStart => exact ⟨0, by omega, rfl, hS7, ha7, hX7, hP7, hQ7⟩
        case round =>
          clear hS7 ha7 hX7 hP7 hQ7
          obtain ⟨j, hj, rfl, hS, ha, hX', hP, hQ⟩ := hrel
          have HJ := Lib.hid hj
          clear hj
          by_cases hlt : j < H.length
          · have j1 : j < G.length := by rw [HGL.out]; exact hlt
            obtain ⟨g1, hg1, d1⟩ := hP.cell hlt
            obtain ⟨g2, hg2, d2⟩ := hQ.cell j1
            subst hg1
            subst hg2
            by_cases hjm : j = m
            · subst hjm
              have hs := HGM.out
              generalize H.getD j 0 = z1 at *
              generalize G.getD j 0 = z2 at *
              have hsub : IntKind.i64.wrap (z2 - z1) = 4 := by rw [hs, show z1 + 4 - z1 = 4 by omega]; exact IntWalk.i64_in _ (by omega)
              have heq : (((j : Nat) : Int) == ((j : Nat) : Int)) = true := by simp
              have hne : (((j : Nat) : Int) != ((j : Nat) : Int)) = false := by simp
              have hff : ((4 : Int) != 4) = false := by simp
              clear hs hm
              go_wp2
              go_quiet (fail)
              go_wp2_with fail
              go_roundg (H.length - (j + 1))
              case measure => have := HJ.out; omega
              case rel =>
                have hbd := below_drewN (Below.refl wr.heap.size wr) nq
                exact ⟨j + 1, by have := HJ.out; omega, by go_num, hS.below hbd, ha.below hbd, hX'.below hbd, hP.below hbd, hQ.below hbd⟩
            · have hs := HGJ.out j hjm
              rw [hs] at d2
              generalize H.getD j 0 = z1 at *
              have heq : (((j : Nat) : Int) == ((m : Nat) : Int)) = false := by rw [beq_eq_false_iff_ne]; omega
              have hne : (((j : Nat) : Int) != ((m : Nat) : Int)) = true := by rw [bne_iff_ne]; omega
              have hff : (z1 != z1) = false := by simp
              clear hs hm hjm
              go_wp2
              go_quiet (fail)
              go_wp2_with fail
              go_roundg (H.length - (j + 1))
              case measure => have := HJ.out; omega
              case rel =>
                have hbd := below_drewN (Below.refl wr.heap.size wr) nq
                exact ⟨j + 1, by have := HJ.out; omega, by go_num, hS.below hbd, ha.below hbd, hX'.below hbd, hP.below hbd, hQ.below hbd⟩
          · have hC1 := flipRiseI_any W T A2 bs.length c2 wr.heap.size bs X A5 X.length c5' (m : Int) (by omega) hX'.plain wr rfl rfl hS.rd hX'.rd (Nat.le_refl _) (by omega) (by omega)
            rw [e2] at hC1
            obtain ⟨x0, x1, x2⟩ := hS.cells
            go_wp2_with fail
            refine hC1.mono ?_
            rintro e w8 ⟨rfl, hw8⟩
            have hS8 := hS.below hw8
            have ha8 := ha.below hw8
            have hX8 := hX'.below hw8
            clear hS ha hX' hP hQ hw8 hC1 x0 x1 x2
            have hC2 := apartI_any W T A2 bs.length c2 w8.heap.size bs a Da a.length da X A5 X.length c5' w8 rfl rfl rfl hS8.rd ha8.rd hX8.rd (Nat.le_refl _) (by omega) (by omega) (by omega)
            rw [e3] at hC2
            obtain ⟨x0, x1, x2⟩ := hS8.cells
            go_wp2_with fail
            refine hC2.mono ?_
            rintro e w9 ⟨rfl, hw9⟩
            have hbel := (hS8.below hw9).bel
            clear hS8 ha8 hX8 hw9 hC2 x0 x1 x2
            go_wp2_with fail
            go_ret
            exact ⟨rfl, hbel⟩
      ·
        clear hn4
        go_upto_region 15 with fail
        go_loopg [11] H.length (fun r s11 wr => ∃ j : Nat, j + r = H.length ∧ s11 = .int .i64 (j : Nat) ∧ LS w wr x W T A2 c2 bs ∧ LI w wr Da da a ∧ LI w wr A5 c5' X ∧ LI w wr A6 c6' H ∧ LI w wr A7 c7' G)
        case atStart => exact ⟨0, by omega, rfl, hS7, ha7, hX7, hP7, hQ7⟩
        case round =>
          clear hS7 ha7 hX7 hP7 hQ7
          obtain ⟨j, hj, rfl, hS, ha, hX', hP, hQ⟩ := hrel
          have HJ := Lib.hid hj
          clear hj
          by_cases hlt : j < H.length
          · have j1 : j < G.length := by rw [HGL.out]; exact hlt
            obtain ⟨g1, hg1, d1⟩ := hP.cell hlt
            obtain ⟨g2, hg2, d2⟩ := hQ.cell j1
            subst hg1
            subst hg2
            by_cases hjm : j = m
            · subst hjm
              have hs := HGM.out
              generalize H.getD j 0 = z1 at *
              generalize G.getD j 0 = z2 at *
              have hsub : IntKind.i64.wrap (z2 - z1) = (-4) := by rw [hs, show z1 + (-4) - z1 = (-4) by omega]; exact IntWalk.i64_in _ (by omega)
              have heq : (((j : Nat) : Int) == ((j : Nat) : Int)) = true := by simp
              have hne : (((j : Nat) : Int) != ((j : Nat) : Int)) = false := by simp
              have hff : (((-4) : Int) != (-4)) = false := by simp
              clear hs hm
              go_wp2
              go_quiet (fail)
              go_wp2_with fail
              go_roundg (H.length - (j + 1))
              case measure => have := HJ.out; omega
              case rel =>
                have hbd := below_drewN (Below.refl wr.heap.size wr) nq
                exact ⟨j + 1, by have := HJ.out; omega, by go_num, hS.below hbd, ha.below hbd, hX'.below hbd, hP.below hbd, hQ.below hbd⟩
            · have hs := HGJ.out j hjm
              rw [hs] at d2
              generalize H.getD j 0 = z1 at *
              have heq : (((j : Nat) : Int) == ((m : Nat) : Int)) = false := by rw [beq_eq_false_iff_ne]; omega
              have hne : (((j : Nat) : Int) != ((m : Nat) : Int)) = true := by rw [bne_iff_ne]; omega
              have hff : (z1 != z1) = false := by simp
              clear hs hm hjm
              go_wp2
              go_quiet (fail)
              go_wp2_with fail
              go_roundg (H.length - (j + 1))
              case measure => have := HJ.out; omega
              case rel =>
                have hbd := below_drewN (Below.refl wr.heap.size wr) nq
                exact ⟨j + 1, by have := HJ.out; omega, by go_num, hS.below hbd, ha.below hbd, hX'.below hbd, hP.below hbd, hQ.below hbd⟩
          · have hC1 := flipRiseI_any W T A2 bs.length c2 wr.heap.size bs X A5 X.length c5' (m : Int) (by omega) hX'.plain wr rfl rfl hS.rd hX'.rd (Nat.le_refl _) (by omega) (by omega)
            rw [e2] at hC1
            obtain ⟨x0, x1, x2⟩ := hS.cells
            go_wp2_with fail
            refine hC1.mono ?_
            rintro e w8 ⟨rfl, hw8⟩
            have hS8 := hS.below hw8
            have ha8 := ha.below hw8
            have hX8 := hX'.below hw8
            clear hS ha hX' hP hQ hw8 hC1 x0 x1 x2
            have hC2 := apartI_any W T A2 bs.length c2 w8.heap.size bs a Da a.length da X A5 X.length c5' w8 rfl rfl rfl hS8.rd ha8.rd hX8.rd (Nat.le_refl _) (by omega) (by omega) (by omega)
            rw [e3] at hC2
            obtain ⟨x0, x1, x2⟩ := hS8.cells
            go_wp2_with fail
            refine hC2.mono ?_
            rintro e w9 ⟨rfl, hw9⟩
            have hbel := (hS8.below hw9).bel
            clear hS8 ha8 hX8 hw9 hC2 x0 x1 x2
            go_wp2_with fail
            go_ret
            exact ⟨rfl, hbel⟩

end Go.Proofs.Ytahpipcmgcambaa
