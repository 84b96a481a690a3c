/-
  YthepfpiphlfgnaaFnTilingLowW: the walk of FnTilingLow.
-/
import Derived.Test.YthepfpiphlfgnaaDv
import Derived.Test.YthepfpiphlfgnaaLz
import Derived.Test.YthepfpiphlfgnaaLk
import Derived.Test.YthepfpiphlfgnaaCz
import Derived.Deep.RegionHeld
namespace Go.Proofs.Ythepfpiphlfgnaa
open Go.RowKit

set_option maxHeartbeats 4000000 in
set_option maxRecDepth 100000 in
theorem FnTilingLow_walk (w : World) (A : Option Addr) (n c : Nat) (zs : List Int) (hnc : n ≤ c) (hm : n ≤ maxLen) (_hl : zs.length = n) (hr : Reads w w.heap.size 1 A n (zs.map (Value.int .u8))) (hwz : ∀ z ∈ zs, (Lit.int .u8 z).wf = true) (Am : Option Addr) (nm cm : Nat) (zm : List Int) (_hncm : nm ≤ cm) (_hmm : nm ≤ maxLen) (_hlm : zm.length = nm) (_hrm : Reads w w.heap.size 1 Am nm (zm.map (Value.int .u8))) (_hwm : ∀ z ∈ zm, (Lit.int .u8 z).wf = true) :
    Calls Try.prog 3 #[.slice A n c, .slice Am nm cm] w fun e w' => e = .returned (.bool true) ∧ Below w.heap.size w w' := by
  unfold maxLen at hm
  by_cases hb : 1048576 < n
  · go_enter Try.func3, Try.ntmps3
    go_wp2_with fail
    go_ret
    exact ⟨rfl, Below.refl _ _⟩
  clear _hmm
  by_cases hbm : 1048576 < nm
  · go_enter Try.func3, Try.ntmps3
    go_wp2_with fail
    go_ret
    exact ⟨rfl, Below.refl _ _⟩
  · have hDR := hide (drawTilingLow_any A n c zs w hr hnc (by omega) hwz)
    clear hr hwz hm _hl
    go_enter Try.func3, Try.ntmps3
    go_wp2_with fail
    refine (unhide hDR).mono ?_
    rintro e w1 ⟨W, T, A2, c2, Da, da, Db, db, bs, a, b, rfl, hreg, ha1, hna, hb1, hnb, hB1⟩
    clear hDR
    have hS2 := LS.start (W := W) (T := T) hB1 hreg
    have ha2 : LI w (w1.alloc (.cells #[.int .i64 W, .int .i64 T, .slice A2 bs.length c2] 25)) Da da a := ha1.below ((Below.refl _ _).alloc (Nat.le_refl _) _)
    have hb2 : LI w (w1.alloc (.cells #[.int .i64 W, .int .i64 T, .slice A2 bs.length c2] 25)) Db db b := hb1.below ((Below.refl _ _).alloc (Nat.le_refl _) _)
    clear hreg hB1 ha1 hb1
    go_upto_region 4 with fail
    generalize w1.alloc (.cells #[.int .i64 W, .int .i64 T, .slice A2 bs.length c2] 25) = w2 at *
    generalize w1.heap.size = x at *
    have hbs := hS2.len
    have hXl := twoV_len36 keeps_min (W := W) (T := T) (bs := bs) (a := a) (b := b)
    have hHl := twoV_len36 keeps_max (W := W) (T := T) (bs := bs) (a := a) (b := b)
    obtain ⟨ok, hok⟩ : ∃ ok, twoB W T bs a b = ok := ⟨_, rfl⟩
    have hno : ok = false → twoV min W T bs a b = [] := fun h => twoV_mty (hok.trans h)
    have htd : ok = true → tiledB W T bs a = true := fun h => (twoB_iff.1 (hok.trans h)).1
    have hl1 := fun (h : ok = true) (c : List Int) (hc : tiledB W T bs c = true) => law_tilingLow (hok.trans h) hc
    have hl2 := fun (h : ok = true) (c : List Int) (hc : tiledB W T bs c = true) => law_tilingLowB (hok.trans h) hc
    obtain ⟨tm, htm⟩ : ∃ tm, tmI W T bs = tm := ⟨_, rfl⟩
    have hmp := fun (h : ok = true) => many_pos (htd h)
    have hpt := fun (h : ok = true) (z : Int) (h0 : 0 ≤ z) (h1 : z < tm) => pick_tiled (htd h) h0 (htm.symm ▸ h1)
    obtain ⟨X, hX⟩ : ∃ X, twoV min W T bs a b = X := ⟨_, rfl⟩
    obtain ⟨H, hH⟩ : ∃ H, twoV max W T bs a b = H := ⟨_, rfl⟩
    rw [hX] at hXl hno hl1 hl2
    rw [hH] at hHl hl1 hl2
    rw [htm] at hmp
    have hC2 := tilingLowI_any W T A2 bs.length c2 w2.heap.size bs a Da a.length da b Db b.length db w2 rfl rfl rfl hS2.rd ha2.rd hb2.rd (Nat.le_refl _) (by omega) (by omega) (by omega)
    rw [hX, hok] at hC2
    obtain ⟨x0, x1, x2⟩ := hS2.cells
    go_wp2_with fail
    refine hC2.mono ?_
    rintro e w3 ⟨A3, c3, c3', rfl, ho3, hw3⟩
    have hS3 := hS2.below hw3
    have ha3 := ha2.below hw3
    have hb3 := hb2.below hw3
    have hX3 : LI w w3 A3 c3' X := LI.of hS2.bel.size ho3
    clear hS2 hC2 hw3 ha2 hb2 ho3 x0 x1 x2
    have hC3 := tilingLowS_any W T A2 bs.length c2 w3.heap.size bs a Da a.length da b Db b.length db w3 rfl rfl rfl hS3.rd ha3.rd hb3.rd (Nat.le_refl _) (by omega) (by omega) (by omega)
    rw [hX, hok] at hC3
    obtain ⟨x0, x1, x2⟩ := hS3.cells
    go_wp2_with fail
    refine hC3.mono ?_
    rintro e w4 ⟨A4, c4, c4', rfl, ho4, hw4⟩
    have hS4 := hS3.below hw4
    have ha4 := ha3.below hw4
    have hb4 := hb3.below hw4
    have hX4 := hX3.below hw4
    have hY4 : LI w w4 A4 c4' X := LI.of hS3.bel.size ho4
    clear hS3 hC3 hw4 ha3 hb3 hX3 ho4 x0 x1 x2
    have hC4 := sameInts_any X X A3 A4 X.length c3' X.length c4' w4.heap.size w4 rfl rfl hX4.rd hY4.rd (by omega) (by omega)
    rw [beq_self_list] at hC4
    go_wp2_with fail
    refine hC4.mono ?_
    rintro e w5 ⟨rfl, hw5⟩
    have hS5 := hS4.below hw5
    have ha5 := ha4.below hw5
    have hb5 := hb4.below hw5
    have hX5 := hX4.below hw5
    clear hS4 hC4 hw5 ha4 hb4 hX4 hY4 
    cases ok with
    | true =>
      replace hmp := hmp rfl
      replace hpt := hpt rfl
      replace hl1 := hl1 rfl
      replace hl2 := hl2 rfl
      clear hno htd
      obtain ⟨z, hz⟩ : ∃ z, ((nm : Int) % max tm 1) = z := ⟨_, rfl⟩
      have hz0 : 0 ≤ z := by rw [← hz]; exact Int.emod_nonneg _ (by omega)
      have hz1 : z < tm := by rw [← hz]; have := Int.emod_lt_of_pos (nm : Int) (show 0 < max tm 1 by omega); omega
      obtain ⟨p1, p2⟩ := hpt z hz0 hz1
      replace hl1 := hl1 _ p2
      replace hl2 := hl2 _ p2
      clear p2 hpt
      obtain ⟨C, hC⟩ : ∃ C, toIV W T bs z = C := ⟨_, rfl⟩
      rw [hC] at hl1 hl2
      have hzm : ((nm : Int)).tmod (max tm 1) = z := by rw [Int.tmod_eq_emod_of_nonneg (by omega)]; exact hz
      have hCl : C.length ≤ 36 := by rw [← hC]; exact toIV_len36 W T bs z
      obtain ⟨l1, l2, l3, l4, l5⟩ := hl1
      obtain ⟨m1, m2, m3, m4, m5⟩ := hl2
      have hmx : ¬ max tm 1 = 0 := by omega
      go_upto_region 11 with fail
      have hd0 := (Below.refl w5.heap.size w5).drew
      have hG0 := hide (tilingsManyI_any W T A2 bs.length c2 w5.drew.heap.size bs w5.drew rfl (hS5.below hd0).rd (Nat.le_refl _) (by omega))
      rw [htm] at hG0
      have hG1 := fun w' (h : Below w5.heap.size w5 w') => hide (tilingOfI_any W T A2 bs.length c2 w'.heap.size bs z w' rfl (hS5.below h).rd (Nat.le_refl _) (by omega))
      rw [hC, p1] at hG1
      refine wp_region_held_drew (S := (fun w' => w'.cell? ⟨x, 0, none⟩ = some (.int .i64 W) ∧ w'.cell? ⟨x, 1, none⟩ = some (.int .i64 T) ∧ w'.cell? ⟨x, 2, none⟩ = some (.slice A2 bs.length c2))) (by kernel_rfl) (hS5.below hd0).cells ?_
      intro hHeld
      refine wpAnyH_take (i := 0) (v := ?_) rfl (by kernel_rfl) (by kernel_rfl) (by kernel_rfl) (fun _ _ _ h => h) (Or.inl ⟨by kernel_rfl, ?_⟩) hHeld ?_
      rotate_left
      · intro w' hS'
        obtain ⟨x0, x1, x2⟩ := hS'
        go_simp
        try with_reducible rfl
      refine wpAnyH_take (i := 1) (v := ?_) rfl (by kernel_rfl) (by kernel_rfl) (by kernel_rfl) (fun _ _ _ h => h) (Or.inl ⟨by kernel_rfl, ?_⟩) hHeld ?_
      rotate_left
      · intro w' hS'
        clear hS'
        go_simp
        try with_reducible rfl
      refine wpAnyH_take (i := 2) (v := ?_) rfl (by kernel_rfl) (by kernel_rfl) (by kernel_rfl) (fun _ _ _ h => h) (Or.inl ⟨by kernel_rfl, ?_⟩) hHeld ?_
      rotate_left
      · intro w' hS'
        obtain ⟨x0, x1, x2⟩ := hS'
        go_simp
        try with_reducible rfl
      refine wpAnyH_ready (rs := [3]) (by kernel_rfl) (by simp) ?_
      refine AllReadyH.cons rfl (fun K hK => ?_) AllReadyH.nil
      go_simp
      go_at_call 19
      (with_reducible refine (unhide hG0).mono ?_)
      rintro e w6 ⟨rfl, hq6⟩
      have hB6 := hd0.trans (hq6.mono hd0.size)
      refine hK.out _ _ ?_ ?_
      · exact (hS5.below hB6).cells
      clear hHeld
      intro hHeld
      clear hK K
      refine wpAnyH_take (i := 4) (v := ?_) rfl (by kernel_rfl) (by kernel_rfl) (by kernel_rfl) (fun _ _ _ h => h) (Or.inl ⟨by kernel_rfl, ?_⟩) hHeld ?_
      rotate_left
      · intro w' hS'
        clear hS'
        go_simp
        try with_reducible rfl
      refine wpAnyH_take (i := 5) (v := ?_) rfl (by kernel_rfl) (by kernel_rfl) (by kernel_rfl) (fun _ _ _ h => h) (Or.inl ⟨by kernel_rfl, ?_⟩) hHeld ?_
      rotate_left
      · intro w' hS'
        clear hS'
        go_simp
        try with_reducible rfl
      refine wpAnyH_ready (rs := [6]) (by kernel_rfl) (by simp) ?_
      refine AllReadyH.cons rfl (fun K hK => ?_) AllReadyH.nil
      go_simp
      go_at_call 18
      (with_reducible refine (unhide (hG1 _ hB6)).mono ?_)
      rintro e w7 ⟨AC, cC, cC', rfl, hoC, hq7⟩
      have hB7 := hB6.trans (hq7.mono hB6.size)
      refine hK.out _ _ ?_ ?_
      · exact (hS5.below hB7).cells
      clear hHeld
      intro hHeld
      clear hK K
      refine wpAnyH_take (i := 7) (v := ?_) rfl (by kernel_rfl) (by kernel_rfl) (by kernel_rfl) (fun _ _ _ h => h) (Or.inl ⟨by kernel_rfl, ?_⟩) hHeld ?_
      rotate_left
      · intro w' hS'
        clear hS'
        go_simp
        try with_reducible rfl
      refine wpAnyH_take (i := 8) (v := ?_) rfl (by kernel_rfl) (by kernel_rfl) (by kernel_rfl) (fun _ _ _ h => h) (Or.inl ⟨by kernel_rfl, ?_⟩) hHeld ?_
      rotate_left
      · intro w' hS'
        clear hS'
        go_simp
        try with_reducible rfl
      refine wpAnyH_take (i := 9) (v := ?_) rfl (by kernel_rfl) (by kernel_rfl) (by kernel_rfl) (fun _ _ _ h => h) (Or.inl ⟨by kernel_rfl, ?_⟩) hHeld ?_
      rotate_left
      · intro w' hS'
        clear hS'
        go_simp
        try with_reducible rfl
      refine wpAnyH_take (i := 10) (v := ?_) rfl (by kernel_rfl) (by kernel_rfl) (by kernel_rfl) (fun _ _ _ h => h) (Or.inl ⟨by kernel_rfl, ?_⟩) hHeld ?_
      rotate_left
      · intro w' hS'
        clear hS'
        go_simp
        try with_reducible rfl
      refine wpAnyH_take (i := 11) (v := ?_) rfl (by kernel_rfl) (by kernel_rfl) (by kernel_rfl) (fun _ _ _ h => h) (Or.inl ⟨by kernel_rfl, ?_⟩) hHeld ?_
      rotate_left
      · intro w' hS'
        clear hS'
        go_simp
        try with_reducible rfl
      refine wpAnyH_done (by kernel_rfl) ?_ _
      clear hG0 hG1 hHeld
      have hZ7 : LI w w7 AC cC' C := LI.of (hS5.bel.trans (hB6.mono hS5.bel.size)).size hoC
      have hS7 := hS5.below hB7
      have ha7 := ha5.below hB7
      have hb7 := hb5.below hB7
      have hX7 := hX5.below hB7
      clear hoC hq6 hq7 hB6 hB7 hd0 hS5 ha5 hb5 hX5
      go_simp
      clear hmx hz0 hz1 hz
      have hBCl := twoV_len36 keeps_max (W := W) (T := T) (bs := bs) (a := b) (b := C)
      obtain ⟨BC, hBC⟩ : ∃ BC, twoV max W T bs b C = BC := ⟨_, rfl⟩
      have hACl := twoV_len36 keeps_min (W := W) (T := T) (bs := bs) (a := a) (b := C)
      obtain ⟨AC2, hAC⟩ : ∃ AC2, twoV min W T bs a C = AC2 := ⟨_, rfl⟩
      rw [hBC] at hBCl l5 m3
      rw [hAC] at hACl l5 m5
      have hLl := twoV_len36 keeps_min (W := W) (T := T) (bs := bs) (a := a) (b := BC)
      obtain ⟨LL, hLL⟩ : ∃ LL, twoV min W T bs a BC = LL := ⟨_, rfl⟩
      rw [hLL] at hLl l5
      replace l5 := l5.symm
      have hC7 := tilingHighI_any W T A2 bs.length c2 w7.heap.size bs a Da a.length da b Db b.length db w7 rfl rfl rfl hS7.rd ha7.rd hb7.rd (Nat.le_refl _) (by omega) (by omega) (by omega)
      rw [hH, hok] at hC7
      obtain ⟨x0, x1, x2⟩ := hS7.cells
      go_wp2_with fail
      refine hC7.mono ?_
      rintro e w8 ⟨A8, c8, c8', rfl, ho8, hw8⟩
      have hS8 := hS7.below hw8
      have ha8 := ha7.below hw8
      have hb8 := hb7.below hw8
      have hX8 := hX7.below hw8
      have hZ8 := hZ7.below hw8
      have hH8 : LI w w8 A8 c8' H := LI.of hS7.bel.size ho8
      clear hS7 hC7 hw8 ha7 hb7 hX7 hZ7 ho8 x0 x1 x2
      have hC8 := tilingLowI_any W T A2 bs.length c2 w8.heap.size bs a Da a.length da H A8 H.length c8' w8 rfl rfl rfl hS8.rd ha8.rd hH8.rd (Nat.le_refl _) (by omega) (by omega) (by omega)
      rw [l4, m1] at hC8
      obtain ⟨x0, x1, x2⟩ := hS8.cells
      go_wp2_with fail
      refine hC8.mono ?_
      rintro e w9 ⟨A9, c9, c9', rfl, ho9, hw9⟩
      have hS9 := hS8.below hw9
      have ha9 := ha8.below hw9
      have hb9 := hb8.below hw9
      have hX9 := hX8.below hw9
      have hZ9 := hZ8.below hw9
      have hH9 := hH8.below hw9
      have hP9 : LI w w9 A9 c9' a := LI.of hS8.bel.size ho9
      clear hS8 hC8 hw9 ha8 hb8 hX8 hZ8 hH8 ho9 x0 x1 x2
      have hC9 := tilingHighI_any W T A2 bs.length c2 w9.heap.size bs b Db b.length db C AC C.length cC' w9 rfl rfl rfl hS9.rd hb9.rd hZ9.rd (Nat.le_refl _) (by omega) (by omega) (by omega)
      rw [hBC, m2] at hC9
      obtain ⟨x0, x1, x2⟩ := hS9.cells
      go_wp2_with fail
      refine hC9.mono ?_
      rintro e w10 ⟨A10, c10, c10', rfl, ho10, hw10⟩
      have hS10 := hS9.below hw10
      have ha10 := ha9.below hw10
      have hb10 := hb9.below hw10
      have hX10 := hX9.below hw10
      have hZ10 := hZ9.below hw10
      have hH10 := hH9.below hw10
      have hP10 := hP9.below hw10
      have hBC10 : LI w w10 A10 c10' BC := LI.of hS9.bel.size ho10
      clear hS9 hC9 hw10 ha9 hb9 hX9 hZ9 hH9 hP9 ho10 x0 x1 x2
      have hC10 := tilingLowI_any W T A2 bs.length c2 w10.heap.size bs a Da a.length da BC A10 BC.length c10' w10 rfl rfl rfl hS10.rd ha10.rd hBC10.rd (Nat.le_refl _) (by omega) (by omega) (by omega)
      rw [hLL, m3] at hC10
      obtain ⟨x0, x1, x2⟩ := hS10.cells
      go_wp2_with fail
      refine hC10.mono ?_
      rintro e w11 ⟨A11, c11, c11', rfl, ho11, hw11⟩
      have hS11 := hS10.below hw11
      have ha11 := ha10.below hw11
      have hb11 := hb10.below hw11
      have hX11 := hX10.below hw11
      have hZ11 := hZ10.below hw11
      have hH11 := hH10.below hw11
      have hP11 := hP10.below hw11
      have hBC11 := hBC10.below hw11
      have hLL11 : LI w w11 A11 c11' LL := LI.of hS10.bel.size ho11
      clear hS10 hC10 hw11 ha10 hb10 hX10 hZ10 hH10 hP10 hBC10 ho11 x0 x1 x2
      have hC11 := tilingLowI_any W T A2 bs.length c2 w11.heap.size bs a Da a.length da C AC C.length cC' w11 rfl rfl rfl hS11.rd ha11.rd hZ11.rd (Nat.le_refl _) (by omega) (by omega) (by omega)
      rw [hAC, m4] at hC11
      obtain ⟨x0, x1, x2⟩ := hS11.cells
      go_wp2_with fail
      refine hC11.mono ?_
      rintro e w12 ⟨A12, c12, c12', rfl, ho12, hw12⟩
      have hS12 := hS11.below hw12
      have ha12 := ha11.below hw12
      have hb12 := hb11.below hw12
      have hX12 := hX11.below hw12
      have hZ12 := hZ11.below hw12
      have hH12 := hH11.below hw12
      have hP12 := hP11.below hw12
      have hBC12 := hBC11.below hw12
      have hLL12 := hLL11.below hw12
      have hAC12 : LI w w12 A12 c12' AC2 := LI.of hS11.bel.size ho12
      clear hS11 hC11 hw12 ha11 hb11 hX11 hZ11 hH11 hP11 hBC11 hLL11 ho12 x0 x1 x2
      have hC12 := tilingHighI_any W T A2 bs.length c2 w12.heap.size bs X A3 X.length c3' AC2 A12 AC2.length c12' w12 rfl rfl rfl hS12.rd hX12.rd hAC12.rd (Nat.le_refl _) (by omega) (by omega) (by omega)
      rw [l5, m5] at hC12
      obtain ⟨x0, x1, x2⟩ := hS12.cells
      go_wp2_with fail
      refine hC12.mono ?_
      rintro e w13 ⟨A13, c13, c13', rfl, ho13, hw13⟩
      have hS13 := hS12.below hw13
      have ha13 := ha12.below hw13
      have hb13 := hb12.below hw13
      have hX13 := hX12.below hw13
      have hZ13 := hZ12.below hw13
      have hH13 := hH12.below hw13
      have hP13 := hP12.below hw13
      have hBC13 := hBC12.below hw13
      have hLL13 := hLL12.below hw13
      have hAC13 := hAC12.below hw13
      have hRR13 : LI w w13 A13 c13' LL := LI.of hS12.bel.size ho13
      clear hS12 hC12 hw13 ha12 hb12 hX12 hZ12 hH12 hP12 hBC12 hLL12 hAC12 ho13 x0 x1 x2
      have hC13 := tilingOkI_any W T A2 bs.length c2 w13.heap.size bs X A3 X.length c3' w13 rfl rfl hS13.rd hX13.rd (Nat.le_refl _) (by omega) (by omega)
      rw [l1] at hC13
      obtain ⟨x0, x1, x2⟩ := hS13.cells
      go_wp2_with fail
      refine hC13.mono ?_
      rintro e w14 ⟨rfl, hw14⟩
      have hS14 := hS13.below hw14
      have ha14 := ha13.below hw14
      have hb14 := hb13.below hw14
      have hX14 := hX13.below hw14
      have hZ14 := hZ13.below hw14
      have hH14 := hH13.below hw14
      have hP14 := hP13.below hw14
      have hBC14 := hBC13.below hw14
      have hLL14 := hLL13.below hw14
      have hAC14 := hAC13.below hw14
      have hRR14 := hRR13.below hw14
      clear hS13 hC13 hw14 ha13 hb13 hX13 hZ13 hH13 hP13 hBC13 hLL13 hAC13 hRR13 x0 x1 x2
      have hC14 := sameInts_any a a A9 Da a.length c9' a.length da w14.heap.size w14 rfl rfl hP14.rd ha14.rd (by omega) (by omega)
      rw [beq_self_list] at hC14
      go_wp2_with fail
      refine hC14.mono ?_
      rintro e w15 ⟨rfl, hw15⟩
      have hS15 := hS14.below hw15
      have ha15 := ha14.below hw15
      have hb15 := hb14.below hw15
      have hX15 := hX14.below hw15
      have hZ15 := hZ14.below hw15
      have hH15 := hH14.below hw15
      have hP15 := hP14.below hw15
      have hBC15 := hBC14.below hw15
      have hLL15 := hLL14.below hw15
      have hAC15 := hAC14.below hw15
      have hRR15 := hRR14.below hw15
      clear hS14 hC14 hw15 ha14 hb14 hX14 hZ14 hH14 hP14 hBC14 hLL14 hAC14 hRR14 
      have hC15 := belowI_any W T A2 bs.length c2 w15.heap.size bs X A3 X.length c3' a Da a.length da w15 rfl rfl rfl hS15.rd hX15.rd ha15.rd (Nat.le_refl _) (by omega) (by omega) (by omega)
      rw [l2] at hC15
      obtain ⟨x0, x1, x2⟩ := hS15.cells
      go_wp2_with fail
      refine hC15.mono ?_
      rintro e w16 ⟨rfl, hw16⟩
      have hS16 := hS15.below hw16
      have ha16 := ha15.below hw16
      have hb16 := hb15.below hw16
      have hX16 := hX15.below hw16
      have hZ16 := hZ15.below hw16
      have hH16 := hH15.below hw16
      have hP16 := hP15.below hw16
      have hBC16 := hBC15.below hw16
      have hLL16 := hLL15.below hw16
      have hAC16 := hAC15.below hw16
      have hRR16 := hRR15.below hw16
      clear hS15 hC15 hw16 ha15 hb15 hX15 hZ15 hH15 hP15 hBC15 hLL15 hAC15 hRR15 x0 x1 x2
      have hC16 := belowI_any W T A2 bs.length c2 w16.heap.size bs X A3 X.length c3' b Db b.length db w16 rfl rfl rfl hS16.rd hX16.rd hb16.rd (Nat.le_refl _) (by omega) (by omega) (by omega)
      rw [l3] at hC16
      obtain ⟨x0, x1, x2⟩ := hS16.cells
      go_wp2_with fail
      refine hC16.mono ?_
      rintro e w17 ⟨rfl, hw17⟩
      have hS17 := hS16.below hw17
      have ha17 := ha16.below hw17
      have hb17 := hb16.below hw17
      have hX17 := hX16.below hw17
      have hZ17 := hZ16.below hw17
      have hH17 := hH16.below hw17
      have hP17 := hP16.below hw17
      have hBC17 := hBC16.below hw17
      have hLL17 := hLL16.below hw17
      have hAC17 := hAC16.below hw17
      have hRR17 := hRR16.below hw17
      clear hS16 hC16 hw17 ha16 hb16 hX16 hZ16 hH16 hP16 hBC16 hLL16 hAC16 hRR16 x0 x1 x2
      have hC17 := sameInts_any LL LL A11 A13 LL.length c11' LL.length c13' w17.heap.size w17 rfl rfl hLL17.rd hRR17.rd (by omega) (by omega)
      rw [beq_self_list] at hC17
      go_wp2_with fail
      refine hC17.mono ?_
      rintro e w18 ⟨rfl, hw18⟩
      have hS18 := hS17.below hw18
      have ha18 := ha17.below hw18
      have hb18 := hb17.below hw18
      have hX18 := hX17.below hw18
      have hZ18 := hZ17.below hw18
      have hH18 := hH17.below hw18
      have hP18 := hP17.below hw18
      have hBC18 := hBC17.below hw18
      have hLL18 := hLL17.below hw18
      have hAC18 := hAC17.below hw18
      have hRR18 := hRR17.below hw18
      clear hS17 hC17 hw18 ha17 hb17 hX17 hZ17 hH17 hP17 hBC17 hLL17 hAC17 hRR17 
      have hbel := hS18.bel
      clear hS18 ha18 hb18 hX18 hZ18 hH18 hP18 hBC18 hLL18 hAC18 hRR18
      go_wp2_with fail
      go_ret
      exact ⟨rfl, hbel⟩
    | false =>
      have hE := hno rfl
      clear hno hl1 hl2 hmp hpt htd
      subst hE
      have hbel := hS5.bel
      clear hS5 ha5 hb5 hX5
      go_wp2_with fail
      refine (alive_any _).mono ?_
      rintro e w6 ⟨rfl, hw6⟩
      go_wp2_with fail
      go_ret
      exact ⟨rfl, hbel.trans (hw6.mono hbel.size)⟩

end Go.Proofs.Ythepfpiphlfgnaa
