/-
  YtpeifojfpkkcpaaGreatFnPushRunW: the walk of FnPushRun.
-/
import Derived.Test.YtpeifojfpkkcpaaGreatDkn
import Derived.Test.YtpeifojfpkkcpaaGreatLz
import Derived.Test.YtpeifojfpkkcpaaGreatLpj
import Derived.Test.YtpeifojfpkkcpaaGreatTt
import Derived.Test.YtpeifojfpkkcpaaGreatPq
import Derived.BigRegion
import Derived.Deep.RegionHeld
namespace Go.Proofs.YtpeifojfpkkcpaaGreat
open Go.RowKit

set_option maxHeartbeats 4000000 in
set_option maxRecDepth 20000 in
theorem FnPushRun_walk (w : World) (A : Option Addr) (n c : Nat) (zs : List Int) (hnc : n ≤ c) (hm : n ≤ maxLen) (_hl : zs.length = n) (hr : Reads w w.heap.size 1 A n (zs.map (Value.int .u8))) (hwz : ∀ z ∈ zs, (Lit.int .u8 z).wf = true) :
    Calls Tryz.prog 3 #[.slice A n c] w fun e w' => e = .returned (.bool true) ∧ Below w.heap.size w w' := by
  unfold maxLen at hm
  by_cases hb : 1048576 < n
  · go_enter Tryz.func3, Tryz.ntmps3
    go_wp2_with fail
    go_ret
    exact ⟨rfl, Below.refl _ _⟩
  · have hDR := hide (drawPushRun_any A n c zs w hr hnc (by omega) hwz)
    clear hr hwz hm _hl
    go_enter Tryz.func3, Tryz.ntmps3
    go_wp2_with fail
    refine (unhide hDR).mono ?_
    rintro e w1 ⟨W, T, A2, c2, Da, da, PA, pd, bs, a, ps, rfl, hreg, ha1, hna, hp0, hpl, hpcap, hpz, hB1⟩
    clear hDR
    have hS2 := LS.start (W := W) (T := T) hB1 hreg
    have ha2 : LI w (w1.alloc (.cells #[.int .i64 W, .int .i64 T, .slice A2 bs.length c2] 25)) Da da a := ha1.below ((Below.refl _ _).alloc (Nat.le_refl _) _)
    have hp2 : LP w (w1.alloc (.cells #[.int .i64 W, .int .i64 T, .slice A2 bs.length c2] 25)) PA ps := (show LP w w1 PA ps from ⟨_, hp0⟩).below ((Below.refl _ _).alloc (Nat.le_refl _) _)
    clear hp0
    clear hreg hB1 ha1
    go_upto_region 4 with fail
    generalize w1.alloc (.cells #[.int .i64 W, .int .i64 T, .slice A2 bs.length c2] 25) = w2 at *
    generalize w1.heap.size = x at *
    have hbs := hS2.len
    have hlaw := law_pushRun (W := W) (T := T) (bs := bs) (L := a) (ps := ps)
    have hno := prV_no (W := W) (T := T) (bs := bs) (L := a) (ps := ps)
    have hXl := prV_len (W := W) (T := T) (bs := bs) (L := a) (ps := ps)
    obtain ⟨X, hX⟩ : ∃ X, prV W T bs a ps = X := ⟨_, rfl⟩
    rw [hX] at hlaw hno hXl
    have hC2 := pushRunI_any W T A2 bs.length c2 w2.heap.size bs a Da a.length da PA ps.length pd w2.heap.size ps w2 rfl rfl ha2.plain hS2.rd ha2.rd (Nat.le_refl _) (by omega) (by omega) rfl hp2.rd (Nat.le_refl _) (by omega)
    rw [hX] at hC2
    obtain ⟨x0, x1, x2⟩ := hS2.cells
    go_wp2_with fail
    refine hC2.mono ?_
    rintro e w3 ⟨A3, c3, c3', rfl, ho3, hw3⟩
    have hS3 := hS2.below hw3
    have ha3 := ha2.below hw3
    have hp3 := hp2.below hw3
    have hX3 : LI w w3 A3 c3' X := LI.of hS2.bel.size ho3
    clear hS2 hC2 hw3 ha2 hp2 ho3 x0 x1 x2
    have hC3 := pushRunS_any W T A2 bs.length c2 w3.heap.size bs a Da a.length da PA ps.length pd w3.heap.size ps w3 rfl rfl hS3.rd ha3.rd (Nat.le_refl _) (by omega) (by omega) rfl hp3.rd (Nat.le_refl _) (by omega)
    rw [hX] at hC3
    obtain ⟨x0, x1, x2⟩ := hS3.cells
    go_wp2_with fail
    refine hC3.mono ?_
    rintro e w4 ⟨A4, c4, c4', rfl, ho4, hw4⟩
    have hS4 := hS3.below hw4
    have ha4 := ha3.below hw4
    have hp4 := hp3.below hw4
    have hX4 := hX3.below hw4
    have hY4 : LI w w4 A4 c4' X := LI.of hS3.bel.size ho4
    clear hS3 hC3 hw4 ha3 hp3 hX3 ho4 x0 x1 x2
    have hC4 := sameInts_any X X A3 A4 X.length c3' X.length c4' w4.heap.size w4 rfl rfl hX4.rd hY4.rd (by omega) (by omega)
    rw [beq_self_list] at hC4
    go_wp2_with fail
    refine hC4.mono ?_
    rintro e w5 ⟨rfl, hw5⟩
    have hS5 := hS4.below hw5
    have ha5 := ha4.below hw5
    have hp5 := hp4.below hw5
    have hX5 := hX4.below hw5
    clear hS4 hC4 hw5 ha4 hp4 hX4 hY4 
    by_cases h0 : X.length = 0
    ·
      have h0d : ((X.length : Int) == 0) = true := by rw [h0]; rfl
      clear hlaw hno h0
      have hbel := hS5.bel
      clear hS5 ha5 hp5 hX5
      go_wp2_with fail
      refine (alive_any _).mono ?_
      rintro e w6 ⟨rfl, hw6⟩
      go_wp2_with fail
      go_ret
      exact ⟨rfl, hbel.trans (hw6.mono hbel.size)⟩
    ·
      have h0d : ((X.length : Int) == 0) = false := by rw [beq_eq_false_iff_ne]; omega
      have htp : tiledB W T bs a = true ∧ pushesB W T bs ps = true := by
        by_cases h : tiledB W T bs a = true ∧ pushesB W T bs ps = true
        · exact h
        · exact absurd (by rw [hno h]; rfl) h0
      obtain ⟨k, hk⟩ : ∃ k, ps.length / 2 = k := ⟨_, rfl⟩
      have hkb : k ≤ ps.length := by omega
      have hq2 : (ps.length : Int).tdiv 2 = ((k : Nat) : Int) := by rw [Int.tdiv_eq_ediv_of_nonneg (by omega)]; omega
      have hi0 : (0 : Int) ≤ (k : Int) := by omega
      have hi1 : (k : Int) ≤ (ps.length : Int) := by omega
      have hi2 : (k : Int) ≤ (pd : Int) := by omega
      have hi3 : (ps.length : Int) ≤ (pd : Int) := by omega
      obtain ⟨e1, e2, e3, e4, e5⟩ := hlaw htp.1 htp.2 k
      have hLl : (exV min W T bs).length ≤ 36 := exV_len
      have hHl : (exV max W T bs).length ≤ 36 := exV_len
      obtain ⟨Lo, hLo⟩ : ∃ Lo, exV min W T bs = Lo := ⟨_, rfl⟩
      obtain ⟨Hi, hHi⟩ : ∃ Hi, exV max W T bs = Hi := ⟨_, rfl⟩
      rw [hLo] at e3 hLl
      rw [hHi] at e4 hHl
      have hPl : (prV W T bs Lo ps).length ≤ 36 := prV_len
      have hQl : (prV W T bs Hi ps).length ≤ 36 := prV_len
      have hMl : (prV W T bs a (ps.take k)).length ≤ 36 := prV_len
      obtain ⟨LP1, hLP⟩ : ∃ V, prV W T bs Lo ps = V := ⟨_, rfl⟩
      obtain ⟨HP1, hHP⟩ : ∃ V, prV W T bs Hi ps = V := ⟨_, rfl⟩
      obtain ⟨M, hM⟩ : ∃ V, prV W T bs a (ps.take k) = V := ⟨_, rfl⟩
      rw [hLP] at e3 hPl
      rw [hHP] at e4 hQl
      rw [hM] at e5 hMl
      clear hlaw hno h0 htp hX
      have hC5 := lowestI_any W T A2 bs.length c2 w5.heap.size bs w5 rfl hS5.rd (Nat.le_refl _) (by omega)
      rw [hLo, e1] at hC5
      obtain ⟨x0, x1, x2⟩ := hS5.cells
      go_wp2_with fail
      refine hC5.mono ?_
      rintro e w6 ⟨A6, c6, c6', rfl, ho6, hw6⟩
      have hS6 := hS5.below hw6
      have ha6 := ha5.below hw6
      have hp6 := hp5.below hw6
      have hX6 := hX5.below hw6
      have hLo6 : LI w w6 A6 c6' Lo := LI.of hS5.bel.size ho6
      clear hS5 hC5 hw6 ha5 hp5 hX5 ho6 x0 x1 x2
      have hC6 := highestI_any W T A2 bs.length c2 w6.heap.size bs w6 rfl hS6.rd (Nat.le_refl _) (by omega)
      rw [hHi, e1] at hC6
      obtain ⟨x0, x1, x2⟩ := hS6.cells
      go_wp2_with fail
      refine hC6.mono ?_
      rintro e w7 ⟨A7, c7, c7', rfl, ho7, hw7⟩
      have hS7 := hS6.below hw7
      have ha7 := ha6.below hw7
      have hp7 := hp6.below hw7
      have hX7 := hX6.below hw7
      have hLo7 := hLo6.below hw7
      have hHi7 : LI w w7 A7 c7' Hi := LI.of hS6.bel.size ho7
      clear hS6 hC6 hw7 ha6 hp6 hX6 hLo6 ho7 x0 x1 x2
      by_cases hpd : pd = k
      ·
        have hps0 : ps.length = 0 := by omega
        obtain rfl := List.eq_nil_of_length_eq_zero hps0
        obtain rfl : k = 0 := by simp at hk; omega
        subst hpd
        clear hps0 hk hkb hq2 hi0 hi1 hi2 hi3
        go_upto_region 12 with fail
        have hd0 := (Below.refl w7.heap.size w7).drew
        have hbel := hS7.bel
        have hG0 := fun (w' : World) (h : Below w7.heap.size w7 w') => hide (tilingOkI_any W T A2 bs.length c2 w'.heap.size bs X A3 X.length c3' w' rfl rfl (hS7.below h).rd (hX7.below h).rd (Nat.le_refl _) (by omega) (by omega))
        simp only [e2] at hG0
        have hG1 := fun (w' : World) (h : Below w7.heap.size w7 w') => hide (pushRunI_any W T A2 bs.length c2 w'.heap.size bs Lo A6 Lo.length c6' PA ([] : List (Int × Bool)).length 0 w'.heap.size ([] : List (Int × Bool)) w' rfl rfl (hLo7.below h).plain (hS7.below h).rd (hLo7.below h).rd (Nat.le_refl _) (by omega) (by omega) rfl (hp7.below h).rd (Nat.le_refl _) (by omega))
        simp only [hLP] at hG1
        have hG2 := fun (w' : World) (h : Below w7.heap.size w7 w') (D : Option Addr) (d : Nat) (hl : LI w w' D d LP1) => hide (belowI_any W T A2 bs.length c2 w'.heap.size bs LP1 D LP1.length d X A3 X.length c3' w' rfl rfl rfl (hS7.below h).rd hl.rd (hX7.below h).rd (Nat.le_refl _) (by omega) (by omega) (by omega))
        simp only [e3] at hG2
        have hG3 := fun (w' : World) (h : Below w7.heap.size w7 w') => hide (pushRunI_any W T A2 bs.length c2 w'.heap.size bs Hi A7 Hi.length c7' PA ([] : List (Int × Bool)).length 0 w'.heap.size ([] : List (Int × Bool)) w' rfl rfl (hHi7.below h).plain (hS7.below h).rd (hHi7.below h).rd (Nat.le_refl _) (by omega) (by omega) rfl (hp7.below h).rd (Nat.le_refl _) (by omega))
        simp only [hHP] at hG3
        have hG4 := fun (w' : World) (h : Below w7.heap.size w7 w') (D : Option Addr) (d : Nat) (hl : LI w w' D d HP1) => hide (belowI_any W T A2 bs.length c2 w'.heap.size bs X A3 X.length c3' HP1 D HP1.length d w' rfl rfl rfl (hS7.below h).rd (hX7.below h).rd hl.rd (Nat.le_refl _) (by omega) (by omega) (by omega))
        simp only [e4] at hG4
        have hG5 := fun (w' : World) (h : Below w7.heap.size w7 w') => hide (pushRunI_any W T A2 bs.length c2 w'.heap.size bs a Da a.length da PA 0 0 w'.heap.size (([] : List (Int × Bool)).take 0) w' rfl rfl (ha7.below h).plain (hS7.below h).rd (ha7.below h).rd (Nat.le_refl _) (by omega) (by omega) (by simp) ((hp7.below h).rd.takeP (Nat.zero_le _)) (Nat.le_refl _) (by omega))
        simp only [hM] at hG5
        have hG6 := fun (w' : World) (h : Below w7.heap.size w7 w') (D : Option Addr) (d : Nat) (hl : LI w w' D d M) => hide (pushRunI_any W T A2 bs.length c2 w'.heap.size bs M D M.length d PA 0 0 w'.heap.size (([] : List (Int × Bool)).drop 0) w' rfl rfl hl.plain (hS7.below h).rd hl.rd (Nat.le_refl _) (by omega) (by omega) rfl (hp7.below h).rd (Nat.le_refl _) (by omega))
        simp only [e5] at hG6
        have hG7 := fun (w' : World) (h : Below w7.heap.size w7 w') (D : Option Addr) (d : Nat) (hl : LI w w' D d X) => hide (sameInts_any X X D A3 X.length d X.length c3' w'.heap.size w' rfl rfl hl.rd (hX7.below h).rd (by omega) (by omega))
        simp only [beq_self_list] at hG7
        simp only [List.length_nil] at hG1 hG3
        refine wp_region_held_drew (S := (fun w' => w'.cell? ⟨x, 0, none⟩ = some (.int .i64 W) ∧ w'.cell? ⟨x, 1, none⟩ = some (.int .i64 T) ∧ w'.cell? ⟨x, 2, none⟩ = some (.slice A2 bs.length c2))) (by kernel_rfl) (hS7.below hd0).cells ?_
        intro hHeld
        refine wpAnyH_take (i := 0) (v := ?_) rfl (by kernel_rfl) (by kernel_rfl) (by kernel_rfl) (fun _ _ _ h => h) (Or.inl ⟨by kernel_rfl, ?_⟩) hHeld ?_
        rotate_left
        · intro w' hS'
          obtain ⟨x0, x1, x2⟩ := hS'
          go_simp
          try with_reducible rfl
        refine wpAnyH_take (i := 1) (v := ?_) rfl (by kernel_rfl) (by kernel_rfl) (by kernel_rfl) (fun _ _ _ h => h) (Or.inl ⟨by kernel_rfl, ?_⟩) hHeld ?_
        rotate_left
        · intro w' hS'
          clear hS'
          go_simp
          try with_reducible rfl
        refine wpAnyH_ready (rs := [2]) (by kernel_rfl) (by simp) ?_
        refine AllReadyH.cons rfl (fun K hK => ?_) AllReadyH.nil
        go_simp
        go_at_call 11
        (with_reducible refine (unhide (hG0 w7.drew hd0)).mono ?_)
        rintro e w8 ⟨rfl, hb8⟩
        have hB8 := hd0.trans (hb8.mono hd0.size)
        refine hK.out _ _ ?_ ?_
        · exact (hS7.below hB8).cells
        clear hHeld
        intro hHeld
        clear hK K
        refine wpAnyH_take (i := 3) (v := ?_) rfl (by kernel_rfl) (by kernel_rfl) (by kernel_rfl) (fun _ _ _ h => h) (Or.inl ⟨by kernel_rfl, ?_⟩) hHeld ?_
        rotate_left
        · intro w' hS'
          clear hS'
          go_simp
          try with_reducible rfl
        refine wpAnyH_take (i := 4) (v := ?_) rfl (by kernel_rfl) (by kernel_rfl) (by kernel_rfl) (fun _ _ _ h => h) (Or.inl ⟨by kernel_rfl, ?_⟩) hHeld ?_
        rotate_left
        · intro w' hS'
          obtain ⟨x0, x1, x2⟩ := hS'
          go_simp
          try with_reducible rfl
        refine wpAnyH_take (i := 5) (v := ?_) rfl (by kernel_rfl) (by kernel_rfl) (by kernel_rfl) (fun _ _ _ h => h) (Or.inl ⟨by kernel_rfl, ?_⟩) hHeld ?_
        rotate_left
        · intro w' hS'
          obtain ⟨x0, x1, x2⟩ := hS'
          go_simp
          try with_reducible rfl
        refine wpAnyH_take (i := 6) (v := ?_) rfl (by kernel_rfl) (by kernel_rfl) (by kernel_rfl) (fun _ _ _ h => h) (Or.inl ⟨by kernel_rfl, ?_⟩) hHeld ?_
        rotate_left
        · intro w' hS'
          clear hS'
          go_simp
          try with_reducible rfl
        refine wpAnyH_take (i := 7) (v := ?_) rfl (by kernel_rfl) (by kernel_rfl) (by kernel_rfl) (fun _ _ _ h => h) (Or.inl ⟨by kernel_rfl, ?_⟩) hHeld ?_
        rotate_left
        · intro w' hS'
          clear hS'
          go_simp
          try with_reducible rfl
        refine wpAnyH_take (i := 9) (v := ?_) rfl (by kernel_rfl) (by kernel_rfl) (by kernel_rfl) (fun _ _ _ h => h) (Or.inl ⟨by kernel_rfl, ?_⟩) hHeld ?_
        rotate_left
        · intro w' hS'
          clear hS'
          go_simp
          try with_reducible rfl
        refine wpAnyH_ready (rs := [8]) (by kernel_rfl) (by simp) ?_
        refine AllReadyH.cons rfl (fun K hK => ?_) AllReadyH.nil
        go_simp
        go_at_call 5
        (with_reducible refine (unhide (hG1 w8 hB8)).mono ?_)
        rintro e w9 ⟨A9, c9, c9', rfl, ho9, hb9⟩
        have hR9 : LI w w9 A9 c9' LP1 := LI.of (wr := w8) (hbel.trans (hB8.mono hbel.size)).size ho9
        have hB9 := hB8.trans (hb9.mono hB8.size)
        refine hK.out _ _ ?_ ?_
        · exact (hS7.below hB9).cells
        clear hHeld
        intro hHeld
        clear hK K
        refine wpAnyH_ready (rs := [10]) (by kernel_rfl) (by simp) ?_
        refine AllReadyH.cons rfl (fun K hK => ?_) AllReadyH.nil
        go_simp
        go_at_call 12
        (with_reducible refine (unhide (hG2 w9 hB9 _ _ hR9)).mono ?_)
        rintro e w10 ⟨rfl, hb10⟩
        have hB10 := hB9.trans (hb10.mono hB9.size)
        refine hK.out _ _ ?_ ?_
        · exact (hS7.below hB10).cells
        clear hHeld
        intro hHeld
        clear hK K
        refine wpAnyH_take (i := 11) (v := ?_) rfl (by kernel_rfl) (by kernel_rfl) (by kernel_rfl) (fun _ _ _ h => h) (Or.inl ⟨by kernel_rfl, ?_⟩) hHeld ?_
        rotate_left
        · intro w' hS'
          clear hS'
          go_simp
          try with_reducible rfl
        refine wpAnyH_take (i := 12) (v := ?_) rfl (by kernel_rfl) (by kernel_rfl) (by kernel_rfl) (fun _ _ _ h => h) (Or.inl ⟨by kernel_rfl, ?_⟩) hHeld ?_
        rotate_left
        · intro w' hS'
          clear hS'
          go_simp
          try with_reducible rfl
        refine wpAnyH_take (i := 13) (v := ?_) rfl (by kernel_rfl) (by kernel_rfl) (by kernel_rfl) (fun _ _ _ h => h) (Or.inl ⟨by kernel_rfl, ?_⟩) hHeld ?_
        rotate_left
        · intro w' hS'
          obtain ⟨x0, x1, x2⟩ := hS'
          go_simp
          try with_reducible rfl
        refine wpAnyH_take (i := 14) (v := ?_) rfl (by kernel_rfl) (by kernel_rfl) (by kernel_rfl) (fun _ _ _ h => h) (Or.inl ⟨by kernel_rfl, ?_⟩) hHeld ?_
        rotate_left
        · intro w' hS'
          clear hS'
          go_simp
          try with_reducible rfl
        refine wpAnyH_take (i := 15) (v := ?_) rfl (by kernel_rfl) (by kernel_rfl) (by kernel_rfl) (fun _ _ _ h => h) (Or.inl ⟨by kernel_rfl, ?_⟩) hHeld ?_
        rotate_left
        · intro w' hS'
          obtain ⟨x0, x1, x2⟩ := hS'
          go_simp
          try with_reducible rfl
        refine wpAnyH_take (i := 16) (v := ?_) rfl (by kernel_rfl) (by kernel_rfl) (by kernel_rfl) (fun _ _ _ h => h) (Or.inl ⟨by kernel_rfl, ?_⟩) hHeld ?_
        rotate_left
        · intro w' hS'
          clear hS'
          go_simp
          try with_reducible rfl
        refine wpAnyH_take (i := 17) (v := ?_) rfl (by kernel_rfl) (by kernel_rfl) (by kernel_rfl) (fun _ _ _ h => h) (Or.inl ⟨by kernel_rfl, ?_⟩) hHeld ?_
        rotate_left
        · intro w' hS'
          clear hS'
          go_simp
          try with_reducible rfl
        refine wpAnyH_ready (rs := [18]) (by kernel_rfl) (by simp) ?_
        refine AllReadyH.cons rfl (fun K hK => ?_) AllReadyH.nil
        go_simp
        go_at_call 5
        (with_reducible refine (unhide (hG3 w10 hB10)).mono ?_)
        rintro e w11 ⟨A11, c11, c11', rfl, ho11, hb11⟩
        have hR11 : LI w w11 A11 c11' HP1 := LI.of (wr := w10) (hbel.trans (hB10.mono hbel.size)).size ho11
        have hB11 := hB10.trans (hb11.mono hB10.size)
        refine hK.out _ _ ?_ ?_
        · exact (hS7.below hB11).cells
        clear hHeld
        intro hHeld
        clear hK K
        refine wpAnyH_ready (rs := [19]) (by kernel_rfl) (by simp) ?_
        refine AllReadyH.cons rfl (fun K hK => ?_) AllReadyH.nil
        go_simp
        go_at_call 12
        (with_reducible refine (unhide (hG4 w11 hB11 _ _ hR11)).mono ?_)
        rintro e w12 ⟨rfl, hb12⟩
        have hB12 := hB11.trans (hb12.mono hB11.size)
        refine hK.out _ _ ?_ ?_
        · exact (hS7.below hB12).cells
        clear hHeld
        intro hHeld
        clear hK K
        refine wpAnyH_take (i := 20) (v := ?_) rfl (by kernel_rfl) (by kernel_rfl) (by kernel_rfl) (fun _ _ _ h => h) (Or.inl ⟨by kernel_rfl, ?_⟩) hHeld ?_
        rotate_left
        · intro w' hS'
          clear hS'
          go_simp
          try with_reducible rfl
        refine wpAnyH_take (i := 21) (v := ?_) rfl (by kernel_rfl) (by kernel_rfl) (by kernel_rfl) (fun _ _ _ h => h) (Or.inl ⟨by kernel_rfl, ?_⟩) hHeld ?_
        rotate_left
        · intro w' hS'
          clear hS'
          go_simp
          try with_reducible rfl
        refine wpAnyH_take (i := 22) (v := ?_) rfl (by kernel_rfl) (by kernel_rfl) (by kernel_rfl) (fun _ _ _ h => h) (Or.inl ⟨by kernel_rfl, ?_⟩) hHeld ?_
        rotate_left
        · intro w' hS'
          obtain ⟨x0, x1, x2⟩ := hS'
          go_simp
          try with_reducible rfl
        refine wpAnyH_take (i := 23) (v := ?_) rfl (by kernel_rfl) (by kernel_rfl) (by kernel_rfl) (fun _ _ _ h => h) (Or.inl ⟨by kernel_rfl, ?_⟩) hHeld ?_
        rotate_left
        · intro w' hS'
          obtain ⟨x0, x1, x2⟩ := hS'
          go_simp
          try with_reducible rfl
        refine wpAnyH_take (i := 24) (v := ?_) rfl (by kernel_rfl) (by kernel_rfl) (by kernel_rfl) (fun _ _ _ h => h) (Or.inl ⟨by kernel_rfl, ?_⟩) hHeld ?_
        rotate_left
        · intro w' hS'
          clear hS'
          go_simp
          try with_reducible rfl
        refine wpAnyH_take (i := 25) (v := ?_) rfl (by kernel_rfl) (by kernel_rfl) (by kernel_rfl) (fun _ _ _ h => h) (Or.inl ⟨by kernel_rfl, ?_⟩) hHeld ?_
        rotate_left
        · intro w' hS'
          clear hS'
          go_simp
          try with_reducible rfl
        refine wpAnyH_take (i := 26) (v := ?_) rfl (by kernel_rfl) (by kernel_rfl) (by kernel_rfl) (fun _ _ _ h => h) (Or.inl ⟨by kernel_rfl, ?_⟩) hHeld ?_
        rotate_left
        · intro w' hS'
          clear hS'
          go_simp
          try with_reducible rfl
        refine wpAnyH_take (i := 27) (v := ?_) rfl (by kernel_rfl) (by kernel_rfl) (by kernel_rfl) (fun _ _ _ h => h) (Or.inl ⟨by kernel_rfl, ?_⟩) hHeld ?_
        rotate_left
        · intro w' hS'
          clear hS'
          go_simp
          try with_reducible rfl
        refine wpAnyH_take (i := 29) (v := ?_) rfl (by kernel_rfl) (by kernel_rfl) (by kernel_rfl) (fun _ _ _ h => h) (Or.inl ⟨by kernel_rfl, ?_⟩) hHeld ?_
        rotate_left
        · intro w' hS'
          clear hS'
          go_simp
          try with_reducible rfl
        refine wpAnyH_take (i := 30) (v := ?_) rfl (by kernel_rfl) (by kernel_rfl) (by kernel_rfl) (fun _ _ _ h => h) (Or.inl ⟨by kernel_rfl, ?_⟩) hHeld ?_
        rotate_left
        · intro w' hS'
          clear hS'
          go_simp
          try with_reducible rfl
        refine wpAnyH_take (i := 31) (v := ?_) rfl (by kernel_rfl) (by kernel_rfl) (by kernel_rfl) (fun _ _ _ h => h) (Or.inl ⟨by kernel_rfl, ?_⟩) hHeld ?_
        rotate_left
        · intro w' hS'
          clear hS'
          go_simp
          try with_reducible rfl
        refine wpAnyH_take (i := 33) (v := ?_) rfl (by kernel_rfl) (by kernel_rfl) (by kernel_rfl) (fun _ _ _ h => h) (Or.inl ⟨by kernel_rfl, ?_⟩) hHeld ?_
        rotate_left
        · intro w' hS'
          clear hS'
          go_simp
          try with_reducible rfl
        refine wpAnyH_ready (rs := [28]) (by kernel_rfl) (by simp) ?_
        refine AllReadyH.cons rfl (fun K hK => ?_) AllReadyH.nil
        go_simp
        go_at_call 5
        (with_reducible refine (unhide (hG5 w12 hB12)).mono ?_)
        rintro e w13 ⟨A13, c13, c13', rfl, ho13, hb13⟩
        have hR13 : LI w w13 A13 c13' M := LI.of (wr := w12) (hbel.trans (hB12.mono hbel.size)).size ho13
        have hB13 := hB12.trans (hb13.mono hB12.size)
        refine hK.out _ _ ?_ ?_
        · exact (hS7.below hB13).cells
        clear hHeld
        intro hHeld
        clear hK K
        refine wpAnyH_ready (rs := [32]) (by kernel_rfl) (by simp) ?_
        refine AllReadyH.cons rfl (fun K hK => ?_) AllReadyH.nil
        go_simp
        go_at_call 5
        (with_reducible refine (unhide (hG6 w13 hB13 _ _ hR13)).mono ?_)
        rintro e w14 ⟨A14, c14, c14', rfl, ho14, hb14⟩
        have hR14 : LI w w14 A14 c14' X := LI.of (wr := w13) (hbel.trans (hB13.mono hbel.size)).size ho14
        have hB14 := hB13.trans (hb14.mono hB13.size)
        refine hK.out _ _ ?_ ?_
        · exact (hS7.below hB14).cells
        clear hHeld
        intro hHeld
        clear hK K
        refine wpAnyH_ready (rs := [34]) (by kernel_rfl) (by simp) ?_
        refine AllReadyH.cons rfl (fun K hK => ?_) AllReadyH.nil
        go_simp
        go_at_call 6
        (with_reducible refine (unhide (hG7 w14 hB14 _ _ hR14)).mono ?_)
        rintro e w15 ⟨rfl, hb15⟩
        have hB15 := hB14.trans (hb15.mono hB14.size)
        refine hK.out _ _ ?_ ?_
        · exact (hS7.below hB15).cells
        clear hHeld
        intro hHeld
        clear hK K
        refine wpAnyH_take (i := 35) (v := ?_) rfl (by kernel_rfl) (by kernel_rfl) (by kernel_rfl) (fun _ _ _ h => h) (Or.inl ⟨by kernel_rfl, ?_⟩) hHeld ?_
        rotate_left
        · intro w' hS'
          clear hS'
          go_simp
          try with_reducible rfl
        refine wpAnyH_take (i := 36) (v := ?_) rfl (by kernel_rfl) (by kernel_rfl) (by kernel_rfl) (fun _ _ _ h => h) (Or.inl ⟨by kernel_rfl, ?_⟩) hHeld ?_
        rotate_left
        · intro w' hS'
          clear hS'
          go_simp
          try with_reducible rfl
        refine wpAnyH_done (by kernel_rfl) ?_ _
        go_simp
        go_wp2_with fail
        go_ret
        exact ⟨rfl, hbel.trans (hB15.mono hbel.size)⟩
      ·
        go_upto_region 12 with fail
        have hd0 := (Below.refl w7.heap.size w7).drew
        have hbel := hS7.bel
        have hG0 := fun (w' : World) (h : Below w7.heap.size w7 w') => hide (tilingOkI_any W T A2 bs.length c2 w'.heap.size bs X A3 X.length c3' w' rfl rfl (hS7.below h).rd (hX7.below h).rd (Nat.le_refl _) (by omega) (by omega))
        simp only [e2] at hG0
        have hG1 := fun (w' : World) (h : Below w7.heap.size w7 w') => hide (pushRunI_any W T A2 bs.length c2 w'.heap.size bs Lo A6 Lo.length c6' PA ps.length pd w'.heap.size ps w' rfl rfl (hLo7.below h).plain (hS7.below h).rd (hLo7.below h).rd (Nat.le_refl _) (by omega) (by omega) rfl (hp7.below h).rd (Nat.le_refl _) (by omega))
        simp only [hLP] at hG1
        have hG2 := fun (w' : World) (h : Below w7.heap.size w7 w') (D : Option Addr) (d : Nat) (hl : LI w w' D d LP1) => hide (belowI_any W T A2 bs.length c2 w'.heap.size bs LP1 D LP1.length d X A3 X.length c3' w' rfl rfl rfl (hS7.below h).rd hl.rd (hX7.below h).rd (Nat.le_refl _) (by omega) (by omega) (by omega))
        simp only [e3] at hG2
        have hG3 := fun (w' : World) (h : Below w7.heap.size w7 w') => hide (pushRunI_any W T A2 bs.length c2 w'.heap.size bs Hi A7 Hi.length c7' PA ps.length pd w'.heap.size ps w' rfl rfl (hHi7.below h).plain (hS7.below h).rd (hHi7.below h).rd (Nat.le_refl _) (by omega) (by omega) rfl (hp7.below h).rd (Nat.le_refl _) (by omega))
        simp only [hHP] at hG3
        have hG4 := fun (w' : World) (h : Below w7.heap.size w7 w') (D : Option Addr) (d : Nat) (hl : LI w w' D d HP1) => hide (belowI_any W T A2 bs.length c2 w'.heap.size bs X A3 X.length c3' HP1 D HP1.length d w' rfl rfl rfl (hS7.below h).rd (hX7.below h).rd hl.rd (Nat.le_refl _) (by omega) (by omega) (by omega))
        simp only [e4] at hG4
        have hG5 := fun (w' : World) (h : Below w7.heap.size w7 w') => hide (pushRunI_any W T A2 bs.length c2 w'.heap.size bs a Da a.length da PA k pd w'.heap.size (ps.take k) w' rfl rfl (ha7.below h).plain (hS7.below h).rd (ha7.below h).rd (Nat.le_refl _) (by omega) (by omega) (by rw [List.length_take]; omega) ((hp7.below h).rd.takeP hkb) (Nat.le_refl _) (by omega))
        simp only [hM] at hG5
        have hG6 := fun (w' : World) (h : Below w7.heap.size w7 w') (D : Option Addr) (d : Nat) (hl : LI w w' D d M) => hide (pushRunI_any W T A2 bs.length c2 w'.heap.size bs M D M.length d (PA.map (·.add (k * 2))) (ps.length - k) (pd - k) w'.heap.size (ps.drop k) w' rfl rfl hl.plain (hS7.below h).rd hl.rd (Nat.le_refl _) (by omega) (by omega) List.length_drop (by have := (hp7.below h).rd.cutP hkb hpcap; rw [if_neg hpd] at this; exact this) (Nat.le_refl _) (by omega))
        simp only [e5] at hG6
        have hG7 := fun (w' : World) (h : Below w7.heap.size w7 w') (D : Option Addr) (d : Nat) (hl : LI w w' D d X) => hide (sameInts_any X X D A3 X.length d X.length c3' w'.heap.size w' rfl rfl hl.rd (hX7.below h).rd (by omega) (by omega))
        simp only [beq_self_list] at hG7
        refine wp_region_held_drew (S := (fun w' => w'.cell? ⟨x, 0, none⟩ = some (.int .i64 W) ∧ w'.cell? ⟨x, 1, none⟩ = some (.int .i64 T) ∧ w'.cell? ⟨x, 2, none⟩ = some (.slice A2 bs.length c2))) (by kernel_rfl) (hS7.below hd0).cells ?_
        intro hHeld
        refine wpAnyH_take (i := 0) (v := ?_) rfl (by kernel_rfl) (by kernel_rfl) (by kernel_rfl) (fun _ _ _ h => h) (Or.inl ⟨by kernel_rfl, ?_⟩) hHeld ?_
        rotate_left
        · intro w' hS'
          obtain ⟨x0, x1, x2⟩ := hS'
          go_simp
          try with_reducible rfl
        refine wpAnyH_take (i := 1) (v := ?_) rfl (by kernel_rfl) (by kernel_rfl) (by kernel_rfl) (fun _ _ _ h => h) (Or.inl ⟨by kernel_rfl, ?_⟩) hHeld ?_
        rotate_left
        · intro w' hS'
          clear hS'
          go_simp
          try with_reducible rfl
        refine wpAnyH_ready (rs := [2]) (by kernel_rfl) (by simp) ?_
        refine AllReadyH.cons rfl (fun K hK => ?_) AllReadyH.nil
        go_simp
        go_at_call 11
        (with_reducible refine (unhide (hG0 w7.drew hd0)).mono ?_)
        rintro e w8 ⟨rfl, hb8⟩
        have hB8 := hd0.trans (hb8.mono hd0.size)
        refine hK.out _ _ ?_ ?_
        · exact (hS7.below hB8).cells
        clear hHeld
        intro hHeld
        clear hK K
        refine wpAnyH_take (i := 3) (v := ?_) rfl (by kernel_rfl) (by kernel_rfl) (by kernel_rfl) (fun _ _ _ h => h) (Or.inl ⟨by kernel_rfl, ?_⟩) hHeld ?_
        rotate_left
        · intro w' hS'
          clear hS'
          go_simp
          try with_reducible rfl
        refine wpAnyH_take (i := 4) (v := ?_) rfl (by kernel_rfl) (by kernel_rfl) (by kernel_rfl) (fun _ _ _ h => h) (Or.inl ⟨by kernel_rfl, ?_⟩) hHeld ?_
        rotate_left
        · intro w' hS'
          obtain ⟨x0, x1, x2⟩ := hS'
          go_simp
          try with_reducible rfl
        refine wpAnyH_take (i := 5) (v := ?_) rfl (by kernel_rfl) (by kernel_rfl) (by kernel_rfl) (fun _ _ _ h => h) (Or.inl ⟨by kernel_rfl, ?_⟩) hHeld ?_
        rotate_left
        · intro w' hS'
          obtain ⟨x0, x1, x2⟩ := hS'
          go_simp
          try with_reducible rfl
        refine wpAnyH_take (i := 6) (v := ?_) rfl (by kernel_rfl) (by kernel_rfl) (by kernel_rfl) (fun _ _ _ h => h) (Or.inl ⟨by kernel_rfl, ?_⟩) hHeld ?_
        rotate_left
        · intro w' hS'
          clear hS'
          go_simp
          try with_reducible rfl
        refine wpAnyH_take (i := 7) (v := ?_) rfl (by kernel_rfl) (by kernel_rfl) (by kernel_rfl) (fun _ _ _ h => h) (Or.inl ⟨by kernel_rfl, ?_⟩) hHeld ?_
        rotate_left
        · intro w' hS'
          clear hS'
          go_simp
          try with_reducible rfl
        refine wpAnyH_take (i := 9) (v := ?_) rfl (by kernel_rfl) (by kernel_rfl) (by kernel_rfl) (fun _ _ _ h => h) (Or.inl ⟨by kernel_rfl, ?_⟩) hHeld ?_
        rotate_left
        · intro w' hS'
          clear hS'
          go_simp
          try with_reducible rfl
        refine wpAnyH_ready (rs := [8]) (by kernel_rfl) (by simp) ?_
        refine AllReadyH.cons rfl (fun K hK => ?_) AllReadyH.nil
        go_simp
        go_at_call 5
        (with_reducible refine (unhide (hG1 w8 hB8)).mono ?_)
        rintro e w9 ⟨A9, c9, c9', rfl, ho9, hb9⟩
        have hR9 : LI w w9 A9 c9' LP1 := LI.of (wr := w8) (hbel.trans (hB8.mono hbel.size)).size ho9
        have hB9 := hB8.trans (hb9.mono hB8.size)
        refine hK.out _ _ ?_ ?_
        · exact (hS7.below hB9).cells
        clear hHeld
        intro hHeld
        clear hK K
        refine wpAnyH_ready (rs := [10]) (by kernel_rfl) (by simp) ?_
        refine AllReadyH.cons rfl (fun K hK => ?_) AllReadyH.nil
        go_simp
        go_at_call 12
        (with_reducible refine (unhide (hG2 w9 hB9 _ _ hR9)).mono ?_)
        rintro e w10 ⟨rfl, hb10⟩
        have hB10 := hB9.trans (hb10.mono hB9.size)
        refine hK.out _ _ ?_ ?_
        · exact (hS7.below hB10).cells
        clear hHeld
        intro hHeld
        clear hK K
        refine wpAnyH_take (i := 11) (v := ?_) rfl (by kernel_rfl) (by kernel_rfl) (by kernel_rfl) (fun _ _ _ h => h) (Or.inl ⟨by kernel_rfl, ?_⟩) hHeld ?_
        rotate_left
        · intro w' hS'
          clear hS'
          go_simp
          try with_reducible rfl
        refine wpAnyH_take (i := 12) (v := ?_) rfl (by kernel_rfl) (by kernel_rfl) (by kernel_rfl) (fun _ _ _ h => h) (Or.inl ⟨by kernel_rfl, ?_⟩) hHeld ?_
        rotate_left
        · intro w' hS'
          clear hS'
          go_simp
          try with_reducible rfl
        refine wpAnyH_take (i := 13) (v := ?_) rfl (by kernel_rfl) (by kernel_rfl) (by kernel_rfl) (fun _ _ _ h => h) (Or.inl ⟨by kernel_rfl, ?_⟩) hHeld ?_
        rotate_left
        · intro w' hS'
          obtain ⟨x0, x1, x2⟩ := hS'
          go_simp
          try with_reducible rfl
        refine wpAnyH_take (i := 14) (v := ?_) rfl (by kernel_rfl) (by kernel_rfl) (by kernel_rfl) (fun _ _ _ h => h) (Or.inl ⟨by kernel_rfl, ?_⟩) hHeld ?_
        rotate_left
        · intro w' hS'
          clear hS'
          go_simp
          try with_reducible rfl
        refine wpAnyH_take (i := 15) (v := ?_) rfl (by kernel_rfl) (by kernel_rfl) (by kernel_rfl) (fun _ _ _ h => h) (Or.inl ⟨by kernel_rfl, ?_⟩) hHeld ?_
        rotate_left
        · intro w' hS'
          obtain ⟨x0, x1, x2⟩ := hS'
          go_simp
          try with_reducible rfl
        refine wpAnyH_take (i := 16) (v := ?_) rfl (by kernel_rfl) (by kernel_rfl) (by kernel_rfl) (fun _ _ _ h => h) (Or.inl ⟨by kernel_rfl, ?_⟩) hHeld ?_
        rotate_left
        · intro w' hS'
          clear hS'
          go_simp
          try with_reducible rfl
        refine wpAnyH_take (i := 17) (v := ?_) rfl (by kernel_rfl) (by kernel_rfl) (by kernel_rfl) (fun _ _ _ h => h) (Or.inl ⟨by kernel_rfl, ?_⟩) hHeld ?_
        rotate_left
        · intro w' hS'
          clear hS'
          go_simp
          try with_reducible rfl
        refine wpAnyH_ready (rs := [18]) (by kernel_rfl) (by simp) ?_
        refine AllReadyH.cons rfl (fun K hK => ?_) AllReadyH.nil
        go_simp
        go_at_call 5
        (with_reducible refine (unhide (hG3 w10 hB10)).mono ?_)
        rintro e w11 ⟨A11, c11, c11', rfl, ho11, hb11⟩
        have hR11 : LI w w11 A11 c11' HP1 := LI.of (wr := w10) (hbel.trans (hB10.mono hbel.size)).size ho11
        have hB11 := hB10.trans (hb11.mono hB10.size)
        refine hK.out _ _ ?_ ?_
        · exact (hS7.below hB11).cells
        clear hHeld
        intro hHeld
        clear hK K
        refine wpAnyH_ready (rs := [19]) (by kernel_rfl) (by simp) ?_
        refine AllReadyH.cons rfl (fun K hK => ?_) AllReadyH.nil
        go_simp
        go_at_call 12
        (with_reducible refine (unhide (hG4 w11 hB11 _ _ hR11)).mono ?_)
        rintro e w12 ⟨rfl, hb12⟩
        have hB12 := hB11.trans (hb12.mono hB11.size)
        refine hK.out _ _ ?_ ?_
        · exact (hS7.below hB12).cells
        clear hHeld
        intro hHeld
        clear hK K
        refine wpAnyH_take (i := 20) (v := ?_) rfl (by kernel_rfl) (by kernel_rfl) (by kernel_rfl) (fun _ _ _ h => h) (Or.inl ⟨by kernel_rfl, ?_⟩) hHeld ?_
        rotate_left
        · intro w' hS'
          clear hS'
          go_simp
          try with_reducible rfl
        refine wpAnyH_take (i := 21) (v := ?_) rfl (by kernel_rfl) (by kernel_rfl) (by kernel_rfl) (fun _ _ _ h => h) (Or.inl ⟨by kernel_rfl, ?_⟩) hHeld ?_
        rotate_left
        · intro w' hS'
          clear hS'
          go_simp
          try with_reducible rfl
        refine wpAnyH_take (i := 22) (v := ?_) rfl (by kernel_rfl) (by kernel_rfl) (by kernel_rfl) (fun _ _ _ h => h) (Or.inl ⟨by kernel_rfl, ?_⟩) hHeld ?_
        rotate_left
        · intro w' hS'
          obtain ⟨x0, x1, x2⟩ := hS'
          go_simp
          try with_reducible rfl
        refine wpAnyH_take (i := 23) (v := ?_) rfl (by kernel_rfl) (by kernel_rfl) (by kernel_rfl) (fun _ _ _ h => h) (Or.inl ⟨by kernel_rfl, ?_⟩) hHeld ?_
        rotate_left
        · intro w' hS'
          obtain ⟨x0, x1, x2⟩ := hS'
          go_simp
          try with_reducible rfl
        refine wpAnyH_take (i := 24) (v := ?_) rfl (by kernel_rfl) (by kernel_rfl) (by kernel_rfl) (fun _ _ _ h => h) (Or.inl ⟨by kernel_rfl, ?_⟩) hHeld ?_
        rotate_left
        · intro w' hS'
          clear hS'
          go_simp
          try with_reducible rfl
        refine wpAnyH_take (i := 25) (v := ?_) rfl (by kernel_rfl) (by kernel_rfl) (by kernel_rfl) (fun _ _ _ h => h) (Or.inl ⟨by kernel_rfl, ?_⟩) hHeld ?_
        rotate_left
        · intro w' hS'
          clear hS'
          go_simp
          try with_reducible rfl
        refine wpAnyH_take (i := 26) (v := ?_) rfl (by kernel_rfl) (by kernel_rfl) (by kernel_rfl) (fun _ _ _ h => h) (Or.inl ⟨by kernel_rfl, ?_⟩) hHeld ?_
        rotate_left
        · intro w' hS'
          clear hS'
          go_simp
          try with_reducible rfl
        refine wpAnyH_take (i := 27) (v := ?_) rfl (by kernel_rfl) (by kernel_rfl) (by kernel_rfl) (fun _ _ _ h => h) (Or.inl ⟨by kernel_rfl, ?_⟩) hHeld ?_
        rotate_left
        · intro w' hS'
          clear hS'
          go_simp
          try with_reducible rfl
        refine wpAnyH_take (i := 29) (v := ?_) rfl (by kernel_rfl) (by kernel_rfl) (by kernel_rfl) (fun _ _ _ h => h) (Or.inl ⟨by kernel_rfl, ?_⟩) hHeld ?_
        rotate_left
        · intro w' hS'
          clear hS'
          go_simp
          try with_reducible rfl
        refine wpAnyH_take (i := 30) (v := ?_) rfl (by kernel_rfl) (by kernel_rfl) (by kernel_rfl) (fun _ _ _ h => h) (Or.inl ⟨by kernel_rfl, ?_⟩) hHeld ?_
        rotate_left
        · intro w' hS'
          clear hS'
          go_simp
          try with_reducible rfl
        refine wpAnyH_take (i := 31) (v := ?_) rfl (by kernel_rfl) (by kernel_rfl) (by kernel_rfl) (fun _ _ _ h => h) (Or.inl ⟨by kernel_rfl, ?_⟩) hHeld ?_
        rotate_left
        · intro w' hS'
          clear hS'
          go_simp
          try with_reducible rfl
        refine wpAnyH_take (i := 33) (v := ?_) rfl (by kernel_rfl) (by kernel_rfl) (by kernel_rfl) (fun _ _ _ h => h) (Or.inl ⟨by kernel_rfl, ?_⟩) hHeld ?_
        rotate_left
        · intro w' hS'
          clear hS'
          go_simp
          try with_reducible rfl
        refine wpAnyH_ready (rs := [28]) (by kernel_rfl) (by simp) ?_
        refine AllReadyH.cons rfl (fun K hK => ?_) AllReadyH.nil
        go_simp
        go_at_call 5
        (with_reducible refine (unhide (hG5 w12 hB12)).mono ?_)
        rintro e w13 ⟨A13, c13, c13', rfl, ho13, hb13⟩
        have hR13 : LI w w13 A13 c13' M := LI.of (wr := w12) (hbel.trans (hB12.mono hbel.size)).size ho13
        have hB13 := hB12.trans (hb13.mono hB12.size)
        refine hK.out _ _ ?_ ?_
        · exact (hS7.below hB13).cells
        clear hHeld
        intro hHeld
        clear hK K
        refine wpAnyH_ready (rs := [32]) (by kernel_rfl) (by simp) ?_
        refine AllReadyH.cons rfl (fun K hK => ?_) AllReadyH.nil
        go_simp
        go_at_call 5
        (with_reducible refine (unhide (hG6 w13 hB13 _ _ hR13)).mono ?_)
        rintro e w14 ⟨A14, c14, c14', rfl, ho14, hb14⟩
        have hR14 : LI w w14 A14 c14' X := LI.of (wr := w13) (hbel.trans (hB13.mono hbel.size)).size ho14
        have hB14 := hB13.trans (hb14.mono hB13.size)
        refine hK.out _ _ ?_ ?_
        · exact (hS7.below hB14).cells
        clear hHeld
        intro hHeld
        clear hK K
        refine wpAnyH_ready (rs := [34]) (by kernel_rfl) (by simp) ?_
        refine AllReadyH.cons rfl (fun K hK => ?_) AllReadyH.nil
        go_simp
        go_at_call 6
        (with_reducible refine (unhide (hG7 w14 hB14 _ _ hR14)).mono ?_)
        rintro e w15 ⟨rfl, hb15⟩
        have hB15 := hB14.trans (hb15.mono hB14.size)
        refine hK.out _ _ ?_ ?_
        · exact (hS7.below hB15).cells
        clear hHeld
        intro hHeld
        clear hK K
        refine wpAnyH_take (i := 35) (v := ?_) rfl (by kernel_rfl) (by kernel_rfl) (by kernel_rfl) (fun _ _ _ h => h) (Or.inl ⟨by kernel_rfl, ?_⟩) hHeld ?_
        rotate_left
        · intro w' hS'
          clear hS'
          go_simp
          try with_reducible rfl
        refine wpAnyH_take (i := 36) (v := ?_) rfl (by kernel_rfl) (by kernel_rfl) (by kernel_rfl) (fun _ _ _ h => h) (Or.inl ⟨by kernel_rfl, ?_⟩) hHeld ?_
        rotate_left
        · intro w' hS'
          clear hS'
          go_simp
          try with_reducible rfl
        refine wpAnyH_done (by kernel_rfl) ?_ _
        go_simp
        go_wp2_with fail
        go_ret
        exact ⟨rfl, hbel.trans (hB15.mono hbel.size)⟩

end Go.Proofs.YtpeifojfpkkcpaaGreat
