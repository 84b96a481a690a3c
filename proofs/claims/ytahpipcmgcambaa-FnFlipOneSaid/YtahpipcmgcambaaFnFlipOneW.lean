/-
  YtahpipcmgcambaaFnFlipOneW: the walk of FnFlipOne.
-/
import Derived.Test.YtahpipcmgcambaaDu
import Derived.Test.YtahpipcmgcambaaLw
import Derived.Test.YtahpipcmgcambaaLz
import Derived.Test.YtahpipcmgcambaaFo
import Derived.BigRegion
namespace Go.Proofs.Ytahpipcmgcambaa
open Go.RowKit

theorem foB_cases {W T : Int} {bs : List Bool} {L : List Int} {k : Int} (h : foB W T bs L k = true) : ∃ R : Reg, R.ok ∧ W = (R.W : Int) ∧ T = (R.T : Int) ∧ bs = R.C ∧ Lay R L ∧ flB R L k = true := by
  unfold foB at h
  rw [Bool.and_eq_true] at h
  obtain ⟨R, hR, rfl, rfl, rfl, hL⟩ := laid_cases h.1
  exact ⟨R, hR, rfl, rfl, rfl, hL, h.2⟩
theorem foV_same {W T : Int} {bs : List Bool} {L : List Int} {k : Int} (h : foB W T bs L k = false) (hl : laidB W T bs L = true) : foV W T bs L k = L := by
  obtain ⟨R, hR, rfl, rfl, rfl, hL⟩ := laid_cases hl
  obtain ⟨e1, e2⟩ := foV_yes (k := k) hl
  rw [e1]
  rw [e2] at h
  unfold flB at h
  rw [Bool.or_eq_false_iff] at h
  unfold flV
  rw [if_neg (by rw [h.1]; simp), if_neg (by rw [h.2]; simp)]
/-- What FnFlipOne says where the flip can be done. -/
theorem law_flipOne {W T : Int} {bs : List Bool} {L : List Int} {k : Int} (h : foB W T bs L k = true) :
    laidB W T bs L = true ∧ laidB W T bs (foV W T bs L k) = true ∧ foB W T bs (foV W T bs L k) k = true ∧ foV W T bs (foV W T bs L k) k = L ∧ (foV W T bs L k).length = L.length ∧ chg (foV W T bs L k) L L.length = 4 ∧
      (fmV W T bs (foV W T bs L k) - fmV W T bs L = 2 ∨ fmV W T bs (foV W T bs L k) - fmV W T bs L = -2) ∧ tilingB W T bs (foV W T bs L k) = tilingB W T bs L := by
  obtain ⟨R, hR, rfl, rfl, rfl, hL, hf⟩ := foB_cases h
  have hl : laidB R.W R.T R.C L = true := by rw [laidB_ok hR]; exact (laysB_iff hR).2 hL
  obtain ⟨e1, e2⟩ := foV_yes (k := k) hl
  have hLx := lay_flV hR hL k
  have hlx : laidB R.W R.T R.C (flV R L k) = true := by rw [laidB_ok hR]; exact (laysB_iff hR).2 hLx
  obtain ⟨f1, f2⟩ := foV_yes (k := k) hlx
  obtain ⟨b1, b2, _, _⟩ := flV_back hR hL hf
  obtain ⟨c1, c2⟩ := law_flip hR hL hf
  rw [e1, f1, f2, b1, b2]
  have hlen : (flV R L k).length = L.length := by rw [hLx.len, hL.len]
  refine ⟨hl, hlx, rfl, rfl, hlen, by rw [hL.len]; exact c1, ?_, ?_⟩
  · unfold fmV
    rw [if_pos hl, if_pos hlx, hlen, hL.len]
    exact c2
  · have g1 := (laysB_iff hR).2 hL
    have g2 := (laysB_iff hR).2 hLx
    rw [tilingB_ok hR, tilingB_ok hR, g1, g2, Bool.true_and, Bool.true_and, Bool.eq_iff_iff, fullB_iff hR, fullB_iff hR]
    exact full_flV hR hL k

set_option maxHeartbeats 4000000 in
set_option maxRecDepth 20000 in
theorem FnFlipOne_walk (w : World) (A : Option Addr) (n c : Nat) (zs : List Int) (hnc : n ≤ c) (hm : n ≤ maxLen) (_hl : zs.length = n) (hr : Reads w w.heap.size 1 A n (zs.map (Value.int .u8))) (hwz : ∀ z ∈ zs, (Lit.int .u8 z).wf = true) :
    Calls Try.prog 10 #[.slice A n c] w fun e w' => e = .returned (.bool true) ∧ Below w.heap.size w w' := by
  unfold maxLen at hm
  by_cases hb : 1048576 < n
  · go_enter Try.func10, Try.ntmps10
    go_wp2_with fail
    go_ret
    exact ⟨rfl, Below.refl _ _⟩
  · have hDR := hide (drawFlipOne_any A n c zs w hr hnc (by omega) hwz)
    clear hr hwz
    go_enter Try.func10, Try.ntmps10
    go_wp2_with fail
    refine (unhide hDR).mono ?_
    rintro e w1 ⟨W, T, A2, c2, D, d, bs, L, k, rfl, hreg, hli, hL, hk1, hk2, hB1⟩
    clear hDR
    have hS2 := LS.start (W := W) (T := T) hB1 hreg
    have hl2 : LI w (w1.alloc (.cells #[.int .i64 W, .int .i64 T, .slice A2 bs.length c2] 25)) D d L := hli.below ((Below.refl _ _).alloc (Nat.le_refl _) _)
    clear hreg hli hB1
    go_upto_region 4 with fail
    generalize w1.alloc (.cells #[.int .i64 W, .int .i64 T, .slice A2 bs.length c2] 25) = w2 at *
    generalize w1.heap.size = x at *
    have hbs := hS2.len
    have hC2 := flipOneI_any W T A2 bs.length c2 w2.heap.size bs L D L.length d k (by omega) hl2.plain w2 rfl rfl hS2.rd hl2.rd (Nat.le_refl _) (by omega) (by omega)
    have hX36 := foV_len (W := W) (T := T) (bs := bs) (L := L) (k := k)
    obtain ⟨X, hX⟩ : ∃ X, foV W T bs L k = X := ⟨_, rfl⟩
    obtain ⟨fb, hfb⟩ : ∃ fb, foB W T bs L k = fb := ⟨_, rfl⟩
    rw [hX, hfb] at hC2
    rw [hX] at hX36
    obtain ⟨x0, x1, x2⟩ := hS2.cells
    go_wp2_with fail
    refine hC2.mono ?_
    rintro e w3 ⟨A3, c3, c3', rfl, ho3, hb3⟩
    have hx3 : LI w w3 A3 c3' X := LI.of hS2.bel.size ho3
    have hS3 := hS2.below hb3
    have hl3 := hl2.below hb3
    clear hS2 hl2 hb3 ho3 hC2 x0 x1 x2
    have hC3 := flipOneS_any W T A2 bs.length c2 w3.heap.size bs L D L.length d k w3 rfl rfl hS3.rd hl3.rd (Nat.le_refl _) (by omega) (by omega)
    rw [hX, hfb] at hC3
    obtain ⟨x0, x1, x2⟩ := hS3.cells
    go_wp2_with fail
    refine hC3.mono ?_
    rintro e w4 ⟨A4, c4, c4', rfl, ho4, hb4⟩
    have hy4 : LI w w4 A4 c4' X := LI.of hS3.bel.size ho4
    have hS4 := hS3.below hb4
    have hl4 := hl3.below hb4
    have hx4 := hx3.below hb4
    clear hS3 hl3 hx3 hb4 ho4 hC3 x0 x1 x2
    have hC4 := sameInts_any X X A3 A4 X.length c3' X.length c4' w4.heap.size w4 rfl rfl hx4.rd hy4.rd (by omega) (by omega)
    rw [beq_self_list] at hC4
    go_wp2_with fail
    refine hC4.mono ?_
    rintro e w5 ⟨rfl, hb5⟩
    have hS5 := hS4.below hb5
    have hl5 := hl4.below hb5
    have hx5 := hx4.below hb5
    clear hS4 hl4 hx4 hy4 hb5 hC4
    cases fb with
    | false =>
      have hsame : laidB W T bs L = true → (X == L) = true := fun hl => by rw [← hX, foV_same hfb hl]; simp
      have hC5 := sameInts_any X L A3 D X.length c3' L.length d w5.heap.size w5 rfl rfl hx5.rd hl5.rd (by omega) (by omega)
      obtain ⟨sv, hsv⟩ : ∃ sv, (X == L) = sv := ⟨_, rfl⟩
      rw [hsv] at hC5 hsame
      clear hsv hX hfb
      go_wp2_with fail
      refine hC5.mono ?_
      rintro e w6 ⟨rfl, hb6⟩
      have hS6 := hS5.below hb6
      have hl6 := hl5.below hb6
      clear hS5 hl5 hx5 hb6 hC5
      cases sv with
      | true =>
        have hbel := hS6.bel
        clear hS6 hl6
        go_wp2_with fail
        refine (alive_any _).mono ?_
        rintro e w7 ⟨rfl, hb7⟩
        go_wp2_with fail
        go_ret
        exact ⟨rfl, hbel.trans (hb7.mono hbel.size)⟩
      | false =>
        have hlo : laidB W T bs L = false := by
          cases h : laidB W T bs L with
          | false => rfl
          | true => exact absurd (hsame h) (by simp)
        have hC6 := laidOkI_any W T A2 bs.length c2 w6.heap.size bs L D L.length d w6 rfl rfl hS6.rd hl6.rd (Nat.le_refl _) (by omega) (by omega)
        rw [hlo] at hC6
        obtain ⟨x0, x1, x2⟩ := hS6.cells
        clear hsame hlo
        go_wp2_with fail
        refine hC6.mono ?_
        rintro e w7 ⟨rfl, hb7⟩
        have hbel := (hS6.below hb7).bel
        clear hS6 hl6 hb7 hC6 x0 x1 x2
        go_wp2_with fail
        refine (alive_any _).mono ?_
        rintro e w8 ⟨rfl, hb8⟩
        go_wp2_with fail
        go_ret
        exact ⟨rfl, hbel.trans (hb8.mono hbel.size)⟩
    | true =>
      obtain ⟨q1, q2, q3, q4, q5, q6, q7, q8⟩ := law_flipOne hfb
      rw [hX] at q2 q3 q4 q5 q6 q7 q8
      have hC5 := flipOneI_any W T A2 bs.length c2 w5.heap.size bs X A3 X.length c3' k (by omega) hx5.plain w5 rfl rfl hS5.rd hx5.rd (Nat.le_refl _) (by omega) (by omega)
      rw [q3, q4] at hC5
      have Q1 := Lib.hid q1
      have Q2 := Lib.hid q2
      have Q5 := Lib.hid q5
      have Q6 := Lib.hid q6
      have Q7 := Lib.hid q7
      have Q8 := Lib.hid q8
      clear q1 q2 q3 q4 q5 q6 q7 q8 hX hfb
      obtain ⟨x0, x1, x2⟩ := hS5.cells
      go_wp2_with fail
      refine hC5.mono ?_
      rintro e w6 ⟨A6, c6, c6', rfl, ho6, hb6⟩
      have hk6 : LI w w6 A6 c6' L := LI.of hS5.bel.size ho6
      have hS6 := hS5.below hb6
      have hl6 := hl5.below hb6
      have hx6 := hx5.below hb6
      clear hS5 hl5 hx5 hb6 ho6 hC5 x0 x1 x2
      have h0 : 0 = chg X L 0 := by simp [chg]
      have HC0 := Lib.hid h0
      clear h0
      go_upto_region 13 with fail
      go_loopg [12, 13] L.length (fun r s12 s13 wr => ∃ (j m : Nat), j + r = L.length ∧ s13 = .int .i64 (j : Nat) ∧ s12 = .int .i64 (m : Nat) ∧ Hid (m = chg X L j) ∧ LS w wr x W T A2 c2 bs ∧ LI w wr D d L ∧ LI w wr A3 c3' X ∧ LI w wr A6 c6' L)
      case atStart => exact ⟨0, 0, by omega, rfl, rfl, HC0, hS6, hl6, hx6, hk6⟩
      case round =>
        clear hS6 hl6 hx6 hk6 HC0
        obtain ⟨j, m, hj, rfl, rfl, HM, hS7, hl7, hx7, hk7⟩ := hrel
        have HJ := Lib.hid hj
        clear hj
        have hml := chg_le X L j
        rw [← HM.out] at hml
        by_cases hlt : j < L.length
        · have hjX : j < X.length := by rw [Q5.out]; exact hlt
          obtain ⟨gl, hDl, hc1⟩ := hl7.cell hlt
          obtain ⟨gx, hDx, hc2⟩ := hx7.cell hjX
          subst hDl
          subst hDx
          have hsu := chg_succ X L j
          rw [← HM.out] at hsu
          have HSU := Lib.hid hsu
          clear hsu
          cases hne : (X.getD j 0 != L.getD j 0) with
          | true =>
            rw [hne, if_pos rfl] at HSU
            have hwr : IntKind.i64.wrap ((m : Int) + 1) = (m : Int) + 1 := IntWalk.i64_in _ (by omega)
            generalize X.getD j 0 = zx at *
            generalize L.getD j 0 = zl at *
            go_wp2
            go_quiet (fail)
            go_wp2_with fail
            go_roundg (L.length - (j + 1))
            case measure => have := HJ.out; omega
            case rel =>
              have hbd := below_drewN (Below.refl wr.heap.size wr) nq
              exact ⟨j + 1, m + 1, by have := HJ.out; omega, by go_num, by go_num, Lib.hid HSU.out.symm, hS7.below hbd, hl7.below hbd, hx7.below hbd, hk7.below hbd⟩
          | false =>
            rw [hne, if_neg (by simp)] at HSU
            generalize X.getD j 0 = zx at *
            generalize L.getD j 0 = zl at *
            go_wp2
            go_quiet (fail)
            go_wp2_with fail
            go_roundg (L.length - (j + 1))
            case measure => have := HJ.out; omega
            case rel =>
              have hbd := below_drewN (Below.refl wr.heap.size wr) nq
              exact ⟨j + 1, m, by have := HJ.out; omega, by go_num, rfl, Lib.hid (by rw [HSU.out]; rfl), hS7.below hbd, hl7.below hbd, hx7.below hbd, hk7.below hbd⟩
        · have hjl : j = L.length := by have := HJ.out; omega
          have hm4 : m = 4 := by rw [HM.out, hjl]; exact Q6.out
          clear HM hml
          subst hm4
          have hF1 := hide (flatManyI_any W T A2 bs.length c2 wr.heap.size bs X A3 X.length c3' wr.drew rfl rfl (hS7.below (Below.refl wr.heap.size wr).drew).rd (hx7.below (Below.refl wr.heap.size wr).drew).rd (Nat.le_refl _) (by omega) (by omega))
          have hF2 := fun w' (h : Below wr.heap.size wr w') => hide (flatManyI_any W T A2 bs.length c2 w'.heap.size bs L D L.length d w' rfl rfl (hS7.below h).rd (hl7.below h).rd (Nat.le_refl _) (by omega) (by omega))
          have hbx : ∀ M : List Int, M.length ≤ 99 → -1 ≤ fmV W T bs M ∧ fmV W T bs M ≤ 99 := fun M hM => by
            unfold fmV
            split
            · have := ones_le M M.length; omega
            · omega
          have hv1 := hbx X (by omega)
          have hv2 := hbx L hL
          have hq7 := Q7.out
          clear hbx Q7 Q6
          generalize fmV W T bs X = fx at *
          generalize fmV W T bs L = fl at *
          have hwr : IntKind.i64.wrap (fx - fl) = fx - fl := IntWalk.i64_in _ (by omega)
          obtain ⟨x0, x1, x2⟩ := hS7.cells
          have hd7 := (Below.refl wr.heap.size wr).drew
          go_upto_region 17 with fail
          go_region_held3 (fun w' => w'.cell? ⟨x, 0, none⟩ = some (.int .i64 W) ∧ w'.cell? ⟨x, 1, none⟩ = some (.int .i64 T) ∧ w'.cell? ⟨x, 2, none⟩ = some (.slice A2 bs.length c2))
            (first
              | exact ⟨x0, x1, x2⟩
              | exact (hS7.below hB8).cells
              | exact (hS7.below hB9).cells)
            (first
              | (go_at_call 47; (with_reducible refine (unhide hF1).mono ?_); rintro e w8 ⟨rfl, hb8⟩; have hB8 := hd7.trans (hb8.mono hd7.size))
              | (go_at_call 47; (with_reducible refine (unhide (hF2 w8 hB8)).mono ?_); rintro e w9 ⟨rfl, hb9⟩; have hB9 := hB8.trans (hb9.mono hB8.size)))
          have hS9 := hS7.below hB9
          have hl9 := hl7.below hB9
          have hx9 := hx7.below hB9
          have hk9 := hk7.below hB9
          clear hS7 hl7 hx7 hk7 hF1 hF2 hb8 hb9 hB8 hB9 x0 x1 x2 hd7
          go_upto_region 18 with fail
          have hd9 := (Below.refl w9.heap.size w9).drew
          have hG1 := hide (laidOkI_any W T A2 bs.length c2 w9.drew.heap.size bs X A3 X.length c3' w9.drew rfl rfl (hS9.below hd9).rd (hx9.below hd9).rd (Nat.le_refl _) (by omega) (by omega))
          have hG2 := fun w' (h : Below w9.heap.size w9 w') => hide (sameInts_any L L A6 D L.length c6' L.length d w'.heap.size w' rfl rfl (hk9.below h).rd (hl9.below h).rd (by omega) (by omega))
          have hG3 := fun w' (h : Below w9.heap.size w9 w') => hide (tilingOkI_any W T A2 bs.length c2 w'.heap.size bs X A3 X.length c3' w' rfl rfl (hS9.below h).rd (hx9.below h).rd (Nat.le_refl _) (by omega) (by omega))
          have hG4 := fun w' (h : Below w9.heap.size w9 w') => hide (tilingOkI_any W T A2 bs.length c2 w'.heap.size bs L D L.length d w' rfl rfl (hS9.below h).rd (hl9.below h).rd (Nat.le_refl _) (by omega) (by omega))
          rw [Q2.out] at hG1
          simp only [beq_self_list] at hG2
          simp only [Q8.out] at hG3
          generalize tilingB W T bs L = tb at *
          generalize fx - fl = df at *
          obtain ⟨x0, x1, x2⟩ := hS9.cells
          have hbel := hS9.bel
          clear hl9 hx9 hk9 hwr hv1 hv2
          rcases hq7 with rfl | rfl
          · refine wp_region_any (by kernel_rfl) ?_
            change wpAny _ _ _ _ _ _ _ (World.drew _)
            refine wpAny_take (i := 1) (v := ?_) rfl (by kernel_rfl) (by kernel_rfl) (by kernel_rfl) (fun _ _ _ h => h) (Or.inl ⟨by kernel_rfl, ?_⟩) ?_
            rotate_left
            · intro w
              go_simp
              try with_reducible rfl
            refine wpAny_ready (rs := [0]) (by kernel_rfl) (by simp) ?_
            refine AllReady.cons rfl (fun K hK => ?_) AllReady.nil
            go_simp
            refine hK _ _ ?_
            clear hK K
            refine wpAny_ready (rs := [2]) (by kernel_rfl) (by simp) ?_
            refine AllReady.cons rfl (fun K hK => ?_) AllReady.nil
            go_simp
            go_at_call 46
            (with_reducible refine (unhide (hG1)).mono ?_)
            rintro e w10 ⟨rfl, hb10⟩
            have hB10 := hd9.trans (hb10.mono hd9.size)
            clear x0 x1 x2
            obtain ⟨x0, x1, x2⟩ := (hS9.below hB10).cells
            refine hK _ _ ?_
            clear hK K
            refine wpAny_take (i := 3) (v := ?_) rfl (by kernel_rfl) (by kernel_rfl) (by kernel_rfl) (fun _ _ _ h => h) (Or.inl ⟨by kernel_rfl, ?_⟩) ?_
            rotate_left
            · intro w
              go_simp
              try with_reducible rfl
            refine wpAny_take (i := 4) (v := ?_) rfl (by kernel_rfl) (by kernel_rfl) (by kernel_rfl) (fun _ _ _ h => h) (Or.inl ⟨by kernel_rfl, ?_⟩) ?_
            rotate_left
            · intro w
              go_simp
              try with_reducible rfl
            refine wpAny_take (i := 5) (v := ?_) rfl (by kernel_rfl) (by kernel_rfl) (by kernel_rfl) (fun _ _ _ h => h) (Or.inl ⟨by kernel_rfl, ?_⟩) ?_
            rotate_left
            · intro w
              go_simp
              try with_reducible rfl
            refine wpAny_take (i := 6) (v := ?_) rfl (by kernel_rfl) (by kernel_rfl) (by kernel_rfl) (fun _ _ _ h => h) (Or.inl ⟨by kernel_rfl, ?_⟩) ?_
            rotate_left
            · intro w
              go_simp
              try with_reducible rfl
            refine wpAny_take (i := 7) (v := ?_) rfl (by kernel_rfl) (by kernel_rfl) (by kernel_rfl) (fun _ _ _ h => h) (Or.inl ⟨by kernel_rfl, ?_⟩) ?_
            rotate_left
            · intro w
              go_simp
              try with_reducible rfl
            refine wpAny_take (i := 8) (v := ?_) rfl (by kernel_rfl) (by kernel_rfl) (by kernel_rfl) (fun _ _ _ h => h) (Or.inl ⟨by kernel_rfl, ?_⟩) ?_
            rotate_left
            · intro w
              go_simp
              try with_reducible rfl
            refine wpAny_ready (rs := [9]) (by kernel_rfl) (by simp) ?_
            refine AllReady.cons rfl (fun K hK => ?_) AllReady.nil
            go_simp
            go_at_call 18
            (with_reducible refine (unhide (hG2 w10 hB10)).mono ?_)
            rintro e w11 ⟨rfl, hb11⟩
            have hB11 := hB10.trans (hb11.mono hB10.size)
            clear x0 x1 x2
            obtain ⟨x0, x1, x2⟩ := (hS9.below hB11).cells
            refine hK _ _ ?_
            clear hK K
            refine wpAny_take (i := 10) (v := ?_) rfl (by kernel_rfl) (by kernel_rfl) (by kernel_rfl) (fun _ _ _ h => h) (Or.inl ⟨by kernel_rfl, ?_⟩) ?_
            rotate_left
            · intro w
              go_simp
              try with_reducible rfl
            refine wpAny_take (i := 11) (v := ?_) rfl (by kernel_rfl) (by kernel_rfl) (by kernel_rfl) (fun _ _ _ h => h) (Or.inl ⟨by kernel_rfl, ?_⟩) ?_
            rotate_left
            · intro w
              go_simp
              try with_reducible rfl
            refine wpAny_take (i := 12) (v := ?_) rfl (by kernel_rfl) (by kernel_rfl) (by kernel_rfl) (fun _ _ _ h => h) (Or.inl ⟨by kernel_rfl, ?_⟩) ?_
            rotate_left
            · intro w
              go_simp
              try with_reducible rfl
            refine wpAny_take (i := 13) (v := ?_) rfl (by kernel_rfl) (by kernel_rfl) (by kernel_rfl) (fun _ _ _ h => h) (Or.inl ⟨by kernel_rfl, ?_⟩) ?_
            rotate_left
            · intro w
              go_simp
              try with_reducible rfl
            refine wpAny_take (i := 14) (v := ?_) rfl (by kernel_rfl) (by kernel_rfl) (by kernel_rfl) (fun _ _ _ h => h) (Or.inl ⟨by kernel_rfl, ?_⟩) ?_
            rotate_left
            · intro w
              go_simp
              try with_reducible rfl
            refine wpAny_take (i := 15) (v := ?_) rfl (by kernel_rfl) (by kernel_rfl) (by kernel_rfl) (fun _ _ _ h => h) (Or.inl ⟨by kernel_rfl, ?_⟩) ?_
            rotate_left
            · intro w
              go_simp
              try with_reducible rfl
            refine wpAny_take (i := 16) (v := ?_) rfl (by kernel_rfl) (by kernel_rfl) (by kernel_rfl) (fun _ _ _ h => h) (Or.inl ⟨by kernel_rfl, ?_⟩) ?_
            rotate_left
            · intro w
              go_simp
              try with_reducible rfl
            refine wpAny_take (i := 17) (v := ?_) rfl (by kernel_rfl) (by kernel_rfl) (by kernel_rfl) (fun _ _ _ h => h) (Or.inl ⟨by kernel_rfl, ?_⟩) ?_
            rotate_left
            · intro w
              go_simp
              try with_reducible rfl
            refine wpAny_take (i := 18) (v := ?_) rfl (by kernel_rfl) (by kernel_rfl) (by kernel_rfl) (fun _ _ _ h => h) (Or.inl ⟨by kernel_rfl, ?_⟩) ?_
            rotate_left
            · intro w
              go_simp
              try with_reducible rfl
            refine wpAny_take (i := 19) rfl (by kernel_rfl) (by kernel_rfl) (by kernel_rfl) (fun _ _ _ h => h) (Or.inr ⟨by kernel_rfl, rfl⟩) ?_
            refine wpAny_take (i := 20) rfl (by kernel_rfl) (by kernel_rfl) (by kernel_rfl) (fun _ _ _ h => h) (Or.inr ⟨by kernel_rfl, rfl⟩) ?_
            refine wpAny_take (i := 21) (v := ?_) rfl (by kernel_rfl) (by kernel_rfl) (by kernel_rfl) (fun _ _ _ h => h) (Or.inl ⟨by kernel_rfl, ?_⟩) ?_
            rotate_left
            · intro w
              go_simp
              try with_reducible rfl
            refine wpAny_take (i := 22) (v := ?_) rfl (by kernel_rfl) (by kernel_rfl) (by kernel_rfl) (fun _ _ _ h => h) (Or.inl ⟨by kernel_rfl, ?_⟩) ?_
            rotate_left
            · intro w
              go_simp
              try with_reducible rfl
            refine wpAny_take (i := 23) (v := ?_) rfl (by kernel_rfl) (by kernel_rfl) (by kernel_rfl) (fun _ _ _ h => h) (Or.inl ⟨by kernel_rfl, ?_⟩) ?_
            rotate_left
            · intro w
              go_simp
              try with_reducible rfl
            refine wpAny_take (i := 25) (v := ?_) rfl (by kernel_rfl) (by kernel_rfl) (by kernel_rfl) (fun _ _ _ h => h) (Or.inl ⟨by kernel_rfl, ?_⟩) ?_
            rotate_left
            · intro w
              go_simp
              try with_reducible rfl
            refine wpAny_take (i := 28) (v := ?_) rfl (by kernel_rfl) (by kernel_rfl) (by kernel_rfl) (fun _ _ _ h => h) (Or.inl ⟨by kernel_rfl, ?_⟩) ?_
            rotate_left
            · intro w
              go_simp
              try with_reducible rfl
            refine wpAny_ready (rs := [24, 27]) (by kernel_rfl) (by simp) ?_
            refine AllReady.cons rfl (fun K hK => ?_) (AllReady.cons rfl (fun K hK => ?_) AllReady.nil)
            · go_simp
              refine hK _ _ ?_
              clear hK K
              refine wpAny_ready (rs := [26, 27]) (by kernel_rfl) (by simp) ?_
              refine AllReady.cons rfl (fun K hK => ?_) (AllReady.cons rfl (fun K hK => ?_) AllReady.nil)
              · go_simp
                go_at_call 20
                (with_reducible refine (unhide (hG3 w11 hB11)).mono ?_)
                rintro e w12 ⟨rfl, hb12⟩
                have hB12 := hB11.trans (hb12.mono hB11.size)
                clear x0 x1 x2
                obtain ⟨x0, x1, x2⟩ := (hS9.below hB12).cells
                refine hK _ _ ?_
                clear hK K
                refine wpAny_ready (rs := [27]) (by kernel_rfl) (by simp) ?_
                refine AllReady.cons rfl (fun K hK => ?_) AllReady.nil
                go_simp
                refine hK _ _ ?_
                clear hK K
                refine wpAny_ready (rs := [29]) (by kernel_rfl) (by simp) ?_
                refine AllReady.cons rfl (fun K hK => ?_) AllReady.nil
                go_simp
                go_at_call 20
                (with_reducible refine (unhide (hG4 w12 hB12)).mono ?_)
                rintro e w13 ⟨rfl, hb13⟩
                have hB13 := hB12.trans (hb13.mono hB12.size)
                clear x0 x1 x2
                obtain ⟨x0, x1, x2⟩ := (hS9.below hB13).cells
                refine hK _ _ ?_
                clear hK K
                refine wpAny_take (i := 30) (v := ?_) rfl (by kernel_rfl) (by kernel_rfl) (by kernel_rfl) (fun _ _ _ h => h) (Or.inl ⟨by kernel_rfl, ?_⟩) ?_
                rotate_left
                · intro w
                  go_simp
                  try with_reducible rfl
                refine wpAny_take (i := 31) (v := ?_) rfl (by kernel_rfl) (by kernel_rfl) (by kernel_rfl) (fun _ _ _ h => h) (Or.inl ⟨by kernel_rfl, ?_⟩) ?_
                rotate_left
                · intro w
                  go_simp
                  try with_reducible rfl
                refine wpAny_take (i := 32) (v := ?_) rfl (by kernel_rfl) (by kernel_rfl) (by kernel_rfl) (fun _ _ _ h => h) (Or.inl ⟨by kernel_rfl, ?_⟩) ?_
                rotate_left
                · intro w
                  go_simp
                  try with_reducible rfl
                refine wpAny_done (by kernel_rfl) ?_ _
                go_simp
                go_wp2_with fail
                go_ret
                exact ⟨rfl, hbel.trans (hB13.mono hbel.size)⟩
              · go_simp
                refine hK _ _ ?_
                clear hK K
                refine wpAny_ready (rs := [26]) (by kernel_rfl) (by simp) ?_
                refine AllReady.cons rfl (fun K hK => ?_) AllReady.nil
                go_simp
                go_at_call 20
                (with_reducible refine (unhide (hG3 w11 hB11)).mono ?_)
                rintro e w12 ⟨rfl, hb12⟩
                have hB12 := hB11.trans (hb12.mono hB11.size)
                clear x0 x1 x2
                obtain ⟨x0, x1, x2⟩ := (hS9.below hB12).cells
                refine hK _ _ ?_
                clear hK K
                refine wpAny_ready (rs := [29]) (by kernel_rfl) (by simp) ?_
                refine AllReady.cons rfl (fun K hK => ?_) AllReady.nil
                go_simp
                go_at_call 20
                (with_reducible refine (unhide (hG4 w12 hB12)).mono ?_)
                rintro e w13 ⟨rfl, hb13⟩
                have hB13 := hB12.trans (hb13.mono hB12.size)
                clear x0 x1 x2
                obtain ⟨x0, x1, x2⟩ := (hS9.below hB13).cells
                refine hK _ _ ?_
                clear hK K
                refine wpAny_take (i := 30) (v := ?_) rfl (by kernel_rfl) (by kernel_rfl) (by kernel_rfl) (fun _ _ _ h => h) (Or.inl ⟨by kernel_rfl, ?_⟩) ?_
                rotate_left
                · intro w
                  go_simp
                  try with_reducible rfl
                refine wpAny_take (i := 31) (v := ?_) rfl (by kernel_rfl) (by kernel_rfl) (by kernel_rfl) (fun _ _ _ h => h) (Or.inl ⟨by kernel_rfl, ?_⟩) ?_
                rotate_left
                · intro w
                  go_simp
                  try with_reducible rfl
                refine wpAny_take (i := 32) (v := ?_) rfl (by kernel_rfl) (by kernel_rfl) (by kernel_rfl) (fun _ _ _ h => h) (Or.inl ⟨by kernel_rfl, ?_⟩) ?_
                rotate_left
                · intro w
                  go_simp
                  try with_reducible rfl
                refine wpAny_done (by kernel_rfl) ?_ _
                go_simp
                go_wp2_with fail
                go_ret
                exact ⟨rfl, hbel.trans (hB13.mono hbel.size)⟩
            · go_simp
              refine hK _ _ ?_
              clear hK K
              refine wpAny_ready (rs := [24]) (by kernel_rfl) (by simp) ?_
              refine AllReady.cons rfl (fun K hK => ?_) AllReady.nil
              go_simp
              refine hK _ _ ?_
              clear hK K
              refine wpAny_ready (rs := [26]) (by kernel_rfl) (by simp) ?_
              refine AllReady.cons rfl (fun K hK => ?_) AllReady.nil
              go_simp
              go_at_call 20
              (with_reducible refine (unhide (hG3 w11 hB11)).mono ?_)
              rintro e w12 ⟨rfl, hb12⟩
              have hB12 := hB11.trans (hb12.mono hB11.size)
              clear x0 x1 x2
              obtain ⟨x0, x1, x2⟩ := (hS9.below hB12).cells
              refine hK _ _ ?_
              clear hK K
              refine wpAny_ready (rs := [29]) (by kernel_rfl) (by simp) ?_
              refine AllReady.cons rfl (fun K hK => ?_) AllReady.nil
              go_simp
              go_at_call 20
              (with_reducible refine (unhide (hG4 w12 hB12)).mono ?_)
              rintro e w13 ⟨rfl, hb13⟩
              have hB13 := hB12.trans (hb13.mono hB12.size)
              clear x0 x1 x2
              obtain ⟨x0, x1, x2⟩ := (hS9.below hB13).cells
              refine hK _ _ ?_
              clear hK K
              refine wpAny_take (i := 30) (v := ?_) rfl (by kernel_rfl) (by kernel_rfl) (by kernel_rfl) (fun _ _ _ h => h) (Or.inl ⟨by kernel_rfl, ?_⟩) ?_
              rotate_left
              · intro w
                go_simp
                try with_reducible rfl
              refine wpAny_take (i := 31) (v := ?_) rfl (by kernel_rfl) (by kernel_rfl) (by kernel_rfl) (fun _ _ _ h => h) (Or.inl ⟨by kernel_rfl, ?_⟩) ?_
              rotate_left
              · intro w
                go_simp
                try with_reducible rfl
              refine wpAny_take (i := 32) (v := ?_) rfl (by kernel_rfl) (by kernel_rfl) (by kernel_rfl) (fun _ _ _ h => h) (Or.inl ⟨by kernel_rfl, ?_⟩) ?_
              rotate_left
              · intro w
                go_simp
                try with_reducible rfl
              refine wpAny_done (by kernel_rfl) ?_ _
              go_simp
              go_wp2_with fail
              go_ret
              exact ⟨rfl, hbel.trans (hB13.mono hbel.size)⟩
          · refine wp_region_any (by kernel_rfl) ?_
            change wpAny _ _ _ _ _ _ _ (World.drew _)
            refine wpAny_take (i := 1) (v := ?_) rfl (by kernel_rfl) (by kernel_rfl) (by kernel_rfl) (fun _ _ _ h => h) (Or.inl ⟨by kernel_rfl, ?_⟩) ?_
            rotate_left
            · intro w
              go_simp
              try with_reducible rfl
            refine wpAny_ready (rs := [0]) (by kernel_rfl) (by simp) ?_
            refine AllReady.cons rfl (fun K hK => ?_) AllReady.nil
            go_simp
            refine hK _ _ ?_
            clear hK K
            refine wpAny_ready (rs := [2]) (by kernel_rfl) (by simp) ?_
            refine AllReady.cons rfl (fun K hK => ?_) AllReady.nil
            go_simp
            go_at_call 46
            (with_reducible refine (unhide (hG1)).mono ?_)
            rintro e w10 ⟨rfl, hb10⟩
            have hB10 := hd9.trans (hb10.mono hd9.size)
            clear x0 x1 x2
            obtain ⟨x0, x1, x2⟩ := (hS9.below hB10).cells
            refine hK _ _ ?_
            clear hK K
            refine wpAny_take (i := 3) (v := ?_) rfl (by kernel_rfl) (by kernel_rfl) (by kernel_rfl) (fun _ _ _ h => h) (Or.inl ⟨by kernel_rfl, ?_⟩) ?_
            rotate_left
            · intro w
              go_simp
              try with_reducible rfl
            refine wpAny_take (i := 4) (v := ?_) rfl (by kernel_rfl) (by kernel_rfl) (by kernel_rfl) (fun _ _ _ h => h) (Or.inl ⟨by kernel_rfl, ?_⟩) ?_
            rotate_left
            · intro w
              go_simp
              try with_reducible rfl
            refine wpAny_take (i := 5) (v := ?_) rfl (by kernel_rfl) (by kernel_rfl) (by kernel_rfl) (fun _ _ _ h => h) (Or.inl ⟨by kernel_rfl, ?_⟩) ?_
            rotate_left
            · intro w
              go_simp
              try with_reducible rfl
            refine wpAny_take (i := 6) (v := ?_) rfl (by kernel_rfl) (by kernel_rfl) (by kernel_rfl) (fun _ _ _ h => h) (Or.inl ⟨by kernel_rfl, ?_⟩) ?_
            rotate_left
            · intro w
              go_simp
              try with_reducible rfl
            refine wpAny_take (i := 7) (v := ?_) rfl (by kernel_rfl) (by kernel_rfl) (by kernel_rfl) (fun _ _ _ h => h) (Or.inl ⟨by kernel_rfl, ?_⟩) ?_
            rotate_left
            · intro w
              go_simp
              try with_reducible rfl
            refine wpAny_take (i := 8) (v := ?_) rfl (by kernel_rfl) (by kernel_rfl) (by kernel_rfl) (fun _ _ _ h => h) (Or.inl ⟨by kernel_rfl, ?_⟩) ?_
            rotate_left
            · intro w
              go_simp
              try with_reducible rfl
            refine wpAny_ready (rs := [9]) (by kernel_rfl) (by simp) ?_
            refine AllReady.cons rfl (fun K hK => ?_) AllReady.nil
            go_simp
            go_at_call 18
            (with_reducible refine (unhide (hG2 w10 hB10)).mono ?_)
            rintro e w11 ⟨rfl, hb11⟩
            have hB11 := hB10.trans (hb11.mono hB10.size)
            clear x0 x1 x2
            obtain ⟨x0, x1, x2⟩ := (hS9.below hB11).cells
            refine hK _ _ ?_
            clear hK K
            refine wpAny_take (i := 10) (v := ?_) rfl (by kernel_rfl) (by kernel_rfl) (by kernel_rfl) (fun _ _ _ h => h) (Or.inl ⟨by kernel_rfl, ?_⟩) ?_
            rotate_left
            · intro w
              go_simp
              try with_reducible rfl
            refine wpAny_take (i := 11) (v := ?_) rfl (by kernel_rfl) (by kernel_rfl) (by kernel_rfl) (fun _ _ _ h => h) (Or.inl ⟨by kernel_rfl, ?_⟩) ?_
            rotate_left
            · intro w
              go_simp
              try with_reducible rfl
            refine wpAny_take (i := 12) (v := ?_) rfl (by kernel_rfl) (by kernel_rfl) (by kernel_rfl) (fun _ _ _ h => h) (Or.inl ⟨by kernel_rfl, ?_⟩) ?_
            rotate_left
            · intro w
              go_simp
              try with_reducible rfl
            refine wpAny_take (i := 13) (v := ?_) rfl (by kernel_rfl) (by kernel_rfl) (by kernel_rfl) (fun _ _ _ h => h) (Or.inl ⟨by kernel_rfl, ?_⟩) ?_
            rotate_left
            · intro w
              go_simp
              try with_reducible rfl
            refine wpAny_take (i := 14) (v := ?_) rfl (by kernel_rfl) (by kernel_rfl) (by kernel_rfl) (fun _ _ _ h => h) (Or.inl ⟨by kernel_rfl, ?_⟩) ?_
            rotate_left
            · intro w
              go_simp
              try with_reducible rfl
            refine wpAny_take (i := 15) (v := ?_) rfl (by kernel_rfl) (by kernel_rfl) (by kernel_rfl) (fun _ _ _ h => h) (Or.inl ⟨by kernel_rfl, ?_⟩) ?_
            rotate_left
            · intro w
              go_simp
              try with_reducible rfl
            refine wpAny_take (i := 16) (v := ?_) rfl (by kernel_rfl) (by kernel_rfl) (by kernel_rfl) (fun _ _ _ h => h) (Or.inl ⟨by kernel_rfl, ?_⟩) ?_
            rotate_left
            · intro w
              go_simp
              try with_reducible rfl
            refine wpAny_take (i := 17) (v := ?_) rfl (by kernel_rfl) (by kernel_rfl) (by kernel_rfl) (fun _ _ _ h => h) (Or.inl ⟨by kernel_rfl, ?_⟩) ?_
            rotate_left
            · intro w
              go_simp
              try with_reducible rfl
            refine wpAny_take (i := 18) (v := ?_) rfl (by kernel_rfl) (by kernel_rfl) (by kernel_rfl) (fun _ _ _ h => h) (Or.inl ⟨by kernel_rfl, ?_⟩) ?_
            rotate_left
            · intro w
              go_simp
              try with_reducible rfl
            refine wpAny_take (i := 19) (v := ?_) rfl (by kernel_rfl) (by kernel_rfl) (by kernel_rfl) (fun _ _ _ h => h) (Or.inl ⟨by kernel_rfl, ?_⟩) ?_
            rotate_left
            · intro w
              go_simp
              try with_reducible rfl
            refine wpAny_take (i := 20) (v := ?_) rfl (by kernel_rfl) (by kernel_rfl) (by kernel_rfl) (fun _ _ _ h => h) (Or.inl ⟨by kernel_rfl, ?_⟩) ?_
            rotate_left
            · intro w
              go_simp
              try with_reducible rfl
            refine wpAny_take (i := 21) (v := ?_) rfl (by kernel_rfl) (by kernel_rfl) (by kernel_rfl) (fun _ _ _ h => h) (Or.inl ⟨by kernel_rfl, ?_⟩) ?_
            rotate_left
            · intro w
              go_simp
              try with_reducible rfl
            refine wpAny_take (i := 22) (v := ?_) rfl (by kernel_rfl) (by kernel_rfl) (by kernel_rfl) (fun _ _ _ h => h) (Or.inl ⟨by kernel_rfl, ?_⟩) ?_
            rotate_left
            · intro w
              go_simp
              try with_reducible rfl
            refine wpAny_take (i := 23) (v := ?_) rfl (by kernel_rfl) (by kernel_rfl) (by kernel_rfl) (fun _ _ _ h => h) (Or.inl ⟨by kernel_rfl, ?_⟩) ?_
            rotate_left
            · intro w
              go_simp
              try with_reducible rfl
            refine wpAny_take (i := 25) (v := ?_) rfl (by kernel_rfl) (by kernel_rfl) (by kernel_rfl) (fun _ _ _ h => h) (Or.inl ⟨by kernel_rfl, ?_⟩) ?_
            rotate_left
            · intro w
              go_simp
              try with_reducible rfl
            refine wpAny_take (i := 28) (v := ?_) rfl (by kernel_rfl) (by kernel_rfl) (by kernel_rfl) (fun _ _ _ h => h) (Or.inl ⟨by kernel_rfl, ?_⟩) ?_
            rotate_left
            · intro w
              go_simp
              try with_reducible rfl
            refine wpAny_ready (rs := [24, 27]) (by kernel_rfl) (by simp) ?_
            refine AllReady.cons rfl (fun K hK => ?_) (AllReady.cons rfl (fun K hK => ?_) AllReady.nil)
            · go_simp
              refine hK _ _ ?_
              clear hK K
              refine wpAny_ready (rs := [26, 27]) (by kernel_rfl) (by simp) ?_
              refine AllReady.cons rfl (fun K hK => ?_) (AllReady.cons rfl (fun K hK => ?_) AllReady.nil)
              · go_simp
                go_at_call 20
                (with_reducible refine (unhide (hG3 w11 hB11)).mono ?_)
                rintro e w12 ⟨rfl, hb12⟩
                have hB12 := hB11.trans (hb12.mono hB11.size)
                clear x0 x1 x2
                obtain ⟨x0, x1, x2⟩ := (hS9.below hB12).cells
                refine hK _ _ ?_
                clear hK K
                refine wpAny_ready (rs := [27]) (by kernel_rfl) (by simp) ?_
                refine AllReady.cons rfl (fun K hK => ?_) AllReady.nil
                go_simp
                refine hK _ _ ?_
                clear hK K
                refine wpAny_ready (rs := [29]) (by kernel_rfl) (by simp) ?_
                refine AllReady.cons rfl (fun K hK => ?_) AllReady.nil
                go_simp
                go_at_call 20
                (with_reducible refine (unhide (hG4 w12 hB12)).mono ?_)
                rintro e w13 ⟨rfl, hb13⟩
                have hB13 := hB12.trans (hb13.mono hB12.size)
                clear x0 x1 x2
                obtain ⟨x0, x1, x2⟩ := (hS9.below hB13).cells
                refine hK _ _ ?_
                clear hK K
                refine wpAny_take (i := 30) (v := ?_) rfl (by kernel_rfl) (by kernel_rfl) (by kernel_rfl) (fun _ _ _ h => h) (Or.inl ⟨by kernel_rfl, ?_⟩) ?_
                rotate_left
                · intro w
                  go_simp
                  try with_reducible rfl
                refine wpAny_take (i := 31) (v := ?_) rfl (by kernel_rfl) (by kernel_rfl) (by kernel_rfl) (fun _ _ _ h => h) (Or.inl ⟨by kernel_rfl, ?_⟩) ?_
                rotate_left
                · intro w
                  go_simp
                  try with_reducible rfl
                refine wpAny_take (i := 32) (v := ?_) rfl (by kernel_rfl) (by kernel_rfl) (by kernel_rfl) (fun _ _ _ h => h) (Or.inl ⟨by kernel_rfl, ?_⟩) ?_
                rotate_left
                · intro w
                  go_simp
                  try with_reducible rfl
                refine wpAny_done (by kernel_rfl) ?_ _
                go_simp
                go_wp2_with fail
                go_ret
                exact ⟨rfl, hbel.trans (hB13.mono hbel.size)⟩
              · go_simp
                refine hK _ _ ?_
                clear hK K
                refine wpAny_ready (rs := [26]) (by kernel_rfl) (by simp) ?_
                refine AllReady.cons rfl (fun K hK => ?_) AllReady.nil
                go_simp
                go_at_call 20
                (with_reducible refine (unhide (hG3 w11 hB11)).mono ?_)
                rintro e w12 ⟨rfl, hb12⟩
                have hB12 := hB11.trans (hb12.mono hB11.size)
                clear x0 x1 x2
                obtain ⟨x0, x1, x2⟩ := (hS9.below hB12).cells
                refine hK _ _ ?_
                clear hK K
                refine wpAny_ready (rs := [29]) (by kernel_rfl) (by simp) ?_
                refine AllReady.cons rfl (fun K hK => ?_) AllReady.nil
                go_simp
                go_at_call 20
                (with_reducible refine (unhide (hG4 w12 hB12)).mono ?_)
                rintro e w13 ⟨rfl, hb13⟩
                have hB13 := hB12.trans (hb13.mono hB12.size)
                clear x0 x1 x2
                obtain ⟨x0, x1, x2⟩ := (hS9.below hB13).cells
                refine hK _ _ ?_
                clear hK K
                refine wpAny_take (i := 30) (v := ?_) rfl (by kernel_rfl) (by kernel_rfl) (by kernel_rfl) (fun _ _ _ h => h) (Or.inl ⟨by kernel_rfl, ?_⟩) ?_
                rotate_left
                · intro w
                  go_simp
                  try with_reducible rfl
                refine wpAny_take (i := 31) (v := ?_) rfl (by kernel_rfl) (by kernel_rfl) (by kernel_rfl) (fun _ _ _ h => h) (Or.inl ⟨by kernel_rfl, ?_⟩) ?_
                rotate_left
                · intro w
                  go_simp
                  try with_reducible rfl
                refine wpAny_take (i := 32) (v := ?_) rfl (by kernel_rfl) (by kernel_rfl) (by kernel_rfl) (fun _ _ _ h => h) (Or.inl ⟨by kernel_rfl, ?_⟩) ?_
                rotate_left
                · intro w
                  go_simp
                  try with_reducible rfl
                refine wpAny_done (by kernel_rfl) ?_ _
                go_simp
                go_wp2_with fail
                go_ret
                exact ⟨rfl, hbel.trans (hB13.mono hbel.size)⟩
            · go_simp
              refine hK _ _ ?_
              clear hK K
              refine wpAny_ready (rs := [24]) (by kernel_rfl) (by simp) ?_
              refine AllReady.cons rfl (fun K hK => ?_) AllReady.nil
              go_simp
              refine hK _ _ ?_
              clear hK K
              refine wpAny_ready (rs := [26]) (by kernel_rfl) (by simp) ?_
              refine AllReady.cons rfl (fun K hK => ?_) AllReady.nil
              go_simp
              go_at_call 20
              (with_reducible refine (unhide (hG3 w11 hB11)).mono ?_)
              rintro e w12 ⟨rfl, hb12⟩
              have hB12 := hB11.trans (hb12.mono hB11.size)
              clear x0 x1 x2
              obtain ⟨x0, x1, x2⟩ := (hS9.below hB12).cells
              refine hK _ _ ?_
              clear hK K
              refine wpAny_ready (rs := [29]) (by kernel_rfl) (by simp) ?_
              refine AllReady.cons rfl (fun K hK => ?_) AllReady.nil
              go_simp
              go_at_call 20
              (with_reducible refine (unhide (hG4 w12 hB12)).mono ?_)
              rintro e w13 ⟨rfl, hb13⟩
              have hB13 := hB12.trans (hb13.mono hB12.size)
              clear x0 x1 x2
              obtain ⟨x0, x1, x2⟩ := (hS9.below hB13).cells
              refine hK _ _ ?_
              clear hK K
              refine wpAny_take (i := 30) (v := ?_) rfl (by kernel_rfl) (by kernel_rfl) (by kernel_rfl) (fun _ _ _ h => h) (Or.inl ⟨by kernel_rfl, ?_⟩) ?_
              rotate_left
              · intro w
                go_simp
                try with_reducible rfl
              refine wpAny_take (i := 31) (v := ?_) rfl (by kernel_rfl) (by kernel_rfl) (by kernel_rfl) (fun _ _ _ h => h) (Or.inl ⟨by kernel_rfl, ?_⟩) ?_
              rotate_left
              · intro w
                go_simp
                try with_reducible rfl
              refine wpAny_take (i := 32) (v := ?_) rfl (by kernel_rfl) (by kernel_rfl) (by kernel_rfl) (fun _ _ _ h => h) (Or.inl ⟨by kernel_rfl, ?_⟩) ?_
              rotate_left
              · intro w
                go_simp
                try with_reducible rfl
              refine wpAny_done (by kernel_rfl) ?_ _
              go_simp
              go_wp2_with fail
              go_ret
              exact ⟨rfl, hbel.trans (hB13.mono hbel.size)⟩

end Go.Proofs.Ytahpipcmgcambaa
