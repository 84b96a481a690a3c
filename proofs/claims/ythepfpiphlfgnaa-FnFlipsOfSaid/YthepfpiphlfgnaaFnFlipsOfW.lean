/-
  YthepfpiphlfgnaaFnFlipsOfW: the walk of FnFlipsOf.
-/
import Derived.Test.YthepfpiphlfgnaaDkl
import Derived.Test.YthepfpiphlfgnaaLz
import Derived.Test.YthepfpiphlfgnaaCz
import Derived.Test.YthepfpiphlfgnaaLee
import Derived.Test.YthepfpiphlfgnaaTuz
import Derived.Deep.RegionHeld
namespace Go.Proofs.Ythepfpiphlfgnaa
open Go.RowKit

set_option maxHeartbeats 4000000 in
set_option maxRecDepth 20000 in
theorem FnFlipsOf_walk (w : World) (A : Option Addr) (n c : Nat) (zs : List Int) (hnc : n ≤ c) (hm : n ≤ maxLen) (_hl : zs.length = n) (hr : Reads w w.heap.size 1 A n (zs.map (Value.int .u8))) (hwz : ∀ z ∈ zs, (Lit.int .u8 z).wf = true) :
    Calls Try.prog 9 #[.slice A n c] w fun e w' => e = .returned (.bool true) ∧ Below w.heap.size w w' := by
  unfold maxLen at hm
  by_cases hb : 1048576 < n
  · go_enter Try.func9, Try.ntmps9
    go_wp2_with fail
    go_ret
    exact ⟨rfl, Below.refl _ _⟩
  · have hDR := hide (drawFlipsOf_any A n c zs w hr hnc (by omega) hwz)
    clear hr hwz hm _hl
    go_enter Try.func9, Try.ntmps9
    go_wp2_with fail
    refine (unhide hDR).mono ?_
    rintro e w1 ⟨W, T, A2, c2, Da, da, bs, a, rfl, hreg, ha1, hna, hB1⟩
    clear hDR
    have hS2 := LS.start (W := W) (T := T) hB1 hreg
    have ha2 : LI w (w1.alloc (.cells #[.int .i64 W, .int .i64 T, .slice A2 bs.length c2] 25)) Da da a := ha1.below ((Below.refl _ _).alloc (Nat.le_refl _) _)
    clear hreg hB1 ha1
    go_upto_region 4 with fail
    generalize w1.alloc (.cells #[.int .i64 W, .int .i64 T, .slice A2 bs.length c2] 25) = w2 at *
    generalize w1.heap.size = x at *
    have hbs := hS2.len
    obtain ⟨V, hV⟩ : ∃ V, fsV W T bs a = V := ⟨_, rfl⟩
    obtain ⟨lb, hlb⟩ : ∃ lb, laidB W T bs a = lb := ⟨_, rfl⟩
    have hno : lb = false → V = [] := fun h => by rw [← hV]; exact fsV_no (hlb.trans h)
    have hlen : V.length ≤ 49 := by rw [← hV]; exact fsV_len
    have hC2 := flipsOfI_any W T A2 bs.length c2 w2.heap.size bs a Da a.length da w2 rfl rfl hS2.rd ha2.rd (Nat.le_refl _) (by omega) (by omega)
    rw [hV] at hC2
    obtain ⟨x0, x1, x2⟩ := hS2.cells
    go_wp2_with fail
    refine hC2.mono ?_
    rintro e w3 ⟨A3, c3, c3', rfl, ho3, hw3⟩
    have hS3 := hS2.below hw3
    have ha3 := ha2.below hw3
    have hV3 : LI w w3 A3 c3' V := LI.of hS2.bel.size ho3
    clear hS2 hC2 hw3 ha2 ho3 x0 x1 x2
    have hC3 := flipsOfS_any W T A2 bs.length c2 w3.heap.size bs a Da a.length da w3 rfl rfl hS3.rd ha3.rd (Nat.le_refl _) (by omega) (by omega)
    rw [hV] at hC3
    obtain ⟨x0, x1, x2⟩ := hS3.cells
    go_wp2_with fail
    refine hC3.mono ?_
    rintro e w4 ⟨A4, c4, c4', rfl, ho4, hw4⟩
    have hS4 := hS3.below hw4
    have ha4 := ha3.below hw4
    have hV4 := hV3.below hw4
    have hY4 : LI w w4 A4 c4' V := LI.of hS3.bel.size ho4
    clear hS3 hC3 hw4 ha3 hV3 ho4 x0 x1 x2
    have hC4 := sameInts_any V V A3 A4 V.length c3' V.length c4' w4.heap.size w4 rfl rfl hV4.rd hY4.rd (by omega) (by omega)
    rw [beq_self_list] at hC4
    go_wp2_with fail
    refine hC4.mono ?_
    rintro e w5 ⟨rfl, hw5⟩
    have hS5 := hS4.below hw5
    have ha5 := ha4.below hw5
    have hV5 := hV4.below hw5
    clear hS4 hC4 hw5 ha4 hV4 hY4 
    have hC5 := laidOkS_any W T A2 bs.length c2 w5.heap.size bs a Da a.length da w5 rfl rfl hS5.rd ha5.rd (Nat.le_refl _) (by omega) (by omega)
    rw [hlb] at hC5
    obtain ⟨x0, x1, x2⟩ := hS5.cells
    go_wp2_with fail
    refine hC5.mono ?_
    rintro e w6 ⟨rfl, hw6⟩
    have hS6 := hS5.below hw6
    have ha6 := ha5.below hw6
    have hV6 := hV5.below hw6
    clear hS5 hC5 hw6 ha5 hV5 x0 x1 x2
    cases lb with
    | false =>
      have hE := hno (by first | rfl | trivial)
      clear hno
      subst hE
      have hbel := hS6.bel
      clear hS6 ha6 hV6
      go_wp2_with fail
      refine (alive_any _).mono ?_
      rintro e w7 ⟨rfl, hw7⟩
      go_wp2_with fail
      go_ret
      exact ⟨rfl, hbel.trans (hw7.mono hbel.size)⟩
      | true =>
        clear hno
        obtain ⟨R, hR, rfl, rfl, rfl, hLy⟩ := laid_cases hlb
        have hal := hLy.len
        have hl36 := (len_bd hR).2
        have hl1 := (len_bd hR).1
        have hcn := cn_bd hR
        have hcb := cornersB_cn hR
        have hfs := fsV_yes hlb
        rw [hV] at hfs
        have hasc : Asc V := by rw [← hV]; exact asc_fsV
        have hmem : ∀ k : Nat, k < R.cn → decide ((k : Int) ∈ V) = flB R a (k : Int) := fun k hk => by rw [hfs]; exact fs_mem hk
        have htv : (fsV R.T R.W (turnR R).C (tuL R a)).length = V.length := (fsV_turn hR hLy).trans (by rw [hV])
        have HMEM := Lib.hid hmem
        have HASC := Lib.hid hasc
        have HTV := Lib.hid htv
        have HLY := Lib.hid hLy
        have HAL := Lib.hid hal
        clear hmem hasc htv hfs hLy
        go_upto_region 10 with fail
        go_loopg [6] R.cn (fun r s6 wr => ∃ k : Nat, k + r = R.cn ∧ s6 = .int .i64 (k : Nat) ∧ LS w wr x R.W R.T A2 c2 R.C ∧ LI w wr Da da a ∧ LI w wr A3 c3' V)
        case atStart => exact ⟨0, by omega, rfl, hS6, ha6, hV6⟩
        case round =>
          clear hS6 ha6 hV6
          obtain ⟨k, hk, rfl, hS, ha, hVV⟩ := hrel
          have HK := Lib.hid hk
          clear hk
          have hC := cornerManyI_any R.W R.T A2 R.C.length c2 wr.heap.size R.C wr rfl hS.rd (Nat.le_refl _) (by omega)
          rw [hcb] at hC
          obtain ⟨x0, x1, x2⟩ := hS.cells
          go_wp2_with fail
          refine hC.mono ?_
          rintro e w8 ⟨rfl, hw8⟩
          have hS8 := hS.below hw8
          have ha8 := ha.below hw8
          have hV8 := hVV.below hw8
          clear hS ha hVV hC hw8 x0 x1 x2
          by_cases hlt : k < R.cn
          · have hmk := HMEM.out k hlt
            obtain ⟨fb, hfb⟩ : ∃ fb, flB R a (k : Int) = fb := ⟨_, rfl⟩
            rw [hfb] at hmk
            have hd0 := (Below.refl w8.heap.size w8).drew
            have hG0 := hide (hasInt_any V A3 V.length c3' w8.drew.heap.size (k : Int) w8.drew rfl (hV8.below hd0).rd (by omega))
            rw [hmk] at hG0
            have hG1 := fun w' (h : Below w8.heap.size w8 w') => hide (flipMayI_ok R hR A2 c2 w'.heap.size a Da da (k : Int) (by omega) HLY.out w' (hS8.below h).rd (by have := (ha8.below h).rd; rw [HAL.out] at this; exact this) (Nat.le_refl _))
            rw [hfb] at hG1
            clear hmk hfb
            go_upto_region 12 with fail
            refine wp_region_held_drew (S := (fun w' => w'.cell? ⟨x, 0, none⟩ = some (.int .i64 R.W) ∧ w'.cell? ⟨x, 1, none⟩ = some (.int .i64 R.T) ∧ w'.cell? ⟨x, 2, none⟩ = some (.slice A2 R.C.length c2))) (by kernel_rfl) (hS8.below hd0).cells ?_
            intro hHeld
            refine wpAnyH_take (i := 0) (v := ?_) rfl (by kernel_rfl) (by kernel_rfl) (by kernel_rfl) (fun _ _ _ h => h) (Or.inl ⟨by kernel_rfl, ?_⟩) hHeld ?_
            rotate_left
            · intro w' hS'
              clear hS'
              go_simp
              try with_reducible rfl
            refine wpAnyH_take (i := 1) (v := ?_) rfl (by kernel_rfl) (by kernel_rfl) (by kernel_rfl) (fun _ _ _ h => h) (Or.inl ⟨by kernel_rfl, ?_⟩) hHeld ?_
            rotate_left
            · intro w' hS'
              clear hS'
              go_simp
              try with_reducible rfl
            refine wpAnyH_take (i := 3) (v := ?_) rfl (by kernel_rfl) (by kernel_rfl) (by kernel_rfl) (fun _ _ _ h => h) (Or.inl ⟨by kernel_rfl, ?_⟩) hHeld ?_
            rotate_left
            · intro w' hS'
              obtain ⟨x0, x1, x2⟩ := hS'
              go_simp
              try with_reducible rfl
            refine wpAnyH_take (i := 4) (v := ?_) rfl (by kernel_rfl) (by kernel_rfl) (by kernel_rfl) (fun _ _ _ h => h) (Or.inl ⟨by kernel_rfl, ?_⟩) hHeld ?_
            rotate_left
            · intro w' hS'
              clear hS'
              go_simp
              try with_reducible rfl
            refine wpAnyH_take (i := 5) (v := ?_) rfl (by kernel_rfl) (by kernel_rfl) (by kernel_rfl) (fun _ _ _ h => h) (Or.inl ⟨by kernel_rfl, ?_⟩) hHeld ?_
            rotate_left
            · intro w' hS'
              clear hS'
              go_simp
              try with_reducible rfl
            refine wpAnyH_ready (rs := [2]) (by kernel_rfl) (by simp) ?_
            refine AllReadyH.cons rfl (fun K hK => ?_) AllReadyH.nil
            go_simp
            go_at_call 45
            (with_reducible refine (unhide hG0).mono ?_)
            rintro e w9 ⟨rfl, hb9⟩
            have hB9 := hd0.trans (hb9.mono hd0.size)
            refine hK.out _ _ ?_ ?_
            · exact (hS8.below hB9).cells
            clear hHeld
            intro hHeld
            clear hK K
            refine wpAnyH_ready (rs := [6]) (by kernel_rfl) (by simp) ?_
            refine AllReadyH.cons rfl (fun K hK => ?_) AllReadyH.nil
            go_simp
            go_at_call 46
            (with_reducible refine (unhide (hG1 _ hB9)).mono ?_)
            rintro e w10 ⟨rfl, hb10⟩
            have hB10 := hB9.trans (hb10.mono hB9.size)
            refine hK.out _ _ ?_ ?_
            · exact (hS8.below hB10).cells
            clear hHeld
            intro hHeld
            clear hK K
            refine wpAnyH_take (i := 7) (v := ?_) rfl (by kernel_rfl) (by kernel_rfl) (by kernel_rfl) (fun _ _ _ h => h) (Or.inl ⟨by kernel_rfl, ?_⟩) hHeld ?_
            rotate_left
            · intro w' hS'
              clear hS'
              go_simp
              try with_reducible rfl
            refine wpAnyH_done (by kernel_rfl) ?_ _
            clear hHeld hG0 hG1
            have hS10 := hS8.below hB10
            have ha10 := ha8.below hB10
            have hV10 := hV8.below hB10
            clear hS8 ha8 hV8 hB9 hB10 hb9 hb10 hd0
            have hne : (fb != fb) = false := by cases fb <;> rfl
            go_simp
            go_wp2_with fail
            go_roundg (R.cn - (k + 1))
            case measure => have := HK.out; omega
            case rel => exact ⟨k + 1, by have := HK.out; omega, by go_num, hS10, ha10, hV10⟩
          · have hkc : ¬ (k : Int) < (R.cn : Int) := by omega
            have hd0 := (Below.refl w8.heap.size w8).drew
            have hG0 := hide (ascend_any V A3 V.length c3' w8.drew.heap.size w8.drew rfl HASC.out (hV8.below hd0).rd (by omega))
            have hG1 := fun w' (h : Below w8.heap.size w8 w') => hide (turnI_ok R hR A2 c2 w'.heap.size w' (hS8.below h).rd (Nat.le_refl _))
            have hG2 := fun w' (h : Below w8.heap.size w8 w') => hide (tilingTurnI_ok R hR A2 c2 w'.heap.size a HLY.out Da da w' (hS8.below h).rd (by have := (ha8.below h).rd; rw [HAL.out] at this; exact this) (Nat.le_refl _))
            have htl : (turnR R).C.length = R.C.length := by show ((List.range R.C.length).map _).length = _; rw [List.length_map, List.length_range]
            have htul : (tuL R a).length = R.C.length := by show ((List.range R.C.length).map _).length = _; rw [List.length_map, List.length_range]
            have hG3 := fun (g1 c1 g2 : Nat) w' (hr1 : Reads w' w'.heap.size 1 (some ⟨g1, 0, none⟩) R.C.length ((turnR R).C.map Value.bool)) (hr2 : Reads w' w'.heap.size 1 (some ⟨g2, 0, none⟩) R.C.length ((tuL R a).map (Value.int .i64))) => hide (flipsOfI_any R.T R.W (some ⟨g1, 0, none⟩) R.C.length c1 w'.heap.size (turnR R).C (tuL R a) (some ⟨g2, 0, none⟩) R.C.length R.C.length w' htl htul hr1 hr2 (Nat.le_refl _) (by omega) (by omega))
            have htv := HTV.out
            generalize fsV R.T R.W (turnR R).C (tuL R a) = V2 at *
            have hbel := hS8.bel
            have hvv : ((V2.length : Int) == (V.length : Int)) = true := by rw [htv]; simp
            have HVV := Lib.hid hvv
            clear HTV htl htul htv hvv
            go_upto_region 14 with fail
            refine wp_region_held_drew (S := (fun w' => w'.cell? ⟨x, 0, none⟩ = some (.int .i64 R.W) ∧ w'.cell? ⟨x, 1, none⟩ = some (.int .i64 R.T) ∧ w'.cell? ⟨x, 2, none⟩ = some (.slice A2 R.C.length c2))) (by kernel_rfl) (hS8.below hd0).cells ?_
            intro hHeld
            refine wpAnyH_take (i := 0) (v := ?_) rfl (by kernel_rfl) (by kernel_rfl) (by kernel_rfl) (fun _ _ _ h => h) (Or.inl ⟨by kernel_rfl, ?_⟩) hHeld ?_
            rotate_left
            · intro w' hS'
              clear hS'
              go_simp
              try with_reducible rfl
            refine wpAnyH_ready (rs := [1]) (by kernel_rfl) (by simp) ?_
            refine AllReadyH.cons rfl (fun K hK => ?_) AllReadyH.nil
            go_simp
            go_at_call 47
            (with_reducible refine (unhide hG0).mono ?_)
            rintro e w9 ⟨rfl, hb9⟩
            have hB9 := hd0.trans (hb9.mono hd0.size)
            refine hK.out _ _ ?_ ?_
            · exact (hS8.below hB9).cells
            clear hHeld
            intro hHeld
            clear hK K
            refine wpAnyH_take (i := 2) (v := ?_) rfl (by kernel_rfl) (by kernel_rfl) (by kernel_rfl) (fun _ _ _ h => h) (Or.inl ⟨by kernel_rfl, ?_⟩) hHeld ?_
            rotate_left
            · intro w' hS'
              clear hS'
              go_simp
              try with_reducible rfl
            refine wpAnyH_take (i := 3) (v := ?_) rfl (by kernel_rfl) (by kernel_rfl) (by kernel_rfl) (fun _ _ _ h => h) (Or.inl ⟨by kernel_rfl, ?_⟩) hHeld ?_
            rotate_left
            · intro w' hS'
              obtain ⟨x0, x1, x2⟩ := hS'
              go_simp
              try with_reducible rfl
            refine wpAnyH_take (i := 5) (v := ?_) rfl (by kernel_rfl) (by kernel_rfl) (by kernel_rfl) (fun _ _ _ h => h) (Or.inl ⟨by kernel_rfl, ?_⟩) hHeld ?_
            rotate_left
            · intro w' hS'
              obtain ⟨x0, x1, x2⟩ := hS'
              go_simp
              try with_reducible rfl
            refine wpAnyH_take (i := 6) (v := ?_) rfl (by kernel_rfl) (by kernel_rfl) (by kernel_rfl) (fun _ _ _ h => h) (Or.inl ⟨by kernel_rfl, ?_⟩) hHeld ?_
            rotate_left
            · intro w' hS'
              clear hS'
              go_simp
              try with_reducible rfl
            refine wpAnyH_take (i := 10) (v := ?_) rfl (by kernel_rfl) (by kernel_rfl) (by kernel_rfl) (fun _ _ _ h => h) (Or.inl ⟨by kernel_rfl, ?_⟩) hHeld ?_
            rotate_left
            · intro w' hS'
              clear hS'
              go_simp
              try with_reducible rfl
            refine wpAnyH_take (i := 11) (v := ?_) rfl (by kernel_rfl) (by kernel_rfl) (by kernel_rfl) (fun _ _ _ h => h) (Or.inl ⟨by kernel_rfl, ?_⟩) hHeld ?_
            rotate_left
            · intro w' hS'
              clear hS'
              go_simp
              try with_reducible rfl
            refine wpAnyH_ready (rs := [4]) (by kernel_rfl) (by simp) ?_
            refine AllReadyH.cons rfl (fun K hK => ?_) AllReadyH.nil
            go_simp
            go_at_call 48
            (with_reducible refine (unhide (hG1 _ hB9)).mono ?_)
            rintro e w10 ⟨g1, c1, rfl, ho1, hb10⟩
            have hB10 := hB9.trans (hb10.mono hB9.size)
            refine hK.out _ _ ?_ ?_
            · exact (hS8.below hB10).cells
            clear hHeld
            intro hHeld
            clear hK K
            refine wpAnyH_ready (rs := [7]) (by kernel_rfl) (by simp) ?_
            refine AllReadyH.cons rfl (fun K hK => ?_) AllReadyH.nil
            go_simp
            go_at_call 49
            (with_reducible refine (unhide (hG2 _ hB10)).mono ?_)
            rintro e w11 ⟨g2, rfl, ho2, hb11⟩
            have hB11 := hB10.trans (hb11.mono hB10.size)
            have ho1b := own_below ho1 hb11 (Nat.le_refl _)
            refine hK.out _ _ ?_ ?_
            · exact (hS8.below hB11).cells
            clear hHeld
            intro hHeld
            clear hK K
            refine wpAnyH_ready (rs := [8]) (by kernel_rfl) (by simp) ?_
            refine AllReadyH.cons rfl (fun K hK => ?_) AllReadyH.nil
            go_simp
            go_at_call 37
            (with_reducible refine (unhide (hG3 g1 c1 g2 _ (Reads.of_own ho1b) (Reads.of_own ho2))).mono ?_)
            rintro e w12 ⟨A12, c12, c12', rfl, _, hb12⟩
            have hB12 := hB11.trans (hb12.mono hB11.size)
            refine hK.out _ _ ?_ ?_
            · exact (hS8.below hB12).cells
            clear hHeld
            intro hHeld
            clear hK K
            refine wpAnyH_take (i := 9) (v := ?_) rfl (by kernel_rfl) (by kernel_rfl) (by kernel_rfl) (fun _ _ _ h => h) (Or.inl ⟨by kernel_rfl, ?_⟩) hHeld ?_
            rotate_left
            · intro w' hS'
              clear hS'
              go_simp
              try with_reducible rfl
            refine wpAnyH_take (i := 12) (v := ?_) rfl (by kernel_rfl) (by kernel_rfl) (by kernel_rfl) (fun _ _ _ h => h) (Or.inl ⟨by kernel_rfl, ?_⟩) hHeld ?_
            rotate_left
            · intro w' hS'
              clear hS'
              go_simp
              try with_reducible rfl
            refine wpAnyH_take (i := 13) (v := ?_) rfl (by kernel_rfl) (by kernel_rfl) (by kernel_rfl) (fun _ _ _ h => h) (Or.inl ⟨by kernel_rfl, ?_⟩) hHeld ?_
            rotate_left
            · intro w' hS'
              clear hS'
              go_simp
              try with_reducible rfl
            refine wpAnyH_take (i := 14) (v := ?_) rfl (by kernel_rfl) (by kernel_rfl) (by kernel_rfl) (fun _ _ _ h => h) (Or.inl ⟨by kernel_rfl, ?_⟩) hHeld ?_
            rotate_left
            · intro w' hS'
              clear hS'
              go_simp
              try with_reducible rfl
            refine wpAnyH_done (by kernel_rfl) ?_ _
            have hvv := HVV.out
            clear hHeld hG0 hG1 hG2 hG3 hS8 ha8 hV8 hB9 hB10 hB11 hb9 hb10 hb11 hb12 ho1 ho1b ho2 hd0
            go_simp
            go_wp2_with fail
            go_ret
            exact ⟨ret_bool (by simp), hbel.trans (hB12.mono hbel.size)⟩

end Go.Proofs.Ythepfpiphlfgnaa
