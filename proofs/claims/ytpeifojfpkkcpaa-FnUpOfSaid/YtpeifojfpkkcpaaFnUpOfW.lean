/-
  YtpeifojfpkkcpaaFnUpOfW: the walk of FnUpOf.
-/
import Derived.Test.YtpeifojfpkkcpaaDv
import Derived.Test.YtpeifojfpkkcpaaLz
import Derived.Test.YtpeifojfpkkcpaaLdd
namespace Go.Proofs.Ytpeifojfpkkcpaa
open Go.RowKit

set_option maxHeartbeats 4000000 in
set_option maxRecDepth 20000 in
theorem FnUpOf_walk (w : World) (A : Option Addr) (n c : Nat) (zs : List Int) (hnc : n ≤ c) (hm : n ≤ maxLen) (_hl : zs.length = n) (hr : Reads w w.heap.size 1 A n (zs.map (Value.int .u8))) (hwz : ∀ z ∈ zs, (Lit.int .u8 z).wf = true) :
    Calls Try.prog 8 #[.slice A n c] w fun e w' => e = .returned (.bool true) ∧ Below w.heap.size w w' := by
  unfold maxLen at hm
  by_cases hb : 1048576 < n
  · go_enter Try.func8, Try.ntmps8
    go_wp2_with fail
    go_ret
    exact ⟨rfl, Below.refl _ _⟩
  · have hDR := hide (drawUpOf_any A n c zs w hr hnc (by omega) hwz)
    clear hr hwz hm _hl
    go_enter Try.func8, Try.ntmps8
    go_wp2_with fail
    refine (unhide hDR).mono ?_
    rintro e w1 ⟨W, T, A2, c2, Da, da, bs, a, rfl, hreg, ha1, hna, hB1⟩
    clear hDR
    have hS2 := LS.start (W := W) (T := T) hB1 hreg
    have ha2 : LI w (w1.alloc (.cells #[.int .i64 W, .int .i64 T, .slice A2 bs.length c2] 25)) Da da a := ha1.below ((Below.refl _ _).alloc (Nat.le_refl _) _)
    clear hreg hB1 ha1
    go_upto_region 4 with fail
    generalize w1.alloc (.cells #[.int .i64 W, .int .i64 T, .slice A2 bs.length c2] 25) = w2 at *
    generalize w1.heap.size = x at *
    have hbs := hS2.len
    have hXl := rgV_len (W := W) (T := T) (bs := bs) (L := a) (b := 4)
    have hDl := rgV_len (W := W) (T := T) (bs := bs) (L := a) (b := -4)
    have hFl := fsV_len (W := W) (T := T) (bs := bs) (L := a)
    have hlaw := law_upOf (W := W) (T := T) (bs := bs) (L := a)
    have hno := rgV_no (W := W) (T := T) (bs := bs) (L := a) (b := 4)
    have hasc := asc_rgV (W := W) (T := T) (bs := bs) (L := a) (b := 4)
    have htd : tiledB W T bs a = (simpleB W T bs && tilingB W T bs a) := rfl
    obtain ⟨sb, hsb⟩ : ∃ sb, simpleB W T bs = sb := ⟨_, rfl⟩
    obtain ⟨tb, htb⟩ : ∃ tb, tilingB W T bs a = tb := ⟨_, rfl⟩
    rw [hsb, htb] at htd
    obtain ⟨X, hX⟩ : ∃ X, rgV W T bs a 4 = X := ⟨_, rfl⟩
    obtain ⟨Dn, hDn⟩ : ∃ Dn, rgV W T bs a (-4) = Dn := ⟨_, rfl⟩
    obtain ⟨Fs, hFs⟩ : ∃ Fs, fsV W T bs a = Fs := ⟨_, rfl⟩
    rw [hX] at hXl hlaw hno hasc
    rw [hDn] at hDl hlaw
    rw [hFs] at hFl hlaw
    have HASC := Lib.hid hasc
    clear hasc
    have hC2 := upOfI_any W T A2 bs.length c2 w2.heap.size bs a Da a.length da ha2.plain w2 rfl rfl hS2.rd ha2.rd (Nat.le_refl _) (by omega) (by omega)
    rw [hX] at hC2
    obtain ⟨x0, x1, x2⟩ := hS2.cells
    go_wp2_with fail
    refine hC2.mono ?_
    rintro e w3 ⟨A3, c3, c3', rfl, ho3, hw3⟩
    have hS3 := hS2.below hw3
    have ha3 := ha2.below hw3
    have hX3 : LI w w3 A3 c3' X := LI.of hS2.bel.size ho3
    clear hS2 hC2 hw3 ha2 ho3 x0 x1 x2
    have hC3 := upOfS_any W T A2 bs.length c2 w3.heap.size bs a Da a.length da w3 rfl rfl hS3.rd ha3.rd (Nat.le_refl _) (by omega) (by omega)
    rw [hX] at hC3
    obtain ⟨x0, x1, x2⟩ := hS3.cells
    go_wp2_with fail
    refine hC3.mono ?_
    rintro e w4 ⟨A4, c4, c4', rfl, ho4, hw4⟩
    have hS4 := hS3.below hw4
    have ha4 := ha3.below hw4
    have hX4 := hX3.below hw4
    have hY4 : LI w w4 A4 c4' X := LI.of hS3.bel.size ho4
    clear hS3 hC3 hw4 ha3 hX3 ho4 x0 x1 x2
    have hC4 := sameInts_any X X A3 A4 X.length c3' X.length c4' w4.heap.size w4 rfl rfl hX4.rd hY4.rd (by omega) (by omega)
    rw [beq_self_list] at hC4
    go_wp2_with fail
    refine hC4.mono ?_
    rintro e w5 ⟨rfl, hw5⟩
    have hS5 := hS4.below hw5
    have ha5 := ha4.below hw5
    have hX5 := hX4.below hw5
    clear hS4 hC4 hw5 ha4 hX4 hY4 
    have hC5 := SimpleS_any W T A2 bs.length c2 w5.heap.size bs w5 hS5.rd (Nat.le_refl _) (by omega)
    rw [hsb] at hC5
    obtain ⟨x0, x1, x2⟩ := hS5.cells
    go_wp2_with fail
    refine hC5.mono ?_
    rintro e w6 ⟨rfl, hw6⟩
    have hS6 := hS5.below hw6
    have ha6 := ha5.below hw6
    have hX6 := hX5.below hw6
    clear hS5 hC5 hw6 ha5 hX5 x0 x1 x2
    cases sb with
    | false =>
      obtain rfl := hno (htd.trans rfl)
      clear hno hlaw hX HASC
      have hbel := hS6.bel
      clear hS6 ha6 hX6
      go_wp2_with fail
      refine (alive_any _).mono ?_
      rintro e w7 ⟨rfl, hw7⟩
      go_wp2_with fail
      go_ret
      exact ⟨rfl, hbel.trans (hw7.mono hbel.size)⟩
    | true =>
      have hC6 := tilingOkS_any W T A2 bs.length c2 w6.heap.size bs a Da a.length da w6 rfl rfl hS6.rd ha6.rd (Nat.le_refl _) (by omega) (by omega)
      rw [htb] at hC6
      obtain ⟨x0, x1, x2⟩ := hS6.cells
      go_wp2_with fail
      refine hC6.mono ?_
      rintro e w7 ⟨rfl, hw7⟩
      have hS7 := hS6.below hw7
      have ha7 := ha6.below hw7
      have hX7 := hX6.below hw7
      clear hS6 hC6 hw7 ha6 hX6 x0 x1 x2
      cases tb with
      | false =>
        obtain rfl := hno (htd.trans rfl)
        clear hno hlaw hX HASC
        have hbel := hS7.bel
        clear hS7 ha7 hX7
        go_wp2_with fail
        refine (alive_any _).mono ?_
        rintro e w8 ⟨rfl, hw8⟩
        go_wp2_with fail
        go_ret
        exact ⟨rfl, hbel.trans (hw8.mono hbel.size)⟩
      | true =>
        obtain ⟨e1, he2, e3⟩ := hlaw (htd.trans rfl)
        have E3 := Lib.hid e3
        clear hno hlaw hX e3 htd htb hsb
        obtain ⟨V, hV⟩ : ∃ V, exV max W T bs = V := ⟨_, rfl⟩
        have hVl : (exV max W T bs).length ≤ 36 := exV_len
        rw [hV] at he2 hVl
        have hsv : ((X.length : Int) == 0) = (V == a) := by
          rw [Bool.eq_iff_iff, beq_iff_eq, beq_iff_eq]
          constructor
          · intro h; exact he2.1 (by omega)
          · intro h; have := he2.2 h; omega
        have HSV := Lib.hid hsv
        clear he2 hsv
        have hC7 := highestI_any W T A2 bs.length c2 w7.heap.size bs w7 rfl hS7.rd (Nat.le_refl _) (by omega)
        rw [e1, hV] at hC7
        obtain ⟨x0, x1, x2⟩ := hS7.cells
        go_wp2_with fail
        refine hC7.mono ?_
        rintro e w8 ⟨A8, c8, c8', rfl, ho8, hw8⟩
        have hS8 := hS7.below hw8
        have ha8 := ha7.below hw8
        have hX8 := hX7.below hw8
        have hV8 : LI w w8 A8 c8' V := LI.of hS7.bel.size ho8
        clear hS7 hC7 hw8 ha7 hX7 ho8 x0 x1 x2
        obtain ⟨sv, hsvd⟩ : ∃ sv, (V == a) = sv := ⟨_, rfl⟩
        have hsv := HSV.out
        rw [hsvd] at hsv
        have hss : (sv == sv) = true := by simp
        have hsum : (X.length : Int) + (Dn.length : Int) = (Fs.length : Int) := by have := E3.out; omega
        have hwF : IntKind.i64.wrap (Fs.length : Int) = (Fs.length : Int) := IntWalk.i64_in _ (by omega)
        have hFF : ((Fs.length : Int) == (Fs.length : Int)) = true := by simp
        clear hV
        go_upto_region 10 with fail
        have hd0 := (Below.refl w8.heap.size w8).drew
        have hbel := hS8.bel
        have hG0 := fun w' (h : Below w8.heap.size w8 w') => hide (ascend_any X A3 X.length c3' w'.heap.size w' rfl HASC.out (hX8.below h).rd (by omega))
        have hG1 := fun w' (h : Below w8.heap.size w8 w') => hide (sameInts_any V a A8 Da V.length c8' a.length da w'.heap.size w' rfl rfl (hV8.below h).rd (ha8.below h).rd (by omega) (by omega))
        simp only [hsvd] at hG1
        have hG2 := fun w' (h : Below w8.heap.size w8 w') => hide (downOfI_any W T A2 bs.length c2 w'.heap.size bs a Da a.length da ha8.plain w' rfl rfl (hS8.below h).rd (ha8.below h).rd (Nat.le_refl _) (by omega) (by omega))
        simp only [hDn] at hG2
        have hG3 := fun w' (h : Below w8.heap.size w8 w') => hide (flipsOfI_any W T A2 bs.length c2 w'.heap.size bs a Da a.length da w' rfl rfl (hS8.below h).rd (ha8.below h).rd (Nat.le_refl _) (by omega) (by omega))
        simp only [hFs] at hG3
        obtain ⟨x0, x1, x2⟩ := hS8.cells
        clear ha8 hX8 hV8
        refine wp_region_any (by kernel_rfl) ?_
        change wpAny _ _ _ _ _ _ _ (World.drew _)
        refine wpAny_take (i := 0) (v := ?_) rfl (by kernel_rfl) (by kernel_rfl) (by kernel_rfl) (fun _ _ _ h => h) (Or.inl ⟨by kernel_rfl, ?_⟩) ?_
        rotate_left
        · intro w
          go_simp
          try with_reducible rfl
        refine wpAny_ready (rs := [1]) (by kernel_rfl) (by simp) ?_
        refine AllReady.cons rfl (fun K hK => ?_) AllReady.nil
        go_simp
        go_at_call 45
        (with_reducible refine (unhide (hG0 w8.drew hd0)).mono ?_)
        rintro e w9 ⟨rfl, hb9⟩
        have hB9 := hd0.trans (hb9.mono hd0.size)
        clear x0 x1 x2
        obtain ⟨x0, x1, x2⟩ := (hS8.below hB9).cells
        refine hK _ _ ?_
        clear hK K
        refine wpAny_take (i := 2) (v := ?_) rfl (by kernel_rfl) (by kernel_rfl) (by kernel_rfl) (fun _ _ _ h => h) (Or.inl ⟨by kernel_rfl, ?_⟩) ?_
        rotate_left
        · intro w
          go_simp
          try with_reducible rfl
        refine wpAny_take (i := 3) (v := ?_) rfl (by kernel_rfl) (by kernel_rfl) (by kernel_rfl) (fun _ _ _ h => h) (Or.inl ⟨by kernel_rfl, ?_⟩) ?_
        rotate_left
        · intro w
          go_simp
          try with_reducible rfl
        refine wpAny_take (i := 4) (v := ?_) rfl (by kernel_rfl) (by kernel_rfl) (by kernel_rfl) (fun _ _ _ h => h) (Or.inl ⟨by kernel_rfl, ?_⟩) ?_
        rotate_left
        · intro w
          go_simp
          try with_reducible rfl
        refine wpAny_take (i := 5) (v := ?_) rfl (by kernel_rfl) (by kernel_rfl) (by kernel_rfl) (fun _ _ _ h => h) (Or.inl ⟨by kernel_rfl, ?_⟩) ?_
        rotate_left
        · intro w
          go_simp
          try with_reducible rfl
        refine wpAny_take (i := 6) (v := ?_) rfl (by kernel_rfl) (by kernel_rfl) (by kernel_rfl) (fun _ _ _ h => h) (Or.inl ⟨by kernel_rfl, ?_⟩) ?_
        rotate_left
        · intro w
          go_simp
          try with_reducible rfl
        refine wpAny_take (i := 7) (v := ?_) rfl (by kernel_rfl) (by kernel_rfl) (by kernel_rfl) (fun _ _ _ h => h) (Or.inl ⟨by kernel_rfl, ?_⟩) ?_
        rotate_left
        · intro w
          go_simp
          try with_reducible rfl
        refine wpAny_ready (rs := [8]) (by kernel_rfl) (by simp) ?_
        refine AllReady.cons rfl (fun K hK => ?_) AllReady.nil
        go_simp
        go_at_call 17
        (with_reducible refine (unhide (hG1 w9 hB9)).mono ?_)
        rintro e w10 ⟨rfl, hb10⟩
        have hB10 := hB9.trans (hb10.mono hB9.size)
        clear x0 x1 x2
        obtain ⟨x0, x1, x2⟩ := (hS8.below hB10).cells
        refine hK _ _ ?_
        clear hK K
        refine wpAny_take (i := 9) (v := ?_) rfl (by kernel_rfl) (by kernel_rfl) (by kernel_rfl) (fun _ _ _ h => h) (Or.inl ⟨by kernel_rfl, ?_⟩) ?_
        rotate_left
        · intro w
          go_simp
          try with_reducible rfl
        refine wpAny_take (i := 10) (v := ?_) rfl (by kernel_rfl) (by kernel_rfl) (by kernel_rfl) (fun _ _ _ h => h) (Or.inl ⟨by kernel_rfl, ?_⟩) ?_
        rotate_left
        · intro w
          go_simp
          try with_reducible rfl
        refine wpAny_take (i := 11) (v := ?_) rfl (by kernel_rfl) (by kernel_rfl) (by kernel_rfl) (fun _ _ _ h => h) (Or.inl ⟨by kernel_rfl, ?_⟩) ?_
        rotate_left
        · intro w
          go_simp
          try with_reducible rfl
        refine wpAny_take (i := 12) (v := ?_) rfl (by kernel_rfl) (by kernel_rfl) (by kernel_rfl) (fun _ _ _ h => h) (Or.inl ⟨by kernel_rfl, ?_⟩) ?_
        rotate_left
        · intro w
          go_simp
          try with_reducible rfl
        refine wpAny_take (i := 13) (v := ?_) rfl (by kernel_rfl) (by kernel_rfl) (by kernel_rfl) (fun _ _ _ h => h) (Or.inl ⟨by kernel_rfl, ?_⟩) ?_
        rotate_left
        · intro w
          go_simp
          try with_reducible rfl
        refine wpAny_take (i := 15) (v := ?_) rfl (by kernel_rfl) (by kernel_rfl) (by kernel_rfl) (fun _ _ _ h => h) (Or.inl ⟨by kernel_rfl, ?_⟩) ?_
        rotate_left
        · intro w
          go_simp
          try with_reducible rfl
        refine wpAny_take (i := 20) (v := ?_) rfl (by kernel_rfl) (by kernel_rfl) (by kernel_rfl) (fun _ _ _ h => h) (Or.inl ⟨by kernel_rfl, ?_⟩) ?_
        rotate_left
        · intro w
          go_simp
          try with_reducible rfl
        refine wpAny_ready (rs := [14, 19]) (by kernel_rfl) (by simp) ?_
        refine AllReady.cons rfl (fun K hK => ?_) (AllReady.cons rfl (fun K hK => ?_) AllReady.nil)
        · go_simp
          refine hK _ _ ?_
          clear hK K
          refine wpAny_ready (rs := [16, 19]) (by kernel_rfl) (by simp) ?_
          refine AllReady.cons rfl (fun K hK => ?_) (AllReady.cons rfl (fun K hK => ?_) AllReady.nil)
          · go_simp
            go_at_call 46
            (with_reducible refine (unhide (hG2 w10 hB10)).mono ?_)
            rintro e w11 ⟨A11, c11, c11', rfl, _, hb11⟩
            have hB11 := hB10.trans (hb11.mono hB10.size)
            clear x0 x1 x2
            obtain ⟨x0, x1, x2⟩ := (hS8.below hB11).cells
            refine hK _ _ ?_
            clear hK K
            refine wpAny_take (i := 17) (v := ?_) rfl (by kernel_rfl) (by kernel_rfl) (by kernel_rfl) (fun _ _ _ h => h) (Or.inl ⟨by kernel_rfl, ?_⟩) ?_
            rotate_left
            · intro w
              go_simp
              try with_reducible rfl
            refine wpAny_take (i := 18) (v := ?_) rfl (by kernel_rfl) (by kernel_rfl) (by kernel_rfl) (fun _ _ _ h => h) (Or.inl ⟨by kernel_rfl, ?_⟩) ?_
            rotate_left
            · intro w
              go_simp
              try with_reducible rfl
            refine wpAny_ready (rs := [19]) (by kernel_rfl) (by simp) ?_
            refine AllReady.cons rfl (fun K hK => ?_) AllReady.nil
            go_simp
            refine hK _ _ ?_
            clear hK K
            refine wpAny_ready (rs := [21]) (by kernel_rfl) (by simp) ?_
            refine AllReady.cons rfl (fun K hK => ?_) AllReady.nil
            go_simp
            go_at_call 35
            (with_reducible refine (unhide (hG3 w11 hB11)).mono ?_)
            rintro e w12 ⟨A12, c12, c12', rfl, _, hb12⟩
            have hB12 := hB11.trans (hb12.mono hB11.size)
            clear x0 x1 x2
            obtain ⟨x0, x1, x2⟩ := (hS8.below hB12).cells
            refine hK _ _ ?_
            clear hK K
            refine wpAny_take (i := 22) (v := ?_) rfl (by kernel_rfl) (by kernel_rfl) (by kernel_rfl) (fun _ _ _ h => h) (Or.inl ⟨by kernel_rfl, ?_⟩) ?_
            rotate_left
            · intro w
              go_simp
              try with_reducible rfl
            refine wpAny_take (i := 23) (v := ?_) rfl (by kernel_rfl) (by kernel_rfl) (by kernel_rfl) (fun _ _ _ h => h) (Or.inl ⟨by kernel_rfl, ?_⟩) ?_
            rotate_left
            · intro w
              go_simp
              try with_reducible rfl
            refine wpAny_take (i := 24) (v := ?_) rfl (by kernel_rfl) (by kernel_rfl) (by kernel_rfl) (fun _ _ _ h => h) (Or.inl ⟨by kernel_rfl, ?_⟩) ?_
            rotate_left
            · intro w
              go_simp
              try with_reducible rfl
            refine wpAny_take (i := 25) (v := ?_) rfl (by kernel_rfl) (by kernel_rfl) (by kernel_rfl) (fun _ _ _ h => h) (Or.inl ⟨by kernel_rfl, ?_⟩) ?_
            rotate_left
            · intro w
              go_simp
              try with_reducible rfl
            refine wpAny_done (by kernel_rfl) ?_ _
            go_simp
            go_wp2_with fail
            go_ret
            exact ⟨rfl, hbel.trans (hB12.mono hbel.size)⟩
          · go_simp
            refine hK _ _ ?_
            clear hK K
            refine wpAny_ready (rs := [16]) (by kernel_rfl) (by simp) ?_
            refine AllReady.cons rfl (fun K hK => ?_) AllReady.nil
            go_simp
            go_at_call 46
            (with_reducible refine (unhide (hG2 w10 hB10)).mono ?_)
            rintro e w11 ⟨A11, c11, c11', rfl, _, hb11⟩
            have hB11 := hB10.trans (hb11.mono hB10.size)
            clear x0 x1 x2
            obtain ⟨x0, x1, x2⟩ := (hS8.below hB11).cells
            refine hK _ _ ?_
            clear hK K
            refine wpAny_take (i := 17) (v := ?_) rfl (by kernel_rfl) (by kernel_rfl) (by kernel_rfl) (fun _ _ _ h => h) (Or.inl ⟨by kernel_rfl, ?_⟩) ?_
            rotate_left
            · intro w
              go_simp
              try with_reducible rfl
            refine wpAny_take (i := 18) (v := ?_) rfl (by kernel_rfl) (by kernel_rfl) (by kernel_rfl) (fun _ _ _ h => h) (Or.inl ⟨by kernel_rfl, ?_⟩) ?_
            rotate_left
            · intro w
              go_simp
              try with_reducible rfl
            refine wpAny_ready (rs := [21]) (by kernel_rfl) (by simp) ?_
            refine AllReady.cons rfl (fun K hK => ?_) AllReady.nil
            go_simp
            go_at_call 35
            (with_reducible refine (unhide (hG3 w11 hB11)).mono ?_)
            rintro e w12 ⟨A12, c12, c12', rfl, _, hb12⟩
            have hB12 := hB11.trans (hb12.mono hB11.size)
            clear x0 x1 x2
            obtain ⟨x0, x1, x2⟩ := (hS8.below hB12).cells
            refine hK _ _ ?_
            clear hK K
            refine wpAny_take (i := 22) (v := ?_) rfl (by kernel_rfl) (by kernel_rfl) (by kernel_rfl) (fun _ _ _ h => h) (Or.inl ⟨by kernel_rfl, ?_⟩) ?_
            rotate_left
            · intro w
              go_simp
              try with_reducible rfl
            refine wpAny_take (i := 23) (v := ?_) rfl (by kernel_rfl) (by kernel_rfl) (by kernel_rfl) (fun _ _ _ h => h) (Or.inl ⟨by kernel_rfl, ?_⟩) ?_
            rotate_left
            · intro w
              go_simp
              try with_reducible rfl
            refine wpAny_take (i := 24) (v := ?_) rfl (by kernel_rfl) (by kernel_rfl) (by kernel_rfl) (fun _ _ _ h => h) (Or.inl ⟨by kernel_rfl, ?_⟩) ?_
            rotate_left
            · intro w
              go_simp
              try with_reducible rfl
            refine wpAny_take (i := 25) (v := ?_) rfl (by kernel_rfl) (by kernel_rfl) (by kernel_rfl) (fun _ _ _ h => h) (Or.inl ⟨by kernel_rfl, ?_⟩) ?_
            rotate_left
            · intro w
              go_simp
              try with_reducible rfl
            refine wpAny_done (by kernel_rfl) ?_ _
            go_simp
            go_wp2_with fail
            go_ret
            exact ⟨rfl, hbel.trans (hB12.mono hbel.size)⟩
        · go_simp
          refine hK _ _ ?_
          clear hK K
          refine wpAny_ready (rs := [14]) (by kernel_rfl) (by simp) ?_
          refine AllReady.cons rfl (fun K hK => ?_) AllReady.nil
          go_simp
          refine hK _ _ ?_
          clear hK K
          refine wpAny_ready (rs := [16]) (by kernel_rfl) (by simp) ?_
          refine AllReady.cons rfl (fun K hK => ?_) AllReady.nil
          go_simp
          go_at_call 46
          (with_reducible refine (unhide (hG2 w10 hB10)).mono ?_)
          rintro e w11 ⟨A11, c11, c11', rfl, _, hb11⟩
          have hB11 := hB10.trans (hb11.mono hB10.size)
          clear x0 x1 x2
          obtain ⟨x0, x1, x2⟩ := (hS8.below hB11).cells
          refine hK _ _ ?_
          clear hK K
          refine wpAny_take (i := 17) (v := ?_) rfl (by kernel_rfl) (by kernel_rfl) (by kernel_rfl) (fun _ _ _ h => h) (Or.inl ⟨by kernel_rfl, ?_⟩) ?_
          rotate_left
          · intro w
            go_simp
            try with_reducible rfl
          refine wpAny_take (i := 18) (v := ?_) rfl (by kernel_rfl) (by kernel_rfl) (by kernel_rfl) (fun _ _ _ h => h) (Or.inl ⟨by kernel_rfl, ?_⟩) ?_
          rotate_left
          · intro w
            go_simp
            try with_reducible rfl
          refine wpAny_ready (rs := [21]) (by kernel_rfl) (by simp) ?_
          refine AllReady.cons rfl (fun K hK => ?_) AllReady.nil
          go_simp
          go_at_call 35
          (with_reducible refine (unhide (hG3 w11 hB11)).mono ?_)
          rintro e w12 ⟨A12, c12, c12', rfl, _, hb12⟩
          have hB12 := hB11.trans (hb12.mono hB11.size)
          clear x0 x1 x2
          obtain ⟨x0, x1, x2⟩ := (hS8.below hB12).cells
          refine hK _ _ ?_
          clear hK K
          refine wpAny_take (i := 22) (v := ?_) rfl (by kernel_rfl) (by kernel_rfl) (by kernel_rfl) (fun _ _ _ h => h) (Or.inl ⟨by kernel_rfl, ?_⟩) ?_
          rotate_left
          · intro w
            go_simp
            try with_reducible rfl
          refine wpAny_take (i := 23) (v := ?_) rfl (by kernel_rfl) (by kernel_rfl) (by kernel_rfl) (fun _ _ _ h => h) (Or.inl ⟨by kernel_rfl, ?_⟩) ?_
          rotate_left
          · intro w
            go_simp
            try with_reducible rfl
          refine wpAny_take (i := 24) (v := ?_) rfl (by kernel_rfl) (by kernel_rfl) (by kernel_rfl) (fun _ _ _ h => h) (Or.inl ⟨by kernel_rfl, ?_⟩) ?_
          rotate_left
          · intro w
            go_simp
            try with_reducible rfl
          refine wpAny_take (i := 25) (v := ?_) rfl (by kernel_rfl) (by kernel_rfl) (by kernel_rfl) (fun _ _ _ h => h) (Or.inl ⟨by kernel_rfl, ?_⟩) ?_
          rotate_left
          · intro w
            go_simp
            try with_reducible rfl
          refine wpAny_done (by kernel_rfl) ?_ _
          go_simp
          go_wp2_with fail
          go_ret
          exact ⟨rfl, hbel.trans (hB12.mono hbel.size)⟩

end Go.Proofs.Ytpeifojfpkkcpaa
