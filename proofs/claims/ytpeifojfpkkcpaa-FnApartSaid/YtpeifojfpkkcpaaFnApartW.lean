/-
  YtpeifojfpkkcpaaFnApartW: the walk of FnApart.
-/
import Derived.Test.YtpeifojfpkkcpaaDv
import Derived.Test.YtpeifojfpkkcpaaLz
import Derived.Test.YtpeifojfpkkcpaaLi
import Derived.BigRegion
import Derived.Deep.RegionHeld
namespace Go.Proofs.Ytpeifojfpkkcpaa
open Go.RowKit

set_option maxHeartbeats 4000000 in
set_option maxRecDepth 20000 in
theorem FnApart_walk (w : World) (A : Option Addr) (n c : Nat) (zs : List Int) (hnc : n ≤ c) (hm : n ≤ maxLen) (_hl : zs.length = n) (hr : Reads w w.heap.size 1 A n (zs.map (Value.int .u8))) (hwz : ∀ z ∈ zs, (Lit.int .u8 z).wf = true) :
    Calls Try.prog 13 #[.slice A n c] w fun e w' => e = .returned (.bool true) ∧ Below w.heap.size w w' := by
  unfold maxLen at hm
  by_cases hb : 1048576 < n
  · go_enter Try.func13, Try.ntmps13
    go_wp2_with fail
    go_ret
    exact ⟨rfl, Below.refl _ _⟩
  · have hDR := hide (drawApart_any A n c zs w hr hnc (by omega) hwz)
    clear hr hwz hm _hl
    go_enter Try.func13, Try.ntmps13
    go_wp2_with fail
    refine (unhide hDR).mono ?_
    rintro e w1 ⟨W, T, A2, c2, Da, da, Db, db, bs, a, b, rfl, hreg, ha1, hna, hb1, hnb, hB1⟩
    clear hDR
    have hS2 := LS.start (W := W) (T := T) hB1 hreg
    have ha2 : LI w (w1.alloc (.cells #[.int .i64 W, .int .i64 T, .slice A2 bs.length c2] 25)) Da da a := ha1.below ((Below.refl _ _).alloc (Nat.le_refl _) _)
    have hb2 : LI w (w1.alloc (.cells #[.int .i64 W, .int .i64 T, .slice A2 bs.length c2] 25)) Db db b := hb1.below ((Below.refl _ _).alloc (Nat.le_refl _) _)
    clear hreg hB1 ha1 hb1
    go_upto_region 4 with fail
    generalize w1.alloc (.cells #[.int .i64 W, .int .i64 T, .slice A2 bs.length c2] 25) = w2 at *
    generalize w1.heap.size = x at *
    have hbs := hS2.len
    have hlaw := law_apart (W := W) (T := T) (bs := bs) (a := a) (b := b)
    have hap := apartV_no (W := W) (T := T) (bs := bs) (a := a) (b := b)
    have hXl := twoV_len (f := min) (W := W) (T := T) (bs := bs) (a := a) (b := b)
    obtain ⟨ok, hok⟩ : ∃ ok, twoB W T bs a b = ok := ⟨_, rfl⟩
    obtain ⟨X, hX⟩ : ∃ X, twoV min W T bs a b = X := ⟨_, rfl⟩
    obtain ⟨N, hN⟩ : ∃ N, apartV W T bs a b = N := ⟨_, rfl⟩
    rw [hX] at hlaw hXl
    rw [hN] at hlaw hap
    have hnn : (N != N) = false := by simp
    have hC2 := apartI_any W T A2 bs.length c2 w2.heap.size bs a Da a.length da b Db b.length db w2 rfl rfl rfl hS2.rd ha2.rd hb2.rd (Nat.le_refl _) (by omega) (by omega) (by omega)
    rw [hN] at hC2
    obtain ⟨x0, x1, x2⟩ := hS2.cells
    go_wp2_with fail
    refine hC2.mono ?_
    rintro e w3 ⟨rfl, hw3⟩
    have hS3 := hS2.below hw3
    have ha3 := ha2.below hw3
    have hb3 := hb2.below hw3
    clear hS2 hC2 hw3 ha2 hb2 x0 x1 x2
    have hC3 := apartS_any W T A2 bs.length c2 w3.heap.size bs a Da a.length da b Db b.length db w3 rfl rfl rfl hS3.rd ha3.rd hb3.rd (Nat.le_refl _) (by omega) (by omega) (by omega)
    rw [hN] at hC3
    obtain ⟨x0, x1, x2⟩ := hS3.cells
    go_wp2_with fail
    refine hC3.mono ?_
    rintro e w4 ⟨rfl, hw4⟩
    have hS4 := hS3.below hw4
    have ha4 := ha3.below hw4
    have hb4 := hb3.below hw4
    clear hS3 hC3 hw4 ha3 hb3 x0 x1 x2
    cases ok with
    | false =>
      obtain rfl := hap hok
      clear hlaw hap hnn
      have hbel := hS4.bel
      clear hS4 ha4 hb4
      go_wp2_with fail
      refine (alive_any _).mono ?_
      rintro e w5 ⟨rfl, hw5⟩
      go_wp2_with fail
      go_ret
      exact ⟨rfl, hbel.trans (hw5.mono hbel.size)⟩
    | true =>
      obtain ⟨t1, t2⟩ := twoB_iff.1 hok
      obtain ⟨a0, a1, a2, a3, a4, a5, a6⟩ := hlaw hok
      obtain ⟨ft, hFl⟩ := law_first t1
      obtain ⟨F, hF⟩ : ∃ F, tfV W T bs = F := ⟨_, rfl⟩
      rw [hF] at ft hFl
      have a4 := a4 F ft
      obtain ⟨b1, b2, b3, b4⟩ := a6 F ft
      have hlt0 : decide (N < 0) = false := decide_eq_false (by omega)
      clear hlaw hap hnn a6
      have hC4 := tilingLowI_any W T A2 bs.length c2 w4.heap.size bs a Da a.length da b Db b.length db w4 rfl rfl rfl hS4.rd ha4.rd hb4.rd (Nat.le_refl _) (by omega) (by omega) (by omega)
      rw [hX, hok] at hC4
      obtain ⟨x0, x1, x2⟩ := hS4.cells
      go_wp2_with fail
      refine hC4.mono ?_
      rintro e w5 ⟨A5, c5, c5', rfl, ho5, hw5⟩
      have hS5 := hS4.below hw5
      have ha5 := ha4.below hw5
      have hb5 := hb4.below hw5
      have hX5 : LI w w5 A5 c5' X := LI.of hS4.bel.size ho5
      clear hS4 hC4 hw5 ha4 hb4 ho5 x0 x1 x2
      have hC5 := tilingFirstI_t W T A2 bs.length c2 w5.heap.size bs a t1 w5 rfl hS5.rd (Nat.le_refl _)
      rw [hF] at hC5
      obtain ⟨x0, x1, x2⟩ := hS5.cells
      go_wp2_with fail
      refine hC5.mono ?_
      rintro e w6 ⟨A6, c6, c6', rfl, ho6, hw6⟩
      have hS6 := hS5.below hw6
      have ha6 := ha5.below hw6
      have hb6 := hb5.below hw6
      have hX6 := hX5.below hw6
      have hF6 : LI w w6 A6 c6' F := LI.of hS5.bel.size ho6
      clear hS5 hC5 hw6 ha5 hb5 hX5 ho6 x0 x1 x2
      obtain ⟨P, hP⟩ : ∃ P, apartV W T bs a X = P := ⟨_, rfl⟩
      obtain ⟨Q, hQ⟩ : ∃ Q, apartV W T bs X b = Q := ⟨_, rfl⟩
      obtain ⟨U, hU⟩ : ∃ U, apartV W T bs a F = U := ⟨_, rfl⟩
      obtain ⟨V, hV⟩ : ∃ V, apartV W T bs F b = V := ⟨_, rfl⟩
      rw [hP, hQ] at a2
      rw [hU] at a4 b1 b2
      rw [hV] at a4 b3 b4
      obtain ⟨sv, hsvd⟩ : ∃ sv, (a == b) = sv := ⟨_, rfl⟩
      have hsv : (N == 0) = sv := by
        rw [← hsvd, Bool.eq_iff_iff, beq_iff_eq, beq_iff_eq]
        exact a3
      have hss : (sv == sv) = true := by simp
      have hNN : (N == N) = true := by simp
      have hwN : IntKind.i64.wrap N = N := IntWalk.i64_in _ (by omega)
      have hwU : IntKind.i64.wrap (U + V) = U + V := IntWalk.i64_in _ (by omega)
      have hle : decide (N ≤ U + V) = true := decide_eq_true a4
      clear t1 t2 ft a0 a3 a4 a5 b1 b2 b3 b4 hok hX hF hN
      go_upto_region 11 with fail
      have hd0 := (Below.refl w6.heap.size w6).drew
      have hbel := hS6.bel
      have hG0 := fun w' (h : Below w6.heap.size w6 w') => hide (apartI_any W T A2 bs.length c2 w'.heap.size bs b Db b.length db a Da a.length da w' rfl rfl rfl (hS6.below h).rd (hb6.below h).rd (ha6.below h).rd (Nat.le_refl _) (by omega) (by omega) (by omega))
      simp only [a1] at hG0
      have hG1 := fun w' (h : Below w6.heap.size w6 w') => hide (apartI_any W T A2 bs.length c2 w'.heap.size bs a Da a.length da X A5 X.length c5' w' rfl rfl rfl (hS6.below h).rd (ha6.below h).rd (hX6.below h).rd (Nat.le_refl _) (by omega) (by omega) (by omega))
      simp only [hP] at hG1
      have hG2 := fun w' (h : Below w6.heap.size w6 w') => hide (apartI_any W T A2 bs.length c2 w'.heap.size bs X A5 X.length c5' b Db b.length db w' rfl rfl rfl (hS6.below h).rd (hX6.below h).rd (hb6.below h).rd (Nat.le_refl _) (by omega) (by omega) (by omega))
      simp only [hQ] at hG2
      have hG3 := fun w' (h : Below w6.heap.size w6 w') => hide (sameInts_any a b Da Db a.length da b.length db w'.heap.size w' rfl rfl (ha6.below h).rd (hb6.below h).rd (by omega) (by omega))
      simp only [hsvd] at hG3
      have hG4 := fun w' (h : Below w6.heap.size w6 w') => hide (apartI_any W T A2 bs.length c2 w'.heap.size bs a Da a.length da F A6 F.length c6' w' rfl rfl rfl (hS6.below h).rd (ha6.below h).rd (hF6.below h).rd (Nat.le_refl _) (by omega) (by omega) (by omega))
      simp only [hU] at hG4
      have hG5 := fun w' (h : Below w6.heap.size w6 w') => hide (apartI_any W T A2 bs.length c2 w'.heap.size bs F A6 F.length c6' b Db b.length db w' rfl rfl rfl (hS6.below h).rd (hF6.below h).rd (hb6.below h).rd (Nat.le_refl _) (by omega) (by omega) (by omega))
      simp only [hV] at hG5
      clear ha6 hb6 hX6 hF6
      refine wp_region_held_drew (S := (fun w' => w'.cell? ⟨x, 0, none⟩ = some (.int .i64 W) ∧ w'.cell? ⟨x, 1, none⟩ = some (.int .i64 T) ∧ w'.cell? ⟨x, 2, none⟩ = some (.slice A2 bs.length c2))) (by kernel_rfl) (hS6.below hd0).cells ?_
      intro hHeld
      refine wpAnyH_take (i := 0) (v := ?_) rfl (by kernel_rfl) (by kernel_rfl) (by kernel_rfl) (fun _ _ _ h => h) (Or.inl ⟨by kernel_rfl, ?_⟩) hHeld ?_
      rotate_left
      · intro w' hS'
        clear hS'
        go_simp
        try with_reducible rfl
      refine wpAnyH_take (i := 1) (v := ?_) rfl (by kernel_rfl) (by kernel_rfl) (by kernel_rfl) (fun _ _ _ h => h) (Or.inl ⟨by kernel_rfl, ?_⟩) hHeld ?_
      rotate_left
      · intro w' hS'
        obtain ⟨x0, x1, x2⟩ := hS'
        go_simp
        try with_reducible rfl
      refine wpAnyH_take (i := 2) (v := ?_) rfl (by kernel_rfl) (by kernel_rfl) (by kernel_rfl) (fun _ _ _ h => h) (Or.inl ⟨by kernel_rfl, ?_⟩) hHeld ?_
      rotate_left
      · intro w' hS'
        clear hS'
        go_simp
        try with_reducible rfl
      refine wpAnyH_take (i := 3) (v := ?_) rfl (by kernel_rfl) (by kernel_rfl) (by kernel_rfl) (fun _ _ _ h => h) (Or.inl ⟨by kernel_rfl, ?_⟩) hHeld ?_
      rotate_left
      · intro w' hS'
        clear hS'
        go_simp
        try with_reducible rfl
      refine wpAnyH_ready (rs := [4]) (by kernel_rfl) (by simp) ?_
      refine AllReadyH.cons rfl (fun K hK => ?_) AllReadyH.nil
      go_simp
      go_at_call 33
      (with_reducible refine (unhide (hG0 w6.drew hd0)).mono ?_)
      rintro e w7 ⟨rfl, hb7⟩
      have hB7 := hd0.trans (hb7.mono hd0.size)
      refine hK.out _ _ ?_ ?_
      · exact (hS6.below hB7).cells
      clear hHeld
      intro hHeld
      clear hK K
      refine wpAnyH_take (i := 5) (v := ?_) rfl (by kernel_rfl) (by kernel_rfl) (by kernel_rfl) (fun _ _ _ h => h) (Or.inl ⟨by kernel_rfl, ?_⟩) hHeld ?_
      rotate_left
      · intro w' hS'
        clear hS'
        go_simp
        try with_reducible rfl
      refine wpAnyH_take (i := 6) (v := ?_) rfl (by kernel_rfl) (by kernel_rfl) (by kernel_rfl) (fun _ _ _ h => h) (Or.inl ⟨by kernel_rfl, ?_⟩) hHeld ?_
      rotate_left
      · intro w' hS'
        clear hS'
        go_simp
        try with_reducible rfl
      refine wpAnyH_take (i := 7) (v := ?_) rfl (by kernel_rfl) (by kernel_rfl) (by kernel_rfl) (fun _ _ _ h => h) (Or.inl ⟨by kernel_rfl, ?_⟩) hHeld ?_
      rotate_left
      · intro w' hS'
        clear hS'
        go_simp
        try with_reducible rfl
      refine wpAnyH_take (i := 8) (v := ?_) rfl (by kernel_rfl) (by kernel_rfl) (by kernel_rfl) (fun _ _ _ h => h) (Or.inl ⟨by kernel_rfl, ?_⟩) hHeld ?_
      rotate_left
      · intro w' hS'
        obtain ⟨x0, x1, x2⟩ := hS'
        go_simp
        try with_reducible rfl
      refine wpAnyH_take (i := 9) (v := ?_) rfl (by kernel_rfl) (by kernel_rfl) (by kernel_rfl) (fun _ _ _ h => h) (Or.inl ⟨by kernel_rfl, ?_⟩) hHeld ?_
      rotate_left
      · intro w' hS'
        clear hS'
        go_simp
        try with_reducible rfl
      refine wpAnyH_take (i := 10) (v := ?_) rfl (by kernel_rfl) (by kernel_rfl) (by kernel_rfl) (fun _ _ _ h => h) (Or.inl ⟨by kernel_rfl, ?_⟩) hHeld ?_
      rotate_left
      · intro w' hS'
        clear hS'
        go_simp
        try with_reducible rfl
      refine wpAnyH_take (i := 12) (v := ?_) rfl (by kernel_rfl) (by kernel_rfl) (by kernel_rfl) (fun _ _ _ h => h) (Or.inl ⟨by kernel_rfl, ?_⟩) hHeld ?_
      rotate_left
      · intro w' hS'
        obtain ⟨x0, x1, x2⟩ := hS'
        go_simp
        try with_reducible rfl
      refine wpAnyH_take (i := 13) (v := ?_) rfl (by kernel_rfl) (by kernel_rfl) (by kernel_rfl) (fun _ _ _ h => h) (Or.inl ⟨by kernel_rfl, ?_⟩) hHeld ?_
      rotate_left
      · intro w' hS'
        clear hS'
        go_simp
        try with_reducible rfl
      refine wpAnyH_take (i := 14) (v := ?_) rfl (by kernel_rfl) (by kernel_rfl) (by kernel_rfl) (fun _ _ _ h => h) (Or.inl ⟨by kernel_rfl, ?_⟩) hHeld ?_
      rotate_left
      · intro w' hS'
        clear hS'
        go_simp
        try with_reducible rfl
      refine wpAnyH_ready (rs := [11]) (by kernel_rfl) (by simp) ?_
      refine AllReadyH.cons rfl (fun K hK => ?_) AllReadyH.nil
      go_simp
      go_at_call 33
      (with_reducible refine (unhide (hG1 w7 hB7)).mono ?_)
      rintro e w8 ⟨rfl, hb8⟩
      have hB8 := hB7.trans (hb8.mono hB7.size)
      refine hK.out _ _ ?_ ?_
      · exact (hS6.below hB8).cells
      clear hHeld
      intro hHeld
      clear hK K
      refine wpAnyH_ready (rs := [15]) (by kernel_rfl) (by simp) ?_
      refine AllReadyH.cons rfl (fun K hK => ?_) AllReadyH.nil
      go_simp
      go_at_call 33
      (with_reducible refine (unhide (hG2 w8 hB8)).mono ?_)
      rintro e w9 ⟨rfl, hb9⟩
      have hB9 := hB8.trans (hb9.mono hB8.size)
      refine hK.out _ _ ?_ ?_
      · exact (hS6.below hB9).cells
      clear hHeld
      intro hHeld
      clear hK K
      refine wpAnyH_take (i := 16) (v := ?_) rfl (by kernel_rfl) (by kernel_rfl) (by kernel_rfl) (fun _ _ _ h => h) (Or.inl ⟨by kernel_rfl, ?_⟩) hHeld ?_
      rotate_left
      · intro w' hS'
        clear hS'
        go_simp
        try with_reducible rfl
      refine wpAnyH_take (i := 17) (v := ?_) rfl (by kernel_rfl) (by kernel_rfl) (by kernel_rfl) (fun _ _ _ h => h) (Or.inl ⟨by kernel_rfl, ?_⟩) hHeld ?_
      rotate_left
      · intro w' hS'
        clear hS'
        go_simp
        try with_reducible rfl
      refine wpAnyH_take (i := 18) (v := ?_) rfl (by kernel_rfl) (by kernel_rfl) (by kernel_rfl) (fun _ _ _ h => h) (Or.inl ⟨by kernel_rfl, ?_⟩) hHeld ?_
      rotate_left
      · intro w' hS'
        clear hS'
        go_simp
        try with_reducible rfl
      refine wpAnyH_take (i := 19) (v := ?_) rfl (by kernel_rfl) (by kernel_rfl) (by kernel_rfl) (fun _ _ _ h => h) (Or.inl ⟨by kernel_rfl, ?_⟩) hHeld ?_
      rotate_left
      · intro w' hS'
        clear hS'
        go_simp
        try with_reducible rfl
      refine wpAnyH_take (i := 20) (v := ?_) rfl (by kernel_rfl) (by kernel_rfl) (by kernel_rfl) (fun _ _ _ h => h) (Or.inl ⟨by kernel_rfl, ?_⟩) hHeld ?_
      rotate_left
      · intro w' hS'
        clear hS'
        go_simp
        try with_reducible rfl
      refine wpAnyH_take (i := 21) (v := ?_) rfl (by kernel_rfl) (by kernel_rfl) (by kernel_rfl) (fun _ _ _ h => h) (Or.inl ⟨by kernel_rfl, ?_⟩) hHeld ?_
      rotate_left
      · intro w' hS'
        clear hS'
        go_simp
        try with_reducible rfl
      refine wpAnyH_take (i := 22) (v := ?_) rfl (by kernel_rfl) (by kernel_rfl) (by kernel_rfl) (fun _ _ _ h => h) (Or.inl ⟨by kernel_rfl, ?_⟩) hHeld ?_
      rotate_left
      · intro w' hS'
        clear hS'
        go_simp
        try with_reducible rfl
      refine wpAnyH_take (i := 23) (v := ?_) rfl (by kernel_rfl) (by kernel_rfl) (by kernel_rfl) (fun _ _ _ h => h) (Or.inl ⟨by kernel_rfl, ?_⟩) hHeld ?_
      rotate_left
      · intro w' hS'
        clear hS'
        go_simp
        try with_reducible rfl
      refine wpAnyH_ready (rs := [24]) (by kernel_rfl) (by simp) ?_
      refine AllReadyH.cons rfl (fun K hK => ?_) AllReadyH.nil
      go_simp
      go_at_call 17
      (with_reducible refine (unhide (hG3 w9 hB9)).mono ?_)
      rintro e w10 ⟨rfl, hb10⟩
      have hB10 := hB9.trans (hb10.mono hB9.size)
      refine hK.out _ _ ?_ ?_
      · exact (hS6.below hB10).cells
      clear hHeld
      intro hHeld
      clear hK K
      refine wpAnyH_take (i := 25) (v := ?_) rfl (by kernel_rfl) (by kernel_rfl) (by kernel_rfl) (fun _ _ _ h => h) (Or.inl ⟨by kernel_rfl, ?_⟩) hHeld ?_
      rotate_left
      · intro w' hS'
        clear hS'
        go_simp
        try with_reducible rfl
      refine wpAnyH_take (i := 26) (v := ?_) rfl (by kernel_rfl) (by kernel_rfl) (by kernel_rfl) (fun _ _ _ h => h) (Or.inl ⟨by kernel_rfl, ?_⟩) hHeld ?_
      rotate_left
      · intro w' hS'
        clear hS'
        go_simp
        try with_reducible rfl
      refine wpAnyH_take (i := 27) (v := ?_) rfl (by kernel_rfl) (by kernel_rfl) (by kernel_rfl) (fun _ _ _ h => h) (Or.inl ⟨by kernel_rfl, ?_⟩) hHeld ?_
      rotate_left
      · intro w' hS'
        clear hS'
        go_simp
        try with_reducible rfl
      refine wpAnyH_take (i := 28) (v := ?_) rfl (by kernel_rfl) (by kernel_rfl) (by kernel_rfl) (fun _ _ _ h => h) (Or.inl ⟨by kernel_rfl, ?_⟩) hHeld ?_
      rotate_left
      · intro w' hS'
        clear hS'
        go_simp
        try with_reducible rfl
      refine wpAnyH_take (i := 29) (v := ?_) rfl (by kernel_rfl) (by kernel_rfl) (by kernel_rfl) (fun _ _ _ h => h) (Or.inl ⟨by kernel_rfl, ?_⟩) hHeld ?_
      rotate_left
      · intro w' hS'
        obtain ⟨x0, x1, x2⟩ := hS'
        go_simp
        try with_reducible rfl
      refine wpAnyH_take (i := 30) (v := ?_) rfl (by kernel_rfl) (by kernel_rfl) (by kernel_rfl) (fun _ _ _ h => h) (Or.inl ⟨by kernel_rfl, ?_⟩) hHeld ?_
      rotate_left
      · intro w' hS'
        clear hS'
        go_simp
        try with_reducible rfl
      refine wpAnyH_take (i := 31) (v := ?_) rfl (by kernel_rfl) (by kernel_rfl) (by kernel_rfl) (fun _ _ _ h => h) (Or.inl ⟨by kernel_rfl, ?_⟩) hHeld ?_
      rotate_left
      · intro w' hS'
        clear hS'
        go_simp
        try with_reducible rfl
      refine wpAnyH_take (i := 33) (v := ?_) rfl (by kernel_rfl) (by kernel_rfl) (by kernel_rfl) (fun _ _ _ h => h) (Or.inl ⟨by kernel_rfl, ?_⟩) hHeld ?_
      rotate_left
      · intro w' hS'
        obtain ⟨x0, x1, x2⟩ := hS'
        go_simp
        try with_reducible rfl
      refine wpAnyH_take (i := 34) (v := ?_) rfl (by kernel_rfl) (by kernel_rfl) (by kernel_rfl) (fun _ _ _ h => h) (Or.inl ⟨by kernel_rfl, ?_⟩) hHeld ?_
      rotate_left
      · intro w' hS'
        clear hS'
        go_simp
        try with_reducible rfl
      refine wpAnyH_take (i := 35) (v := ?_) rfl (by kernel_rfl) (by kernel_rfl) (by kernel_rfl) (fun _ _ _ h => h) (Or.inl ⟨by kernel_rfl, ?_⟩) hHeld ?_
      rotate_left
      · intro w' hS'
        clear hS'
        go_simp
        try with_reducible rfl
      refine wpAnyH_ready (rs := [32]) (by kernel_rfl) (by simp) ?_
      refine AllReadyH.cons rfl (fun K hK => ?_) AllReadyH.nil
      go_simp
      go_at_call 33
      (with_reducible refine (unhide (hG4 w10 hB10)).mono ?_)
      rintro e w11 ⟨rfl, hb11⟩
      have hB11 := hB10.trans (hb11.mono hB10.size)
      refine hK.out _ _ ?_ ?_
      · exact (hS6.below hB11).cells
      clear hHeld
      intro hHeld
      clear hK K
      refine wpAnyH_ready (rs := [36]) (by kernel_rfl) (by simp) ?_
      refine AllReadyH.cons rfl (fun K hK => ?_) AllReadyH.nil
      go_simp
      go_at_call 33
      (with_reducible refine (unhide (hG5 w11 hB11)).mono ?_)
      rintro e w12 ⟨rfl, hb12⟩
      have hB12 := hB11.trans (hb12.mono hB11.size)
      refine hK.out _ _ ?_ ?_
      · exact (hS6.below hB12).cells
      clear hHeld
      intro hHeld
      clear hK K
      refine wpAnyH_take (i := 37) (v := ?_) rfl (by kernel_rfl) (by kernel_rfl) (by kernel_rfl) (fun _ _ _ h => h) (Or.inl ⟨by kernel_rfl, ?_⟩) hHeld ?_
      rotate_left
      · intro w' hS'
        clear hS'
        go_simp
        try with_reducible rfl
      refine wpAnyH_take (i := 38) (v := ?_) rfl (by kernel_rfl) (by kernel_rfl) (by kernel_rfl) (fun _ _ _ h => h) (Or.inl ⟨by kernel_rfl, ?_⟩) hHeld ?_
      rotate_left
      · intro w' hS'
        clear hS'
        go_simp
        try with_reducible rfl
      refine wpAnyH_take (i := 39) (v := ?_) rfl (by kernel_rfl) (by kernel_rfl) (by kernel_rfl) (fun _ _ _ h => h) (Or.inl ⟨by kernel_rfl, ?_⟩) hHeld ?_
      rotate_left
      · intro w' hS'
        clear hS'
        go_simp
        try with_reducible rfl
      refine wpAnyH_take (i := 40) (v := ?_) rfl (by kernel_rfl) (by kernel_rfl) (by kernel_rfl) (fun _ _ _ h => h) (Or.inl ⟨by kernel_rfl, ?_⟩) hHeld ?_
      rotate_left
      · intro w' hS'
        clear hS'
        go_simp
        try with_reducible rfl
      refine wpAnyH_done (by kernel_rfl) ?_ _
      go_simp
      go_wp2_with fail
      go_ret
      exact ⟨rfl, hbel.trans (hB12.mono hbel.size)⟩

end Go.Proofs.Ytpeifojfpkkcpaa
