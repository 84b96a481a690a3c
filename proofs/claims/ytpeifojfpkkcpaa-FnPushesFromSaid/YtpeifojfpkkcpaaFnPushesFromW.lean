/-
  YtpeifojfpkkcpaaFnPushesFromW: the walk of FnPushesFrom.
-/
import Derived.Test.YtpeifojfpkkcpaaDm
import Derived.Test.YtpeifojfpkkcpaaLz
import Derived.Test.YtpeifojfpkkcpaaLee
import Derived.Test.YtpeifojfpkkcpaaPq
import Derived.BigRegion
import Derived.Deep.RegionHeld
namespace Go.Proofs.Ytpeifojfpkkcpaa
open Go.RowKit

set_option maxHeartbeats 4000000 in
set_option maxRecDepth 20000 in
theorem FnPushesFrom_walk (w : World) (A : Option Addr) (n c : Nat) (zs : List Int) (hnc : n ≤ c) (hm : n ≤ maxLen) (_hl : zs.length = n) (hr : Reads w w.heap.size 1 A n (zs.map (Value.int .u8))) (hwz : ∀ z ∈ zs, (Lit.int .u8 z).wf = true) :
    Calls Try.prog 6 #[.slice A n c] w fun e w' => e = .returned (.bool true) ∧ Below w.heap.size w w' := by
  unfold maxLen at hm
  by_cases hb : 1048576 < n
  · go_enter Try.func6, Try.ntmps6
    go_wp2_with fail
    go_ret
    exact ⟨rfl, Below.refl _ _⟩
  · have hDR := hide (drawPushesFrom_any A n c zs w hr hnc (by omega) hwz)
    clear hr hwz hm _hl
    go_enter Try.func6, Try.ntmps6
    go_wp2_with fail
    refine (unhide hDR).mono ?_
    rintro e w1 ⟨W, T, A2, c2, Da, da, Db, db, bs, a, b, rfl, hreg, ha1, hna, hb1, hnb, hB1⟩
    clear hDR
    have hS2 := LS.start (W := W) (T := T) hB1 hreg
    have ha2 : LI w (w1.alloc (.cells #[.int .i64 W, .int .i64 T, .slice A2 bs.length c2] 25)) Da da a := ha1.below ((Below.refl _ _).alloc (Nat.le_refl _) _)
    have hb2 : LI w (w1.alloc (.cells #[.int .i64 W, .int .i64 T, .slice A2 bs.length c2] 25)) Db db b := hb1.below ((Below.refl _ _).alloc (Nat.le_refl _) _)
    clear hreg hB1 ha1 hb1
    go_upto_region 4 with fail
    generalize w1.alloc (.cells #[.int .i64 W, .int .i64 T, .slice A2 bs.length c2] 25) = w2 at *
    generalize w1.heap.size = x at *
    have hbs := hS2.len
    have hno := pfV_no (W := W) (T := T) (bs := bs) (a := a) (b := b)
    have hlaw := law_pushesFrom (W := W) (T := T) (bs := bs) (a := a) (b := b)
    have hcb := cornersB_bd W T bs
    have hFl := fsV_len (W := W) (T := T) (bs := bs) (L := a)
    obtain ⟨N, hN⟩ : ∃ N, pfV W T bs a b = N := ⟨_, rfl⟩
    obtain ⟨N2, hN2⟩ : ∃ N2, pfV W T bs b a = N2 := ⟨_, rfl⟩
    obtain ⟨U, hU⟩ : ∃ U, apartV W T bs a b = U := ⟨_, rfl⟩
    obtain ⟨C, hC⟩ : ∃ C, cornersB W T bs = C := ⟨_, rfl⟩
    obtain ⟨F, hF⟩ : ∃ F, fsV W T bs a = F := ⟨_, rfl⟩
    rw [hN] at hno
    rw [hN, hN2, hU, hC, hF] at hlaw
    rw [hC] at hcb
    rw [hF] at hFl
    have hnn : (N != N) = false := by simp
    have hC2 := pushesFromI_any W T A2 bs.length c2 w2.heap.size bs a Da a.length da b Db b.length db w2 rfl rfl rfl (LI.addr ha2) (LI.addr hb2) hS2.rd ha2.rd hb2.rd (Nat.le_refl _) (by omega) (by omega) (by omega)
    rw [hN] at hC2
    obtain ⟨x0, x1, x2⟩ := hS2.cells
    go_wp2_with fail
    refine hC2.mono ?_
    rintro e w3 ⟨rfl, hw3⟩
    have hS3 := hS2.below hw3
    have ha3 := ha2.below hw3
    have hb3 := hb2.below hw3
    clear hS2 hC2 hw3 ha2 hb2 x0 x1 x2
    have hC3 := pushesFromS_any W T A2 bs.length c2 w3.heap.size bs a Da a.length da b Db b.length db w3 rfl rfl rfl hS3.rd ha3.rd hb3.rd (Nat.le_refl _) (by omega) (by omega) (by omega)
    rw [hN] at hC3
    obtain ⟨x0, x1, x2⟩ := hS3.cells
    go_wp2_with fail
    refine hC3.mono ?_
    rintro e w4 ⟨rfl, hw4⟩
    have hS4 := hS3.below hw4
    have ha4 := ha3.below hw4
    have hb4 := hb3.below hw4
    clear hS3 hC3 hw4 ha3 hb3 x0 x1 x2
    by_cases htt : tiledB W T bs a = true ∧ tiledB W T bs b = true
    ·
      obtain ⟨b1, b2, b3, b4, b5⟩ := hlaw htt.1 htt.2
      have b3 := b3.symm
      subst b3
      have hlt : decide (N < 0) = false := decide_eq_false (by omega)
      have hNN : (N == N) = true := by simp
      clear hno hlaw hnn htt
      by_cases hab : a = b
      ·
        have E5 := Lib.hid (b5 hab)
        have hsv : (a == b) = true := beq_iff_eq.2 hab
        clear b4 b5 hab
        have hC4 := sameInts_any a b Da Db a.length da b.length db w4.heap.size w4 rfl rfl ha4.rd hb4.rd (by omega) (by omega)
        rw [hsv] at hC4
        go_wp2_with fail
        refine hC4.mono ?_
        rintro e w5 ⟨rfl, hw5⟩
        have hS5 := hS4.below hw5
        have ha5 := ha4.below hw5
        have hb5 := hb4.below hw5
        clear hS4 hC4 hw5 ha4 hb4 
        have hw2 : IntKind.i64.wrap (2 * C) = 2 * C := IntWalk.i64_in _ (by omega)
        have hsub : 2 * C - (F.length : Int) = N := by have := E5.out; omega
        have hwN : IntKind.i64.wrap N = N := IntWalk.i64_in _ (by omega)
        clear hN hsv E5
        go_upto_region 10 with fail
        have hd0 := (Below.refl w5.heap.size w5).drew
        have hbel := hS5.bel
        have hG0 := fun w' (h : Below w5.heap.size w5 w') => hide (pushesFromI_any W T A2 bs.length c2 w'.heap.size bs b Db b.length db a Da a.length da w' rfl rfl rfl (LI.addr (hb5.below h)) (LI.addr (ha5.below h)) (hS5.below h).rd (hb5.below h).rd (ha5.below h).rd (Nat.le_refl _) (by omega) (by omega) (by omega))
        simp only [hN2] at hG0
        have hG1 := fun w' (h : Below w5.heap.size w5 w') => hide (cornerManyI_any W T A2 bs.length c2 w'.heap.size bs w' rfl (hS5.below h).rd (Nat.le_refl _) (by omega))
        simp only [hC] at hG1
        have hG2 := fun w' (h : Below w5.heap.size w5 w') => hide (flipsOfI_any W T A2 bs.length c2 w'.heap.size bs a Da a.length da w' rfl rfl (hS5.below h).rd (ha5.below h).rd (Nat.le_refl _) (by omega) (by omega))
        simp only [hF] at hG2
        clear ha5 hb5
        refine wp_region_held_drew (S := (fun w' => w'.cell? ⟨x, 0, none⟩ = some (.int .i64 W) ∧ w'.cell? ⟨x, 1, none⟩ = some (.int .i64 T) ∧ w'.cell? ⟨x, 2, none⟩ = some (.slice A2 bs.length c2))) (by kernel_rfl) (hS5.below hd0).cells ?_
        intro hHeld
        refine wpAnyH_take (i := 0) (v := ?_) rfl (by kernel_rfl) (by kernel_rfl) (by kernel_rfl) (fun _ _ _ h => h) (Or.inl ⟨by kernel_rfl, ?_⟩) hHeld ?_
        rotate_left
        · intro w' hS'
          obtain ⟨x0, x1, x2⟩ := hS'
          go_simp
          try with_reducible rfl
        refine wpAnyH_take (i := 1) (v := ?_) rfl (by kernel_rfl) (by kernel_rfl) (by kernel_rfl) (fun _ _ _ h => h) (Or.inl ⟨by kernel_rfl, ?_⟩) hHeld ?_
        rotate_left
        · intro w' hS'
          clear hS'
          go_simp
          try with_reducible rfl
        refine wpAnyH_take (i := 2) (v := ?_) rfl (by kernel_rfl) (by kernel_rfl) (by kernel_rfl) (fun _ _ _ h => h) (Or.inl ⟨by kernel_rfl, ?_⟩) hHeld ?_
        rotate_left
        · intro w' hS'
          clear hS'
          go_simp
          try with_reducible rfl
        refine wpAnyH_take (i := 4) (v := ?_) rfl (by kernel_rfl) (by kernel_rfl) (by kernel_rfl) (fun _ _ _ h => h) (Or.inl ⟨by kernel_rfl, ?_⟩) hHeld ?_
        rotate_left
        · intro w' hS'
          clear hS'
          go_simp
          try with_reducible rfl
        refine wpAnyH_ready (rs := [3]) (by kernel_rfl) (by simp) ?_
        refine AllReadyH.cons rfl (fun K hK => ?_) AllReadyH.nil
        go_simp
        go_at_call 31
        (with_reducible refine (unhide (hG0 w5.drew hd0)).mono ?_)
        rintro e w6 ⟨rfl, hb6⟩
        have hB6 := hd0.trans (hb6.mono hd0.size)
        refine hK.out _ _ ?_ ?_
        · exact (hS5.below hB6).cells
        clear hHeld
        intro hHeld
        clear hK K
        refine wpAnyH_take (i := 5) (v := ?_) rfl (by kernel_rfl) (by kernel_rfl) (by kernel_rfl) (fun _ _ _ h => h) (Or.inl ⟨by kernel_rfl, ?_⟩) hHeld ?_
        rotate_left
        · intro w' hS'
          clear hS'
          go_simp
          try with_reducible rfl
        refine wpAnyH_take (i := 6) (v := ?_) rfl (by kernel_rfl) (by kernel_rfl) (by kernel_rfl) (fun _ _ _ h => h) (Or.inl ⟨by kernel_rfl, ?_⟩) hHeld ?_
        rotate_left
        · intro w' hS'
          clear hS'
          go_simp
          try with_reducible rfl
        refine wpAnyH_take (i := 7) (v := ?_) rfl (by kernel_rfl) (by kernel_rfl) (by kernel_rfl) (fun _ _ _ h => h) (Or.inl ⟨by kernel_rfl, ?_⟩) hHeld ?_
        rotate_left
        · intro w' hS'
          clear hS'
          go_simp
          try with_reducible rfl
        refine wpAnyH_take (i := 8) (v := ?_) rfl (by kernel_rfl) (by kernel_rfl) (by kernel_rfl) (fun _ _ _ h => h) (Or.inl ⟨by kernel_rfl, ?_⟩) hHeld ?_
        rotate_left
        · intro w' hS'
          clear hS'
          go_simp
          try with_reducible rfl
        refine wpAnyH_take (i := 9) rfl (by kernel_rfl) (by kernel_rfl) (by kernel_rfl) (fun _ _ _ h => h) (Or.inr ⟨by kernel_rfl, rfl⟩) hHeld ?_
        refine wpAnyH_take (i := 10) rfl (by kernel_rfl) (by kernel_rfl) (by kernel_rfl) (fun _ _ _ h => h) (Or.inr ⟨by kernel_rfl, rfl⟩) hHeld ?_
        refine wpAnyH_take (i := 11) (v := ?_) rfl (by kernel_rfl) (by kernel_rfl) (by kernel_rfl) (fun _ _ _ h => h) (Or.inl ⟨by kernel_rfl, ?_⟩) hHeld ?_
        rotate_left
        · intro w' hS'
          clear hS'
          go_simp
          try with_reducible rfl
        refine wpAnyH_take (i := 12) (v := ?_) rfl (by kernel_rfl) (by kernel_rfl) (by kernel_rfl) (fun _ _ _ h => h) (Or.inl ⟨by kernel_rfl, ?_⟩) hHeld ?_
        rotate_left
        · intro w' hS'
          clear hS'
          go_simp
          try with_reducible rfl
        refine wpAnyH_take (i := 13) rfl (by kernel_rfl) (by kernel_rfl) (by kernel_rfl) (fun _ _ _ h => h) (Or.inr ⟨by kernel_rfl, rfl⟩) hHeld ?_
        refine wpAnyH_take (i := 14) rfl (by kernel_rfl) (by kernel_rfl) (by kernel_rfl) (fun _ _ _ h => h) (Or.inr ⟨by kernel_rfl, rfl⟩) hHeld ?_
        refine wpAnyH_take (i := 15) (v := ?_) rfl (by kernel_rfl) (by kernel_rfl) (by kernel_rfl) (fun _ _ _ h => h) (Or.inl ⟨by kernel_rfl, ?_⟩) hHeld ?_
        rotate_left
        · intro w' hS'
          clear hS'
          go_simp
          try with_reducible rfl
        refine wpAnyH_take (i := 16) (v := ?_) rfl (by kernel_rfl) (by kernel_rfl) (by kernel_rfl) (fun _ _ _ h => h) (Or.inl ⟨by kernel_rfl, ?_⟩) hHeld ?_
        rotate_left
        · intro w' hS'
          clear hS'
          go_simp
          try with_reducible rfl
        refine wpAnyH_take (i := 17) (v := ?_) rfl (by kernel_rfl) (by kernel_rfl) (by kernel_rfl) (fun _ _ _ h => h) (Or.inl ⟨by kernel_rfl, ?_⟩) hHeld ?_
        rotate_left
        · intro w' hS'
          clear hS'
          go_simp
          try with_reducible rfl
        refine wpAnyH_take (i := 18) (v := ?_) rfl (by kernel_rfl) (by kernel_rfl) (by kernel_rfl) (fun _ _ _ h => h) (Or.inl ⟨by kernel_rfl, ?_⟩) hHeld ?_
        rotate_left
        · intro w' hS'
          clear hS'
          go_simp
          try with_reducible rfl
        refine wpAnyH_take (i := 19) (v := ?_) rfl (by kernel_rfl) (by kernel_rfl) (by kernel_rfl) (fun _ _ _ h => h) (Or.inl ⟨by kernel_rfl, ?_⟩) hHeld ?_
        rotate_left
        · intro w' hS'
          clear hS'
          go_simp
          try with_reducible rfl
        refine wpAnyH_take (i := 20) rfl (by kernel_rfl) (by kernel_rfl) (by kernel_rfl) (fun _ _ _ h => h) (Or.inr ⟨by kernel_rfl, rfl⟩) hHeld ?_
        refine wpAnyH_take (i := 21) rfl (by kernel_rfl) (by kernel_rfl) (by kernel_rfl) (fun _ _ _ h => h) (Or.inr ⟨by kernel_rfl, rfl⟩) hHeld ?_
        refine wpAnyH_take (i := 22) rfl (by kernel_rfl) (by kernel_rfl) (by kernel_rfl) (fun _ _ _ h => h) (Or.inr ⟨by kernel_rfl, rfl⟩) hHeld ?_
        refine wpAnyH_take (i := 23) rfl (by kernel_rfl) (by kernel_rfl) (by kernel_rfl) (fun _ _ _ h => h) (Or.inr ⟨by kernel_rfl, rfl⟩) hHeld ?_
        refine wpAnyH_take (i := 24) rfl (by kernel_rfl) (by kernel_rfl) (by kernel_rfl) (fun _ _ _ h => h) (Or.inr ⟨by kernel_rfl, rfl⟩) hHeld ?_
        refine wpAnyH_take (i := 25) rfl (by kernel_rfl) (by kernel_rfl) (by kernel_rfl) (fun _ _ _ h => h) (Or.inr ⟨by kernel_rfl, rfl⟩) hHeld ?_
        refine wpAnyH_take (i := 26) rfl (by kernel_rfl) (by kernel_rfl) (by kernel_rfl) (fun _ _ _ h => h) (Or.inr ⟨by kernel_rfl, rfl⟩) hHeld ?_
        refine wpAnyH_take (i := 27) rfl (by kernel_rfl) (by kernel_rfl) (by kernel_rfl) (fun _ _ _ h => h) (Or.inr ⟨by kernel_rfl, rfl⟩) hHeld ?_
        refine wpAnyH_take (i := 28) (v := ?_) rfl (by kernel_rfl) (by kernel_rfl) (by kernel_rfl) (fun _ _ _ h => h) (Or.inl ⟨by kernel_rfl, ?_⟩) hHeld ?_
        rotate_left
        · intro w' hS'
          clear hS'
          go_simp
          try with_reducible rfl
        refine wpAnyH_take (i := 29) (v := ?_) rfl (by kernel_rfl) (by kernel_rfl) (by kernel_rfl) (fun _ _ _ h => h) (Or.inl ⟨by kernel_rfl, ?_⟩) hHeld ?_
        rotate_left
        · intro w' hS'
          clear hS'
          go_simp
          try with_reducible rfl
        refine wpAnyH_take (i := 30) (v := ?_) rfl (by kernel_rfl) (by kernel_rfl) (by kernel_rfl) (fun _ _ _ h => h) (Or.inl ⟨by kernel_rfl, ?_⟩) hHeld ?_
        rotate_left
        · intro w' hS'
          clear hS'
          go_simp
          try with_reducible rfl
        refine wpAnyH_take (i := 31) (v := ?_) rfl (by kernel_rfl) (by kernel_rfl) (by kernel_rfl) (fun _ _ _ h => h) (Or.inl ⟨by kernel_rfl, ?_⟩) hHeld ?_
        rotate_left
        · intro w' hS'
          clear hS'
          go_simp
          try with_reducible rfl
        refine wpAnyH_take (i := 32) (v := ?_) rfl (by kernel_rfl) (by kernel_rfl) (by kernel_rfl) (fun _ _ _ h => h) (Or.inl ⟨by kernel_rfl, ?_⟩) hHeld ?_
        rotate_left
        · intro w' hS'
          clear hS'
          go_simp
          try with_reducible rfl
        refine wpAnyH_take (i := 33) (v := ?_) rfl (by kernel_rfl) (by kernel_rfl) (by kernel_rfl) (fun _ _ _ h => h) (Or.inl ⟨by kernel_rfl, ?_⟩) hHeld ?_
        rotate_left
        · intro w' hS'
          clear hS'
          go_simp
          try with_reducible rfl
        refine wpAnyH_take (i := 34) (v := ?_) rfl (by kernel_rfl) (by kernel_rfl) (by kernel_rfl) (fun _ _ _ h => h) (Or.inl ⟨by kernel_rfl, ?_⟩) hHeld ?_
        rotate_left
        · intro w' hS'
          clear hS'
          go_simp
          try with_reducible rfl
        refine wpAnyH_take (i := 35) (v := ?_) rfl (by kernel_rfl) (by kernel_rfl) (by kernel_rfl) (fun _ _ _ h => h) (Or.inl ⟨by kernel_rfl, ?_⟩) hHeld ?_
        rotate_left
        · intro w' hS'
          obtain ⟨x0, x1, x2⟩ := hS'
          go_simp
          try with_reducible rfl
        refine wpAnyH_take (i := 38) (v := ?_) rfl (by kernel_rfl) (by kernel_rfl) (by kernel_rfl) (fun _ _ _ h => h) (Or.inl ⟨by kernel_rfl, ?_⟩) hHeld ?_
        rotate_left
        · intro w' hS'
          obtain ⟨x0, x1, x2⟩ := hS'
          go_simp
          try with_reducible rfl
        refine wpAnyH_take (i := 39) (v := ?_) rfl (by kernel_rfl) (by kernel_rfl) (by kernel_rfl) (fun _ _ _ h => h) (Or.inl ⟨by kernel_rfl, ?_⟩) hHeld ?_
        rotate_left
        · intro w' hS'
          clear hS'
          go_simp
          try with_reducible rfl
        refine wpAnyH_ready (rs := [36]) (by kernel_rfl) (by simp) ?_
        refine AllReadyH.cons rfl (fun K hK => ?_) AllReadyH.nil
        go_simp
        go_at_call 34
        (with_reducible refine (unhide (hG1 w6 hB6)).mono ?_)
        rintro e w7 ⟨rfl, hb7⟩
        have hB7 := hB6.trans (hb7.mono hB6.size)
        refine hK.out _ _ ?_ ?_
        · exact (hS5.below hB7).cells
        clear hHeld
        intro hHeld
        clear hK K
        refine wpAnyH_take (i := 37) (v := ?_) rfl (by kernel_rfl) (by kernel_rfl) (by kernel_rfl) (fun _ _ _ h => h) (Or.inl ⟨by kernel_rfl, ?_⟩) hHeld ?_
        rotate_left
        · intro w' hS'
          clear hS'
          go_simp
          try with_reducible rfl
        refine wpAnyH_ready (rs := [40]) (by kernel_rfl) (by simp) ?_
        refine AllReadyH.cons rfl (fun K hK => ?_) AllReadyH.nil
        go_simp
        go_at_call 35
        (with_reducible refine (unhide (hG2 w7 hB7)).mono ?_)
        rintro e w8 ⟨A8, c8, c8', rfl, _, hb8⟩
        have hB8 := hB7.trans (hb8.mono hB7.size)
        refine hK.out _ _ ?_ ?_
        · exact (hS5.below hB8).cells
        clear hHeld
        intro hHeld
        clear hK K
        refine wpAnyH_take (i := 41) (v := ?_) rfl (by kernel_rfl) (by kernel_rfl) (by kernel_rfl) (fun _ _ _ h => h) (Or.inl ⟨by kernel_rfl, ?_⟩) hHeld ?_
        rotate_left
        · intro w' hS'
          clear hS'
          go_simp
          try with_reducible rfl
        refine wpAnyH_take (i := 42) (v := ?_) rfl (by kernel_rfl) (by kernel_rfl) (by kernel_rfl) (fun _ _ _ h => h) (Or.inl ⟨by kernel_rfl, ?_⟩) hHeld ?_
        rotate_left
        · intro w' hS'
          clear hS'
          go_simp
          try with_reducible rfl
        refine wpAnyH_take (i := 43) (v := ?_) rfl (by kernel_rfl) (by kernel_rfl) (by kernel_rfl) (fun _ _ _ h => h) (Or.inl ⟨by kernel_rfl, ?_⟩) hHeld ?_
        rotate_left
        · intro w' hS'
          clear hS'
          go_simp
          try with_reducible rfl
        refine wpAnyH_take (i := 44) (v := ?_) rfl (by kernel_rfl) (by kernel_rfl) (by kernel_rfl) (fun _ _ _ h => h) (Or.inl ⟨by kernel_rfl, ?_⟩) hHeld ?_
        rotate_left
        · intro w' hS'
          clear hS'
          go_simp
          try with_reducible rfl
        refine wpAnyH_take (i := 45) (v := ?_) rfl (by kernel_rfl) (by kernel_rfl) (by kernel_rfl) (fun _ _ _ h => h) (Or.inl ⟨by kernel_rfl, ?_⟩) hHeld ?_
        rotate_left
        · intro w' hS'
          clear hS'
          go_simp
          try with_reducible rfl
        refine wpAnyH_take (i := 46) (v := ?_) rfl (by kernel_rfl) (by kernel_rfl) (by kernel_rfl) (fun _ _ _ h => h) (Or.inl ⟨by kernel_rfl, ?_⟩) hHeld ?_
        rotate_left
        · intro w' hS'
          clear hS'
          go_simp
          try with_reducible rfl
        refine wpAnyH_done (by kernel_rfl) ?_ _
        go_simp
        go_wp2_with fail
        go_ret
        exact ⟨rfl, hbel.trans (hB8.mono hbel.size)⟩
      ·
        obtain ⟨c1, c2x⟩ := b4 hab
        have hsv : (a == b) = false := beq_eq_false_iff_ne.2 hab
        clear b4 b5 hab
        have hC4 := sameInts_any a b Da Db a.length da b.length db w4.heap.size w4 rfl rfl ha4.rd hb4.rd (by omega) (by omega)
        rw [hsv] at hC4
        go_wp2_with fail
        refine hC4.mono ?_
        rintro e w5 ⟨rfl, hw5⟩
        have hS5 := hS4.below hw5
        have ha5 := ha4.below hw5
        have hb5 := hb4.below hw5
        clear hS4 hC4 hw5 ha4 hb4 
        clear hN hsv
        rcases c1 with rfl | rfl
        ·
          have hu1 : (U == 1) = false := beq_eq_false_iff_ne.2 fun h => by have := c2x.2 h; omega
          clear c2x
          go_upto_region 10 with fail
          have hd0 := (Below.refl w5.heap.size w5).drew
          have hbel := hS5.bel
          have hG0 := fun w' (h : Below w5.heap.size w5 w') => hide (pushesFromI_any W T A2 bs.length c2 w'.heap.size bs b Db b.length db a Da a.length da w' rfl rfl rfl (LI.addr (hb5.below h)) (LI.addr (ha5.below h)) (hS5.below h).rd (hb5.below h).rd (ha5.below h).rd (Nat.le_refl _) (by omega) (by omega) (by omega))
          simp only [hN2] at hG0
          have hG1 := fun w' (h : Below w5.heap.size w5 w') => hide (apartI_any W T A2 bs.length c2 w'.heap.size bs a Da a.length da b Db b.length db w' rfl rfl rfl (hS5.below h).rd (ha5.below h).rd (hb5.below h).rd (Nat.le_refl _) (by omega) (by omega) (by omega))
          simp only [hU] at hG1
          clear ha5 hb5
          refine wp_region_held_drew (S := (fun w' => w'.cell? ⟨x, 0, none⟩ = some (.int .i64 W) ∧ w'.cell? ⟨x, 1, none⟩ = some (.int .i64 T) ∧ w'.cell? ⟨x, 2, none⟩ = some (.slice A2 bs.length c2))) (by kernel_rfl) (hS5.below hd0).cells ?_
          intro hHeld
          refine wpAnyH_take (i := 0) (v := ?_) rfl (by kernel_rfl) (by kernel_rfl) (by kernel_rfl) (fun _ _ _ h => h) (Or.inl ⟨by kernel_rfl, ?_⟩) hHeld ?_
          rotate_left
          · intro w' hS'
            obtain ⟨x0, x1, x2⟩ := hS'
            go_simp
            try with_reducible rfl
          refine wpAnyH_take (i := 1) (v := ?_) rfl (by kernel_rfl) (by kernel_rfl) (by kernel_rfl) (fun _ _ _ h => h) (Or.inl ⟨by kernel_rfl, ?_⟩) hHeld ?_
          rotate_left
          · intro w' hS'
            clear hS'
            go_simp
            try with_reducible rfl
          refine wpAnyH_take (i := 2) (v := ?_) rfl (by kernel_rfl) (by kernel_rfl) (by kernel_rfl) (fun _ _ _ h => h) (Or.inl ⟨by kernel_rfl, ?_⟩) hHeld ?_
          rotate_left
          · intro w' hS'
            clear hS'
            go_simp
            try with_reducible rfl
          refine wpAnyH_take (i := 4) (v := ?_) rfl (by kernel_rfl) (by kernel_rfl) (by kernel_rfl) (fun _ _ _ h => h) (Or.inl ⟨by kernel_rfl, ?_⟩) hHeld ?_
          rotate_left
          · intro w' hS'
            clear hS'
            go_simp
            try with_reducible rfl
          refine wpAnyH_ready (rs := [3]) (by kernel_rfl) (by simp) ?_
          refine AllReadyH.cons rfl (fun K hK => ?_) AllReadyH.nil
          go_simp
          go_at_call 31
          (with_reducible refine (unhide (hG0 w5.drew hd0)).mono ?_)
          rintro e w6 ⟨rfl, hb6⟩
          have hB6 := hd0.trans (hb6.mono hd0.size)
          refine hK.out _ _ ?_ ?_
          · exact (hS5.below hB6).cells
          clear hHeld
          intro hHeld
          clear hK K
          refine wpAnyH_take (i := 5) (v := ?_) rfl (by kernel_rfl) (by kernel_rfl) (by kernel_rfl) (fun _ _ _ h => h) (Or.inl ⟨by kernel_rfl, ?_⟩) hHeld ?_
          rotate_left
          · intro w' hS'
            clear hS'
            go_simp
            try with_reducible rfl
          refine wpAnyH_take (i := 6) (v := ?_) rfl (by kernel_rfl) (by kernel_rfl) (by kernel_rfl) (fun _ _ _ h => h) (Or.inl ⟨by kernel_rfl, ?_⟩) hHeld ?_
          rotate_left
          · intro w' hS'
            clear hS'
            go_simp
            try with_reducible rfl
          refine wpAnyH_take (i := 7) (v := ?_) rfl (by kernel_rfl) (by kernel_rfl) (by kernel_rfl) (fun _ _ _ h => h) (Or.inl ⟨by kernel_rfl, ?_⟩) hHeld ?_
          rotate_left
          · intro w' hS'
            clear hS'
            go_simp
            try with_reducible rfl
          refine wpAnyH_take (i := 8) (v := ?_) rfl (by kernel_rfl) (by kernel_rfl) (by kernel_rfl) (fun _ _ _ h => h) (Or.inl ⟨by kernel_rfl, ?_⟩) hHeld ?_
          rotate_left
          · intro w' hS'
            clear hS'
            go_simp
            try with_reducible rfl
          refine wpAnyH_take (i := 9) (v := ?_) rfl (by kernel_rfl) (by kernel_rfl) (by kernel_rfl) (fun _ _ _ h => h) (Or.inl ⟨by kernel_rfl, ?_⟩) hHeld ?_
          rotate_left
          · intro w' hS'
            clear hS'
            go_simp
            try with_reducible rfl
          refine wpAnyH_take (i := 10) (v := ?_) rfl (by kernel_rfl) (by kernel_rfl) (by kernel_rfl) (fun _ _ _ h => h) (Or.inl ⟨by kernel_rfl, ?_⟩) hHeld ?_
          rotate_left
          · intro w' hS'
            clear hS'
            go_simp
            try with_reducible rfl
          refine wpAnyH_take (i := 11) (v := ?_) rfl (by kernel_rfl) (by kernel_rfl) (by kernel_rfl) (fun _ _ _ h => h) (Or.inl ⟨by kernel_rfl, ?_⟩) hHeld ?_
          rotate_left
          · intro w' hS'
            clear hS'
            go_simp
            try with_reducible rfl
          refine wpAnyH_take (i := 12) (v := ?_) rfl (by kernel_rfl) (by kernel_rfl) (by kernel_rfl) (fun _ _ _ h => h) (Or.inl ⟨by kernel_rfl, ?_⟩) hHeld ?_
          rotate_left
          · intro w' hS'
            clear hS'
            go_simp
            try with_reducible rfl
          refine wpAnyH_take (i := 13) rfl (by kernel_rfl) (by kernel_rfl) (by kernel_rfl) (fun _ _ _ h => h) (Or.inr ⟨by kernel_rfl, rfl⟩) hHeld ?_
          refine wpAnyH_take (i := 14) rfl (by kernel_rfl) (by kernel_rfl) (by kernel_rfl) (fun _ _ _ h => h) (Or.inr ⟨by kernel_rfl, rfl⟩) hHeld ?_
          refine wpAnyH_take (i := 15) (v := ?_) rfl (by kernel_rfl) (by kernel_rfl) (by kernel_rfl) (fun _ _ _ h => h) (Or.inl ⟨by kernel_rfl, ?_⟩) hHeld ?_
          rotate_left
          · intro w' hS'
            clear hS'
            go_simp
            try with_reducible rfl
          refine wpAnyH_take (i := 16) (v := ?_) rfl (by kernel_rfl) (by kernel_rfl) (by kernel_rfl) (fun _ _ _ h => h) (Or.inl ⟨by kernel_rfl, ?_⟩) hHeld ?_
          rotate_left
          · intro w' hS'
            clear hS'
            go_simp
            try with_reducible rfl
          refine wpAnyH_take (i := 17) (v := ?_) rfl (by kernel_rfl) (by kernel_rfl) (by kernel_rfl) (fun _ _ _ h => h) (Or.inl ⟨by kernel_rfl, ?_⟩) hHeld ?_
          rotate_left
          · intro w' hS'
            clear hS'
            go_simp
            try with_reducible rfl
          refine wpAnyH_take (i := 18) (v := ?_) rfl (by kernel_rfl) (by kernel_rfl) (by kernel_rfl) (fun _ _ _ h => h) (Or.inl ⟨by kernel_rfl, ?_⟩) hHeld ?_
          rotate_left
          · intro w' hS'
            clear hS'
            go_simp
            try with_reducible rfl
          refine wpAnyH_take (i := 19) (v := ?_) rfl (by kernel_rfl) (by kernel_rfl) (by kernel_rfl) (fun _ _ _ h => h) (Or.inl ⟨by kernel_rfl, ?_⟩) hHeld ?_
          rotate_left
          · intro w' hS'
            clear hS'
            go_simp
            try with_reducible rfl
          refine wpAnyH_take (i := 20) (v := ?_) rfl (by kernel_rfl) (by kernel_rfl) (by kernel_rfl) (fun _ _ _ h => h) (Or.inl ⟨by kernel_rfl, ?_⟩) hHeld ?_
          rotate_left
          · intro w' hS'
            clear hS'
            go_simp
            try with_reducible rfl
          refine wpAnyH_take (i := 21) (v := ?_) rfl (by kernel_rfl) (by kernel_rfl) (by kernel_rfl) (fun _ _ _ h => h) (Or.inl ⟨by kernel_rfl, ?_⟩) hHeld ?_
          rotate_left
          · intro w' hS'
            clear hS'
            go_simp
            try with_reducible rfl
          refine wpAnyH_take (i := 22) (v := ?_) rfl (by kernel_rfl) (by kernel_rfl) (by kernel_rfl) (fun _ _ _ h => h) (Or.inl ⟨by kernel_rfl, ?_⟩) hHeld ?_
          rotate_left
          · intro w' hS'
            obtain ⟨x0, x1, x2⟩ := hS'
            go_simp
            try with_reducible rfl
          refine wpAnyH_take (i := 23) (v := ?_) rfl (by kernel_rfl) (by kernel_rfl) (by kernel_rfl) (fun _ _ _ h => h) (Or.inl ⟨by kernel_rfl, ?_⟩) hHeld ?_
          rotate_left
          · intro w' hS'
            clear hS'
            go_simp
            try with_reducible rfl
          refine wpAnyH_take (i := 24) (v := ?_) rfl (by kernel_rfl) (by kernel_rfl) (by kernel_rfl) (fun _ _ _ h => h) (Or.inl ⟨by kernel_rfl, ?_⟩) hHeld ?_
          rotate_left
          · intro w' hS'
            clear hS'
            go_simp
            try with_reducible rfl
          refine wpAnyH_ready (rs := [25]) (by kernel_rfl) (by simp) ?_
          refine AllReadyH.cons rfl (fun K hK => ?_) AllReadyH.nil
          go_simp
          go_at_call 33
          (with_reducible refine (unhide (hG1 w6 hB6)).mono ?_)
          rintro e w7 ⟨rfl, hb7⟩
          have hB7 := hB6.trans (hb7.mono hB6.size)
          refine hK.out _ _ ?_ ?_
          · exact (hS5.below hB7).cells
          clear hHeld
          intro hHeld
          clear hK K
          refine wpAnyH_take (i := 26) (v := ?_) rfl (by kernel_rfl) (by kernel_rfl) (by kernel_rfl) (fun _ _ _ h => h) (Or.inl ⟨by kernel_rfl, ?_⟩) hHeld ?_
          rotate_left
          · intro w' hS'
            clear hS'
            go_simp
            try with_reducible rfl
          refine wpAnyH_take (i := 27) (v := ?_) rfl (by kernel_rfl) (by kernel_rfl) (by kernel_rfl) (fun _ _ _ h => h) (Or.inl ⟨by kernel_rfl, ?_⟩) hHeld ?_
          rotate_left
          · intro w' hS'
            clear hS'
            go_simp
            try with_reducible rfl
          refine wpAnyH_take (i := 28) (v := ?_) rfl (by kernel_rfl) (by kernel_rfl) (by kernel_rfl) (fun _ _ _ h => h) (Or.inl ⟨by kernel_rfl, ?_⟩) hHeld ?_
          rotate_left
          · intro w' hS'
            clear hS'
            go_simp
            try with_reducible rfl
          refine wpAnyH_take (i := 29) (v := ?_) rfl (by kernel_rfl) (by kernel_rfl) (by kernel_rfl) (fun _ _ _ h => h) (Or.inl ⟨by kernel_rfl, ?_⟩) hHeld ?_
          rotate_left
          · intro w' hS'
            clear hS'
            go_simp
            try with_reducible rfl
          refine wpAnyH_take (i := 30) (v := ?_) rfl (by kernel_rfl) (by kernel_rfl) (by kernel_rfl) (fun _ _ _ h => h) (Or.inl ⟨by kernel_rfl, ?_⟩) hHeld ?_
          rotate_left
          · intro w' hS'
            clear hS'
            go_simp
            try with_reducible rfl
          refine wpAnyH_take (i := 31) (v := ?_) rfl (by kernel_rfl) (by kernel_rfl) (by kernel_rfl) (fun _ _ _ h => h) (Or.inl ⟨by kernel_rfl, ?_⟩) hHeld ?_
          rotate_left
          · intro w' hS'
            clear hS'
            go_simp
            try with_reducible rfl
          refine wpAnyH_take (i := 32) (v := ?_) rfl (by kernel_rfl) (by kernel_rfl) (by kernel_rfl) (fun _ _ _ h => h) (Or.inl ⟨by kernel_rfl, ?_⟩) hHeld ?_
          rotate_left
          · intro w' hS'
            clear hS'
            go_simp
            try with_reducible rfl
          refine wpAnyH_take (i := 33) (v := ?_) rfl (by kernel_rfl) (by kernel_rfl) (by kernel_rfl) (fun _ _ _ h => h) (Or.inl ⟨by kernel_rfl, ?_⟩) hHeld ?_
          rotate_left
          · intro w' hS'
            clear hS'
            go_simp
            try with_reducible rfl
          refine wpAnyH_take (i := 34) rfl (by kernel_rfl) (by kernel_rfl) (by kernel_rfl) (fun _ _ _ h => h) (Or.inr ⟨by kernel_rfl, rfl⟩) hHeld ?_
          refine wpAnyH_take (i := 35) rfl (by kernel_rfl) (by kernel_rfl) (by kernel_rfl) (fun _ _ _ h => h) (Or.inr ⟨by kernel_rfl, rfl⟩) hHeld ?_
          refine wpAnyH_take (i := 36) rfl (by kernel_rfl) (by kernel_rfl) (by kernel_rfl) (fun _ _ _ h => h) (Or.inr ⟨by kernel_rfl, rfl⟩) hHeld ?_
          refine wpAnyH_take (i := 37) rfl (by kernel_rfl) (by kernel_rfl) (by kernel_rfl) (fun _ _ _ h => h) (Or.inr ⟨by kernel_rfl, rfl⟩) hHeld ?_
          refine wpAnyH_take (i := 38) rfl (by kernel_rfl) (by kernel_rfl) (by kernel_rfl) (fun _ _ _ h => h) (Or.inr ⟨by kernel_rfl, rfl⟩) hHeld ?_
          refine wpAnyH_take (i := 39) rfl (by kernel_rfl) (by kernel_rfl) (by kernel_rfl) (fun _ _ _ h => h) (Or.inr ⟨by kernel_rfl, rfl⟩) hHeld ?_
          refine wpAnyH_take (i := 40) rfl (by kernel_rfl) (by kernel_rfl) (by kernel_rfl) (fun _ _ _ h => h) (Or.inr ⟨by kernel_rfl, rfl⟩) hHeld ?_
          refine wpAnyH_take (i := 41) rfl (by kernel_rfl) (by kernel_rfl) (by kernel_rfl) (fun _ _ _ h => h) (Or.inr ⟨by kernel_rfl, rfl⟩) hHeld ?_
          refine wpAnyH_take (i := 42) rfl (by kernel_rfl) (by kernel_rfl) (by kernel_rfl) (fun _ _ _ h => h) (Or.inr ⟨by kernel_rfl, rfl⟩) hHeld ?_
          refine wpAnyH_take (i := 43) rfl (by kernel_rfl) (by kernel_rfl) (by kernel_rfl) (fun _ _ _ h => h) (Or.inr ⟨by kernel_rfl, rfl⟩) hHeld ?_
          refine wpAnyH_take (i := 44) (v := ?_) rfl (by kernel_rfl) (by kernel_rfl) (by kernel_rfl) (fun _ _ _ h => h) (Or.inl ⟨by kernel_rfl, ?_⟩) hHeld ?_
          rotate_left
          · intro w' hS'
            clear hS'
            go_simp
            try with_reducible rfl
          refine wpAnyH_take (i := 45) (v := ?_) rfl (by kernel_rfl) (by kernel_rfl) (by kernel_rfl) (fun _ _ _ h => h) (Or.inl ⟨by kernel_rfl, ?_⟩) hHeld ?_
          rotate_left
          · intro w' hS'
            clear hS'
            go_simp
            try with_reducible rfl
          refine wpAnyH_take (i := 46) (v := ?_) rfl (by kernel_rfl) (by kernel_rfl) (by kernel_rfl) (fun _ _ _ h => h) (Or.inl ⟨by kernel_rfl, ?_⟩) hHeld ?_
          rotate_left
          · intro w' hS'
            clear hS'
            go_simp
            try with_reducible rfl
          refine wpAnyH_done (by kernel_rfl) ?_ _
          go_simp
          go_wp2_with fail
          go_ret
          exact ⟨rfl, hbel.trans (hB7.mono hbel.size)⟩
        ·
          have hu1 : (U == 1) = true := beq_iff_eq.2 (c2x.1 rfl)
          clear c2x
          go_upto_region 10 with fail
          have hd0 := (Below.refl w5.heap.size w5).drew
          have hbel := hS5.bel
          have hG0 := fun w' (h : Below w5.heap.size w5 w') => hide (pushesFromI_any W T A2 bs.length c2 w'.heap.size bs b Db b.length db a Da a.length da w' rfl rfl rfl (LI.addr (hb5.below h)) (LI.addr (ha5.below h)) (hS5.below h).rd (hb5.below h).rd (ha5.below h).rd (Nat.le_refl _) (by omega) (by omega) (by omega))
          simp only [hN2] at hG0
          have hG1 := fun w' (h : Below w5.heap.size w5 w') => hide (apartI_any W T A2 bs.length c2 w'.heap.size bs a Da a.length da b Db b.length db w' rfl rfl rfl (hS5.below h).rd (ha5.below h).rd (hb5.below h).rd (Nat.le_refl _) (by omega) (by omega) (by omega))
          simp only [hU] at hG1
          clear ha5 hb5
          refine wp_region_held_drew (S := (fun w' => w'.cell? ⟨x, 0, none⟩ = some (.int .i64 W) ∧ w'.cell? ⟨x, 1, none⟩ = some (.int .i64 T) ∧ w'.cell? ⟨x, 2, none⟩ = some (.slice A2 bs.length c2))) (by kernel_rfl) (hS5.below hd0).cells ?_
          intro hHeld
          refine wpAnyH_take (i := 0) (v := ?_) rfl (by kernel_rfl) (by kernel_rfl) (by kernel_rfl) (fun _ _ _ h => h) (Or.inl ⟨by kernel_rfl, ?_⟩) hHeld ?_
          rotate_left
          · intro w' hS'
            obtain ⟨x0, x1, x2⟩ := hS'
            go_simp
            try with_reducible rfl
          refine wpAnyH_take (i := 1) (v := ?_) rfl (by kernel_rfl) (by kernel_rfl) (by kernel_rfl) (fun _ _ _ h => h) (Or.inl ⟨by kernel_rfl, ?_⟩) hHeld ?_
          rotate_left
          · intro w' hS'
            clear hS'
            go_simp
            try with_reducible rfl
          refine wpAnyH_take (i := 2) (v := ?_) rfl (by kernel_rfl) (by kernel_rfl) (by kernel_rfl) (fun _ _ _ h => h) (Or.inl ⟨by kernel_rfl, ?_⟩) hHeld ?_
          rotate_left
          · intro w' hS'
            clear hS'
            go_simp
            try with_reducible rfl
          refine wpAnyH_take (i := 4) (v := ?_) rfl (by kernel_rfl) (by kernel_rfl) (by kernel_rfl) (fun _ _ _ h => h) (Or.inl ⟨by kernel_rfl, ?_⟩) hHeld ?_
          rotate_left
          · intro w' hS'
            clear hS'
            go_simp
            try with_reducible rfl
          refine wpAnyH_ready (rs := [3]) (by kernel_rfl) (by simp) ?_
          refine AllReadyH.cons rfl (fun K hK => ?_) AllReadyH.nil
          go_simp
          go_at_call 31
          (with_reducible refine (unhide (hG0 w5.drew hd0)).mono ?_)
          rintro e w6 ⟨rfl, hb6⟩
          have hB6 := hd0.trans (hb6.mono hd0.size)
          refine hK.out _ _ ?_ ?_
          · exact (hS5.below hB6).cells
          clear hHeld
          intro hHeld
          clear hK K
          refine wpAnyH_take (i := 5) (v := ?_) rfl (by kernel_rfl) (by kernel_rfl) (by kernel_rfl) (fun _ _ _ h => h) (Or.inl ⟨by kernel_rfl, ?_⟩) hHeld ?_
          rotate_left
          · intro w' hS'
            clear hS'
            go_simp
            try with_reducible rfl
          refine wpAnyH_take (i := 6) (v := ?_) rfl (by kernel_rfl) (by kernel_rfl) (by kernel_rfl) (fun _ _ _ h => h) (Or.inl ⟨by kernel_rfl, ?_⟩) hHeld ?_
          rotate_left
          · intro w' hS'
            clear hS'
            go_simp
            try with_reducible rfl
          refine wpAnyH_take (i := 7) (v := ?_) rfl (by kernel_rfl) (by kernel_rfl) (by kernel_rfl) (fun _ _ _ h => h) (Or.inl ⟨by kernel_rfl, ?_⟩) hHeld ?_
          rotate_left
          · intro w' hS'
            clear hS'
            go_simp
            try with_reducible rfl
          refine wpAnyH_take (i := 8) (v := ?_) rfl (by kernel_rfl) (by kernel_rfl) (by kernel_rfl) (fun _ _ _ h => h) (Or.inl ⟨by kernel_rfl, ?_⟩) hHeld ?_
          rotate_left
          · intro w' hS'
            clear hS'
            go_simp
            try with_reducible rfl
          refine wpAnyH_take (i := 9) (v := ?_) rfl (by kernel_rfl) (by kernel_rfl) (by kernel_rfl) (fun _ _ _ h => h) (Or.inl ⟨by kernel_rfl, ?_⟩) hHeld ?_
          rotate_left
          · intro w' hS'
            clear hS'
            go_simp
            try with_reducible rfl
          refine wpAnyH_take (i := 10) (v := ?_) rfl (by kernel_rfl) (by kernel_rfl) (by kernel_rfl) (fun _ _ _ h => h) (Or.inl ⟨by kernel_rfl, ?_⟩) hHeld ?_
          rotate_left
          · intro w' hS'
            clear hS'
            go_simp
            try with_reducible rfl
          refine wpAnyH_take (i := 11) (v := ?_) rfl (by kernel_rfl) (by kernel_rfl) (by kernel_rfl) (fun _ _ _ h => h) (Or.inl ⟨by kernel_rfl, ?_⟩) hHeld ?_
          rotate_left
          · intro w' hS'
            clear hS'
            go_simp
            try with_reducible rfl
          refine wpAnyH_take (i := 12) (v := ?_) rfl (by kernel_rfl) (by kernel_rfl) (by kernel_rfl) (fun _ _ _ h => h) (Or.inl ⟨by kernel_rfl, ?_⟩) hHeld ?_
          rotate_left
          · intro w' hS'
            clear hS'
            go_simp
            try with_reducible rfl
          refine wpAnyH_take (i := 13) (v := ?_) rfl (by kernel_rfl) (by kernel_rfl) (by kernel_rfl) (fun _ _ _ h => h) (Or.inl ⟨by kernel_rfl, ?_⟩) hHeld ?_
          rotate_left
          · intro w' hS'
            clear hS'
            go_simp
            try with_reducible rfl
          refine wpAnyH_take (i := 14) (v := ?_) rfl (by kernel_rfl) (by kernel_rfl) (by kernel_rfl) (fun _ _ _ h => h) (Or.inl ⟨by kernel_rfl, ?_⟩) hHeld ?_
          rotate_left
          · intro w' hS'
            clear hS'
            go_simp
            try with_reducible rfl
          refine wpAnyH_take (i := 15) (v := ?_) rfl (by kernel_rfl) (by kernel_rfl) (by kernel_rfl) (fun _ _ _ h => h) (Or.inl ⟨by kernel_rfl, ?_⟩) hHeld ?_
          rotate_left
          · intro w' hS'
            clear hS'
            go_simp
            try with_reducible rfl
          refine wpAnyH_take (i := 16) (v := ?_) rfl (by kernel_rfl) (by kernel_rfl) (by kernel_rfl) (fun _ _ _ h => h) (Or.inl ⟨by kernel_rfl, ?_⟩) hHeld ?_
          rotate_left
          · intro w' hS'
            clear hS'
            go_simp
            try with_reducible rfl
          refine wpAnyH_take (i := 17) (v := ?_) rfl (by kernel_rfl) (by kernel_rfl) (by kernel_rfl) (fun _ _ _ h => h) (Or.inl ⟨by kernel_rfl, ?_⟩) hHeld ?_
          rotate_left
          · intro w' hS'
            clear hS'
            go_simp
            try with_reducible rfl
          refine wpAnyH_take (i := 18) (v := ?_) rfl (by kernel_rfl) (by kernel_rfl) (by kernel_rfl) (fun _ _ _ h => h) (Or.inl ⟨by kernel_rfl, ?_⟩) hHeld ?_
          rotate_left
          · intro w' hS'
            clear hS'
            go_simp
            try with_reducible rfl
          refine wpAnyH_take (i := 19) (v := ?_) rfl (by kernel_rfl) (by kernel_rfl) (by kernel_rfl) (fun _ _ _ h => h) (Or.inl ⟨by kernel_rfl, ?_⟩) hHeld ?_
          rotate_left
          · intro w' hS'
            clear hS'
            go_simp
            try with_reducible rfl
          refine wpAnyH_take (i := 20) (v := ?_) rfl (by kernel_rfl) (by kernel_rfl) (by kernel_rfl) (fun _ _ _ h => h) (Or.inl ⟨by kernel_rfl, ?_⟩) hHeld ?_
          rotate_left
          · intro w' hS'
            clear hS'
            go_simp
            try with_reducible rfl
          refine wpAnyH_take (i := 21) (v := ?_) rfl (by kernel_rfl) (by kernel_rfl) (by kernel_rfl) (fun _ _ _ h => h) (Or.inl ⟨by kernel_rfl, ?_⟩) hHeld ?_
          rotate_left
          · intro w' hS'
            clear hS'
            go_simp
            try with_reducible rfl
          refine wpAnyH_take (i := 22) (v := ?_) rfl (by kernel_rfl) (by kernel_rfl) (by kernel_rfl) (fun _ _ _ h => h) (Or.inl ⟨by kernel_rfl, ?_⟩) hHeld ?_
          rotate_left
          · intro w' hS'
            obtain ⟨x0, x1, x2⟩ := hS'
            go_simp
            try with_reducible rfl
          refine wpAnyH_take (i := 23) (v := ?_) rfl (by kernel_rfl) (by kernel_rfl) (by kernel_rfl) (fun _ _ _ h => h) (Or.inl ⟨by kernel_rfl, ?_⟩) hHeld ?_
          rotate_left
          · intro w' hS'
            clear hS'
            go_simp
            try with_reducible rfl
          refine wpAnyH_take (i := 24) (v := ?_) rfl (by kernel_rfl) (by kernel_rfl) (by kernel_rfl) (fun _ _ _ h => h) (Or.inl ⟨by kernel_rfl, ?_⟩) hHeld ?_
          rotate_left
          · intro w' hS'
            clear hS'
            go_simp
            try with_reducible rfl
          refine wpAnyH_ready (rs := [25]) (by kernel_rfl) (by simp) ?_
          refine AllReadyH.cons rfl (fun K hK => ?_) AllReadyH.nil
          go_simp
          go_at_call 33
          (with_reducible refine (unhide (hG1 w6 hB6)).mono ?_)
          rintro e w7 ⟨rfl, hb7⟩
          have hB7 := hB6.trans (hb7.mono hB6.size)
          refine hK.out _ _ ?_ ?_
          · exact (hS5.below hB7).cells
          clear hHeld
          intro hHeld
          clear hK K
          refine wpAnyH_take (i := 26) (v := ?_) rfl (by kernel_rfl) (by kernel_rfl) (by kernel_rfl) (fun _ _ _ h => h) (Or.inl ⟨by kernel_rfl, ?_⟩) hHeld ?_
          rotate_left
          · intro w' hS'
            clear hS'
            go_simp
            try with_reducible rfl
          refine wpAnyH_take (i := 27) (v := ?_) rfl (by kernel_rfl) (by kernel_rfl) (by kernel_rfl) (fun _ _ _ h => h) (Or.inl ⟨by kernel_rfl, ?_⟩) hHeld ?_
          rotate_left
          · intro w' hS'
            clear hS'
            go_simp
            try with_reducible rfl
          refine wpAnyH_take (i := 28) (v := ?_) rfl (by kernel_rfl) (by kernel_rfl) (by kernel_rfl) (fun _ _ _ h => h) (Or.inl ⟨by kernel_rfl, ?_⟩) hHeld ?_
          rotate_left
          · intro w' hS'
            clear hS'
            go_simp
            try with_reducible rfl
          refine wpAnyH_take (i := 29) (v := ?_) rfl (by kernel_rfl) (by kernel_rfl) (by kernel_rfl) (fun _ _ _ h => h) (Or.inl ⟨by kernel_rfl, ?_⟩) hHeld ?_
          rotate_left
          · intro w' hS'
            clear hS'
            go_simp
            try with_reducible rfl
          refine wpAnyH_take (i := 30) (v := ?_) rfl (by kernel_rfl) (by kernel_rfl) (by kernel_rfl) (fun _ _ _ h => h) (Or.inl ⟨by kernel_rfl, ?_⟩) hHeld ?_
          rotate_left
          · intro w' hS'
            clear hS'
            go_simp
            try with_reducible rfl
          refine wpAnyH_take (i := 31) (v := ?_) rfl (by kernel_rfl) (by kernel_rfl) (by kernel_rfl) (fun _ _ _ h => h) (Or.inl ⟨by kernel_rfl, ?_⟩) hHeld ?_
          rotate_left
          · intro w' hS'
            clear hS'
            go_simp
            try with_reducible rfl
          refine wpAnyH_take (i := 32) (v := ?_) rfl (by kernel_rfl) (by kernel_rfl) (by kernel_rfl) (fun _ _ _ h => h) (Or.inl ⟨by kernel_rfl, ?_⟩) hHeld ?_
          rotate_left
          · intro w' hS'
            clear hS'
            go_simp
            try with_reducible rfl
          refine wpAnyH_take (i := 33) (v := ?_) rfl (by kernel_rfl) (by kernel_rfl) (by kernel_rfl) (fun _ _ _ h => h) (Or.inl ⟨by kernel_rfl, ?_⟩) hHeld ?_
          rotate_left
          · intro w' hS'
            clear hS'
            go_simp
            try with_reducible rfl
          refine wpAnyH_take (i := 34) rfl (by kernel_rfl) (by kernel_rfl) (by kernel_rfl) (fun _ _ _ h => h) (Or.inr ⟨by kernel_rfl, rfl⟩) hHeld ?_
          refine wpAnyH_take (i := 35) rfl (by kernel_rfl) (by kernel_rfl) (by kernel_rfl) (fun _ _ _ h => h) (Or.inr ⟨by kernel_rfl, rfl⟩) hHeld ?_
          refine wpAnyH_take (i := 36) rfl (by kernel_rfl) (by kernel_rfl) (by kernel_rfl) (fun _ _ _ h => h) (Or.inr ⟨by kernel_rfl, rfl⟩) hHeld ?_
          refine wpAnyH_take (i := 37) rfl (by kernel_rfl) (by kernel_rfl) (by kernel_rfl) (fun _ _ _ h => h) (Or.inr ⟨by kernel_rfl, rfl⟩) hHeld ?_
          refine wpAnyH_take (i := 38) rfl (by kernel_rfl) (by kernel_rfl) (by kernel_rfl) (fun _ _ _ h => h) (Or.inr ⟨by kernel_rfl, rfl⟩) hHeld ?_
          refine wpAnyH_take (i := 39) rfl (by kernel_rfl) (by kernel_rfl) (by kernel_rfl) (fun _ _ _ h => h) (Or.inr ⟨by kernel_rfl, rfl⟩) hHeld ?_
          refine wpAnyH_take (i := 40) rfl (by kernel_rfl) (by kernel_rfl) (by kernel_rfl) (fun _ _ _ h => h) (Or.inr ⟨by kernel_rfl, rfl⟩) hHeld ?_
          refine wpAnyH_take (i := 41) rfl (by kernel_rfl) (by kernel_rfl) (by kernel_rfl) (fun _ _ _ h => h) (Or.inr ⟨by kernel_rfl, rfl⟩) hHeld ?_
          refine wpAnyH_take (i := 42) rfl (by kernel_rfl) (by kernel_rfl) (by kernel_rfl) (fun _ _ _ h => h) (Or.inr ⟨by kernel_rfl, rfl⟩) hHeld ?_
          refine wpAnyH_take (i := 43) rfl (by kernel_rfl) (by kernel_rfl) (by kernel_rfl) (fun _ _ _ h => h) (Or.inr ⟨by kernel_rfl, rfl⟩) hHeld ?_
          refine wpAnyH_take (i := 44) (v := ?_) rfl (by kernel_rfl) (by kernel_rfl) (by kernel_rfl) (fun _ _ _ h => h) (Or.inl ⟨by kernel_rfl, ?_⟩) hHeld ?_
          rotate_left
          · intro w' hS'
            clear hS'
            go_simp
            try with_reducible rfl
          refine wpAnyH_take (i := 45) (v := ?_) rfl (by kernel_rfl) (by kernel_rfl) (by kernel_rfl) (fun _ _ _ h => h) (Or.inl ⟨by kernel_rfl, ?_⟩) hHeld ?_
          rotate_left
          · intro w' hS'
            clear hS'
            go_simp
            try with_reducible rfl
          refine wpAnyH_take (i := 46) (v := ?_) rfl (by kernel_rfl) (by kernel_rfl) (by kernel_rfl) (fun _ _ _ h => h) (Or.inl ⟨by kernel_rfl, ?_⟩) hHeld ?_
          rotate_left
          · intro w' hS'
            clear hS'
            go_simp
            try with_reducible rfl
          refine wpAnyH_done (by kernel_rfl) ?_ _
          go_simp
          go_wp2_with fail
          go_ret
          exact ⟨rfl, hbel.trans (hB7.mono hbel.size)⟩
    ·
      obtain rfl := hno htt
      clear hlaw hnn hno
      have hbel := hS4.bel
      clear hS4 ha4 hb4
      go_wp2_with fail
      refine (alive_any _).mono ?_
      rintro e w5 ⟨rfl, hw5⟩
      go_wp2_with fail
      go_ret
      exact ⟨rfl, hbel.trans (hw5.mono hbel.size)⟩

end Go.Proofs.Ytpeifojfpkkcpaa
