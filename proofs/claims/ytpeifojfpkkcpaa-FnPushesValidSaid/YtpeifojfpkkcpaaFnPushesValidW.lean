/-
  YtpeifojfpkkcpaaFnPushesValidW: the walk of FnPushesValid.
-/
import Derived.Test.YtpeifojfpkkcpaaDl
import Derived.Test.YtpeifojfpkkcpaaLz
import Derived.Test.YtpeifojfpkkcpaaPwv
import Derived.BigRegion
import Derived.Deep.RegionHeld
namespace Go.Proofs.Ytpeifojfpkkcpaa
open Go.RowKit

set_option maxHeartbeats 20000000 in
set_option maxRecDepth 20000 in
theorem FnPushesValid_walk (w : World) (A : Option Addr) (n c : Nat) (zs : List Int) (hnc : n ≤ c) (hm : n ≤ maxLen) (_hl : zs.length = n) (hr : Reads w w.heap.size 1 A n (zs.map (Value.int .u8))) (hwz : ∀ z ∈ zs, (Lit.int .u8 z).wf = true) :
    Calls Try.prog 4 #[.slice A n c] w fun e w' => e = .returned (.bool true) ∧ Below w.heap.size w w' := by
  unfold maxLen at hm
  by_cases hb : 1048576 < n
  · go_enter Try.func4, Try.ntmps4
    go_wp2_with fail
    go_ret
    exact ⟨rfl, Below.refl _ _⟩
  · have hDR := hide (drawPushesValid_any A n c zs w hr hnc (by omega) hwz)
    clear hr hwz hm _hl
    go_enter Try.func4, Try.ntmps4
    go_wp2_with fail
    refine (unhide hDR).mono ?_
    rintro e w1 ⟨W, T, A2, c2, PA, pd, bs, ps, rfl, hreg, hp0, hpl, hcapp, hpz, hB1⟩
    clear hDR
    have hS2 := LS.start (W := W) (T := T) hB1 hreg
    have hp2 : LP w (w1.alloc (.cells #[.int .i64 W, .int .i64 T, .slice A2 bs.length c2] 25)) PA ps := (show LP w w1 PA ps from ⟨_, hp0⟩).below ((Below.refl _ _).alloc (Nat.le_refl _) _)
    clear hp0
    clear hreg hB1 
    go_upto_region 4 with fail
    generalize w1.alloc (.cells #[.int .i64 W, .int .i64 T, .slice A2 bs.length c2] 25) = w2 at *
    generalize w1.heap.size = x at *
    have hbs := hS2.len
    have hlaw1 := law_pv_tail (W := W) (T := T) (bs := bs) (ps := ps)
    have hlaw2 := law_pv_more (W := W) (T := T) (bs := bs) (ps := ps)
    have hlaw3 := law_pv_nil (W := W) (T := T) (bs := bs)
    obtain ⟨ok, hok⟩ : ∃ ok, pushesB W T bs ps = ok := ⟨_, rfl⟩
    obtain ⟨sb, hsb⟩ : ∃ sb, simpleB W T bs = sb := ⟨_, rfl⟩
    rw [hok] at hlaw1
    rw [hsb] at hlaw3
    have hoo : (ok != ok) = false := by simp
    have hC2 := PushesValidI_any W T A2 bs.length c2 w2.heap.size bs PA ps.length pd w2.heap.size ps w2 rfl hS2.rd (Nat.le_refl _) (by omega) rfl hp2.rd (Nat.le_refl _) (by omega)
    rw [hok] at hC2
    obtain ⟨x0, x1, x2⟩ := hS2.cells
    go_wp2_with fail
    refine hC2.mono ?_
    rintro e w3 ⟨rfl, hw3⟩
    have hS3 := hS2.below hw3
    have hp3 := hp2.below hw3
    clear hS2 hC2 hw3 hp2 x0 x1 x2
    have hC3 := PushesValidS_any W T A2 bs.length c2 w3.heap.size bs PA ps.length pd w3.heap.size ps w3 rfl hS3.rd (Nat.le_refl _) (by omega) rfl hp3.rd (Nat.le_refl _) (by omega)
    rw [hok] at hC3
    obtain ⟨x0, x1, x2⟩ := hS3.cells
    go_wp2_with fail
    refine hC3.mono ?_
    rintro e w4 ⟨rfl, hw4⟩
    have hS4 := hS3.below hw4
    have hp4 := hp3.below hw4
    clear hS3 hC3 hw4 hp3 x0 x1 x2
    clear hoo
    cases ok with
    | false =>
      go_upto_region 7 with fail
      have hd0 := (Below.refl w4.heap.size w4).drew
      have hbel := hS4.bel
      have hVV := fun (w' : World) (h : Below w4.heap.size w4 w') (P : Option Addr) (m d : Nat) (qs : List (Int × Bool)) (hm : qs.length = m) (hq : Reads w' w'.heap.size 2 P m (pc qs)) (hmm : m ≤ 99) => hide (PushesValidI_any W T A2 bs.length c2 w'.heap.size bs P m d w'.heap.size qs w' rfl (hS4.below h).rd (Nat.le_refl _) (by omega) hm hq (Nat.le_refl _) (by omega))
      have hSI := fun (w' : World) (h : Below w4.heap.size w4 w') => hide (SimpleI_any W T A2 bs.length c2 w'.heap.size bs w' (hS4.below h).rd (Nat.le_refl _) (by omega))
      simp only [hsb] at hSI
      have hVN := fun (w' : World) (h : Below w4.heap.size w4 w') => hVV w' h none 0 0 [] rfl ⟨rfl, fun h => absurd h (by omega)⟩ (by omega)
      simp only [hlaw3] at hVN
      refine wp_region_held_drew (S := (fun w' => w'.cell? ⟨x, 0, none⟩ = some (.int .i64 W) ∧ w'.cell? ⟨x, 1, none⟩ = some (.int .i64 T) ∧ w'.cell? ⟨x, 2, none⟩ = some (.slice A2 bs.length c2))) (by kernel_rfl) (hS4.below hd0).cells ?_
      intro hHeld
      generalize w4.drew = wd at *
      refine wpAnyH_take (i := 0) (v := ?_) rfl (by kernel_rfl) (by kernel_rfl) (by kernel_rfl) (fun _ _ _ h => h) (Or.inl ⟨by kernel_rfl, ?_⟩) hHeld ?_
      rotate_left
      · intro w' hS'
        clear hS'
        go_simp
        try with_reducible rfl
      refine wpAnyH_take (i := 1) (v := ?_) rfl (by kernel_rfl) (by kernel_rfl) (by kernel_rfl) (fun _ _ _ h => h) (Or.inl ⟨by kernel_rfl, ?_⟩) hHeld ?_
      rotate_left
      · intro w' hS'
        clear hS'
        go_simp
        try with_reducible rfl
      refine wpAnyH_take (i := 2) (v := ?_) rfl (by kernel_rfl) (by kernel_rfl) (by kernel_rfl) (fun _ _ _ h => h) (Or.inl ⟨by kernel_rfl, ?_⟩) hHeld ?_
      rotate_left
      · intro w' hS'
        clear hS'
        go_simp
        try with_reducible rfl
      refine wpAnyH_take (i := 3) rfl (by kernel_rfl) (by kernel_rfl) (by kernel_rfl) (fun _ _ _ h => h) (Or.inr ⟨by kernel_rfl, rfl⟩) hHeld ?_
      refine wpAnyH_take (i := 4) rfl (by kernel_rfl) (by kernel_rfl) (by kernel_rfl) (fun _ _ _ h => h) (Or.inr ⟨by kernel_rfl, rfl⟩) hHeld ?_
      refine wpAnyH_take (i := 5) rfl (by kernel_rfl) (by kernel_rfl) (by kernel_rfl) (fun _ _ _ h => h) (Or.inr ⟨by kernel_rfl, rfl⟩) hHeld ?_
      refine wpAnyH_take (i := 6) (v := ?_) rfl (by kernel_rfl) (by kernel_rfl) (by kernel_rfl) (fun _ _ _ h => h) (Or.inl ⟨by kernel_rfl, ?_⟩) hHeld ?_
      rotate_left
      · intro w' hS'
        clear hS'
        go_simp
        try with_reducible rfl
      refine wpAnyH_take (i := 7) (v := ?_) rfl (by kernel_rfl) (by kernel_rfl) (by kernel_rfl) (fun _ _ _ h => h) (Or.inl ⟨by kernel_rfl, ?_⟩) hHeld ?_
      rotate_left
      · intro w' hS'
        clear hS'
        go_simp
        try with_reducible rfl
      refine wpAnyH_take (i := 8) rfl (by kernel_rfl) (by kernel_rfl) (by kernel_rfl) (fun _ _ _ h => h) (Or.inr ⟨by kernel_rfl, rfl⟩) hHeld ?_
      refine wpAnyH_take (i := 9) rfl (by kernel_rfl) (by kernel_rfl) (by kernel_rfl) (fun _ _ _ h => h) (Or.inr ⟨by kernel_rfl, rfl⟩) hHeld ?_
      refine wpAnyH_take (i := 10) rfl (by kernel_rfl) (by kernel_rfl) (by kernel_rfl) (fun _ _ _ h => h) (Or.inr ⟨by kernel_rfl, rfl⟩) hHeld ?_
      refine wpAnyH_take (i := 11) rfl (by kernel_rfl) (by kernel_rfl) (by kernel_rfl) (fun _ _ _ h => h) (Or.inr ⟨by kernel_rfl, rfl⟩) hHeld ?_
      refine wpAnyH_take (i := 12) (v := ?_) rfl (by kernel_rfl) (by kernel_rfl) (by kernel_rfl) (fun _ _ _ h => h) (Or.inl ⟨by kernel_rfl, ?_⟩) hHeld ?_
      rotate_left
      · intro w' hS'
        clear hS'
        go_simp
        try with_reducible rfl
      refine wpAnyH_take (i := 13) (v := ?_) rfl (by kernel_rfl) (by kernel_rfl) (by kernel_rfl) (fun _ _ _ h => h) (Or.inl ⟨by kernel_rfl, ?_⟩) hHeld ?_
      rotate_left
      · intro w' hS'
        clear hS'
        go_simp
        try with_reducible rfl
      refine wpAnyH_take (i := 14) (v := ?_) rfl (by kernel_rfl) (by kernel_rfl) (by kernel_rfl) (fun _ _ _ h => h) (Or.inl ⟨by kernel_rfl, ?_⟩) hHeld ?_
      rotate_left
      · intro w' hS'
        obtain ⟨x0, x1, x2⟩ := hS'
        go_simp
        try with_reducible rfl
      refine wpAnyH_take (i := 16) (v := ?_) rfl (by kernel_rfl) (by kernel_rfl) (by kernel_rfl) (fun _ _ _ h => h) (Or.inl ⟨by kernel_rfl, ?_⟩) hHeld ?_
      rotate_left
      · intro w' hS'
        clear hS'
        go_simp
        try with_reducible rfl
      refine wpAnyH_take (i := 18) (v := ?_) rfl (by kernel_rfl) (by kernel_rfl) (by kernel_rfl) (fun _ _ _ h => h) (Or.inl ⟨by kernel_rfl, ?_⟩) hHeld ?_
      rotate_left
      · intro w' hS'
        clear hS'
        go_simp
        try with_reducible rfl
      refine wpAnyH_ready (rs := [15, 19]) (by kernel_rfl) (by simp) ?_
      refine AllReadyH.cons rfl (fun K hK => ?_) (AllReadyH.cons rfl (fun K hK => ?_) AllReadyH.nil)
      · go_simp
        have hB5 := hd0.alloc hd0.size (.cells #[] 40)
        have o5 : (wd.alloc (.cells #[] 40)).ownsRow w4.heap.size 40 2 (.slice (some ⟨wd.heap.size, 0, none⟩) 0 0) 0 (pc []) := by
          have := World.ownsRow_made (base := w4.heap.size) (e := 40) (size := 2) wd #[] 0 (hd0.size) (by simp [maxLen]) (by simp)
          simpa [pc] using this
        obtain ⟨g15, hg15⟩ : ∃ g15, wd.heap.size = g15 := ⟨_, rfl⟩
        have hl15 : w4.heap.size ≤ g15 := by rw [← hg15]; exact hd0.size
        simp only [hg15] at o5 ⊢
        generalize wd.alloc (.cells #[] 40) = w5 at *
        refine hK.out _ _ ?_ ?_
        · exact (hS4.below hB5).cells
        clear hHeld
        intro hHeld
        clear hK K
        refine wpAnyH_ready (rs := [17, 19]) (by kernel_rfl) (by simp) ?_
        refine AllReadyH.cons rfl (fun K hK => ?_) (AllReadyH.cons rfl (fun K hK => ?_) AllReadyH.nil)
        · refine step_appN_ps (by rfl) _ _ _ rfl w4.heap.size Try.underlying35 g15 rfl o5 _ _ _ ps rfl (hp4.below hB5).rd (by omega) hB5.size ?_
          intro A17 c17 w6 o6 hgr6
          have hB6 := hB5.grown hgr6 hB5.size (fun k hk => by simp at hk; omega)
          refine hK.out _ _ ?_ ?_
          · exact (hS4.below hB6).cells
          clear hHeld
          intro hHeld
          clear hK K
          refine wpAnyH_ready (rs := [19]) (by kernel_rfl) (by simp) ?_
          refine AllReadyH.cons rfl (fun K hK => ?_) AllReadyH.nil
          go_simp
          have hB7 := hB6.alloc hB6.size (.cells #[.int .i64 (-1), .bool false] 40)
          have b7 := Blk.new w6 40 #[.int .i64 (-1), .bool false]
          have o7 := o6.alloc (.cells #[.int .i64 (-1), .bool false] 40)
          obtain ⟨g19, hg19⟩ : ∃ g19, w6.heap.size = g19 := ⟨_, rfl⟩
          have hl19 : w4.heap.size ≤ g19 := by rw [← hg19]; exact hB6.size
          simp only [hg19] at b7 ⊢
          generalize w6.alloc (.cells #[.int .i64 (-1), .bool false] 40) = w7 at *
          refine hK.out _ _ ?_ ?_
          · exact (hS4.below hB7).cells
          clear hHeld
          intro hHeld
          clear hK K
          refine wpAnyH_ready (rs := [20]) (by kernel_rfl) (by simp) ?_
          refine AllReadyH.cons rfl (fun K hK => ?_) AllReadyH.nil
          refine step_app_ps (by rfl) _ _ _ rfl w4.heap.size Try.underlying35 A17 c17 ps rfl o7 g19 (-1) false rfl b7 (by omega) hB7.size ?_
          intro A20 c20 w8 o8 hgr8
          have hB8 := hB7.grown hgr8 hB7.size (fun k hk => own_block_ge o7 hk)
          have hV20 := hVV w8 hB8 A20 (ps.length + 1) c20 (ps ++ [(-1, false)]) (by simp) (Reads.of_own o8) (by omega)
          rw [hlaw2] at hV20
          refine hK.out _ _ ?_ ?_
          · exact (hS4.below hB8).cells
          clear hHeld
          intro hHeld
          clear hK K
          refine wpAnyH_ready (rs := [21]) (by kernel_rfl) (by simp) ?_
          refine AllReadyH.cons rfl (fun K hK => ?_) AllReadyH.nil
          go_simp
          go_at_call 23
          (with_reducible refine (unhide (hV20)).mono ?_)
          rintro e w9 ⟨rfl, hb9⟩
          have hB9 := hB8.trans (hb9.mono hB8.size)
          refine hK.out _ _ ?_ ?_
          · exact (hS4.below hB9).cells
          clear hHeld
          intro hHeld
          clear hK K
          refine wpAnyH_take (i := 22) (v := ?_) rfl (by kernel_rfl) (by kernel_rfl) (by kernel_rfl) (fun _ _ _ h => h) (Or.inl ⟨by kernel_rfl, ?_⟩) hHeld ?_
          rotate_left
          · intro w' hS'
            clear hS'
            go_simp
            try with_reducible rfl
          refine wpAnyH_take (i := 23) (v := ?_) rfl (by kernel_rfl) (by kernel_rfl) (by kernel_rfl) (fun _ _ _ h => h) (Or.inl ⟨by kernel_rfl, ?_⟩) hHeld ?_
          rotate_left
          · intro w' hS'
            clear hS'
            go_simp
            try with_reducible rfl
          refine wpAnyH_take (i := 24) (v := ?_) rfl (by kernel_rfl) (by kernel_rfl) (by kernel_rfl) (fun _ _ _ h => h) (Or.inl ⟨by kernel_rfl, ?_⟩) hHeld ?_
          rotate_left
          · intro w' hS'
            clear hS'
            go_simp
            try with_reducible rfl
          refine wpAnyH_take (i := 25) (v := ?_) rfl (by kernel_rfl) (by kernel_rfl) (by kernel_rfl) (fun _ _ _ h => h) (Or.inl ⟨by kernel_rfl, ?_⟩) hHeld ?_
          rotate_left
          · intro w' hS'
            obtain ⟨x0, x1, x2⟩ := hS'
            go_simp
            try with_reducible rfl
          refine wpAnyH_take (i := 27) (v := ?_) rfl (by kernel_rfl) (by kernel_rfl) (by kernel_rfl) (fun _ _ _ h => h) (Or.inl ⟨by kernel_rfl, ?_⟩) hHeld ?_
          rotate_left
          · intro w' hS'
            obtain ⟨x0, x1, x2⟩ := hS'
            go_simp
            try with_reducible rfl
          refine wpAnyH_ready (rs := [26]) (by kernel_rfl) (by simp) ?_
          refine AllReadyH.cons rfl (fun K hK => ?_) AllReadyH.nil
          go_simp
          go_at_call 23
          (with_reducible refine (unhide (hVN w9 hB9)).mono ?_)
          rintro e w10 ⟨rfl, hb10⟩
          have hB10 := hB9.trans (hb10.mono hB9.size)
          refine hK.out _ _ ?_ ?_
          · exact (hS4.below hB10).cells
          clear hHeld
          intro hHeld
          clear hK K
          refine wpAnyH_ready (rs := [28]) (by kernel_rfl) (by simp) ?_
          refine AllReadyH.cons rfl (fun K hK => ?_) AllReadyH.nil
          go_simp
          go_at_call 25
          (with_reducible refine (unhide (hSI w10 hB10)).mono ?_)
          rintro e w11 ⟨rfl, hb11⟩
          have hB11 := hB10.trans (hb11.mono hB10.size)
          refine hK.out _ _ ?_ ?_
          · exact (hS4.below hB11).cells
          clear hHeld
          intro hHeld
          clear hK K
          refine wpAnyH_take (i := 29) (v := ?_) rfl (by kernel_rfl) (by kernel_rfl) (by kernel_rfl) (fun _ _ _ h => h) (Or.inl ⟨by kernel_rfl, ?_⟩) hHeld ?_
          rotate_left
          · intro w' hS'
            clear hS'
            go_simp
            try with_reducible rfl
          refine wpAnyH_take (i := 30) (v := ?_) rfl (by kernel_rfl) (by kernel_rfl) (by kernel_rfl) (fun _ _ _ h => h) (Or.inl ⟨by kernel_rfl, ?_⟩) hHeld ?_
          rotate_left
          · intro w' hS'
            clear hS'
            go_simp
            try with_reducible rfl
          refine wpAnyH_take (i := 31) (v := ?_) rfl (by kernel_rfl) (by kernel_rfl) (by kernel_rfl) (fun _ _ _ h => h) (Or.inl ⟨by kernel_rfl, ?_⟩) hHeld ?_
          rotate_left
          · intro w' hS'
            clear hS'
            go_simp
            try with_reducible rfl
          refine wpAnyH_ready (rs := [32]) (by kernel_rfl) (by simp) ?_
          refine AllReadyH.cons rfl (fun K hK => ?_) AllReadyH.nil
          go_simp
          go_at_call 19
          (with_reducible refine (unhide (hide (alive_any w11))).mono ?_)
          rintro e w12 ⟨rfl, hb12⟩
          have hB12 := hB11.trans (hb12.mono hB11.size)
          refine hK.out _ _ ?_ ?_
          · exact (hS4.below hB12).cells
          clear hHeld
          intro hHeld
          clear hK K
          refine wpAnyH_take (i := 33) (v := ?_) rfl (by kernel_rfl) (by kernel_rfl) (by kernel_rfl) (fun _ _ _ h => h) (Or.inl ⟨by kernel_rfl, ?_⟩) hHeld ?_
          rotate_left
          · intro w' hS'
            clear hS'
            go_simp
            try with_reducible rfl
          refine wpAnyH_take (i := 34) (v := ?_) rfl (by kernel_rfl) (by kernel_rfl) (by kernel_rfl) (fun _ _ _ h => h) (Or.inl ⟨by kernel_rfl, ?_⟩) hHeld ?_
          rotate_left
          · intro w' hS'
            clear hS'
            go_simp
            try with_reducible rfl
          refine wpAnyH_done (by kernel_rfl) ?_ _
          go_simp
          go_wp2_with fail
          go_ret
          exact ⟨rfl, hbel.trans (hB12.mono hbel.size)⟩
        · go_simp
          have hB6 := hB5.alloc hB5.size (.cells #[.int .i64 (-1), .bool false] 40)
          have b6 := Blk.new w5 40 #[.int .i64 (-1), .bool false]
          have o6 := o5.alloc (.cells #[.int .i64 (-1), .bool false] 40)
          obtain ⟨g19, hg19⟩ : ∃ g19, w5.heap.size = g19 := ⟨_, rfl⟩
          have hl19 : w4.heap.size ≤ g19 := by rw [← hg19]; exact hB5.size
          simp only [hg19] at b6 ⊢
          have hne : g15 < g19 := by rw [← hg19]; exact (own_lt o5 rfl).2
          generalize w5.alloc (.cells #[.int .i64 (-1), .bool false] 40) = w6 at *
          refine hK.out _ _ ?_ ?_
          · exact (hS4.below hB6).cells
          clear hHeld
          intro hHeld
          clear hK K
          refine wpAnyH_ready (rs := [17]) (by kernel_rfl) (by simp) ?_
          refine AllReadyH.cons rfl (fun K hK => ?_) AllReadyH.nil
          refine step_appN_ps (by rfl) _ _ _ rfl w4.heap.size Try.underlying35 g15 rfl o6 _ _ _ ps rfl (hp4.below hB6).rd (by omega) hB6.size ?_
          intro A17 c17 w7 o7 hgr7
          have hB7 := hB6.grown hgr7 hB6.size (fun k hk => by simp at hk; omega)
          have b7 := b6.grown hgr7 (by simp; omega)
          refine hK.out _ _ ?_ ?_
          · exact (hS4.below hB7).cells
          clear hHeld
          intro hHeld
          clear hK K
          refine wpAnyH_ready (rs := [20]) (by kernel_rfl) (by simp) ?_
          refine AllReadyH.cons rfl (fun K hK => ?_) AllReadyH.nil
          refine step_app_ps (by rfl) _ _ _ rfl w4.heap.size Try.underlying35 A17 c17 ps rfl o7 g19 (-1) false rfl b7 (by omega) hB7.size ?_
          intro A20 c20 w8 o8 hgr8
          have hB8 := hB7.grown hgr8 hB7.size (fun k hk => own_block_ge o7 hk)
          have hV20 := hVV w8 hB8 A20 (ps.length + 1) c20 (ps ++ [(-1, false)]) (by simp) (Reads.of_own o8) (by omega)
          rw [hlaw2] at hV20
          refine hK.out _ _ ?_ ?_
          · exact (hS4.below hB8).cells
          clear hHeld
          intro hHeld
          clear hK K
          refine wpAnyH_ready (rs := [21]) (by kernel_rfl) (by simp) ?_
          refine AllReadyH.cons rfl (fun K hK => ?_) AllReadyH.nil
          go_simp
          go_at_call 23
          (with_reducible refine (unhide (hV20)).mono ?_)
          rintro e w9 ⟨rfl, hb9⟩
          have hB9 := hB8.trans (hb9.mono hB8.size)
          refine hK.out _ _ ?_ ?_
          · exact (hS4.below hB9).cells
          clear hHeld
          intro hHeld
          clear hK K
          refine wpAnyH_take (i := 22) (v := ?_) rfl (by kernel_rfl) (by kernel_rfl) (by kernel_rfl) (fun _ _ _ h => h) (Or.inl ⟨by kernel_rfl, ?_⟩) hHeld ?_
          rotate_left
          · intro w' hS'
            clear hS'
            go_simp
            try with_reducible rfl
          refine wpAnyH_take (i := 23) (v := ?_) rfl (by kernel_rfl) (by kernel_rfl) (by kernel_rfl) (fun _ _ _ h => h) (Or.inl ⟨by kernel_rfl, ?_⟩) hHeld ?_
          rotate_left
          · intro w' hS'
            clear hS'
            go_simp
            try with_reducible rfl
          refine wpAnyH_take (i := 24) (v := ?_) rfl (by kernel_rfl) (by kernel_rfl) (by kernel_rfl) (fun _ _ _ h => h) (Or.inl ⟨by kernel_rfl, ?_⟩) hHeld ?_
          rotate_left
          · intro w' hS'
            clear hS'
            go_simp
            try with_reducible rfl
          refine wpAnyH_take (i := 25) (v := ?_) rfl (by kernel_rfl) (by kernel_rfl) (by kernel_rfl) (fun _ _ _ h => h) (Or.inl ⟨by kernel_rfl, ?_⟩) hHeld ?_
          rotate_left
          · intro w' hS'
            obtain ⟨x0, x1, x2⟩ := hS'
            go_simp
            try with_reducible rfl
          refine wpAnyH_take (i := 27) (v := ?_) rfl (by kernel_rfl) (by kernel_rfl) (by kernel_rfl) (fun _ _ _ h => h) (Or.inl ⟨by kernel_rfl, ?_⟩) hHeld ?_
          rotate_left
          · intro w' hS'
            obtain ⟨x0, x1, x2⟩ := hS'
            go_simp
            try with_reducible rfl
          refine wpAnyH_ready (rs := [26]) (by kernel_rfl) (by simp) ?_
          refine AllReadyH.cons rfl (fun K hK => ?_) AllReadyH.nil
          go_simp
          go_at_call 23
          (with_reducible refine (unhide (hVN w9 hB9)).mono ?_)
          rintro e w10 ⟨rfl, hb10⟩
          have hB10 := hB9.trans (hb10.mono hB9.size)
          refine hK.out _ _ ?_ ?_
          · exact (hS4.below hB10).cells
          clear hHeld
          intro hHeld
          clear hK K
          refine wpAnyH_ready (rs := [28]) (by kernel_rfl) (by simp) ?_
          refine AllReadyH.cons rfl (fun K hK => ?_) AllReadyH.nil
          go_simp
          go_at_call 25
          (with_reducible refine (unhide (hSI w10 hB10)).mono ?_)
          rintro e w11 ⟨rfl, hb11⟩
          have hB11 := hB10.trans (hb11.mono hB10.size)
          refine hK.out _ _ ?_ ?_
          · exact (hS4.below hB11).cells
          clear hHeld
          intro hHeld
          clear hK K
          refine wpAnyH_take (i := 29) (v := ?_) rfl (by kernel_rfl) (by kernel_rfl) (by kernel_rfl) (fun _ _ _ h => h) (Or.inl ⟨by kernel_rfl, ?_⟩) hHeld ?_
          rotate_left
          · intro w' hS'
            clear hS'
            go_simp
            try with_reducible rfl
          refine wpAnyH_take (i := 30) (v := ?_) rfl (by kernel_rfl) (by kernel_rfl) (by kernel_rfl) (fun _ _ _ h => h) (Or.inl ⟨by kernel_rfl, ?_⟩) hHeld ?_
          rotate_left
          · intro w' hS'
            clear hS'
            go_simp
            try with_reducible rfl
          refine wpAnyH_take (i := 31) (v := ?_) rfl (by kernel_rfl) (by kernel_rfl) (by kernel_rfl) (fun _ _ _ h => h) (Or.inl ⟨by kernel_rfl, ?_⟩) hHeld ?_
          rotate_left
          · intro w' hS'
            clear hS'
            go_simp
            try with_reducible rfl
          refine wpAnyH_ready (rs := [32]) (by kernel_rfl) (by simp) ?_
          refine AllReadyH.cons rfl (fun K hK => ?_) AllReadyH.nil
          go_simp
          go_at_call 19
          (with_reducible refine (unhide (hide (alive_any w11))).mono ?_)
          rintro e w12 ⟨rfl, hb12⟩
          have hB12 := hB11.trans (hb12.mono hB11.size)
          refine hK.out _ _ ?_ ?_
          · exact (hS4.below hB12).cells
          clear hHeld
          intro hHeld
          clear hK K
          refine wpAnyH_take (i := 33) (v := ?_) rfl (by kernel_rfl) (by kernel_rfl) (by kernel_rfl) (fun _ _ _ h => h) (Or.inl ⟨by kernel_rfl, ?_⟩) hHeld ?_
          rotate_left
          · intro w' hS'
            clear hS'
            go_simp
            try with_reducible rfl
          refine wpAnyH_take (i := 34) (v := ?_) rfl (by kernel_rfl) (by kernel_rfl) (by kernel_rfl) (fun _ _ _ h => h) (Or.inl ⟨by kernel_rfl, ?_⟩) hHeld ?_
          rotate_left
          · intro w' hS'
            clear hS'
            go_simp
            try with_reducible rfl
          refine wpAnyH_done (by kernel_rfl) ?_ _
          go_simp
          go_wp2_with fail
          go_ret
          exact ⟨rfl, hbel.trans (hB12.mono hbel.size)⟩
      · go_simp
        have hB5 := hd0.alloc hd0.size (.cells #[.int .i64 (-1), .bool false] 40)
        have b5 := Blk.new wd 40 #[.int .i64 (-1), .bool false]
        obtain ⟨g19, hg19⟩ : ∃ g19, wd.heap.size = g19 := ⟨_, rfl⟩
        have hl19 : w4.heap.size ≤ g19 := by rw [← hg19]; exact hd0.size
        simp only [hg19] at b5 ⊢
        generalize wd.alloc (.cells #[.int .i64 (-1), .bool false] 40) = w5 at *
        refine hK.out _ _ ?_ ?_
        · exact (hS4.below hB5).cells
        clear hHeld
        intro hHeld
        clear hK K
        refine wpAnyH_ready (rs := [15]) (by kernel_rfl) (by simp) ?_
        refine AllReadyH.cons rfl (fun K hK => ?_) AllReadyH.nil
        go_simp
        have hB6 := hB5.alloc hB5.size (.cells #[] 40)
        have o6 : (w5.alloc (.cells #[] 40)).ownsRow w4.heap.size 40 2 (.slice (some ⟨w5.heap.size, 0, none⟩) 0 0) 0 (pc []) := by
          have := World.ownsRow_made (base := w4.heap.size) (e := 40) (size := 2) w5 #[] 0 (hB5.size) (by simp [maxLen]) (by simp)
          simpa [pc] using this
        have b6 := b5.alloc (.cells #[] 40)
        obtain ⟨g15, hg15⟩ : ∃ g15, w5.heap.size = g15 := ⟨_, rfl⟩
        have hl15 : w4.heap.size ≤ g15 := by rw [← hg15]; exact hB5.size
        simp only [hg15] at o6 ⊢
        have hne : g19 < g15 := by rw [← hg15]; exact b5.lt
        generalize w5.alloc (.cells #[] 40) = w6 at *
        refine hK.out _ _ ?_ ?_
        · exact (hS4.below hB6).cells
        clear hHeld
        intro hHeld
        clear hK K
        refine wpAnyH_ready (rs := [17]) (by kernel_rfl) (by simp) ?_
        refine AllReadyH.cons rfl (fun K hK => ?_) AllReadyH.nil
        refine step_appN_ps (by rfl) _ _ _ rfl w4.heap.size Try.underlying35 g15 rfl o6 _ _ _ ps rfl (hp4.below hB6).rd (by omega) hB6.size ?_
        intro A17 c17 w7 o7 hgr7
        have hB7 := hB6.grown hgr7 hB6.size (fun k hk => by simp at hk; omega)
        have b7 := b6.grown hgr7 (by simp; omega)
        refine hK.out _ _ ?_ ?_
        · exact (hS4.below hB7).cells
        clear hHeld
        intro hHeld
        clear hK K
        refine wpAnyH_ready (rs := [20]) (by kernel_rfl) (by simp) ?_
        refine AllReadyH.cons rfl (fun K hK => ?_) AllReadyH.nil
        refine step_app_ps (by rfl) _ _ _ rfl w4.heap.size Try.underlying35 A17 c17 ps rfl o7 g19 (-1) false rfl b7 (by omega) hB7.size ?_
        intro A20 c20 w8 o8 hgr8
        have hB8 := hB7.grown hgr8 hB7.size (fun k hk => own_block_ge o7 hk)
        have hV20 := hVV w8 hB8 A20 (ps.length + 1) c20 (ps ++ [(-1, false)]) (by simp) (Reads.of_own o8) (by omega)
        rw [hlaw2] at hV20
        refine hK.out _ _ ?_ ?_
        · exact (hS4.below hB8).cells
        clear hHeld
        intro hHeld
        clear hK K
        refine wpAnyH_ready (rs := [21]) (by kernel_rfl) (by simp) ?_
        refine AllReadyH.cons rfl (fun K hK => ?_) AllReadyH.nil
        go_simp
        go_at_call 23
        (with_reducible refine (unhide (hV20)).mono ?_)
        rintro e w9 ⟨rfl, hb9⟩
        have hB9 := hB8.trans (hb9.mono hB8.size)
        refine hK.out _ _ ?_ ?_
        · exact (hS4.below hB9).cells
        clear hHeld
        intro hHeld
        clear hK K
        refine wpAnyH_take (i := 22) (v := ?_) rfl (by kernel_rfl) (by kernel_rfl) (by kernel_rfl) (fun _ _ _ h => h) (Or.inl ⟨by kernel_rfl, ?_⟩) hHeld ?_
        rotate_left
        · intro w' hS'
          clear hS'
          go_simp
          try with_reducible rfl
        refine wpAnyH_take (i := 23) (v := ?_) rfl (by kernel_rfl) (by kernel_rfl) (by kernel_rfl) (fun _ _ _ h => h) (Or.inl ⟨by kernel_rfl, ?_⟩) hHeld ?_
        rotate_left
        · intro w' hS'
          clear hS'
          go_simp
          try with_reducible rfl
        refine wpAnyH_take (i := 24) (v := ?_) rfl (by kernel_rfl) (by kernel_rfl) (by kernel_rfl) (fun _ _ _ h => h) (Or.inl ⟨by kernel_rfl, ?_⟩) hHeld ?_
        rotate_left
        · intro w' hS'
          clear hS'
          go_simp
          try with_reducible rfl
        refine wpAnyH_take (i := 25) (v := ?_) rfl (by kernel_rfl) (by kernel_rfl) (by kernel_rfl) (fun _ _ _ h => h) (Or.inl ⟨by kernel_rfl, ?_⟩) hHeld ?_
        rotate_left
        · intro w' hS'
          obtain ⟨x0, x1, x2⟩ := hS'
          go_simp
          try with_reducible rfl
        refine wpAnyH_take (i := 27) (v := ?_) rfl (by kernel_rfl) (by kernel_rfl) (by kernel_rfl) (fun _ _ _ h => h) (Or.inl ⟨by kernel_rfl, ?_⟩) hHeld ?_
        rotate_left
        · intro w' hS'
          obtain ⟨x0, x1, x2⟩ := hS'
          go_simp
          try with_reducible rfl
        refine wpAnyH_ready (rs := [26]) (by kernel_rfl) (by simp) ?_
        refine AllReadyH.cons rfl (fun K hK => ?_) AllReadyH.nil
        go_simp
        go_at_call 23
        (with_reducible refine (unhide (hVN w9 hB9)).mono ?_)
        rintro e w10 ⟨rfl, hb10⟩
        have hB10 := hB9.trans (hb10.mono hB9.size)
        refine hK.out _ _ ?_ ?_
        · exact (hS4.below hB10).cells
        clear hHeld
        intro hHeld
        clear hK K
        refine wpAnyH_ready (rs := [28]) (by kernel_rfl) (by simp) ?_
        refine AllReadyH.cons rfl (fun K hK => ?_) AllReadyH.nil
        go_simp
        go_at_call 25
        (with_reducible refine (unhide (hSI w10 hB10)).mono ?_)
        rintro e w11 ⟨rfl, hb11⟩
        have hB11 := hB10.trans (hb11.mono hB10.size)
        refine hK.out _ _ ?_ ?_
        · exact (hS4.below hB11).cells
        clear hHeld
        intro hHeld
        clear hK K
        refine wpAnyH_take (i := 29) (v := ?_) rfl (by kernel_rfl) (by kernel_rfl) (by kernel_rfl) (fun _ _ _ h => h) (Or.inl ⟨by kernel_rfl, ?_⟩) hHeld ?_
        rotate_left
        · intro w' hS'
          clear hS'
          go_simp
          try with_reducible rfl
        refine wpAnyH_take (i := 30) (v := ?_) rfl (by kernel_rfl) (by kernel_rfl) (by kernel_rfl) (fun _ _ _ h => h) (Or.inl ⟨by kernel_rfl, ?_⟩) hHeld ?_
        rotate_left
        · intro w' hS'
          clear hS'
          go_simp
          try with_reducible rfl
        refine wpAnyH_take (i := 31) (v := ?_) rfl (by kernel_rfl) (by kernel_rfl) (by kernel_rfl) (fun _ _ _ h => h) (Or.inl ⟨by kernel_rfl, ?_⟩) hHeld ?_
        rotate_left
        · intro w' hS'
          clear hS'
          go_simp
          try with_reducible rfl
        refine wpAnyH_ready (rs := [32]) (by kernel_rfl) (by simp) ?_
        refine AllReadyH.cons rfl (fun K hK => ?_) AllReadyH.nil
        go_simp
        go_at_call 19
        (with_reducible refine (unhide (hide (alive_any w11))).mono ?_)
        rintro e w12 ⟨rfl, hb12⟩
        have hB12 := hB11.trans (hb12.mono hB11.size)
        refine hK.out _ _ ?_ ?_
        · exact (hS4.below hB12).cells
        clear hHeld
        intro hHeld
        clear hK K
        refine wpAnyH_take (i := 33) (v := ?_) rfl (by kernel_rfl) (by kernel_rfl) (by kernel_rfl) (fun _ _ _ h => h) (Or.inl ⟨by kernel_rfl, ?_⟩) hHeld ?_
        rotate_left
        · intro w' hS'
          clear hS'
          go_simp
          try with_reducible rfl
        refine wpAnyH_take (i := 34) (v := ?_) rfl (by kernel_rfl) (by kernel_rfl) (by kernel_rfl) (fun _ _ _ h => h) (Or.inl ⟨by kernel_rfl, ?_⟩) hHeld ?_
        rotate_left
        · intro w' hS'
          clear hS'
          go_simp
          try with_reducible rfl
        refine wpAnyH_done (by kernel_rfl) ?_ _
        go_simp
        go_wp2_with fail
        go_ret
        exact ⟨rfl, hbel.trans (hB12.mono hbel.size)⟩
    | true =>
      by_cases h0 : ps.length = 0
      ·
        have h0d : ((ps.length : Int) == 0) = true := by rw [h0]; rfl
        clear h0
        go_upto_region 7 with fail
        have hd0 := (Below.refl w4.heap.size w4).drew
        have hbel := hS4.bel
        have hVV := fun (w' : World) (h : Below w4.heap.size w4 w') (P : Option Addr) (m d : Nat) (qs : List (Int × Bool)) (hm : qs.length = m) (hq : Reads w' w'.heap.size 2 P m (pc qs)) (hmm : m ≤ 99) => hide (PushesValidI_any W T A2 bs.length c2 w'.heap.size bs P m d w'.heap.size qs w' rfl (hS4.below h).rd (Nat.le_refl _) (by omega) hm hq (Nat.le_refl _) (by omega))
        have hSI := fun (w' : World) (h : Below w4.heap.size w4 w') => hide (SimpleI_any W T A2 bs.length c2 w'.heap.size bs w' (hS4.below h).rd (Nat.le_refl _) (by omega))
        simp only [hsb] at hSI
        have hVN := fun (w' : World) (h : Below w4.heap.size w4 w') => hVV w' h none 0 0 [] rfl ⟨rfl, fun h => absurd h (by omega)⟩ (by omega)
        simp only [hlaw3] at hVN
        refine wp_region_held_drew (S := (fun w' => w'.cell? ⟨x, 0, none⟩ = some (.int .i64 W) ∧ w'.cell? ⟨x, 1, none⟩ = some (.int .i64 T) ∧ w'.cell? ⟨x, 2, none⟩ = some (.slice A2 bs.length c2))) (by kernel_rfl) (hS4.below hd0).cells ?_
        intro hHeld
        generalize w4.drew = wd at *
        refine wpAnyH_take (i := 0) (v := ?_) rfl (by kernel_rfl) (by kernel_rfl) (by kernel_rfl) (fun _ _ _ h => h) (Or.inl ⟨by kernel_rfl, ?_⟩) hHeld ?_
        rotate_left
        · intro w' hS'
          clear hS'
          go_simp
          try with_reducible rfl
        refine wpAnyH_take (i := 1) (v := ?_) rfl (by kernel_rfl) (by kernel_rfl) (by kernel_rfl) (fun _ _ _ h => h) (Or.inl ⟨by kernel_rfl, ?_⟩) hHeld ?_
        rotate_left
        · intro w' hS'
          clear hS'
          go_simp
          try with_reducible rfl
        refine wpAnyH_take (i := 2) (v := ?_) rfl (by kernel_rfl) (by kernel_rfl) (by kernel_rfl) (fun _ _ _ h => h) (Or.inl ⟨by kernel_rfl, ?_⟩) hHeld ?_
        rotate_left
        · intro w' hS'
          clear hS'
          go_simp
          try with_reducible rfl
        refine wpAnyH_take (i := 3) (v := ?_) rfl (by kernel_rfl) (by kernel_rfl) (by kernel_rfl) (fun _ _ _ h => h) (Or.inl ⟨by kernel_rfl, ?_⟩) hHeld ?_
        rotate_left
        · intro w' hS'
          clear hS'
          go_simp
          try with_reducible rfl
        refine wpAnyH_take (i := 4) (v := ?_) rfl (by kernel_rfl) (by kernel_rfl) (by kernel_rfl) (fun _ _ _ h => h) (Or.inl ⟨by kernel_rfl, ?_⟩) hHeld ?_
        rotate_left
        · intro w' hS'
          clear hS'
          go_simp
          try with_reducible rfl
        refine wpAnyH_take (i := 5) (v := ?_) rfl (by kernel_rfl) (by kernel_rfl) (by kernel_rfl) (fun _ _ _ h => h) (Or.inl ⟨by kernel_rfl, ?_⟩) hHeld ?_
        rotate_left
        · intro w' hS'
          clear hS'
          go_simp
          try with_reducible rfl
        refine wpAnyH_take (i := 6) (v := ?_) rfl (by kernel_rfl) (by kernel_rfl) (by kernel_rfl) (fun _ _ _ h => h) (Or.inl ⟨by kernel_rfl, ?_⟩) hHeld ?_
        rotate_left
        · intro w' hS'
          clear hS'
          go_simp
          try with_reducible rfl
        refine wpAnyH_take (i := 7) (v := ?_) rfl (by kernel_rfl) (by kernel_rfl) (by kernel_rfl) (fun _ _ _ h => h) (Or.inl ⟨by kernel_rfl, ?_⟩) hHeld ?_
        rotate_left
        · intro w' hS'
          clear hS'
          go_simp
          try with_reducible rfl
        refine wpAnyH_take (i := 8) rfl (by kernel_rfl) (by kernel_rfl) (by kernel_rfl) (fun _ _ _ h => h) (Or.inr ⟨by kernel_rfl, rfl⟩) hHeld ?_
        refine wpAnyH_take (i := 9) rfl (by kernel_rfl) (by kernel_rfl) (by kernel_rfl) (fun _ _ _ h => h) (Or.inr ⟨by kernel_rfl, rfl⟩) hHeld ?_
        refine wpAnyH_take (i := 10) rfl (by kernel_rfl) (by kernel_rfl) (by kernel_rfl) (fun _ _ _ h => h) (Or.inr ⟨by kernel_rfl, rfl⟩) hHeld ?_
        refine wpAnyH_take (i := 11) rfl (by kernel_rfl) (by kernel_rfl) (by kernel_rfl) (fun _ _ _ h => h) (Or.inr ⟨by kernel_rfl, rfl⟩) hHeld ?_
        refine wpAnyH_take (i := 12) (v := ?_) rfl (by kernel_rfl) (by kernel_rfl) (by kernel_rfl) (fun _ _ _ h => h) (Or.inl ⟨by kernel_rfl, ?_⟩) hHeld ?_
        rotate_left
        · intro w' hS'
          clear hS'
          go_simp
          try with_reducible rfl
        refine wpAnyH_take (i := 13) (v := ?_) rfl (by kernel_rfl) (by kernel_rfl) (by kernel_rfl) (fun _ _ _ h => h) (Or.inl ⟨by kernel_rfl, ?_⟩) hHeld ?_
        rotate_left
        · intro w' hS'
          clear hS'
          go_simp
          try with_reducible rfl
        refine wpAnyH_take (i := 14) (v := ?_) rfl (by kernel_rfl) (by kernel_rfl) (by kernel_rfl) (fun _ _ _ h => h) (Or.inl ⟨by kernel_rfl, ?_⟩) hHeld ?_
        rotate_left
        · intro w' hS'
          obtain ⟨x0, x1, x2⟩ := hS'
          go_simp
          try with_reducible rfl
        refine wpAnyH_take (i := 16) (v := ?_) rfl (by kernel_rfl) (by kernel_rfl) (by kernel_rfl) (fun _ _ _ h => h) (Or.inl ⟨by kernel_rfl, ?_⟩) hHeld ?_
        rotate_left
        · intro w' hS'
          clear hS'
          go_simp
          try with_reducible rfl
        refine wpAnyH_take (i := 18) (v := ?_) rfl (by kernel_rfl) (by kernel_rfl) (by kernel_rfl) (fun _ _ _ h => h) (Or.inl ⟨by kernel_rfl, ?_⟩) hHeld ?_
        rotate_left
        · intro w' hS'
          clear hS'
          go_simp
          try with_reducible rfl
        refine wpAnyH_ready (rs := [15, 19]) (by kernel_rfl) (by simp) ?_
        refine AllReadyH.cons rfl (fun K hK => ?_) (AllReadyH.cons rfl (fun K hK => ?_) AllReadyH.nil)
        · go_simp
          have hB5 := hd0.alloc hd0.size (.cells #[] 40)
          have o5 : (wd.alloc (.cells #[] 40)).ownsRow w4.heap.size 40 2 (.slice (some ⟨wd.heap.size, 0, none⟩) 0 0) 0 (pc []) := by
            have := World.ownsRow_made (base := w4.heap.size) (e := 40) (size := 2) wd #[] 0 (hd0.size) (by simp [maxLen]) (by simp)
            simpa [pc] using this
          obtain ⟨g15, hg15⟩ : ∃ g15, wd.heap.size = g15 := ⟨_, rfl⟩
          have hl15 : w4.heap.size ≤ g15 := by rw [← hg15]; exact hd0.size
          simp only [hg15] at o5 ⊢
          generalize wd.alloc (.cells #[] 40) = w5 at *
          refine hK.out _ _ ?_ ?_
          · exact (hS4.below hB5).cells
          clear hHeld
          intro hHeld
          clear hK K
          refine wpAnyH_ready (rs := [17, 19]) (by kernel_rfl) (by simp) ?_
          refine AllReadyH.cons rfl (fun K hK => ?_) (AllReadyH.cons rfl (fun K hK => ?_) AllReadyH.nil)
          · refine step_appN_ps (by rfl) _ _ _ rfl w4.heap.size Try.underlying35 g15 rfl o5 _ _ _ ps rfl (hp4.below hB5).rd (by omega) hB5.size ?_
            intro A17 c17 w6 o6 hgr6
            have hB6 := hB5.grown hgr6 hB5.size (fun k hk => by simp at hk; omega)
            refine hK.out _ _ ?_ ?_
            · exact (hS4.below hB6).cells
            clear hHeld
            intro hHeld
            clear hK K
            refine wpAnyH_ready (rs := [19]) (by kernel_rfl) (by simp) ?_
            refine AllReadyH.cons rfl (fun K hK => ?_) AllReadyH.nil
            go_simp
            have hB7 := hB6.alloc hB6.size (.cells #[.int .i64 (-1), .bool false] 40)
            have b7 := Blk.new w6 40 #[.int .i64 (-1), .bool false]
            have o7 := o6.alloc (.cells #[.int .i64 (-1), .bool false] 40)
            obtain ⟨g19, hg19⟩ : ∃ g19, w6.heap.size = g19 := ⟨_, rfl⟩
            have hl19 : w4.heap.size ≤ g19 := by rw [← hg19]; exact hB6.size
            simp only [hg19] at b7 ⊢
            generalize w6.alloc (.cells #[.int .i64 (-1), .bool false] 40) = w7 at *
            refine hK.out _ _ ?_ ?_
            · exact (hS4.below hB7).cells
            clear hHeld
            intro hHeld
            clear hK K
            refine wpAnyH_ready (rs := [20]) (by kernel_rfl) (by simp) ?_
            refine AllReadyH.cons rfl (fun K hK => ?_) AllReadyH.nil
            refine step_app_ps (by rfl) _ _ _ rfl w4.heap.size Try.underlying35 A17 c17 ps rfl o7 g19 (-1) false rfl b7 (by omega) hB7.size ?_
            intro A20 c20 w8 o8 hgr8
            have hB8 := hB7.grown hgr8 hB7.size (fun k hk => own_block_ge o7 hk)
            have hV20 := hVV w8 hB8 A20 (ps.length + 1) c20 (ps ++ [(-1, false)]) (by simp) (Reads.of_own o8) (by omega)
            rw [hlaw2] at hV20
            refine hK.out _ _ ?_ ?_
            · exact (hS4.below hB8).cells
            clear hHeld
            intro hHeld
            clear hK K
            refine wpAnyH_ready (rs := [21]) (by kernel_rfl) (by simp) ?_
            refine AllReadyH.cons rfl (fun K hK => ?_) AllReadyH.nil
            go_simp
            go_at_call 23
            (with_reducible refine (unhide (hV20)).mono ?_)
            rintro e w9 ⟨rfl, hb9⟩
            have hB9 := hB8.trans (hb9.mono hB8.size)
            refine hK.out _ _ ?_ ?_
            · exact (hS4.below hB9).cells
            clear hHeld
            intro hHeld
            clear hK K
            refine wpAnyH_take (i := 22) (v := ?_) rfl (by kernel_rfl) (by kernel_rfl) (by kernel_rfl) (fun _ _ _ h => h) (Or.inl ⟨by kernel_rfl, ?_⟩) hHeld ?_
            rotate_left
            · intro w' hS'
              clear hS'
              go_simp
              try with_reducible rfl
            refine wpAnyH_take (i := 23) (v := ?_) rfl (by kernel_rfl) (by kernel_rfl) (by kernel_rfl) (fun _ _ _ h => h) (Or.inl ⟨by kernel_rfl, ?_⟩) hHeld ?_
            rotate_left
            · intro w' hS'
              clear hS'
              go_simp
              try with_reducible rfl
            refine wpAnyH_take (i := 24) (v := ?_) rfl (by kernel_rfl) (by kernel_rfl) (by kernel_rfl) (fun _ _ _ h => h) (Or.inl ⟨by kernel_rfl, ?_⟩) hHeld ?_
            rotate_left
            · intro w' hS'
              clear hS'
              go_simp
              try with_reducible rfl
            refine wpAnyH_take (i := 25) (v := ?_) rfl (by kernel_rfl) (by kernel_rfl) (by kernel_rfl) (fun _ _ _ h => h) (Or.inl ⟨by kernel_rfl, ?_⟩) hHeld ?_
            rotate_left
            · intro w' hS'
              obtain ⟨x0, x1, x2⟩ := hS'
              go_simp
              try with_reducible rfl
            refine wpAnyH_take (i := 27) (v := ?_) rfl (by kernel_rfl) (by kernel_rfl) (by kernel_rfl) (fun _ _ _ h => h) (Or.inl ⟨by kernel_rfl, ?_⟩) hHeld ?_
            rotate_left
            · intro w' hS'
              obtain ⟨x0, x1, x2⟩ := hS'
              go_simp
              try with_reducible rfl
            refine wpAnyH_ready (rs := [26]) (by kernel_rfl) (by simp) ?_
            refine AllReadyH.cons rfl (fun K hK => ?_) AllReadyH.nil
            go_simp
            go_at_call 23
            (with_reducible refine (unhide (hVN w9 hB9)).mono ?_)
            rintro e w10 ⟨rfl, hb10⟩
            have hB10 := hB9.trans (hb10.mono hB9.size)
            refine hK.out _ _ ?_ ?_
            · exact (hS4.below hB10).cells
            clear hHeld
            intro hHeld
            clear hK K
            refine wpAnyH_ready (rs := [28]) (by kernel_rfl) (by simp) ?_
            refine AllReadyH.cons rfl (fun K hK => ?_) AllReadyH.nil
            go_simp
            go_at_call 25
            (with_reducible refine (unhide (hSI w10 hB10)).mono ?_)
            rintro e w11 ⟨rfl, hb11⟩
            have hB11 := hB10.trans (hb11.mono hB10.size)
            refine hK.out _ _ ?_ ?_
            · exact (hS4.below hB11).cells
            clear hHeld
            intro hHeld
            clear hK K
            refine wpAnyH_take (i := 29) (v := ?_) rfl (by kernel_rfl) (by kernel_rfl) (by kernel_rfl) (fun _ _ _ h => h) (Or.inl ⟨by kernel_rfl, ?_⟩) hHeld ?_
            rotate_left
            · intro w' hS'
              clear hS'
              go_simp
              try with_reducible rfl
            refine wpAnyH_take (i := 30) (v := ?_) rfl (by kernel_rfl) (by kernel_rfl) (by kernel_rfl) (fun _ _ _ h => h) (Or.inl ⟨by kernel_rfl, ?_⟩) hHeld ?_
            rotate_left
            · intro w' hS'
              clear hS'
              go_simp
              try with_reducible rfl
            refine wpAnyH_take (i := 31) (v := ?_) rfl (by kernel_rfl) (by kernel_rfl) (by kernel_rfl) (fun _ _ _ h => h) (Or.inl ⟨by kernel_rfl, ?_⟩) hHeld ?_
            rotate_left
            · intro w' hS'
              clear hS'
              go_simp
              try with_reducible rfl
            refine wpAnyH_ready (rs := [32]) (by kernel_rfl) (by simp) ?_
            refine AllReadyH.cons rfl (fun K hK => ?_) AllReadyH.nil
            go_simp
            go_at_call 19
            (with_reducible refine (unhide (hide (alive_any w11))).mono ?_)
            rintro e w12 ⟨rfl, hb12⟩
            have hB12 := hB11.trans (hb12.mono hB11.size)
            refine hK.out _ _ ?_ ?_
            · exact (hS4.below hB12).cells
            clear hHeld
            intro hHeld
            clear hK K
            refine wpAnyH_take (i := 33) (v := ?_) rfl (by kernel_rfl) (by kernel_rfl) (by kernel_rfl) (fun _ _ _ h => h) (Or.inl ⟨by kernel_rfl, ?_⟩) hHeld ?_
            rotate_left
            · intro w' hS'
              clear hS'
              go_simp
              try with_reducible rfl
            refine wpAnyH_take (i := 34) (v := ?_) rfl (by kernel_rfl) (by kernel_rfl) (by kernel_rfl) (fun _ _ _ h => h) (Or.inl ⟨by kernel_rfl, ?_⟩) hHeld ?_
            rotate_left
            · intro w' hS'
              clear hS'
              go_simp
              try with_reducible rfl
            refine wpAnyH_done (by kernel_rfl) ?_ _
            go_simp
            go_wp2_with fail
            go_ret
            exact ⟨rfl, hbel.trans (hB12.mono hbel.size)⟩
          · go_simp
            have hB6 := hB5.alloc hB5.size (.cells #[.int .i64 (-1), .bool false] 40)
            have b6 := Blk.new w5 40 #[.int .i64 (-1), .bool false]
            have o6 := o5.alloc (.cells #[.int .i64 (-1), .bool false] 40)
            obtain ⟨g19, hg19⟩ : ∃ g19, w5.heap.size = g19 := ⟨_, rfl⟩
            have hl19 : w4.heap.size ≤ g19 := by rw [← hg19]; exact hB5.size
            simp only [hg19] at b6 ⊢
            have hne : g15 < g19 := by rw [← hg19]; exact (own_lt o5 rfl).2
            generalize w5.alloc (.cells #[.int .i64 (-1), .bool false] 40) = w6 at *
            refine hK.out _ _ ?_ ?_
            · exact (hS4.below hB6).cells
            clear hHeld
            intro hHeld
            clear hK K
            refine wpAnyH_ready (rs := [17]) (by kernel_rfl) (by simp) ?_
            refine AllReadyH.cons rfl (fun K hK => ?_) AllReadyH.nil
            refine step_appN_ps (by rfl) _ _ _ rfl w4.heap.size Try.underlying35 g15 rfl o6 _ _ _ ps rfl (hp4.below hB6).rd (by omega) hB6.size ?_
            intro A17 c17 w7 o7 hgr7
            have hB7 := hB6.grown hgr7 hB6.size (fun k hk => by simp at hk; omega)
            have b7 := b6.grown hgr7 (by simp; omega)
            refine hK.out _ _ ?_ ?_
            · exact (hS4.below hB7).cells
            clear hHeld
            intro hHeld
            clear hK K
            refine wpAnyH_ready (rs := [20]) (by kernel_rfl) (by simp) ?_
            refine AllReadyH.cons rfl (fun K hK => ?_) AllReadyH.nil
            refine step_app_ps (by rfl) _ _ _ rfl w4.heap.size Try.underlying35 A17 c17 ps rfl o7 g19 (-1) false rfl b7 (by omega) hB7.size ?_
            intro A20 c20 w8 o8 hgr8
            have hB8 := hB7.grown hgr8 hB7.size (fun k hk => own_block_ge o7 hk)
            have hV20 := hVV w8 hB8 A20 (ps.length + 1) c20 (ps ++ [(-1, false)]) (by simp) (Reads.of_own o8) (by omega)
            rw [hlaw2] at hV20
            refine hK.out _ _ ?_ ?_
            · exact (hS4.below hB8).cells
            clear hHeld
            intro hHeld
            clear hK K
            refine wpAnyH_ready (rs := [21]) (by kernel_rfl) (by simp) ?_
            refine AllReadyH.cons rfl (fun K hK => ?_) AllReadyH.nil
            go_simp
            go_at_call 23
            (with_reducible refine (unhide (hV20)).mono ?_)
            rintro e w9 ⟨rfl, hb9⟩
            have hB9 := hB8.trans (hb9.mono hB8.size)
            refine hK.out _ _ ?_ ?_
            · exact (hS4.below hB9).cells
            clear hHeld
            intro hHeld
            clear hK K
            refine wpAnyH_take (i := 22) (v := ?_) rfl (by kernel_rfl) (by kernel_rfl) (by kernel_rfl) (fun _ _ _ h => h) (Or.inl ⟨by kernel_rfl, ?_⟩) hHeld ?_
            rotate_left
            · intro w' hS'
              clear hS'
              go_simp
              try with_reducible rfl
            refine wpAnyH_take (i := 23) (v := ?_) rfl (by kernel_rfl) (by kernel_rfl) (by kernel_rfl) (fun _ _ _ h => h) (Or.inl ⟨by kernel_rfl, ?_⟩) hHeld ?_
            rotate_left
            · intro w' hS'
              clear hS'
              go_simp
              try with_reducible rfl
            refine wpAnyH_take (i := 24) (v := ?_) rfl (by kernel_rfl) (by kernel_rfl) (by kernel_rfl) (fun _ _ _ h => h) (Or.inl ⟨by kernel_rfl, ?_⟩) hHeld ?_
            rotate_left
            · intro w' hS'
              clear hS'
              go_simp
              try with_reducible rfl
            refine wpAnyH_take (i := 25) (v := ?_) rfl (by kernel_rfl) (by kernel_rfl) (by kernel_rfl) (fun _ _ _ h => h) (Or.inl ⟨by kernel_rfl, ?_⟩) hHeld ?_
            rotate_left
            · intro w' hS'
              obtain ⟨x0, x1, x2⟩ := hS'
              go_simp
              try with_reducible rfl
            refine wpAnyH_take (i := 27) (v := ?_) rfl (by kernel_rfl) (by kernel_rfl) (by kernel_rfl) (fun _ _ _ h => h) (Or.inl ⟨by kernel_rfl, ?_⟩) hHeld ?_
            rotate_left
            · intro w' hS'
              obtain ⟨x0, x1, x2⟩ := hS'
              go_simp
              try with_reducible rfl
            refine wpAnyH_ready (rs := [26]) (by kernel_rfl) (by simp) ?_
            refine AllReadyH.cons rfl (fun K hK => ?_) AllReadyH.nil
            go_simp
            go_at_call 23
            (with_reducible refine (unhide (hVN w9 hB9)).mono ?_)
            rintro e w10 ⟨rfl, hb10⟩
            have hB10 := hB9.trans (hb10.mono hB9.size)
            refine hK.out _ _ ?_ ?_
            · exact (hS4.below hB10).cells
            clear hHeld
            intro hHeld
            clear hK K
            refine wpAnyH_ready (rs := [28]) (by kernel_rfl) (by simp) ?_
            refine AllReadyH.cons rfl (fun K hK => ?_) AllReadyH.nil
            go_simp
            go_at_call 25
            (with_reducible refine (unhide (hSI w10 hB10)).mono ?_)
            rintro e w11 ⟨rfl, hb11⟩
            have hB11 := hB10.trans (hb11.mono hB10.size)
            refine hK.out _ _ ?_ ?_
            · exact (hS4.below hB11).cells
            clear hHeld
            intro hHeld
            clear hK K
            refine wpAnyH_take (i := 29) (v := ?_) rfl (by kernel_rfl) (by kernel_rfl) (by kernel_rfl) (fun _ _ _ h => h) (Or.inl ⟨by kernel_rfl, ?_⟩) hHeld ?_
            rotate_left
            · intro w' hS'
              clear hS'
              go_simp
              try with_reducible rfl
            refine wpAnyH_take (i := 30) (v := ?_) rfl (by kernel_rfl) (by kernel_rfl) (by kernel_rfl) (fun _ _ _ h => h) (Or.inl ⟨by kernel_rfl, ?_⟩) hHeld ?_
            rotate_left
            · intro w' hS'
              clear hS'
              go_simp
              try with_reducible rfl
            refine wpAnyH_take (i := 31) (v := ?_) rfl (by kernel_rfl) (by kernel_rfl) (by kernel_rfl) (fun _ _ _ h => h) (Or.inl ⟨by kernel_rfl, ?_⟩) hHeld ?_
            rotate_left
            · intro w' hS'
              clear hS'
              go_simp
              try with_reducible rfl
            refine wpAnyH_ready (rs := [32]) (by kernel_rfl) (by simp) ?_
            refine AllReadyH.cons rfl (fun K hK => ?_) AllReadyH.nil
            go_simp
            go_at_call 19
            (with_reducible refine (unhide (hide (alive_any w11))).mono ?_)
            rintro e w12 ⟨rfl, hb12⟩
            have hB12 := hB11.trans (hb12.mono hB11.size)
            refine hK.out _ _ ?_ ?_
            · exact (hS4.below hB12).cells
            clear hHeld
            intro hHeld
            clear hK K
            refine wpAnyH_take (i := 33) (v := ?_) rfl (by kernel_rfl) (by kernel_rfl) (by kernel_rfl) (fun _ _ _ h => h) (Or.inl ⟨by kernel_rfl, ?_⟩) hHeld ?_
            rotate_left
            · intro w' hS'
              clear hS'
              go_simp
              try with_reducible rfl
            refine wpAnyH_take (i := 34) (v := ?_) rfl (by kernel_rfl) (by kernel_rfl) (by kernel_rfl) (fun _ _ _ h => h) (Or.inl ⟨by kernel_rfl, ?_⟩) hHeld ?_
            rotate_left
            · intro w' hS'
              clear hS'
              go_simp
              try with_reducible rfl
            refine wpAnyH_done (by kernel_rfl) ?_ _
            go_simp
            go_wp2_with fail
            go_ret
            exact ⟨rfl, hbel.trans (hB12.mono hbel.size)⟩
        · go_simp
          have hB5 := hd0.alloc hd0.size (.cells #[.int .i64 (-1), .bool false] 40)
          have b5 := Blk.new wd 40 #[.int .i64 (-1), .bool false]
          obtain ⟨g19, hg19⟩ : ∃ g19, wd.heap.size = g19 := ⟨_, rfl⟩
          have hl19 : w4.heap.size ≤ g19 := by rw [← hg19]; exact hd0.size
          simp only [hg19] at b5 ⊢
          generalize wd.alloc (.cells #[.int .i64 (-1), .bool false] 40) = w5 at *
          refine hK.out _ _ ?_ ?_
          · exact (hS4.below hB5).cells
          clear hHeld
          intro hHeld
          clear hK K
          refine wpAnyH_ready (rs := [15]) (by kernel_rfl) (by simp) ?_
          refine AllReadyH.cons rfl (fun K hK => ?_) AllReadyH.nil
          go_simp
          have hB6 := hB5.alloc hB5.size (.cells #[] 40)
          have o6 : (w5.alloc (.cells #[] 40)).ownsRow w4.heap.size 40 2 (.slice (some ⟨w5.heap.size, 0, none⟩) 0 0) 0 (pc []) := by
            have := World.ownsRow_made (base := w4.heap.size) (e := 40) (size := 2) w5 #[] 0 (hB5.size) (by simp [maxLen]) (by simp)
            simpa [pc] using this
          have b6 := b5.alloc (.cells #[] 40)
          obtain ⟨g15, hg15⟩ : ∃ g15, w5.heap.size = g15 := ⟨_, rfl⟩
          have hl15 : w4.heap.size ≤ g15 := by rw [← hg15]; exact hB5.size
          simp only [hg15] at o6 ⊢
          have hne : g19 < g15 := by rw [← hg15]; exact b5.lt
          generalize w5.alloc (.cells #[] 40) = w6 at *
          refine hK.out _ _ ?_ ?_
          · exact (hS4.below hB6).cells
          clear hHeld
          intro hHeld
          clear hK K
          refine wpAnyH_ready (rs := [17]) (by kernel_rfl) (by simp) ?_
          refine AllReadyH.cons rfl (fun K hK => ?_) AllReadyH.nil
          refine step_appN_ps (by rfl) _ _ _ rfl w4.heap.size Try.underlying35 g15 rfl o6 _ _ _ ps rfl (hp4.below hB6).rd (by omega) hB6.size ?_
          intro A17 c17 w7 o7 hgr7
          have hB7 := hB6.grown hgr7 hB6.size (fun k hk => by simp at hk; omega)
          have b7 := b6.grown hgr7 (by simp; omega)
          refine hK.out _ _ ?_ ?_
          · exact (hS4.below hB7).cells
          clear hHeld
          intro hHeld
          clear hK K
          refine wpAnyH_ready (rs := [20]) (by kernel_rfl) (by simp) ?_
          refine AllReadyH.cons rfl (fun K hK => ?_) AllReadyH.nil
          refine step_app_ps (by rfl) _ _ _ rfl w4.heap.size Try.underlying35 A17 c17 ps rfl o7 g19 (-1) false rfl b7 (by omega) hB7.size ?_
          intro A20 c20 w8 o8 hgr8
          have hB8 := hB7.grown hgr8 hB7.size (fun k hk => own_block_ge o7 hk)
          have hV20 := hVV w8 hB8 A20 (ps.length + 1) c20 (ps ++ [(-1, false)]) (by simp) (Reads.of_own o8) (by omega)
          rw [hlaw2] at hV20
          refine hK.out _ _ ?_ ?_
          · exact (hS4.below hB8).cells
          clear hHeld
          intro hHeld
          clear hK K
          refine wpAnyH_ready (rs := [21]) (by kernel_rfl) (by simp) ?_
          refine AllReadyH.cons rfl (fun K hK => ?_) AllReadyH.nil
          go_simp
          go_at_call 23
          (with_reducible refine (unhide (hV20)).mono ?_)
          rintro e w9 ⟨rfl, hb9⟩
          have hB9 := hB8.trans (hb9.mono hB8.size)
          refine hK.out _ _ ?_ ?_
          · exact (hS4.below hB9).cells
          clear hHeld
          intro hHeld
          clear hK K
          refine wpAnyH_take (i := 22) (v := ?_) rfl (by kernel_rfl) (by kernel_rfl) (by kernel_rfl) (fun _ _ _ h => h) (Or.inl ⟨by kernel_rfl, ?_⟩) hHeld ?_
          rotate_left
          · intro w' hS'
            clear hS'
            go_simp
            try with_reducible rfl
          refine wpAnyH_take (i := 23) (v := ?_) rfl (by kernel_rfl) (by kernel_rfl) (by kernel_rfl) (fun _ _ _ h => h) (Or.inl ⟨by kernel_rfl, ?_⟩) hHeld ?_
          rotate_left
          · intro w' hS'
            clear hS'
            go_simp
            try with_reducible rfl
          refine wpAnyH_take (i := 24) (v := ?_) rfl (by kernel_rfl) (by kernel_rfl) (by kernel_rfl) (fun _ _ _ h => h) (Or.inl ⟨by kernel_rfl, ?_⟩) hHeld ?_
          rotate_left
          · intro w' hS'
            clear hS'
            go_simp
            try with_reducible rfl
          refine wpAnyH_take (i := 25) (v := ?_) rfl (by kernel_rfl) (by kernel_rfl) (by kernel_rfl) (fun _ _ _ h => h) (Or.inl ⟨by kernel_rfl, ?_⟩) hHeld ?_
          rotate_left
          · intro w' hS'
            obtain ⟨x0, x1, x2⟩ := hS'
            go_simp
            try with_reducible rfl
          refine wpAnyH_take (i := 27) (v := ?_) rfl (by kernel_rfl) (by kernel_rfl) (by kernel_rfl) (fun _ _ _ h => h) (Or.inl ⟨by kernel_rfl, ?_⟩) hHeld ?_
          rotate_left
          · intro w' hS'
            obtain ⟨x0, x1, x2⟩ := hS'
            go_simp
            try with_reducible rfl
          refine wpAnyH_ready (rs := [26]) (by kernel_rfl) (by simp) ?_
          refine AllReadyH.cons rfl (fun K hK => ?_) AllReadyH.nil
          go_simp
          go_at_call 23
          (with_reducible refine (unhide (hVN w9 hB9)).mono ?_)
          rintro e w10 ⟨rfl, hb10⟩
          have hB10 := hB9.trans (hb10.mono hB9.size)
          refine hK.out _ _ ?_ ?_
          · exact (hS4.below hB10).cells
          clear hHeld
          intro hHeld
          clear hK K
          refine wpAnyH_ready (rs := [28]) (by kernel_rfl) (by simp) ?_
          refine AllReadyH.cons rfl (fun K hK => ?_) AllReadyH.nil
          go_simp
          go_at_call 25
          (with_reducible refine (unhide (hSI w10 hB10)).mono ?_)
          rintro e w11 ⟨rfl, hb11⟩
          have hB11 := hB10.trans (hb11.mono hB10.size)
          refine hK.out _ _ ?_ ?_
          · exact (hS4.below hB11).cells
          clear hHeld
          intro hHeld
          clear hK K
          refine wpAnyH_take (i := 29) (v := ?_) rfl (by kernel_rfl) (by kernel_rfl) (by kernel_rfl) (fun _ _ _ h => h) (Or.inl ⟨by kernel_rfl, ?_⟩) hHeld ?_
          rotate_left
          · intro w' hS'
            clear hS'
            go_simp
            try with_reducible rfl
          refine wpAnyH_take (i := 30) (v := ?_) rfl (by kernel_rfl) (by kernel_rfl) (by kernel_rfl) (fun _ _ _ h => h) (Or.inl ⟨by kernel_rfl, ?_⟩) hHeld ?_
          rotate_left
          · intro w' hS'
            clear hS'
            go_simp
            try with_reducible rfl
          refine wpAnyH_take (i := 31) (v := ?_) rfl (by kernel_rfl) (by kernel_rfl) (by kernel_rfl) (fun _ _ _ h => h) (Or.inl ⟨by kernel_rfl, ?_⟩) hHeld ?_
          rotate_left
          · intro w' hS'
            clear hS'
            go_simp
            try with_reducible rfl
          refine wpAnyH_ready (rs := [32]) (by kernel_rfl) (by simp) ?_
          refine AllReadyH.cons rfl (fun K hK => ?_) AllReadyH.nil
          go_simp
          go_at_call 19
          (with_reducible refine (unhide (hide (alive_any w11))).mono ?_)
          rintro e w12 ⟨rfl, hb12⟩
          have hB12 := hB11.trans (hb12.mono hB11.size)
          refine hK.out _ _ ?_ ?_
          · exact (hS4.below hB12).cells
          clear hHeld
          intro hHeld
          clear hK K
          refine wpAnyH_take (i := 33) (v := ?_) rfl (by kernel_rfl) (by kernel_rfl) (by kernel_rfl) (fun _ _ _ h => h) (Or.inl ⟨by kernel_rfl, ?_⟩) hHeld ?_
          rotate_left
          · intro w' hS'
            clear hS'
            go_simp
            try with_reducible rfl
          refine wpAnyH_take (i := 34) (v := ?_) rfl (by kernel_rfl) (by kernel_rfl) (by kernel_rfl) (fun _ _ _ h => h) (Or.inl ⟨by kernel_rfl, ?_⟩) hHeld ?_
          rotate_left
          · intro w' hS'
            clear hS'
            go_simp
            try with_reducible rfl
          refine wpAnyH_done (by kernel_rfl) ?_ _
          go_simp
          go_wp2_with fail
          go_ret
          exact ⟨rfl, hbel.trans (hB12.mono hbel.size)⟩
      ·
        have h0d : ((ps.length : Int) == 0) = false := by rw [beq_eq_false_iff_ne]; omega
        have h1 : 1 ≤ ps.length := by omega
        have hi1 : (1 : Int) ≤ (ps.length : Int) := by omega
        have hi2 : (ps.length : Int) ≤ (pd : Int) := by omega
        have hi3 : (1 : Int) ≤ (pd : Int) := by omega
        by_cases hpd : pd = 1
        ·
          obtain ⟨p1, rfl⟩ : ∃ p1, ps = [p1] := by
            rcases ps with _ | ⟨p1, _ | ⟨p2, l⟩⟩
            · simp at h1
            · exact ⟨p1, rfl⟩
            · simp at hcapp; omega
          subst hpd
          clear hi1 hi2 hi3 h0d h0 h1
          go_upto_region 7 with fail
          have hd0 := (Below.refl w4.heap.size w4).drew
          have hbel := hS4.bel
          have hVV := fun (w' : World) (h : Below w4.heap.size w4 w') (P : Option Addr) (m d : Nat) (qs : List (Int × Bool)) (hm : qs.length = m) (hq : Reads w' w'.heap.size 2 P m (pc qs)) (hmm : m ≤ 99) => hide (PushesValidI_any W T A2 bs.length c2 w'.heap.size bs P m d w'.heap.size qs w' rfl (hS4.below h).rd (Nat.le_refl _) (by omega) hm hq (Nat.le_refl _) (by omega))
          have hSI := fun (w' : World) (h : Below w4.heap.size w4 w') => hide (SimpleI_any W T A2 bs.length c2 w'.heap.size bs w' (hS4.below h).rd (Nat.le_refl _) (by omega))
          simp only [hsb] at hSI
          have hVN := fun (w' : World) (h : Below w4.heap.size w4 w') => hVV w' h none 0 0 [] rfl ⟨rfl, fun h => absurd h (by omega)⟩ (by omega)
          simp only [hlaw3] at hVN
          have hlaw1 := hlaw1 (by first | exact trivial | rfl)
          have hVT := fun (w' : World) (h : Below w4.heap.size w4 w') => hVV w' h PA 0 0 [] rfl ⟨rfl, fun h => absurd h (by omega)⟩ (by omega)
          simp only [show pushesB W T bs [] = true from hlaw1] at hVT
          refine wp_region_held_drew (S := (fun w' => w'.cell? ⟨x, 0, none⟩ = some (.int .i64 W) ∧ w'.cell? ⟨x, 1, none⟩ = some (.int .i64 T) ∧ w'.cell? ⟨x, 2, none⟩ = some (.slice A2 bs.length c2))) (by kernel_rfl) (hS4.below hd0).cells ?_
          intro hHeld
          generalize w4.drew = wd at *
          refine wpAnyH_take (i := 0) (v := ?_) rfl (by kernel_rfl) (by kernel_rfl) (by kernel_rfl) (fun _ _ _ h => h) (Or.inl ⟨by kernel_rfl, ?_⟩) hHeld ?_
          rotate_left
          · intro w' hS'
            clear hS'
            go_simp
            try with_reducible rfl
          refine wpAnyH_take (i := 1) (v := ?_) rfl (by kernel_rfl) (by kernel_rfl) (by kernel_rfl) (fun _ _ _ h => h) (Or.inl ⟨by kernel_rfl, ?_⟩) hHeld ?_
          rotate_left
          · intro w' hS'
            clear hS'
            go_simp
            try with_reducible rfl
          refine wpAnyH_take (i := 2) (v := ?_) rfl (by kernel_rfl) (by kernel_rfl) (by kernel_rfl) (fun _ _ _ h => h) (Or.inl ⟨by kernel_rfl, ?_⟩) hHeld ?_
          rotate_left
          · intro w' hS'
            clear hS'
            go_simp
            try with_reducible rfl
          refine wpAnyH_take (i := 3) (v := ?_) rfl (by kernel_rfl) (by kernel_rfl) (by kernel_rfl) (fun _ _ _ h => h) (Or.inl ⟨by kernel_rfl, ?_⟩) hHeld ?_
          rotate_left
          · intro w' hS'
            clear hS'
            go_simp
            try with_reducible rfl
          refine wpAnyH_take (i := 4) (v := ?_) rfl (by kernel_rfl) (by kernel_rfl) (by kernel_rfl) (fun _ _ _ h => h) (Or.inl ⟨by kernel_rfl, ?_⟩) hHeld ?_
          rotate_left
          · intro w' hS'
            clear hS'
            go_simp
            try with_reducible rfl
          refine wpAnyH_take (i := 5) (v := ?_) rfl (by kernel_rfl) (by kernel_rfl) (by kernel_rfl) (fun _ _ _ h => h) (Or.inl ⟨by kernel_rfl, ?_⟩) hHeld ?_
          rotate_left
          · intro w' hS'
            clear hS'
            go_simp
            try with_reducible rfl
          refine wpAnyH_take (i := 6) (v := ?_) rfl (by kernel_rfl) (by kernel_rfl) (by kernel_rfl) (fun _ _ _ h => h) (Or.inl ⟨by kernel_rfl, ?_⟩) hHeld ?_
          rotate_left
          · intro w' hS'
            clear hS'
            go_simp
            try with_reducible rfl
          refine wpAnyH_take (i := 7) (v := ?_) rfl (by kernel_rfl) (by kernel_rfl) (by kernel_rfl) (fun _ _ _ h => h) (Or.inl ⟨by kernel_rfl, ?_⟩) hHeld ?_
          rotate_left
          · intro w' hS'
            clear hS'
            go_simp
            try with_reducible rfl
          refine wpAnyH_take (i := 8) (v := ?_) rfl (by kernel_rfl) (by kernel_rfl) (by kernel_rfl) (fun _ _ _ h => h) (Or.inl ⟨by kernel_rfl, ?_⟩) hHeld ?_
          rotate_left
          · intro w' hS'
            obtain ⟨x0, x1, x2⟩ := hS'
            go_simp
            try with_reducible rfl
          refine wpAnyH_take (i := 9) (v := ?_) rfl (by kernel_rfl) (by kernel_rfl) (by kernel_rfl) (fun _ _ _ h => h) (Or.inl ⟨by kernel_rfl, ?_⟩) hHeld ?_
          rotate_left
          · intro w' hS'
            clear hS'
            go_simp
            try with_reducible rfl
          refine wpAnyH_take (i := 10) (v := ?_) rfl (by kernel_rfl) (by kernel_rfl) (by kernel_rfl) (fun _ _ _ h => h) (Or.inl ⟨by kernel_rfl, ?_⟩) hHeld ?_
          rotate_left
          · intro w' hS'
            clear hS'
            go_simp
            try with_reducible rfl
          refine wpAnyH_ready (rs := [11]) (by kernel_rfl) (by simp) ?_
          refine AllReadyH.cons rfl (fun K hK => ?_) AllReadyH.nil
          go_simp
          go_at_call 23
          (refine (unhide (hVT wd hd0)).mono ?_)
          rintro e w5 ⟨rfl, hb5⟩
          have hB5 := hd0.trans (hb5.mono hd0.size)
          refine hK.out _ _ ?_ ?_
          · exact (hS4.below hB5).cells
          clear hHeld
          intro hHeld
          clear hK K
          refine wpAnyH_take (i := 12) (v := ?_) rfl (by kernel_rfl) (by kernel_rfl) (by kernel_rfl) (fun _ _ _ h => h) (Or.inl ⟨by kernel_rfl, ?_⟩) hHeld ?_
          rotate_left
          · intro w' hS'
            clear hS'
            go_simp
            try with_reducible rfl
          refine wpAnyH_take (i := 13) (v := ?_) rfl (by kernel_rfl) (by kernel_rfl) (by kernel_rfl) (fun _ _ _ h => h) (Or.inl ⟨by kernel_rfl, ?_⟩) hHeld ?_
          rotate_left
          · intro w' hS'
            clear hS'
            go_simp
            try with_reducible rfl
          refine wpAnyH_take (i := 14) (v := ?_) rfl (by kernel_rfl) (by kernel_rfl) (by kernel_rfl) (fun _ _ _ h => h) (Or.inl ⟨by kernel_rfl, ?_⟩) hHeld ?_
          rotate_left
          · intro w' hS'
            obtain ⟨x0, x1, x2⟩ := hS'
            go_simp
            try with_reducible rfl
          refine wpAnyH_take (i := 16) (v := ?_) rfl (by kernel_rfl) (by kernel_rfl) (by kernel_rfl) (fun _ _ _ h => h) (Or.inl ⟨by kernel_rfl, ?_⟩) hHeld ?_
          rotate_left
          · intro w' hS'
            clear hS'
            go_simp
            try with_reducible rfl
          refine wpAnyH_take (i := 18) (v := ?_) rfl (by kernel_rfl) (by kernel_rfl) (by kernel_rfl) (fun _ _ _ h => h) (Or.inl ⟨by kernel_rfl, ?_⟩) hHeld ?_
          rotate_left
          · intro w' hS'
            clear hS'
            go_simp
            try with_reducible rfl
          refine wpAnyH_ready (rs := [15, 19]) (by kernel_rfl) (by simp) ?_
          refine AllReadyH.cons rfl (fun K hK => ?_) (AllReadyH.cons rfl (fun K hK => ?_) AllReadyH.nil)
          · go_simp
            have hB6 := hB5.alloc hB5.size (.cells #[] 40)
            have o6 : (w5.alloc (.cells #[] 40)).ownsRow w4.heap.size 40 2 (.slice (some ⟨w5.heap.size, 0, none⟩) 0 0) 0 (pc []) := by
              have := World.ownsRow_made (base := w4.heap.size) (e := 40) (size := 2) w5 #[] 0 (hB5.size) (by simp [maxLen]) (by simp)
              simpa [pc] using this
            obtain ⟨g15, hg15⟩ : ∃ g15, w5.heap.size = g15 := ⟨_, rfl⟩
            have hl15 : w4.heap.size ≤ g15 := by rw [← hg15]; exact hB5.size
            simp only [hg15] at o6 ⊢
            generalize w5.alloc (.cells #[] 40) = w6 at *
            refine hK.out _ _ ?_ ?_
            · exact (hS4.below hB6).cells
            clear hHeld
            intro hHeld
            clear hK K
            refine wpAnyH_ready (rs := [17, 19]) (by kernel_rfl) (by simp) ?_
            refine AllReadyH.cons rfl (fun K hK => ?_) (AllReadyH.cons rfl (fun K hK => ?_) AllReadyH.nil)
            · refine step_appN_ps (by rfl) _ _ _ rfl w4.heap.size Try.underlying35 g15 rfl o6 _ _ _ [p1] rfl (hp4.below hB6).rd (by omega) hB6.size ?_
              intro A17 c17 w7 o7 hgr7
              have hB7 := hB6.grown hgr7 hB6.size (fun k hk => by simp at hk; omega)
              refine hK.out _ _ ?_ ?_
              · exact (hS4.below hB7).cells
              clear hHeld
              intro hHeld
              clear hK K
              refine wpAnyH_ready (rs := [19]) (by kernel_rfl) (by simp) ?_
              refine AllReadyH.cons rfl (fun K hK => ?_) AllReadyH.nil
              go_simp
              have hB8 := hB7.alloc hB7.size (.cells #[.int .i64 (-1), .bool false] 40)
              have b8 := Blk.new w7 40 #[.int .i64 (-1), .bool false]
              have o8 := o7.alloc (.cells #[.int .i64 (-1), .bool false] 40)
              obtain ⟨g19, hg19⟩ : ∃ g19, w7.heap.size = g19 := ⟨_, rfl⟩
              have hl19 : w4.heap.size ≤ g19 := by rw [← hg19]; exact hB7.size
              simp only [hg19] at b8 ⊢
              generalize w7.alloc (.cells #[.int .i64 (-1), .bool false] 40) = w8 at *
              refine hK.out _ _ ?_ ?_
              · exact (hS4.below hB8).cells
              clear hHeld
              intro hHeld
              clear hK K
              refine wpAnyH_ready (rs := [20]) (by kernel_rfl) (by simp) ?_
              refine AllReadyH.cons rfl (fun K hK => ?_) AllReadyH.nil
              refine step_app_ps (by rfl) _ _ _ rfl w4.heap.size Try.underlying35 A17 c17 [p1] rfl o8 g19 (-1) false rfl b8 (by omega) hB8.size ?_
              intro A20 c20 w9 o9 hgr9
              have hB9 := hB8.grown hgr9 hB8.size (fun k hk => own_block_ge o8 hk)
              have hV20 := hVV w9 hB9 A20 ([p1].length + 1) c20 ([p1] ++ [(-1, false)]) (by simp) (Reads.of_own o9) (by omega)
              rw [hlaw2] at hV20
              refine hK.out _ _ ?_ ?_
              · exact (hS4.below hB9).cells
              clear hHeld
              intro hHeld
              clear hK K
              refine wpAnyH_ready (rs := [21]) (by kernel_rfl) (by simp) ?_
              refine AllReadyH.cons rfl (fun K hK => ?_) AllReadyH.nil
              go_simp
              go_at_call 23
              (refine (unhide hV20).mono ?_)
              rintro e w10 ⟨rfl, hb10⟩
              have hB10 := hB9.trans (hb10.mono hB9.size)
              refine hK.out _ _ ?_ ?_
              · exact (hS4.below hB10).cells
              clear hHeld
              intro hHeld
              clear hK K
              refine wpAnyH_take (i := 22) (v := ?_) rfl (by kernel_rfl) (by kernel_rfl) (by kernel_rfl) (fun _ _ _ h => h) (Or.inl ⟨by kernel_rfl, ?_⟩) hHeld ?_
              rotate_left
              · intro w' hS'
                clear hS'
                go_simp
                try with_reducible rfl
              refine wpAnyH_take (i := 23) (v := ?_) rfl (by kernel_rfl) (by kernel_rfl) (by kernel_rfl) (fun _ _ _ h => h) (Or.inl ⟨by kernel_rfl, ?_⟩) hHeld ?_
              rotate_left
              · intro w' hS'
                clear hS'
                go_simp
                try with_reducible rfl
              refine wpAnyH_take (i := 24) (v := ?_) rfl (by kernel_rfl) (by kernel_rfl) (by kernel_rfl) (fun _ _ _ h => h) (Or.inl ⟨by kernel_rfl, ?_⟩) hHeld ?_
              rotate_left
              · intro w' hS'
                clear hS'
                go_simp
                try with_reducible rfl
              refine wpAnyH_take (i := 25) (v := ?_) rfl (by kernel_rfl) (by kernel_rfl) (by kernel_rfl) (fun _ _ _ h => h) (Or.inl ⟨by kernel_rfl, ?_⟩) hHeld ?_
              rotate_left
              · intro w' hS'
                obtain ⟨x0, x1, x2⟩ := hS'
                go_simp
                try with_reducible rfl
              refine wpAnyH_take (i := 27) (v := ?_) rfl (by kernel_rfl) (by kernel_rfl) (by kernel_rfl) (fun _ _ _ h => h) (Or.inl ⟨by kernel_rfl, ?_⟩) hHeld ?_
              rotate_left
              · intro w' hS'
                obtain ⟨x0, x1, x2⟩ := hS'
                go_simp
                try with_reducible rfl
              refine wpAnyH_ready (rs := [26]) (by kernel_rfl) (by simp) ?_
              refine AllReadyH.cons rfl (fun K hK => ?_) AllReadyH.nil
              go_simp
              go_at_call 23
              (with_reducible refine (unhide (hVN w10 hB10)).mono ?_)
              rintro e w11 ⟨rfl, hb11⟩
              have hB11 := hB10.trans (hb11.mono hB10.size)
              refine hK.out _ _ ?_ ?_
              · exact (hS4.below hB11).cells
              clear hHeld
              intro hHeld
              clear hK K
              refine wpAnyH_ready (rs := [28]) (by kernel_rfl) (by simp) ?_
              refine AllReadyH.cons rfl (fun K hK => ?_) AllReadyH.nil
              go_simp
              go_at_call 25
              (with_reducible refine (unhide (hSI w11 hB11)).mono ?_)
              rintro e w12 ⟨rfl, hb12⟩
              have hB12 := hB11.trans (hb12.mono hB11.size)
              refine hK.out _ _ ?_ ?_
              · exact (hS4.below hB12).cells
              clear hHeld
              intro hHeld
              clear hK K
              refine wpAnyH_take (i := 29) (v := ?_) rfl (by kernel_rfl) (by kernel_rfl) (by kernel_rfl) (fun _ _ _ h => h) (Or.inl ⟨by kernel_rfl, ?_⟩) hHeld ?_
              rotate_left
              · intro w' hS'
                clear hS'
                go_simp
                try with_reducible rfl
              refine wpAnyH_take (i := 30) (v := ?_) rfl (by kernel_rfl) (by kernel_rfl) (by kernel_rfl) (fun _ _ _ h => h) (Or.inl ⟨by kernel_rfl, ?_⟩) hHeld ?_
              rotate_left
              · intro w' hS'
                clear hS'
                go_simp
                try with_reducible rfl
              refine wpAnyH_take (i := 31) (v := ?_) rfl (by kernel_rfl) (by kernel_rfl) (by kernel_rfl) (fun _ _ _ h => h) (Or.inl ⟨by kernel_rfl, ?_⟩) hHeld ?_
              rotate_left
              · intro w' hS'
                clear hS'
                go_simp
                try with_reducible rfl
              refine wpAnyH_ready (rs := [32]) (by kernel_rfl) (by simp) ?_
              refine AllReadyH.cons rfl (fun K hK => ?_) AllReadyH.nil
              go_simp
              go_at_call 19
              (with_reducible refine (unhide (hide (alive_any w12))).mono ?_)
              rintro e w13 ⟨rfl, hb13⟩
              have hB13 := hB12.trans (hb13.mono hB12.size)
              refine hK.out _ _ ?_ ?_
              · exact (hS4.below hB13).cells
              clear hHeld
              intro hHeld
              clear hK K
              refine wpAnyH_take (i := 33) (v := ?_) rfl (by kernel_rfl) (by kernel_rfl) (by kernel_rfl) (fun _ _ _ h => h) (Or.inl ⟨by kernel_rfl, ?_⟩) hHeld ?_
              rotate_left
              · intro w' hS'
                clear hS'
                go_simp
                try with_reducible rfl
              refine wpAnyH_take (i := 34) (v := ?_) rfl (by kernel_rfl) (by kernel_rfl) (by kernel_rfl) (fun _ _ _ h => h) (Or.inl ⟨by kernel_rfl, ?_⟩) hHeld ?_
              rotate_left
              · intro w' hS'
                clear hS'
                go_simp
                try with_reducible rfl
              refine wpAnyH_done (by kernel_rfl) ?_ _
              go_simp
              go_wp2_with fail
              go_ret
              exact ⟨rfl, hbel.trans (hB13.mono hbel.size)⟩
            · go_simp
              have hB7 := hB6.alloc hB6.size (.cells #[.int .i64 (-1), .bool false] 40)
              have b7 := Blk.new w6 40 #[.int .i64 (-1), .bool false]
              have o7 := o6.alloc (.cells #[.int .i64 (-1), .bool false] 40)
              obtain ⟨g19, hg19⟩ : ∃ g19, w6.heap.size = g19 := ⟨_, rfl⟩
              have hl19 : w4.heap.size ≤ g19 := by rw [← hg19]; exact hB6.size
              simp only [hg19] at b7 ⊢
              have hne : g15 < g19 := by rw [← hg19]; exact (own_lt o6 rfl).2
              generalize w6.alloc (.cells #[.int .i64 (-1), .bool false] 40) = w7 at *
              refine hK.out _ _ ?_ ?_
              · exact (hS4.below hB7).cells
              clear hHeld
              intro hHeld
              clear hK K
              refine wpAnyH_ready (rs := [17]) (by kernel_rfl) (by simp) ?_
              refine AllReadyH.cons rfl (fun K hK => ?_) AllReadyH.nil
              refine step_appN_ps (by rfl) _ _ _ rfl w4.heap.size Try.underlying35 g15 rfl o7 _ _ _ [p1] rfl (hp4.below hB7).rd (by omega) hB7.size ?_
              intro A17 c17 w8 o8 hgr8
              have hB8 := hB7.grown hgr8 hB7.size (fun k hk => by simp at hk; omega)
              have b8 := b7.grown hgr8 (by simp; omega)
              refine hK.out _ _ ?_ ?_
              · exact (hS4.below hB8).cells
              clear hHeld
              intro hHeld
              clear hK K
              refine wpAnyH_ready (rs := [20]) (by kernel_rfl) (by simp) ?_
              refine AllReadyH.cons rfl (fun K hK => ?_) AllReadyH.nil
              refine step_app_ps (by rfl) _ _ _ rfl w4.heap.size Try.underlying35 A17 c17 [p1] rfl o8 g19 (-1) false rfl b8 (by omega) hB8.size ?_
              intro A20 c20 w9 o9 hgr9
              have hB9 := hB8.grown hgr9 hB8.size (fun k hk => own_block_ge o8 hk)
              have hV20 := hVV w9 hB9 A20 ([p1].length + 1) c20 ([p1] ++ [(-1, false)]) (by simp) (Reads.of_own o9) (by omega)
              rw [hlaw2] at hV20
              refine hK.out _ _ ?_ ?_
              · exact (hS4.below hB9).cells
              clear hHeld
              intro hHeld
              clear hK K
              refine wpAnyH_ready (rs := [21]) (by kernel_rfl) (by simp) ?_
              refine AllReadyH.cons rfl (fun K hK => ?_) AllReadyH.nil
              go_simp
              go_at_call 23
              (refine (unhide hV20).mono ?_)
              rintro e w10 ⟨rfl, hb10⟩
              have hB10 := hB9.trans (hb10.mono hB9.size)
              refine hK.out _ _ ?_ ?_
              · exact (hS4.below hB10).cells
              clear hHeld
              intro hHeld
              clear hK K
              refine wpAnyH_take (i := 22) (v := ?_) rfl (by kernel_rfl) (by kernel_rfl) (by kernel_rfl) (fun _ _ _ h => h) (Or.inl ⟨by kernel_rfl, ?_⟩) hHeld ?_
              rotate_left
              · intro w' hS'
                clear hS'
                go_simp
                try with_reducible rfl
              refine wpAnyH_take (i := 23) (v := ?_) rfl (by kernel_rfl) (by kernel_rfl) (by kernel_rfl) (fun _ _ _ h => h) (Or.inl ⟨by kernel_rfl, ?_⟩) hHeld ?_
              rotate_left
              · intro w' hS'
                clear hS'
                go_simp
                try with_reducible rfl
              refine wpAnyH_take (i := 24) (v := ?_) rfl (by kernel_rfl) (by kernel_rfl) (by kernel_rfl) (fun _ _ _ h => h) (Or.inl ⟨by kernel_rfl, ?_⟩) hHeld ?_
              rotate_left
              · intro w' hS'
                clear hS'
                go_simp
                try with_reducible rfl
              refine wpAnyH_take (i := 25) (v := ?_) rfl (by kernel_rfl) (by kernel_rfl) (by kernel_rfl) (fun _ _ _ h => h) (Or.inl ⟨by kernel_rfl, ?_⟩) hHeld ?_
              rotate_left
              · intro w' hS'
                obtain ⟨x0, x1, x2⟩ := hS'
                go_simp
                try with_reducible rfl
              refine wpAnyH_take (i := 27) (v := ?_) rfl (by kernel_rfl) (by kernel_rfl) (by kernel_rfl) (fun _ _ _ h => h) (Or.inl ⟨by kernel_rfl, ?_⟩) hHeld ?_
              rotate_left
              · intro w' hS'
                obtain ⟨x0, x1, x2⟩ := hS'
                go_simp
                try with_reducible rfl
              refine wpAnyH_ready (rs := [26]) (by kernel_rfl) (by simp) ?_
              refine AllReadyH.cons rfl (fun K hK => ?_) AllReadyH.nil
              go_simp
              go_at_call 23
              (with_reducible refine (unhide (hVN w10 hB10)).mono ?_)
              rintro e w11 ⟨rfl, hb11⟩
              have hB11 := hB10.trans (hb11.mono hB10.size)
              refine hK.out _ _ ?_ ?_
              · exact (hS4.below hB11).cells
              clear hHeld
              intro hHeld
              clear hK K
              refine wpAnyH_ready (rs := [28]) (by kernel_rfl) (by simp) ?_
              refine AllReadyH.cons rfl (fun K hK => ?_) AllReadyH.nil
              go_simp
              go_at_call 25
              (with_reducible refine (unhide (hSI w11 hB11)).mono ?_)
              rintro e w12 ⟨rfl, hb12⟩
              have hB12 := hB11.trans (hb12.mono hB11.size)
              refine hK.out _ _ ?_ ?_
              · exact (hS4.below hB12).cells
              clear hHeld
              intro hHeld
              clear hK K
              refine wpAnyH_take (i := 29) (v := ?_) rfl (by kernel_rfl) (by kernel_rfl) (by kernel_rfl) (fun _ _ _ h => h) (Or.inl ⟨by kernel_rfl, ?_⟩) hHeld ?_
              rotate_left
              · intro w' hS'
                clear hS'
                go_simp
                try with_reducible rfl
              refine wpAnyH_take (i := 30) (v := ?_) rfl (by kernel_rfl) (by kernel_rfl) (by kernel_rfl) (fun _ _ _ h => h) (Or.inl ⟨by kernel_rfl, ?_⟩) hHeld ?_
              rotate_left
              · intro w' hS'
                clear hS'
                go_simp
                try with_reducible rfl
              refine wpAnyH_take (i := 31) (v := ?_) rfl (by kernel_rfl) (by kernel_rfl) (by kernel_rfl) (fun _ _ _ h => h) (Or.inl ⟨by kernel_rfl, ?_⟩) hHeld ?_
              rotate_left
              · intro w' hS'
                clear hS'
                go_simp
                try with_reducible rfl
              refine wpAnyH_ready (rs := [32]) (by kernel_rfl) (by simp) ?_
              refine AllReadyH.cons rfl (fun K hK => ?_) AllReadyH.nil
              go_simp
              go_at_call 19
              (with_reducible refine (unhide (hide (alive_any w12))).mono ?_)
              rintro e w13 ⟨rfl, hb13⟩
              have hB13 := hB12.trans (hb13.mono hB12.size)
              refine hK.out _ _ ?_ ?_
              · exact (hS4.below hB13).cells
              clear hHeld
              intro hHeld
              clear hK K
              refine wpAnyH_take (i := 33) (v := ?_) rfl (by kernel_rfl) (by kernel_rfl) (by kernel_rfl) (fun _ _ _ h => h) (Or.inl ⟨by kernel_rfl, ?_⟩) hHeld ?_
              rotate_left
              · intro w' hS'
                clear hS'
                go_simp
                try with_reducible rfl
              refine wpAnyH_take (i := 34) (v := ?_) rfl (by kernel_rfl) (by kernel_rfl) (by kernel_rfl) (fun _ _ _ h => h) (Or.inl ⟨by kernel_rfl, ?_⟩) hHeld ?_
              rotate_left
              · intro w' hS'
                clear hS'
                go_simp
                try with_reducible rfl
              refine wpAnyH_done (by kernel_rfl) ?_ _
              go_simp
              go_wp2_with fail
              go_ret
              exact ⟨rfl, hbel.trans (hB13.mono hbel.size)⟩
          · go_simp
            have hB6 := hB5.alloc hB5.size (.cells #[.int .i64 (-1), .bool false] 40)
            have b6 := Blk.new w5 40 #[.int .i64 (-1), .bool false]
            obtain ⟨g19, hg19⟩ : ∃ g19, w5.heap.size = g19 := ⟨_, rfl⟩
            have hl19 : w4.heap.size ≤ g19 := by rw [← hg19]; exact hB5.size
            simp only [hg19] at b6 ⊢
            generalize w5.alloc (.cells #[.int .i64 (-1), .bool false] 40) = w6 at *
            refine hK.out _ _ ?_ ?_
            · exact (hS4.below hB6).cells
            clear hHeld
            intro hHeld
            clear hK K
            refine wpAnyH_ready (rs := [15]) (by kernel_rfl) (by simp) ?_
            refine AllReadyH.cons rfl (fun K hK => ?_) AllReadyH.nil
            go_simp
            have hB7 := hB6.alloc hB6.size (.cells #[] 40)
            have o7 : (w6.alloc (.cells #[] 40)).ownsRow w4.heap.size 40 2 (.slice (some ⟨w6.heap.size, 0, none⟩) 0 0) 0 (pc []) := by
              have := World.ownsRow_made (base := w4.heap.size) (e := 40) (size := 2) w6 #[] 0 (hB6.size) (by simp [maxLen]) (by simp)
              simpa [pc] using this
            have b7 := b6.alloc (.cells #[] 40)
            obtain ⟨g15, hg15⟩ : ∃ g15, w6.heap.size = g15 := ⟨_, rfl⟩
            have hl15 : w4.heap.size ≤ g15 := by rw [← hg15]; exact hB6.size
            simp only [hg15] at o7 ⊢
            have hne : g19 < g15 := by rw [← hg15]; exact b6.lt
            generalize w6.alloc (.cells #[] 40) = w7 at *
            refine hK.out _ _ ?_ ?_
            · exact (hS4.below hB7).cells
            clear hHeld
            intro hHeld
            clear hK K
            refine wpAnyH_ready (rs := [17]) (by kernel_rfl) (by simp) ?_
            refine AllReadyH.cons rfl (fun K hK => ?_) AllReadyH.nil
            refine step_appN_ps (by rfl) _ _ _ rfl w4.heap.size Try.underlying35 g15 rfl o7 _ _ _ [p1] rfl (hp4.below hB7).rd (by omega) hB7.size ?_
            intro A17 c17 w8 o8 hgr8
            have hB8 := hB7.grown hgr8 hB7.size (fun k hk => by simp at hk; omega)
            have b8 := b7.grown hgr8 (by simp; omega)
            refine hK.out _ _ ?_ ?_
            · exact (hS4.below hB8).cells
            clear hHeld
            intro hHeld
            clear hK K
            refine wpAnyH_ready (rs := [20]) (by kernel_rfl) (by simp) ?_
            refine AllReadyH.cons rfl (fun K hK => ?_) AllReadyH.nil
            refine step_app_ps (by rfl) _ _ _ rfl w4.heap.size Try.underlying35 A17 c17 [p1] rfl o8 g19 (-1) false rfl b8 (by omega) hB8.size ?_
            intro A20 c20 w9 o9 hgr9
            have hB9 := hB8.grown hgr9 hB8.size (fun k hk => own_block_ge o8 hk)
            have hV20 := hVV w9 hB9 A20 ([p1].length + 1) c20 ([p1] ++ [(-1, false)]) (by simp) (Reads.of_own o9) (by omega)
            rw [hlaw2] at hV20
            refine hK.out _ _ ?_ ?_
            · exact (hS4.below hB9).cells
            clear hHeld
            intro hHeld
            clear hK K
            refine wpAnyH_ready (rs := [21]) (by kernel_rfl) (by simp) ?_
            refine AllReadyH.cons rfl (fun K hK => ?_) AllReadyH.nil
            go_simp
            go_at_call 23
            (refine (unhide hV20).mono ?_)
            rintro e w10 ⟨rfl, hb10⟩
            have hB10 := hB9.trans (hb10.mono hB9.size)
            refine hK.out _ _ ?_ ?_
            · exact (hS4.below hB10).cells
            clear hHeld
            intro hHeld
            clear hK K
            refine wpAnyH_take (i := 22) (v := ?_) rfl (by kernel_rfl) (by kernel_rfl) (by kernel_rfl) (fun _ _ _ h => h) (Or.inl ⟨by kernel_rfl, ?_⟩) hHeld ?_
            rotate_left
            · intro w' hS'
              clear hS'
              go_simp
              try with_reducible rfl
            refine wpAnyH_take (i := 23) (v := ?_) rfl (by kernel_rfl) (by kernel_rfl) (by kernel_rfl) (fun _ _ _ h => h) (Or.inl ⟨by kernel_rfl, ?_⟩) hHeld ?_
            rotate_left
            · intro w' hS'
              clear hS'
              go_simp
              try with_reducible rfl
            refine wpAnyH_take (i := 24) (v := ?_) rfl (by kernel_rfl) (by kernel_rfl) (by kernel_rfl) (fun _ _ _ h => h) (Or.inl ⟨by kernel_rfl, ?_⟩) hHeld ?_
            rotate_left
            · intro w' hS'
              clear hS'
              go_simp
              try with_reducible rfl
            refine wpAnyH_take (i := 25) (v := ?_) rfl (by kernel_rfl) (by kernel_rfl) (by kernel_rfl) (fun _ _ _ h => h) (Or.inl ⟨by kernel_rfl, ?_⟩) hHeld ?_
            rotate_left
            · intro w' hS'
              obtain ⟨x0, x1, x2⟩ := hS'
              go_simp
              try with_reducible rfl
            refine wpAnyH_take (i := 27) (v := ?_) rfl (by kernel_rfl) (by kernel_rfl) (by kernel_rfl) (fun _ _ _ h => h) (Or.inl ⟨by kernel_rfl, ?_⟩) hHeld ?_
            rotate_left
            · intro w' hS'
              obtain ⟨x0, x1, x2⟩ := hS'
              go_simp
              try with_reducible rfl
            refine wpAnyH_ready (rs := [26]) (by kernel_rfl) (by simp) ?_
            refine AllReadyH.cons rfl (fun K hK => ?_) AllReadyH.nil
            go_simp
            go_at_call 23
            (with_reducible refine (unhide (hVN w10 hB10)).mono ?_)
            rintro e w11 ⟨rfl, hb11⟩
            have hB11 := hB10.trans (hb11.mono hB10.size)
            refine hK.out _ _ ?_ ?_
            · exact (hS4.below hB11).cells
            clear hHeld
            intro hHeld
            clear hK K
            refine wpAnyH_ready (rs := [28]) (by kernel_rfl) (by simp) ?_
            refine AllReadyH.cons rfl (fun K hK => ?_) AllReadyH.nil
            go_simp
            go_at_call 25
            (with_reducible refine (unhide (hSI w11 hB11)).mono ?_)
            rintro e w12 ⟨rfl, hb12⟩
            have hB12 := hB11.trans (hb12.mono hB11.size)
            refine hK.out _ _ ?_ ?_
            · exact (hS4.below hB12).cells
            clear hHeld
            intro hHeld
            clear hK K
            refine wpAnyH_take (i := 29) (v := ?_) rfl (by kernel_rfl) (by kernel_rfl) (by kernel_rfl) (fun _ _ _ h => h) (Or.inl ⟨by kernel_rfl, ?_⟩) hHeld ?_
            rotate_left
            · intro w' hS'
              clear hS'
              go_simp
              try with_reducible rfl
            refine wpAnyH_take (i := 30) (v := ?_) rfl (by kernel_rfl) (by kernel_rfl) (by kernel_rfl) (fun _ _ _ h => h) (Or.inl ⟨by kernel_rfl, ?_⟩) hHeld ?_
            rotate_left
            · intro w' hS'
              clear hS'
              go_simp
              try with_reducible rfl
            refine wpAnyH_take (i := 31) (v := ?_) rfl (by kernel_rfl) (by kernel_rfl) (by kernel_rfl) (fun _ _ _ h => h) (Or.inl ⟨by kernel_rfl, ?_⟩) hHeld ?_
            rotate_left
            · intro w' hS'
              clear hS'
              go_simp
              try with_reducible rfl
            refine wpAnyH_ready (rs := [32]) (by kernel_rfl) (by simp) ?_
            refine AllReadyH.cons rfl (fun K hK => ?_) AllReadyH.nil
            go_simp
            go_at_call 19
            (with_reducible refine (unhide (hide (alive_any w12))).mono ?_)
            rintro e w13 ⟨rfl, hb13⟩
            have hB13 := hB12.trans (hb13.mono hB12.size)
            refine hK.out _ _ ?_ ?_
            · exact (hS4.below hB13).cells
            clear hHeld
            intro hHeld
            clear hK K
            refine wpAnyH_take (i := 33) (v := ?_) rfl (by kernel_rfl) (by kernel_rfl) (by kernel_rfl) (fun _ _ _ h => h) (Or.inl ⟨by kernel_rfl, ?_⟩) hHeld ?_
            rotate_left
            · intro w' hS'
              clear hS'
              go_simp
              try with_reducible rfl
            refine wpAnyH_take (i := 34) (v := ?_) rfl (by kernel_rfl) (by kernel_rfl) (by kernel_rfl) (fun _ _ _ h => h) (Or.inl ⟨by kernel_rfl, ?_⟩) hHeld ?_
            rotate_left
            · intro w' hS'
              clear hS'
              go_simp
              try with_reducible rfl
            refine wpAnyH_done (by kernel_rfl) ?_ _
            go_simp
            go_wp2_with fail
            go_ret
            exact ⟨rfl, hbel.trans (hB13.mono hbel.size)⟩
        ·
          go_upto_region 7 with fail
          have hd0 := (Below.refl w4.heap.size w4).drew
          have hbel := hS4.bel
          have hVV := fun (w' : World) (h : Below w4.heap.size w4 w') (P : Option Addr) (m d : Nat) (qs : List (Int × Bool)) (hm : qs.length = m) (hq : Reads w' w'.heap.size 2 P m (pc qs)) (hmm : m ≤ 99) => hide (PushesValidI_any W T A2 bs.length c2 w'.heap.size bs P m d w'.heap.size qs w' rfl (hS4.below h).rd (Nat.le_refl _) (by omega) hm hq (Nat.le_refl _) (by omega))
          have hSI := fun (w' : World) (h : Below w4.heap.size w4 w') => hide (SimpleI_any W T A2 bs.length c2 w'.heap.size bs w' (hS4.below h).rd (Nat.le_refl _) (by omega))
          simp only [hsb] at hSI
          have hVN := fun (w' : World) (h : Below w4.heap.size w4 w') => hVV w' h none 0 0 [] rfl ⟨rfl, fun h => absurd h (by omega)⟩ (by omega)
          simp only [hlaw3] at hVN
          have hVT := fun (w' : World) (h : Below w4.heap.size w4 w') => hVV w' h (PA.map (·.add (1 * 2))) (ps.length - 1) (pd - 1) (ps.drop 1) List.length_drop (by have := (hp4.below h).rd.cutP h1 hcapp; rw [if_neg hpd] at this; exact this) (by omega)
          have hlaw1 := hlaw1 (by first | exact trivial | rfl)
          simp only [hlaw1] at hVT
          refine wp_region_held_drew (S := (fun w' => w'.cell? ⟨x, 0, none⟩ = some (.int .i64 W) ∧ w'.cell? ⟨x, 1, none⟩ = some (.int .i64 T) ∧ w'.cell? ⟨x, 2, none⟩ = some (.slice A2 bs.length c2))) (by kernel_rfl) (hS4.below hd0).cells ?_
          intro hHeld
          generalize w4.drew = wd at *
          refine wpAnyH_take (i := 0) (v := ?_) rfl (by kernel_rfl) (by kernel_rfl) (by kernel_rfl) (fun _ _ _ h => h) (Or.inl ⟨by kernel_rfl, ?_⟩) hHeld ?_
          rotate_left
          · intro w' hS'
            clear hS'
            go_simp
            try with_reducible rfl
          refine wpAnyH_take (i := 1) (v := ?_) rfl (by kernel_rfl) (by kernel_rfl) (by kernel_rfl) (fun _ _ _ h => h) (Or.inl ⟨by kernel_rfl, ?_⟩) hHeld ?_
          rotate_left
          · intro w' hS'
            clear hS'
            go_simp
            try with_reducible rfl
          refine wpAnyH_take (i := 2) (v := ?_) rfl (by kernel_rfl) (by kernel_rfl) (by kernel_rfl) (fun _ _ _ h => h) (Or.inl ⟨by kernel_rfl, ?_⟩) hHeld ?_
          rotate_left
          · intro w' hS'
            clear hS'
            go_simp
            try with_reducible rfl
          refine wpAnyH_take (i := 3) (v := ?_) rfl (by kernel_rfl) (by kernel_rfl) (by kernel_rfl) (fun _ _ _ h => h) (Or.inl ⟨by kernel_rfl, ?_⟩) hHeld ?_
          rotate_left
          · intro w' hS'
            clear hS'
            go_simp
            try with_reducible rfl
          refine wpAnyH_take (i := 4) (v := ?_) rfl (by kernel_rfl) (by kernel_rfl) (by kernel_rfl) (fun _ _ _ h => h) (Or.inl ⟨by kernel_rfl, ?_⟩) hHeld ?_
          rotate_left
          · intro w' hS'
            clear hS'
            go_simp
            try with_reducible rfl
          refine wpAnyH_take (i := 5) (v := ?_) rfl (by kernel_rfl) (by kernel_rfl) (by kernel_rfl) (fun _ _ _ h => h) (Or.inl ⟨by kernel_rfl, ?_⟩) hHeld ?_
          rotate_left
          · intro w' hS'
            clear hS'
            go_simp
            try with_reducible rfl
          refine wpAnyH_take (i := 6) (v := ?_) rfl (by kernel_rfl) (by kernel_rfl) (by kernel_rfl) (fun _ _ _ h => h) (Or.inl ⟨by kernel_rfl, ?_⟩) hHeld ?_
          rotate_left
          · intro w' hS'
            clear hS'
            go_simp
            try with_reducible rfl
          refine wpAnyH_take (i := 7) (v := ?_) rfl (by kernel_rfl) (by kernel_rfl) (by kernel_rfl) (fun _ _ _ h => h) (Or.inl ⟨by kernel_rfl, ?_⟩) hHeld ?_
          rotate_left
          · intro w' hS'
            clear hS'
            go_simp
            try with_reducible rfl
          refine wpAnyH_take (i := 8) (v := ?_) rfl (by kernel_rfl) (by kernel_rfl) (by kernel_rfl) (fun _ _ _ h => h) (Or.inl ⟨by kernel_rfl, ?_⟩) hHeld ?_
          rotate_left
          · intro w' hS'
            obtain ⟨x0, x1, x2⟩ := hS'
            go_simp
            try with_reducible rfl
          refine wpAnyH_take (i := 9) (v := ?_) rfl (by kernel_rfl) (by kernel_rfl) (by kernel_rfl) (fun _ _ _ h => h) (Or.inl ⟨by kernel_rfl, ?_⟩) hHeld ?_
          rotate_left
          · intro w' hS'
            clear hS'
            go_simp
            try with_reducible rfl
          refine wpAnyH_take (i := 10) (v := ?_) rfl (by kernel_rfl) (by kernel_rfl) (by kernel_rfl) (fun _ _ _ h => h) (Or.inl ⟨by kernel_rfl, ?_⟩) hHeld ?_
          rotate_left
          · intro w' hS'
            clear hS'
            go_simp
            try with_reducible rfl
          refine wpAnyH_ready (rs := [11]) (by kernel_rfl) (by simp) ?_
          refine AllReadyH.cons rfl (fun K hK => ?_) AllReadyH.nil
          go_simp
          go_at_call 23
          (refine (unhide (hVT wd hd0)).mono ?_)
          rintro e w5 ⟨rfl, hb5⟩
          have hB5 := hd0.trans (hb5.mono hd0.size)
          refine hK.out _ _ ?_ ?_
          · exact (hS4.below hB5).cells
          clear hHeld
          intro hHeld
          clear hK K
          refine wpAnyH_take (i := 12) (v := ?_) rfl (by kernel_rfl) (by kernel_rfl) (by kernel_rfl) (fun _ _ _ h => h) (Or.inl ⟨by kernel_rfl, ?_⟩) hHeld ?_
          rotate_left
          · intro w' hS'
            clear hS'
            go_simp
            try with_reducible rfl
          refine wpAnyH_take (i := 13) (v := ?_) rfl (by kernel_rfl) (by kernel_rfl) (by kernel_rfl) (fun _ _ _ h => h) (Or.inl ⟨by kernel_rfl, ?_⟩) hHeld ?_
          rotate_left
          · intro w' hS'
            clear hS'
            go_simp
            try with_reducible rfl
          refine wpAnyH_take (i := 14) (v := ?_) rfl (by kernel_rfl) (by kernel_rfl) (by kernel_rfl) (fun _ _ _ h => h) (Or.inl ⟨by kernel_rfl, ?_⟩) hHeld ?_
          rotate_left
          · intro w' hS'
            obtain ⟨x0, x1, x2⟩ := hS'
            go_simp
            try with_reducible rfl
          refine wpAnyH_take (i := 16) (v := ?_) rfl (by kernel_rfl) (by kernel_rfl) (by kernel_rfl) (fun _ _ _ h => h) (Or.inl ⟨by kernel_rfl, ?_⟩) hHeld ?_
          rotate_left
          · intro w' hS'
            clear hS'
            go_simp
            try with_reducible rfl
          refine wpAnyH_take (i := 18) (v := ?_) rfl (by kernel_rfl) (by kernel_rfl) (by kernel_rfl) (fun _ _ _ h => h) (Or.inl ⟨by kernel_rfl, ?_⟩) hHeld ?_
          rotate_left
          · intro w' hS'
            clear hS'
            go_simp
            try with_reducible rfl
          refine wpAnyH_ready (rs := [15, 19]) (by kernel_rfl) (by simp) ?_
          refine AllReadyH.cons rfl (fun K hK => ?_) (AllReadyH.cons rfl (fun K hK => ?_) AllReadyH.nil)
          · go_simp
            have hB6 := hB5.alloc hB5.size (.cells #[] 40)
            have o6 : (w5.alloc (.cells #[] 40)).ownsRow w4.heap.size 40 2 (.slice (some ⟨w5.heap.size, 0, none⟩) 0 0) 0 (pc []) := by
              have := World.ownsRow_made (base := w4.heap.size) (e := 40) (size := 2) w5 #[] 0 (hB5.size) (by simp [maxLen]) (by simp)
              simpa [pc] using this
            obtain ⟨g15, hg15⟩ : ∃ g15, w5.heap.size = g15 := ⟨_, rfl⟩
            have hl15 : w4.heap.size ≤ g15 := by rw [← hg15]; exact hB5.size
            simp only [hg15] at o6 ⊢
            generalize w5.alloc (.cells #[] 40) = w6 at *
            refine hK.out _ _ ?_ ?_
            · exact (hS4.below hB6).cells
            clear hHeld
            intro hHeld
            clear hK K
            refine wpAnyH_ready (rs := [17, 19]) (by kernel_rfl) (by simp) ?_
            refine AllReadyH.cons rfl (fun K hK => ?_) (AllReadyH.cons rfl (fun K hK => ?_) AllReadyH.nil)
            · refine step_appN_ps (by rfl) _ _ _ rfl w4.heap.size Try.underlying35 g15 rfl o6 _ _ _ ps rfl (hp4.below hB6).rd (by omega) hB6.size ?_
              intro A17 c17 w7 o7 hgr7
              have hB7 := hB6.grown hgr7 hB6.size (fun k hk => by simp at hk; omega)
              refine hK.out _ _ ?_ ?_
              · exact (hS4.below hB7).cells
              clear hHeld
              intro hHeld
              clear hK K
              refine wpAnyH_ready (rs := [19]) (by kernel_rfl) (by simp) ?_
              refine AllReadyH.cons rfl (fun K hK => ?_) AllReadyH.nil
              go_simp
              have hB8 := hB7.alloc hB7.size (.cells #[.int .i64 (-1), .bool false] 40)
              have b8 := Blk.new w7 40 #[.int .i64 (-1), .bool false]
              have o8 := o7.alloc (.cells #[.int .i64 (-1), .bool false] 40)
              obtain ⟨g19, hg19⟩ : ∃ g19, w7.heap.size = g19 := ⟨_, rfl⟩
              have hl19 : w4.heap.size ≤ g19 := by rw [← hg19]; exact hB7.size
              simp only [hg19] at b8 ⊢
              generalize w7.alloc (.cells #[.int .i64 (-1), .bool false] 40) = w8 at *
              refine hK.out _ _ ?_ ?_
              · exact (hS4.below hB8).cells
              clear hHeld
              intro hHeld
              clear hK K
              refine wpAnyH_ready (rs := [20]) (by kernel_rfl) (by simp) ?_
              refine AllReadyH.cons rfl (fun K hK => ?_) AllReadyH.nil
              refine step_app_ps (by rfl) _ _ _ rfl w4.heap.size Try.underlying35 A17 c17 ps rfl o8 g19 (-1) false rfl b8 (by omega) hB8.size ?_
              intro A20 c20 w9 o9 hgr9
              have hB9 := hB8.grown hgr9 hB8.size (fun k hk => own_block_ge o8 hk)
              have hV20 := hVV w9 hB9 A20 (ps.length + 1) c20 (ps ++ [(-1, false)]) (by simp) (Reads.of_own o9) (by omega)
              rw [hlaw2] at hV20
              refine hK.out _ _ ?_ ?_
              · exact (hS4.below hB9).cells
              clear hHeld
              intro hHeld
              clear hK K
              refine wpAnyH_ready (rs := [21]) (by kernel_rfl) (by simp) ?_
              refine AllReadyH.cons rfl (fun K hK => ?_) AllReadyH.nil
              go_simp
              go_at_call 23
              (with_reducible refine (unhide (hV20)).mono ?_)
              rintro e w10 ⟨rfl, hb10⟩
              have hB10 := hB9.trans (hb10.mono hB9.size)
              refine hK.out _ _ ?_ ?_
              · exact (hS4.below hB10).cells
              clear hHeld
              intro hHeld
              clear hK K
              refine wpAnyH_take (i := 22) (v := ?_) rfl (by kernel_rfl) (by kernel_rfl) (by kernel_rfl) (fun _ _ _ h => h) (Or.inl ⟨by kernel_rfl, ?_⟩) hHeld ?_
              rotate_left
              · intro w' hS'
                clear hS'
                go_simp
                try with_reducible rfl
              refine wpAnyH_take (i := 23) (v := ?_) rfl (by kernel_rfl) (by kernel_rfl) (by kernel_rfl) (fun _ _ _ h => h) (Or.inl ⟨by kernel_rfl, ?_⟩) hHeld ?_
              rotate_left
              · intro w' hS'
                clear hS'
                go_simp
                try with_reducible rfl
              refine wpAnyH_take (i := 24) (v := ?_) rfl (by kernel_rfl) (by kernel_rfl) (by kernel_rfl) (fun _ _ _ h => h) (Or.inl ⟨by kernel_rfl, ?_⟩) hHeld ?_
              rotate_left
              · intro w' hS'
                clear hS'
                go_simp
                try with_reducible rfl
              refine wpAnyH_take (i := 25) (v := ?_) rfl (by kernel_rfl) (by kernel_rfl) (by kernel_rfl) (fun _ _ _ h => h) (Or.inl ⟨by kernel_rfl, ?_⟩) hHeld ?_
              rotate_left
              · intro w' hS'
                obtain ⟨x0, x1, x2⟩ := hS'
                go_simp
                try with_reducible rfl
              refine wpAnyH_take (i := 27) (v := ?_) rfl (by kernel_rfl) (by kernel_rfl) (by kernel_rfl) (fun _ _ _ h => h) (Or.inl ⟨by kernel_rfl, ?_⟩) hHeld ?_
              rotate_left
              · intro w' hS'
                obtain ⟨x0, x1, x2⟩ := hS'
                go_simp
                try with_reducible rfl
              refine wpAnyH_ready (rs := [26]) (by kernel_rfl) (by simp) ?_
              refine AllReadyH.cons rfl (fun K hK => ?_) AllReadyH.nil
              go_simp
              go_at_call 23
              (with_reducible refine (unhide (hVN w10 hB10)).mono ?_)
              rintro e w11 ⟨rfl, hb11⟩
              have hB11 := hB10.trans (hb11.mono hB10.size)
              refine hK.out _ _ ?_ ?_
              · exact (hS4.below hB11).cells
              clear hHeld
              intro hHeld
              clear hK K
              refine wpAnyH_ready (rs := [28]) (by kernel_rfl) (by simp) ?_
              refine AllReadyH.cons rfl (fun K hK => ?_) AllReadyH.nil
              go_simp
              go_at_call 25
              (with_reducible refine (unhide (hSI w11 hB11)).mono ?_)
              rintro e w12 ⟨rfl, hb12⟩
              have hB12 := hB11.trans (hb12.mono hB11.size)
              refine hK.out _ _ ?_ ?_
              · exact (hS4.below hB12).cells
              clear hHeld
              intro hHeld
              clear hK K
              refine wpAnyH_take (i := 29) (v := ?_) rfl (by kernel_rfl) (by kernel_rfl) (by kernel_rfl) (fun _ _ _ h => h) (Or.inl ⟨by kernel_rfl, ?_⟩) hHeld ?_
              rotate_left
              · intro w' hS'
                clear hS'
                go_simp
                try with_reducible rfl
              refine wpAnyH_take (i := 30) (v := ?_) rfl (by kernel_rfl) (by kernel_rfl) (by kernel_rfl) (fun _ _ _ h => h) (Or.inl ⟨by kernel_rfl, ?_⟩) hHeld ?_
              rotate_left
              · intro w' hS'
                clear hS'
                go_simp
                try with_reducible rfl
              refine wpAnyH_take (i := 31) (v := ?_) rfl (by kernel_rfl) (by kernel_rfl) (by kernel_rfl) (fun _ _ _ h => h) (Or.inl ⟨by kernel_rfl, ?_⟩) hHeld ?_
              rotate_left
              · intro w' hS'
                clear hS'
                go_simp
                try with_reducible rfl
              refine wpAnyH_ready (rs := [32]) (by kernel_rfl) (by simp) ?_
              refine AllReadyH.cons rfl (fun K hK => ?_) AllReadyH.nil
              go_simp
              go_at_call 19
              (with_reducible refine (unhide (hide (alive_any w12))).mono ?_)
              rintro e w13 ⟨rfl, hb13⟩
              have hB13 := hB12.trans (hb13.mono hB12.size)
              refine hK.out _ _ ?_ ?_
              · exact (hS4.below hB13).cells
              clear hHeld
              intro hHeld
              clear hK K
              refine wpAnyH_take (i := 33) (v := ?_) rfl (by kernel_rfl) (by kernel_rfl) (by kernel_rfl) (fun _ _ _ h => h) (Or.inl ⟨by kernel_rfl, ?_⟩) hHeld ?_
              rotate_left
              · intro w' hS'
                clear hS'
                go_simp
                try with_reducible rfl
              refine wpAnyH_take (i := 34) (v := ?_) rfl (by kernel_rfl) (by kernel_rfl) (by kernel_rfl) (fun _ _ _ h => h) (Or.inl ⟨by kernel_rfl, ?_⟩) hHeld ?_
              rotate_left
              · intro w' hS'
                clear hS'
                go_simp
                try with_reducible rfl
              refine wpAnyH_done (by kernel_rfl) ?_ _
              go_simp
              go_wp2_with fail
              go_ret
              exact ⟨rfl, hbel.trans (hB13.mono hbel.size)⟩
            · go_simp
              have hB7 := hB6.alloc hB6.size (.cells #[.int .i64 (-1), .bool false] 40)
              have b7 := Blk.new w6 40 #[.int .i64 (-1), .bool false]
              have o7 := o6.alloc (.cells #[.int .i64 (-1), .bool false] 40)
              obtain ⟨g19, hg19⟩ : ∃ g19, w6.heap.size = g19 := ⟨_, rfl⟩
              have hl19 : w4.heap.size ≤ g19 := by rw [← hg19]; exact hB6.size
              simp only [hg19] at b7 ⊢
              have hne : g15 < g19 := by rw [← hg19]; exact (own_lt o6 rfl).2
              generalize w6.alloc (.cells #[.int .i64 (-1), .bool false] 40) = w7 at *
              refine hK.out _ _ ?_ ?_
              · exact (hS4.below hB7).cells
              clear hHeld
              intro hHeld
              clear hK K
              refine wpAnyH_ready (rs := [17]) (by kernel_rfl) (by simp) ?_
              refine AllReadyH.cons rfl (fun K hK => ?_) AllReadyH.nil
              refine step_appN_ps (by rfl) _ _ _ rfl w4.heap.size Try.underlying35 g15 rfl o7 _ _ _ ps rfl (hp4.below hB7).rd (by omega) hB7.size ?_
              intro A17 c17 w8 o8 hgr8
              have hB8 := hB7.grown hgr8 hB7.size (fun k hk => by simp at hk; omega)
              have b8 := b7.grown hgr8 (by simp; omega)
              refine hK.out _ _ ?_ ?_
              · exact (hS4.below hB8).cells
              clear hHeld
              intro hHeld
              clear hK K
              refine wpAnyH_ready (rs := [20]) (by kernel_rfl) (by simp) ?_
              refine AllReadyH.cons rfl (fun K hK => ?_) AllReadyH.nil
              refine step_app_ps (by rfl) _ _ _ rfl w4.heap.size Try.underlying35 A17 c17 ps rfl o8 g19 (-1) false rfl b8 (by omega) hB8.size ?_
              intro A20 c20 w9 o9 hgr9
              have hB9 := hB8.grown hgr9 hB8.size (fun k hk => own_block_ge o8 hk)
              have hV20 := hVV w9 hB9 A20 (ps.length + 1) c20 (ps ++ [(-1, false)]) (by simp) (Reads.of_own o9) (by omega)
              rw [hlaw2] at hV20
              refine hK.out _ _ ?_ ?_
              · exact (hS4.below hB9).cells
              clear hHeld
              intro hHeld
              clear hK K
              refine wpAnyH_ready (rs := [21]) (by kernel_rfl) (by simp) ?_
              refine AllReadyH.cons rfl (fun K hK => ?_) AllReadyH.nil
              go_simp
              go_at_call 23
              (with_reducible refine (unhide (hV20)).mono ?_)
              rintro e w10 ⟨rfl, hb10⟩
              have hB10 := hB9.trans (hb10.mono hB9.size)
              refine hK.out _ _ ?_ ?_
              · exact (hS4.below hB10).cells
              clear hHeld
              intro hHeld
              clear hK K
              refine wpAnyH_take (i := 22) (v := ?_) rfl (by kernel_rfl) (by kernel_rfl) (by kernel_rfl) (fun _ _ _ h => h) (Or.inl ⟨by kernel_rfl, ?_⟩) hHeld ?_
              rotate_left
              · intro w' hS'
                clear hS'
                go_simp
                try with_reducible rfl
              refine wpAnyH_take (i := 23) (v := ?_) rfl (by kernel_rfl) (by kernel_rfl) (by kernel_rfl) (fun _ _ _ h => h) (Or.inl ⟨by kernel_rfl, ?_⟩) hHeld ?_
              rotate_left
              · intro w' hS'
                clear hS'
                go_simp
                try with_reducible rfl
              refine wpAnyH_take (i := 24) (v := ?_) rfl (by kernel_rfl) (by kernel_rfl) (by kernel_rfl) (fun _ _ _ h => h) (Or.inl ⟨by kernel_rfl, ?_⟩) hHeld ?_
              rotate_left
              · intro w' hS'
                clear hS'
                go_simp
                try with_reducible rfl
              refine wpAnyH_take (i := 25) (v := ?_) rfl (by kernel_rfl) (by kernel_rfl) (by kernel_rfl) (fun _ _ _ h => h) (Or.inl ⟨by kernel_rfl, ?_⟩) hHeld ?_
              rotate_left
              · intro w' hS'
                obtain ⟨x0, x1, x2⟩ := hS'
                go_simp
                try with_reducible rfl
              refine wpAnyH_take (i := 27) (v := ?_) rfl (by kernel_rfl) (by kernel_rfl) (by kernel_rfl) (fun _ _ _ h => h) (Or.inl ⟨by kernel_rfl, ?_⟩) hHeld ?_
              rotate_left
              · intro w' hS'
                obtain ⟨x0, x1, x2⟩ := hS'
                go_simp
                try with_reducible rfl
              refine wpAnyH_ready (rs := [26]) (by kernel_rfl) (by simp) ?_
              refine AllReadyH.cons rfl (fun K hK => ?_) AllReadyH.nil
              go_simp
              go_at_call 23
              (with_reducible refine (unhide (hVN w10 hB10)).mono ?_)
              rintro e w11 ⟨rfl, hb11⟩
              have hB11 := hB10.trans (hb11.mono hB10.size)
              refine hK.out _ _ ?_ ?_
              · exact (hS4.below hB11).cells
              clear hHeld
              intro hHeld
              clear hK K
              refine wpAnyH_ready (rs := [28]) (by kernel_rfl) (by simp) ?_
              refine AllReadyH.cons rfl (fun K hK => ?_) AllReadyH.nil
              go_simp
              go_at_call 25
              (with_reducible refine (unhide (hSI w11 hB11)).mono ?_)
              rintro e w12 ⟨rfl, hb12⟩
              have hB12 := hB11.trans (hb12.mono hB11.size)
              refine hK.out _ _ ?_ ?_
              · exact (hS4.below hB12).cells
              clear hHeld
              intro hHeld
              clear hK K
              refine wpAnyH_take (i := 29) (v := ?_) rfl (by kernel_rfl) (by kernel_rfl) (by kernel_rfl) (fun _ _ _ h => h) (Or.inl ⟨by kernel_rfl, ?_⟩) hHeld ?_
              rotate_left
              · intro w' hS'
                clear hS'
                go_simp
                try with_reducible rfl
              refine wpAnyH_take (i := 30) (v := ?_) rfl (by kernel_rfl) (by kernel_rfl) (by kernel_rfl) (fun _ _ _ h => h) (Or.inl ⟨by kernel_rfl, ?_⟩) hHeld ?_
              rotate_left
              · intro w' hS'
                clear hS'
                go_simp
                try with_reducible rfl
              refine wpAnyH_take (i := 31) (v := ?_) rfl (by kernel_rfl) (by kernel_rfl) (by kernel_rfl) (fun _ _ _ h => h) (Or.inl ⟨by kernel_rfl, ?_⟩) hHeld ?_
              rotate_left
              · intro w' hS'
                clear hS'
                go_simp
                try with_reducible rfl
              refine wpAnyH_ready (rs := [32]) (by kernel_rfl) (by simp) ?_
              refine AllReadyH.cons rfl (fun K hK => ?_) AllReadyH.nil
              go_simp
              go_at_call 19
              (with_reducible refine (unhide (hide (alive_any w12))).mono ?_)
              rintro e w13 ⟨rfl, hb13⟩
              have hB13 := hB12.trans (hb13.mono hB12.size)
              refine hK.out _ _ ?_ ?_
              · exact (hS4.below hB13).cells
              clear hHeld
              intro hHeld
              clear hK K
              refine wpAnyH_take (i := 33) (v := ?_) rfl (by kernel_rfl) (by kernel_rfl) (by kernel_rfl) (fun _ _ _ h => h) (Or.inl ⟨by kernel_rfl, ?_⟩) hHeld ?_
              rotate_left
              · intro w' hS'
                clear hS'
                go_simp
                try with_reducible rfl
              refine wpAnyH_take (i := 34) (v := ?_) rfl (by kernel_rfl) (by kernel_rfl) (by kernel_rfl) (fun _ _ _ h => h) (Or.inl ⟨by kernel_rfl, ?_⟩) hHeld ?_
              rotate_left
              · intro w' hS'
                clear hS'
                go_simp
                try with_reducible rfl
              refine wpAnyH_done (by kernel_rfl) ?_ _
              go_simp
              go_wp2_with fail
              go_ret
              exact ⟨rfl, hbel.trans (hB13.mono hbel.size)⟩
          · go_simp
            have hB6 := hB5.alloc hB5.size (.cells #[.int .i64 (-1), .bool false] 40)
            have b6 := Blk.new w5 40 #[.int .i64 (-1), .bool false]
            obtain ⟨g19, hg19⟩ : ∃ g19, w5.heap.size = g19 := ⟨_, rfl⟩
            have hl19 : w4.heap.size ≤ g19 := by rw [← hg19]; exact hB5.size
            simp only [hg19] at b6 ⊢
            generalize w5.alloc (.cells #[.int .i64 (-1), .bool false] 40) = w6 at *
            refine hK.out _ _ ?_ ?_
            · exact (hS4.below hB6).cells
            clear hHeld
            intro hHeld
            clear hK K
            refine wpAnyH_ready (rs := [15]) (by kernel_rfl) (by simp) ?_
            refine AllReadyH.cons rfl (fun K hK => ?_) AllReadyH.nil
            go_simp
            have hB7 := hB6.alloc hB6.size (.cells #[] 40)
            have o7 : (w6.alloc (.cells #[] 40)).ownsRow w4.heap.size 40 2 (.slice (some ⟨w6.heap.size, 0, none⟩) 0 0) 0 (pc []) := by
              have := World.ownsRow_made (base := w4.heap.size) (e := 40) (size := 2) w6 #[] 0 (hB6.size) (by simp [maxLen]) (by simp)
              simpa [pc] using this
            have b7 := b6.alloc (.cells #[] 40)
            obtain ⟨g15, hg15⟩ : ∃ g15, w6.heap.size = g15 := ⟨_, rfl⟩
            have hl15 : w4.heap.size ≤ g15 := by rw [← hg15]; exact hB6.size
            simp only [hg15] at o7 ⊢
            have hne : g19 < g15 := by rw [← hg15]; exact b6.lt
            generalize w6.alloc (.cells #[] 40) = w7 at *
            refine hK.out _ _ ?_ ?_
            · exact (hS4.below hB7).cells
            clear hHeld
            intro hHeld
            clear hK K
            refine wpAnyH_ready (rs := [17]) (by kernel_rfl) (by simp) ?_
            refine AllReadyH.cons rfl (fun K hK => ?_) AllReadyH.nil
            refine step_appN_ps (by rfl) _ _ _ rfl w4.heap.size Try.underlying35 g15 rfl o7 _ _ _ ps rfl (hp4.below hB7).rd (by omega) hB7.size ?_
            intro A17 c17 w8 o8 hgr8
            have hB8 := hB7.grown hgr8 hB7.size (fun k hk => by simp at hk; omega)
            have b8 := b7.grown hgr8 (by simp; omega)
            refine hK.out _ _ ?_ ?_
            · exact (hS4.below hB8).cells
            clear hHeld
            intro hHeld
            clear hK K
            refine wpAnyH_ready (rs := [20]) (by kernel_rfl) (by simp) ?_
            refine AllReadyH.cons rfl (fun K hK => ?_) AllReadyH.nil
            refine step_app_ps (by rfl) _ _ _ rfl w4.heap.size Try.underlying35 A17 c17 ps rfl o8 g19 (-1) false rfl b8 (by omega) hB8.size ?_
            intro A20 c20 w9 o9 hgr9
            have hB9 := hB8.grown hgr9 hB8.size (fun k hk => own_block_ge o8 hk)
            have hV20 := hVV w9 hB9 A20 (ps.length + 1) c20 (ps ++ [(-1, false)]) (by simp) (Reads.of_own o9) (by omega)
            rw [hlaw2] at hV20
            refine hK.out _ _ ?_ ?_
            · exact (hS4.below hB9).cells
            clear hHeld
            intro hHeld
            clear hK K
            refine wpAnyH_ready (rs := [21]) (by kernel_rfl) (by simp) ?_
            refine AllReadyH.cons rfl (fun K hK => ?_) AllReadyH.nil
            go_simp
            go_at_call 23
            (with_reducible refine (unhide (hV20)).mono ?_)
            rintro e w10 ⟨rfl, hb10⟩
            have hB10 := hB9.trans (hb10.mono hB9.size)
            refine hK.out _ _ ?_ ?_
            · exact (hS4.below hB10).cells
            clear hHeld
            intro hHeld
            clear hK K
            refine wpAnyH_take (i := 22) (v := ?_) rfl (by kernel_rfl) (by kernel_rfl) (by kernel_rfl) (fun _ _ _ h => h) (Or.inl ⟨by kernel_rfl, ?_⟩) hHeld ?_
            rotate_left
            · intro w' hS'
              clear hS'
              go_simp
              try with_reducible rfl
            refine wpAnyH_take (i := 23) (v := ?_) rfl (by kernel_rfl) (by kernel_rfl) (by kernel_rfl) (fun _ _ _ h => h) (Or.inl ⟨by kernel_rfl, ?_⟩) hHeld ?_
            rotate_left
            · intro w' hS'
              clear hS'
              go_simp
              try with_reducible rfl
            refine wpAnyH_take (i := 24) (v := ?_) rfl (by kernel_rfl) (by kernel_rfl) (by kernel_rfl) (fun _ _ _ h => h) (Or.inl ⟨by kernel_rfl, ?_⟩) hHeld ?_
            rotate_left
            · intro w' hS'
              clear hS'
              go_simp
              try with_reducible rfl
            refine wpAnyH_take (i := 25) (v := ?_) rfl (by kernel_rfl) (by kernel_rfl) (by kernel_rfl) (fun _ _ _ h => h) (Or.inl ⟨by kernel_rfl, ?_⟩) hHeld ?_
            rotate_left
            · intro w' hS'
              obtain ⟨x0, x1, x2⟩ := hS'
              go_simp
              try with_reducible rfl
            refine wpAnyH_take (i := 27) (v := ?_) rfl (by kernel_rfl) (by kernel_rfl) (by kernel_rfl) (fun _ _ _ h => h) (Or.inl ⟨by kernel_rfl, ?_⟩) hHeld ?_
            rotate_left
            · intro w' hS'
              obtain ⟨x0, x1, x2⟩ := hS'
              go_simp
              try with_reducible rfl
            refine wpAnyH_ready (rs := [26]) (by kernel_rfl) (by simp) ?_
            refine AllReadyH.cons rfl (fun K hK => ?_) AllReadyH.nil
            go_simp
            go_at_call 23
            (with_reducible refine (unhide (hVN w10 hB10)).mono ?_)
            rintro e w11 ⟨rfl, hb11⟩
            have hB11 := hB10.trans (hb11.mono hB10.size)
            refine hK.out _ _ ?_ ?_
            · exact (hS4.below hB11).cells
            clear hHeld
            intro hHeld
            clear hK K
            refine wpAnyH_ready (rs := [28]) (by kernel_rfl) (by simp) ?_
            refine AllReadyH.cons rfl (fun K hK => ?_) AllReadyH.nil
            go_simp
            go_at_call 25
            (with_reducible refine (unhide (hSI w11 hB11)).mono ?_)
            rintro e w12 ⟨rfl, hb12⟩
            have hB12 := hB11.trans (hb12.mono hB11.size)
            refine hK.out _ _ ?_ ?_
            · exact (hS4.below hB12).cells
            clear hHeld
            intro hHeld
            clear hK K
            refine wpAnyH_take (i := 29) (v := ?_) rfl (by kernel_rfl) (by kernel_rfl) (by kernel_rfl) (fun _ _ _ h => h) (Or.inl ⟨by kernel_rfl, ?_⟩) hHeld ?_
            rotate_left
            · intro w' hS'
              clear hS'
              go_simp
              try with_reducible rfl
            refine wpAnyH_take (i := 30) (v := ?_) rfl (by kernel_rfl) (by kernel_rfl) (by kernel_rfl) (fun _ _ _ h => h) (Or.inl ⟨by kernel_rfl, ?_⟩) hHeld ?_
            rotate_left
            · intro w' hS'
              clear hS'
              go_simp
              try with_reducible rfl
            refine wpAnyH_take (i := 31) (v := ?_) rfl (by kernel_rfl) (by kernel_rfl) (by kernel_rfl) (fun _ _ _ h => h) (Or.inl ⟨by kernel_rfl, ?_⟩) hHeld ?_
            rotate_left
            · intro w' hS'
              clear hS'
              go_simp
              try with_reducible rfl
            refine wpAnyH_ready (rs := [32]) (by kernel_rfl) (by simp) ?_
            refine AllReadyH.cons rfl (fun K hK => ?_) AllReadyH.nil
            go_simp
            go_at_call 19
            (with_reducible refine (unhide (hide (alive_any w12))).mono ?_)
            rintro e w13 ⟨rfl, hb13⟩
            have hB13 := hB12.trans (hb13.mono hB12.size)
            refine hK.out _ _ ?_ ?_
            · exact (hS4.below hB13).cells
            clear hHeld
            intro hHeld
            clear hK K
            refine wpAnyH_take (i := 33) (v := ?_) rfl (by kernel_rfl) (by kernel_rfl) (by kernel_rfl) (fun _ _ _ h => h) (Or.inl ⟨by kernel_rfl, ?_⟩) hHeld ?_
            rotate_left
            · intro w' hS'
              clear hS'
              go_simp
              try with_reducible rfl
            refine wpAnyH_take (i := 34) (v := ?_) rfl (by kernel_rfl) (by kernel_rfl) (by kernel_rfl) (fun _ _ _ h => h) (Or.inl ⟨by kernel_rfl, ?_⟩) hHeld ?_
            rotate_left
            · intro w' hS'
              clear hS'
              go_simp
              try with_reducible rfl
            refine wpAnyH_done (by kernel_rfl) ?_ _
            go_simp
            go_wp2_with fail
            go_ret
            exact ⟨rfl, hbel.trans (hB13.mono hbel.size)⟩

end Go.Proofs.Ytpeifojfpkkcpaa
