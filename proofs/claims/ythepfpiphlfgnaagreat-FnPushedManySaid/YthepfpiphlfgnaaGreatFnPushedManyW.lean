/-
  YthepfpiphlfgnaaGreatFnPushedManyW: the walk of FnPushedMany.
-/
import Derived.Test.YthepfpiphlfgnaaGreatDkl
import Derived.Test.YthepfpiphlfgnaaGreatLz
import Derived.Test.YthepfpiphlfgnaaGreatCz
import Derived.Test.YthepfpiphlfgnaaGreatLee
import Derived.Test.YthepfpiphlfgnaaGreatPmz
import Derived.Test.YthepfpiphlfgnaaGreatPwv
import Derived.BigRegion
import Derived.Deep.RegionHeld
namespace Go.Proofs.YthepfpiphlfgnaaGreat
open Go.RowKit

set_option maxHeartbeats 4000000 in
set_option maxRecDepth 20000 in
theorem FnPushedMany_walk (w : World) (A : Option Addr) (n c : Nat) (zs : List Int) (hnc : n ≤ c) (hm : n ≤ maxLen) (_hl : zs.length = n) (hr : Reads w w.heap.size 1 A n (zs.map (Value.int .u8))) (hwz : ∀ z ∈ zs, (Lit.int .u8 z).wf = true) :
    Calls Tryz.prog 3 #[.slice A n c] w fun e w' => e = .returned (.bool true) ∧ Below w.heap.size w w' := by
  unfold maxLen at hm
  by_cases hb : 1048576 < n
  · go_enter Tryz.func3, Tryz.ntmps3
    go_wp2_with fail
    go_ret
    exact ⟨rfl, Below.refl _ _⟩
  · have hDR := hide (drawPushedMany_any A n c zs w hr hnc (by omega) hwz)
    clear hr hwz hm _hl
    go_enter Tryz.func3, Tryz.ntmps3
    go_wp2_with fail
    refine (unhide hDR).mono ?_
    rintro e w1 ⟨W, T, A2, c2, PA, pd, bs, ps, rfl, hreg, hp0, hpl, hcapp, hpz, hB1⟩
    clear hDR
    have hS2 := LS.start (W := W) (T := T) hB1 hreg
    have hp2 : LP w (w1.alloc (.cells #[.int .i64 W, .int .i64 T, .slice A2 bs.length c2] 25)) PA ps := (show LP w w1 PA ps from ⟨_, hp0⟩).below ((Below.refl _ _).alloc (Nat.le_refl _) _)
    clear hp0
    clear hreg hB1 
    go_upto_region 4 with fail
    generalize w1.alloc (.cells #[.int .i64 W, .int .i64 T, .slice A2 bs.length c2] 25) = w2 at *
    generalize w1.heap.size = x at *
    have hbs := hS2.len
    obtain ⟨tm, htm⟩ : ∃ tm, tmI W T bs = tm := ⟨_, rfl⟩
    obtain ⟨rm, hrm⟩ : ∃ rm, pmV W T bs ps = rm := ⟨_, rfl⟩
    have hbd : -1 ≤ tm ∧ tm ≤ 262144 := by rw [← htm]; exact tmI_bd W T bs
    have hc : rm = -1 ∨ (0 ≤ rm ∧ rm ≤ tm ∧ decide (0 < rm) = decide (0 < tm) ∧ ∀ p, pushesB W T bs (ps ++ [p]) = true → 0 ≤ pmV W T bs (ps ++ [p]) ∧ pmV W T bs (ps ++ [p]) ≤ rm) := by
      cases h : pushesB W T bs ps with
      | true =>
        right
        obtain ⟨h1, h2, h3, h4⟩ := law_pushedMany h
        rw [hrm] at h1 h2 h3 h4
        rw [htm] at h2 h3
        exact ⟨h1, h2, by rw [decide_eq_decide]; exact h3, h4⟩
      | false => left; rw [← hrm]; exact pmV_no h
    have hC2 := pushedManyI_any W T A2 bs.length c2 w2.heap.size bs PA ps.length pd w2.heap.size (ps) w2 rfl hS2.rd (Nat.le_refl _) (by omega) rfl hp2.rd (Nat.le_refl _) (by omega)
    rw [hrm] at hC2
    obtain ⟨x0, x1, x2⟩ := hS2.cells
    go_wp2_with fail
    refine hC2.mono ?_
    rintro e w3 ⟨rfl, hw3⟩
    have hS3 := hS2.below hw3
    have hp3 := hp2.below hw3
    clear hS2 hC2 hw3 hp2 x0 x1 x2
    have hC3 := pushedManyS_any W T A2 bs.length c2 w3.heap.size bs PA ps.length pd w3.heap.size (ps) w3 rfl hS3.rd (Nat.le_refl _) (by omega) rfl hp3.rd (Nat.le_refl _) (by omega)
    rw [hrm] at hC3
    obtain ⟨x0, x1, x2⟩ := hS3.cells
    go_wp2_with fail
    refine hC3.mono ?_
    rintro e w4 ⟨rfl, hw4⟩
    have hS4 := hS3.below hw4
    have hp4 := hp3.below hw4
    clear hS3 hC3 hw4 hp3 x0 x1 x2
    have hnn : (rm != rm) = false := by simp
    rcases hc with rfl | ⟨h1, h2, h3, h4⟩
    ·
      have hbel := hS4.bel
      clear hS4 hp4
      go_wp2_with fail
      refine (alive_any _).mono ?_
      rintro e w5 ⟨rfl, hw5⟩
      go_wp2_with fail
      go_ret
      exact ⟨rfl, hbel.trans (hw5.mono hbel.size)⟩
    ·
      have hn0 : decide (rm < 0) = false := decide_eq_false (by omega)
      have hn1 : decide (rm ≤ tm) = true := decide_eq_true h2
      obtain ⟨pb, hpb⟩ : ∃ pb, decide (0 < rm) = pb := ⟨_, rfl⟩
      rw [hpb] at h3
      have h3' := h3.symm
      have hcb := cornersB_bd W T bs
      obtain ⟨cor, hcor⟩ : ∃ cor, cornersB W T bs = cor := ⟨_, rfl⟩
      rw [hcor] at hcb
      obtain ⟨kc, hkc⟩ : ∃ kc, cor.tdiv 2 = kc := ⟨_, rfl⟩
      have hkb : -60 ≤ kc ∧ kc ≤ 60 := by
        rcases (show cor = -1 ∨ 0 ≤ cor by omega) with rfl | h
        · have e1 : (-1 : Int).tdiv 2 = 0 := rfl
          rw [e1] at hkc
          omega
        · rw [Int.tdiv_eq_ediv_of_nonneg h] at hkc; omega
      have hkw : IntKind.i64.wrap kc = kc := IntWalk.i64_in _ (by omega)
      have h5 := h4 (kc, false)
      obtain ⟨xm, hxm⟩ : ∃ xm, pmV W T bs (ps ++ [(kc, false)]) = xm := ⟨_, rfl⟩
      obtain ⟨vb, hvb⟩ : ∃ vb, pushesB W T bs (ps ++ [(kc, false)]) = vb := ⟨_, rfl⟩
      rw [hxm, hvb] at h5
      clear h3 h4
      have H5 := Lib.hid h5
      clear h5
      go_upto_region 9 with fail
      have hd0 := (Below.refl w4.heap.size w4).drew
      have hCM := fun (w' : World) (h : Below w4.heap.size w4 w') => hide (cornerManyI_any W T A2 bs.length c2 w'.heap.size bs w' rfl (hS4.below h).rd (Nat.le_refl _) (by omega))
      rw [hcor] at hCM
      clear hcor
      refine wp_region_held_drew (S := (fun w' => w'.cell? ⟨x, 0, none⟩ = some (.int .i64 W) ∧ w'.cell? ⟨x, 1, none⟩ = some (.int .i64 T) ∧ w'.cell? ⟨x, 2, none⟩ = some (.slice A2 bs.length c2))) (by kernel_rfl) (hS4.below hd0).cells ?_
      intro hHeld
      generalize w4.drew = wd at *
      refine wpAnyH_take (i := 1) (v := ?_) rfl (by kernel_rfl) (by kernel_rfl) (by kernel_rfl) (fun _ _ _ h => h) (Or.inl ⟨by kernel_rfl, ?_⟩) hHeld ?_
      rotate_left
      · intro w' hS'
        clear hS'
        go_simp
        try with_reducible rfl
      refine wpAnyH_take (i := 3) (v := ?_) rfl (by kernel_rfl) (by kernel_rfl) (by kernel_rfl) (fun _ _ _ h => h) (Or.inl ⟨by kernel_rfl, ?_⟩) hHeld ?_
      rotate_left
      · intro w' hS'
        obtain ⟨x0, x1, x2⟩ := hS'
        go_simp
        try with_reducible rfl
      refine wpAnyH_ready (rs := [0]) (by kernel_rfl) (by simp) ?_
      refine AllReadyH.cons rfl (fun K hK => ?_) AllReadyH.nil
      go_simp
      have hBa := hd0.alloc hd0.size (.cells #[] 33)
      have oa : (wd.alloc (.cells #[] 33)).ownsRow w4.heap.size 33 2 (.slice (some ⟨wd.heap.size, 0, none⟩) 0 0) 0 (pc []) := by
        have := World.ownsRow_made (base := w4.heap.size) (e := 33) (size := 2) wd #[] 0 (hd0.size) (by simp [maxLen]) (by simp)
        simpa [pc] using this
      obtain ⟨ga, hga⟩ : ∃ ga, wd.heap.size = ga := ⟨_, rfl⟩
      have hla : w4.heap.size ≤ ga := by rw [← hga]; exact hd0.size
      simp only [hga] at oa ⊢
      generalize wd.alloc (.cells #[] 33) = wa at *
      refine hK.out _ _ ?_ ?_
      · exact (hS4.below hBa).cells
      clear hHeld
      intro hHeld
      clear hK K
      refine wpAnyH_ready (rs := [2]) (by kernel_rfl) (by simp) ?_
      refine AllReadyH.cons rfl (fun K hK => ?_) AllReadyH.nil
      refine step_appN_ps (by rfl) _ _ _ rfl w4.heap.size Tryz.underlying26 ga rfl oa _ _ _ ps rfl (hp4.below hBa).rd (by omega) hBa.size ?_
      intro Ab cb wb ob hgrb
      have hBb := hBa.grown hgrb hBa.size (fun k hk => by simp at hk; omega)
      refine hK.out _ _ ?_ ?_
      · exact (hS4.below hBb).cells
      clear hHeld
      intro hHeld
      clear hK K
      refine wpAnyH_ready (rs := [4]) (by kernel_rfl) (by simp) ?_
      refine AllReadyH.cons rfl (fun K hK => ?_) AllReadyH.nil
      go_simp
      go_at_call 8
      (with_reducible refine (unhide (hCM _ hBb)).mono ?_)
      rintro e wc ⟨rfl, hbc⟩
      have hBc := hBb.trans (hbc.mono hBb.size)
      have oc := own_below ob hbc (Nat.le_refl _)
      refine hK.out _ _ ?_ ?_
      · exact (hS4.below hBc).cells
      clear hHeld
      intro hHeld
      clear hK K
      refine wpAnyH_take (i := 5) (v := ?_) rfl (by kernel_rfl) (by kernel_rfl) (by kernel_rfl) (fun _ _ _ h => h) (Or.inl ⟨by kernel_rfl, ?_⟩) hHeld ?_
      rotate_left
      · intro w' hS'
        clear hS'
        go_simp
        try with_reducible rfl
      refine wpAnyH_take (i := 6) (v := ?_) rfl (by kernel_rfl) (by kernel_rfl) (by kernel_rfl) (fun _ _ _ h => h) (Or.inl ⟨by kernel_rfl, ?_⟩) hHeld ?_
      rotate_left
      · intro w' hS'
        clear hS'
        go_simp
        try with_reducible rfl
      refine wpAnyH_ready (rs := [7]) (by kernel_rfl) (by simp) ?_
      refine AllReadyH.cons rfl (fun K hK => ?_) AllReadyH.nil
      go_simp
      have hBe := hBc.alloc hBc.size (.cells #[.int .i64 kc, .bool false] 33)
      have be := Blk.new wc 33 #[.int .i64 kc, .bool false]
      have oe := oc.alloc (.cells #[.int .i64 kc, .bool false] 33)
      obtain ⟨ge, hge⟩ : ∃ ge, wc.heap.size = ge := ⟨_, rfl⟩
      have hle : w4.heap.size ≤ ge := by rw [← hge]; exact hBc.size
      simp only [hge] at be ⊢
      generalize wc.alloc (.cells #[.int .i64 kc, .bool false] 33) = we at *
      refine hK.out _ _ ?_ ?_
      · exact (hS4.below hBe).cells
      clear hHeld
      intro hHeld
      clear hK K
      refine wpAnyH_ready (rs := [8]) (by kernel_rfl) (by simp) ?_
      refine AllReadyH.cons rfl (fun K hK => ?_) AllReadyH.nil
      refine step_app_ps (by rfl) _ _ _ rfl w4.heap.size Tryz.underlying26 Ab cb ps rfl oe ge kc false rfl be (by omega) hBe.size ?_
      intro Af cf wf of_ hgrf
      have hBf := hBe.grown hgrf hBe.size (fun k hk => own_block_ge oe hk)
      refine hK.out _ _ ?_ ?_
      · exact (hS4.below hBf).cells
      clear hHeld
      intro hHeld
      clear hK K
      refine wpAnyH_take (i := 9) (v := ?_) rfl (by kernel_rfl) (by kernel_rfl) (by kernel_rfl) (fun _ _ _ h => h) (Or.inl ⟨by kernel_rfl, ?_⟩) hHeld ?_
      rotate_left
      · intro w' hS'
        clear hS'
        go_simp
        try with_reducible rfl
      refine wpAnyH_done (by kernel_rfl) ?_ _
      have hS14 := hS4.below hBf
      have hq14 : LP w wf Af (ps ++ [(kc, false)]) := ⟨cf, by
        have := own_mono of_ hS4.bel.size
        simpa using this⟩
      have hql : (ps ++ [(kc, false)]).length = ps.length + 1 := by simp
      obtain ⟨w14, hwm⟩ : ∃ w14, w14 = wf := ⟨_, rfl⟩
      subst hwm
      clear hHeld hS4 hp4 hBa hBb hBc hBe hBf oa ob oc oe be of_ hgrb hgrf hbc hCM hd0
      generalize ps ++ [(kc, false)] = qs at *
      have hql5 : qs.length ≤ 99 := by omega
      have HQL := Lib.hid hql
      clear hql
      go_simp
      have hC14 := pushedManyI_any W T A2 bs.length c2 w14.heap.size bs Af (ps.length + 1) cf w14.heap.size (qs) w14 rfl hS14.rd (Nat.le_refl _) (by omega) HQL.out (by have := hq14.rd; rw [HQL.out] at this; exact this) (Nat.le_refl _) (by omega)
      rw [hxm] at hC14
      obtain ⟨x0, x1, x2⟩ := hS14.cells
      go_wp2_with fail
      refine hC14.mono ?_
      rintro e w15 ⟨rfl, hw15⟩
      have hS15 := hS14.below hw15
      have hq15 := hq14.below hw15
      clear hS14 hC14 hw15 hq14 x0 x1 x2
      have hC15 := tilingsManyI_any W T A2 bs.length c2 w15.heap.size bs w15 rfl hS15.rd (Nat.le_refl _) (by omega)
      rw [htm] at hC15
      obtain ⟨x0, x1, x2⟩ := hS15.cells
      go_wp2_with fail
      refine hC15.mono ?_
      rintro e w16 ⟨rfl, hw16⟩
      have hS16 := hS15.below hw16
      have hq16 := hq15.below hw16
      clear hS15 hC15 hw16 hq15 x0 x1 x2
      have hC16 := tilingsManyI_any W T A2 bs.length c2 w16.heap.size bs w16 rfl hS16.rd (Nat.le_refl _) (by omega)
      rw [htm] at hC16
      obtain ⟨x0, x1, x2⟩ := hS16.cells
      go_wp2_with fail
      refine hC16.mono ?_
      rintro e w17 ⟨rfl, hw17⟩
      have hS17 := hS16.below hw17
      have hq17 := hq16.below hw17
      clear hS16 hC16 hw17 hq16 x0 x1 x2
      have hC17 := PushesValidI_any W T A2 bs.length c2 w17.heap.size bs Af (ps.length + 1) cf w17.heap.size qs w17 rfl hS17.rd (Nat.le_refl _) (by omega) HQL.out (by have := hq17.rd; rw [HQL.out] at this; exact this) (Nat.le_refl _) (by omega)
      rw [hvb] at hC17
      obtain ⟨x0, x1, x2⟩ := hS17.cells
      go_wp2_with fail
      refine hC17.mono ?_
      rintro e w18 ⟨rfl, hw18⟩
      have hS18 := hS17.below hw18
      have hq18 := hq17.below hw18
      clear hS17 hC17 hw18 hq17 x0 x1 x2
      have hpp : (pb == pb) = true := by simp
      cases vb with
      | false =>
        have hbel := hS18.bel
        clear hS18 hq18
        go_wp2_with fail
        go_ret
        exact ⟨rfl, hbel⟩
      | true =>
        obtain ⟨h6, h7⟩ := H5.out (by first | rfl | trivial)
        have hx1 : decide (xm ≤ rm) = true := decide_eq_true h7
        have hx2 : decide (0 ≤ xm) = true := decide_eq_true h6
        have hbel := hS18.bel
        clear hS18 hq18
        go_wp2_with fail
        go_ret
        exact ⟨rfl, hbel⟩

end Go.Proofs.YthepfpiphlfgnaaGreat
