/-
  YtldnccdlpagodaaFnExactPushRunW: the walk of FnExactPushRun.
-/
import Derived.Test.YtldnccdlpagodaaPt
import Derived.Test.YtldnccdlpagodaaEx
import Derived.Test.YtldnccdlpagodaaPV
namespace Go.Proofs.Ytldnccdlpagodaa
open Go.RowKit

set_option maxHeartbeats 2000000 in
set_option maxRecDepth 100000 in
theorem FnExactPushRun_walk (w : World) (W T : Int) (A : Option Addr) (n c : Nat) (bs : List Bool) (_wW : (Lit.int .i64 W).wf = true) (_wT : (Lit.int .i64 T).wf = true) (_hc : n ≤ c) (hm : n ≤ maxLen) (hl : bs.length = n) (hr : Reads w w.heap.size 1 A n (bs.map Value.bool)) (A1 : Option Addr) (n1 c1 : Nat) (z1 : List Int) (_hc1 : n1 ≤ c1) (hm1 : n1 ≤ maxLen) (hl1 : z1.length = n1) (hr1 : Reads w w.heap.size 1 A1 n1 (z1.map (Value.int .i64))) (_wz1 : ∀ z ∈ z1, (Lit.int .i64 z).wf = true) (A2 : Option Addr) (n2 c2 : Nat) (z2 : List (Int × Bool)) (_hc2 : n2 ≤ c2) (hm2 : n2 ≤ maxLen) (hl2 : z2.length = n2) (hr2 : Reads w w.heap.size 2 A2 n2 (pc z2)) (_wz2 : ∀ z ∈ z2, (Lit.int .i64 z.1).wf = true) :
    Calls Try.prog 9 #[.agg #[.int .i64 W, .int .i64 T, .slice A n c], .slice A1 n1 c1, .slice A2 n2 c2] w fun e w' => e = .returned (.bool true) ∧ Below w.heap.size w w' := by
  simp only [maxLen] at hm hm1 hm2
  subst hl hl1 hl2
  have hbx : Below w.heap.size w (w.alloc (.cells #[.int .i64 W, .int .i64 T, .slice A bs.length c] 24)) := (Below.refl _ _).alloc (Nat.le_refl _) _
  have hbk := Blk.new w 24 #[.int .i64 W, .int .i64 T, .slice A bs.length c]
  by_cases hb1 : 1048576 < z1.length
  · have d1 : decide ((1048576 : Int) < (z1.length : Int)) = true := decide_eq_true (by omega)
    clear hbk
    go_enter Try.func9, Try.ntmps9
    go_wp2_with fail
    go_ret
    exact ⟨rfl, hbx⟩
  have hn1 : z1.length ≤ 1048576 := by omega
  have d1 : decide ((1048576 : Int) < (z1.length : Int)) = false := decide_eq_false (by omega)
  have HZ := hide (szRegion_any W T A bs.length c 1048576 (w.alloc (.cells #[.int .i64 W, .int .i64 T, .slice A bs.length c] 24)) (by omega) (by omega))
  by_cases h1 : (1048576 : Int) - bs.length < 0
  · rw [if_pos h1] at HZ
    clear hbk
    go_enter Try.func9, Try.ntmps9
    go_wp2_with (go_at_call 13; refine (unhide HZ).mono ?_; rintro e w1 ⟨rfl, hb1⟩)
    go_ret
    exact ⟨rfl, hbx.trans (hb1.mono (by simp))⟩
  rw [if_neg h1] at HZ
  have hn : bs.length ≤ 1048576 := by omega
  have hnl : decide ((1048576 : Int) - bs.length < 0) = false := decide_eq_false h1
  have hl1 : (0 : Int) ≤ 1048576 - bs.length := by omega
  have HY := fun w' => hide (szPushS_any A2 z2.length c2 (1048576 - bs.length) w' (by omega) (by omega))
  by_cases h2 : (1048576 : Int) - bs.length - z2.length < 0
  · simp only [if_pos h2] at HY
    clear hbk
    go_enter Try.func9, Try.ntmps9
    go_wp2_with first
      | (go_at_call 13; refine (unhide HZ).mono ?_; rintro e w1 ⟨rfl, hb1⟩)
      | (go_at_call 34; refine (unhide (HY _)).mono ?_; rintro e w2 ⟨rfl, rfl⟩)
    go_ret
    exact ⟨rfl, hbx.trans (hb1.mono (by simp))⟩
  simp only [if_neg h2] at HY
  have hn2 : z2.length ≤ 1048576 := by omega
  have hnl2 : decide ((1048576 : Int) - bs.length - z2.length < 0) = false := decide_eq_false h2
  have HR : ∀ w', Below w.heap.size w w' → Hid (Calls Try.prog 15 #[.agg #[.int .i64 W, .int .i64 T, .slice A bs.length c]] w' (RegionRet w' W T bs)) :=
    fun w' h => hide (toRegion_any W T A c w.heap.size bs w' (hr.below h) h.size hn)
  have HI1 : ∀ w', Below w.heap.size w w' → Hid (Calls Try.prog 16 #[.slice A1 z1.length c1] w' (IntsRet w' z1)) :=
    fun w' h => hide (toIntS_any A1 c1 w.heap.size z1 w' (hr1.below h) h.size hn1)
  have HI2 : ∀ w', Below w.heap.size w w' → Hid (Calls Try.prog 36 #[.slice A2 z2.length c2] w' (PushesRet w' z2)) :=
    fun w' h => hide (toPushS_any A2 c2 w.heap.size z2 w' (hr2.below h) h.size hn2)
  obtain ⟨G, hG⟩ : ∃ G, G = prV W T bs z1 z2 := ⟨_, rfl⟩
  have HGG := Lib.hid hG
  clear hG
  have hGl : G.length ≤ 1048576 := by rw [HGG.out]; exact Nat.le_trans prV_len (by omega)
  go_enter Try.func9, Try.ntmps9
  go_wp2_with fail
  refine (unhide HZ).mono ?_
  rintro e w100 ⟨rfl, hb100⟩
  have hB100 : Below w.heap.size w w100 := hbx.trans (hb100.mono (by simp))
  have hk : Blk w100 w.heap.size 24 #[.int .i64 W, .int .i64 T, .slice A bs.length c] := hbk.below hb100 (by simp)
  clear hbk hbx HZ hb100
  go_wp2_with fail
  refine (unhide (HY _)).mono ?_
  rintro e w' ⟨rfl, rfl⟩
  clear HY
  have c0 := hk.cell 0
  have c1 := hk.cell 1
  have c2 := hk.cell 2
  simp at c0 c1 c2
  go_wp2_with fail
  clear c0 c1 c2
  refine (unhide (HR _ hB100)).mono ?_
  rintro e w101 ⟨grs, rfl, hors, hb101⟩
  have hB101 := hB100.trans (hb101.mono hB100.size)
  have hk := hk.below hb101 hk.lt
  clear hb101 hB100
  go_wp2_with fail
  refine (unhide (HI1 _ hB101)).mono ?_
  rintro e w102 ⟨gi1s, rfl, hoi1s, hb102⟩
  have hB102 := hB101.trans (hb102.mono hB101.size)
  have hk := hk.below hb102 hk.lt
  have hors := own_below hors hb102 (Nat.le_refl _)
  clear hb102 hB101
  go_wp2_with fail
  refine (unhide (HI2 _ hB102)).mono ?_
  rintro e w103 ⟨gi2s, rfl, hoi2s, hb103⟩
  have hB103 := hB102.trans (hb103.mono hB102.size)
  have hk := hk.below hb103 hk.lt
  have hors := own_below hors hb103 (Nat.le_refl _)
  have hoi1s := own_below hoi1s hb103 (Nat.le_refl _)
  clear hb103 hB102
  go_wp2_with fail
  have hcall := (pushRunS_any W T _ bs.length bs.length w103.heap.size bs z1 _ z1.length z1.length _ z2.length z2.length w103.heap.size z2 w103 rfl rfl (Reads.of_own hors) (Reads.of_own hoi1s) (Nat.le_refl _) (by omega) (by omega) rfl (Reads.of_own hoi2s) (Nat.le_refl _) (by omega))
  rw [← HGG.out] at hcall
  refine hcall.mono ?_
  clear hcall
  rintro e w104 ⟨Aw, capw, cvw, rfl, how, hb104⟩
  have hB104 := hB103.trans (hb104.mono hB103.size)
  have hk := hk.below hb104 hk.lt
  have hors := own_below hors hb104 (Nat.le_refl _)
  have hoi1s := own_below hoi1s hb104 (Nat.le_refl _)
  have hoi2s := own_below hoi2s hb104 (Nat.le_refl _)
  clear hb104 hB103
  clear hors hoi1s hoi2s
  have c0 := hk.cell 0
  have c1 := hk.cell 1
  have c2 := hk.cell 2
  simp at c0 c1 c2
  go_wp2_with fail
  clear c0 c1 c2
  have pre_hk := hk
  have pre_how := how
  have preB := hB104.size
  refine (unhide (HR _ hB104)).mono ?_
  rintro e w105 ⟨grx, rfl, horx, hb105⟩
  have hB105 := hB104.trans (hb105.mono hB104.size)
  have hk := hk.below hb105 hk.lt
  have how := own_below how hb105 (Nat.le_refl _)
  clear hb105 hB104
  have sep_hk_horx := blk_sep pre_hk horx (Nat.le_refl _)
  have sep_how_horx := own_sep pre_how horx (Nat.le_refl _)
  have low_horx := size_sep horx preB
  clear preB pre_hk pre_how
  obtain ⟨X, hX⟩ : ∃ X, X = w105.heap.size := ⟨_, rfl⟩
  have hx : Blk (w105.alloc (.cells #[.int .i64 W, .int .i64 T, .slice (some ⟨grx, 0, none⟩) bs.length bs.length] 29)) X 29 #[.int .i64 W, .int .i64 T, .slice (some ⟨grx, 0, none⟩) bs.length bs.length] := Blk.new' hX
  have sep_hx_horx := sep_new horx hX
  have hBx : Below w.heap.size w (w105.alloc (.cells #[.int .i64 W, .int .i64 T, .slice (some ⟨grx, 0, none⟩) bs.length bs.length] 29)) := hB105.alloc hB105.size _
  have hk := hk.alloc (.cells #[.int .i64 W, .int .i64 T, .slice (some ⟨grx, 0, none⟩) bs.length bs.length] 29)
  have how := how.alloc (.cells #[.int .i64 W, .int .i64 T, .slice (some ⟨grx, 0, none⟩) bs.length bs.length] 29)
  have horx := horx.alloc (.cells #[.int .i64 W, .int .i64 T, .slice (some ⟨grx, 0, none⟩) bs.length bs.length] 29)
  have HX := Lib.hid hX
  clear hX hB105
  go_wp2_with fail
  have pre_hk := hk
  have pre_how := how
  have pre_horx := horx
  have pre_hx := hx
  have preB := hBx.size
  refine (unhide (HI1 _ hBx)).mono ?_
  rintro e w106 ⟨gi1x, rfl, hoi1x, hb106⟩
  have hB106 := hBx.trans (hb106.mono hBx.size)
  have hk := hk.below hb106 hk.lt
  have how := own_below how hb106 (Nat.le_refl _)
  have horx := own_below horx hb106 (Nat.le_refl _)
  have hx := hx.below hb106 hx.lt
  clear hb106 hBx
  have sep_hk_hoi1x := blk_sep pre_hk hoi1x (Nat.le_refl _)
  have sep_how_hoi1x := own_sep pre_how hoi1x (Nat.le_refl _)
  have sep_horx_hoi1x := own_sep pre_horx hoi1x (Nat.le_refl _)
  have sep_hx_hoi1x := blk_sep pre_hx hoi1x (Nat.le_refl _)
  have low_hoi1x := size_sep hoi1x preB
  clear preB pre_hk pre_how pre_horx pre_hx
  go_wp2_with fail
  have pre_hk := hk
  have pre_how := how
  have pre_horx := horx
  have pre_hx := hx
  have pre_hoi1x := hoi1x
  have preB := hB106.size
  refine (unhide (HI2 _ hB106)).mono ?_
  rintro e w107 ⟨gi2x, rfl, hoi2x, hb107⟩
  have hB107 := hB106.trans (hb107.mono hB106.size)
  have hk := hk.below hb107 hk.lt
  have how := own_below how hb107 (Nat.le_refl _)
  have horx := own_below horx hb107 (Nat.le_refl _)
  have hx := hx.below hb107 hx.lt
  have hoi1x := own_below hoi1x hb107 (Nat.le_refl _)
  clear hb107 hB106
  have sep_hk_hoi2x := blk_sep pre_hk hoi2x (Nat.le_refl _)
  have sep_how_hoi2x := own_sep pre_how hoi2x (Nat.le_refl _)
  have sep_horx_hoi2x := own_sep pre_horx hoi2x (Nat.le_refl _)
  have sep_hx_hoi2x := blk_sep pre_hx hoi2x (Nat.le_refl _)
  have sep_hoi1x_hoi2x := own_sep pre_hoi1x hoi2x (Nat.le_refl _)
  have low_hoi2x := size_sep hoi2x preB
  clear preB pre_hk pre_how pre_horx pre_hx pre_hoi1x
  have x0 := hx.cell 0
  have x1 := hx.cell 1
  have x2 := hx.cell 2
  simp at x0 x1 x2
  try rw [← HX.out]
  go_wp2_with fail
  clear x0 x1 x2
  have pre_hk := hk
  have pre_how := how
  have pre_horx := horx
  have pre_hx := hx
  have pre_hoi1x := hoi1x
  have pre_hoi2x := hoi2x
  have preB := hB107.size
  have hcall := (pushRunI_any W T _ bs.length bs.length w107.heap.size bs z1 _ z1.length z1.length _ z2.length z2.length w107.heap.size z2 w107 rfl rfl (.inr ⟨_, _, rfl⟩) (Reads.of_own horx) (Reads.of_own hoi1x) (Nat.le_refl _) (by omega) (by omega) rfl (Reads.of_own hoi2x) (Nat.le_refl _) (by omega))
  rw [← HGG.out] at hcall
  refine hcall.mono ?_
  clear hcall
  rintro e w108 ⟨Ag, capg, cvg, rfl, hog, hb108⟩
  have hB108 := hB107.trans (hb108.mono hB107.size)
  have hk := hk.below hb108 hk.lt
  have how := own_below how hb108 (Nat.le_refl _)
  have horx := own_below horx hb108 (Nat.le_refl _)
  have hx := hx.below hb108 hx.lt
  have hoi1x := own_below hoi1x hb108 (Nat.le_refl _)
  have hoi2x := own_below hoi2x hb108 (Nat.le_refl _)
  clear hb108 hB107
  have sep_hk_hog := blk_sep pre_hk hog (Nat.le_refl _)
  have sep_how_hog := own_sep pre_how hog (Nat.le_refl _)
  have sep_horx_hog := own_sep pre_horx hog (Nat.le_refl _)
  have sep_hx_hog := blk_sep pre_hx hog (Nat.le_refl _)
  have sep_hoi1x_hog := own_sep pre_hoi1x hog (Nat.le_refl _)
  have sep_hoi2x_hog := own_sep pre_hoi2x hog (Nat.le_refl _)
  have low_hog := size_sep hog preB
  clear preB pre_hk pre_how pre_horx pre_hx pre_hoi1x pre_hoi2x
  go_wp2_with fail
  refine (eqIntS_same _ _ _ _ w108.heap.size w108.heap.size G w108 (Reads.of_own hog) (Reads.of_own how) hGl).mono ?_
  rintro e w109 ⟨rfl, hb109⟩
  have hB109 := hB108.trans (hb109.mono hB108.size)
  have hk := hk.below hb109 hk.lt
  have how := own_below how hb109 (Nat.le_refl _)
  have horx := own_below horx hb109 (Nat.le_refl _)
  have hx := hx.below hb109 hx.lt
  have hoi1x := own_below hoi1x hb109 (Nat.le_refl _)
  have hoi2x := own_below hoi2x hb109 (Nat.le_refl _)
  have hog := own_below hog hb109 (Nat.le_refl _)
  clear hb109 hB108
  have x0 := hx.cell 0
  have x1 := hx.cell 1
  have x2 := hx.cell 2
  simp at x0 x1 x2
  have c0 := hk.cell 0
  have c1 := hk.cell 1
  have c2 := hk.cell 2
  simp at c0 c1 c2
  go_wp2_with fail
  go_region_held3 (fun w' => w'.cell? ⟨X, 0, none⟩ = some (Value.int IntKind.i64 W) ∧ w'.cell? ⟨X, 1, none⟩ = some (.int .i64 T) ∧ w'.cell? ⟨X, 2, none⟩ = some (.slice (some ⟨grx, 0, none⟩) bs.length bs.length) ∧ w'.cell? ⟨w.heap.size, 0, none⟩ = some (.int .i64 W) ∧ w'.cell? ⟨w.heap.size, 1, none⟩ = some (.int .i64 T) ∧ w'.cell? ⟨w.heap.size, 2, none⟩ = some (.slice A bs.length c))
    (first | exact ⟨x0, x1, x2, c0, c1, c2⟩ | exact ⟨cell_kept (w := w109.drew) x0 hb110, cell_kept (w := w109.drew) x1 hb110, cell_kept (w := w109.drew) x2 hb110, cell_kept (w := w109.drew) c0 hb110, cell_kept (w := w109.drew) c1 hb110, cell_kept (w := w109.drew) c2 hb110⟩ | exact ⟨cell_kept (cell_kept (w := w109.drew) x0 hb110) hb111, cell_kept (cell_kept (w := w109.drew) x1 hb110) hb111, cell_kept (cell_kept (w := w109.drew) x2 hb110) hb111, cell_kept (cell_kept (w := w109.drew) c0 hb110) hb111, cell_kept (cell_kept (w := w109.drew) c1 hb110) hb111, cell_kept (cell_kept (w := w109.drew) c2 hb110) hb111⟩)
    (first
      | (go_at_call 15; refine (unhide (HR _ hB109.drew)).mono ?_; rintro e w110 ⟨gre, rfl, hore, hb110⟩)
      | (go_at_call 19; refine (eqRegion_same W T _ _ _ _ w110.heap.size w110.heap.size bs w110 (Reads.of_own (own_below (w := w109.drew) horx hb110 (Nat.le_refl _))) (Reads.of_own hore) (Nat.le_refl _) (Nat.le_refl _) hn).mono ?_; rintro e w111 ⟨rfl, hb111⟩))
  clear x0 x1 x2 c0 c1 c2
  have hB110 := hB109.drew.trans (hb110.mono hB109.size)
  have hB111 := hB110.trans (hb111.mono hB110.size)
  have hk := (hk.drew.below hb110 hk.drew.lt).below hb111 (hk.drew.below hb110 hk.drew.lt).lt
  have how := own_below (own_below (w := w109.drew) how hb110 (Nat.le_refl _)) hb111 (Nat.le_refl _)
  have horx := own_below (own_below (w := w109.drew) horx hb110 (Nat.le_refl _)) hb111 (Nat.le_refl _)
  have hx := (hx.drew.below hb110 hx.drew.lt).below hb111 (hx.drew.below hb110 hx.drew.lt).lt
  have hoi1x := own_below (own_below (w := w109.drew) hoi1x hb110 (Nat.le_refl _)) hb111 (Nat.le_refl _)
  have hoi2x := own_below (own_below (w := w109.drew) hoi2x hb110 (Nat.le_refl _)) hb111 (Nat.le_refl _)
  have hog := own_below (own_below (w := w109.drew) hog hb110 (Nat.le_refl _)) hb111 (Nat.le_refl _)
  clear hb110 hb111 hB110 hB109 hore
  go_wp2_with fail
  refine (unhide (HI1 _ hB111)).mono ?_
  rintro e w112 ⟨gi1e, rfl, hoi1e, hb112⟩
  have hB112 := hB111.trans (hb112.mono hB111.size)
  have hk := hk.below hb112 hk.lt
  have how := own_below how hb112 (Nat.le_refl _)
  have horx := own_below horx hb112 (Nat.le_refl _)
  have hx := hx.below hb112 hx.lt
  have hoi1x := own_below hoi1x hb112 (Nat.le_refl _)
  have hoi2x := own_below hoi2x hb112 (Nat.le_refl _)
  have hog := own_below hog hb112 (Nat.le_refl _)
  clear hb112 hB111
  go_wp2_with fail
  refine (eqIntS_same _ _ _ _ w112.heap.size w112.heap.size z1 w112 (Reads.of_own hoi1x) (Reads.of_own hoi1e) hn1).mono ?_
  rintro e w113 ⟨rfl, hb113⟩
  have hB113 := hB112.trans (hb113.mono hB112.size)
  have hk := hk.below hb113 hk.lt
  have how := own_below how hb113 (Nat.le_refl _)
  have horx := own_below horx hb113 (Nat.le_refl _)
  have hx := hx.below hb113 hx.lt
  have hoi1x := own_below hoi1x hb113 (Nat.le_refl _)
  have hoi2x := own_below hoi2x hb113 (Nat.le_refl _)
  have hog := own_below hog hb113 (Nat.le_refl _)
  have hoi1e := own_below hoi1e hb113 (Nat.le_refl _)
  clear hb113 hB112
  clear hoi1e
  go_wp2_with fail
  refine (unhide (HI2 _ hB113)).mono ?_
  rintro e w114 ⟨gi2e, rfl, hoi2e, hb114⟩
  have hB114 := hB113.trans (hb114.mono hB113.size)
  have hk := hk.below hb114 hk.lt
  have how := own_below how hb114 (Nat.le_refl _)
  have horx := own_below horx hb114 (Nat.le_refl _)
  have hx := hx.below hb114 hx.lt
  have hoi1x := own_below hoi1x hb114 (Nat.le_refl _)
  have hoi2x := own_below hoi2x hb114 (Nat.le_refl _)
  have hog := own_below hog hb114 (Nat.le_refl _)
  clear hb114 hB113
  go_wp2_with fail
  refine (eqPushS_same _ _ _ _ w114.heap.size w114.heap.size z2 w114 (Reads.of_own hoi2x) (Reads.of_own hoi2e) (Nat.le_refl _) (Nat.le_refl _) hn2).mono ?_
  rintro e w115 ⟨rfl, hb115⟩
  have hB115 := hB114.trans (hb115.mono hB114.size)
  have hk := hk.below hb115 hk.lt
  have how := own_below how hb115 (Nat.le_refl _)
  have horx := own_below horx hb115 (Nat.le_refl _)
  have hx := hx.below hb115 hx.lt
  have hoi1x := own_below hoi1x hb115 (Nat.le_refl _)
  have hoi2x := own_below hoi2x hb115 (Nat.le_refl _)
  have hog := own_below hog hb115 (Nat.le_refl _)
  have hoi2e := own_below hoi2e hb115 (Nat.le_refl _)
  clear hb115 hB114
  clear hoi2e
  have x0 := hx.cell 0
  have x1 := hx.cell 1
  have x2 := hx.cell 2
  simp at x0 x1 x2
  go_wp2_with fail
  clear x0 x1 x2
  refine (markRegion_any W T (.slice (some ⟨grx, 0, none⟩) bs.length bs.length) bs.length _ bs 1 w115 horx hn (by omega)).mono ?_
  rintro e w116 ⟨_, rfl, horx', hg116⟩
  have hB116 := hB115.grown hg116 hB115.size low_horx
  have hk := hk.grown hg116 sep_hk_horx
  have how := own_grown how hg116 (sep_how_horx)
  have hx := hx.grown hg116 sep_hx_horx
  have hoi1x := own_grown hoi1x hg116 (sep_symm sep_horx_hoi1x)
  have hoi2x := own_grown hoi2x hg116 (sep_symm sep_horx_hoi2x)
  have hog := own_grown hog hg116 (sep_symm sep_horx_hog)
  clear horx
  have horx := horx'
  clear horx' hg116 hB115
  go_wp2_with fail
  refine (markIntS_any (.slice (some ⟨gi1x, 0, none⟩) z1.length z1.length) z1.length _ z1 (1 + (bs.length : Int)) w116 hoi1x hn1 (by omega)).mono ?_
  rintro e w117 ⟨rfl, hoi1x', hg117⟩
  have hB117 := hB116.grown hg117 hB116.size low_hoi1x
  have hk := hk.grown hg117 sep_hk_hoi1x
  have how := own_grown how hg117 (sep_how_hoi1x)
  have horx := own_grown horx hg117 (sep_horx_hoi1x)
  have hx := hx.grown hg117 sep_hx_hoi1x
  have hoi2x := own_grown hoi2x hg117 (sep_symm sep_hoi1x_hoi2x)
  have hog := own_grown hog hg117 (sep_symm sep_hoi1x_hog)
  clear hoi1x
  have hoi1x := hoi1x'
  clear hoi1x' hg117 hB116
  go_wp2_with fail
  refine (markPushS_any (.slice (some ⟨gi2x, 0, none⟩) z2.length z2.length) z2.length _ z2 ((1 + (bs.length : Int)) + (z1.length : Int)) w117 hoi2x hn2 (by omega)).mono ?_
  rintro e w118 ⟨rfl, hoi2x', hg118⟩
  have hB118 := hB117.grown hg118 hB117.size low_hoi2x
  have hk := hk.grown hg118 sep_hk_hoi2x
  have how := own_grown how hg118 (sep_how_hoi2x)
  have horx := own_grown horx hg118 (sep_horx_hoi2x)
  have hx := hx.grown hg118 sep_hx_hoi2x
  have hoi1x := own_grown hoi1x hg118 (sep_hoi1x_hoi2x)
  have hog := own_grown hog hg118 (sep_symm sep_hoi2x_hog)
  clear hoi2x
  have hoi2x := hoi2x'
  clear hoi2x' hg118 hB117
  have hk0 : decide ((((1 + (bs.length : Int)) + (z1.length : Int)) + 2 * (z2.length : Int)) < 0) = false := decide_eq_false (by omega)
  go_wp2_with fail
  refine (eqIntS_same _ _ _ _ w118.heap.size w118.heap.size G w118 (Reads.of_own hog) (Reads.of_own how) hGl).mono ?_
  rintro e w119 ⟨rfl, hb119⟩
  have hB119 := hB118.trans (hb119.mono hB118.size)
  have hk := hk.below hb119 hk.lt
  have how := own_below how hb119 (Nat.le_refl _)
  have horx := own_below horx hb119 (Nat.le_refl _)
  have hx := hx.below hb119 hx.lt
  have hoi1x := own_below hoi1x hb119 (Nat.le_refl _)
  have hoi2x := own_below hoi2x hb119 (Nat.le_refl _)
  have hog := own_below hog hb119 (Nat.le_refl _)
  clear hb119 hB118
  go_wp2_with fail
  refine (markIntC_any Ag G.length cvg capg _ G 1 w119 hog hGl (by omega)).mono ?_
  rintro e w120 ⟨rfl, hog', hg120⟩
  have hB120 := hB119.grown hg120 hB119.size low_hog
  have hk := hk.grown hg120 sep_hk_hog
  have how := own_grown how hg120 (sep_how_hog)
  have horx := own_grown horx hg120 (sep_horx_hog)
  have hx := hx.grown hg120 sep_hx_hog
  have hoi1x := own_grown hoi1x hg120 (sep_hoi1x_hog)
  have hoi2x := own_grown hoi2x hg120 (sep_hoi2x_hog)
  clear hog
  have hog := hog'
  clear hog' hg120 hB119
  have hm0 : decide ((1 : Int) + (G.length : Int) < 0) = false := decide_eq_false (by omega)
  have hmm : ((1 : Int) + (G.length : Int) != (1 : Int) + (G.length : Int)) = false := by simp
  go_wp2_with fail
  refine (heldIntS_any Ag G.length cvg _ 1 w120 (Reads.of_own hog) hGl (by omega)).mono ?_
  rintro e w' ⟨rfl, rfl⟩
  have c0 := hk.cell 0
  have c1 := hk.cell 1
  have c2 := hk.cell 2
  simp at c0 c1 c2
  go_wp2_with fail
  clear c0 c1 c2
  refine (unhide (HR _ hB120)).mono ?_
  rintro e w121 ⟨grh, rfl, horh, hb121⟩
  have hB121 := hB120.trans (hb121.mono hB120.size)
  have hk := hk.below hb121 hk.lt
  have how := own_below how hb121 (Nat.le_refl _)
  have horx := own_below horx hb121 (Nat.le_refl _)
  have hx := hx.below hb121 hx.lt
  have hoi1x := own_below hoi1x hb121 (Nat.le_refl _)
  have hoi2x := own_below hoi2x hb121 (Nat.le_refl _)
  have hog := own_below hog hb121 (Nat.le_refl _)
  clear hb121 hB120
  go_wp2_with fail
  refine (unhide (HI1 _ hB121)).mono ?_
  rintro e w122 ⟨gi1h, rfl, hoi1h, hb122⟩
  have hB122 := hB121.trans (hb122.mono hB121.size)
  have hk := hk.below hb122 hk.lt
  have how := own_below how hb122 (Nat.le_refl _)
  have horx := own_below horx hb122 (Nat.le_refl _)
  have hx := hx.below hb122 hx.lt
  have hoi1x := own_below hoi1x hb122 (Nat.le_refl _)
  have hoi2x := own_below hoi2x hb122 (Nat.le_refl _)
  have hog := own_below hog hb122 (Nat.le_refl _)
  have horh := own_below horh hb122 (Nat.le_refl _)
  clear hb122 hB121
  go_wp2_with fail
  refine (unhide (HI2 _ hB122)).mono ?_
  rintro e w123 ⟨gi2h, rfl, hoi2h, hb123⟩
  have hB123 := hB122.trans (hb123.mono hB122.size)
  have hk := hk.below hb123 hk.lt
  have how := own_below how hb123 (Nat.le_refl _)
  have horx := own_below horx hb123 (Nat.le_refl _)
  have hx := hx.below hb123 hx.lt
  have hoi1x := own_below hoi1x hb123 (Nat.le_refl _)
  have hoi2x := own_below hoi2x hb123 (Nat.le_refl _)
  have hog := own_below hog hb123 (Nat.le_refl _)
  have horh := own_below horh hb123 (Nat.le_refl _)
  have hoi1h := own_below hoi1h hb123 (Nat.le_refl _)
  clear hb123 hB122
  go_wp2_with fail
  have hcall := (pushRunI_any W T _ bs.length bs.length w123.heap.size bs z1 _ z1.length z1.length _ z2.length z2.length w123.heap.size z2 w123 rfl rfl (.inr ⟨_, _, rfl⟩) (Reads.of_own horh) (Reads.of_own hoi1h) (Nat.le_refl _) (by omega) (by omega) rfl (Reads.of_own hoi2h) (Nat.le_refl _) (by omega))
  rw [← HGG.out] at hcall
  refine hcall.mono ?_
  clear hcall
  rintro e w124 ⟨Ah, caph, cvh, rfl, hoh, hb124⟩
  have hB124 := hB123.trans (hb124.mono hB123.size)
  have hk := hk.below hb124 hk.lt
  have how := own_below how hb124 (Nat.le_refl _)
  have horx := own_below horx hb124 (Nat.le_refl _)
  have hx := hx.below hb124 hx.lt
  have hoi1x := own_below hoi1x hb124 (Nat.le_refl _)
  have hoi2x := own_below hoi2x hb124 (Nat.le_refl _)
  have hog := own_below hog hb124 (Nat.le_refl _)
  have horh := own_below horh hb124 (Nat.le_refl _)
  have hoi1h := own_below hoi1h hb124 (Nat.le_refl _)
  have hoi2h := own_below hoi2h hb124 (Nat.le_refl _)
  clear hb124 hB123
  clear horh hoi1h hoi2h
  go_wp2_with fail
  refine (eqIntS_same _ _ _ _ w124.heap.size w124.heap.size G w124 (Reads.of_own hoh) (Reads.of_own how) hGl).mono ?_
  rintro e w125 ⟨rfl, hb125⟩
  have hB125 := hB124.trans (hb125.mono hB124.size)
  have hk := hk.below hb125 hk.lt
  have how := own_below how hb125 (Nat.le_refl _)
  have horx := own_below horx hb125 (Nat.le_refl _)
  have hx := hx.below hb125 hx.lt
  have hoi1x := own_below hoi1x hb125 (Nat.le_refl _)
  have hoi2x := own_below hoi2x hb125 (Nat.le_refl _)
  have hog := own_below hog hb125 (Nat.le_refl _)
  have hoh := own_below hoh hb125 (Nat.le_refl _)
  clear hb125 hB124
  go_wp2_with fail
  refine (heldIntS_any Ag G.length cvg _ 1 w125 (Reads.of_own hog) hGl (by omega)).mono ?_
  rintro e w' ⟨rfl, rfl⟩
  go_wp2_with fail
  go_ret
  exact ⟨rfl, hB125⟩
end Go.Proofs.Ytldnccdlpagodaa
