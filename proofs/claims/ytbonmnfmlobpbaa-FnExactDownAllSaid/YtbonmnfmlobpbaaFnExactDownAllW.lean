/-
  YtbonmnfmlobpbaaFnExactDownAllW: the walk of FnExactDownAll.
-/
import Derived.Test.YtbonmnfmlobpbaaFd
import Derived.Test.YtbonmnfmlobpbaaEx
import Derived.Test.YtbonmnfmlobpbaaPV
namespace Go.Proofs.Ytbonmnfmlobpbaa
open Go.RowKit

set_option maxHeartbeats 2000000 in
set_option maxRecDepth 100000 in
theorem FnExactDownAll_walk (w : World) (W T : Int) (A : Option Addr) (n c : Nat) (bs : List Bool) (_wW : (Lit.int .i64 W).wf = true) (_wT : (Lit.int .i64 T).wf = true) (_hc : n ≤ c) (hm : n ≤ maxLen) (hl : bs.length = n) (hr : Reads w w.heap.size 1 A n (bs.map Value.bool)) (A1 : Option Addr) (n1 c1 : Nat) (z1 : List Int) (_hc1 : n1 ≤ c1) (hm1 : n1 ≤ maxLen) (hl1 : z1.length = n1) (hr1 : Reads w w.heap.size 1 A1 n1 (z1.map (Value.int .i64))) (_wz1 : ∀ z ∈ z1, (Lit.int .i64 z).wf = true) :
    Calls Try.prog 9 #[.agg #[.int .i64 W, .int .i64 T, .slice A n c], .slice A1 n1 c1] w fun e w' => e = .returned (.bool true) ∧ Below w.heap.size w w' := by
  simp only [maxLen] at hm hm1
  subst hl hl1
  have hbx : Below w.heap.size w (w.alloc (.cells #[.int .i64 W, .int .i64 T, .slice A bs.length c] 24)) := (Below.refl _ _).alloc (Nat.le_refl _) _
  have hbk := Blk.new w 24 #[.int .i64 W, .int .i64 T, .slice A bs.length c]
  by_cases hb1 : 1048576 < z1.length
  · have d1 : decide ((1048576 : Int) < (z1.length : Int)) = true := decide_eq_true (by omega)
    clear hbk
    go_enter Try.func9, Try.ntmps9
    go_wp2_with fail
    go_ret
    exact ⟨rfl, hbx⟩
  have hn1 : z1.length ≤ 1048576 := by omega
  have d1 : decide ((1048576 : Int) < (z1.length : Int)) = false := decide_eq_false (by omega)
  have HZ := hide (szRegion_any W T A bs.length c 1048576 (w.alloc (.cells #[.int .i64 W, .int .i64 T, .slice A bs.length c] 24)) (by omega) (by omega))
  by_cases h1 : (1048576 : Int) - bs.length < 0
  · rw [if_pos h1] at HZ
    clear hbk
    go_enter Try.func9, Try.ntmps9
    go_wp2_with (go_at_call 15; refine (unhide HZ).mono ?_; rintro e w1 ⟨rfl, hb1⟩)
    go_ret
    exact ⟨rfl, hbx.trans (hb1.mono (by simp))⟩
  rw [if_neg h1] at HZ
  have hn : bs.length ≤ 1048576 := by omega
  have hnl : decide ((1048576 : Int) - bs.length < 0) = false := decide_eq_false h1
  have hl1 : (0 : Int) ≤ 1048576 - bs.length := by omega
  have HR : ∀ w', Below w.heap.size w w' → Hid (Calls Try.prog 17 #[.agg #[.int .i64 W, .int .i64 T, .slice A bs.length c]] w' (RegionRet w' W T bs)) :=
    fun w' h => hide (toRegion_any W T A c w.heap.size bs w' (hr.below h) h.size hn)
  have HI1 : ∀ w', Below w.heap.size w w' → Hid (Calls Try.prog 18 #[.slice A1 z1.length c1] w' (IntsRet w' z1)) :=
    fun w' h => hide (toIntS_any A1 c1 w.heap.size z1 w' (hr1.below h) h.size hn1)
  obtain ⟨G, hG⟩ : ∃ G, G = daV W T bs z1 := ⟨_, rfl⟩
  have HGG := Lib.hid hG
  clear hG
  obtain ⟨G2, hG2⟩ : ∃ G2, G2 = daN W T bs z1 := ⟨_, rfl⟩
  have HG2 := Lib.hid hG2
  clear hG2
  have hgg2 : (G2 != G2) = false := by simp
  have hGl : G.length ≤ 1048576 := by rw [HGG.out]; exact Nat.le_trans daV_len (by omega)
  go_enter Try.func9, Try.ntmps9
  go_wp2_with fail
  refine (unhide HZ).mono ?_
  rintro e w100 ⟨rfl, hb100⟩
  have hB100 : Below w.heap.size w w100 := hbx.trans (hb100.mono (by simp))
  have hk : Blk w100 w.heap.size 24 #[.int .i64 W, .int .i64 T, .slice A bs.length c] := hbk.below hb100 (by simp)
  clear hbk hbx HZ hb100
  have c0 := hk.cell 0
  have c1 := hk.cell 1
  have c2 := hk.cell 2
  simp at c0 c1 c2
  go_wp2_with fail
  clear c0 c1 c2
  refine (unhide (HR _ hB100)).mono ?_
  rintro e w101 ⟨grs, rfl, hors, hb101⟩
  have hB101 := hB100.trans (hb101.mono hB100.size)
  have hk := hk.below hb101 hk.lt
  clear hb101 hB100
  go_wp2_with fail
  refine (unhide (HI1 _ hB101)).mono ?_
  rintro e w102 ⟨gi1s, rfl, hoi1s, hb102⟩
  have hB102 := hB101.trans (hb102.mono hB101.size)
  have hk := hk.below hb102 hk.lt
  have hors := own_below hors hb102 (Nat.le_refl _)
  clear hb102 hB101
  go_wp2_with fail
  have hcall := (downAllS_any W T _ bs.length bs.length w102.heap.size bs z1 _ z1.length z1.length w102 rfl rfl (Reads.of_own hors) (Reads.of_own hoi1s) (Nat.le_refl _) (by omega) (by omega))
  rw [← HGG.out, ← HG2.out] at hcall
  refine hcall.mono ?_
  clear hcall
  rintro e w103 ⟨Aw, capw, cvw, rfl, how, hb103⟩
  have hB103 := hB102.trans (hb103.mono hB102.size)
  have hk := hk.below hb103 hk.lt
  have hors := own_below hors hb103 (Nat.le_refl _)
  have hoi1s := own_below hoi1s hb103 (Nat.le_refl _)
  clear hb103 hB102
  clear hors hoi1s
  have c0 := hk.cell 0
  have c1 := hk.cell 1
  have c2 := hk.cell 2
  simp at c0 c1 c2
  go_wp2_with fail
  clear c0 c1 c2
  have pre_hk := hk
  have pre_how := how
  have preB := hB103.size
  refine (unhide (HR _ hB103)).mono ?_
  rintro e w104 ⟨grx, rfl, horx, hb104⟩
  have hB104 := hB103.trans (hb104.mono hB103.size)
  have hk := hk.below hb104 hk.lt
  have how := own_below how hb104 (Nat.le_refl _)
  clear hb104 hB103
  have sep_hk_horx := blk_sep pre_hk horx (Nat.le_refl _)
  have sep_how_horx := own_sep pre_how horx (Nat.le_refl _)
  have low_horx := size_sep horx preB
  clear preB pre_hk pre_how
  obtain ⟨X, hX⟩ : ∃ X, X = w104.heap.size := ⟨_, rfl⟩
  have hx : Blk (w104.alloc (.cells #[.int .i64 W, .int .i64 T, .slice (some ⟨grx, 0, none⟩) bs.length bs.length] 29)) X 29 #[.int .i64 W, .int .i64 T, .slice (some ⟨grx, 0, none⟩) bs.length bs.length] := Blk.new' hX
  have sep_hx_horx := sep_new horx hX
  have hBx : Below w.heap.size w (w104.alloc (.cells #[.int .i64 W, .int .i64 T, .slice (some ⟨grx, 0, none⟩) bs.length bs.length] 29)) := hB104.alloc hB104.size _
  have hk := hk.alloc (.cells #[.int .i64 W, .int .i64 T, .slice (some ⟨grx, 0, none⟩) bs.length bs.length] 29)
  have how := how.alloc (.cells #[.int .i64 W, .int .i64 T, .slice (some ⟨grx, 0, none⟩) bs.length bs.length] 29)
  have horx := horx.alloc (.cells #[.int .i64 W, .int .i64 T, .slice (some ⟨grx, 0, none⟩) bs.length bs.length] 29)
  have HX := Lib.hid hX
  clear hX hB104
  go_wp2_with fail
  have pre_hk := hk
  have pre_how := how
  have pre_horx := horx
  have pre_hx := hx
  have preB := hBx.size
  refine (unhide (HI1 _ hBx)).mono ?_
  rintro e w105 ⟨gi1x, rfl, hoi1x, hb105⟩
  have hB105 := hBx.trans (hb105.mono hBx.size)
  have hk := hk.below hb105 hk.lt
  have how := own_below how hb105 (Nat.le_refl _)
  have horx := own_below horx hb105 (Nat.le_refl _)
  have hx := hx.below hb105 hx.lt
  clear hb105 hBx
  have sep_hk_hoi1x := blk_sep pre_hk hoi1x (Nat.le_refl _)
  have sep_how_hoi1x := own_sep pre_how hoi1x (Nat.le_refl _)
  have sep_horx_hoi1x := own_sep pre_horx hoi1x (Nat.le_refl _)
  have sep_hx_hoi1x := blk_sep pre_hx hoi1x (Nat.le_refl _)
  have low_hoi1x := size_sep hoi1x preB
  clear preB pre_hk pre_how pre_horx pre_hx
  have x0 := hx.cell 0
  have x1 := hx.cell 1
  have x2 := hx.cell 2
  simp at x0 x1 x2
  try rw [← HX.out]
  go_wp2_with fail
  clear x0 x1 x2
  have pre_hk := hk
  have pre_how := how
  have pre_horx := horx
  have pre_hx := hx
  have pre_hoi1x := hoi1x
  have preB := hB105.size
  have hcall := (downAllI_any W T _ bs.length bs.length w105.heap.size bs z1 _ z1.length z1.length (.inr ⟨_, _, rfl⟩) w105 rfl rfl (Reads.of_own horx) (Reads.of_own hoi1x) (Nat.le_refl _) (by omega) (by omega))
  rw [← HGG.out, ← HG2.out] at hcall
  refine hcall.mono ?_
  clear hcall
  rintro e w106 ⟨Ag, capg, cvg, rfl, hog, hb106⟩
  have hB106 := hB105.trans (hb106.mono hB105.size)
  have hk := hk.below hb106 hk.lt
  have how := own_below how hb106 (Nat.le_refl _)
  have horx := own_below horx hb106 (Nat.le_refl _)
  have hx := hx.below hb106 hx.lt
  have hoi1x := own_below hoi1x hb106 (Nat.le_refl _)
  clear hb106 hB105
  have sep_hk_hog := blk_sep pre_hk hog (Nat.le_refl _)
  have sep_how_hog := own_sep pre_how hog (Nat.le_refl _)
  have sep_horx_hog := own_sep pre_horx hog (Nat.le_refl _)
  have sep_hx_hog := blk_sep pre_hx hog (Nat.le_refl _)
  have sep_hoi1x_hog := own_sep pre_hoi1x hog (Nat.le_refl _)
  have low_hog := size_sep hog preB
  clear preB pre_hk pre_how pre_horx pre_hx pre_hoi1x
  go_wp2_with fail
  refine (eqIntS_same _ _ _ _ w106.heap.size w106.heap.size G w106 (Reads.of_own hog) (Reads.of_own how) hGl).mono ?_
  rintro e w107 ⟨rfl, hb107⟩
  have hB107 := hB106.trans (hb107.mono hB106.size)
  have hk := hk.below hb107 hk.lt
  have how := own_below how hb107 (Nat.le_refl _)
  have horx := own_below horx hb107 (Nat.le_refl _)
  have hx := hx.below hb107 hx.lt
  have hoi1x := own_below hoi1x hb107 (Nat.le_refl _)
  have hog := own_below hog hb107 (Nat.le_refl _)
  clear hb107 hB106
  have x0 := hx.cell 0
  have x1 := hx.cell 1
  have x2 := hx.cell 2
  simp at x0 x1 x2
  have c0 := hk.cell 0
  have c1 := hk.cell 1
  have c2 := hk.cell 2
  simp at c0 c1 c2
  go_wp2_with fail
  go_region_held3 (fun w' => w'.cell? ⟨X, 0, none⟩ = some (Value.int IntKind.i64 W) ∧ w'.cell? ⟨X, 1, none⟩ = some (.int .i64 T) ∧ w'.cell? ⟨X, 2, none⟩ = some (.slice (some ⟨grx, 0, none⟩) bs.length bs.length) ∧ w'.cell? ⟨w.heap.size, 0, none⟩ = some (.int .i64 W) ∧ w'.cell? ⟨w.heap.size, 1, none⟩ = some (.int .i64 T) ∧ w'.cell? ⟨w.heap.size, 2, none⟩ = some (.slice A bs.length c))
    (first | exact ⟨x0, x1, x2, c0, c1, c2⟩ | exact ⟨cell_kept (w := w107.drew) x0 hb108, cell_kept (w := w107.drew) x1 hb108, cell_kept (w := w107.drew) x2 hb108, cell_kept (w := w107.drew) c0 hb108, cell_kept (w := w107.drew) c1 hb108, cell_kept (w := w107.drew) c2 hb108⟩ | exact ⟨cell_kept (cell_kept (w := w107.drew) x0 hb108) hb109, cell_kept (cell_kept (w := w107.drew) x1 hb108) hb109, cell_kept (cell_kept (w := w107.drew) x2 hb108) hb109, cell_kept (cell_kept (w := w107.drew) c0 hb108) hb109, cell_kept (cell_kept (w := w107.drew) c1 hb108) hb109, cell_kept (cell_kept (w := w107.drew) c2 hb108) hb109⟩)
    (first
      | (go_at_call 17; refine (unhide (HR _ hB107.drew)).mono ?_; rintro e w108 ⟨gre, rfl, hore, hb108⟩)
      | (go_at_call 21; refine (eqRegion_same W T _ _ _ _ w108.heap.size w108.heap.size bs w108 (Reads.of_own (own_below (w := w107.drew) horx hb108 (Nat.le_refl _))) (Reads.of_own hore) (Nat.le_refl _) (Nat.le_refl _) hn).mono ?_; rintro e w109 ⟨rfl, hb109⟩))
  clear x0 x1 x2 c0 c1 c2
  have hB108 := hB107.drew.trans (hb108.mono hB107.size)
  have hB109 := hB108.trans (hb109.mono hB108.size)
  have hk := (hk.drew.below hb108 hk.drew.lt).below hb109 (hk.drew.below hb108 hk.drew.lt).lt
  have how := own_below (own_below (w := w107.drew) how hb108 (Nat.le_refl _)) hb109 (Nat.le_refl _)
  have horx := own_below (own_below (w := w107.drew) horx hb108 (Nat.le_refl _)) hb109 (Nat.le_refl _)
  have hx := (hx.drew.below hb108 hx.drew.lt).below hb109 (hx.drew.below hb108 hx.drew.lt).lt
  have hoi1x := own_below (own_below (w := w107.drew) hoi1x hb108 (Nat.le_refl _)) hb109 (Nat.le_refl _)
  have hog := own_below (own_below (w := w107.drew) hog hb108 (Nat.le_refl _)) hb109 (Nat.le_refl _)
  clear hb108 hb109 hB108 hB107 hore
  go_wp2_with fail
  refine (unhide (HI1 _ hB109)).mono ?_
  rintro e w110 ⟨gi1e, rfl, hoi1e, hb110⟩
  have hB110 := hB109.trans (hb110.mono hB109.size)
  have hk := hk.below hb110 hk.lt
  have how := own_below how hb110 (Nat.le_refl _)
  have horx := own_below horx hb110 (Nat.le_refl _)
  have hx := hx.below hb110 hx.lt
  have hoi1x := own_below hoi1x hb110 (Nat.le_refl _)
  have hog := own_below hog hb110 (Nat.le_refl _)
  clear hb110 hB109
  go_wp2_with fail
  refine (eqIntS_same _ _ _ _ w110.heap.size w110.heap.size z1 w110 (Reads.of_own hoi1x) (Reads.of_own hoi1e) hn1).mono ?_
  rintro e w111 ⟨rfl, hb111⟩
  have hB111 := hB110.trans (hb111.mono hB110.size)
  have hk := hk.below hb111 hk.lt
  have how := own_below how hb111 (Nat.le_refl _)
  have horx := own_below horx hb111 (Nat.le_refl _)
  have hx := hx.below hb111 hx.lt
  have hoi1x := own_below hoi1x hb111 (Nat.le_refl _)
  have hog := own_below hog hb111 (Nat.le_refl _)
  have hoi1e := own_below hoi1e hb111 (Nat.le_refl _)
  clear hb111 hB110
  clear hoi1e
  have x0 := hx.cell 0
  have x1 := hx.cell 1
  have x2 := hx.cell 2
  simp at x0 x1 x2
  go_wp2_with fail
  clear x0 x1 x2
  refine (markRegion_any W T (.slice (some ⟨grx, 0, none⟩) bs.length bs.length) bs.length _ bs 1 w111 horx hn (by omega)).mono ?_
  rintro e w112 ⟨_, rfl, horx', hg112⟩
  have hB112 := hB111.grown hg112 hB111.size low_horx
  have hk := hk.grown hg112 sep_hk_horx
  have how := own_grown how hg112 (sep_how_horx)
  have hx := hx.grown hg112 sep_hx_horx
  have hoi1x := own_grown hoi1x hg112 (sep_symm sep_horx_hoi1x)
  have hog := own_grown hog hg112 (sep_symm sep_horx_hog)
  clear horx
  have horx := horx'
  clear horx' hg112 hB111
  go_wp2_with fail
  refine (markIntS_any (.slice (some ⟨gi1x, 0, none⟩) z1.length z1.length) z1.length _ z1 (1 + (bs.length : Int)) w112 hoi1x hn1 (by omega)).mono ?_
  rintro e w113 ⟨rfl, hoi1x', hg113⟩
  have hB113 := hB112.grown hg113 hB112.size low_hoi1x
  have hk := hk.grown hg113 sep_hk_hoi1x
  have how := own_grown how hg113 (sep_how_hoi1x)
  have horx := own_grown horx hg113 (sep_horx_hoi1x)
  have hx := hx.grown hg113 sep_hx_hoi1x
  have hog := own_grown hog hg113 (sep_symm sep_hoi1x_hog)
  clear hoi1x
  have hoi1x := hoi1x'
  clear hoi1x' hg113 hB112
  have hk0 : decide (((1 + (bs.length : Int)) + (z1.length : Int)) < 0) = false := decide_eq_false (by omega)
  go_wp2_with fail
  refine (eqIntS_same _ _ _ _ w113.heap.size w113.heap.size G w113 (Reads.of_own hog) (Reads.of_own how) hGl).mono ?_
  rintro e w114 ⟨rfl, hb114⟩
  have hB114 := hB113.trans (hb114.mono hB113.size)
  have hk := hk.below hb114 hk.lt
  have how := own_below how hb114 (Nat.le_refl _)
  have horx := own_below horx hb114 (Nat.le_refl _)
  have hx := hx.below hb114 hx.lt
  have hoi1x := own_below hoi1x hb114 (Nat.le_refl _)
  have hog := own_below hog hb114 (Nat.le_refl _)
  clear hb114 hB113
  go_wp2_with fail
  refine (markIntC_any Ag G.length cvg capg _ G 1 w114 hog hGl (by omega)).mono ?_
  rintro e w115 ⟨rfl, hog', hg115⟩
  have hB115 := hB114.grown hg115 hB114.size low_hog
  have hk := hk.grown hg115 sep_hk_hog
  have how := own_grown how hg115 (sep_how_hog)
  have horx := own_grown horx hg115 (sep_horx_hog)
  have hx := hx.grown hg115 sep_hx_hog
  have hoi1x := own_grown hoi1x hg115 (sep_hoi1x_hog)
  clear hog
  have hog := hog'
  clear hog' hg115 hB114
  have hm0 : decide ((1 : Int) + (G.length : Int) < 0) = false := decide_eq_false (by omega)
  have hmm : ((1 : Int) + (G.length : Int) != (1 : Int) + (G.length : Int)) = false := by simp
  go_wp2_with fail
  refine (heldIntS_any Ag G.length cvg _ 1 w115 (Reads.of_own hog) hGl (by omega)).mono ?_
  rintro e w' ⟨rfl, rfl⟩
  have c0 := hk.cell 0
  have c1 := hk.cell 1
  have c2 := hk.cell 2
  simp at c0 c1 c2
  go_wp2_with fail
  clear c0 c1 c2
  refine (unhide (HR _ hB115)).mono ?_
  rintro e w116 ⟨grh, rfl, horh, hb116⟩
  have hB116 := hB115.trans (hb116.mono hB115.size)
  have hk := hk.below hb116 hk.lt
  have how := own_below how hb116 (Nat.le_refl _)
  have horx := own_below horx hb116 (Nat.le_refl _)
  have hx := hx.below hb116 hx.lt
  have hoi1x := own_below hoi1x hb116 (Nat.le_refl _)
  have hog := own_below hog hb116 (Nat.le_refl _)
  clear hb116 hB115
  go_wp2_with fail
  refine (unhide (HI1 _ hB116)).mono ?_
  rintro e w117 ⟨gi1h, rfl, hoi1h, hb117⟩
  have hB117 := hB116.trans (hb117.mono hB116.size)
  have hk := hk.below hb117 hk.lt
  have how := own_below how hb117 (Nat.le_refl _)
  have horx := own_below horx hb117 (Nat.le_refl _)
  have hx := hx.below hb117 hx.lt
  have hoi1x := own_below hoi1x hb117 (Nat.le_refl _)
  have hog := own_below hog hb117 (Nat.le_refl _)
  have horh := own_below horh hb117 (Nat.le_refl _)
  clear hb117 hB116
  go_wp2_with fail
  have hcall := (downAllI_any W T _ bs.length bs.length w117.heap.size bs z1 _ z1.length z1.length (.inr ⟨_, _, rfl⟩) w117 rfl rfl (Reads.of_own horh) (Reads.of_own hoi1h) (Nat.le_refl _) (by omega) (by omega))
  rw [← HGG.out, ← HG2.out] at hcall
  refine hcall.mono ?_
  clear hcall
  rintro e w118 ⟨Ah, caph, cvh, rfl, hoh, hb118⟩
  have hB118 := hB117.trans (hb118.mono hB117.size)
  have hk := hk.below hb118 hk.lt
  have how := own_below how hb118 (Nat.le_refl _)
  have horx := own_below horx hb118 (Nat.le_refl _)
  have hx := hx.below hb118 hx.lt
  have hoi1x := own_below hoi1x hb118 (Nat.le_refl _)
  have hog := own_below hog hb118 (Nat.le_refl _)
  have horh := own_below horh hb118 (Nat.le_refl _)
  have hoi1h := own_below hoi1h hb118 (Nat.le_refl _)
  clear hb118 hB117
  clear horh hoi1h
  go_wp2_with fail
  refine (eqIntS_same _ _ _ _ w118.heap.size w118.heap.size G w118 (Reads.of_own hoh) (Reads.of_own how) hGl).mono ?_
  rintro e w119 ⟨rfl, hb119⟩
  have hB119 := hB118.trans (hb119.mono hB118.size)
  have hk := hk.below hb119 hk.lt
  have how := own_below how hb119 (Nat.le_refl _)
  have horx := own_below horx hb119 (Nat.le_refl _)
  have hx := hx.below hb119 hx.lt
  have hoi1x := own_below hoi1x hb119 (Nat.le_refl _)
  have hog := own_below hog hb119 (Nat.le_refl _)
  have hoh := own_below hoh hb119 (Nat.le_refl _)
  clear hb119 hB118
  go_wp2_with fail
  refine (heldIntS_any Ag G.length cvg _ 1 w119 (Reads.of_own hog) hGl (by omega)).mono ?_
  rintro e w' ⟨rfl, rfl⟩
  go_wp2_with fail
  go_ret
  exact ⟨rfl, hB119⟩
end Go.Proofs.Ytbonmnfmlobpbaa
