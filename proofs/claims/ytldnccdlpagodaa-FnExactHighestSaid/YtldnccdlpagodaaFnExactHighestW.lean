/-
  YtldnccdlpagodaaFnExactHighestW: the walk of FnExactHighest.
-/
import Derived.Test.YtldnccdlpagodaaTu
import Derived.Test.YtldnccdlpagodaaEx
import Derived.Test.YtldnccdlpagodaaPV
namespace Go.Proofs.Ytldnccdlpagodaa
open Go.RowKit

set_option maxHeartbeats 2000000 in
set_option maxRecDepth 100000 in
theorem FnExactHighest_walk (w : World) (W T : Int) (A : Option Addr) (n c : Nat) (bs : List Bool) (_wW : (Lit.int .i64 W).wf = true) (_wT : (Lit.int .i64 T).wf = true) (_hc : n ≤ c) (hm : n ≤ maxLen) (hl : bs.length = n) (hr : Reads w w.heap.size 1 A n (bs.map Value.bool)) :
    Calls Try.prog 7 #[.agg #[.int .i64 W, .int .i64 T, .slice A n c]] w fun e w' => e = .returned (.bool true) ∧ Below w.heap.size w w' := by
  simp only [maxLen] at hm
  subst hl
  have hbx : Below w.heap.size w (w.alloc (.cells #[.int .i64 W, .int .i64 T, .slice A bs.length c] 24)) := (Below.refl _ _).alloc (Nat.le_refl _) _
  have hbk := Blk.new w 24 #[.int .i64 W, .int .i64 T, .slice A bs.length c]
  have HZ := hide (szRegion_any W T A bs.length c 1048576 (w.alloc (.cells #[.int .i64 W, .int .i64 T, .slice A bs.length c] 24)) (by omega) (by omega))
  by_cases h1 : (1048576 : Int) - bs.length < 0
  · rw [if_pos h1] at HZ
    clear hbk
    go_enter Try.func7, Try.ntmps7
    go_wp2_with (go_at_call 13; refine (unhide HZ).mono ?_; rintro e w1 ⟨rfl, hb1⟩)
    go_ret
    exact ⟨rfl, hbx.trans (hb1.mono hbx.size)⟩
  rw [if_neg h1] at HZ
  have hn : bs.length ≤ 1048576 := by omega
  have hnl : decide ((1048576 : Int) - bs.length < 0) = false := decide_eq_false h1
  have hl1 : (0 : Int) ≤ 1048576 - bs.length := by omega
  have HR : ∀ w', Below w.heap.size w w' → Hid (Calls Try.prog 15 #[.agg #[.int .i64 W, .int .i64 T, .slice A bs.length c]] w' (RegionRet w' W T bs)) :=
    fun w' h => hide (toRegion_any W T A c w.heap.size bs w' (hr.below h) h.size hn)
  obtain ⟨G, hG⟩ : ∃ G, G = exV max W T bs := ⟨_, rfl⟩
  have HGG := Lib.hid hG
  clear hG
  obtain ⟨G2, hG2⟩ : ∃ G2, G2 = exB W T bs := ⟨_, rfl⟩
  have HG2 := Lib.hid hG2
  clear hG2
  have hgg2 : (G2 != G2) = false := by simp
  have hGl : G.length ≤ 1048576 := by rw [HGG.out]; exact Nat.le_trans exV_len (by omega)
  go_enter Try.func7, Try.ntmps7
  go_wp2_with fail
  refine (unhide HZ).mono ?_
  rintro e w100 ⟨rfl, hb100⟩
  have hB100 : Below w.heap.size w w100 := hbx.trans (hb100.mono hbx.size)
  have hk : Blk w100 w.heap.size 24 #[.int .i64 W, .int .i64 T, .slice A bs.length c] := hbk.below hb100 hbk.lt
  clear hbk hbx HZ hb100
  have c0 := hk.cell 0
  have c1 := hk.cell 1
  have c2 := hk.cell 2
  simp at c0 c1 c2
  go_wp2_with fail
  clear c0 c1 c2
  refine (unhide (HR _ hB100)).mono ?_
  rintro e w101 ⟨grs, rfl, hors, hb101⟩
  have hB101 := hB100.trans (hb101.mono hB100.size)
  have hk := hk.below hb101 hk.lt
  clear hb101 hB100
  go_wp2_with fail
  have hcall := (highestS_any W T _ bs.length bs.length w101.heap.size bs w101 rfl (Reads.of_own hors) (Nat.le_refl _) (by omega))
  rw [← HGG.out, ← HG2.out] at hcall
  refine hcall.mono ?_
  clear hcall
  rintro e w102 ⟨Aw, capw, cvw, rfl, how, hb102⟩
  have hB102 := hB101.trans (hb102.mono hB101.size)
  have hk := hk.below hb102 hk.lt
  have hors := own_below hors hb102 (Nat.le_refl _)
  clear hb102 hB101
  clear hors
  have c0 := hk.cell 0
  have c1 := hk.cell 1
  have c2 := hk.cell 2
  simp at c0 c1 c2
  go_wp2_with fail
  clear c0 c1 c2
  have pre_hk := hk
  have pre_how := how
  have preB := hB102.size
  refine (unhide (HR _ hB102)).mono ?_
  rintro e w103 ⟨grx, rfl, horx, hb103⟩
  have hB103 := hB102.trans (hb103.mono hB102.size)
  have hk := hk.below hb103 hk.lt
  have how := own_below how hb103 (Nat.le_refl _)
  clear hb103 hB102
  have sep_hk_horx := blk_sep pre_hk horx (Nat.le_refl _)
  have sep_how_horx := own_sep pre_how horx (Nat.le_refl _)
  have low_horx := size_sep horx preB
  clear preB pre_hk pre_how
  obtain ⟨X, hX⟩ : ∃ X, X = w103.heap.size := ⟨_, rfl⟩
  have hx : Blk (w103.alloc (.cells #[.int .i64 W, .int .i64 T, .slice (some ⟨grx, 0, none⟩) bs.length bs.length] 29)) X 29 #[.int .i64 W, .int .i64 T, .slice (some ⟨grx, 0, none⟩) bs.length bs.length] := Blk.new' hX
  have sep_hx_horx := sep_new horx hX
  have hBx : Below w.heap.size w (w103.alloc (.cells #[.int .i64 W, .int .i64 T, .slice (some ⟨grx, 0, none⟩) bs.length bs.length] 29)) := hB103.alloc hB103.size _
  have hk := hk.alloc (.cells #[.int .i64 W, .int .i64 T, .slice (some ⟨grx, 0, none⟩) bs.length bs.length] 29)
  have how := how.alloc (.cells #[.int .i64 W, .int .i64 T, .slice (some ⟨grx, 0, none⟩) bs.length bs.length] 29)
  have horx := horx.alloc (.cells #[.int .i64 W, .int .i64 T, .slice (some ⟨grx, 0, none⟩) bs.length bs.length] 29)
  have HX := Lib.hid hX
  clear hX hB103
  have x0 := hx.cell 0
  have x1 := hx.cell 1
  have x2 := hx.cell 2
  simp at x0 x1 x2
  try rw [← HX.out]
  go_wp2_with fail
  clear x0 x1 x2
  have pre_hk := hk
  have pre_how := how
  have pre_horx := horx
  have pre_hx := hx
  have preB := hBx.size
  have hcall := (highestI_any W T _ bs.length bs.length (w103.alloc (.cells #[.int .i64 W, .int .i64 T, .slice (some ⟨grx, 0, none⟩) bs.length bs.length] 29)).heap.size bs (w103.alloc (.cells #[.int .i64 W, .int .i64 T, .slice (some ⟨grx, 0, none⟩) bs.length bs.length] 29)) rfl (Reads.of_own horx) (Nat.le_refl _) (by omega))
  rw [← HGG.out, ← HG2.out] at hcall
  refine hcall.mono ?_
  rintro e w104 ⟨Ag, capg, cvg, rfl, hog, hb104⟩
  have hB104 := hBx.trans (hb104.mono hBx.size)
  have hk := hk.below hb104 hk.lt
  have how := own_below how hb104 (Nat.le_refl _)
  have horx := own_below horx hb104 (Nat.le_refl _)
  have hx := hx.below hb104 hx.lt
  clear hb104 hBx
  clear hcall
  try rw [← HX.out]
  have sep_hk_hog := blk_sep pre_hk hog (Nat.le_refl _)
  have sep_how_hog := own_sep pre_how hog (Nat.le_refl _)
  have sep_horx_hog := own_sep pre_horx hog (Nat.le_refl _)
  have sep_hx_hog := blk_sep pre_hx hog (Nat.le_refl _)
  have low_hog := size_sep hog preB
  clear preB pre_hk pre_how pre_horx pre_hx
  go_wp2_with fail
  refine (eqIntS_same _ _ _ _ w104.heap.size w104.heap.size G w104 (Reads.of_own hog) (Reads.of_own how) hGl).mono ?_
  rintro e w105 ⟨rfl, hb105⟩
  have hB105 := hB104.trans (hb105.mono hB104.size)
  have hk := hk.below hb105 hk.lt
  have how := own_below how hb105 (Nat.le_refl _)
  have horx := own_below horx hb105 (Nat.le_refl _)
  have hx := hx.below hb105 hx.lt
  have hog := own_below hog hb105 (Nat.le_refl _)
  clear hb105 hB104
  have x0 := hx.cell 0
  have x1 := hx.cell 1
  have x2 := hx.cell 2
  simp at x0 x1 x2
  have c0 := hk.cell 0
  have c1 := hk.cell 1
  have c2 := hk.cell 2
  simp at c0 c1 c2
  go_wp2_with fail
  go_region_held3 (fun w' => w'.cell? ⟨X, 0, none⟩ = some (Value.int IntKind.i64 W) ∧ w'.cell? ⟨X, 1, none⟩ = some (.int .i64 T) ∧ w'.cell? ⟨X, 2, none⟩ = some (.slice (some ⟨grx, 0, none⟩) bs.length bs.length) ∧ w'.cell? ⟨w.heap.size, 0, none⟩ = some (.int .i64 W) ∧ w'.cell? ⟨w.heap.size, 1, none⟩ = some (.int .i64 T) ∧ w'.cell? ⟨w.heap.size, 2, none⟩ = some (.slice A bs.length c))
    (first | exact ⟨x0, x1, x2, c0, c1, c2⟩ | exact ⟨cell_kept (w := w105.drew) x0 hb106, cell_kept (w := w105.drew) x1 hb106, cell_kept (w := w105.drew) x2 hb106, cell_kept (w := w105.drew) c0 hb106, cell_kept (w := w105.drew) c1 hb106, cell_kept (w := w105.drew) c2 hb106⟩ | exact ⟨cell_kept (cell_kept (w := w105.drew) x0 hb106) hb107, cell_kept (cell_kept (w := w105.drew) x1 hb106) hb107, cell_kept (cell_kept (w := w105.drew) x2 hb106) hb107, cell_kept (cell_kept (w := w105.drew) c0 hb106) hb107, cell_kept (cell_kept (w := w105.drew) c1 hb106) hb107, cell_kept (cell_kept (w := w105.drew) c2 hb106) hb107⟩)
    (first
      | (go_at_call 15; refine (unhide (HR _ hB105.drew)).mono ?_; rintro e w106 ⟨gre, rfl, hore, hb106⟩)
      | (go_at_call 19; refine (eqRegion_same W T _ _ _ _ w106.heap.size w106.heap.size bs w106 (Reads.of_own (own_below (w := w105.drew) horx hb106 (Nat.le_refl _))) (Reads.of_own hore) (Nat.le_refl _) (Nat.le_refl _) hn).mono ?_; rintro e w107 ⟨rfl, hb107⟩))
  clear x0 x1 x2 c0 c1 c2
  have hB106 := hB105.drew.trans (hb106.mono hB105.size)
  have hB107 := hB106.trans (hb107.mono hB106.size)
  have hk := (hk.drew.below hb106 hk.drew.lt).below hb107 (hk.drew.below hb106 hk.drew.lt).lt
  have how := own_below (own_below (w := w105.drew) how hb106 (Nat.le_refl _)) hb107 (Nat.le_refl _)
  have horx := own_below (own_below (w := w105.drew) horx hb106 (Nat.le_refl _)) hb107 (Nat.le_refl _)
  have hx := (hx.drew.below hb106 hx.drew.lt).below hb107 (hx.drew.below hb106 hx.drew.lt).lt
  have hog := own_below (own_below (w := w105.drew) hog hb106 (Nat.le_refl _)) hb107 (Nat.le_refl _)
  clear hb106 hb107 hB106 hB105 hore
  have x0 := hx.cell 0
  have x1 := hx.cell 1
  have x2 := hx.cell 2
  simp at x0 x1 x2
  go_wp2_with fail
  clear x0 x1 x2
  refine (markRegion_any W T (.slice (some ⟨grx, 0, none⟩) bs.length bs.length) bs.length _ bs 1 w107 horx hn (by omega)).mono ?_
  rintro e w108 ⟨_, rfl, horx', hg108⟩
  have hB108 := hB107.grown hg108 hB107.size low_horx
  have hk := hk.grown hg108 sep_hk_horx
  have how := own_grown how hg108 (sep_how_horx)
  have hx := hx.grown hg108 sep_hx_horx
  have hog := own_grown hog hg108 (sep_symm sep_horx_hog)
  clear horx
  have horx := horx'
  clear horx' hg108 hB107
  have hk0 : decide ((1 + (bs.length : Int)) < 0) = false := decide_eq_false (by omega)
  go_wp2_with fail
  refine (eqIntS_same _ _ _ _ w108.heap.size w108.heap.size G w108 (Reads.of_own hog) (Reads.of_own how) hGl).mono ?_
  rintro e w109 ⟨rfl, hb109⟩
  have hB109 := hB108.trans (hb109.mono hB108.size)
  have hk := hk.below hb109 hk.lt
  have how := own_below how hb109 (Nat.le_refl _)
  have horx := own_below horx hb109 (Nat.le_refl _)
  have hx := hx.below hb109 hx.lt
  have hog := own_below hog hb109 (Nat.le_refl _)
  clear hb109 hB108
  go_wp2_with fail
  refine (markIntC_any Ag G.length cvg capg _ G 1 w109 hog hGl (by omega)).mono ?_
  rintro e w110 ⟨rfl, hog', hg110⟩
  have hB110 := hB109.grown hg110 hB109.size low_hog
  have hk := hk.grown hg110 sep_hk_hog
  have how := own_grown how hg110 (sep_how_hog)
  have horx := own_grown horx hg110 (sep_horx_hog)
  have hx := hx.grown hg110 sep_hx_hog
  clear hog
  have hog := hog'
  clear hog' hg110 hB109
  have hm0 : decide ((1 : Int) + (G.length : Int) < 0) = false := decide_eq_false (by omega)
  have hmm : ((1 : Int) + (G.length : Int) != (1 : Int) + (G.length : Int)) = false := by simp
  go_wp2_with fail
  refine (heldIntS_any Ag G.length cvg _ 1 w110 (Reads.of_own hog) hGl (by omega)).mono ?_
  rintro e w' ⟨rfl, rfl⟩
  have c0 := hk.cell 0
  have c1 := hk.cell 1
  have c2 := hk.cell 2
  simp at c0 c1 c2
  go_wp2_with fail
  clear c0 c1 c2
  refine (unhide (HR _ hB110)).mono ?_
  rintro e w111 ⟨grh, rfl, horh, hb111⟩
  have hB111 := hB110.trans (hb111.mono hB110.size)
  have hk := hk.below hb111 hk.lt
  have how := own_below how hb111 (Nat.le_refl _)
  have horx := own_below horx hb111 (Nat.le_refl _)
  have hx := hx.below hb111 hx.lt
  have hog := own_below hog hb111 (Nat.le_refl _)
  clear hb111 hB110
  go_wp2_with fail
  have hcall := (highestI_any W T _ bs.length bs.length w111.heap.size bs w111 rfl (Reads.of_own horh) (Nat.le_refl _) (by omega))
  rw [← HGG.out, ← HG2.out] at hcall
  refine hcall.mono ?_
  clear hcall
  rintro e w112 ⟨Ah, caph, cvh, rfl, hoh, hb112⟩
  have hB112 := hB111.trans (hb112.mono hB111.size)
  have hk := hk.below hb112 hk.lt
  have how := own_below how hb112 (Nat.le_refl _)
  have horx := own_below horx hb112 (Nat.le_refl _)
  have hx := hx.below hb112 hx.lt
  have hog := own_below hog hb112 (Nat.le_refl _)
  have horh := own_below horh hb112 (Nat.le_refl _)
  clear hb112 hB111
  clear horh
  go_wp2_with fail
  refine (eqIntS_same _ _ _ _ w112.heap.size w112.heap.size G w112 (Reads.of_own hoh) (Reads.of_own how) hGl).mono ?_
  rintro e w113 ⟨rfl, hb113⟩
  have hB113 := hB112.trans (hb113.mono hB112.size)
  have hk := hk.below hb113 hk.lt
  have how := own_below how hb113 (Nat.le_refl _)
  have horx := own_below horx hb113 (Nat.le_refl _)
  have hx := hx.below hb113 hx.lt
  have hog := own_below hog hb113 (Nat.le_refl _)
  have hoh := own_below hoh hb113 (Nat.le_refl _)
  clear hb113 hB112
  go_wp2_with fail
  refine (heldIntS_any Ag G.length cvg _ 1 w113 (Reads.of_own hog) hGl (by omega)).mono ?_
  rintro e w' ⟨rfl, rfl⟩
  go_wp2_with fail
  go_ret
  exact ⟨rfl, hB113⟩
end Go.Proofs.Ytldnccdlpagodaa
