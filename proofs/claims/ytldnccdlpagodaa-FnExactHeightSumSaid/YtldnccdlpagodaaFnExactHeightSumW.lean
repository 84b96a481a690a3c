/-
  YtldnccdlpagodaaFnExactHeightSumW: the walk of FnExactHeightSum.
-/
import Derived.Test.YtldnccdlpagodaaTf
import Derived.Test.YtldnccdlpagodaaEx
import Derived.Test.YtldnccdlpagodaaPV
namespace Go.Proofs.Ytldnccdlpagodaa
open Go.RowKit

set_option maxHeartbeats 2000000 in
set_option maxRecDepth 100000 in
theorem FnExactHeightSum_walk (w : World) (W T : Int) (A : Option Addr) (n c : Nat) (bs : List Bool) (_wW : (Lit.int .i64 W).wf = true) (_wT : (Lit.int .i64 T).wf = true) (_hc : n ≤ c) (hm : n ≤ maxLen) (hl : bs.length = n) (hr : Reads w w.heap.size 1 A n (bs.map Value.bool)) (a1 : Int) (_w1 : (Lit.int .i64 a1).wf = true) :
    Calls Try.prog 4 #[.agg #[.int .i64 W, .int .i64 T, .slice A n c], .int .i64 a1] w fun e w' => e = .returned (.bool true) ∧ Below w.heap.size w w' := by
  simp only [maxLen] at hm
  subst hl
  have hbx : Below w.heap.size w (w.alloc (.cells #[.int .i64 W, .int .i64 T, .slice A bs.length c] 24)) := (Below.refl _ _).alloc (Nat.le_refl _) _
  have hbk := Blk.new w 24 #[.int .i64 W, .int .i64 T, .slice A bs.length c]
  have HZ := hide (szRegion_any W T A bs.length c 1048576 (w.alloc (.cells #[.int .i64 W, .int .i64 T, .slice A bs.length c] 24)) (by omega) (by omega))
  by_cases h1 : (1048576 : Int) - bs.length < 0
  · rw [if_pos h1] at HZ
    clear hbk
    go_enter Try.func4, Try.ntmps4
    go_wp2_with (go_at_call 13; refine (unhide HZ).mono ?_; rintro e w1 ⟨rfl, hb1⟩)
    go_ret
    exact ⟨rfl, hbx.trans (hb1.mono hbx.size)⟩
  rw [if_neg h1] at HZ
  have hn : bs.length ≤ 1048576 := by omega
  have hnl : decide ((1048576 : Int) - bs.length < 0) = false := decide_eq_false h1
  have hl1 : (0 : Int) ≤ 1048576 - bs.length := by omega
  have HR : ∀ w', Below w.heap.size w w' → Hid (Calls Try.prog 15 #[.agg #[.int .i64 W, .int .i64 T, .slice A bs.length c]] w' (RegionRet w' W T bs)) :=
    fun w' h => hide (toRegion_any W T A c w.heap.size bs w' (hr.below h) h.size hn)
  obtain ⟨G, hG⟩ : ∃ G, G = hsmV W T bs a1 := ⟨_, rfl⟩
  have HGG := Lib.hid hG
  clear hG
  have hgg : (G != G) = false := by simp
  go_enter Try.func4, Try.ntmps4
  go_wp2_with fail
  refine (unhide HZ).mono ?_
  rintro e w100 ⟨rfl, hb100⟩
  have hB100 : Below w.heap.size w w100 := hbx.trans (hb100.mono hbx.size)
  have hk : Blk w100 w.heap.size 24 #[.int .i64 W, .int .i64 T, .slice A bs.length c] := hbk.below hb100 hbk.lt
  clear hbk hbx HZ hb100
  have c0 := hk.cell 0
  have c1 := hk.cell 1
  have c2 := hk.cell 2
  simp at c0 c1 c2
  go_wp2_with fail
  clear c0 c1 c2
  refine (unhide (HR _ hB100)).mono ?_
  rintro e w101 ⟨grs, rfl, hors, hb101⟩
  have hB101 := hB100.trans (hb101.mono hB100.size)
  have hk := hk.below hb101 hk.lt
  clear hb101 hB100
  go_wp2_with fail
  have hcall := (heightSumS_any W T _ bs.length bs.length w101.heap.size bs a1 w101 rfl (Reads.of_own hors) (Nat.le_refl _) (by omega))
  rw [← HGG.out] at hcall
  refine hcall.mono ?_
  clear hcall
  rintro e w102 ⟨rfl, hb102⟩
  have hB102 := hB101.trans (hb102.mono hB101.size)
  have hk := hk.below hb102 hk.lt
  have hors := own_below hors hb102 (Nat.le_refl _)
  clear hb102 hB101
  clear hors
  have c0 := hk.cell 0
  have c1 := hk.cell 1
  have c2 := hk.cell 2
  simp at c0 c1 c2
  go_wp2_with fail
  clear c0 c1 c2
  have pre_hk := hk
  have preB := hB102.size
  refine (unhide (HR _ hB102)).mono ?_
  rintro e w103 ⟨grx, rfl, horx, hb103⟩
  have hB103 := hB102.trans (hb103.mono hB102.size)
  have hk := hk.below hb103 hk.lt
  clear hb103 hB102
  have sep_hk_horx := blk_sep pre_hk horx (Nat.le_refl _)
  have low_horx := size_sep horx preB
  clear preB pre_hk
  obtain ⟨X, hX⟩ : ∃ X, X = w103.heap.size := ⟨_, rfl⟩
  have hx : Blk (w103.alloc (.cells #[.int .i64 W, .int .i64 T, .slice (some ⟨grx, 0, none⟩) bs.length bs.length] 29)) X 29 #[.int .i64 W, .int .i64 T, .slice (some ⟨grx, 0, none⟩) bs.length bs.length] := Blk.new' hX
  have sep_hx_horx := sep_new horx hX
  have hBx : Below w.heap.size w (w103.alloc (.cells #[.int .i64 W, .int .i64 T, .slice (some ⟨grx, 0, none⟩) bs.length bs.length] 29)) := hB103.alloc hB103.size _
  have hk := hk.alloc (.cells #[.int .i64 W, .int .i64 T, .slice (some ⟨grx, 0, none⟩) bs.length bs.length] 29)
  have horx := horx.alloc (.cells #[.int .i64 W, .int .i64 T, .slice (some ⟨grx, 0, none⟩) bs.length bs.length] 29)
  have HX := Lib.hid hX
  clear hX hB103
  have x0 := hx.cell 0
  have x1 := hx.cell 1
  have x2 := hx.cell 2
  simp at x0 x1 x2
  try rw [← HX.out]
  go_wp2_with fail
  clear x0 x1 x2
  have hcall := (heightSumI_any W T _ bs.length bs.length (w103.alloc (.cells #[.int .i64 W, .int .i64 T, .slice (some ⟨grx, 0, none⟩) bs.length bs.length] 29)).heap.size bs a1 (w103.alloc (.cells #[.int .i64 W, .int .i64 T, .slice (some ⟨grx, 0, none⟩) bs.length bs.length] 29)) rfl (Reads.of_own horx) (Nat.le_refl _) (by omega))
  rw [← HGG.out] at hcall
  refine hcall.mono ?_
  rintro e w104 ⟨rfl, hb104⟩
  have hB104 := hBx.trans (hb104.mono hBx.size)
  have hk := hk.below hb104 hk.lt
  have horx := own_below horx hb104 (Nat.le_refl _)
  have hx := hx.below hb104 hx.lt
  clear hb104 hBx
  clear hcall
  try rw [← HX.out]
  have x0 := hx.cell 0
  have x1 := hx.cell 1
  have x2 := hx.cell 2
  simp at x0 x1 x2
  have c0 := hk.cell 0
  have c1 := hk.cell 1
  have c2 := hk.cell 2
  simp at c0 c1 c2
  go_wp2_with fail
  go_region_held3 (fun w' => w'.cell? ⟨X, 0, none⟩ = some (Value.int IntKind.i64 W) ∧ w'.cell? ⟨X, 1, none⟩ = some (.int .i64 T) ∧ w'.cell? ⟨X, 2, none⟩ = some (.slice (some ⟨grx, 0, none⟩) bs.length bs.length) ∧ w'.cell? ⟨w.heap.size, 0, none⟩ = some (.int .i64 W) ∧ w'.cell? ⟨w.heap.size, 1, none⟩ = some (.int .i64 T) ∧ w'.cell? ⟨w.heap.size, 2, none⟩ = some (.slice A bs.length c))
    (first | exact ⟨x0, x1, x2, c0, c1, c2⟩ | exact ⟨cell_kept (w := w104.drew) x0 hb105, cell_kept (w := w104.drew) x1 hb105, cell_kept (w := w104.drew) x2 hb105, cell_kept (w := w104.drew) c0 hb105, cell_kept (w := w104.drew) c1 hb105, cell_kept (w := w104.drew) c2 hb105⟩ | exact ⟨cell_kept (cell_kept (w := w104.drew) x0 hb105) hb106, cell_kept (cell_kept (w := w104.drew) x1 hb105) hb106, cell_kept (cell_kept (w := w104.drew) x2 hb105) hb106, cell_kept (cell_kept (w := w104.drew) c0 hb105) hb106, cell_kept (cell_kept (w := w104.drew) c1 hb105) hb106, cell_kept (cell_kept (w := w104.drew) c2 hb105) hb106⟩)
    (first
      | (go_at_call 15; refine (unhide (HR _ hB104.drew)).mono ?_; rintro e w105 ⟨gre, rfl, hore, hb105⟩)
      | (go_at_call 19; refine (eqRegion_same W T _ _ _ _ w105.heap.size w105.heap.size bs w105 (Reads.of_own (own_below (w := w104.drew) horx hb105 (Nat.le_refl _))) (Reads.of_own hore) (Nat.le_refl _) (Nat.le_refl _) hn).mono ?_; rintro e w106 ⟨rfl, hb106⟩))
  clear x0 x1 x2 c0 c1 c2
  have hB105 := hB104.drew.trans (hb105.mono hB104.size)
  have hB106 := hB105.trans (hb106.mono hB105.size)
  have hk := (hk.drew.below hb105 hk.drew.lt).below hb106 (hk.drew.below hb105 hk.drew.lt).lt
  have horx := own_below (own_below (w := w104.drew) horx hb105 (Nat.le_refl _)) hb106 (Nat.le_refl _)
  have hx := (hx.drew.below hb105 hx.drew.lt).below hb106 (hx.drew.below hb105 hx.drew.lt).lt
  clear hb105 hb106 hB105 hB104 hore
  go_wp2_with fail
  go_ret
  exact ⟨rfl, hB106⟩
end Go.Proofs.Ytldnccdlpagodaa
