/-
  YtldnccdlpagodaaFnExactPushesFromW: the walk of FnExactPushesFrom.
-/
import Derived.Test.YtldnccdlpagodaaPg
import Derived.Test.YtldnccdlpagodaaEx
import Derived.Test.YtldnccdlpagodaaPV
namespace Go.Proofs.Ytldnccdlpagodaa
open Go.RowKit

set_option maxHeartbeats 2000000 in
set_option maxRecDepth 100000 in
theorem FnExactPushesFrom_walk (w : World) (W T : Int) (A : Option Addr) (n c : Nat) (bs : List Bool) (_wW : (Lit.int .i64 W).wf = true) (_wT : (Lit.int .i64 T).wf = true) (_hc : n ≤ c) (hm : n ≤ maxLen) (hl : bs.length = n) (hr : Reads w w.heap.size 1 A n (bs.map Value.bool)) (A1 : Option Addr) (n1 c1 : Nat) (z1 : List Int) (_hc1 : n1 ≤ c1) (hm1 : n1 ≤ maxLen) (hl1 : z1.length = n1) (hr1 : Reads w w.heap.size 1 A1 n1 (z1.map (Value.int .i64))) (_wz1 : ∀ z ∈ z1, (Lit.int .i64 z).wf = true) (A2 : Option Addr) (n2 c2 : Nat) (z2 : List Int) (_hc2 : n2 ≤ c2) (hm2 : n2 ≤ maxLen) (hl2 : z2.length = n2) (hr2 : Reads w w.heap.size 1 A2 n2 (z2.map (Value.int .i64))) (_wz2 : ∀ z ∈ z2, (Lit.int .i64 z).wf = true) :
    Calls Try.prog 10 #[.agg #[.int .i64 W, .int .i64 T, .slice A n c], .slice A1 n1 c1, .slice A2 n2 c2] w fun e w' => e = .returned (.bool true) ∧ Below w.heap.size w w' := by
  simp only [maxLen] at hm hm1 hm2
  subst hl hl1 hl2
  have hbx : Below w.heap.size w (w.alloc (.cells #[.int .i64 W, .int .i64 T, .slice A bs.length c] 24)) := (Below.refl _ _).alloc (Nat.le_refl _) _
  have hbk := Blk.new w 24 #[.int .i64 W, .int .i64 T, .slice A bs.length c]
  by_cases hb1 : 1048576 < z1.length
  · have d1 : decide ((1048576 : Int) < (z1.length : Int)) = true := decide_eq_true (by omega)
    clear hbk
    go_enter Try.func10, Try.ntmps10
    go_wp2_with fail
    go_ret
    exact ⟨rfl, hbx⟩
  have hn1 : z1.length ≤ 1048576 := by omega
  have d1 : decide ((1048576 : Int) < (z1.length : Int)) = false := decide_eq_false (by omega)
  by_cases hb2 : 1048576 < z2.length
  · have d2 : decide ((1048576 : Int) < (z2.length : Int)) = true := decide_eq_true (by omega)
    clear hbk
    go_enter Try.func10, Try.ntmps10
    go_wp2_with fail
    go_ret
    exact ⟨rfl, hbx⟩
  have hn2 : z2.length ≤ 1048576 := by omega
  have d2 : decide ((1048576 : Int) < (z2.length : Int)) = false := decide_eq_false (by omega)
  have HZ := hide (szRegion_any W T A bs.length c 1048576 (w.alloc (.cells #[.int .i64 W, .int .i64 T, .slice A bs.length c] 24)) (by omega) (by omega))
  by_cases h1 : (1048576 : Int) - bs.length < 0
  · rw [if_pos h1] at HZ
    clear hbk
    go_enter Try.func10, Try.ntmps10
    go_wp2_with (go_at_call 13; refine (unhide HZ).mono ?_; rintro e w1 ⟨rfl, hb1⟩)
    go_ret
    exact ⟨rfl, hbx.trans (hb1.mono (by simp))⟩
  rw [if_neg h1] at HZ
  have hn : bs.length ≤ 1048576 := by omega
  have hnl : decide ((1048576 : Int) - bs.length < 0) = false := decide_eq_false h1
  have hl1 : (0 : Int) ≤ 1048576 - bs.length := by omega
  have HR : ∀ w', Below w.heap.size w w' → Hid (Calls Try.prog 15 #[.agg #[.int .i64 W, .int .i64 T, .slice A bs.length c]] w' (RegionRet w' W T bs)) :=
    fun w' h => hide (toRegion_any W T A c w.heap.size bs w' (hr.below h) h.size hn)
  have HI1 : ∀ w', Below w.heap.size w w' → Hid (Calls Try.prog 16 #[.slice A1 z1.length c1] w' (IntsRet w' z1)) :=
    fun w' h => hide (toIntS_any A1 c1 w.heap.size z1 w' (hr1.below h) h.size hn1)
  have HI2 : ∀ w', Below w.heap.size w w' → Hid (Calls Try.prog 16 #[.slice A2 z2.length c2] w' (IntsRet w' z2)) :=
    fun w' h => hide (toIntS_any A2 c2 w.heap.size z2 w' (hr2.below h) h.size hn2)
  obtain ⟨G, hG⟩ : ∃ G, G = pfV W T bs z1 z2 := ⟨_, rfl⟩
  have HGG := Lib.hid hG
  clear hG
  have hgg : (G != G) = false := by simp
  go_enter Try.func10, Try.ntmps10
  go_wp2_with fail
  refine (unhide HZ).mono ?_
  rintro e w100 ⟨rfl, hb100⟩
  have hB100 : Below w.heap.size w w100 := hbx.trans (hb100.mono (by simp))
  have hk : Blk w100 w.heap.size 24 #[.int .i64 W, .int .i64 T, .slice A bs.length c] := hbk.below hb100 (by simp)
  clear hbk hbx HZ hb100
  have c0 := hk.cell 0
  have c1 := hk.cell 1
  have c2 := hk.cell 2
  simp at c0 c1 c2
  go_wp2_with fail
  clear c0 c1 c2
  refine (unhide (HR _ hB100)).mono ?_
  rintro e w101 ⟨grs, rfl, hors, hb101⟩
  have hB101 := hB100.trans (hb101.mono hB100.size)
  have hk := hk.below hb101 hk.lt
  clear hb101 hB100
  go_wp2_with fail
  refine (unhide (HI1 _ hB101)).mono ?_
  rintro e w102 ⟨gi1s, rfl, hoi1s, hb102⟩
  have hB102 := hB101.trans (hb102.mono hB101.size)
  have hk := hk.below hb102 hk.lt
  have hors := own_below hors hb102 (Nat.le_refl _)
  clear hb102 hB101
  go_wp2_with fail
  refine (unhide (HI2 _ hB102)).mono ?_
  rintro e w103 ⟨gi2s, rfl, hoi2s, hb103⟩
  have hB103 := hB102.trans (hb103.mono hB102.size)
  have hk := hk.below hb103 hk.lt
  have hors := own_below hors hb103 (Nat.le_refl _)
  have hoi1s := own_below hoi1s hb103 (Nat.le_refl _)
  clear hb103 hB102
  go_wp2_with fail
  have hcall := (pushesFromS_any W T _ bs.length bs.length w103.heap.size bs z1 _ z1.length z1.length z2 _ z2.length z2.length w103 rfl rfl rfl (Reads.of_own hors) (Reads.of_own hoi1s) (Reads.of_own hoi2s) (Nat.le_refl _) (by omega) (by omega) (by omega))
  rw [← HGG.out] at hcall
  refine hcall.mono ?_
  clear hcall
  rintro e w104 ⟨rfl, hb104⟩
  have hB104 := hB103.trans (hb104.mono hB103.size)
  have hk := hk.below hb104 hk.lt
  have hors := own_below hors hb104 (Nat.le_refl _)
  have hoi1s := own_below hoi1s hb104 (Nat.le_refl _)
  have hoi2s := own_below hoi2s hb104 (Nat.le_refl _)
  clear hb104 hB103
  clear hors hoi1s hoi2s
  have c0 := hk.cell 0
  have c1 := hk.cell 1
  have c2 := hk.cell 2
  simp at c0 c1 c2
  go_wp2_with fail
  clear c0 c1 c2
  have pre_hk := hk
  have preB := hB104.size
  refine (unhide (HR _ hB104)).mono ?_
  rintro e w105 ⟨grx, rfl, horx, hb105⟩
  have hB105 := hB104.trans (hb105.mono hB104.size)
  have hk := hk.below hb105 hk.lt
  clear hb105 hB104
  have sep_hk_horx := blk_sep pre_hk horx (Nat.le_refl _)
  have low_horx := size_sep horx preB
  clear preB pre_hk
  obtain ⟨X, hX⟩ : ∃ X, X = w105.heap.size := ⟨_, rfl⟩
  have hx : Blk (w105.alloc (.cells #[.int .i64 W, .int .i64 T, .slice (some ⟨grx, 0, none⟩) bs.length bs.length] 29)) X 29 #[.int .i64 W, .int .i64 T, .slice (some ⟨grx, 0, none⟩) bs.length bs.length] := Blk.new' hX
  have sep_hx_horx := sep_new horx hX
  have hBx : Below w.heap.size w (w105.alloc (.cells #[.int .i64 W, .int .i64 T, .slice (some ⟨grx, 0, none⟩) bs.length bs.length] 29)) := hB105.alloc hB105.size _
  have hk := hk.alloc (.cells #[.int .i64 W, .int .i64 T, .slice (some ⟨grx, 0, none⟩) bs.length bs.length] 29)
  have horx := horx.alloc (.cells #[.int .i64 W, .int .i64 T, .slice (some ⟨grx, 0, none⟩) bs.length bs.length] 29)
  have HX := Lib.hid hX
  clear hX hB105
  go_wp2_with fail
  have pre_hk := hk
  have pre_horx := horx
  have pre_hx := hx
  have preB := hBx.size
  refine (unhide (HI1 _ hBx)).mono ?_
  rintro e w106 ⟨gi1x, rfl, hoi1x, hb106⟩
  have hB106 := hBx.trans (hb106.mono hBx.size)
  have hk := hk.below hb106 hk.lt
  have horx := own_below horx hb106 (Nat.le_refl _)
  have hx := hx.below hb106 hx.lt
  clear hb106 hBx
  have sep_hk_hoi1x := blk_sep pre_hk hoi1x (Nat.le_refl _)
  have sep_horx_hoi1x := own_sep pre_horx hoi1x (Nat.le_refl _)
  have sep_hx_hoi1x := blk_sep pre_hx hoi1x (Nat.le_refl _)
  have low_hoi1x := size_sep hoi1x preB
  clear preB pre_hk pre_horx pre_hx
  go_wp2_with fail
  have pre_hk := hk
  have pre_horx := horx
  have pre_hx := hx
  have pre_hoi1x := hoi1x
  have preB := hB106.size
  refine (unhide (HI2 _ hB106)).mono ?_
  rintro e w107 ⟨gi2x, rfl, hoi2x, hb107⟩
  have hB107 := hB106.trans (hb107.mono hB106.size)
  have hk := hk.below hb107 hk.lt
  have horx := own_below horx hb107 (Nat.le_refl _)
  have hx := hx.below hb107 hx.lt
  have hoi1x := own_below hoi1x hb107 (Nat.le_refl _)
  clear hb107 hB106
  have sep_hk_hoi2x := blk_sep pre_hk hoi2x (Nat.le_refl _)
  have sep_horx_hoi2x := own_sep pre_horx hoi2x (Nat.le_refl _)
  have sep_hx_hoi2x := blk_sep pre_hx hoi2x (Nat.le_refl _)
  have sep_hoi1x_hoi2x := own_sep pre_hoi1x hoi2x (Nat.le_refl _)
  have low_hoi2x := size_sep hoi2x preB
  clear preB pre_hk pre_horx pre_hx pre_hoi1x
  have x0 := hx.cell 0
  have x1 := hx.cell 1
  have x2 := hx.cell 2
  simp at x0 x1 x2
  try rw [← HX.out]
  go_wp2_with fail
  clear x0 x1 x2
  have hcall := (pushesFromI_any W T _ bs.length bs.length w107.heap.size bs z1 _ z1.length z1.length z2 _ z2.length z2.length w107 rfl rfl rfl (fun _ => ⟨_, rfl⟩) (fun _ => ⟨_, rfl⟩) (Reads.of_own horx) (Reads.of_own hoi1x) (Reads.of_own hoi2x) (Nat.le_refl _) (by omega) (by omega) (by omega))
  rw [← HGG.out] at hcall
  refine hcall.mono ?_
  clear hcall
  rintro e w108 ⟨rfl, hb108⟩
  have hB108 := hB107.trans (hb108.mono hB107.size)
  have hk := hk.below hb108 hk.lt
  have horx := own_below horx hb108 (Nat.le_refl _)
  have hx := hx.below hb108 hx.lt
  have hoi1x := own_below hoi1x hb108 (Nat.le_refl _)
  have hoi2x := own_below hoi2x hb108 (Nat.le_refl _)
  clear hb108 hB107
  have x0 := hx.cell 0
  have x1 := hx.cell 1
  have x2 := hx.cell 2
  simp at x0 x1 x2
  have c0 := hk.cell 0
  have c1 := hk.cell 1
  have c2 := hk.cell 2
  simp at c0 c1 c2
  go_wp2_with fail
  go_region_held3 (fun w' => w'.cell? ⟨X, 0, none⟩ = some (Value.int IntKind.i64 W) ∧ w'.cell? ⟨X, 1, none⟩ = some (.int .i64 T) ∧ w'.cell? ⟨X, 2, none⟩ = some (.slice (some ⟨grx, 0, none⟩) bs.length bs.length) ∧ w'.cell? ⟨w.heap.size, 0, none⟩ = some (.int .i64 W) ∧ w'.cell? ⟨w.heap.size, 1, none⟩ = some (.int .i64 T) ∧ w'.cell? ⟨w.heap.size, 2, none⟩ = some (.slice A bs.length c))
    (first | exact ⟨x0, x1, x2, c0, c1, c2⟩ | exact ⟨cell_kept (w := w108.drew) x0 hb109, cell_kept (w := w108.drew) x1 hb109, cell_kept (w := w108.drew) x2 hb109, cell_kept (w := w108.drew) c0 hb109, cell_kept (w := w108.drew) c1 hb109, cell_kept (w := w108.drew) c2 hb109⟩ | exact ⟨cell_kept (cell_kept (w := w108.drew) x0 hb109) hb110, cell_kept (cell_kept (w := w108.drew) x1 hb109) hb110, cell_kept (cell_kept (w := w108.drew) x2 hb109) hb110, cell_kept (cell_kept (w := w108.drew) c0 hb109) hb110, cell_kept (cell_kept (w := w108.drew) c1 hb109) hb110, cell_kept (cell_kept (w := w108.drew) c2 hb109) hb110⟩)
    (first
      | (go_at_call 15; refine (unhide (HR _ hB108.drew)).mono ?_; rintro e w109 ⟨gre, rfl, hore, hb109⟩)
      | (go_at_call 19; refine (eqRegion_same W T _ _ _ _ w109.heap.size w109.heap.size bs w109 (Reads.of_own (own_below (w := w108.drew) horx hb109 (Nat.le_refl _))) (Reads.of_own hore) (Nat.le_refl _) (Nat.le_refl _) hn).mono ?_; rintro e w110 ⟨rfl, hb110⟩))
  clear x0 x1 x2 c0 c1 c2
  have hB109 := hB108.drew.trans (hb109.mono hB108.size)
  have hB110 := hB109.trans (hb110.mono hB109.size)
  have hk := (hk.drew.below hb109 hk.drew.lt).below hb110 (hk.drew.below hb109 hk.drew.lt).lt
  have horx := own_below (own_below (w := w108.drew) horx hb109 (Nat.le_refl _)) hb110 (Nat.le_refl _)
  have hx := (hx.drew.below hb109 hx.drew.lt).below hb110 (hx.drew.below hb109 hx.drew.lt).lt
  have hoi1x := own_below (own_below (w := w108.drew) hoi1x hb109 (Nat.le_refl _)) hb110 (Nat.le_refl _)
  have hoi2x := own_below (own_below (w := w108.drew) hoi2x hb109 (Nat.le_refl _)) hb110 (Nat.le_refl _)
  clear hb109 hb110 hB109 hB108 hore
  go_wp2_with fail
  refine (unhide (HI1 _ hB110)).mono ?_
  rintro e w111 ⟨gi1e, rfl, hoi1e, hb111⟩
  have hB111 := hB110.trans (hb111.mono hB110.size)
  have hk := hk.below hb111 hk.lt
  have horx := own_below horx hb111 (Nat.le_refl _)
  have hx := hx.below hb111 hx.lt
  have hoi1x := own_below hoi1x hb111 (Nat.le_refl _)
  have hoi2x := own_below hoi2x hb111 (Nat.le_refl _)
  clear hb111 hB110
  go_wp2_with fail
  refine (eqIntS_same _ _ _ _ w111.heap.size w111.heap.size z1 w111 (Reads.of_own hoi1x) (Reads.of_own hoi1e) hn1).mono ?_
  rintro e w112 ⟨rfl, hb112⟩
  have hB112 := hB111.trans (hb112.mono hB111.size)
  have hk := hk.below hb112 hk.lt
  have horx := own_below horx hb112 (Nat.le_refl _)
  have hx := hx.below hb112 hx.lt
  have hoi1x := own_below hoi1x hb112 (Nat.le_refl _)
  have hoi2x := own_below hoi2x hb112 (Nat.le_refl _)
  have hoi1e := own_below hoi1e hb112 (Nat.le_refl _)
  clear hb112 hB111
  clear hoi1e
  go_wp2_with fail
  refine (unhide (HI2 _ hB112)).mono ?_
  rintro e w113 ⟨gi2e, rfl, hoi2e, hb113⟩
  have hB113 := hB112.trans (hb113.mono hB112.size)
  have hk := hk.below hb113 hk.lt
  have horx := own_below horx hb113 (Nat.le_refl _)
  have hx := hx.below hb113 hx.lt
  have hoi1x := own_below hoi1x hb113 (Nat.le_refl _)
  have hoi2x := own_below hoi2x hb113 (Nat.le_refl _)
  clear hb113 hB112
  go_wp2_with fail
  refine (eqIntS_same _ _ _ _ w113.heap.size w113.heap.size z2 w113 (Reads.of_own hoi2x) (Reads.of_own hoi2e) hn2).mono ?_
  rintro e w114 ⟨rfl, hb114⟩
  have hB114 := hB113.trans (hb114.mono hB113.size)
  have hk := hk.below hb114 hk.lt
  have horx := own_below horx hb114 (Nat.le_refl _)
  have hx := hx.below hb114 hx.lt
  have hoi1x := own_below hoi1x hb114 (Nat.le_refl _)
  have hoi2x := own_below hoi2x hb114 (Nat.le_refl _)
  have hoi2e := own_below hoi2e hb114 (Nat.le_refl _)
  clear hb114 hB113
  clear hoi2e
  go_wp2_with fail
  go_ret
  exact ⟨rfl, hB114⟩
end Go.Proofs.Ytldnccdlpagodaa
