/-
  YthepfpiphlfgnaaFnExactPushedManyW: the walk of FnExactPushedMany.
-/
import Derived.Test.YthepfpiphlfgnaaPy
import Derived.Test.YthepfpiphlfgnaaEx
import Derived.Test.YthepfpiphlfgnaaPv
namespace Go.Proofs.Ythepfpiphlfgnaa
open Go.RowKit

set_option maxHeartbeats 2000000 in
set_option maxRecDepth 100000 in
theorem FnExactPushedMany_walk (w : World) (W T : Int) (A : Option Addr) (n c : Nat) (bs : List Bool) (_wW : (Lit.int .i64 W).wf = true) (_wT : (Lit.int .i64 T).wf = true) (_hc : n ≤ c) (hm : n ≤ maxLen) (hl : bs.length = n) (hr : Reads w w.heap.size 1 A n (bs.map Value.bool)) (A1 : Option Addr) (n1 c1 : Nat) (z1 : List (Int × Bool)) (_hc1 : n1 ≤ c1) (hm1 : n1 ≤ maxLen) (hl1 : z1.length = n1) (hr1 : Reads w w.heap.size 2 A1 n1 (pc z1)) (_wz1 : ∀ z ∈ z1, (Lit.int .i64 z.1).wf = true) :
    Calls Try.prog 11 #[.agg #[.int .i64 W, .int .i64 T, .slice A n c], .slice A1 n1 c1] w fun e w' => e = .returned (.bool true) ∧ Below w.heap.size w w' := by
  simp only [maxLen] at hm hm1
  subst hl hl1
  have hbx : Below w.heap.size w (w.alloc (.cells #[.int .i64 W, .int .i64 T, .slice A bs.length c] 53)) := (Below.refl _ _).alloc (Nat.le_refl _) _
  have hbk := Blk.new w 53 #[.int .i64 W, .int .i64 T, .slice A bs.length c]
  have HZ := hide (szRegion_any W T A bs.length c 1048576 (w.alloc (.cells #[.int .i64 W, .int .i64 T, .slice A bs.length c] 53)) (by omega) (by omega))
  by_cases h1 : (1048576 : Int) - bs.length < 0
  · rw [if_pos h1] at HZ
    clear hbk
    go_enter Try.func11, Try.ntmps11
    go_wp2_with (go_at_call 53; refine (unhide HZ).mono ?_; rintro e w1 ⟨rfl, hb1⟩)
    go_ret
    exact ⟨rfl, hbx.trans (hb1.mono hbx.size)⟩
  rw [if_neg h1] at HZ
  have hn : bs.length ≤ 1048576 := by omega
  have hnl : decide ((1048576 : Int) - bs.length < 0) = false := decide_eq_false h1
  have hl1 : (0 : Int) ≤ 1048576 - bs.length := by omega
  have HY := fun w' => hide (szPushS_any A1 z1.length c1 (1048576 - bs.length) w' (by omega) (by omega))
  by_cases h2 : (1048576 : Int) - bs.length - z1.length < 0
  · simp only [if_pos h2] at HY
    clear hbk
    go_enter Try.func11, Try.ntmps11
    go_wp2_with first
      | (go_at_call 53; refine (unhide HZ).mono ?_; rintro e w1 ⟨rfl, hb1⟩)
      | (go_at_call 54; refine (unhide (HY _)).mono ?_; rintro e w2 ⟨rfl, rfl⟩)
    go_ret
    exact ⟨rfl, hbx.trans (hb1.mono hbx.size)⟩
  simp only [if_neg h2] at HY
  have hn1 : z1.length ≤ 1048576 := by omega
  have hnl2 : decide ((1048576 : Int) - bs.length - z1.length < 0) = false := decide_eq_false h2
  have HR : ∀ w', Below w.heap.size w w' → Hid (Calls Try.prog 56 #[.agg #[.int .i64 W, .int .i64 T, .slice A bs.length c]] w' (RegionRet w' W T bs)) :=
    fun w' h => hide (toRegion_any W T A c w.heap.size bs w' (hr.below h) h.size hn)
  have HI1 : ∀ w', Below w.heap.size w w' → Hid (Calls Try.prog 57 #[.slice A1 z1.length c1] w' (PushesRet w' z1)) :=
    fun w' h => hide (toPushS_any A1 c1 w.heap.size z1 w' (hr1.below h) h.size hn1)
  obtain ⟨G, hG⟩ : ∃ G, G = pmV W T bs z1 := ⟨_, rfl⟩
  have HGG := Lib.hid hG
  clear hG
  have hgg : (G != G) = false := by simp
  go_enter Try.func11, Try.ntmps11
  go_wp2_with fail
  refine (unhide HZ).mono ?_
  rintro e w100 ⟨rfl, hb100⟩
  have hB100 : Below w.heap.size w w100 := hbx.trans (hb100.mono hbx.size)
  have hk : Blk w100 w.heap.size 53 #[.int .i64 W, .int .i64 T, .slice A bs.length c] := hbk.below hb100 hbk.lt
  clear hbk hbx HZ hb100
  go_wp2_with fail
  refine (unhide (HY _)).mono ?_
  rintro e w' ⟨rfl, rfl⟩
  clear HY
  have c0 := hk.cell 0
  have c1 := hk.cell 1
  have c2 := hk.cell 2
  simp at c0 c1 c2
  go_wp2_with fail
  clear c0 c1 c2
  refine (unhide (HR _ hB100)).mono ?_
  rintro e w101 ⟨grs, rfl, hors, hb101⟩
  have hB101 := hB100.trans (hb101.mono hB100.size)
  have hk := hk.below hb101 hk.lt
  clear hb101 hB100
  go_wp2_with fail
  refine (unhide (HI1 _ hB101)).mono ?_
  rintro e w102 ⟨gi1s, rfl, hoi1s, hb102⟩
  have hB102 := hB101.trans (hb102.mono hB101.size)
  have hk := hk.below hb102 hk.lt
  have hors := own_below hors hb102 (Nat.le_refl _)
  clear hb102 hB101
  go_wp2_with fail
  have hcall := (pushedManyS_any W T _ bs.length bs.length w102.heap.size bs _ z1.length z1.length w102.heap.size z1 w102 rfl (Reads.of_own hors) (Nat.le_refl _) (by omega) rfl (Reads.of_own hoi1s) (Nat.le_refl _) (by omega))
  rw [← HGG.out] at hcall
  refine hcall.mono ?_
  clear hcall
  rintro e w103 ⟨rfl, hb103⟩
  have hB103 := hB102.trans (hb103.mono hB102.size)
  have hk := hk.below hb103 hk.lt
  have hors := own_below hors hb103 (Nat.le_refl _)
  have hoi1s := own_below hoi1s hb103 (Nat.le_refl _)
  clear hb103 hB102
  clear hors hoi1s
  have c0 := hk.cell 0
  have c1 := hk.cell 1
  have c2 := hk.cell 2
  simp at c0 c1 c2
  go_wp2_with fail
  clear c0 c1 c2
  have pre_hk := hk
  have preB := hB103.size
  refine (unhide (HR _ hB103)).mono ?_
  rintro e w104 ⟨grx, rfl, horx, hb104⟩
  have hB104 := hB103.trans (hb104.mono hB103.size)
  have hk := hk.below hb104 hk.lt
  clear hb104 hB103
  have sep_hk_horx := blk_sep pre_hk horx (Nat.le_refl _)
  have low_horx := size_sep horx preB
  clear preB pre_hk
  obtain ⟨X, hX⟩ : ∃ X, X = w104.heap.size := ⟨_, rfl⟩
  have hx : Blk (w104.alloc (.cells #[.int .i64 W, .int .i64 T, .slice (some ⟨grx, 0, none⟩) bs.length bs.length] 25)) X 25 #[.int .i64 W, .int .i64 T, .slice (some ⟨grx, 0, none⟩) bs.length bs.length] := Blk.new' hX
  have sep_hx_horx := sep_new horx hX
  have hBx : Below w.heap.size w (w104.alloc (.cells #[.int .i64 W, .int .i64 T, .slice (some ⟨grx, 0, none⟩) bs.length bs.length] 25)) := hB104.alloc hB104.size _
  have hk := hk.alloc (.cells #[.int .i64 W, .int .i64 T, .slice (some ⟨grx, 0, none⟩) bs.length bs.length] 25)
  have horx := horx.alloc (.cells #[.int .i64 W, .int .i64 T, .slice (some ⟨grx, 0, none⟩) bs.length bs.length] 25)
  have HX := Lib.hid hX
  clear hX hB104
  go_wp2_with fail
  have pre_hk := hk
  have pre_horx := horx
  have pre_hx := hx
  have preB := hBx.size
  refine (unhide (HI1 _ hBx)).mono ?_
  rintro e w105 ⟨gi1x, rfl, hoi1x, hb105⟩
  have hB105 := hBx.trans (hb105.mono hBx.size)
  have hk := hk.below hb105 hk.lt
  have horx := own_below horx hb105 (Nat.le_refl _)
  have hx := hx.below hb105 hx.lt
  clear hb105 hBx
  have sep_hk_hoi1x := blk_sep pre_hk hoi1x (Nat.le_refl _)
  have sep_horx_hoi1x := own_sep pre_horx hoi1x (Nat.le_refl _)
  have sep_hx_hoi1x := blk_sep pre_hx hoi1x (Nat.le_refl _)
  have low_hoi1x := size_sep hoi1x preB
  clear preB pre_hk pre_horx pre_hx
  have x0 := hx.cell 0
  have x1 := hx.cell 1
  have x2 := hx.cell 2
  simp at x0 x1 x2
  try rw [← HX.out]
  go_wp2_with fail
  clear x0 x1 x2
  have hcall := (pushedManyI_any W T _ bs.length bs.length w105.heap.size bs _ z1.length z1.length w105.heap.size z1 w105 rfl (Reads.of_own horx) (Nat.le_refl _) (by omega) rfl (Reads.of_own hoi1x) (Nat.le_refl _) (by omega))
  rw [← HGG.out] at hcall
  refine hcall.mono ?_
  clear hcall
  rintro e w106 ⟨rfl, hb106⟩
  have hB106 := hB105.trans (hb106.mono hB105.size)
  have hk := hk.below hb106 hk.lt
  have horx := own_below horx hb106 (Nat.le_refl _)
  have hx := hx.below hb106 hx.lt
  have hoi1x := own_below hoi1x hb106 (Nat.le_refl _)
  clear hb106 hB105
  have x0 := hx.cell 0
  have x1 := hx.cell 1
  have x2 := hx.cell 2
  simp at x0 x1 x2
  have c0 := hk.cell 0
  have c1 := hk.cell 1
  have c2 := hk.cell 2
  simp at c0 c1 c2
  go_wp2_with fail
  go_region_held3 (fun w' => w'.cell? ⟨X, 0, none⟩ = some (Value.int IntKind.i64 W) ∧ w'.cell? ⟨X, 1, none⟩ = some (.int .i64 T) ∧ w'.cell? ⟨X, 2, none⟩ = some (.slice (some ⟨grx, 0, none⟩) bs.length bs.length) ∧ w'.cell? ⟨w.heap.size, 0, none⟩ = some (.int .i64 W) ∧ w'.cell? ⟨w.heap.size, 1, none⟩ = some (.int .i64 T) ∧ w'.cell? ⟨w.heap.size, 2, none⟩ = some (.slice A bs.length c))
    (first | exact ⟨x0, x1, x2, c0, c1, c2⟩ | exact ⟨cell_kept (w := w106.drew) x0 hb107, cell_kept (w := w106.drew) x1 hb107, cell_kept (w := w106.drew) x2 hb107, cell_kept (w := w106.drew) c0 hb107, cell_kept (w := w106.drew) c1 hb107, cell_kept (w := w106.drew) c2 hb107⟩ | exact ⟨cell_kept (cell_kept (w := w106.drew) x0 hb107) hb108, cell_kept (cell_kept (w := w106.drew) x1 hb107) hb108, cell_kept (cell_kept (w := w106.drew) x2 hb107) hb108, cell_kept (cell_kept (w := w106.drew) c0 hb107) hb108, cell_kept (cell_kept (w := w106.drew) c1 hb107) hb108, cell_kept (cell_kept (w := w106.drew) c2 hb107) hb108⟩)
    (first
      | (go_at_call 56; refine (unhide (HR _ hB106.drew)).mono ?_; rintro e w107 ⟨gre, rfl, hore, hb107⟩)
      | (go_at_call 59; refine (eqRegion_same W T _ _ _ _ w107.heap.size w107.heap.size bs w107 (Reads.of_own (own_below (w := w106.drew) horx hb107 (Nat.le_refl _))) (Reads.of_own hore) (Nat.le_refl _) (Nat.le_refl _) hn).mono ?_; rintro e w108 ⟨rfl, hb108⟩))
  clear x0 x1 x2 c0 c1 c2
  have hB107 := hB106.drew.trans (hb107.mono hB106.size)
  have hB108 := hB107.trans (hb108.mono hB107.size)
  have hk := (hk.drew.below hb107 hk.drew.lt).below hb108 (hk.drew.below hb107 hk.drew.lt).lt
  have horx := own_below (own_below (w := w106.drew) horx hb107 (Nat.le_refl _)) hb108 (Nat.le_refl _)
  have hx := (hx.drew.below hb107 hx.drew.lt).below hb108 (hx.drew.below hb107 hx.drew.lt).lt
  have hoi1x := own_below (own_below (w := w106.drew) hoi1x hb107 (Nat.le_refl _)) hb108 (Nat.le_refl _)
  clear hb107 hb108 hB107 hB106 hore
  go_wp2_with fail
  refine (unhide (HI1 _ hB108)).mono ?_
  rintro e w109 ⟨gi1e, rfl, hoi1e, hb109⟩
  have hB109 := hB108.trans (hb109.mono hB108.size)
  have hk := hk.below hb109 hk.lt
  have horx := own_below horx hb109 (Nat.le_refl _)
  have hx := hx.below hb109 hx.lt
  have hoi1x := own_below hoi1x hb109 (Nat.le_refl _)
  clear hb109 hB108
  go_wp2_with fail
  refine (eqPushS_same _ _ _ _ w109.heap.size w109.heap.size z1 w109 (Reads.of_own hoi1x) (Reads.of_own hoi1e) (Nat.le_refl _) (Nat.le_refl _) hn1).mono ?_
  rintro e w110 ⟨rfl, hb110⟩
  have hB110 := hB109.trans (hb110.mono hB109.size)
  have hk := hk.below hb110 hk.lt
  have horx := own_below horx hb110 (Nat.le_refl _)
  have hx := hx.below hb110 hx.lt
  have hoi1x := own_below hoi1x hb110 (Nat.le_refl _)
  have hoi1e := own_below hoi1e hb110 (Nat.le_refl _)
  clear hb110 hB109
  clear hoi1e
  go_wp2_with fail
  go_ret
  exact ⟨rfl, hB110⟩
end Go.Proofs.Ythepfpiphlfgnaa
