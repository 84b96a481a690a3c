/-
  YthllacljhmiflaaFnExactPushesValidW: the walk of FnExactPushesValid.
-/
import Derived.Test.YthllacljhmiflaaPVI
namespace Go.Proofs.Ythllacljhmiflaa
open Go.RowKit

theorem FnExactPushesValid_walk (w : World) (W T : Int) (A : Option Addr) (n c : Nat) (bs : List Bool) (_wW : (Lit.int .i64 W).wf = true) (_wT : (Lit.int .i64 T).wf = true) (_hc : n ≤ c) (hm : n ≤ maxLen) (hl : bs.length = n) (hr : Reads w w.heap.size 1 A n (bs.map Value.bool))
    (P : Option Addr) (m d : Nat) (ps : List (Int × Bool)) (_hd : m ≤ d) (hmm : m ≤ maxLen) (hpl : ps.length = m) (hp : Reads w w.heap.size 2 P m (pc ps)) (_wz : ∀ z ∈ ps, (Lit.int .i64 z.1).wf = true) :
    Calls Try.prog 5 #[.agg #[.int .i64 W, .int .i64 T, .slice A n c], .slice P m d] w fun e w' => e = .returned (.bool true) ∧ Below w.heap.size w w' := by
  simp only [maxLen] at hm hmm
  subst hl hpl
  have HPv : Hid ((pushesB W T bs ps != pushesB W T bs ps) = false) := Lib.hid (by simp)
  have HZ := hide (szRegion_any W T A bs.length c 1048576 (w.alloc (.cells #[.int .i64 W, .int .i64 T, .slice A bs.length c] 30)) (by omega) (by omega))
  have hbx : Below w.heap.size w (w.alloc (.cells #[.int .i64 W, .int .i64 T, .slice A bs.length c] 30)) := (Below.refl _ _).alloc (Nat.le_refl _) _
  have hbk := Blk.new w 30 #[.int .i64 W, .int .i64 T, .slice A bs.length c]
  by_cases h1 : (1048576 : Int) - bs.length < 0
  · rw [if_pos h1] at HZ
    go_enter Try.func5, Try.ntmps5
    go_wp2_with (go_at_call 19; refine (unhide HZ).mono ?_; rintro e w1 ⟨rfl, hb1⟩)
    go_ret
    exact ⟨rfl, hbx.trans (hb1.mono (by simp))⟩
  · rw [if_neg h1] at HZ
    have hn : bs.length ≤ 1048576 := by omega
    have hl1 : (0 : Int) ≤ 1048576 - bs.length := by omega
    have hnl : decide ((1048576 : Int) - bs.length < 0) = false := decide_eq_false h1
    have HY := fun w' => hide (szPushS_any P ps.length d (1048576 - bs.length) w' (by omega) (by omega))
    by_cases h2 : (1048576 : Int) - bs.length - ps.length < 0
    · simp only [if_pos h2] at HY
      go_enter Try.func5, Try.ntmps5
      go_wp2_with first
        | (go_at_call 19; refine (unhide HZ).mono ?_; rintro e w1 ⟨rfl, hb1⟩)
        | (go_at_call 20; refine (unhide (HY _)).mono ?_; rintro e w2 ⟨rfl, rfl⟩)
      go_ret
      exact ⟨rfl, hbx.trans (hb1.mono (by simp))⟩
    · simp only [if_neg h2] at HY
      have hnm : ps.length ≤ 1048576 := by omega
      have hnl2 : decide ((1048576 : Int) - bs.length - ps.length < 0) = false := decide_eq_false h2
      go_enter Try.func5, Try.ntmps5
      go_upto_region 8 with first
        | (go_at_call 19; refine (unhide HZ).mono ?_; rintro e w1 ⟨rfl, hb1⟩)
        | (go_at_call 20; refine (unhide (HY _)).mono ?_; rintro e w2 ⟨rfl, rfl⟩)
      have hB1 : Below w.heap.size w w1 := hbx.trans (hb1.mono (by simp))
      have hk1 : Blk w1 w.heap.size 30 #[.int .i64 W, .int .i64 T, .slice A bs.length c] := hbk.below hb1 (by simp)
      have HR : ∀ w', Below w.heap.size w w' → Hid (Calls Try.prog 22 #[.agg #[.int .i64 W, .int .i64 T, .slice A bs.length c]] w' (RegionRet w' W T bs)) :=
        fun w' h => hide (toRegion_any W T A c w.heap.size bs w' (hr.below h) h.size hn)
      have HP : ∀ w', Below w.heap.size w w' → Hid (Calls Try.prog 23 #[.slice P ps.length d] w' (PushesRet w' ps)) :=
        fun w' h => hide (toPushS_any P d w.heap.size ps w' (hp.below h) h.size hnm)
      clear hbk hbx HZ HY hb1
      have c0 := hk1.cell 0
      have c1 := hk1.cell 1
      have c2 := hk1.cell 2
      simp at c0 c1 c2
      go_upto_region 9 with first
        | (go_at_call 22; refine (unhide (HR _ hB1)).mono ?_; rintro e w2 ⟨g2, rfl, ho2, hb2⟩)
        | (go_at_call 23; refine (unhide (HP _ (hB1.trans (hb2.mono hB1.size)))).mono ?_; rintro e w3 ⟨g3, rfl, ho3, hb3⟩)
        | (go_at_call 21; refine (PushesValidS_any W T _ _ _ _ bs _ _ _ _ ps w3 rfl ((Reads.of_own ho2).below hb3) hb3.size (by omega) rfl (Reads.of_own ho3) (Nat.le_refl _) (by omega)).mono ?_; rintro e w4 ⟨rfl, hb4⟩)
      have hB4 : Below w.heap.size w w4 := ((hB1.trans (hb2.mono hB1.size)).trans (hb3.mono (Nat.le_trans hB1.size hb2.size))).trans (hb4.mono (Nat.le_trans (Nat.le_trans hB1.size hb2.size) hb3.size))
      have hk4 : Blk w4 w.heap.size 30 #[.int .i64 W, .int .i64 T, .slice A bs.length c] := ((hk1.below hb2 hk1.lt).below hb3 (hk1.below hb2 hk1.lt).lt).below hb4 ((hk1.below hb2 hk1.lt).below hb3 (hk1.below hb2 hk1.lt).lt).lt
      clear c0 c1 c2 ho2 ho3 hb2 hb3 hb4 hB1 hk1
      have c0 := hk4.cell 0
      have c1 := hk4.cell 1
      have c2 := hk4.cell 2
      simp at c0 c1 c2
      go_upto_region 11 with first
        | (go_at_call 22; refine (unhide (HR _ hB4)).mono ?_; rintro e w5 ⟨g5, rfl, ho5, hb5⟩)
        | (go_at_call 23; refine (unhide (HP _ ((hB4.trans (hb5.mono hB4.size)).alloc (Nat.le_trans hB4.size hb5.size) _))).mono ?_; rintro e w6 ⟨g6, rfl, ho6, hb6⟩)
      have hs5 : w.heap.size ≤ w5.heap.size := Nat.le_trans hB4.size hb5.size
      have hz6 : w5.heap.size + 1 ≤ w6.heap.size := by have := hb6.size; simpa using this
      have hB6 : Below w.heap.size w w6 := ((hB4.trans (hb5.mono hB4.size)).alloc hs5 _).trans (hb6.mono (by simp; omega))
      have hr6 : Reads w6 w5.heap.size 1 (some ⟨g5, 0, none⟩) bs.length (bs.map Value.bool) := ((Reads.of_own ho5).alloc (Nat.le_refl _) _).below (hb6.mono (by simp))
      have hp6 : Reads w6 w6.heap.size 2 (some ⟨g6, 0, none⟩) ps.length (pc ps) := Reads.of_own ho6
      have hk6 : Blk w6 w.heap.size 30 #[.int .i64 W, .int .i64 T, .slice A bs.length c] := ((hk4.below hb5 hk4.lt).alloc _).below hb6 (by have := hk4.lt; simp; omega)
      have hx6 : Blk w6 w5.heap.size 35 #[.int .i64 W, .int .i64 T, .slice (some ⟨g5, 0, none⟩) bs.length bs.length] := (Blk.new w5 _ _).below hb6 (by simp)
      clear c0 c1 c2 ho5 ho6 hb5 hb6 hB4 hk4
      have x0 := hx6.cell 0
      have x1 := hx6.cell 1
      have x2 := hx6.cell 2
      simp at x0 x1 x2
      have HV := hide (PushesValidI_any W T _ _ bs.length _ bs _ _ ps.length _ ps w6 rfl hr6 (by omega) (by omega) rfl hp6 (Nat.le_refl _) (by omega))
      generalize pushesB W T bs ps = pv at *
      have hpv : (pv != pv) = false := HPv.out
      go_upto_region 14 with (go_at_call 24; refine (unhide HV).mono ?_; rintro e w7 ⟨rfl, hb7⟩)
      have hB7 : Below w.heap.size w w7 := hB6.trans (hb7.mono hB6.size)
      have hr7 := hr6.below (hb7.mono (show w5.heap.size ≤ w6.heap.size by omega))
      have hp7 := hp6.below hb7
      have hk7 := hk6.below hb7 hk6.lt
      have hx7 := hx6.below hb7 hx6.lt
      have hz7 := hb7.size
      clear x0 x1 x2 hr6 hp6 hk6 hx6 hb7 hB6 HV
      have x0 := hx7.cell 0
      have x1 := hx7.cell 1
      have x2 := hx7.cell 2
      have c0 := hk7.cell 0
      have c1 := hk7.cell 1
      have c2 := hk7.cell 2
      simp at x0 x1 x2 c0 c1 c2
      go_region_held3 (fun w' => w'.cell? ⟨w5.heap.size, 0, none⟩ = some (Value.int IntKind.i64 W) ∧ w'.cell? ⟨w5.heap.size, 1, none⟩ = some (.int .i64 T) ∧ w'.cell? ⟨w5.heap.size, 2, none⟩ = some (.slice (some ⟨g5, 0, none⟩) bs.length bs.length) ∧ w'.cell? ⟨w.heap.size, 0, none⟩ = some (.int .i64 W) ∧ w'.cell? ⟨w.heap.size, 1, none⟩ = some (.int .i64 T) ∧ w'.cell? ⟨w.heap.size, 2, none⟩ = some (.slice A bs.length c))
        (first
          | exact ⟨x0, x1, x2, c0, c1, c2⟩
          | exact ⟨cell_keep (w := w7.drew) x0 hb8, cell_keep (w := w7.drew) x1 hb8, cell_keep (w := w7.drew) x2 hb8, cell_keep (w := w7.drew) c0 hb8, cell_keep (w := w7.drew) c1 hb8, cell_keep (w := w7.drew) c2 hb8⟩
          | exact ⟨cell_keep (cell_keep (w := w7.drew) x0 hb8) hb9, cell_keep (cell_keep (w := w7.drew) x1 hb8) hb9, cell_keep (cell_keep (w := w7.drew) x2 hb8) hb9, cell_keep (cell_keep (w := w7.drew) c0 hb8) hb9, cell_keep (cell_keep (w := w7.drew) c1 hb8) hb9, cell_keep (cell_keep (w := w7.drew) c2 hb8) hb9⟩)
        (first
          | (go_at_call 22; refine (unhide (HR _ hB7.drew)).mono ?_; rintro e w8 ⟨g8, rfl, ho8, hb8⟩)
          | (go_at_call 25; refine (eqRegion_same W T _ _ _ _ w5.heap.size _ bs w8 (hr7.drew.below (hb8.mono (show w5.heap.size ≤ w7.drew.heap.size from Nat.le_trans (Nat.le_of_lt hz6) hz7))) (Reads.of_own ho8) (Nat.le_trans (Nat.le_trans (Nat.le_of_lt hz6) hz7) hb8.size) (Nat.le_refl _) hn).mono ?_; rintro e w9 ⟨rfl, hb9⟩))
      have hB9 : Below w.heap.size w w9 := (hB7.drew.trans (hb8.mono hB7.size)).trans (hb9.mono (Nat.le_trans hB7.size hb8.size))
      have hp9 := (hp7.drew.below (hb8.mono hz7)).below (hb9.mono (Nat.le_trans hz7 hb8.size))
      have hz9 : w6.heap.size ≤ w9.heap.size := Nat.le_trans (Nat.le_trans hz7 hb8.size) hb9.size
      go_wp2_with first
        | (go_at_call 23; refine (unhide (HP _ hB9)).mono ?_; rintro e w10 ⟨g10, rfl, ho10, hb10⟩)
        | (go_at_call 26; refine (eqPushS_same _ _ _ _ w6.heap.size _ ps w10 (hp9.below (hb10.mono hz9)) (Reads.of_own ho10) (Nat.le_trans hz9 hb10.size) (Nat.le_refl _) hnm).mono ?_; rintro e w11 ⟨rfl, hb11⟩)
      go_ret
      exact ⟨rfl, (hB9.trans (hb10.mono hB9.size)).trans (hb11.mono (Nat.le_trans hB9.size hb10.size))⟩
end Go.Proofs.Ythllacljhmiflaa
