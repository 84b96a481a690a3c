/-
  YtldnccdlpagodaaFnExactPushOneW: the walk of FnExactPushOne.
-/
import Derived.Test.YtldnccdlpagodaaPs
import Derived.Test.YtldnccdlpagodaaEx
import Derived.Test.YtldnccdlpagodaaPV
namespace Go.Proofs.Ytldnccdlpagodaa
open Go.RowKit

set_option maxHeartbeats 2000000 in
set_option maxRecDepth 100000 in
theorem FnExactPushOne_walk (w : World) (W T : Int) (A : Option Addr) (n c : Nat) (bs : List Bool) (_wW : (Lit.int .i64 W).wf = true) (_wT : (Lit.int .i64 T).wf = true) (_hc : n ≤ c) (hm : n ≤ maxLen) (hl : bs.length = n) (hr : Reads w w.heap.size 1 A n (bs.map Value.bool)) (A1 : Option Addr) (n1 c1 : Nat) (z1 : List Int) (_hc1 : n1 ≤ c1) (hm1 : n1 ≤ maxLen) (hl1 : z1.length = n1) (hr1 : Reads w w.heap.size 1 A1 n1 (z1.map (Value.int .i64))) (_wz1 : ∀ z ∈ z1, (Lit.int .i64 z).wf = true) (a2 : Int) (u2 : Bool) (_w2 : (Lit.int .i64 a2).wf = true) :
    Calls Try.prog 8 #[.agg #[.int .i64 W, .int .i64 T, .slice A n c], .slice A1 n1 c1, .agg #[.int .i64 a2, .bool u2]] w fun e w' => e = .returned (.bool true) ∧ Below w.heap.size w w' := by
  simp only [maxLen] at hm hm1
  subst hl hl1
  have hbx : Below w.heap.size w ((w.alloc (.cells #[.int .i64 W, .int .i64 T, .slice A bs.length c] 24)).alloc (.cells #[.int .i64 a2, .bool u2] 43)) := ((Below.refl _ _).alloc (Nat.le_refl _) _).alloc (by simp) _
  have hbk := (Blk.new w 24 #[.int .i64 W, .int .i64 T, .slice A bs.length c]).alloc (.cells #[.int .i64 a2, .bool u2] 43)
  have hbp : Blk ((w.alloc (.cells #[.int .i64 W, .int .i64 T, .slice A bs.length c] 24)).alloc (.cells #[.int .i64 a2, .bool u2] 43)) (w.heap.size + 1) 43 #[.int .i64 a2, .bool u2] := by
    have := Blk.new (w.alloc (.cells #[.int .i64 W, .int .i64 T, .slice A bs.length c] 24)) 43 #[.int .i64 a2, .bool u2]
    simpa using this
  by_cases hb1 : 1048576 < z1.length
  · have d1 : decide ((1048576 : Int) < (z1.length : Int)) = true := decide_eq_true (by omega)
    clear hbk
    go_enter Try.func8, Try.ntmps8
    go_wp2_with fail
    go_ret
    exact ⟨rfl, hbx⟩
  have hn1 : z1.length ≤ 1048576 := by omega
  have d1 : decide ((1048576 : Int) < (z1.length : Int)) = false := decide_eq_false (by omega)
  have HZ := hide (szRegion_any W T A bs.length c 1048576 ((w.alloc (.cells #[.int .i64 W, .int .i64 T, .slice A bs.length c] 24)).alloc (.cells #[.int .i64 a2, .bool u2] 43)) (by omega) (by omega))
  by_cases h1 : (1048576 : Int) - bs.length < 0
  · rw [if_pos h1] at HZ
    clear hbk
    go_enter Try.func8, Try.ntmps8
    go_wp2_with (go_at_call 13; refine (unhide HZ).mono ?_; rintro e w1 ⟨rfl, hb1⟩)
    go_ret
    exact ⟨rfl, hbx.trans (hb1.mono hbx.size)⟩
  rw [if_neg h1] at HZ
  have hn : bs.length ≤ 1048576 := by omega
  have hnl : decide ((1048576 : Int) - bs.length < 0) = false := decide_eq_false h1
  have hl1 : (0 : Int) ≤ 1048576 - bs.length := by omega
  have HR : ∀ w', Below w.heap.size w w' → Hid (Calls Try.prog 15 #[.agg #[.int .i64 W, .int .i64 T, .slice A bs.length c]] w' (RegionRet w' W T bs)) :=
    fun w' h => hide (toRegion_any W T A c w.heap.size bs w' (hr.below h) h.size hn)
  have HI1 : ∀ w', Below w.heap.size w w' → Hid (Calls Try.prog 16 #[.slice A1 z1.length c1] w' (IntsRet w' z1)) :=
    fun w' h => hide (toIntS_any A1 c1 w.heap.size z1 w' (hr1.below h) h.size hn1)
  obtain ⟨G, hG⟩ : ∃ G, G = prV W T bs z1 [(a2, u2)] := ⟨_, rfl⟩
  have HGG := Lib.hid hG
  clear hG
  have hGl : G.length ≤ 1048576 := by rw [HGG.out]; exact Nat.le_trans prV_len (by omega)
  go_enter Try.func8, Try.ntmps8
  go_wp2_with fail
  refine (unhide HZ).mono ?_
  rintro e w100 ⟨rfl, hb100⟩
  have hB100 : Below w.heap.size w w100 := hbx.trans (hb100.mono hbx.size)
  have hk : Blk w100 w.heap.size 24 #[.int .i64 W, .int .i64 T, .slice A bs.length c] := hbk.below hb100 hbk.lt
  have hp : Blk w100 (w.heap.size + 1) 43 #[.int .i64 a2, .bool u2] := hbp.below hb100 hbp.lt
  clear hbp
  clear hbk hbx HZ hb100
  have p0 := hp.cell 0
  have p1 := hp.cell 1
  simp at p0 p1
  have c0 := hk.cell 0
  have c1 := hk.cell 1
  have c2 := hk.cell 2
  simp at c0 c1 c2
  go_wp2_with fail
  go_region_held3 (fun w' => w'.cell? ⟨w.heap.size + 1, 0, none⟩ = some (.int .i64 a2) ∧ w'.cell? ⟨w.heap.size + 1, 1, none⟩ = some (.bool u2) ∧ w'.cell? ⟨w.heap.size, 0, none⟩ = some (.int .i64 W) ∧ w'.cell? ⟨w.heap.size, 1, none⟩ = some (.int .i64 T) ∧ w'.cell? ⟨w.heap.size, 2, none⟩ = some (.slice A bs.length c))
    (first | exact ⟨p0, p1, c0, c1, c2⟩ | exact ⟨cell_kept (w := w100.drew) (p0) hb101, cell_kept (w := w100.drew) (p1) hb101, cell_kept (w := w100.drew) (c0) hb101, cell_kept (w := w100.drew) (c1) hb101, cell_kept (w := w100.drew) (c2) hb101⟩ | exact ⟨cell_kept (w := w101) (cell_kept (w := w100.drew) (p0) hb101) hb102, cell_kept (w := w101) (cell_kept (w := w100.drew) (p1) hb101) hb102, cell_kept (w := w101) (cell_kept (w := w100.drew) (c0) hb101) hb102, cell_kept (w := w101) (cell_kept (w := w100.drew) (c1) hb101) hb102, cell_kept (w := w101) (cell_kept (w := w100.drew) (c2) hb101) hb102⟩ | exact ⟨cell_kept (w := w102) (cell_kept (w := w101) (cell_kept (w := w100.drew) (p0) hb101) hb102) hb103, cell_kept (w := w102) (cell_kept (w := w101) (cell_kept (w := w100.drew) (p1) hb101) hb102) hb103, cell_kept (w := w102) (cell_kept (w := w101) (cell_kept (w := w100.drew) (c0) hb101) hb102) hb103, cell_kept (w := w102) (cell_kept (w := w101) (cell_kept (w := w100.drew) (c1) hb101) hb102) hb103, cell_kept (w := w102) (cell_kept (w := w101) (cell_kept (w := w100.drew) (c2) hb101) hb102) hb103⟩ | exact ⟨cell_kept (w := w103) (cell_kept (w := w102) (cell_kept (w := w101) (cell_kept (w := w100.drew) (p0) hb101) hb102) hb103) hb104, cell_kept (w := w103) (cell_kept (w := w102) (cell_kept (w := w101) (cell_kept (w := w100.drew) (p1) hb101) hb102) hb103) hb104, cell_kept (w := w103) (cell_kept (w := w102) (cell_kept (w := w101) (cell_kept (w := w100.drew) (c0) hb101) hb102) hb103) hb104, cell_kept (w := w103) (cell_kept (w := w102) (cell_kept (w := w101) (cell_kept (w := w100.drew) (c1) hb101) hb102) hb103) hb104, cell_kept (w := w103) (cell_kept (w := w102) (cell_kept (w := w101) (cell_kept (w := w100.drew) (c2) hb101) hb102) hb103) hb104⟩)
    (first
      | (go_at_call 15; refine (unhide (HR _ (hB100.drew))).mono ?_; rintro e w101 ⟨grs, rfl, hors, hb101⟩)
      | (go_at_call 16; refine (unhide (HI1 _ ((hB100.drew).trans (hb101.mono (hB100.drew).size)))).mono ?_; rintro e w102 ⟨gi1s, rfl, hoi1s, hb102⟩)
      | (go_at_call 32; refine (toPush_any a2 u2 _).mono ?_; rintro e w103 ⟨rfl, hb103⟩)
      | (go_at_call 31; have hcall := (pushOneS_any W T _ bs.length bs.length w103.heap.size bs z1 _ z1.length z1.length a2 u2 w103 rfl rfl (Reads.of_own (own_below (own_below hors hb102 (Nat.le_refl _)) hb103 (Nat.le_refl _))) (Reads.of_own (own_below hoi1s hb103 (Nat.le_refl _))) (Nat.le_refl _) (by omega) (by omega)); rw [← HGG.out] at hcall; refine hcall.mono ?_; clear hcall; rintro e w104 ⟨Aw, capw, cvw, rfl, how, hb104⟩))
  clear p0 p1 c0 c1 c2
  have hB104 := (((((hB100.drew).trans (hb101.mono (hB100.drew).size)).trans (hb102.mono ((hB100.drew).trans (hb101.mono (hB100.drew).size)).size)).trans (hb103.mono (((hB100.drew).trans (hb101.mono (hB100.drew).size)).trans (hb102.mono ((hB100.drew).trans (hb101.mono (hB100.drew).size)).size)).size)).trans (hb104.mono ((((hB100.drew).trans (hb101.mono (hB100.drew).size)).trans (hb102.mono ((hB100.drew).trans (hb101.mono (hB100.drew).size)).size)).trans (hb103.mono (((hB100.drew).trans (hb101.mono (hB100.drew).size)).trans (hb102.mono ((hB100.drew).trans (hb101.mono (hB100.drew).size)).size)).size)).size))
  have hk := ((((hk.drew).below hb101 (hk.drew).lt).below hb102 ((hk.drew).below hb101 (hk.drew).lt).lt).below hb103 (((hk.drew).below hb101 (hk.drew).lt).below hb102 ((hk.drew).below hb101 (hk.drew).lt).lt).lt).below hb104 ((((hk.drew).below hb101 (hk.drew).lt).below hb102 ((hk.drew).below hb101 (hk.drew).lt).lt).below hb103 (((hk.drew).below hb101 (hk.drew).lt).below hb102 ((hk.drew).below hb101 (hk.drew).lt).lt).lt).lt
  have hp := ((((hp.drew).below hb101 (hp.drew).lt).below hb102 ((hp.drew).below hb101 (hp.drew).lt).lt).below hb103 (((hp.drew).below hb101 (hp.drew).lt).below hb102 ((hp.drew).below hb101 (hp.drew).lt).lt).lt).below hb104 ((((hp.drew).below hb101 (hp.drew).lt).below hb102 ((hp.drew).below hb101 (hp.drew).lt).lt).below hb103 (((hp.drew).below hb101 (hp.drew).lt).below hb102 ((hp.drew).below hb101 (hp.drew).lt).lt).lt).lt
  have how := own_mono (base' := w100.heap.size) how (Nat.le_trans (Nat.le_trans hb101.size hb102.size) hb103.size)
  clear hb101 hb102 hb103 hb104 hB100 hors hoi1s
  have c0 := hk.cell 0
  have c1 := hk.cell 1
  have c2 := hk.cell 2
  simp at c0 c1 c2
  go_wp2_with fail
  clear c0 c1 c2
  have pre_hk := hk
  have pre_hp := hp
  have pre_how := how
  have preB := hB104.size
  refine (unhide (HR _ hB104)).mono ?_
  rintro e w105 ⟨grx, rfl, horx, hb105⟩
  have hB105 := hB104.trans (hb105.mono hB104.size)
  have hk := hk.below hb105 hk.lt
  have hp := hp.below hb105 hp.lt
  have how := own_below how hb105 (Nat.le_refl _)
  clear hb105 hB104
  have sep_hk_horx := blk_sep pre_hk horx (Nat.le_refl _)
  have sep_hp_horx := blk_sep pre_hp horx (Nat.le_refl _)
  have sep_how_horx := own_sep pre_how horx (Nat.le_refl _)
  have low_horx := size_sep horx preB
  clear preB pre_hk pre_hp pre_how
  obtain ⟨X, hX⟩ : ∃ X, X = w105.heap.size := ⟨_, rfl⟩
  have hx : Blk (w105.alloc (.cells #[.int .i64 W, .int .i64 T, .slice (some ⟨grx, 0, none⟩) bs.length bs.length] 29)) X 29 #[.int .i64 W, .int .i64 T, .slice (some ⟨grx, 0, none⟩) bs.length bs.length] := Blk.new' hX
  have sep_hx_horx := sep_new horx hX
  have hBx : Below w.heap.size w (w105.alloc (.cells #[.int .i64 W, .int .i64 T, .slice (some ⟨grx, 0, none⟩) bs.length bs.length] 29)) := hB105.alloc hB105.size _
  have hk := hk.alloc (.cells #[.int .i64 W, .int .i64 T, .slice (some ⟨grx, 0, none⟩) bs.length bs.length] 29)
  have hp := hp.alloc (.cells #[.int .i64 W, .int .i64 T, .slice (some ⟨grx, 0, none⟩) bs.length bs.length] 29)
  have how := how.alloc (.cells #[.int .i64 W, .int .i64 T, .slice (some ⟨grx, 0, none⟩) bs.length bs.length] 29)
  have horx := horx.alloc (.cells #[.int .i64 W, .int .i64 T, .slice (some ⟨grx, 0, none⟩) bs.length bs.length] 29)
  have HX := Lib.hid hX
  clear hX hB105
  go_wp2_with fail
  have pre_hk := hk
  have pre_hp := hp
  have pre_how := how
  have pre_horx := horx
  have pre_hx := hx
  have preB := hBx.size
  refine (unhide (HI1 _ hBx)).mono ?_
  rintro e w106 ⟨gi1x, rfl, hoi1x, hb106⟩
  have hB106 := hBx.trans (hb106.mono hBx.size)
  have hk := hk.below hb106 hk.lt
  have hp := hp.below hb106 hp.lt
  have how := own_below how hb106 (Nat.le_refl _)
  have horx := own_below horx hb106 (Nat.le_refl _)
  have hx := hx.below hb106 hx.lt
  clear hb106 hBx
  have sep_hk_hoi1x := blk_sep pre_hk hoi1x (Nat.le_refl _)
  have sep_hp_hoi1x := blk_sep pre_hp hoi1x (Nat.le_refl _)
  have sep_how_hoi1x := own_sep pre_how hoi1x (Nat.le_refl _)
  have sep_horx_hoi1x := own_sep pre_horx hoi1x (Nat.le_refl _)
  have sep_hx_hoi1x := blk_sep pre_hx hoi1x (Nat.le_refl _)
  have low_hoi1x := size_sep hoi1x preB
  clear preB pre_hk pre_hp pre_how pre_horx pre_hx
  have p0 := hp.cell 0
  have p1 := hp.cell 1
  simp at p0 p1
  have x0 := hx.cell 0
  have x1 := hx.cell 1
  have x2 := hx.cell 2
  simp at x0 x1 x2
  try rw [← HX.out]
  go_wp2_with fail
  have pre_hk := hk
  have pre_hp := hp
  have pre_how := how
  have pre_horx := horx
  have pre_hx := hx
  have pre_hoi1x := hoi1x
  have preB := hB106.size
  go_region_held3 (fun w' => w'.cell? ⟨w.heap.size + 1, 0, none⟩ = some (.int .i64 a2) ∧ w'.cell? ⟨w.heap.size + 1, 1, none⟩ = some (.bool u2) ∧ w'.cell? ⟨X, 0, none⟩ = some (.int .i64 W) ∧ w'.cell? ⟨X, 1, none⟩ = some (.int .i64 T) ∧ w'.cell? ⟨X, 2, none⟩ = some (.slice (some ⟨grx, 0, none⟩) bs.length bs.length))
    (first | exact ⟨p0, p1, x0, x1, x2⟩ | exact ⟨cell_kept (w := w106.drew) (p0) hb107, cell_kept (w := w106.drew) (p1) hb107, cell_kept (w := w106.drew) (x0) hb107, cell_kept (w := w106.drew) (x1) hb107, cell_kept (w := w106.drew) (x2) hb107⟩ | exact ⟨cell_kept (w := w107) (cell_kept (w := w106.drew) (p0) hb107) hb108, cell_kept (w := w107) (cell_kept (w := w106.drew) (p1) hb107) hb108, cell_kept (w := w107) (cell_kept (w := w106.drew) (x0) hb107) hb108, cell_kept (w := w107) (cell_kept (w := w106.drew) (x1) hb107) hb108, cell_kept (w := w107) (cell_kept (w := w106.drew) (x2) hb107) hb108⟩)
    (first
      | (go_at_call 32; refine (toPush_any a2 u2 _).mono ?_; rintro e w107 ⟨rfl, hb107⟩)
      | (go_at_call 33; have hcall := (pushOneI_any W T _ bs.length bs.length w107.heap.size bs z1 _ z1.length z1.length a2 u2 w107 rfl rfl (.inr ⟨_, _, rfl⟩) (Reads.of_own (own_below (own_below (w := w106) horx (Below.refl _ _).drew (Nat.le_refl _)) hb107 (Nat.le_refl _))) (Reads.of_own (own_below (own_below (w := w106) hoi1x (Below.refl _ _).drew (Nat.le_refl _)) hb107 (Nat.le_refl _))) (Nat.le_refl _) (by omega) (by omega)); rw [← HGG.out] at hcall; refine hcall.mono ?_; clear hcall; rintro e w108 ⟨Ag, capg, cvg, rfl, hog, hb108⟩))
  clear p0 p1 x0 x1 x2
  have hB108 := (((hB106.drew).trans (hb107.mono (hB106.drew).size)).trans (hb108.mono ((hB106.drew).trans (hb107.mono (hB106.drew).size)).size))
  have hk := ((hk.drew).below hb107 (hk.drew).lt).below hb108 ((hk.drew).below hb107 (hk.drew).lt).lt
  have hp := ((hp.drew).below hb107 (hp.drew).lt).below hb108 ((hp.drew).below hb107 (hp.drew).lt).lt
  have how := (own_below (own_below (own_below (w := w106) how (Below.refl _ _).drew (Nat.le_refl _)) hb107 (Nat.le_refl _)) hb108 (Nat.le_refl _))
  have horx := (own_below (own_below (own_below (w := w106) horx (Below.refl _ _).drew (Nat.le_refl _)) hb107 (Nat.le_refl _)) hb108 (Nat.le_refl _))
  have hx := ((hx.drew).below hb107 (hx.drew).lt).below hb108 ((hx.drew).below hb107 (hx.drew).lt).lt
  have hoi1x := (own_below (own_below (own_below (w := w106) hoi1x (Below.refl _ _).drew (Nat.le_refl _)) hb107 (Nat.le_refl _)) hb108 (Nat.le_refl _))
  have hog := own_mono (base' := w106.heap.size) hog hb107.size
  clear hb107 hb108 hB106
  have sep_hk_hog := blk_sep pre_hk hog (Nat.le_refl _)
  have sep_hp_hog := blk_sep pre_hp hog (Nat.le_refl _)
  have sep_how_hog := own_sep pre_how hog (Nat.le_refl _)
  have sep_horx_hog := own_sep pre_horx hog (Nat.le_refl _)
  have sep_hx_hog := blk_sep pre_hx hog (Nat.le_refl _)
  have sep_hoi1x_hog := own_sep pre_hoi1x hog (Nat.le_refl _)
  have low_hog := size_sep hog preB
  clear preB pre_hk pre_hp pre_how pre_horx pre_hx pre_hoi1x
  go_wp2_with fail
  refine (eqIntS_same _ _ _ _ w108.heap.size w108.heap.size G w108 (Reads.of_own hog) (Reads.of_own how) hGl).mono ?_
  rintro e w109 ⟨rfl, hb109⟩
  have hB109 := hB108.trans (hb109.mono hB108.size)
  have hk := hk.below hb109 hk.lt
  have hp := hp.below hb109 hp.lt
  have how := own_below how hb109 (Nat.le_refl _)
  have horx := own_below horx hb109 (Nat.le_refl _)
  have hx := hx.below hb109 hx.lt
  have hoi1x := own_below hoi1x hb109 (Nat.le_refl _)
  have hog := own_below hog hb109 (Nat.le_refl _)
  clear hb109 hB108
  have x0 := hx.cell 0
  have x1 := hx.cell 1
  have x2 := hx.cell 2
  simp at x0 x1 x2
  have c0 := hk.cell 0
  have c1 := hk.cell 1
  have c2 := hk.cell 2
  simp at c0 c1 c2
  go_wp2_with fail
  go_region_held3 (fun w' => w'.cell? ⟨X, 0, none⟩ = some (Value.int IntKind.i64 W) ∧ w'.cell? ⟨X, 1, none⟩ = some (.int .i64 T) ∧ w'.cell? ⟨X, 2, none⟩ = some (.slice (some ⟨grx, 0, none⟩) bs.length bs.length) ∧ w'.cell? ⟨w.heap.size, 0, none⟩ = some (.int .i64 W) ∧ w'.cell? ⟨w.heap.size, 1, none⟩ = some (.int .i64 T) ∧ w'.cell? ⟨w.heap.size, 2, none⟩ = some (.slice A bs.length c))
    (first | exact ⟨x0, x1, x2, c0, c1, c2⟩ | exact ⟨cell_kept (w := w109.drew) x0 hb110, cell_kept (w := w109.drew) x1 hb110, cell_kept (w := w109.drew) x2 hb110, cell_kept (w := w109.drew) c0 hb110, cell_kept (w := w109.drew) c1 hb110, cell_kept (w := w109.drew) c2 hb110⟩ | exact ⟨cell_kept (cell_kept (w := w109.drew) x0 hb110) hb111, cell_kept (cell_kept (w := w109.drew) x1 hb110) hb111, cell_kept (cell_kept (w := w109.drew) x2 hb110) hb111, cell_kept (cell_kept (w := w109.drew) c0 hb110) hb111, cell_kept (cell_kept (w := w109.drew) c1 hb110) hb111, cell_kept (cell_kept (w := w109.drew) c2 hb110) hb111⟩)
    (first
      | (go_at_call 15; refine (unhide (HR _ hB109.drew)).mono ?_; rintro e w110 ⟨gre, rfl, hore, hb110⟩)
      | (go_at_call 19; refine (eqRegion_same W T _ _ _ _ w110.heap.size w110.heap.size bs w110 (Reads.of_own (own_below (w := w109.drew) horx hb110 (Nat.le_refl _))) (Reads.of_own hore) (Nat.le_refl _) (Nat.le_refl _) hn).mono ?_; rintro e w111 ⟨rfl, hb111⟩))
  clear x0 x1 x2 c0 c1 c2
  have hB110 := hB109.drew.trans (hb110.mono hB109.size)
  have hB111 := hB110.trans (hb111.mono hB110.size)
  have hk := (hk.drew.below hb110 hk.drew.lt).below hb111 (hk.drew.below hb110 hk.drew.lt).lt
  have hp := (hp.drew.below hb110 hp.drew.lt).below hb111 (hp.drew.below hb110 hp.drew.lt).lt
  have how := own_below (own_below (w := w109.drew) how hb110 (Nat.le_refl _)) hb111 (Nat.le_refl _)
  have horx := own_below (own_below (w := w109.drew) horx hb110 (Nat.le_refl _)) hb111 (Nat.le_refl _)
  have hx := (hx.drew.below hb110 hx.drew.lt).below hb111 (hx.drew.below hb110 hx.drew.lt).lt
  have hoi1x := own_below (own_below (w := w109.drew) hoi1x hb110 (Nat.le_refl _)) hb111 (Nat.le_refl _)
  have hog := own_below (own_below (w := w109.drew) hog hb110 (Nat.le_refl _)) hb111 (Nat.le_refl _)
  clear hb110 hb111 hB110 hB109 hore
  go_wp2_with fail
  refine (unhide (HI1 _ hB111)).mono ?_
  rintro e w112 ⟨gi1e, rfl, hoi1e, hb112⟩
  have hB112 := hB111.trans (hb112.mono hB111.size)
  have hk := hk.below hb112 hk.lt
  have hp := hp.below hb112 hp.lt
  have how := own_below how hb112 (Nat.le_refl _)
  have horx := own_below horx hb112 (Nat.le_refl _)
  have hx := hx.below hb112 hx.lt
  have hoi1x := own_below hoi1x hb112 (Nat.le_refl _)
  have hog := own_below hog hb112 (Nat.le_refl _)
  clear hb112 hB111
  go_wp2_with fail
  refine (eqIntS_same _ _ _ _ w112.heap.size w112.heap.size z1 w112 (Reads.of_own hoi1x) (Reads.of_own hoi1e) hn1).mono ?_
  rintro e w113 ⟨rfl, hb113⟩
  have hB113 := hB112.trans (hb113.mono hB112.size)
  have hk := hk.below hb113 hk.lt
  have hp := hp.below hb113 hp.lt
  have how := own_below how hb113 (Nat.le_refl _)
  have horx := own_below horx hb113 (Nat.le_refl _)
  have hx := hx.below hb113 hx.lt
  have hoi1x := own_below hoi1x hb113 (Nat.le_refl _)
  have hog := own_below hog hb113 (Nat.le_refl _)
  have hoi1e := own_below hoi1e hb113 (Nat.le_refl _)
  clear hb113 hB112
  clear hoi1e
  have x0 := hx.cell 0
  have x1 := hx.cell 1
  have x2 := hx.cell 2
  simp at x0 x1 x2
  go_wp2_with fail
  clear x0 x1 x2
  refine (markRegion_any W T (.slice (some ⟨grx, 0, none⟩) bs.length bs.length) bs.length _ bs 1 w113 horx hn (by omega)).mono ?_
  rintro e w114 ⟨_, rfl, horx', hg114⟩
  have hB114 := hB113.grown hg114 hB113.size low_horx
  have hk := hk.grown hg114 sep_hk_horx
  have hp := hp.grown hg114 sep_hp_horx
  have how := own_grown how hg114 (sep_how_horx)
  have hx := hx.grown hg114 sep_hx_horx
  have hoi1x := own_grown hoi1x hg114 (sep_symm sep_horx_hoi1x)
  have hog := own_grown hog hg114 (sep_symm sep_horx_hog)
  clear horx
  have horx := horx'
  clear horx' hg114 hB113
  go_wp2_with fail
  refine (markIntS_any (.slice (some ⟨gi1x, 0, none⟩) z1.length z1.length) z1.length _ z1 (1 + (bs.length : Int)) w114 hoi1x hn1 (by omega)).mono ?_
  rintro e w115 ⟨rfl, hoi1x', hg115⟩
  have hB115 := hB114.grown hg115 hB114.size low_hoi1x
  have hk := hk.grown hg115 sep_hk_hoi1x
  have hp := hp.grown hg115 sep_hp_hoi1x
  have how := own_grown how hg115 (sep_how_hoi1x)
  have horx := own_grown horx hg115 (sep_horx_hoi1x)
  have hx := hx.grown hg115 sep_hx_hoi1x
  have hog := own_grown hog hg115 (sep_symm sep_hoi1x_hog)
  clear hoi1x
  have hoi1x := hoi1x'
  clear hoi1x' hg115 hB114
  have hk0 : decide (((1 + (bs.length : Int)) + (z1.length : Int)) < 0) = false := decide_eq_false (by omega)
  go_wp2_with fail
  refine (eqIntS_same _ _ _ _ w115.heap.size w115.heap.size G w115 (Reads.of_own hog) (Reads.of_own how) hGl).mono ?_
  rintro e w116 ⟨rfl, hb116⟩
  have hB116 := hB115.trans (hb116.mono hB115.size)
  have hk := hk.below hb116 hk.lt
  have hp := hp.below hb116 hp.lt
  have how := own_below how hb116 (Nat.le_refl _)
  have horx := own_below horx hb116 (Nat.le_refl _)
  have hx := hx.below hb116 hx.lt
  have hoi1x := own_below hoi1x hb116 (Nat.le_refl _)
  have hog := own_below hog hb116 (Nat.le_refl _)
  clear hb116 hB115
  go_wp2_with fail
  refine (markIntC_any Ag G.length cvg capg _ G 1 w116 hog hGl (by omega)).mono ?_
  rintro e w117 ⟨rfl, hog', hg117⟩
  have hB117 := hB116.grown hg117 hB116.size low_hog
  have hk := hk.grown hg117 sep_hk_hog
  have hp := hp.grown hg117 sep_hp_hog
  have how := own_grown how hg117 (sep_how_hog)
  have horx := own_grown horx hg117 (sep_horx_hog)
  have hx := hx.grown hg117 sep_hx_hog
  have hoi1x := own_grown hoi1x hg117 (sep_hoi1x_hog)
  clear hog
  have hog := hog'
  clear hog' hg117 hB116
  have hm0 : decide ((1 : Int) + (G.length : Int) < 0) = false := decide_eq_false (by omega)
  have hmm : ((1 : Int) + (G.length : Int) != (1 : Int) + (G.length : Int)) = false := by simp
  go_wp2_with fail
  refine (heldIntS_any Ag G.length cvg _ 1 w117 (Reads.of_own hog) hGl (by omega)).mono ?_
  rintro e w' ⟨rfl, rfl⟩
  have p0 := hp.cell 0
  have p1 := hp.cell 1
  simp at p0 p1
  have c0 := hk.cell 0
  have c1 := hk.cell 1
  have c2 := hk.cell 2
  simp at c0 c1 c2
  go_wp2_with fail
  go_region_held3 (fun w' => w'.cell? ⟨w.heap.size + 1, 0, none⟩ = some (.int .i64 a2) ∧ w'.cell? ⟨w.heap.size + 1, 1, none⟩ = some (.bool u2) ∧ w'.cell? ⟨w.heap.size, 0, none⟩ = some (.int .i64 W) ∧ w'.cell? ⟨w.heap.size, 1, none⟩ = some (.int .i64 T) ∧ w'.cell? ⟨w.heap.size, 2, none⟩ = some (.slice A bs.length c))
    (first | exact ⟨p0, p1, c0, c1, c2⟩ | exact ⟨cell_kept (w := w117.drew) (p0) hb118, cell_kept (w := w117.drew) (p1) hb118, cell_kept (w := w117.drew) (c0) hb118, cell_kept (w := w117.drew) (c1) hb118, cell_kept (w := w117.drew) (c2) hb118⟩ | exact ⟨cell_kept (w := w118) (cell_kept (w := w117.drew) (p0) hb118) hb119, cell_kept (w := w118) (cell_kept (w := w117.drew) (p1) hb118) hb119, cell_kept (w := w118) (cell_kept (w := w117.drew) (c0) hb118) hb119, cell_kept (w := w118) (cell_kept (w := w117.drew) (c1) hb118) hb119, cell_kept (w := w118) (cell_kept (w := w117.drew) (c2) hb118) hb119⟩ | exact ⟨cell_kept (w := w119) (cell_kept (w := w118) (cell_kept (w := w117.drew) (p0) hb118) hb119) hb120, cell_kept (w := w119) (cell_kept (w := w118) (cell_kept (w := w117.drew) (p1) hb118) hb119) hb120, cell_kept (w := w119) (cell_kept (w := w118) (cell_kept (w := w117.drew) (c0) hb118) hb119) hb120, cell_kept (w := w119) (cell_kept (w := w118) (cell_kept (w := w117.drew) (c1) hb118) hb119) hb120, cell_kept (w := w119) (cell_kept (w := w118) (cell_kept (w := w117.drew) (c2) hb118) hb119) hb120⟩ | exact ⟨cell_kept (w := w120) (cell_kept (w := w119) (cell_kept (w := w118) (cell_kept (w := w117.drew) (p0) hb118) hb119) hb120) hb121, cell_kept (w := w120) (cell_kept (w := w119) (cell_kept (w := w118) (cell_kept (w := w117.drew) (p1) hb118) hb119) hb120) hb121, cell_kept (w := w120) (cell_kept (w := w119) (cell_kept (w := w118) (cell_kept (w := w117.drew) (c0) hb118) hb119) hb120) hb121, cell_kept (w := w120) (cell_kept (w := w119) (cell_kept (w := w118) (cell_kept (w := w117.drew) (c1) hb118) hb119) hb120) hb121, cell_kept (w := w120) (cell_kept (w := w119) (cell_kept (w := w118) (cell_kept (w := w117.drew) (c2) hb118) hb119) hb120) hb121⟩)
    (first
      | (go_at_call 15; refine (unhide (HR _ (hB117.drew))).mono ?_; rintro e w118 ⟨grh, rfl, horh, hb118⟩)
      | (go_at_call 16; refine (unhide (HI1 _ ((hB117.drew).trans (hb118.mono (hB117.drew).size)))).mono ?_; rintro e w119 ⟨gi1h, rfl, hoi1h, hb119⟩)
      | (go_at_call 32; refine (toPush_any a2 u2 _).mono ?_; rintro e w120 ⟨rfl, hb120⟩)
      | (go_at_call 33; have hcall := (pushOneI_any W T _ bs.length bs.length w120.heap.size bs z1 _ z1.length z1.length a2 u2 w120 rfl rfl (.inr ⟨_, _, rfl⟩) (Reads.of_own (own_below (own_below horh hb119 (Nat.le_refl _)) hb120 (Nat.le_refl _))) (Reads.of_own (own_below hoi1h hb120 (Nat.le_refl _))) (Nat.le_refl _) (by omega) (by omega)); rw [← HGG.out] at hcall; refine hcall.mono ?_; clear hcall; rintro e w121 ⟨Ah, caph, cvh, rfl, hoh, hb121⟩))
  clear p0 p1 c0 c1 c2
  have hB121 := (((((hB117.drew).trans (hb118.mono (hB117.drew).size)).trans (hb119.mono ((hB117.drew).trans (hb118.mono (hB117.drew).size)).size)).trans (hb120.mono (((hB117.drew).trans (hb118.mono (hB117.drew).size)).trans (hb119.mono ((hB117.drew).trans (hb118.mono (hB117.drew).size)).size)).size)).trans (hb121.mono ((((hB117.drew).trans (hb118.mono (hB117.drew).size)).trans (hb119.mono ((hB117.drew).trans (hb118.mono (hB117.drew).size)).size)).trans (hb120.mono (((hB117.drew).trans (hb118.mono (hB117.drew).size)).trans (hb119.mono ((hB117.drew).trans (hb118.mono (hB117.drew).size)).size)).size)).size))
  have hk := ((((hk.drew).below hb118 (hk.drew).lt).below hb119 ((hk.drew).below hb118 (hk.drew).lt).lt).below hb120 (((hk.drew).below hb118 (hk.drew).lt).below hb119 ((hk.drew).below hb118 (hk.drew).lt).lt).lt).below hb121 ((((hk.drew).below hb118 (hk.drew).lt).below hb119 ((hk.drew).below hb118 (hk.drew).lt).lt).below hb120 (((hk.drew).below hb118 (hk.drew).lt).below hb119 ((hk.drew).below hb118 (hk.drew).lt).lt).lt).lt
  have hp := ((((hp.drew).below hb118 (hp.drew).lt).below hb119 ((hp.drew).below hb118 (hp.drew).lt).lt).below hb120 (((hp.drew).below hb118 (hp.drew).lt).below hb119 ((hp.drew).below hb118 (hp.drew).lt).lt).lt).below hb121 ((((hp.drew).below hb118 (hp.drew).lt).below hb119 ((hp.drew).below hb118 (hp.drew).lt).lt).below hb120 (((hp.drew).below hb118 (hp.drew).lt).below hb119 ((hp.drew).below hb118 (hp.drew).lt).lt).lt).lt
  have how := (own_below (own_below (own_below (own_below (own_below (w := w117) how (Below.refl _ _).drew (Nat.le_refl _)) hb118 (Nat.le_refl _)) hb119 (Nat.le_refl _)) hb120 (Nat.le_refl _)) hb121 (Nat.le_refl _))
  have horx := (own_below (own_below (own_below (own_below (own_below (w := w117) horx (Below.refl _ _).drew (Nat.le_refl _)) hb118 (Nat.le_refl _)) hb119 (Nat.le_refl _)) hb120 (Nat.le_refl _)) hb121 (Nat.le_refl _))
  have hx := ((((hx.drew).below hb118 (hx.drew).lt).below hb119 ((hx.drew).below hb118 (hx.drew).lt).lt).below hb120 (((hx.drew).below hb118 (hx.drew).lt).below hb119 ((hx.drew).below hb118 (hx.drew).lt).lt).lt).below hb121 ((((hx.drew).below hb118 (hx.drew).lt).below hb119 ((hx.drew).below hb118 (hx.drew).lt).lt).below hb120 (((hx.drew).below hb118 (hx.drew).lt).below hb119 ((hx.drew).below hb118 (hx.drew).lt).lt).lt).lt
  have hoi1x := (own_below (own_below (own_below (own_below (own_below (w := w117) hoi1x (Below.refl _ _).drew (Nat.le_refl _)) hb118 (Nat.le_refl _)) hb119 (Nat.le_refl _)) hb120 (Nat.le_refl _)) hb121 (Nat.le_refl _))
  have hog := (own_below (own_below (own_below (own_below (own_below (w := w117) hog (Below.refl _ _).drew (Nat.le_refl _)) hb118 (Nat.le_refl _)) hb119 (Nat.le_refl _)) hb120 (Nat.le_refl _)) hb121 (Nat.le_refl _))
  clear hb118 hb119 hb120 hb121 hB117 horh hoi1h
  go_wp2_with fail
  refine (eqIntS_same _ _ _ _ w121.heap.size w121.heap.size G w121 (Reads.of_own hoh) (Reads.of_own how) hGl).mono ?_
  rintro e w122 ⟨rfl, hb122⟩
  have hB122 := hB121.trans (hb122.mono hB121.size)
  have hk := hk.below hb122 hk.lt
  have hp := hp.below hb122 hp.lt
  have how := own_below how hb122 (Nat.le_refl _)
  have horx := own_below horx hb122 (Nat.le_refl _)
  have hx := hx.below hb122 hx.lt
  have hoi1x := own_below hoi1x hb122 (Nat.le_refl _)
  have hog := own_below hog hb122 (Nat.le_refl _)
  have hoh := own_below hoh hb122 (Nat.le_refl _)
  clear hb122 hB121
  go_wp2_with fail
  refine (heldIntS_any Ag G.length cvg _ 1 w122 (Reads.of_own hog) hGl (by omega)).mono ?_
  rintro e w' ⟨rfl, rfl⟩
  go_wp2_with fail
  go_ret
  exact ⟨rfl, hB122⟩
end Go.Proofs.Ytldnccdlpagodaa
