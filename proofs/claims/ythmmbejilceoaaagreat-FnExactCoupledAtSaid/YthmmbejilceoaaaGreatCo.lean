/-
  YthmmbejilceoaaaGreatCo: Coupled of the program and of the reference.
-/
import Derived.Test.YthmmbejilceoaaaGreatPq
import Derived.Test.YthmmbejilceoaaaGreatTu
namespace Go.Proofs.YthmmbejilceoaaaGreat
open Go.RowKit

theorem tile_exV {f : Int → Int → Int} (hf : Keeps f) {R : Reg} (hR : R.ok) (hS : SimpleP R) (hs : simpleB R.W R.T R.C = true) (hne : tilT R ≠ []) : Tile R (exV f R.W R.T R.C) := by
  rw [(exV_yes (f := f) hs hne).1]
  have h0 : Tile R ((tilT R).headD []) := by
    cases hx : tilT R with
    | nil => exact absurd hx hne
    | cons a l => exact (tilT_iff hR).1 (by rw [hx]; simp)
  have hp := exH_hp hf hR hS (hp_of_tile hR hS h0) (Ts := tilT R) fun M hM => (tilT_iff hR).1 hM
  exact ⟨lay_tilH hR hp, full_tilH hR hp⟩
theorem exB_cases {W T : Int} {bs : List Bool} (h : exB W T bs = true) : ∃ R : Reg, R.ok ∧ W = (R.W : Int) ∧ T = (R.T : Int) ∧ bs = R.C ∧ SimpleP R ∧ simpleB R.W R.T R.C = true ∧ tilT R ≠ [] := by
  unfold exB at h
  rw [Bool.and_eq_true] at h
  obtain ⟨R, hR, rfl, rfl, rfl, hS⟩ := simple_cases h.1
  refine ⟨R, hR, rfl, rfl, rfl, hS, h.1, fun hx => ?_⟩
  have h2 := h.2
  rw [show tilT ⟨(R.W : Int).toNat, (R.T : Int).toNat, R.C⟩ = tilT R from rfl, hx] at h2
  cases h2

/-- Do pushes lead the lowest and the highest tiling to one? -/
noncomputable def cpB (W T : Int) (bs : List Bool) (ps : List (Int × Bool)) : Bool := exB W T bs && (ruV ⟨W.toNat, T.toNat, bs⟩ (exV min W T bs) ps == ruV ⟨W.toNat, T.toNat, bs⟩ (exV max W T bs) ps)
noncomputable def coB (W T : Int) (bs : List Bool) (ps : List (Int × Bool)) : Bool := pushesB W T bs ps && cpB W T bs ps

def CpRet (w : World) (b : Bool) (e : Ending) (w' : World) : Prop := ∃ x, e = .returned (.tuple #[x, .bool b]) ∧ Below w.heap.size w w'

set_option maxHeartbeats 4000000 in
set_option maxRecDepth 20000 in
theorem coupledI_yes (R : Reg) (hR : R.ok) (hS : SimpleP R) (hs : simpleB R.W R.T R.C = true) (hne : tilT R ≠ []) (A : Option Addr) (c B : Nat) (P : Option Addr) (m pd E : Nat) (ps : List (Int × Bool)) (hk9 : ∀ p ∈ ps, p.1 ≤ 9223372036854775807) (w : World)
    (hr : Reads w B 1 A R.C.length (R.C.map Value.bool)) (hB : B ≤ w.heap.size) (hm : ps.length = m) (hp : Reads w E 2 P m (pc ps)) (hE : E ≤ w.heap.size) (hmm : m ≤ 9223372036854775807) :
    Calls Tryz.prog 24 #[.agg #[.int .i64 R.W, .int .i64 R.T, .slice A R.C.length c], .slice P m pd] w (CpRet w (ruV R (exV min R.W R.T R.C) ps == ruV R (exV max R.W R.T R.C) ps)) := by
  have hl36 := (len_bd hR).2
  have hl1 := (len_bd hR).1
  have hex := (exV_yes (f := min) hs hne).2
  have hTl := tile_exV keeps_min hR hS hs hne
  have hTh := tile_exV keeps_max hR hS hs hne
  have hLO := fun w' (h : Below w.heap.size w w') => hide (lowestI_any R.W R.T A R.C.length c B R.C w' rfl (hr.below (h.mono hB)) (Nat.le_trans hB h.size) (by omega))
  have hHI := fun w' (h : Below w.heap.size w w') => hide (highestI_any R.W R.T A R.C.length c B R.C w' rfl (hr.below (h.mono hB)) (Nat.le_trans hB h.size) (by omega))
  simp only [hex] at hLO hHI
  have hRU : ∀ (L : List Int) (g d : Nat) w', Tile R L → Below w.heap.size w w' → Reads w' w'.heap.size 1 (some ⟨g, 0, none⟩) R.C.length (L.map (Value.int .i64)) → Hid (Calls Tryz.prog 44 #[.agg #[.int .i64 R.W, .int .i64 R.T, .slice A R.C.length c], .slice (some ⟨g, 0, none⟩) R.C.length d, .slice P m pd] w' fun e w'' => ∃ g2 d2, e = .returned (.slice (some ⟨g2, 0, none⟩) R.C.length d2) ∧ Reads w'' w''.heap.size 1 (some ⟨g2, 0, none⟩) R.C.length ((ruV R L ps).map (Value.int .i64)) ∧ Below w'.heap.size w' w'') := fun L g d w' hL h ha => by
    have := run_any R hR hS A c w'.heap.size L (some ⟨g, 0, none⟩) d P m pd w'.heap.size ps hk9 (.inr ⟨_, _, rfl⟩) hL w' ((hr.below (h.mono hB)).more (Nat.le_trans hB h.size)) ha (Nat.le_refl _) hm ((hp.below (h.mono hE)).more (Nat.le_trans hE h.size)) (Nat.le_refl _) hmm
    refine hide (this.mono ?_)
    rintro e w'' ⟨A2, c2, c2', rfl, ho, hb⟩
    rw [(tile_ruV hR hL).1.len] at ho ⊢
    obtain ⟨g2, cg, hsh, _, _, _⟩ := own_shape ho hl1
    simp only [Value.slice.injEq, true_and] at hsh
    obtain ⟨rfl, rfl⟩ := hsh
    exact ⟨g2, c2', rfl, Reads.of_own ho, hb⟩
  have hEQ : ∀ (g d g' d' : Nat) w', Reads w' w'.heap.size 1 (some ⟨g, 0, none⟩) R.C.length ((ruV R (exV min R.W R.T R.C) ps).map (Value.int .i64)) → Reads w' w'.heap.size 1 (some ⟨g', 0, none⟩) R.C.length ((ruV R (exV max R.W R.T R.C) ps).map (Value.int .i64)) → Hid (Calls Tryz.prog 30 #[.slice (some ⟨g, 0, none⟩) R.C.length d, .slice (some ⟨g', 0, none⟩) R.C.length d'] w' fun e w'' => e = .returned (.bool (ruV R (exV min R.W R.T R.C) ps == ruV R (exV max R.W R.T R.C) ps)) ∧ Below w'.heap.size w' w'') := fun g d g' d' w' h1 h2 => by
    have e1 := (tile_ruV (ps := ps) hR hTl).1.len
    have e2 := (tile_ruV (ps := ps) hR hTh).1.len
    have := equal_any g g' d d' w'.heap.size w'.heap.size _ _ w' (by rw [e1]; exact h1) (by rw [e2]; exact h2) (by rw [e1]; omega) (by rw [e2]; omega)
    rw [e1, e2] at this
    exact hide this
  have hll := hTl.1.len
  have hlh := hTh.1.len
  have hRL := fun g d w' h ha => hRU (exV min R.W R.T R.C) g d w' hTl h ha
  have hRH := fun g d w' h ha => hRU (exV max R.W R.T R.C) g d w' hTh h ha
  have HLL := Lib.hid hll
  have HLH := Lib.hid hlh
  generalize ruV R (exV min R.W R.T R.C) ps = X at *
  generalize ruV R (exV max R.W R.T R.C) ps = Y at *
  generalize exV min R.W R.T R.C = LO at *
  generalize exV max R.W R.T R.C = HI at *
  have hb0 : Below w.heap.size w (w.alloc (boxR R.W R.T A R.C.length c)) := (Below.refl _ _).alloc (Nat.le_refl _) _
  have k0 : Blk (w.alloc (boxR R.W R.T A R.C.length c)) w.heap.size 29 #[.int .i64 R.W, .int .i64 R.T, .slice A R.C.length c] := Blk.new _ _ _
  clear hr hp hk9 hm hRU hs hne hTl hTh hex hll hlh
  go_enter Tryz.func24, Tryz.ntmps24
  go_wp2_with fail
  refine (unhide (hLO _ hb0)).mono ?_
  rintro e w1 ⟨A1, c1, c1', rfl, ho1, hb1⟩
  rw [HLL.out] at ho1 ⊢
  obtain ⟨gl, cgl, hsh, _, _, _⟩ := own_shape ho1 hl1
  simp only [Value.slice.injEq, true_and] at hsh
  obtain ⟨rfl, rfl⟩ := hsh
  have hB1 := hb0.trans (hb1.mono hb0.size)
  have k1 := k0.below hb1 k0.lt
  have hl1' := Reads.of_own ho1
  obtain ⟨b0, b1, b2⟩ := blk3 k1
  clear k0 hb0 hb1 hLO ho1
  go_wp2_with fail
  refine (unhide (hHI _ hB1)).mono ?_
  rintro e w2 ⟨A2, c2, c2', rfl, ho2, hb2⟩
  rw [HLH.out] at ho2 ⊢
  obtain ⟨gh, cgh, hsh, _, _, _⟩ := own_shape ho2 hl1
  simp only [Value.slice.injEq, true_and] at hsh
  obtain ⟨rfl, rfl⟩ := hsh
  have hB2 := hB1.trans (hb2.mono hB1.size)
  have k2 := k1.below hb2 k1.lt
  have hlo2 := (hl1'.below hb2).more hb2.size
  have hhi2 := Reads.of_own ho2
  clear b0 b1 b2 k1 hB1 hb2 hHI ho2 hl1'
  obtain ⟨b0, b1, b2⟩ := blk3 k2
  have hR1 := hRL gl c1' w2.drew hB2.drew hlo2
  have hhid : Reads w2.drew w2.drew.heap.size 1 (some ⟨gh, 0, none⟩) R.C.length (HI.map (Value.int .i64)) := hhi2
  have hR2 := fun w3 (hb3 : Below w2.drew.heap.size w2.drew w3) => hRH gh c2' w3 (hB2.drew.trans (hb3.mono hB2.drew.size)) ((hhid.below hb3).more hb3.size)
  clear hRL hRH
  go_upto_region 5 with fail
  go_region_held3 (fun w' => w'.cell? ⟨w.heap.size, 0, none⟩ = some (.int .i64 R.W) ∧ w'.cell? ⟨w.heap.size, 1, none⟩ = some (.int .i64 R.T) ∧ w'.cell? ⟨w.heap.size, 2, none⟩ = some (.slice A R.C.length c))
    (first
      | exact ⟨b0, b1, b2⟩
      | exact ⟨cell_kept (w := w2.drew) b0 hb3, cell_kept (w := w2.drew) b1 hb3, cell_kept (w := w2.drew) b2 hb3⟩
      | exact ⟨cell_kept (cell_kept (w := w2.drew) b0 hb3) hb4, cell_kept (cell_kept (w := w2.drew) b1 hb3) hb4, cell_kept (cell_kept (w := w2.drew) b2 hb3) hb4⟩)
    (first
      | (go_at_call 44; (with_reducible refine (unhide hR1).mono ?_); rintro e w3 ⟨g3, d3, rfl, hr3, hb3⟩)
      | (go_at_call 44; (with_reducible refine (unhide (hR2 w3 hb3)).mono ?_); rintro e w4 ⟨g4, d4, rfl, hr4, hb4⟩))
  all_goals
    have hB4 := (hB2.drew.trans (hb3.mono hB2.drew.size)).trans (hb4.mono (hB2.drew.trans (hb3.mono hB2.drew.size)).size)
    have hE4 := hEQ g3 d3 g4 d4 w4 ((hr3.below hb4).more hb4.size) hr4
    clear b0 b1 b2 k2 hlo2 hhi2 hhid hR1 hR2 hr3 hr4 hb3 hb4 hB2 hEQ
    go_simp
    go_wp2_with fail
    refine (unhide hE4).mono ?_
    rintro e w5 ⟨rfl, hb5⟩
    go_wp2_with fail
    go_ret2
    exact ⟨_, rfl, hB4.trans (hb5.mono hB4.size)⟩

theorem cpB_no {W T : Int} {bs : List Bool} {ps : List (Int × Bool)} (h : exB W T bs = false) : cpB W T bs ps = false := by unfold cpB; rw [h]; rfl
theorem cpB_yes {R : Reg} {ps : List (Int × Bool)} (h : exB R.W R.T R.C = true) : cpB R.W R.T R.C ps = (ruV R (exV min R.W R.T R.C) ps == ruV R (exV max R.W R.T R.C) ps) := by unfold cpB; rw [h, Bool.true_and]; rfl

set_option maxHeartbeats 1000000 in
theorem coupledI_any (W T : Int) (A : Option Addr) (n c B : Nat) (bs : List Bool) (P : Option Addr) (m pd E : Nat) (ps : List (Int × Bool)) (hv : pushesB W T bs ps = true) (w : World) (hbl : bs.length = n)
    (hr : Reads w B 1 A n (bs.map Value.bool)) (hB : B ≤ w.heap.size) (hn : n ≤ 9223372036854775807) (hm : ps.length = m) (hp : Reads w E 2 P m (pc ps)) (hE : E ≤ w.heap.size) (hmm : m ≤ 9223372036854775807) :
    Calls Tryz.prog 24 #[.agg #[.int .i64 W, .int .i64 T, .slice A n c], .slice P m pd] w (CpRet w (cpB W T bs ps)) := by
  cases hex : exB W T bs with
  | true =>
    obtain ⟨R, hR, rfl, rfl, rfl, hS, hs, hne⟩ := exB_cases hex
    subst hbl
    rw [cpB_yes hex]
    exact coupledI_yes R hR hS hs hne A c B P m pd E ps (fun p hp' => by have := pushes_bd hv p hp'; omega) w hr hB hm hp hE hmm
  | false =>
    rw [cpB_no hex]
    have hb0 : Below w.heap.size w (w.alloc (boxR W T A n c)) := (Below.refl _ _).alloc (Nat.le_refl _) _
    have k0 : Blk (w.alloc (boxR W T A n c)) w.heap.size 29 #[.int .i64 W, .int .i64 T, .slice A n c] := Blk.new _ _ _
    have hLO := fun w' (h : Below w.heap.size w w') => hide (lowestI_any W T A n c B bs w' hbl (hr.below (h.mono hB)) (Nat.le_trans hB h.size) hn)
    have hHI := fun w' (h : Below w.heap.size w w') => hide (highestI_any W T A n c B bs w' hbl (hr.below (h.mono hB)) (Nat.le_trans hB h.size) hn)
    simp only [hex] at hLO hHI
    clear hex hv hr hp hm
    generalize exV min W T bs = X at *
    generalize exV max W T bs = Y at *
    go_enter Tryz.func24, Tryz.ntmps24
    go_wp2_with fail
    refine (unhide (hLO _ hb0)).mono ?_
    rintro e w1 ⟨A1, c1, c1', rfl, ho1, hb1⟩
    have hB1 := hb0.trans (hb1.mono hb0.size)
    obtain ⟨b0, b1, b2⟩ := blk3 (k0.below hb1 k0.lt)
    clear k0 hb0 hb1 hLO ho1
    go_wp2_with fail
    refine (unhide (hHI _ hB1)).mono ?_
    rintro e w2 ⟨A2, c2, c2', rfl, ho2, hb2⟩
    go_wp2_with fail
    go_ret2
    exact ⟨_, rfl, hB1.trans (hb2.mono hB1.size)⟩

set_option maxHeartbeats 1000000 in
theorem coupledTopI_any (W T : Int) (A : Option Addr) (n c B : Nat) (bs : List Bool) (P : Option Addr) (m pd E : Nat) (ps : List (Int × Bool)) (w : World) (hbl : bs.length = n)
    (hr : Reads w B 1 A n (bs.map Value.bool)) (hB : B ≤ w.heap.size) (hn : n ≤ 9223372036854775807) (hm : ps.length = m) (hp : Reads w E 2 P m (pc ps)) (hE : E ≤ w.heap.size) (hmm : m ≤ 9223372036854775807) :
    Calls Tryz.prog 10 #[.agg #[.int .i64 W, .int .i64 T, .slice A n c], .slice P m pd] w fun e w' => e = .returned (.bool (coB W T bs ps)) ∧ Below w.heap.size w w' := by
  have hb0 : Below w.heap.size w (w.alloc (boxR W T A n c)) := (Below.refl _ _).alloc (Nat.le_refl _) _
  have k0 : Blk (w.alloc (boxR W T A n c)) w.heap.size 29 #[.int .i64 W, .int .i64 T, .slice A n c] := Blk.new _ _ _
  have hPV := hide (PushesValidI_any W T A n c B bs P m pd E ps _ hbl (hr.below (hb0.mono hB)) (Nat.le_trans hB hb0.size) hn hm (hp.below (hb0.mono hE)) (Nat.le_trans hE hb0.size) hmm)
  cases hv : pushesB W T bs ps with
  | false =>
    rw [show coB W T bs ps = false by unfold coB; rw [hv]; rfl]
    rw [hv] at hPV
    clear hv hr hp hm k0
    go_enter Tryz.func10, Tryz.ntmps10
    go_wp2_with fail
    refine (unhide hPV).mono ?_
    rintro e w1 ⟨rfl, hb1⟩
    go_wp2_with fail
    go_ret
    exact ⟨rfl, hb0.trans (hb1.mono hb0.size)⟩
  | true =>
    rw [show coB W T bs ps = cpB W T bs ps by unfold coB; rw [hv]; rfl]
    rw [hv] at hPV
    have hCO := fun w' (h : Below w.heap.size w w') => hide (coupledI_any W T A n c B bs P m pd E ps hv w' hbl (hr.below (h.mono hB)) (Nat.le_trans hB h.size) hn hm (hp.below (h.mono hE)) (Nat.le_trans hE h.size) hmm)
    generalize cpB W T bs ps = b at *
    clear hv hr hp hm
    go_enter Tryz.func10, Tryz.ntmps10
    go_wp2_with fail
    refine (unhide hPV).mono ?_
    rintro e w1 ⟨rfl, hb1⟩
    have hB1 := hb0.trans (hb1.mono hb0.size)
    obtain ⟨b0, b1, b2⟩ := blk3 (k0.below hb1 k0.lt)
    have hC1 := hCO _ hB1
    clear k0 hb0 hb1 hPV hCO
    go_wp2_with fail
    refine (unhide hC1).mono ?_
    rintro e w2 ⟨x, rfl, hb2⟩
    go_wp2_with fail
    go_ret
    exact ⟨rfl, hB1.trans (hb2.mono hB1.size)⟩

set_option maxHeartbeats 4000000 in
set_option maxRecDepth 20000 in
theorem coupledS_yes (R : Reg) (hR : R.ok) (hS : SimpleP R) (hs : simpleB R.W R.T R.C = true) (hne : tilT R ≠ []) (A : Option Addr) (c B : Nat) (P : Option Addr) (m pd E : Nat) (ps : List (Int × Bool)) (hv : pushesB R.W R.T R.C ps = true) (w : World)
    (hr : Reads w B 1 A R.C.length (R.C.map Value.bool)) (hB : B ≤ w.heap.size) (hm : ps.length = m) (hp : Reads w E 2 P m (pc ps)) (hE : E ≤ w.heap.size) (hmm : m ≤ 9223372036854775807) :
    Calls Tryz.prog 7 #[.agg #[.int .i64 R.W, .int .i64 R.T, .slice A R.C.length c], .slice P m pd] w fun e w' => e = .returned (.bool (ruV R (exV min R.W R.T R.C) ps == ruV R (exV max R.W R.T R.C) ps)) ∧ Below w.heap.size w w' := by
  have hl36 := (len_bd hR).2
  have hl1 := (len_bd hR).1
  have hex := (exV_yes (f := min) hs hne).2
  have hTl := tile_exV keeps_min hR hS hs hne
  have hTh := tile_exV keeps_max hR hS hs hne
  have hLO := fun w' (h : Below w.heap.size w w') => hide (lowestS_any R.W R.T A R.C.length c B R.C w' rfl (hr.below (h.mono hB)) (Nat.le_trans hB h.size) (by omega))
  have hHI := fun w' (h : Below w.heap.size w w') => hide (highestS_any R.W R.T A R.C.length c B R.C w' rfl (hr.below (h.mono hB)) (Nat.le_trans hB h.size) (by omega))
  simp only [hex] at hLO hHI
  have hPV := fun w' (h : Below w.heap.size w w') => hide (PushesValidS_any R.W R.T A R.C.length c B R.C P m pd E ps w' rfl (hr.below (h.mono hB)) (Nat.le_trans hB h.size) (by omega) hm (hp.below (h.mono hE)) (Nat.le_trans hE h.size) hmm)
  simp only [hv] at hPV
  have hRU : ∀ (L : List Int) (g d : Nat) w', Tile R L → Below w.heap.size w w' → Reads w' w'.heap.size 1 (some ⟨g, 0, none⟩) R.C.length (L.map (Value.int .i64)) → Hid (Calls Tryz.prog 20 #[.agg #[.int .i64 R.W, .int .i64 R.T, .slice A R.C.length c], .slice (some ⟨g, 0, none⟩) R.C.length d, .slice P m pd] w' fun e w'' => ∃ g2 d2, e = .returned (.slice (some ⟨g2, 0, none⟩) R.C.length d2) ∧ Reads w'' w''.heap.size 1 (some ⟨g2, 0, none⟩) R.C.length ((ruV R L ps).map (Value.int .i64)) ∧ Below w'.heap.size w' w'') := fun L g d w' hL h ha => by
    have := pushRunS_any R.W R.T A R.C.length c w'.heap.size R.C L (some ⟨g, 0, none⟩) R.C.length d P m pd w'.heap.size ps w' rfl hL.1.len ((hr.below (h.mono hB)).more (Nat.le_trans hB h.size)) ha (Nat.le_refl _) (by omega) (by omega) hm ((hp.below (h.mono hE)).more (Nat.le_trans hE h.size)) (Nat.le_refl _) hmm
    rw [prV_yes ((tiled_ok hR).2 ⟨hS, hL.1, hL.2⟩) hv] at this
    refine hide (this.mono ?_)
    rintro e w'' ⟨A2, c2, c2', rfl, ho, hb⟩
    rw [(tile_ruV hR hL).1.len] at ho ⊢
    obtain ⟨g2, cg, hsh, _, _, _⟩ := own_shape ho hl1
    simp only [Value.slice.injEq, true_and] at hsh
    obtain ⟨rfl, rfl⟩ := hsh
    exact ⟨g2, c2', rfl, Reads.of_own ho, hb⟩
  have hSA : ∀ (g d g' d' : Nat) w', Reads w' w'.heap.size 1 (some ⟨g, 0, none⟩) R.C.length ((ruV R (exV min R.W R.T R.C) ps).map (Value.int .i64)) → Reads w' w'.heap.size 1 (some ⟨g', 0, none⟩) R.C.length ((ruV R (exV max R.W R.T R.C) ps).map (Value.int .i64)) → Hid (Calls Tryz.prog 19 #[.slice (some ⟨g, 0, none⟩) R.C.length d, .slice (some ⟨g', 0, none⟩) R.C.length d'] w' fun e w'' => e = .returned (.bool (ruV R (exV min R.W R.T R.C) ps == ruV R (exV max R.W R.T R.C) ps)) ∧ Below w'.heap.size w' w'') := fun g d g' d' w' h1 h2 =>
    hide (sameS_any _ _ (some ⟨g, 0, none⟩) (some ⟨g', 0, none⟩) R.C.length d R.C.length d' w'.heap.size w' (tile_ruV (ps := ps) hR hTl).1.len (tile_ruV (ps := ps) hR hTh).1.len h1 h2 (by omega) (by omega))
  have hRL := fun g d w' h ha => hRU (exV min R.W R.T R.C) g d w' hTl h ha
  have hRH := fun g d w' h ha => hRU (exV max R.W R.T R.C) g d w' hTh h ha
  have HLL := Lib.hid hTl.1.len
  have HLH := Lib.hid hTh.1.len
  generalize ruV R (exV min R.W R.T R.C) ps = X at *
  generalize ruV R (exV max R.W R.T R.C) ps = Y at *
  generalize exV min R.W R.T R.C = LO at *
  generalize exV max R.W R.T R.C = HI at *
  have hb0 : Below w.heap.size w (w.alloc (boxR R.W R.T A R.C.length c)) := (Below.refl _ _).alloc (Nat.le_refl _) _
  have k0 : Blk (w.alloc (boxR R.W R.T A R.C.length c)) w.heap.size 29 #[.int .i64 R.W, .int .i64 R.T, .slice A R.C.length c] := Blk.new _ _ _
  clear hr hp hm hRU hs hne hTl hTh hex hv
  go_enter Tryz.func7, Tryz.ntmps7
  go_wp2_with fail
  refine (unhide (hLO _ hb0)).mono ?_
  rintro e w1 ⟨A1, c1, c1', rfl, ho1, hb1⟩
  rw [HLL.out] at ho1 ⊢
  obtain ⟨gl, cgl, hsh, _, _, _⟩ := own_shape ho1 hl1
  simp only [Value.slice.injEq, true_and] at hsh
  obtain ⟨rfl, rfl⟩ := hsh
  have hB1 := hb0.trans (hb1.mono hb0.size)
  have k1 := k0.below hb1 k0.lt
  have hl1' := Reads.of_own ho1
  obtain ⟨b0, b1, b2⟩ := blk3 k1
  clear k0 hb0 hb1 hLO ho1
  go_wp2_with fail
  refine (unhide (hHI _ hB1)).mono ?_
  rintro e w2 ⟨A2, c2, c2', rfl, ho2, hb2⟩
  rw [HLH.out] at ho2 ⊢
  obtain ⟨gh, cgh, hsh, _, _, _⟩ := own_shape ho2 hl1
  simp only [Value.slice.injEq, true_and] at hsh
  obtain ⟨rfl, rfl⟩ := hsh
  have hB2 := hB1.trans (hb2.mono hB1.size)
  have k2 := k1.below hb2 k1.lt
  have hlo2 := (hl1'.below hb2).more hb2.size
  have hhi2 := Reads.of_own ho2
  clear b0 b1 b2 k1 hB1 hb2 hHI ho2 hl1'
  obtain ⟨b0, b1, b2⟩ := blk3 k2
  go_wp2_with fail
  refine (unhide (hPV _ hB2)).mono ?_
  rintro e w22 ⟨rfl, hb22⟩
  have hB22 := hB2.trans (hb22.mono hB2.size)
  have k22 := k2.below hb22 k2.lt
  have hlo3 := (hlo2.below hb22).more hb22.size
  have hhi3 := (hhi2.below hb22).more hb22.size
  clear b0 b1 b2 k2 hB2 hb22 hPV hlo2 hhi2
  obtain ⟨b0, b1, b2⟩ := blk3 k22
  have hR1 := hRL gl c1' w22.drew hB22.drew hlo3
  have hhid : Reads w22.drew w22.drew.heap.size 1 (some ⟨gh, 0, none⟩) R.C.length (HI.map (Value.int .i64)) := hhi3
  have hR2 := fun w3 (hb3 : Below w22.drew.heap.size w22.drew w3) => hRH gh c2' w3 (hB22.drew.trans (hb3.mono hB22.drew.size)) ((hhid.below hb3).more hb3.size)
  clear hRL hRH
  go_upto_region 5 with fail
  go_region_held3 (fun w' => w'.cell? ⟨w.heap.size, 0, none⟩ = some (.int .i64 R.W) ∧ w'.cell? ⟨w.heap.size, 1, none⟩ = some (.int .i64 R.T) ∧ w'.cell? ⟨w.heap.size, 2, none⟩ = some (.slice A R.C.length c))
    (first
      | exact ⟨b0, b1, b2⟩
      | exact ⟨cell_kept (w := w22.drew) b0 hb3, cell_kept (w := w22.drew) b1 hb3, cell_kept (w := w22.drew) b2 hb3⟩
      | exact ⟨cell_kept (cell_kept (w := w22.drew) b0 hb3) hb4, cell_kept (cell_kept (w := w22.drew) b1 hb3) hb4, cell_kept (cell_kept (w := w22.drew) b2 hb3) hb4⟩
      | exact ⟨cell_kept (cell_kept (cell_kept (w := w22.drew) b0 hb3) hb4) hb5, cell_kept (cell_kept (cell_kept (w := w22.drew) b1 hb3) hb4) hb5, cell_kept (cell_kept (cell_kept (w := w22.drew) b2 hb3) hb4) hb5⟩)
    (first
      | (go_at_call 20; (with_reducible refine (unhide hR1).mono ?_); rintro e w3 ⟨g3, d3, rfl, hr3, hb3⟩)
      | (go_at_call 20; (with_reducible refine (unhide (hR2 w3 hb3)).mono ?_); rintro e w4 ⟨g4, d4, rfl, hr4, hb4⟩)
      | (go_at_call 19; (with_reducible refine (unhide (hSA g3 d3 g4 d4 w4 ((hr3.below hb4).more hb4.size) hr4)).mono ?_); rintro e w5 ⟨rfl, hb5⟩))
  all_goals
    have hB4 := (hB22.drew.trans (hb3.mono hB22.drew.size)).trans (hb4.mono (hB22.drew.trans (hb3.mono hB22.drew.size)).size)
    clear b0 b1 b2 k22 hlo3 hhi3 hhid hR1 hR2 hr3 hr4 hb3 hb4 hSA
    go_simp
    go_wp2_with fail
    go_ret
    exact ⟨rfl, hB4.trans (hb5.mono hB4.size)⟩

set_option maxHeartbeats 1000000 in
theorem coupledS_any (W T : Int) (A : Option Addr) (n c B : Nat) (bs : List Bool) (P : Option Addr) (m pd E : Nat) (ps : List (Int × Bool)) (w : World) (hbl : bs.length = n)
    (hr : Reads w B 1 A n (bs.map Value.bool)) (hB : B ≤ w.heap.size) (hn : n ≤ 9223372036854775807) (hm : ps.length = m) (hp : Reads w E 2 P m (pc ps)) (hE : E ≤ w.heap.size) (hmm : m ≤ 9223372036854775807) :
    Calls Tryz.prog 7 #[.agg #[.int .i64 W, .int .i64 T, .slice A n c], .slice P m pd] w fun e w' => e = .returned (.bool (coB W T bs ps)) ∧ Below w.heap.size w w' := by
  have hb0 : Below w.heap.size w (w.alloc (boxR W T A n c)) := (Below.refl _ _).alloc (Nat.le_refl _) _
  have k0 : Blk (w.alloc (boxR W T A n c)) w.heap.size 29 #[.int .i64 W, .int .i64 T, .slice A n c] := Blk.new _ _ _
  have hLO := fun w' (h : Below w.heap.size w w') => hide (lowestS_any W T A n c B bs w' hbl (hr.below (h.mono hB)) (Nat.le_trans hB h.size) hn)
  have hHI := fun w' (h : Below w.heap.size w w') => hide (highestS_any W T A n c B bs w' hbl (hr.below (h.mono hB)) (Nat.le_trans hB h.size) hn)
  have hPV := fun w' (h : Below w.heap.size w w') => hide (PushesValidS_any W T A n c B bs P m pd E ps w' hbl (hr.below (h.mono hB)) (Nat.le_trans hB h.size) hn hm (hp.below (h.mono hE)) (Nat.le_trans hE h.size) hmm)
  cases hex : exB W T bs with
  | false =>
    rw [show coB W T bs ps = false by unfold coB; rw [cpB_no hex, Bool.and_false]]
    simp only [hex] at hLO hHI
    clear hex hr hp hm hPV
    generalize exV min W T bs = X at *
    generalize exV max W T bs = Y at *
    go_enter Tryz.func7, Tryz.ntmps7
    go_wp2_with fail
    refine (unhide (hLO _ hb0)).mono ?_
    rintro e w1 ⟨A1, c1, c1', rfl, ho1, hb1⟩
    have hB1 := hb0.trans (hb1.mono hb0.size)
    obtain ⟨b0, b1, b2⟩ := blk3 (k0.below hb1 k0.lt)
    clear k0 hb0 hb1 hLO ho1
    go_wp2_with fail
    refine (unhide (hHI _ hB1)).mono ?_
    rintro e w2 ⟨A2, c2, c2', rfl, ho2, hb2⟩
    go_wp2_with fail
    go_ret
    exact ⟨rfl, hB1.trans (hb2.mono hB1.size)⟩
  | true =>
    cases hv : pushesB W T bs ps with
    | true =>
      obtain ⟨R, hR, rfl, rfl, rfl, hS, hs, hne⟩ := exB_cases hex
      subst hbl
      rw [show coB R.W R.T R.C ps = cpB R.W R.T R.C ps by unfold coB; rw [hv]; rfl, cpB_yes hex]
      exact coupledS_yes R hR hS hs hne A c B P m pd E ps hv w hr hB hm hp hE hmm
    | false =>
      rw [show coB W T bs ps = false by unfold coB; rw [hv]; rfl]
      simp only [hex] at hLO hHI
      simp only [hv] at hPV
      clear hex hr hp hm hv
      generalize exV min W T bs = X at *
      generalize exV max W T bs = Y at *
      go_enter Tryz.func7, Tryz.ntmps7
      go_wp2_with fail
      refine (unhide (hLO _ hb0)).mono ?_
      rintro e w1 ⟨A1, c1, c1', rfl, ho1, hb1⟩
      have hB1 := hb0.trans (hb1.mono hb0.size)
      have k1 := k0.below hb1 k0.lt
      obtain ⟨b0, b1, b2⟩ := blk3 k1
      clear k0 hb0 hb1 hLO ho1
      go_wp2_with fail
      refine (unhide (hHI _ hB1)).mono ?_
      rintro e w2 ⟨A2, c2, c2', rfl, ho2, hb2⟩
      have hB2 := hB1.trans (hb2.mono hB1.size)
      clear b0 b1 b2
      obtain ⟨b0, b1, b2⟩ := blk3 (k1.below hb2 k1.lt)
      have hP2 := hPV _ hB2
      clear k1 hb2 hB1 hHI ho2 hPV
      go_wp2_with fail
      refine (unhide hP2).mono ?_
      rintro e w3 ⟨rfl, hb3⟩
      go_wp2_with fail
      go_ret
      exact ⟨rfl, hB2.trans (hb3.mono hB2.size)⟩

end Go.Proofs.YthmmbejilceoaaaGreat
