/-
  YthmmbejilceoaaaGreatCt: CoupledAt of the program.
-/
import Derived.Test.YthmmbejilceoaaaGreatCo
namespace Go.Proofs.YthmmbejilceoaaaGreat
open Go.RowKit

/-- How many pushes until both are one. -/
def caI (R : Reg) (n : Int) (a b : List Int) : List (Int × Bool) → Int
  | [] => if (a == b) = true then n else -1
  | p :: ps => if (a == b) = true then n else caI R (n + 1) (puV R a p) (puV R b p) ps
theorem caI_same {R : Reg} {n : Int} {a b : List Int} {ps : List (Int × Bool)} (h : (a == b) = true) : caI R n a b ps = n := by
  cases ps <;> unfold caI <;> rw [if_pos h]
theorem caI_nil {R : Reg} {n : Int} {a b : List Int} (h : (a == b) = false) : caI R n a b [] = -1 := by
  unfold caI; rw [if_neg (by rw [h]; decide)]
theorem caI_cons {R : Reg} {n : Int} {a b : List Int} {p : Int × Bool} {ps : List (Int × Bool)} (h : (a == b) = false) : caI R n a b (p :: ps) = caI R (n + 1) (puV R a p) (puV R b p) ps := by
  rw [caI, if_neg (by rw [h]; decide)]
theorem drop_at {ps : List (Int × Bool)} {k : Nat} {p : Int × Bool} (h : ps[k]? = some p) : ps.drop k = p :: ps.drop (k + 1) := by
  obtain ⟨hk, e⟩ := List.getElem?_eq_some_iff.1 h
  rw [List.drop_eq_getElem_cons hk, e]
noncomputable def caV (W T : Int) (bs : List Bool) (ps : List (Int × Bool)) : Int := if (pushesB W T bs ps && exB W T bs) = true then caI ⟨W.toNat, T.toNat, bs⟩ 0 (exV min W T bs) (exV max W T bs) ps else -1
theorem caV_no {W T : Int} {bs : List Bool} {ps : List (Int × Bool)} (h : (pushesB W T bs ps && exB W T bs) = false) : caV W T bs ps = -1 := by unfold caV; rw [if_neg (by rw [h]; decide)]
theorem caV_yes {R : Reg} {ps : List (Int × Bool)} (h : pushesB R.W R.T R.C ps = true) (g : exB R.W R.T R.C = true) : caV R.W R.T R.C ps = caI R 0 (exV min R.W R.T R.C) (exV max R.W R.T R.C) ps := by
  unfold caV; rw [h, g]; rfl

theorem pushReads2 {wr w' : World} {R : Reg} {M : List Int} {p : Int × Bool} {g c' : Nat} {e : Ending} (h : PushRet wr (some ⟨g, 0, none⟩) R.C.length c' (puB R M p) (flV R M p.1) e w') (hl1 : 0 < R.C.length) (hM : M.length = R.C.length)
    (ho : Reads wr wr.heap.size 1 (some ⟨g, 0, none⟩) R.C.length (M.map (Value.int .i64))) :
    ∃ g2 c2', e = .returned (.slice (some ⟨g2, 0, none⟩) R.C.length c2') ∧ Reads w' w'.heap.size 1 (some ⟨g2, 0, none⟩) R.C.length ((puV R M p).map (Value.int .i64)) ∧ Below wr.heap.size wr w' := by
  rcases h with ⟨hb, A, c2, c2', rfl, h1, h2⟩ | ⟨hb, rfl, h2⟩
  · rw [puV_yes hb]
    have hl : (flV R M p.1).length = R.C.length := by rw [flV_len]; exact hM
    rw [hl] at h1 ⊢
    obtain ⟨g2, cg, hsh, _, _, _⟩ := own_shape h1 hl1
    simp only [Value.slice.injEq, true_and] at hsh
    obtain ⟨rfl, rfl⟩ := hsh
    exact ⟨g2, c2', rfl, Reads.of_own h1, h2⟩
  · rw [puV_no hb]
    exact ⟨g, c', rfl, (ho.below h2).more h2.size, h2⟩

/-- Two rows, and the region's box. -/
structure D2 (w wr : World) (R : Reg) (A : Option Addr) (c g h : Nat) (M H : List Int) : Prop where
  bel : Below w.heap.size w wr
  box : Blk wr w.heap.size 29 #[.int .i64 R.W, .int .i64 R.T, .slice A R.C.length c]
  lo : Reads wr wr.heap.size 1 (some ⟨g, 0, none⟩) R.C.length (M.map (Value.int .i64))
  hi : Reads wr wr.heap.size 1 (some ⟨h, 0, none⟩) R.C.length (H.map (Value.int .i64))
  tl : Tile R M
  th : Tile R H
theorem D2.below {w wr w2 : World} {R : Reg} {A : Option Addr} {c g h : Nat} {M H : List Int} (D : D2 w wr R A c g h M H) (hb : Below wr.heap.size wr w2) : D2 w w2 R A c g h M H :=
  ⟨D.bel.trans (hb.mono D.bel.size), D.box.below hb D.box.lt, (D.lo.below hb).more hb.size, (D.hi.below hb).more hb.size, D.tl, D.th⟩

set_option maxHeartbeats 4000000 in
set_option maxRecDepth 20000 in
theorem coupledAtI_yes (R : Reg) (hR : R.ok) (hS : SimpleP R) (hs : simpleB R.W R.T R.C = true) (hne : tilT R ≠ []) (A : Option Addr) (c B : Nat) (P : Option Addr) (m pd E : Nat) (ps : List (Int × Bool)) (hv : pushesB R.W R.T R.C ps = true) (w : World)
    (hr : Reads w B 1 A R.C.length (R.C.map Value.bool)) (hB : B ≤ w.heap.size) (hm : ps.length = m) (hp : Reads w E 2 P m (pc ps)) (hE : E ≤ w.heap.size) (hmm : m ≤ 9223372036854775807) :
    Calls Tryz.prog 14 #[.agg #[.int .i64 R.W, .int .i64 R.T, .slice A R.C.length c], .slice P m pd] w fun e w' => e = .returned (.int .i64 (caI R 0 (exV min R.W R.T R.C) (exV max R.W R.T R.C) ps)) ∧ Below w.heap.size w w' := by
  have hl36 := (len_bd hR).2
  have hl1 := (len_bd hR).1
  have hk9 : ∀ p ∈ ps, p.1 ≤ 9223372036854775807 := fun p hp' => by have := pushes_bd hv p hp'; omega
  have hex := (exV_yes (f := min) hs hne).2
  have hTl := tile_exV keeps_min hR hS hs hne
  have hTh := tile_exV keeps_max hR hS hs hne
  have hLO := fun w' (h : Below w.heap.size w w') => hide (lowestI_any R.W R.T A R.C.length c B R.C w' rfl (hr.below (h.mono hB)) (Nat.le_trans hB h.size) (by omega))
  have hHI := fun w' (h : Below w.heap.size w w') => hide (highestI_any R.W R.T A R.C.length c B R.C w' rfl (hr.below (h.mono hB)) (Nat.le_trans hB h.size) (by omega))
  simp only [hex] at hLO hHI
  have hPV := fun w' (h : Below w.heap.size w w') => hide (PushesValidI_any R.W R.T A R.C.length c B R.C P m pd E ps w' rfl (hr.below (h.mono hB)) (Nat.le_trans hB h.size) (by omega) hm (hp.below (h.mono hE)) (Nat.le_trans hE h.size) hmm)
  simp only [hv] at hPV
  have hPU : ∀ (M : List Int) (p : Int × Bool) (w' : World) (g e1 : Nat), p ∈ ps → Tile R M → Below w.heap.size w w' → Reads w' w'.heap.size 1 (some ⟨g, 0, none⟩) R.C.length (M.map (Value.int .i64)) → Hid (Calls Tryz.prog 31 #[.agg #[.int .i64 R.W, .int .i64 R.T, .slice A R.C.length c], .slice (some ⟨g, 0, none⟩) R.C.length e1, .agg #[.int .i64 p.1, .bool p.2]] w' fun e w'' => ∃ g2 d2, e = .returned (.slice (some ⟨g2, 0, none⟩) R.C.length d2) ∧ Reads w'' w''.heap.size 1 (some ⟨g2, 0, none⟩) R.C.length ((puV R M p).map (Value.int .i64)) ∧ Below w'.heap.size w' w'') :=
    fun M p w' g e1 hkp hM h ha => hide ((push_any R hR hS A c w'.heap.size M (some ⟨g, 0, none⟩) e1 p (hk9 p hkp) (.inr ⟨_, _, rfl⟩) hM w' ((hr.below (h.mono hB)).more (Nat.le_trans hB h.size)) ha (Nat.le_refl _)).mono fun e w'' hret => pushReads2 hret hl1 hM.1.len ha)
  have hEQ : ∀ (M H : List Int) (g d g' d' : Nat) w', Tile R M → Tile R H → Reads w' w'.heap.size 1 (some ⟨g, 0, none⟩) R.C.length (M.map (Value.int .i64)) → Reads w' w'.heap.size 1 (some ⟨g', 0, none⟩) R.C.length (H.map (Value.int .i64)) → Hid (Calls Tryz.prog 30 #[.slice (some ⟨g, 0, none⟩) R.C.length d, .slice (some ⟨g', 0, none⟩) R.C.length d'] w' fun e w'' => e = .returned (.bool (M == H)) ∧ Below w'.heap.size w' w'') := fun M H g d g' d' w' hM hH h1 h2 => by
    have e1 := hM.1.len
    have e2 := hH.1.len
    have := equal_any g g' d d' w'.heap.size w'.heap.size _ _ w' (by rw [e1]; exact h1) (by rw [e2]; exact h2) (by rw [e1]; omega) (by rw [e2]; omega)
    rw [e1, e2] at this
    exact hide this
  have HTP := Lib.hid (fun M p (h : Tile R M) => tile_puV hR h p)
  have HLL := Lib.hid hTl.1.len
  have HLH := Lib.hid hTh.1.len
  obtain ⟨V, hV⟩ : ∃ V, V = caI R 0 (exV min R.W R.T R.C) (exV max R.W R.T R.C) ps := ⟨_, rfl⟩
  rw [← hV]
  have HV := Lib.hid hV.symm
  have HM := Lib.hid hm
  generalize exV min R.W R.T R.C = LO at *
  generalize exV max R.W R.T R.C = HI at *
  have hb0 : Below w.heap.size w (w.alloc (boxR R.W R.T A R.C.length c)) := (Below.refl _ _).alloc (Nat.le_refl _) _
  have k0 : Blk (w.alloc (boxR R.W R.T A R.C.length c)) w.heap.size 29 #[.int .i64 R.W, .int .i64 R.T, .slice A R.C.length c] := Blk.new _ _ _
  clear hr hk9 hm hs hne hex hv hV hS
  go_enter Tryz.func14, Tryz.ntmps14
  go_wp2_with fail
  refine (unhide (hPV _ hb0)).mono ?_
  rintro e w00 ⟨rfl, hb00⟩
  have hB0 := hb0.trans (hb00.mono hb0.size)
  have k00 := k0.below hb00 k0.lt
  obtain ⟨b0, b1, b2⟩ := blk3 k00
  clear hb00 hPV k0 hb0
  go_wp2_with fail
  refine (unhide (hLO _ hB0)).mono ?_
  rintro e w1 ⟨A1, c1, c1', rfl, ho1, hb1⟩
  rw [HLL.out] at ho1 ⊢
  obtain ⟨gl, cgl, hsh, _, _, _⟩ := own_shape ho1 hl1
  simp only [Value.slice.injEq, true_and] at hsh
  obtain ⟨rfl, rfl⟩ := hsh
  have hB1 := hB0.trans (hb1.mono hB0.size)
  have k1 := k00.below hb1 k00.lt
  have hl1' := Reads.of_own ho1
  clear b0 b1 b2 k00 hB0 hb1 hLO ho1
  obtain ⟨b0, b1, b2⟩ := blk3 k1
  go_wp2_with fail
  refine (unhide (hHI _ hB1)).mono ?_
  rintro e w2 ⟨A2, c2, c2', rfl, ho2, hb2⟩
  rw [HLH.out] at ho2 ⊢
  obtain ⟨gh, cgh, hsh, _, _, _⟩ := own_shape ho2 hl1
  simp only [Value.slice.injEq, true_and] at hsh
  obtain ⟨rfl, rfl⟩ := hsh
  have hW1 : D2 w w2 R A c gl gh LO HI := ⟨hB1.trans (hb2.mono hB1.size), k1.below hb2 k1.lt, (hl1'.below hb2).more hb2.size, Reads.of_own ho2, hTl, hTh⟩
  clear b0 b1 b2 k1 hB1 hb2 hHI ho2 hl1' hTl hTh
  go_wp2_with fail
  go_loopg [5, 7, 9] m (fun r s3 s5 s7 wr => ∃ (k g h d e : Nat) (M H : List Int), k + r = m ∧ s7 = .int .i64 (k : Nat) ∧ s3 = .slice (some ⟨g, 0, none⟩) R.C.length d ∧ s5 = .slice (some ⟨h, 0, none⟩) R.C.length e ∧ D2 w wr R A c g h M H ∧ caI R (k : Int) M H (ps.drop k) = V)
  case atStart => exact ⟨0, _, _, _, _, _, _, by omega, rfl, rfl, rfl, hW1, by simpa using HV.out⟩
  case round =>
    clear hW1
    obtain ⟨k, g, h, d, d2, M, H, hk, rfl, rfl, rfl, hD, hc⟩ := hrel
    have HK := Lib.hid hk
    have HC := Lib.hid hc
    clear hk hc HV
    have hEq := hEQ M H g d h d2 wr hD.tl hD.th hD.lo hD.hi
    cases hmh : (M == H) with
    | true =>
      rw [hmh] at hEq
      have hres : V = (k : Int) := by rw [← HC.out, caI_same hmh]
      have HR := Lib.hid hres
      clear hmh hres hEQ hPU
      go_wp2_with fail
      refine (unhide hEq).mono ?_
      rintro e w3 ⟨rfl, hb3⟩
      have hB3 := hD.bel.trans (hb3.mono hD.bel.size)
      go_wp2_with fail
      go_ret
      exact ⟨by rw [HR.out]; rfl, hB3⟩
    | false =>
      rw [hmh] at hEq
      by_cases hkm : k = m
      · have hres : V = -1 := by rw [← HC.out, List.drop_eq_nil_of_le (by rw [HM.out]; omega), caI_nil hmh]
        have HR := Lib.hid hres
        have hkd : ((k : Int) == (m : Int)) = true := by simp [hkm]
        clear hmh hres hEQ hPU hkm
        go_wp2_with fail
        refine (unhide hEq).mono ?_
        rintro e w3 ⟨rfl, hb3⟩
        have hB3 := hD.bel.trans (hb3.mono hD.bel.size)
        go_wp2_with fail
        go_ret
        exact ⟨by rw [HR.out]; rfl, hB3⟩
      · have hlt : k < m := by have := HK.out; omega
        have hkd : ((k : Int) == (m : Int)) = false := by simp; omega
        clear hkm
        go_wp2_with fail
        refine (unhide hEq).mono ?_
        rintro e w3 ⟨rfl, hb3⟩
        have hD3 := hD.below hb3
        clear hD hb3 hEq hEQ
        obtain ⟨ad, p, rfl, hab, hpk, hcell, hcell2⟩ := (hp.below (hD3.bel.mono hE)).push HM.out hlt
        have hmem := List.mem_of_getElem? hpk
        have hnext : caI R ((k : Int) + 1) (puV R M p) (puV R H p) (ps.drop (k + 1)) = V := by rw [← HC.out, drop_at hpk, caI_cons hmh]
        have HN := Lib.hid hnext
        have htl2 := Lib.hid (HTP.out M p hD3.tl)
        have hth2 := Lib.hid (HTP.out H p hD3.th)
        obtain ⟨b0, b1, b2⟩ := blk3 hD3.box
        have hDd := D2.below hD3 (Below.refl w3.heap.size w3).drew
        have hP1 := hPU M p w3.drew g d hmem hD3.tl hDd.bel hDd.lo
        have hP2 := fun w4 (hb4 : Below w3.drew.heap.size w3.drew w4) => hPU H p w4 h d2 hmem hD3.th (hDd.bel.trans (hb4.mono hDd.bel.size)) ((hDd.hi.below hb4).more hb4.size)
        clear hPU hmem hnext hpk hmh
        go_upto_region 13 with fail
        go_region_held3 (fun w' => w'.cell? ⟨w.heap.size, 0, none⟩ = some (.int .i64 R.W) ∧ w'.cell? ⟨w.heap.size, 1, none⟩ = some (.int .i64 R.T) ∧ w'.cell? ⟨w.heap.size, 2, none⟩ = some (.slice A R.C.length c) ∧ w'.cell? (ad.add (k * 2)) = some (.int .i64 p.1) ∧ w'.cell? ⟨(ad.add (k * 2)).block, (ad.add (k * 2)).off + 1, none⟩ = some (.bool p.2))
          (first
            | exact ⟨b0, b1, b2, hcell, hcell2⟩
            | exact ⟨cell_kept (w := w3.drew) b0 hb4, cell_kept (w := w3.drew) b1 hb4, cell_kept (w := w3.drew) b2 hb4, cell_kept (w := w3.drew) hcell hb4, cell_kept (w := w3.drew) hcell2 hb4⟩
            | exact ⟨cell_kept (cell_kept (w := w3.drew) b0 hb4) hb5, cell_kept (cell_kept (w := w3.drew) b1 hb4) hb5, cell_kept (cell_kept (w := w3.drew) b2 hb4) hb5, cell_kept (cell_kept (w := w3.drew) hcell hb4) hb5, cell_kept (cell_kept (w := w3.drew) hcell2 hb4) hb5⟩)
          (first
            | (go_at_call 31; (with_reducible refine (unhide hP1).mono ?_); rintro e w4 ⟨g4, d4, rfl, hr4, hb4⟩)
            | (go_at_call 31; (with_reducible refine (unhide (hP2 w4 hb4)).mono ?_); rintro e w5 ⟨g5, d5, rfl, hr5, hb5⟩))
        all_goals
          have hB4 := hDd.bel.trans (hb4.mono hDd.bel.size)
          have hD5 : D2 w w5 R A c g4 g5 (puV R M p) (puV R H p) := ⟨hB4.trans (hb5.mono hB4.size), (hDd.box.below hb4 hDd.box.lt).below hb5 (hDd.box.below hb4 hDd.box.lt).lt, (hr4.below hb5).more hb5.size, hr5, htl2.out, hth2.out⟩
          clear b0 b1 b2 hcell hcell2 hDd hD3 hP1 hP2 hr4 hr5 hb4 hb5 hB4
          go_simp
          go_wp2_with fail
          go_roundg (m - (k + 1))
          case measure => have := HK.out; omega
          case rel => exact ⟨k + 1, _, _, _, _, _, _, by have := HK.out; omega, by go_num, rfl, rfl, hD5, by have := HN.out; simpa using this⟩

set_option maxHeartbeats 1000000 in
theorem coupledAtI_any (W T : Int) (A : Option Addr) (n c B : Nat) (bs : List Bool) (P : Option Addr) (m pd E : Nat) (ps : List (Int × Bool)) (w : World) (hbl : bs.length = n)
    (hr : Reads w B 1 A n (bs.map Value.bool)) (hB : B ≤ w.heap.size) (hn : n ≤ 9223372036854775807) (hm : ps.length = m) (hp : Reads w E 2 P m (pc ps)) (hE : E ≤ w.heap.size) (hmm : m ≤ 9223372036854775807) :
    Calls Tryz.prog 14 #[.agg #[.int .i64 W, .int .i64 T, .slice A n c], .slice P m pd] w fun e w' => e = .returned (.int .i64 (caV W T bs ps)) ∧ Below w.heap.size w w' := by
  have hb0 : Below w.heap.size w (w.alloc (boxR W T A n c)) := (Below.refl _ _).alloc (Nat.le_refl _) _
  have k0 : Blk (w.alloc (boxR W T A n c)) w.heap.size 29 #[.int .i64 W, .int .i64 T, .slice A n c] := Blk.new _ _ _
  have hLO := fun w' (h : Below w.heap.size w w') => hide (lowestI_any W T A n c B bs w' hbl (hr.below (h.mono hB)) (Nat.le_trans hB h.size) hn)
  have hHI := fun w' (h : Below w.heap.size w w') => hide (highestI_any W T A n c B bs w' hbl (hr.below (h.mono hB)) (Nat.le_trans hB h.size) hn)
  have hPV := hide (PushesValidI_any W T A n c B bs P m pd E ps _ hbl (hr.below (hb0.mono hB)) (Nat.le_trans hB hb0.size) hn hm (hp.below (hb0.mono hE)) (Nat.le_trans hE hb0.size) hmm)
  cases hv : pushesB W T bs ps with
  | false =>
    rw [caV_no (by rw [hv]; rfl)]
    rw [hv] at hPV
    clear hv hr hp hm k0 hLO hHI
    go_enter Tryz.func14, Tryz.ntmps14
    go_wp2_with fail
    refine (unhide hPV).mono ?_
    rintro e w1 ⟨rfl, hb1⟩
    go_wp2_with fail
    go_ret
    exact ⟨rfl, hb0.trans (hb1.mono hb0.size)⟩
  | true =>
    cases hex : exB W T bs with
    | true =>
      obtain ⟨R, hR, rfl, rfl, rfl, hS, hs, hne⟩ := exB_cases hex
      subst hbl
      rw [caV_yes hv hex]
      exact coupledAtI_yes R hR hS hs hne A c B P m pd E ps hv w hr hB hm hp hE hmm
    | false =>
      rw [caV_no (by rw [hex, Bool.and_false])]
      rw [hv] at hPV
      simp only [hex] at hLO hHI
      clear hex hr hp hm hv
      generalize exV min W T bs = X at *
      generalize exV max W T bs = Y at *
      go_enter Tryz.func14, Tryz.ntmps14
      go_wp2_with fail
      refine (unhide hPV).mono ?_
      rintro e w00 ⟨rfl, hb00⟩
      have hB0 := hb0.trans (hb00.mono hb0.size)
      have k00 := k0.below hb00 k0.lt
      obtain ⟨b0, b1, b2⟩ := blk3 k00
      clear hb00 hPV k0 hb0
      go_wp2_with fail
      refine (unhide (hLO _ hB0)).mono ?_
      rintro e w1 ⟨A1, c1, c1', rfl, ho1, hb1⟩
      have hB1 := hB0.trans (hb1.mono hB0.size)
      have k1 := k00.below hb1 k00.lt
      clear b0 b1 b2 k00 hB0 hb1 hLO ho1
      obtain ⟨b0, b1, b2⟩ := blk3 k1
      go_wp2_with fail
      refine (unhide (hHI _ hB1)).mono ?_
      rintro e w2 ⟨A2, c2, c2', rfl, ho2, hb2⟩
      have hB2 := hB1.trans (hb2.mono hB1.size)
      clear b0 b1 b2 k1 hB1 hb2 hHI ho2
      go_wp2_with fail
      go_ret
      exact ⟨rfl, hB2⟩

end Go.Proofs.YthmmbejilceoaaaGreat
