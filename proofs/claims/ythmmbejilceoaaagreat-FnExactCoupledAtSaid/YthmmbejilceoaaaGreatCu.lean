/-
  YthmmbejilceoaaaGreatCu: CoupledAt of the reference.
-/
import Derived.Test.YthmmbejilceoaaaGreatCt
namespace Go.Proofs.YthmmbejilceoaaaGreat
open Go.RowKit

set_option maxHeartbeats 4000000 in
set_option maxRecDepth 20000 in
theorem coupledAtS_yes (R : Reg) (hR : R.ok) (hS : SimpleP R) (hs : simpleB R.W R.T R.C = true) (hne : tilT R ≠ []) (A : Option Addr) (c B : Nat) (P : Option Addr) (m pd E : Nat) (ps : List (Int × Bool)) (hv : pushesB R.W R.T R.C ps = true) (w : World)
    (hr : Reads w B 1 A R.C.length (R.C.map Value.bool)) (hB : B ≤ w.heap.size) (hm : ps.length = m) (hp : Reads w E 2 P m (pc ps)) (hE : E ≤ w.heap.size) (hmm : m ≤ 1048576) :
    Calls Tryz.prog 13 #[.agg #[.int .i64 R.W, .int .i64 R.T, .slice A R.C.length c], .slice P m pd] w fun e w' => e = .returned (.int .i64 (caI R 0 (exV min R.W R.T R.C) (exV max R.W R.T R.C) ps)) ∧ Below w.heap.size w w' := by
  have hl36 := (len_bd hR).2
  have hl1 := (len_bd hR).1
  have hex := (exV_yes (f := min) hs hne).2
  have hTl := tile_exV keeps_min hR hS hs hne
  have hTh := tile_exV keeps_max hR hS hs hne
  have hLO := fun w' (h : Below w.heap.size w w') => hide (lowestS_any R.W R.T A R.C.length c B R.C w' rfl (hr.below (h.mono hB)) (Nat.le_trans hB h.size) (by omega))
  have hHI := fun w' (h : Below w.heap.size w w') => hide (highestS_any R.W R.T A R.C.length c B R.C w' rfl (hr.below (h.mono hB)) (Nat.le_trans hB h.size) (by omega))
  simp only [hex] at hLO hHI
  have hPV := fun w' (h : Below w.heap.size w w') => hide (PushesValidS_any R.W R.T A R.C.length c B R.C P m pd E ps w' rfl (hr.below (h.mono hB)) (Nat.le_trans hB h.size) (by omega) hm (hp.below (h.mono hE)) (Nat.le_trans hE h.size) (by omega))
  simp only [hv] at hPV
  have hPU : ∀ (M : List Int) (k : Nat) (p : Int × Bool) (w' : World) (g e1 : Nat), ps[k]? = some p → Tile R M → Below w.heap.size w w' → Reads w' w'.heap.size 1 (some ⟨g, 0, none⟩) R.C.length (M.map (Value.int .i64)) → Hid (Calls Tryz.prog 27 #[.agg #[.int .i64 R.W, .int .i64 R.T, .slice A R.C.length c], .slice (some ⟨g, 0, none⟩) R.C.length e1, .agg #[.int .i64 p.1, .bool p.2]] w' fun e w'' => ∃ g2 d2, e = .returned (.slice (some ⟨g2, 0, none⟩) R.C.length d2) ∧ Reads w'' w''.heap.size 1 (some ⟨g2, 0, none⟩) R.C.length ((puV R M p).map (Value.int .i64)) ∧ Below w'.heap.size w' w'') :=
    fun M k p w' g e1 hkp hM h ha => by
      have := pushOneS_any R.W R.T A R.C.length c w'.heap.size R.C M (some ⟨g, 0, none⟩) R.C.length e1 p.1 p.2 w' rfl hM.1.len ((hr.below (h.mono hB)).more (Nat.le_trans hB h.size)) ha (Nat.le_refl _) (by omega) (by omega)
      rw [prV_one (p := p) ((tiled_ok hR).2 ⟨hS, hM.1, hM.2⟩) (pushes_one hv hkp)] at this
      refine hide (this.mono ?_)
      rintro e w'' ⟨A2, c2, c2', rfl, ho, hb⟩
      rw [(tile_puV hR hM p).1.len] at ho ⊢
      obtain ⟨g2, cg, hsh, _, _, _⟩ := own_shape ho hl1
      simp only [Value.slice.injEq, true_and] at hsh
      obtain ⟨rfl, rfl⟩ := hsh
      exact ⟨g2, c2', rfl, Reads.of_own ho, hb⟩
  have hSA : ∀ (M H : List Int) (g d g' d' : Nat) w', Tile R M → Tile R H → Reads w' w'.heap.size 1 (some ⟨g, 0, none⟩) R.C.length (M.map (Value.int .i64)) → Reads w' w'.heap.size 1 (some ⟨g', 0, none⟩) R.C.length (H.map (Value.int .i64)) → Hid (Calls Tryz.prog 19 #[.slice (some ⟨g, 0, none⟩) R.C.length d, .slice (some ⟨g', 0, none⟩) R.C.length d'] w' fun e w'' => e = .returned (.bool (M == H)) ∧ Below w'.heap.size w' w'') := fun M H g d g' d' w' hM hH h1 h2 =>
    hide (sameS_any M H (some ⟨g, 0, none⟩) (some ⟨g', 0, none⟩) R.C.length d R.C.length d' w'.heap.size w' hM.1.len hH.1.len h1 h2 (by omega) (by omega))
  have HTP := Lib.hid (fun M p (h : Tile R M) => tile_puV hR h p)
  have HLL := Lib.hid hTl.1.len
  have HLH := Lib.hid hTh.1.len
  obtain ⟨V, hV⟩ : ∃ V, V = caI R 0 (exV min R.W R.T R.C) (exV max R.W R.T R.C) ps := ⟨_, rfl⟩
  rw [← hV]
  have HV := Lib.hid hV.symm
  have HM := Lib.hid hm
  generalize exV min R.W R.T R.C = LO at *
  generalize exV max R.W R.T R.C = HI at *
  have hb0 : Below w.heap.size w (w.alloc (boxR R.W R.T A R.C.length c)) := (Below.refl _ _).alloc (Nat.le_refl _) _
  have k0 : Blk (w.alloc (boxR R.W R.T A R.C.length c)) w.heap.size 29 #[.int .i64 R.W, .int .i64 R.T, .slice A R.C.length c] := Blk.new _ _ _
  clear hr hm hs hne hex hv hV hS
  go_enter Tryz.func13, Tryz.ntmps13
  go_wp2_with fail
  refine (unhide (hLO _ hb0)).mono ?_
  rintro e w1 ⟨A1, c1, c1', rfl, ho1, hb1⟩
  rw [HLL.out] at ho1 ⊢
  obtain ⟨gl, cgl, hsh, _, _, _⟩ := own_shape ho1 hl1
  simp only [Value.slice.injEq, true_and] at hsh
  obtain ⟨rfl, rfl⟩ := hsh
  have hB1 := hb0.trans (hb1.mono hb0.size)
  have k1 := k0.below hb1 k0.lt
  have hl1' := Reads.of_own ho1
  obtain ⟨b0, b1, b2⟩ := blk3 k1
  clear k0 hb0 hb1 hLO ho1
  go_wp2_with fail
  refine (unhide (hHI _ hB1)).mono ?_
  rintro e w2 ⟨A2, c2, c2', rfl, ho2, hb2⟩
  rw [HLH.out] at ho2 ⊢
  obtain ⟨gh, cgh, hsh, _, _, _⟩ := own_shape ho2 hl1
  simp only [Value.slice.injEq, true_and] at hsh
  obtain ⟨rfl, rfl⟩ := hsh
  have hB2 := hB1.trans (hb2.mono hB1.size)
  have k2 := k1.below hb2 k1.lt
  have hlo2 := (hl1'.below hb2).more hb2.size
  have hhi2 := Reads.of_own ho2
  clear b0 b1 b2 k1 hB1 hb2 hHI ho2 hl1'
  obtain ⟨b0, b1, b2⟩ := blk3 k2
  go_wp2_with fail
  refine (unhide (hPV _ hB2)).mono ?_
  rintro e w22 ⟨rfl, hb22⟩
  have hB22 := hB2.trans (hb22.mono hB2.size)
  have k22 := k2.below hb22 k2.lt
  have hlo3 := (hlo2.below hb22).more hb22.size
  have hhi3 := (hhi2.below hb22).more hb22.size
  clear b0 b1 b2 k2 hB2 hb22 hPV hlo2 hhi2
  have hW1 : D2 w w22 R A c gl gh LO HI := ⟨hB22, k22, hlo3, hhi3, hTl, hTh⟩
  clear k22 hlo3 hhi3 hTl hTh hB22
  go_wp2_with fail
  go_loopg [5, 7, 9] (m + 1) (fun r s3 s5 s7 wr => ∃ (k g h d e : Nat) (M H : List Int), k + r = m + 1 ∧ s7 = .int .i64 (k : Nat) ∧ s3 = .slice (some ⟨g, 0, none⟩) R.C.length d ∧ s5 = .slice (some ⟨h, 0, none⟩) R.C.length e ∧ D2 w wr R A c g h M H ∧ (k ≤ m → caI R (k : Int) M H (ps.drop k) = V) ∧ (k = m + 1 → V = -1))
  case atStart => exact ⟨0, _, _, _, _, _, _, by omega, rfl, rfl, rfl, hW1, fun _ => by simpa using HV.out, fun h => by omega⟩
  case round =>
    clear hW1
    obtain ⟨k, g, h, d, d2, M, H, hk, rfl, rfl, rfl, hD, hc, hc2⟩ := hrel
    have HK := Lib.hid hk
    have HC := Lib.hid hc
    have HC2 := Lib.hid hc2
    clear hk hc hc2 HV
    by_cases hkm1 : k = m + 1
    · have HR := Lib.hid (HC2.out hkm1)
      have hgt : m < k := by omega
      clear hkm1 hSA hPU
      go_wp2_with fail
      go_ret
      exact ⟨by rw [HR.out]; rfl, hD.bel⟩
    · have hSm := hSA M H g d h d2 wr hD.tl hD.th hD.lo hD.hi
      have hkm : k ≤ m := by have := HK.out; omega
      cases hmh : (M == H) with
      | true =>
        rw [hmh] at hSm
        have hres : V = (k : Int) := by rw [← HC.out hkm, caI_same hmh]
        have HR := Lib.hid hres
        clear hmh hres hSA hPU hkm1
        go_wp2_with fail
        refine (unhide hSm).mono ?_
        rintro e w3 ⟨rfl, hb3⟩
        have hB3 := hD.bel.trans (hb3.mono hD.bel.size)
        go_wp2_with fail
        go_ret
        exact ⟨by rw [HR.out]; rfl, hB3⟩
      | false =>
        rw [hmh] at hSm
        by_cases hke : k = m
        · have hres : V = -1 := by rw [← HC.out hkm, List.drop_eq_nil_of_le (by rw [HM.out]; omega), caI_nil hmh]
          have HR := Lib.hid hres
          have hge : m ≤ k := by omega
          clear hmh hres hSA hPU hkm1 hke
          go_wp2_with fail
          refine (unhide hSm).mono ?_
          rintro e w3 ⟨rfl, hb3⟩
          have hD3 := hD.below hb3
          go_wp2_with fail
          go_roundg (m + 1 - (k + 1))
          case measure => have := HK.out; omega
          case rel => exact ⟨k + 1, _, _, _, _, _, _, by have := HK.out; omega, by go_num, rfl, rfl, hD3, fun h => by have := HK.out; omega, fun _ => HR.out⟩
        · have hlt : k < m := by have := HK.out; omega
          clear hkm1 hke
          go_wp2_with fail
          refine (unhide hSm).mono ?_
          rintro e w3 ⟨rfl, hb3⟩
          have hD3 := hD.below hb3
          clear hD hb3 hSm hSA
          obtain ⟨ad, p, rfl, hab, hpk, hcell, hcell2⟩ := (hp.below (hD3.bel.mono hE)).push HM.out hlt
          have hnext : caI R ((k : Int) + 1) (puV R M p) (puV R H p) (ps.drop (k + 1)) = V := by rw [← HC.out hkm, drop_at hpk, caI_cons hmh]
          have HN := Lib.hid hnext
          have htl2 := Lib.hid (HTP.out M p hD3.tl)
          have hth2 := Lib.hid (HTP.out H p hD3.th)
          obtain ⟨b0, b1, b2⟩ := blk3 hD3.box
          have hDd := D2.below hD3 (Below.refl w3.heap.size w3).drew
          have hP1 := hPU M k p w3.drew g d hpk hD3.tl hDd.bel hDd.lo
          have hP2 := fun w4 (hb4 : Below w.heap.size w w4) (hh : Reads w4 w4.heap.size 1 (some ⟨h, 0, none⟩) R.C.length (H.map (Value.int .i64))) => hPU H k p w4 h d2 hpk hD3.th hb4 hh
          have hp3 := hp.below (hD3.bel.mono hE)
          have hpm := HM.out
          clear hPU hnext hpk hmh
          go_upto_region 11 with fail
          go_region_with
            (first
              | (go_at_call 27; (with_reducible refine (unhide hP1).mono ?_); rintro e w4 ⟨g4, d4, rfl, hr4, hb4⟩))
          all_goals
            have hD4 : D2 w w4 R A c g4 h (puV R M p) H := ⟨hDd.bel.trans (hb4.mono hDd.bel.size), hDd.box.below hb4 hDd.box.lt, hr4, (hDd.hi.below hb4).more hb4.size, htl2.out, hD3.th⟩
            have hc4 := cell_kept (w := w3.drew) hcell hb4
            have hc5 := cell_kept (w := w3.drew) hcell2 hb4
            clear hD3 hDd b0 b1 b2 hcell hcell2 hP1 hb4 hr4
            obtain ⟨b0, b1, b2⟩ := blk3 hD4.box
            have hDd := D2.below hD4 (Below.refl w4.heap.size w4).drew
            have hP3 := hP2 _ hDd.bel hDd.hi
            clear hP2 hp3 hpm
            go_simp
            go_upto_region 12 with fail
            go_region_with
              (first
                | (go_at_call 27; (with_reducible refine (unhide hP3).mono ?_); rintro e w5 ⟨g5, d5, rfl, hr5, hb5⟩))
            all_goals
              have hD5 : D2 w w5 R A c g4 g5 (puV R M p) (puV R H p) := ⟨hDd.bel.trans (hb5.mono hDd.bel.size), hDd.box.below hb5 hDd.box.lt, (hDd.lo.below hb5).more hb5.size, hr5, htl2.out, hth2.out⟩
              clear hD4 hDd b0 b1 b2 hc4 hc5 hP3 hb5 hr5
              go_simp
              go_wp2_with fail
              go_roundg (m + 1 - (k + 1))
              case measure => have := HK.out; omega
              case rel => exact ⟨k + 1, _, _, _, _, _, _, by have := HK.out; omega, by go_num, rfl, rfl, hD5, fun _ => by have := HN.out; simpa using this, fun h => by omega⟩

set_option maxHeartbeats 1000000 in
theorem coupledAtS_any (W T : Int) (A : Option Addr) (n c B : Nat) (bs : List Bool) (P : Option Addr) (m pd E : Nat) (ps : List (Int × Bool)) (w : World) (hbl : bs.length = n)
    (hr : Reads w B 1 A n (bs.map Value.bool)) (hB : B ≤ w.heap.size) (hn : n ≤ 9223372036854775807) (hm : ps.length = m) (hp : Reads w E 2 P m (pc ps)) (hE : E ≤ w.heap.size) (hmm : m ≤ 1048576) :
    Calls Tryz.prog 13 #[.agg #[.int .i64 W, .int .i64 T, .slice A n c], .slice P m pd] w fun e w' => e = .returned (.int .i64 (caV W T bs ps)) ∧ Below w.heap.size w w' := by
  have hb0 : Below w.heap.size w (w.alloc (boxR W T A n c)) := (Below.refl _ _).alloc (Nat.le_refl _) _
  have k0 : Blk (w.alloc (boxR W T A n c)) w.heap.size 29 #[.int .i64 W, .int .i64 T, .slice A n c] := Blk.new _ _ _
  have hLO := fun w' (h : Below w.heap.size w w') => hide (lowestS_any W T A n c B bs w' hbl (hr.below (h.mono hB)) (Nat.le_trans hB h.size) hn)
  have hHI := fun w' (h : Below w.heap.size w w') => hide (highestS_any W T A n c B bs w' hbl (hr.below (h.mono hB)) (Nat.le_trans hB h.size) hn)
  have hPV := fun w' (h : Below w.heap.size w w') => hide (PushesValidS_any W T A n c B bs P m pd E ps w' hbl (hr.below (h.mono hB)) (Nat.le_trans hB h.size) hn hm (hp.below (h.mono hE)) (Nat.le_trans hE h.size) (by omega))
  cases hex : exB W T bs with
  | false =>
    rw [caV_no (by rw [hex, Bool.and_false])]
    simp only [hex] at hLO hHI
    clear hex hr hp hm hPV
    generalize exV min W T bs = X at *
    generalize exV max W T bs = Y at *
    go_enter Tryz.func13, Tryz.ntmps13
    go_wp2_with fail
    refine (unhide (hLO _ hb0)).mono ?_
    rintro e w1 ⟨A1, c1, c1', rfl, ho1, hb1⟩
    have hB1 := hb0.trans (hb1.mono hb0.size)
    obtain ⟨b0, b1, b2⟩ := blk3 (k0.below hb1 k0.lt)
    clear k0 hb0 hb1 hLO ho1
    go_wp2_with fail
    refine (unhide (hHI _ hB1)).mono ?_
    rintro e w2 ⟨A2, c2, c2', rfl, ho2, hb2⟩
    go_wp2_with fail
    go_ret
    exact ⟨rfl, hB1.trans (hb2.mono hB1.size)⟩
  | true =>
    cases hv : pushesB W T bs ps with
    | true =>
      obtain ⟨R, hR, rfl, rfl, rfl, hS, hs, hne⟩ := exB_cases hex
      subst hbl
      rw [caV_yes hv hex]
      exact coupledAtS_yes R hR hS hs hne A c B P m pd E ps hv w hr hB hm hp hE hmm
    | false =>
      rw [caV_no (by rw [hv]; rfl)]
      simp only [hex] at hLO hHI
      simp only [hv] at hPV
      clear hex hr hp hm hv
      generalize exV min W T bs = X at *
      generalize exV max W T bs = Y at *
      go_enter Tryz.func13, Tryz.ntmps13
      go_wp2_with fail
      refine (unhide (hLO _ hb0)).mono ?_
      rintro e w1 ⟨A1, c1, c1', rfl, ho1, hb1⟩
      have hB1 := hb0.trans (hb1.mono hb0.size)
      have k1 := k0.below hb1 k0.lt
      obtain ⟨b0, b1, b2⟩ := blk3 k1
      clear k0 hb0 hb1 hLO ho1
      go_wp2_with fail
      refine (unhide (hHI _ hB1)).mono ?_
      rintro e w2 ⟨A2, c2, c2', rfl, ho2, hb2⟩
      have hB2 := hB1.trans (hb2.mono hB1.size)
      clear b0 b1 b2
      obtain ⟨b0, b1, b2⟩ := blk3 (k1.below hb2 k1.lt)
      have hP2 := hPV _ hB2
      clear k1 hb2 hB1 hHI ho2 hPV
      go_wp2_with fail
      refine (unhide hP2).mono ?_
      rintro e w3 ⟨rfl, hb3⟩
      go_wp2_with fail
      go_ret
      exact ⟨rfl, hB2.trans (hb3.mono hB2.size)⟩

end Go.Proofs.YthmmbejilceoaaaGreat
