/-
  YthepfpiphlfgnaaHkS: the reference's HeightsOk.
-/
import Derived.Test.YthepfpiphlfgnaaHki
namespace Go.Proofs.Ythepfpiphlfgnaa
open Go.RowKit

theorem first_u {R : Reg} (hR : R.ok) {x0 y0 : Nat} (h0 : First R x0 y0) : FirstU R (R.ci x0 y0) := by
  have hm : (⟨(R.ci x0 y0 : Nat), ((R.ci x0 y0 : Nat) : Int) + 1, x0, y0, x0, (y0 : Int) - 1⟩ : Sd) ∈ sidesOf R := by
    have hc := first_cell hR h0
    unfold sidesOf sidesTo
    rw [List.mem_flatMap]
    refine ⟨R.ci x0 y0, List.mem_range.2 (ci_lt h0.1 h0.2.1), ?_⟩
    unfold sidesAt
    rw [ci_mod y0 h0.1, ci_div y0 h0.1, List.mem_append]
    left
    unfold sideE; rw [hc]; simp
  obtain ⟨k, hk⟩ := List.getElem?_of_mem hm
  refine ⟨⟨k, _, (List.getElem?_eq_some_iff.1 hk).1, hk, .inl rfl⟩, ?_⟩
  rintro j hj ⟨i, s, hi, hs, e⟩
  obtain ⟨x, y, hx, hy, _, h⟩ := mem_sides (List.mem_of_getElem? hs) (Nat.le_refl _)
  rcases h with h | h
  · obtain ⟨hu, rfl⟩ := sideE_mem h
    have k1 := h0.2.2.2 x y hx hy (cu_e hu).1
    simp only at e
    omega
  · obtain ⟨hu, rfl⟩ := sideN_mem h
    have k1 := h0.2.2.2 x y hx hy (cu_n hu).1
    simp only at e
    omega

structure BoW (w wr : World) (R : Reg) (A : Option Addr) (c g : Nat) (O : List Bool) : Prop where
  bel : Below w.heap.size w wr
  box : Blk wr w.heap.size 25 #[.int .i64 R.W, .int .i64 R.T, .slice A R.C.length c]
  out : wr.ownsRow (w.heap.size + 1) 4 1 (.slice (some ⟨g, 0, none⟩) R.cn R.cn) R.cn (O.map Value.bool)
section
variable {w wr w2 : World} {R : Reg} {A : Option Addr} {c g : Nat} {O : List Bool}
theorem BoW.below (H : BoW w wr R A c g O) (hb : Below wr.heap.size wr w2) : BoW w w2 R A c g O :=
  ⟨H.bel.trans (hb.mono H.bel.size), H.box.below hb H.box.lt, own_below H.out hb (Nat.le_refl _)⟩
theorem BoW.glt (H : BoW w wr R A c g O) : w.heap.size < g ∧ g < wr.heap.size := by have := H.out.lt g rfl; omega
theorem BoW.set (H : BoW w wr R A c g O) (j : Nat) (v : Bool) : BoW w (wr.setCell ⟨g, j, none⟩ (.bool v)) R A c g (O.set j v) := by
  have hg := H.glt
  refine ⟨H.bel.setCell (by simp; omega) _, H.box.far (p := ⟨g, j, none⟩) (by simp; omega) _, ?_⟩
  have := (H.out.stored j (.bool v)).1
  rwa [← List.map_set] at this
theorem BoW.cells (H : BoW w wr R A c g O) : wr.cell? ⟨w.heap.size, 0, none⟩ = some (.int .i64 R.W) ∧ wr.cell? ⟨w.heap.size, 1, none⟩ = some (.int .i64 R.T) ∧ wr.cell? ⟨w.heap.size, 2, none⟩ = some (.slice A R.C.length c) := by
  have r0 := H.box.cell 0
  have r1 := H.box.cell 1
  have r2 := H.box.cell 2
  simp at r0 r1 r2
  exact ⟨r0, r1, r2⟩
theorem BoW.ocell (H : BoW w wr R A c g O) {j : Nat} (hj : j < R.cn) : wr.cell? ⟨g, j, none⟩ = some (.bool (O.getD j false)) := by
  have hl : O.length = R.cn := by have := H.out.1; simpa using this
  rw [H.out.cellAt j (by omega), List.getElem?_map, List.getD_eq_getElem?_getD, List.getElem?_eq_getElem (by omega)]; rfl
end

def SdIn (L : List Int) (s : Sd) : Prop := (-60 ≤ L.getD s.f.toNat 0 ∧ L.getD s.f.toNat 0 ≤ 60) ∧ (-60 ≤ L.getD s.t.toNat 0 ∧ L.getD s.t.toNat 0 ≤ 60)
/-- What holds behind the first k sides. -/
def KS (R : Reg) (L : List Int) (k : Nat) (O : List Bool) : Prop := UsedL R k O ∧ ∀ (j : Nat) s, j < k → (sidesOf R)[j]? = some s → SdOk R L s ∧ SdIn L s
theorem ks_next {R : Reg} {L : List Int} {k : Nat} {O : List Bool} (h : KS R L k O) {s : Sd} (hs : (sidesOf R)[k]? = some s) {f t : Nat} (ha : SdAt R s f t) (hk : SdOk R L s ∧ SdIn L s) : KS R L (k + 1) ((O.set f true).set t true) := by
  refine ⟨usedL_next h.1 hs ha, fun j s' hj hjs => ?_⟩
  by_cases hjk : j = k
  · subst hjk
    rw [hs] at hjs
    injection hjs with hjs
    subst hjs
    exact hk
  · exact h.2 j s' (by omega) hjs
theorem ks_rng {R : Reg} {L : List Int} {O : List Bool} (h : KS R L (sidesOf R).length O) {i : Nat} (hu : UsedC R i) : -60 ≤ L.getD i 0 ∧ L.getD i 0 ≤ 60 := by
  obtain ⟨j, s, hj, hs, e⟩ := hu
  have := (h.2 j s hj hs).2
  rcases e with e | e
  · have h1 := this.1
    rw [e] at h1; exact h1
  · have h1 := this.2
    rw [e] at h1; exact h1

set_option maxHeartbeats 4000000 in
set_option maxRecDepth 100000 in
theorem hokS_ok (R : Reg) (hR : R.ok) (hS : SimpleP R) (A : Option Addr) (c B : Nat) (L : List Int) (ad : Addr) (d : Nat) (hL : L.length = R.cn) (w : World)
    (hr : Reads w B 1 A R.C.length (R.C.map Value.bool)) (hd : Reads w B 1 (some ad) R.cn (L.map (Value.int .i64))) (hB : B ≤ w.heap.size) :
    Calls Try.prog 134 #[.agg #[.int .i64 R.W, .int .i64 R.T, .slice A R.C.length c], .slice (some ad) R.cn d] w fun e w' => e = .returned (.bool (hokB R.W R.T R.C L)) ∧ Below w.heap.size w w' := by
  have hcn := cn_bd hR
  obtain ⟨hcn1, hcn2⟩ := hcn
  obtain ⟨x0, y0, h0⟩ := first_ex hR hS.1
  have H0 := Lib.hid h0
  have HF0 := Lib.hid (first_u hR h0)
  clear h0
  have hl36 := (len_bd hR).2
  have hSI := SimpleS_any R.W R.T A R.C.length c B R.C (w.alloc (boxR R.W R.T A R.C.length c)) (hr.alloc hB _) (by simp; omega) (by omega)
  rw [(simple_of hR).2 hS] at hSI
  have HNO : Hid (¬ HOk R L → hokB R.W R.T R.C L = false) := Lib.hid (hokB_no hR hS)
  have HYES : Hid (HOk R L → hokB R.W R.T R.C L = true) := Lib.hid (hokB_ok hR hS).2
  have HLL := Lib.hid hL
  clear hL
  go_enter Try.func134, Try.ntmps134
  go_wp2_with fail
  refine hSI.mono ?_
  rintro e w0 ⟨rfl, hb0⟩
  obtain ⟨hB0, hk0, b0, b1, b2⟩ := box_keep hb0
  clear hb0 hSI
  go_wp2_with fail
  refine (cornerManySN_ok R hR A c B _ (hr.below (hB0.mono hB)) (Nat.le_trans hB hB0.size)).mono ?_
  rintro e w1 ⟨rfl, hb1⟩
  have hne : ((R.cn : Int) != (R.cn : Int)) = false := by simp
  obtain ⟨hk1, b0, b1, b2⟩ := blk_keep hk0 hb1
  have hB1 := hB0.trans (hb1.mono hB0.size)
  clear hb1 hk0 hB0
  go_wp2_with (at_make; refine wpList_make_bools rfl _ _ rfl R.cn (by omega) rfl rfl (by simp) (by simp) ?_; intro w2 hown hb2; obtain ⟨hk2, b0, b1, b2⟩ := blk_keep hk1 hb2; have hB2 := hB1.trans (hb2.mono hB1.size))
  have hP2 : BoW w w2 R A c w1.heap.size (List.replicate R.cn false) := ⟨hB2, hk2, own_mono hown hk1.lt⟩
  generalize w1.heap.size = g at *
  clear hown hb2 hk2 hk1 hB1 hB2 b0 b1 b2 hne
  go_loopg [6, 7] R.cn (fun r s6 s7 wr => ∃ (q : Nat) (O : List Bool) (fs : Int), q + r = R.cn ∧ s7 = .int .i64 (q : Nat) ∧ s6 = .int .i64 fs ∧ BoW w wr R A c g O ∧ KS R L (sidesTo R q).length O ∧ ((fs = -1 ∧ (sidesTo R q).length = 0) ∨ fs = (R.ci x0 y0 : Nat)))
  case atStart => exact ⟨0, _, -1, by omega, rfl, rfl, hP2, ⟨by simpa [sidesTo] using usedL_start R, fun j s hj => by simp [sidesTo] at hj⟩, .inl ⟨rfl, by simp [sidesTo]⟩⟩
  case round =>
    clear hP2
    obtain ⟨q, O, fs, hq, rfl, rfl, hP, hKS, hfs⟩ := hrel
    have HQ := Lib.hid hq
    have HKS := Lib.hid hKS
    have HFS := Lib.hid hfs
    clear hq hKS hfs
    by_cases hlt2 : q < R.cn
    · obtain ⟨x, y, hx, hy, rfl⟩ : ∃ x y : Nat, x ≤ R.W ∧ y ≤ R.T ∧ q = R.ci x y := ⟨_, _, (ci_in hlt2).1, (ci_in hlt2).2, (ci_of R q).symm⟩
      go_wp2_with fail
      obtain ⟨gk1, rfl⟩ : ∃ gk1 : Nat, gk1 = gk := ⟨_, rfl⟩
      obtain ⟨wo1, rfl⟩ : ∃ wo1 : World, wo1 = wr := ⟨_, rfl⟩
      go_loopg [6, 8] 2 (fun r s6 s8 wr => ∃ (t : Nat) (O : List Bool) (fs : Int), t + r = 2 ∧ s8 = .int .i64 (t : Nat) ∧ s6 = .int .i64 fs ∧ BoW w wr R A c g O ∧ KS R L (kN R x y t) O ∧ ((fs = -1 ∧ kN R x y t = 0) ∨ fs = (R.ci x0 y0 : Nat)))
      case atStart => exact ⟨0, O, fs, by omega, rfl, rfl, hP, by rw [kN_zero]; exact HKS.out, by rw [kN_zero]; exact HFS.out⟩
      case round =>
        clear hP HKS HFS O fs
        obtain ⟨t, O, fs, ht, rfl, rfl, hP, hKS, hfs⟩ := hrel
        have HT := Lib.hid ht
        have HKS := Lib.hid hKS
        have HFS := Lib.hid hfs
        clear ht hKS hfs
        by_cases htl : t ≤ 1
        · obtain ⟨nb, hnb⟩ : ∃ nb, ((t : Int) == 1) = nb := ⟨_, rfl⟩
          have htl2 : decide ((t : Int) < 2) = true := decide_eq_true (by omega)
          obtain ⟨b0, b1, b2⟩ := hP.cells
          have HE := fun w' (h : Below w.heap.size w w') => hide (edge_any R hR A c B x y t nb htl hnb hx hy w' (hr.below (h.mono hB)) (Nat.le_trans hB h.size))
          have hkn := kN_next R y hx htl
          rw [← kN_le R x y htl] at hkn
          cases hu : usedOf R x y t with
          | false =>
            rw [hu] at hkn
            simp only [Bool.false_eq_true, if_false, Nat.add_zero] at hkn
            have HKN := Lib.hid hkn
            simp only [hu] at HE
            clear hu hkn
            go_wp2_with fail
            refine (unhide (HE _ hP.bel)).mono ?_
            rintro e w5 ⟨rfl, hb5⟩
            go_wp2_with fail
            go_roundg (2 - (t + 1))
            case measure => have := HT.out; omega
            case rel => exact ⟨t + 1, O, fs, by have := HT.out; omega, by go_num, rfl, hP.below hb5, by rw [HKN.out]; exact HKS.out, by rw [HKN.out]; exact HFS.out⟩
          | true =>
            have hkat := sdOf_at hx hy htl hu
            rw [hu] at hkn
            simp only [if_true] at hkn
            have hff := sdOf_f R x y t
            have hfi : kN R x y t = 0 → First R x y := fun h => first_of hR hS.1 hx hy htl (by rw [← kN_le R x y htl]; exact h) hu
            rw [← kN_le R x y htl] at hkat
            simp only [hu] at HE
            generalize sdOf R x y t = s at *
            obtain ⟨f, tt, hst⟩ := side_at hR (List.mem_of_getElem? hkat)
            have hfe := hst.fe
            rw [hff] at hfe
            obtain rfl : f = R.ci x y := by omega
            have hte := hst.te
            simp only [hte] at HE
            have hRA : ∀ w', Calls Try.prog 136 #[.bool (decide (sg s.lx s.ly = 1)), .bool false] w' fun e w2 => e = .returned (.int .i64 (sg s.lx s.ly)) ∧ w' = w2 := by
              intro w'
              have := rise_any_S (decide (sg s.lx s.ly = 1)) false w'
              refine this.mono ?_
              rintro e w2 ⟨rfl, h⟩
              refine ⟨?_, by first | exact h | exact h.symm⟩
              rcases sg_or s.lx s.ly with h | h <;> rw [h] <;> rfl
            have hRB : ∀ w', Calls Try.prog 136 #[.bool (decide (sg s.lx s.ly = 1)), .bool true] w' fun e w2 => e = .returned (.int .i64 (-3 * sg s.lx s.ly)) ∧ w' = w2 := by
              intro w'
              have := rise_any_S (decide (sg s.lx s.ly = 1)) true w'
              refine this.mono ?_
              rintro e w2 ⟨rfl, h⟩
              refine ⟨?_, by first | exact h | exact h.symm⟩
              rcases sg_or s.lx s.ly with h | h <;> rw [h] <;> rfl
            have HR0 := fun w' => hide (hRA w')
            have HR1 := fun w' => hide (hRB w')
            have HSD : Hid (SdOk R L s ↔ (sdD L (R.ci x y) tt = sg s.lx s.ly ∨ (R.inn s = true ∧ sdD L (R.ci x y) tt = -3 * sg s.lx s.ly))) := Lib.hid (by unfold SdOk; rw [hst.fe, hst.te]; rfl)
            have HSI : Hid (SdIn L s ↔ ((-60 ≤ L.getD (R.ci x y) 0 ∧ L.getD (R.ci x y) 0 ≤ 60) ∧ (-60 ≤ L.getD tt 0 ∧ L.getD tt 0 ≤ 60))) := Lib.hid (by unfold SdIn; rw [hst.fe, hst.te]; rfl)
            have HDD : Hid (wrap64 (L.getD tt 0 - L.getD (R.ci x y) 0) = sdD L (R.ci x y) tt) := Lib.hid rfl
            have hinn : (R.at s.lx s.ly && R.at s.rx s.ry) = R.inn s := rfl
            rw [hinn] at HE
            have hkl : kN R x y t < (sidesOf R).length := (List.getElem?_eq_some_iff.1 hkat).1
            have hNX : SdOk R L s ∧ SdIn L s → KS R L (kN R x y (t + 1)) ((O.set (R.ci x y) true).set tt true) := fun h => by rw [hkn]; exact ks_next HKS.out hkat hst h
            have HNX := Lib.hid hNX
            have HBD : Hid (HOk R L → SdOk R L s ∧ SdIn L s) := Lib.hid fun h => ⟨h.sd _ s hkl hkat, by
              unfold SdIn
              rw [hst.fe, hst.te]
              exact ⟨h.rng _ hst.fl ⟨_, s, hkl, hkat, .inl hst.fe⟩, h.rng _ hst.tl ⟨_, s, hkl, hkat, .inr hst.te⟩⟩⟩
            have HFI := Lib.hid hfi
            have hfl := hst.fl
            have htl3 := hst.tl
            have hne := hst.ne
            clear hRA hRB hinn hkn hkat hff hfi hfe hte hu hst hkl hNX
            generalize sg s.lx s.ly = sgv at *
            generalize decide (sgv = 1) = dk at *
            generalize R.inn s = bo at *
            generalize ixOf R s.lx s.ly = ia at *
            generalize ixOf R s.rx s.ry = ib at *
            obtain ⟨bb, hbb⟩ : ∃ bb, decide (fs < 0) = bb := ⟨_, rfl⟩
            have HBB := Lib.hid hbb
            go_wp2_with fail
            refine (unhide (HE _ hP.bel)).mono ?_
            rintro e w5 ⟨rfl, hb5⟩
            have hP5 := hP.below hb5
            clear hP hb5 HE b0 b1 b2
            go_upto_if 55 with fail
            go_cut [6] (fun s6 wx => s6 = .int .i64 (R.ci x0 y0 : Nat) ∧ wx = w5)
            case first =>
              cases bb with
              | true =>
                have hci : R.ci x y = R.ci x0 y0 := by
                  rcases HFS.out with ⟨_, h⟩ | h
                  · obtain ⟨e1, e2⟩ := first_one (HFI.out h) H0.out
                    rw [e1, e2]
                  · have := of_decide_eq_true HBB.out; omega
                have HCI := Lib.hid hci
                clear hci
                go_wp2_with fail
                go_meet
                exact ⟨by rw [HCI.out], rfl⟩
              | false =>
                have hfs : fs = (R.ci x0 y0 : Nat) := by
                  rcases HFS.out with ⟨h, _⟩ | h
                  · have := of_decide_eq_false HBB.out; omega
                  · exact h
                have HFS2 := Lib.hid hfs
                clear hfs
                go_wp2_with fail
                go_meet
                exact ⟨by rw [HFS2.out], rfl⟩
            case rest =>
              obtain ⟨rfl, rfl⟩ := hcut
              obtain ⟨wa, rfl⟩ : ∃ wa : World, wa = wc := ⟨_, rfl⟩
              have oc := hP5.ocell hfl
              have of := hP5.out.frozenAt (R.ci x y)
              have hP6 := hP5.set (R.ci x y) true
              have ot := hP6.ocell htl3
              have ot2 := hP6.out.frozenAt tt
              have hP7 := hP6.set tt true
              clear HFS HFI HBB hbb
              go_upto_region 17 with fail
              generalize (wa.setCell ⟨g, R.ci x y, none⟩ (.bool true)).setCell ⟨g, tt, none⟩ (.bool true) = w7 at *
              clear oc of ot ot2 hP5 hP6
              have hd7 := hd.below (hP7.bel.mono hB)
              obtain ⟨ad1, e1, _, d0⟩ := hd7.getI hfl
              obtain ⟨ad2, e2, _, d1⟩ := hd7.getI htl3
              obtain rfl : ad = ad1 := by injection e1
              obtain rfl : ad = ad2 := by injection e2
              clear e1 e2 hd7
              generalize L.getD (R.ci x y) 0 = vf at *
              generalize L.getD tt 0 = vt at *
              go_region
              rw [HDD.out]
              have hP8 := hP7.below (Below.refl _ _).drew
              have d2 : w7.drew.cell? (ad.add (R.ci x y)) = some (.int .i64 vf) := d0
              have d3 : w7.drew.cell? (ad.add tt) = some (.int .i64 vt) := d1
              clear d0 d1 hP7
              generalize w7.drew = w8 at *
              generalize sdD L (R.ci x y) tt = dv at *
              by_cases h1 : -60 ≤ vf ∧ vf ≤ 60
              · have I1 := inB_t h1
                by_cases h2 : -60 ≤ vt ∧ vt ≤ 60
                · have I2 := inB_t h2
                  have HIN := Lib.hid (HSI.out.2 ⟨h1, h2⟩)
                  by_cases h3 : dv = sgv
                  · have hok : SdOk R L s ∧ SdIn L s := ⟨HSD.out.2 (.inl h3), HIN.out⟩
                    have q1 : (dv != sgv) = false := by simpa using h3
                    clear h1 h2 h3
                    go_wp2_with (first | (go_at_call 91; refine (l1In_any _ _ _ _).mono ?_; rintro e w' ⟨rfl, rfl⟩) | (go_at_call 136; first | ((with_reducible refine (unhide (HR0 _)).mono ?_); rintro e w' ⟨rfl, rfl⟩) | ((with_reducible refine (unhide (HR1 _)).mono ?_); rintro e w' ⟨rfl, rfl⟩)))
                    go_roundg (2 - (t + 1))
                    case measure => have := HT.out; omega
                    case rel => exact ⟨t + 1, _, _, by have := HT.out; omega, by go_num, rfl, hP8, HNX.out hok, .inr rfl⟩
                  · have q1 : (dv != sgv) = true := by simpa using h3
                    have H3 := Lib.hid h3
                    cases bo with
                    | false =>
                      clear h1 h2 h3
                      go_wp2_with (first | (go_at_call 91; refine (l1In_any _ _ _ _).mono ?_; rintro e w' ⟨rfl, rfl⟩) | (go_at_call 136; first | ((with_reducible refine (unhide (HR0 _)).mono ?_); rintro e w' ⟨rfl, rfl⟩) | ((with_reducible refine (unhide (HR1 _)).mono ?_); rintro e w' ⟨rfl, rfl⟩)))
                      go_ret
                      have hbad : hokB R.W R.T R.C L = false := HNO.out fun h => by
                        have hx := HBD.out h
                        rcases HSD.out.1 hx.1 with h | ⟨h, _⟩
                        · exact H3.out h
                        · cases h
                      exact ⟨by rw [hbad]; rfl, hP8.bel⟩
                    | true =>
                      by_cases h4 : dv = -3 * sgv
                      · have hok : SdOk R L s ∧ SdIn L s := ⟨HSD.out.2 (.inr ⟨rfl, h4⟩), HIN.out⟩
                        have q2 : (dv != -3 * sgv) = false := by simpa using h4
                        clear h1 h2 h3 h4
                        go_wp2_with (first | (go_at_call 91; refine (l1In_any _ _ _ _).mono ?_; rintro e w' ⟨rfl, rfl⟩) | (go_at_call 136; first | ((with_reducible refine (unhide (HR0 _)).mono ?_); rintro e w' ⟨rfl, rfl⟩) | ((with_reducible refine (unhide (HR1 _)).mono ?_); rintro e w' ⟨rfl, rfl⟩)))
                        go_roundg (2 - (t + 1))
                        case measure => have := HT.out; omega
                        case rel => exact ⟨t + 1, _, _, by have := HT.out; omega, by go_num, rfl, hP8, HNX.out hok, .inr rfl⟩
                      · have q2 : (dv != -3 * sgv) = true := by simpa using h4
                        have H4 := Lib.hid h4
                        clear h1 h2 h3 h4
                        go_wp2_with (first | (go_at_call 91; refine (l1In_any _ _ _ _).mono ?_; rintro e w' ⟨rfl, rfl⟩) | (go_at_call 136; first | ((with_reducible refine (unhide (HR0 _)).mono ?_); rintro e w' ⟨rfl, rfl⟩) | ((with_reducible refine (unhide (HR1 _)).mono ?_); rintro e w' ⟨rfl, rfl⟩)))
                        go_ret
                        have hbad : hokB R.W R.T R.C L = false := HNO.out fun h => by
                          have hx := HBD.out h
                          rcases HSD.out.1 hx.1 with h | ⟨_, h⟩
                          · exact H3.out h
                          · exact H4.out h
                        exact ⟨by rw [hbad]; rfl, hP8.bel⟩
                · have I2 := inB_f h2
                  have H2 := Lib.hid h2
                  clear h1 h2
                  go_wp2_with (first | (go_at_call 91; refine (l1In_any _ _ _ _).mono ?_; rintro e w' ⟨rfl, rfl⟩) | (go_at_call 136; first | ((with_reducible refine (unhide (HR0 _)).mono ?_); rintro e w' ⟨rfl, rfl⟩) | ((with_reducible refine (unhide (HR1 _)).mono ?_); rintro e w' ⟨rfl, rfl⟩)))
                  go_ret
                  have hbad : hokB R.W R.T R.C L = false := HNO.out fun h => by
                    have hx := HBD.out h
                    exact H2.out (HSI.out.1 hx.2).2
                  exact ⟨by rw [hbad]; rfl, hP8.bel⟩
              · have I1 := inB_f h1
                have H1 := Lib.hid h1
                clear h1
                go_wp2_with (first | (go_at_call 91; refine (l1In_any _ _ _ _).mono ?_; rintro e w' ⟨rfl, rfl⟩) | (go_at_call 136; first | ((with_reducible refine (unhide (HR0 _)).mono ?_); rintro e w' ⟨rfl, rfl⟩) | ((with_reducible refine (unhide (HR1 _)).mono ?_); rintro e w' ⟨rfl, rfl⟩)))
                go_ret
                have hbad : hokB R.W R.T R.C L = false := HNO.out fun h => by
                  have hx := HBD.out h
                  exact H1.out (HSI.out.1 hx.2).1
                exact ⟨by rw [hbad]; rfl, hP8.bel⟩
        · obtain rfl : t = 2 := by have := HT.out; omega
          have hK := HKS.out
          have hF := HFS.out
          rw [kN_two] at hK hF
          have HK2 := Lib.hid hK
          have HF2 := Lib.hid hF
          clear hK hF
          go_wp2_with fail
          go_roundg (R.cn - (R.ci x y + 1))
          case measure => have := HQ.out; omega
          case rel => exact ⟨R.ci x y + 1, O, fs, by have := HQ.out; omega, by go_num, rfl, hP, HK2.out, HF2.out⟩
    · obtain rfl : q = R.cn := by have := HQ.out; omega
      have hK := HKS.out
      change KS R L (sidesOf R).length O at hK
      have hfs : fs = (R.ci x0 y0 : Nat) := by
        rcases HFS.out with ⟨_, h⟩ | h
        · obtain ⟨j, s, hj, hs, _⟩ := HF0.out.1
          change (sidesOf R).length = 0 at h
          omega
        · exact h
      subst hfs
      have HK2 := Lib.hid hK
      clear HKS HFS hK
      go_wp2_with fail
      obtain ⟨gk1, rfl⟩ : ∃ gk1 : Nat, gk1 = gk := ⟨_, rfl⟩
      obtain ⟨wo1, rfl⟩ : ∃ wo1 : World, wo1 = wr := ⟨_, rfl⟩
      go_loopg [16] R.cn (fun r s16 wr => ∃ k : Nat, k + r = R.cn ∧ s16 = .int .i64 (k : Nat) ∧ wr = wo1 ∧ ∀ i, i < k → ¬ UsedC R i → L.getD i 0 = 99)
      case atStart => exact ⟨0, by omega, rfl, rfl, fun i hi => by omega⟩
      case round =>
        obtain ⟨k, hk, rfl, rfl, hC⟩ := hrel
        have HK := Lib.hid hk
        have HC := Lib.hid hC
        clear hk hC
        by_cases hlt2 : k < R.cn
        · have oc := hP.ocell hlt2
          obtain ⟨ad1, e1, _, d0⟩ := (hd.below (hP.bel.mono hB)).getI hlt2
          obtain rfl : ad = ad1 := by injection e1
          clear e1
          have hun := usedL_end HK2.out.1 hlt2
          have HUN := Lib.hid hun
          have HN : Hid ((¬ UsedC R k → L.getD k 0 = 99) → ∀ i, i < k + 1 → ¬ UsedC R i → L.getD i 0 = 99) := Lib.hid fun h i hi => by
            by_cases hik : i = k
            · subst hik; exact h
            · exact HC.out i (by omega)
          clear hun
          cases ho : O.getD k false with
          | true =>
            have hok : ¬ UsedC R k → L.getD k 0 = 99 := fun h => absurd (HUN.out.1 ho) h
            rw [ho] at oc
            have HOK := Lib.hid hok
            clear ho hok
            go_wp2_with fail
            go_roundg (R.cn - (k + 1))
            case measure => have := HK.out; omega
            case rel => exact ⟨k + 1, by have := HK.out; omega, by go_num, rfl, HN.out HOK.out⟩
          | false =>
            have hnu : ¬ UsedC R k := fun h => by rw [HUN.out.2 h] at ho; cases ho
            rw [ho] at oc
            clear ho
            by_cases h9 : L.getD k 0 = 99
            · have HOK := Lib.hid (fun _ => h9 : ¬ UsedC R k → L.getD k 0 = 99)
              have q1 : (L.getD k 0 != 99) = false := by simpa using h9
              clear h9
              generalize L.getD k 0 = v at *
              go_wp2_with fail
              go_roundg (R.cn - (k + 1))
              case measure => have := HK.out; omega
              case rel => exact ⟨k + 1, by have := HK.out; omega, by go_num, rfl, HN.out HOK.out⟩
            · have q1 : (L.getD k 0 != 99) = true := by simpa using h9
              have HB0 := Lib.hid (fun h => h9 (h.no k hlt2 hnu) : ¬ HOk R L)
              clear h9
              generalize L.getD k 0 = v at *
              go_wp2_with fail
              go_ret
              exact ⟨by rw [HNO.out HB0.out]; rfl, hP.bel⟩
        · obtain rfl : k = R.cn := by have := HK.out; omega
          have hc0 := ci_lt H0.out.1 H0.out.2.1
          obtain ⟨ad1, e1, _, d0⟩ := (hd.below (hP.bel.mono hB)).getI hc0
          obtain rfl : ad = ad1 := by injection e1
          clear e1
          have hres : hokB R.W R.T R.C L = (L.getD (R.ci x0 y0) 0 == 0) := by
            by_cases hz : L.getD (R.ci x0 y0) 0 = 0
            · rw [HYES.out ⟨HLL.out, fun k s hk hs => (HK2.out.2 k s hk hs).1, fun i _ hu => ks_rng HK2.out hu, fun i hi hu => HC.out i hi hu, fun i hi hf => by rw [firstU_one hf HF0.out]; exact hz⟩, hz]; rfl
            · rw [HNO.out fun h => hz (h.fst _ hc0 HF0.out)]
              simpa using hz
          have HRES := Lib.hid hres
          clear hres
          generalize L.getD (R.ci x0 y0) 0 = v at *
          go_wp2_with fail
          go_ret
          exact ⟨ret_bool (by rw [HRES.out]), hP.bel⟩

theorem hokS_any (W T : Int) (A : Option Addr) (n c B : Nat) (bs : List Bool) (L : List Int) (D : Option Addr) (m d : Nat) (w : World) (hbl : bs.length = n) (hL : L.length = m)
    (hr : Reads w B 1 A n (bs.map Value.bool)) (hd : Reads w B 1 D m (L.map (Value.int .i64))) (hB : B ≤ w.heap.size) (hn : n ≤ 9223372036854775807) (hm : m ≤ 9223372036854775807) :
    Calls Try.prog 134 #[.agg #[.int .i64 W, .int .i64 T, .slice A n c], .slice D m d] w fun e w' => e = .returned (.bool (hokB W T bs L)) ∧ Below w.heap.size w w' := by
  have hSI := hide (SimpleS_any W T A n c B bs (w.alloc (boxR W T A n c)) (hr.alloc hB _) (by simp; omega) hn)
  cases hs : simpleB W T bs with
  | false =>
    rw [hs] at hSI
    rw [hokB_s hs]
    clear hs
    go_enter Try.func134, Try.ntmps134
    go_wp2_with fail
    refine (unhide hSI).mono ?_
    rintro e w0 ⟨rfl, hb0⟩
    go_wp2_with fail
    go_ret
    exact ⟨rfl, (box_keep hb0).1⟩
  | true =>
    have hv : validB W T bs = true := by
      cases hv : validB W T bs with
      | false => rw [simpleB_no hv] at hs; cases hs
      | true => rfl
    obtain ⟨R, hR, rfl, rfl, rfl⟩ := reg_of_valid hv
    have hS := (simple_of hR).1 hs
    subst hbl
    by_cases hlen : m = R.cn
    · subst hlen
      have hcn := cn_bd hR
      obtain ⟨ad, rfl, _⟩ := hd.getI (k := 0) (by omega)
      exact hokS_ok R hR hS A c B L ad d hL w hr hd hB
    · rw [hokB_no hR hS fun h => hlen (by rw [← hL, h.len])]
      rw [hs] at hSI
      have hcn := cn_bd hR
      have q : ((m : Int) != (R.cn : Int)) = true := by simp; omega
      clear hs hv hL hd
      go_enter Try.func134, Try.ntmps134
      go_wp2_with fail
      refine (unhide hSI).mono ?_
      rintro e w0 ⟨rfl, hb0⟩
      obtain ⟨hB0, hk0, b0, b1, b2⟩ := box_keep hb0
      go_wp2_with fail
      refine (cornerManySN_ok R hR A c B _ (hr.below (hB0.mono hB)) (Nat.le_trans hB hB0.size)).mono ?_
      rintro e w1 ⟨rfl, hb1⟩
      go_wp2_with fail
      go_ret
      exact ⟨rfl, hB0.trans (hb1.mono hB0.size)⟩

end Go.Proofs.Ythepfpiphlfgnaa
