/-
  YthepfpiphlfgnaaHS: HeightsOf of the reference.
-/
import Derived.Test.YthepfpiphlfgnaaEdge
import Derived.Test.YthepfpiphlfgnaaTi
namespace Go.Proofs.Ythepfpiphlfgnaa
open Go.RowKit

theorem edge_any (R : Reg) (hR : R.ok) (A : Option Addr) (c B : Nat) (x y t : Nat) (nb : Bool) (ht : t ≤ 1) (hnb : ((t : Int) == 1) = nb) (hx : x ≤ R.W) (hy : y ≤ R.T) (w : World) (hr : Reads w B 1 A R.C.length (R.C.map Value.bool)) (hB : B ≤ w.heap.size) :
    Calls Try.prog 135 #[.agg #[.int .i64 R.W, .int .i64 R.T, .slice A R.C.length c], .int .i64 (R.ci x y : Nat), .bool nb] w fun e w' =>
      e = .returned (.tuple #[.int .i64 (sdOf R x y t).t, .bool (usedOf R x y t), .bool (R.at (sdOf R x y t).lx (sdOf R x y t).ly && R.at (sdOf R x y t).rx (sdOf R x y t).ry), .int .i64 (ixOf R (sdOf R x y t).lx (sdOf R x y t).ly),
        .int .i64 (ixOf R (sdOf R x y t).rx (sdOf R x y t).ry), .bool (decide (sg (sdOf R x y t).lx (sdOf R x y t).ly = 1))]) ∧ Below w.heap.size w w' := by
  have ht' : t = 0 ∨ t = 1 := by omega
  rcases ht' with rfl | rfl
  · subst hnb
    exact edgeE_any R hR A c B x y hx hy w hr hB
  · subst hnb
    refine (edgeN_any R hR A c B x y hx hy w hr hB).mono ?_
    rintro e w' ⟨rfl, hb⟩
    refine ⟨?_, hb⟩
    rw [show ((R.ci x y : Nat) : Int) + R.W + 1 = (sdOf R x y 1).t by simp [sdOf]; omega]
    rfl

theorem cornerManySN_ok (R : Reg) (hR : R.ok) (A : Option Addr) (c B : Nat) (w : World) (hr : Reads w B 1 A R.C.length (R.C.map Value.bool)) (hB : B ≤ w.heap.size) :
    Calls Try.prog 89 #[.agg #[.int .i64 R.W, .int .i64 R.T, .slice A R.C.length c]] w fun e w' => e = .returned (.int .i64 R.cn) ∧ Below w.heap.size w w' := cornerManyS_ok R hR A c B w hr hB

theorem PG.rcells {w wr : World} {R : Reg} {A : Option Addr} {c g k : Nat} {L : List Int} (H : PG w wr R A c g k L) : wr.cell? ⟨w.heap.size, 0, none⟩ = some (.int .i64 R.W) ∧ wr.cell? ⟨w.heap.size, 1, none⟩ = some (.int .i64 R.T) ∧ wr.cell? ⟨w.heap.size, 2, none⟩ = some (.slice A R.C.length c) := by
  have r0 := H.box.cell 0
  have r1 := H.box.cell 1
  have r2 := H.box.cell 2
  simp at r0 r1 r2
  exact ⟨r0, r1, r2⟩
theorem PG.ocell {w wr : World} {R : Reg} {A : Option Addr} {c g k : Nat} {O : List Int} (H : PG w wr R A c g k O) {j : Nat} (hj : j < O.length) : wr.cell? ⟨g, j, none⟩ = some (.int .i64 (O.getD j 0)) := by
  refine H.cell ?_
  rw [List.getD_eq_getElem?_getD, List.getElem?_eq_getElem hj]; rfl

/-- The index behind the side number t of a corner. -/
def kN (R : Reg) (x y t : Nat) : Nat := if t = 2 then (sidesTo R (R.ci x y + 1)).length else kOf R x y t
theorem kN_zero (R : Reg) (x y : Nat) : kN R x y 0 = (sidesTo R (R.ci x y)).length := by simp [kN, kOf]
theorem kN_two (R : Reg) (x y : Nat) : kN R x y 2 = (sidesTo R (R.ci x y + 1)).length := by simp [kN]
theorem kN_le (R : Reg) (x y : Nat) {t : Nat} (ht : t ≤ 1) : kN R x y t = kOf R x y t := by unfold kN; rw [if_neg (by omega)]
theorem kN_next (R : Reg) {x : Nat} (y : Nat) (hx : x ≤ R.W) {t : Nat} (ht : t ≤ 1) : kN R x y (t + 1) = kOf R x y t + if usedOf R x y t = true then 1 else 0 := by
  have ht' : t = 0 ∨ t = 1 := by omega
  rcases ht' with rfl | rfl
  · rw [kN_le R x y (by omega), kOf_e]
  · unfold kN
    rw [if_pos rfl, kOf_n R y hx]

theorem cross_split {R : Reg} (hR : R.ok) {L : List Int} (lx ly rx ry : Int) :
    (ixOf R lx ly = -1 ∧ crossB R L lx ly rx ry = false) ∨ (∃ ja : Nat, ixOf R lx ly = (ja : Nat) ∧ ixOf R rx ry = -1 ∧ crossB R L lx ly rx ry = false) ∨
      (∃ ja jb : Nat, ixOf R lx ly = (ja : Nat) ∧ ixOf R rx ry = (jb : Nat) ∧ ja < R.C.length ∧ jb < R.C.length ∧ crossB R L lx ly rx ry = (R.step ja (L.getD ja 0) == (jb : Int))) := by
  cases hp : R.at lx ly with
  | false => exact .inl ⟨by unfold ixOf; rw [hp]; rfl, by unfold crossB; rw [hp]; rfl⟩
  | true =>
    obtain ⟨a, b, rfl, rfl, ha, hb, hc⟩ := at_cell hR hp
    have e1 : ixOf R a b = ((b * R.W + a : Nat) : Int) := by unfold ixOf; rw [if_pos hp]; simp
    cases hq : R.at rx ry with
    | false => exact .inr (.inl ⟨_, e1, by unfold ixOf; rw [hq]; rfl, by unfold crossB; rw [hq, Bool.and_false]; rfl⟩)
    | true =>
      obtain ⟨a', b', rfl, rfl, ha', hb', hc'⟩ := at_cell hR hq
      have e2 : ixOf R a' b' = ((b' * R.W + a' : Nat) : Int) := by unfold ixOf; rw [if_pos hq]; simp
      refine .inr (.inr ⟨_, _, e1, e2, cell_lt hc, cell_lt hc', ?_⟩)
      unfold crossB
      rw [hp, hq, Bool.and_self, Bool.true_and, way_in ha hb]
      have e3 : ((b : Int) * (R.W : Int) + (a : Int)).toNat = b * R.W + a := by
        have : (b : Int) * (R.W : Int) + (a : Int) = ((b * R.W + a : Nat) : Int) := by simp
        rw [this]; rfl
      have e4 : (b' : Int) * (R.W : Int) + (a' : Int) = ((b' * R.W + a' : Nat) : Int) := by simp
      rw [e3, e4]
      by_cases h0 : L.getD (b * R.W + a) 0 = 0
      · rw [h0, step_no (by omega)]
        rw [Bool.eq_iff_iff]
        simp
        omega
      · rw [decide_eq_true h0, Bool.true_and, Bool.beq_eq_decide_eq]

theorem rise_sby (R : Reg) (L : List Int) (s : Sd) : (if crossB R L s.lx s.ly s.rx s.ry then (if decide (sg s.lx s.ly = 1) then (-3 : Int) else 3) else (if decide (sg s.lx s.ly = 1) then 1 else -1)) = sby R L s := by
  unfold sby
  rcases sg_or s.lx s.ly with h | h <;> rw [h] <;> cases crossB R L s.lx s.ly s.rx s.ry <;> rfl

set_option maxHeartbeats 2000000 in
set_option maxRecDepth 100000 in
theorem heightsOfS_ok (R : Reg) (hR : R.ok) (hS : SimpleP R) (A : Option Addr) (c B : Nat) (L : List Int) (D : Option Addr) (d : Nat) (hL : Lay R L) (hF : Full R L) (Hh : List Int) (hH : Hts R L Hh) (w : World)
    (hr : Reads w B 1 A R.C.length (R.C.map Value.bool)) (hd : Reads w B 1 D L.length (L.map (Value.int .i64))) (hB : B ≤ w.heap.size) :
    Calls Try.prog 69 #[.agg #[.int .i64 R.W, .int .i64 R.T, .slice A R.C.length c], .slice D L.length d] w (OwnInts w Hh) := by
  have hcn := cn_bd hR
  obtain ⟨hcn1, hcn2⟩ := hcn
  obtain ⟨x0, y0, h0⟩ := first_ex hR hS.1
  have H0 := Lib.hid h0
  have hl36 := (len_bd hR).2
  have hlL : L.length ≤ 36 := by rw [hL.len]; exact hl36
  have hSB := Lib.hid ((simple_of hR).2 hS)
  have hTB := Lib.hid (show tilingB R.W R.T R.C L = true by rw [tilingB_ok hR, (laysB_iff hR).2 hL, (fullB_iff hR).2 hF]; rfl)
  clear h0
  obtain ⟨ad, rfl, hadB, _⟩ := hd.getI (k := 0) (by rw [hL.len]; exact (len_bd hR).1)
  go_enter Try.func69, Try.ntmps69
  go_wp2_with fail
  have h00 : PG w ((w.alloc (boxR R.W R.T A R.C.length c)).alloc (.cells #[] 3)) R A c (w.heap.size + 1) 0 [] := by
    refine ⟨((Below.refl _ _).alloc (Nat.le_refl _) _).alloc (by simp) _, (Blk.new _ _ _).alloc _, ?_⟩
    have := World.ownsRow_made (base := w.heap.size + 1) (e := 3) (size := 1) (w.alloc (boxR R.W R.T A R.C.length c)) #[] 0 (by simp) (by simp [maxLen]) (by simp)
    simpa using this
  refine (SimpleS_any R.W R.T A R.C.length c B R.C _ ((hr.alloc hB _).alloc (by simp; omega) _) (by simp; omega) (by omega)).mono ?_
  rintro e w1 ⟨rfl, hb1⟩
  rw [hSB.out]
  have h1 := h00.below hb1
  clear h00 hb1
  obtain ⟨b0, b1, b2⟩ := h1.rcells
  go_wp2_with fail
  refine (tilingOkS_any R.W R.T A R.C.length c B R.C L (some ad) L.length d _ rfl rfl (hr.below (h1.bel.mono hB)) (hd.below (h1.bel.mono hB)) (Nat.le_trans hB h1.bel.size) (by omega) (by omega)).mono ?_
  rintro e w2 ⟨rfl, hb2⟩
  rw [hTB.out]
  have h2 := h1.below hb2
  clear h1 hb2 b0 b1 b2
  go_wp2_with fail
  go_loopg [5, 7] R.cn (fun r s5 s7 wr => ∃ (g cc k : Nat) (O : List Int), k + r = R.cn ∧ s7 = .int .i64 (k : Nat) ∧ s5 = .slice (some ⟨g, 0, none⟩) k cc ∧ PG w wr R A c g cc O ∧ O = List.replicate k 99)
  case atStart => exact ⟨_, _, 0, [], by simp, rfl, rfl, h2, rfl⟩
  case round =>
    clear h2
    obtain ⟨g, cc, k, O, hk, rfl, rfl, hP, hO⟩ := hrel
    have HK := Lib.hid hk
    have HO := Lib.hid hO
    have hOl : O.length = k := by rw [hO]; simp
    have HOL := Lib.hid hOl
    clear hk hO hOl
    obtain ⟨b0, b1, b2⟩ := hP.rcells
    by_cases hlt : k < R.cn
    · go_wp2_with fail
      refine (cornerManySN_ok R hR A c B wr (hr.below (hP.bel.mono hB)) (Nat.le_trans hB hP.bel.size)).mono ?_
      rintro e w3 ⟨rfl, hb3⟩
      have hP3 := hP.below hb3
      have hown3 := hP3.own
      rw [HOL.out] at hown3
      clear hP hb3 b0 b1 b2
      go_wp2_with (at_builtin; refine wpList_app rfl _ _ _ rfl (w.heap.size + 1) 3 _ 8 Try.underlying26 info_int rfl (by omega) _ _ _ rfl (hown3.alloc _) w3.heap.size (.int .i64 99) rfl ?c1 rfl (by omega) ?c2 ?_)
      case c1 => simp
      case c2 => have := hP3.bel.size; have := hP3.lt; simp; omega
      rintro g' c' w4 hown hgr _ _ _
      have hP4 := hP3.app (x := 99) (by rw [HOL.out]; exact hown) (by rw [HOL.out]; exact hgr)
      clear hown hgr hP3 hown3
      go_wp2_with fail
      go_roundg (R.cn - (k + 1))
      case measure => have := HK.out; omega
      case rel =>
        refine ⟨g', c', k + 1, O ++ [99], by omega, by go_num, rfl, hP4, ?_⟩
        rw [List.replicate_succ', ← HO.out]
    · obtain rfl : k = R.cn := by have := HK.out; omega
      go_wp2_with fail
      refine (cornerManySN_ok R hR A c B wr (hr.below (hP.bel.mono hB)) (Nat.le_trans hB hP.bel.size)).mono ?_
      rintro e w3 ⟨rfl, hb3⟩
      have hP3 := hP.below hb3
      clear hP hb3 b0 b1 b2 HK
      go_wp2_with fail
      go_loopg [6, 8] (R.cn + 1) (fun r s6 s8 wr => ∃ (gf : Bool) (O : List Int) (fs : Int), s8 = .bool gf ∧ s6 = .int .i64 fs ∧ PG w wr R A c g cc O ∧ (gf = true → n99 O < r) ∧ O.length = R.cn ∧
        ((fs = -1 ∧ gf = true ∧ O = List.replicate R.cn 99) ∨ (fs = (R.ci x0 y0 : Nat) ∧ Gr Hh O ∧ O.getD (R.ci x0 y0) 0 ≠ 99 ∧ (gf = false → O = Hh))))
      case atStart => exact ⟨true, O, -1, rfl, rfl, hP3, fun _ => by rw [HO.out, n99_rep]; omega, HOL.out, .inl ⟨rfl, rfl, HO.out⟩⟩
      case round =>
        clear hP3 HO HOL O
        obtain ⟨gf, O0, fs0, rfl, rfl, hP, hr0, hl0, hor⟩ := hrel
        have HR0 := Lib.hid hr0
        have HL0 := Lib.hid hl0
        have HOR := Lib.hid hor
        clear hr0 hl0 hor
        cases gf with
        | false =>
          have hO : O0 = Hh := by
            rcases HOR.out with ⟨_, h, _⟩ | ⟨_, _, _, h⟩
            · cases h
            · exact h rfl
          have HOO := Lib.hid hO
          clear hO
          go_wp2_with fail
          go_ret
          refine ⟨some ⟨g, 0, none⟩, cc, ?_, ?_, ?_, hP.bel⟩
          · rw [← HOO.out, HL0.out]; rfl
          · rw [← HOO.out]
            rcases hP.own.2 with ⟨h, _⟩ | ⟨_, _, _, hv, _, _, h, _⟩
            · simp at h
            · simp only [Value.slice.injEq, true_and] at hv
              rw [hv.2]; exact h
          · rw [← HOO.out]
            exact own_mono hP.own (by omega)
        | true =>
          have hst0 : FS R L Hh O0 O0 x0 y0 0 false fs0 := by
            rcases HOR.out with ⟨h1, _, h2⟩ | ⟨h1, h2, h3, _⟩
            · exact .inl ⟨h1, h2, rfl, rfl, rfl⟩
            · exact .inr ⟨h1, grmid_start h2, h3⟩
          have HST0 := Lib.hid hst0
          clear hst0 HOR
          go_wp2_with fail
          obtain ⟨gk0, rfl⟩ : ∃ gk0 : Nat, gk0 = gk := ⟨_, rfl⟩
          obtain ⟨wo, rfl⟩ : ∃ wo : World, wo = wr := ⟨_, rfl⟩
          go_loopg [6, 8, 9] R.cn (fun r s6 s8 s9 wr => ∃ (q : Nat) (gf : Bool) (O : List Int) (fs : Int), q + r = R.cn ∧ s9 = .int .i64 (q : Nat) ∧ s8 = .bool gf ∧ s6 = .int .i64 fs ∧ PG w wr R A c g cc O ∧ O.length = R.cn ∧ FS R L Hh O0 O x0 y0 (sidesTo R q).length gf fs)
          case atStart => exact ⟨0, false, O0, fs0, by omega, rfl, rfl, rfl, hP, HL0.out, by simpa [sidesTo] using HST0.out⟩
          case round =>
            clear hP HST0
            obtain ⟨q, gf, O, fs, hq, rfl, rfl, rfl, hP, hlO, hFS⟩ := hrel
            have HQ := Lib.hid hq
            have HLO := Lib.hid hlO
            have HFS := Lib.hid hFS
            clear hq hlO hFS
            by_cases hlt2 : q < R.cn
            · obtain ⟨x, y, hx, hy, rfl⟩ : ∃ x y : Nat, x ≤ R.W ∧ y ≤ R.T ∧ q = R.ci x y := ⟨_, _, (ci_in hlt2).1, (ci_in hlt2).2, (ci_of R q).symm⟩
              go_wp2_with fail
              obtain ⟨gk1, rfl⟩ : ∃ gk1 : Nat, gk1 = gk := ⟨_, rfl⟩
              obtain ⟨wo1, rfl⟩ : ∃ wo1 : World, wo1 = wr := ⟨_, rfl⟩
              go_loopg [6, 8, 10] 2 (fun r s6 s8 s10 wr => ∃ (t : Nat) (gf : Bool) (O : List Int) (fs : Int), t + r = 2 ∧ s10 = .int .i64 (t : Nat) ∧ s8 = .bool gf ∧ s6 = .int .i64 fs ∧ PG w wr R A c g cc O ∧ O.length = R.cn ∧ FS R L Hh O0 O x0 y0 (kN R x y t) gf fs)
              case atStart => exact ⟨0, gf, O, fs, by omega, rfl, rfl, rfl, hP, HLO.out, by rw [kN_zero]; exact HFS.out⟩
              case round =>
                clear hP HLO HFS O fs gf
                obtain ⟨t, gf, O, fs, ht, rfl, rfl, rfl, hP, hlO, hFS⟩ := hrel
                have HT := Lib.hid ht
                have HLO := Lib.hid hlO
                have HFS := Lib.hid hFS
                clear ht hlO hFS
                by_cases htl : t ≤ 1
                · obtain ⟨nb, hnb⟩ : ∃ nb, ((t : Int) == 1) = nb := ⟨_, rfl⟩
                  have htl2 : decide ((t : Int) < 2) = true := decide_eq_true (by omega)
                  obtain ⟨b0, b1, b2⟩ := hP.rcells
                  have HE := fun w' (h : Below w.heap.size w w') => hide (edge_any R hR A c B x y t nb htl hnb hx hy w' (hr.below (h.mono hB)) (Nat.le_trans hB h.size))
                  cases hu : usedOf R x y t with
                  | false =>
                    have HFS2 := HFS.out
                    rw [kN_le R x y htl] at HFS2
                    have hk2 := kN_next R y hx htl
                    rw [hu] at hk2
                    simp only [Bool.false_eq_true, if_false, Nat.add_zero] at hk2
                    rw [← hk2] at HFS2
                    have HF2 := Lib.hid HFS2
                    simp only [hu] at HE
                    clear hu HFS HFS2 hk2
                    go_wp2_with fail
                    refine (unhide (HE _ hP.bel)).mono ?_
                    rintro e w5 ⟨rfl, hb5⟩
                    go_wp2_with fail
                    go_roundg (2 - (t + 1))
                    case measure => have := HT.out; omega
                    case rel => exact ⟨t + 1, gf, O, fs, by have := HT.out; omega, by go_num, rfl, rfl, hP.below hb5, HLO.out, HF2.out⟩
                  | true =>
                    have hkat := sdOf_at hx hy htl hu
                    have hkn := kN_next R y hx htl
                    rw [hu] at hkn
                    simp only [if_true] at hkn
                    have hFS2 := HFS.out
                    rw [kN_le R x y htl] at hFS2
                    have hff := sdOf_f R x y t
                    have hfi : kOf R x y t = 0 → First R x y := fun h => first_of hR hS.1 hx hy htl h hu
                    simp only [hu] at HE
                    generalize sdOf R x y t = s at *
                    obtain ⟨f, tt, hst⟩ := side_ht hR hS.1 hL hF hH (List.mem_of_getElem? hkat)
                    have hfe := hst.fe
                    rw [hff] at hfe
                    obtain rfl : f = R.ci x y := by omega
                    have hte := hst.te
                    simp only [hte] at HE
                    have HCS := Lib.hid (cross_split hR (L := L) s.lx s.ly s.rx s.ry)
                    have hrs := rise_sby R L s
                    have HRI := fun w' => hide (rise_any_S (decide (sg s.lx s.ly = 1)) (crossB R L s.lx s.ly s.rx s.ry) w')
                    simp only [hrs] at HRI
                    have HKN := Lib.hid hkn
                    have HKA := Lib.hid hkat
                    have HST := Lib.hid hst
                    have HF2 := Lib.hid hFS2
                    have HFI := Lib.hid hfi
                    have hfl := hst.fl
                    have htl3 := hst.tl
                    have hne := hst.ne
                    clear hkn hkat hFS2 hff hfi hfe hte hrs hu HFS hst
                    generalize crossB R L s.lx s.ly s.rx s.ry = cb at *
                    generalize decide (sg s.lx s.ly = 1) = dk at *
                    generalize (R.at s.lx s.ly && R.at s.rx s.ry) = bo at *
                    generalize ixOf R s.lx s.ly = ia at *
                    generalize ixOf R s.rx s.ry = ib at *
                    obtain ⟨bb, hbb⟩ : ∃ bb, decide (fs < 0) = bb := ⟨_, rfl⟩
                    have HBB := Lib.hid hbb
                    go_wp2_with fail
                    refine (unhide (HE _ hP.bel)).mono ?_
                    rintro e w5 ⟨rfl, hb5⟩
                    have hP5 := hP.below hb5
                    clear hP hb5 HE b0 b1 b2
                    go_upto_if 65 with fail
                    go_cut [6] (fun s6 wx => s6 = .int .i64 (R.ci x0 y0 : Nat) ∧ ∃ O' : List Int, PG w wx R A c g cc O' ∧ O'.length = R.cn ∧ Mid2 R L Hh O0 O' (kOf R x y t) gf (R.ci x y) tt ∧ O'.getD (R.ci x0 y0) 0 ≠ 99)
                    case first =>
                      cases bb with
                      | true =>
                        have hA : fs = -1 ∧ O = List.replicate R.cn 99 ∧ O0 = O ∧ gf = false ∧ kOf R x y t = 0 := by
                          rcases HF2.out with h | ⟨h, _⟩
                          · exact h
                          · have := of_decide_eq_true HBB.out; omega
                        obtain ⟨_, hA2, hA3, _, hA5⟩ := hA
                        have hfirst := HFI.out hA5
                        obtain ⟨e1, e2⟩ := first_one hfirst H0.out
                        have hci : R.ci x y = R.ci x0 y0 := by rw [e1, e2]
                        have hm := mid2_new (R := R) (L := L) (k := kOf R x y t) (g := gf) hH H0.out hci hne htl3
                        have hO1 : O.set (R.ci x y) 0 = (List.replicate R.cn 99).set (R.ci x0 y0) 0 := by rw [hA2, hci]
                        have hO2 : O0 = List.replicate R.cn 99 := by rw [hA3, hA2]
                        have HM := Lib.hid hm
                        have HO1 := Lib.hid hO1
                        have HO2 := Lib.hid hO2
                        have HCI := Lib.hid hci
                        have oc := hP5.ocell (j := R.ci x y) (by rw [HLO.out]; exact hfl)
                        have of := hP5.free (R.ci x y)
                        have hP6 := hP5.set (R.ci x y) 0
                        clear hA2 hA3 hA5 hfirst e1 e2 hci hm hO1 hO2
                        go_wp2_with fail
                        go_meet
                        refine ⟨by rw [HCI.out], _, hP6, by rw [List.length_set]; exact HLO.out, ?_, ?_⟩
                        · rw [HO1.out, HO2.out]; exact HM.out
                        · rw [HO1.out, getD_set (by simp; have := ci_lt H0.out.1 H0.out.2.1; exact this), if_pos rfl]; decide
                      | false =>
                        have hB' : fs = (R.ci x0 y0 : Nat) ∧ GrMid R L Hh O0 O (kOf R x y t) gf ∧ O.getD (R.ci x0 y0) 0 ≠ 99 := by
                          rcases HF2.out with ⟨h, _⟩ | h
                          · have := of_decide_eq_false HBB.out; omega
                          · exact h
                        have HB' := Lib.hid hB'
                        clear hB'
                        go_wp2_with fail
                        go_meet
                        exact ⟨by rw [HB'.out.1], O, hP5, HLO.out, mid2_old HB'.out.2.1, HB'.out.2.2⟩
                    case rest =>
                      obtain ⟨rfl, O', hP6, hlO', hM2, hN⟩ := hcut
                      have HLO' := Lib.hid hlO'
                      have HM2 := Lib.hid hM2
                      have HN := Lib.hid hN
                      clear hP5 HF2 HFI HBB hbb hlO' hM2 hN
                      obtain ⟨wa, rfl⟩ : ∃ wa : World, wa = wc := ⟨_, rfl⟩
                      obtain ⟨b0, b1, b2⟩ := hP6.rcells
                      go_upto_region 23 with fail
                      go_cut [17] (fun s wx => s = .bool cb ∧ Below wa.heap.size wa wx)
                      case first =>
                        rcases HCS.out with ⟨h1, h2⟩ | ⟨ja, h1, h2, h3⟩ | ⟨ja, jb, h1, h2, h3, h4, h5⟩
                        · have hz : decide (0 ≤ ia) = false := by rw [h1]; decide
                          have H2 := Lib.hid h2
                          clear h1 h2
                          go_big_quiet (fail)
                          go_wp2_with fail
                          go_meet
                          exact ⟨by rw [H2.out], below_drewN (Below.refl _ _) _⟩
                        · have hz : decide (0 ≤ ia) = true := by rw [h1]; exact decide_eq_true (by omega)
                          have hz2 : decide (0 ≤ ib) = false := by rw [h2]; decide
                          have H3 := Lib.hid h3
                          clear h1 h2 h3
                          go_big_quiet (fail)
                          go_wp2_with fail
                          go_meet
                          exact ⟨by rw [H3.out], below_drewN (Below.refl _ _) _⟩
                        · have hz2 : decide (0 ≤ ib) = true := by rw [h2]; exact decide_eq_true (by omega)
                          obtain ⟨ad', e1, _, hcell⟩ := (hd.below (hP6.bel.mono hB)).getI (k := ja) (by rw [hL.len]; exact h3)
                          injection e1 with e1
                          subst e1
                          have hjl : ja < L.length := by rw [hL.len]; exact h3
                          have hst2 := fun w' => hide (stepS_any R hR A R.C.length c ja h3 (L.getD ja 0) w')
                          generalize L.getD ja 0 = v at *
                          generalize R.step ja v = z at *
                          have H5 := Lib.hid h5
                          have H2 := Lib.hid h2
                          clear h5 h2
                          subst h1
                          have hz : decide (0 ≤ (ja : Int)) = true := decide_eq_true (by omega)
                          go_region_held3 (fun w' => w'.cell? (ad.add ja) = some (Value.int IntKind.i64 v) ∧ w'.cell? ⟨w.heap.size, 0, none⟩ = some (.int .i64 R.W) ∧ w'.cell? ⟨w.heap.size, 1, none⟩ = some (.int .i64 R.T) ∧ w'.cell? ⟨w.heap.size, 2, none⟩ = some (.slice A R.C.length c))
                            (first | exact ⟨hcell, b0, b1, b2⟩ | exact ⟨cell_kept (w := wa.drew) hcell hb6, cell_kept (w := wa.drew) b0 hb6, cell_kept (w := wa.drew) b1 hb6, cell_kept (w := wa.drew) b2 hb6⟩)
                            (first
                              | (go_at_call 111; refine (unhide (hst2 _)).mono ?_; rintro e w6 ⟨rfl, hb6⟩))
                          go_wp2_with fail
                          go_meet
                          exact ⟨by rw [H5.out, H2.out], ((Below.refl wa.heap.size wa).drew).trans hb6⟩
                      case rest =>
                        obtain ⟨rfl, hb7⟩ := hcut
                        have hP7 := hP6.below hb7
                        clear hP6 hb7 b0 b1 b2 HCS
                        have hst := HST.out
                        have oc := hP7.ocell (j := R.ci x y) (by rw [HLO'.out]; exact hfl)
                        have ot := hP7.ocell (j := tt) (by rw [HLO'.out]; exact htl3)
                        have ff := hP7.free (R.ci x y)
                        have ft := hP7.free tt
                        obtain ⟨z1, z2⟩ := hst.fb
                        obtain ⟨z3, z4⟩ := hst.tb
                        have z5 := hst.by_
                        have hOf := HM2.out.gr.ok (R.ci x y)
                        have hOt := HM2.out.gr.ok tt
                        have y1 : -200 ≤ sby R L s := by omega
                        have y2 : sby R L s ≤ 200 := by omega
                        have y3 : -200 ≤ O'.getD (R.ci x y) 0 := by omega
                        have y4 : O'.getD (R.ci x y) 0 ≤ 200 := by omega
                        have y5 : -200 ≤ O'.getD tt 0 := by omega
                        have y6 : O'.getD tt 0 ≤ 200 := by omega
                        have hS1 : (O'.getD (R.ci x y) 0 ≠ 99 → O'.getD tt 0 = 99 → O'.getD (R.ci x y) 0 + sby R L s = Hh.getD tt 0 ∧ GrMid R L Hh O0 (O'.set tt (Hh.getD tt 0)) (kOf R x y t + 1) true) := fun h1 h2 => mid2_t hH.len HM2.out hst h1 h2
                        have hS2 : (O'.getD tt 0 ≠ 99 → O'.getD (R.ci x y) 0 = 99 → O'.getD tt 0 - sby R L s = Hh.getD (R.ci x y) 0 ∧ GrMid R L Hh O0 (O'.set (R.ci x y) (Hh.getD (R.ci x y) 0)) (kOf R x y t + 1) true) := fun h1 h2 => mid2_f hH.len HM2.out hst h1 h2
                        have hS3 : ((O'.getD (R.ci x y) 0 = 99 ↔ O'.getD tt 0 = 99) → GrMid R L Hh O0 O' (kOf R x y t + 1) gf) := fun h => mid2_skip HM2.out HKA.out hst h
                        have HS1 := Lib.hid hS1
                        have HS2 := Lib.hid hS2
                        have HS3 := Lib.hid hS3
                        have Z3 : Hh.getD tt 0 ≠ 99 := by omega
                        have Z1 : Hh.getD (R.ci x y) 0 ≠ 99 := by omega
                        have HZ3 := Lib.hid Z3
                        have HZ1 := Lib.hid Z1
                        clear hS1 hS2 hS3 z1 z2 z3 z4 z5 hOf hOt hst Z3 Z1
                        generalize hvf : O'.getD (R.ci x y) 0 = vf at *
                        generalize hvt : O'.getD tt 0 = vt at *
                        have HVF := Lib.hid hvf
                        have HVT := Lib.hid hvt
                        clear hvf hvt
                        by_cases e1 : vf = 99
                        · by_cases e2 : vt = 99
                          · have f1 : (vf != 99) = false := by simpa using e1
                            have f3 : (vt != 99) = false := by simpa using e2
                            have HG3 := Lib.hid (HS3.out ⟨fun _ => e2, fun _ => e1⟩)
                            clear e1 e2
                            go_wp2_with (go_at_call 136; refine (unhide (HRI _)).mono ?_; rintro e w8 ⟨rfl, rfl⟩)
                            go_roundg (2 - (t + 1))
                            case measure => have := HT.out; omega
                            case rel => exact ⟨t + 1, gf, O', _, by have := HT.out; omega, by go_num, rfl, rfl, hP7, HLO'.out, by rw [HKN.out]; exact .inr ⟨rfl, HG3.out, HN.out⟩⟩
                          · have f1 : (vf != 99) = false := by simpa using e1
                            have f2 : (vf == 99) = true := by simpa using e1
                            have f3 : (vt != 99) = true := by simpa using e2
                            obtain ⟨g1, g2⟩ := HS2.out e2 e1
                            have hN2 : (O'.set (R.ci x y) (Hh.getD (R.ci x y) 0)).getD (R.ci x0 y0) 0 ≠ 99 := by
                              rw [getD_set (by rw [HLO'.out]; exact hfl)]
                              split
                              · exact HZ1.out
                              · exact HN.out
                            have hP9 := hP7.set (R.ci x y) (vt - sby R L s)
                            have HG2 := Lib.hid g2
                            have HN2 := Lib.hid hN2
                            have G1 := Lib.hid g1
                            clear e1 e2 g1 g2 hN2
                            go_wp2_with (go_at_call 136; refine (unhide (HRI _)).mono ?_; rintro e w8 ⟨rfl, rfl⟩)
                            go_roundg (2 - (t + 1))
                            case measure => have := HT.out; omega
                            case rel => exact ⟨t + 1, true, O'.set (R.ci x y) (Hh.getD (R.ci x y) 0), _, by have := HT.out; omega, by go_num, rfl, rfl, by rw [← G1.out]; exact hP9, by rw [List.length_set]; exact HLO'.out, by rw [HKN.out]; exact .inr ⟨rfl, HG2.out, HN2.out⟩⟩
                        · by_cases e2 : vt = 99
                          · have f1 : (vf != 99) = true := by simpa using e1
                            have f2 : (vf == 99) = false := by simpa using e1
                            have f3 : (vt == 99) = true := by simpa using e2
                            obtain ⟨g1, g2⟩ := HS1.out e1 e2
                            have f4 : (vf + sby R L s != 99) = true := by rw [g1]; simpa using HZ3.out
                            have hN2 : (O'.set tt (Hh.getD tt 0)).getD (R.ci x0 y0) 0 ≠ 99 := by
                              rw [getD_set (by rw [HLO'.out]; exact htl3)]
                              split
                              · exact HZ3.out
                              · exact HN.out
                            have hP9 := hP7.set tt (vf + sby R L s)
                            have HG2 := Lib.hid g2
                            have HN2 := Lib.hid hN2
                            have G1 := Lib.hid g1
                            clear e1 e2 g1 g2 hN2
                            go_wp2_with (go_at_call 136; refine (unhide (HRI _)).mono ?_; rintro e w8 ⟨rfl, rfl⟩)
                            go_roundg (2 - (t + 1))
                            case measure => have := HT.out; omega
                            case rel => exact ⟨t + 1, true, O'.set tt (Hh.getD tt 0), _, by have := HT.out; omega, by go_num, rfl, rfl, by rw [← G1.out]; exact hP9, by rw [List.length_set]; exact HLO'.out, by rw [HKN.out]; exact .inr ⟨rfl, HG2.out, HN2.out⟩⟩
                          · have f1 : (vf != 99) = true := by simpa using e1
                            have f2 : (vf == 99) = false := by simpa using e1
                            have f3 : (vt != 99) = true := by simpa using e2
                            have f4 : (vt == 99) = false := by simpa using e2
                            have HG3 := Lib.hid (HS3.out ⟨fun h => absurd h e1, fun h => absurd h e2⟩)
                            clear e1 e2
                            go_wp2_with (go_at_call 136; refine (unhide (HRI _)).mono ?_; rintro e w8 ⟨rfl, rfl⟩)
                            go_roundg (2 - (t + 1))
                            case measure => have := HT.out; omega
                            case rel => exact ⟨t + 1, gf, O', _, by have := HT.out; omega, by go_num, rfl, rfl, hP7, HLO'.out, by rw [HKN.out]; exact .inr ⟨rfl, HG3.out, HN.out⟩⟩
                · have htn : decide ((t : Int) < 2) = false := decide_eq_false (by omega)
                  have ht2 : t = 2 := by have := HT.out; omega
                  have hFS2 := HFS.out
                  rw [ht2, kN_two] at hFS2
                  have HF2 := Lib.hid hFS2
                  clear hFS2 ht2 HFS
                  go_wp2_with fail
                  go_roundg (R.cn - (R.ci x y + 1))
                  case measure => have := HQ.out; omega
                  case rel => exact ⟨R.ci x y + 1, gf, O, fs, by have := HQ.out; omega, by go_num, rfl, rfl, hP, HLO.out, HF2.out⟩
            · have hq2 : q = R.cn := by have := HQ.out; omega
              have hFS2 := HFS.out
              rw [hq2] at hFS2
              have hB' : fs = (R.ci x0 y0 : Nat) ∧ GrMid R L Hh O0 O (sidesOf R).length gf ∧ O.getD (R.ci x0 y0) 0 ≠ 99 := by
                rcases hFS2 with ⟨_, _, _, _, h⟩ | h
                · have := sides_pos hR hS.1
                  unfold sidesOf at this
                  omega
                · exact h
              have HB' := Lib.hid hB'
              clear hq2 hFS2 hB' HFS
              go_wp2_with fail
              cases gf with
              | true =>
                have hlt3 := HB'.out.2.1.yes rfl
                have hr0 := HR0.out trivial
                go_roundg (n99 O + 1)
                case measure => omega
                case rel => exact ⟨true, O, fs, rfl, rfl, hP, fun _ => by omega, HLO.out, .inr ⟨HB'.out.1, HB'.out.2.1.gr, HB'.out.2.2, (fun h => by cases h)⟩⟩
              | false =>
                have he := grmid_end hR hS.1 hL hF hH H0.out HB'.out.2.2 HB'.out.2.1
                have hr0 := HR0.out trivial
                go_roundg 0
                case measure => omega
                case rel => exact ⟨false, O, fs, rfl, rfl, hP, (fun h => by cases h), HLO.out, .inr ⟨HB'.out.1, HB'.out.2.1.gr, HB'.out.2.2, fun _ => he⟩⟩

theorem ownInts_empty {w : World} {W T : Int} {A : Option Addr} {n c : Nat} {w2 : World} (hb : Below ((w.alloc (boxR W T A n c)).alloc (.cells #[] 3)).heap.size ((w.alloc (boxR W T A n c)).alloc (.cells #[] 3)) w2) :
    Below w.heap.size w w2 ∧ w2.ownsRow w.heap.size 3 1 (.slice (some ⟨w.heap.size + 1, 0, none⟩) 0 0) 0 (([] : List Int).map (Value.int .i64)) ∧ Blk w2 w.heap.size 25 #[.int .i64 W, .int .i64 T, .slice A n c] := by
  have h0 : Below w.heap.size w ((w.alloc (boxR W T A n c)).alloc (.cells #[] 3)) := ((Below.refl _ _).alloc (Nat.le_refl _) _).alloc (by simp) _
  have ho := World.ownsRow_made (base := w.heap.size) (e := 3) (size := 1) (w.alloc (boxR W T A n c)) #[] 0 (by simp) (by simp [maxLen]) (by simp)
  refine ⟨h0.trans (hb.mono (by simp; omega)), own_below (by simpa using ho) hb (Nat.le_refl _), ((Blk.new w _ _).alloc _).below hb (by simp; omega)⟩

theorem heightsOfS_any (W T : Int) (A : Option Addr) (n c B : Nat) (bs : List Bool) (L : List Int) (D : Option Addr) (m d : Nat) (w : World) (hbl : bs.length = n) (hL : L.length = m)
    (hr : Reads w B 1 A n (bs.map Value.bool)) (hd : Reads w B 1 D m (L.map (Value.int .i64))) (hB : B ≤ w.heap.size) (hn : n ≤ 9223372036854775807) (hm : m ≤ 9223372036854775807) :
    Calls Try.prog 69 #[.agg #[.int .i64 W, .int .i64 T, .slice A n c], .slice D m d] w (OwnInts w (htsOf W T bs L)) := by
  cases ht : tiledB W T bs L with
  | true =>
    obtain ⟨R, hR, rfl, rfl, rfl, hS, hLy, hF⟩ := tiled_cases ht
    subst hbl hL
    exact heightsOfS_ok R hR hS A c B L D d hLy hF _ (htsOf_yes hR hS hLy hF) w hr hd hB
  | false =>
    rw [htsOf_no ht]
    have hSI := fun w' (h : Below w.heap.size w w') => hide (SimpleS_any W T A n c B bs w' (hr.below (h.mono hB)) (Nat.le_trans hB h.size) hn)
    have hTI := fun w' (h : Below w.heap.size w w') => hide (tilingOkS_any W T A n c B bs L D m d w' hbl hL (hr.below (h.mono hB)) (hd.below (h.mono hB)) (Nat.le_trans hB h.size) hn hm)
    have hb0 : Below w.heap.size w ((w.alloc (boxR W T A n c)).alloc (.cells #[] 3)) := ((Below.refl _ _).alloc (Nat.le_refl _) _).alloc (by simp) _
    cases hs : simpleB W T bs with
    | false =>
      simp only [hs] at hSI
      clear ht hs hTI
      go_enter Try.func69, Try.ntmps69
      go_wp2_with fail
      refine (unhide (hSI _ hb0)).mono ?_
      rintro e w0 ⟨rfl, hb⟩
      obtain ⟨q1, q2, q3⟩ := ownInts_empty hb
      go_wp2_with fail
      go_ret
      exact ⟨_, 0, rfl, Nat.le_refl _, q2, q1⟩
    | true =>
      have htf : tilingB W T bs L = false := by
        unfold tiledB at ht
        rw [hs, Bool.true_and] at ht
        exact ht
      simp only [hs] at hSI
      simp only [htf] at hTI
      clear ht hs htf
      go_enter Try.func69, Try.ntmps69
      go_wp2_with fail
      refine (unhide (hSI _ hb0)).mono ?_
      rintro e w0 ⟨rfl, hb⟩
      obtain ⟨q1, q2, q3⟩ := ownInts_empty hb
      have b0 := q3.cell 0
      have b1 := q3.cell 1
      have b2 := q3.cell 2
      simp at b0 b1 b2
      go_wp2_with fail
      refine (unhide (hTI _ q1)).mono ?_
      rintro e w1 ⟨rfl, hb1⟩
      go_wp2_with fail
      go_ret
      exact ⟨_, 0, rfl, Nat.le_refl _, own_mono (own_below q2 hb1 (Nat.le_refl _)) (Nat.le_refl _), q1.trans (hb1.mono q1.size)⟩

end Go.Proofs.Ythepfpiphlfgnaa
