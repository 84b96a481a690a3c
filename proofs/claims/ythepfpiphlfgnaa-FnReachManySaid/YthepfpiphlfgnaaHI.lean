/-
  YthepfpiphlfgnaaHI: the program's heights of a tiling of a simple region.
-/
import Derived.Test.YthepfpiphlfgnaaH2
import Derived.Test.YthepfpiphlfgnaaRep
import Derived.Test.YthepfpiphlfgnaaPo
namespace Go.Proofs.Ythepfpiphlfgnaa
open Go.RowKit

structure HW (w wr : World) (R : Reg) (A : Option Addr) (c g : Nat) (S : Option Addr) (sc : Nat) (O : List Int) : Prop where
  bel : Below w.heap.size w wr
  box : Blk wr w.heap.size 25 #[.int .i64 R.W, .int .i64 R.T, .slice A R.C.length c]
  out : wr.ownsRow (w.heap.size + 1) 3 1 (.slice (some ⟨g, 0, none⟩) R.cn R.cn) R.cn (O.map (Value.int .i64))
  sid : wr.ownsRow (w.heap.size + 1) 120 6 (.slice S (sidesOf R).length sc) (sidesOf R).length (sds (sidesOf R))
section
variable {w wr w2 : World} {R : Reg} {A S : Option Addr} {c g sc : Nat} {O : List Int}
theorem HW.below (H : HW w wr R A c g S sc O) (hb : Below wr.heap.size wr w2) : HW w w2 R A c g S sc O :=
  ⟨H.bel.trans (hb.mono H.bel.size), H.box.below hb H.box.lt, own_below H.out hb (Nat.le_refl _), own_below H.sid hb (Nat.le_refl _)⟩
theorem HW.glt (H : HW w wr R A c g S sc O) : w.heap.size < g ∧ g < wr.heap.size := by have := H.out.lt g rfl; omega
theorem HW.set (H : HW w wr R A c g S sc O) (j : Nat) (v : Int) : HW w (wr.setCell ⟨g, j, none⟩ (.int .i64 v)) R A c g S sc (O.set j v) := by
  have hg := H.glt
  refine ⟨H.bel.setCell (by simp; omega) _, H.box.far (p := ⟨g, j, none⟩) (by simp; omega) _, ?_, ownsRow_setCell_other H.sid (a := ⟨g, j, none⟩) ?_ _⟩
  · have := (H.out.stored j (.int .i64 v)).1
    rwa [← List.map_set] at this
  · rcases H.sid.2 with ⟨h0, _⟩ | ⟨g', cap, cur, hv, hb, hh, _⟩
    · rw [h0]; simp [Value.ownBlock]
    · rw [hv]
      simp only [Value.ownBlock, ne_eq, Option.some.injEq]
      rintro rfl
      rcases H.out.2 with ⟨h0, _⟩ | ⟨g2, cap2, cur2, hv2, _, hh2, _⟩
      · simp at h0
      · simp only [Value.slice.injEq, Option.some.injEq, Addr.mk.injEq, and_true, true_and] at hv2
        obtain ⟨rfl, _⟩ := hv2
        rw [hh] at hh2
        injection hh2 with hh2
        injection hh2 with _ ht
        exact absurd ht (by decide)
theorem HW.cells (H : HW w wr R A c g S sc O) : wr.cell? ⟨w.heap.size, 0, none⟩ = some (.int .i64 R.W) ∧ wr.cell? ⟨w.heap.size, 1, none⟩ = some (.int .i64 R.T) ∧ wr.cell? ⟨w.heap.size, 2, none⟩ = some (.slice A R.C.length c) := by
  have r0 := H.box.cell 0
  have r1 := H.box.cell 1
  have r2 := H.box.cell 2
  simp at r0 r1 r2
  exact ⟨r0, r1, r2⟩
theorem HW.ocell (H : HW w wr R A c g S sc O) {j : Nat} (hj : j < R.cn) : wr.cell? ⟨g, j, none⟩ = some (.int .i64 (O.getD j 0)) := by
  have hl : O.length = R.cn := by have := H.out.1; simpa using this
  rw [H.out.cellAt j (by omega), List.getElem?_map, List.getD_eq_getElem?_getD, List.getElem?_eq_getElem (by omega)]; rfl
theorem HW.scell (H : HW w wr R A c g S sc O) {k : Nat} {s : Sd} (hk : (sidesOf R)[k]? = some s) :
    ∃ q, S = some ⟨q, 0, none⟩ ∧ q < wr.heap.size ∧ wr.cell? ⟨q, k * 6, none⟩ = some (.int .i64 s.f) ∧ wr.cell? ⟨q, k * 6 + 1, none⟩ = some (.int .i64 s.t) ∧ wr.cell? ⟨q, k * 6 + 2, none⟩ = some (.int .i64 s.lx) ∧
      wr.cell? ⟨q, k * 6 + 3, none⟩ = some (.int .i64 s.ly) ∧ wr.cell? ⟨q, k * 6 + 4, none⟩ = some (.int .i64 s.rx) ∧ wr.cell? ⟨q, k * 6 + 5, none⟩ = some (.int .i64 s.ry) := by
  have hkl : k < (sidesOf R).length := (List.getElem?_eq_some_iff.1 hk).1
  obtain ⟨q, c', e, _, _, hq⟩ := own_shape H.sid (by omega)
  injection e with e1 e2 e3
  subst e1 e3
  have hc := H.sid.cells (g := q) rfl
  have h0 := hc (k * 6 + 0) _ (sds_at hk 0 _ rfl)
  have h1 := hc (k * 6 + 1) _ (sds_at hk 1 _ rfl)
  have h2 := hc (k * 6 + 2) _ (sds_at hk 2 _ rfl)
  have h3 := hc (k * 6 + 3) _ (sds_at hk 3 _ rfl)
  have h4 := hc (k * 6 + 4) _ (sds_at hk 4 _ rfl)
  have h5 := hc (k * 6 + 5) _ (sds_at hk 5 _ rfl)
  simp [Addr.add] at h0 h1 h2 h3 h4 h5
  refine ⟨q, rfl, hq, ?_, h1, h2, h3, h4, h5⟩
  by_cases hk0 : k = 0
  · subst hk0; simpa using h0
  · rw [if_neg (by omega)] at h0; exact h0
end

theorem least_eq {R : Reg} {k : Nat} {m m' : Int} (h : Least R k m) (e : m = m') : Least R k m' := e ▸ h

theorem cornersN_any (R : Reg) (hR : R.ok) (A : Option Addr) (k c : Nat) (w : World) :
    Calls Try.prog 90 #[.agg #[.int .i64 R.W, .int .i64 R.T, .slice A k c]] w fun e w' => e = .returned (.int .i64 R.cn) ∧ Below w.heap.size w w' := cornersI_any R hR A k c w

set_option maxHeartbeats 1000000 in
set_option maxRecDepth 100000 in
theorem heights_any (R : Reg) (hR : R.ok) (hS : SimpleP R) (A : Option Addr) (c B : Nat) (L : List Int) (D : Option Addr) (d : Nat) (hL : Lay R L) (hF : Full R L) (Hh : List Int) (hH : Hts R L Hh) (w : World)
    (hr : Reads w B 1 A R.C.length (R.C.map Value.bool)) (hd : Reads w B 1 D L.length (L.map (Value.int .i64))) (hB : B ≤ w.heap.size) :
    Calls Try.prog 80 #[.agg #[.int .i64 R.W, .int .i64 R.T, .slice A R.C.length c], .slice D L.length d] w (IntsRet w Hh) := by
  have hcn := cn_bd hR
  obtain ⟨hcn1, hcn2⟩ := hcn
  obtain ⟨x0, y0, h0⟩ := first_ex hR hS.1
  have H0 := Lib.hid h0
  clear h0
  have hlen : (sidesOf R).length ≤ 98 := by have := sidesTo_len R R.cn; unfold sidesOf; omega
  go_enter Try.func80, Try.ntmps80
  go_wp2_with (go_at_call 90; refine (cornersN_any R hR A R.C.length c _).mono ?_; rintro e w1 ⟨rfl, hb1⟩)
  refine (repeat_any (w.heap.size + 1) 1 99 R.cn (by omega) (by omega) w1 ?_).mono ?_
  · rw [hb1.cell (p := ⟨w.heap.size + 1, 0, none⟩) (by simp)]
    exact World.cell?_alloc_at (w := w.alloc _) #[.int .i64 99] 3 (w.heap.size + 1) 0 (by simp)
  rintro e w2 ⟨g, rfl, ho, hb2⟩
  have hz1 : w.heap.size + 1 + 1 ≤ w1.heap.size := by have := hb1.size; simpa using this
  have hB1 : Below w.heap.size w w1 := (((Below.refl _ _).alloc (Nat.le_refl _) _).alloc (by simp) _).trans (hb1.mono (by simp; omega))
  have hB2 := hB1.trans (hb2.mono hB1.size)
  have hk2 : Blk w2 w.heap.size 25 #[.int .i64 R.W, .int .i64 R.T, .slice A R.C.length c] :=
    (((Blk.new w _ _).alloc _).below hb1 (by simp; omega)).below hb2 (by omega)
  clear hb1 hb2
  have b0 := hk2.cell 0
  have b1 := hk2.cell 1
  have b2 := hk2.cell 2
  simp at b0 b1 b2
  simp only [List.length_replicate] at ho
  go_wp2_with fail
  refine (sides_any R hR A c B w2 (hr.below (hB2.mono hB)) (Nat.le_trans hB hB2.size)).mono ?_
  rintro e w3 ⟨v, rfl, hos, hb3⟩
  obtain ⟨S, sc, rfl, hsc, hrs⟩ := own_form hos
  have hW3 : HW w w3 R A c g S sc (List.replicate R.cn 99) :=
    ⟨hB2.trans (hb3.mono hB2.size), hk2.below hb3 hk2.lt, own_mono (own_below ho hb3 (Nat.le_refl _)) (by omega), own_mono hos (by have := hB2.size; have := ho.lt g rfl; omega)⟩
  clear b0 b1 b2 hk2 hrs hb3 hB2 hB1 hos ho hz1
  obtain ⟨b0, b1, b2⟩ := hW3.cells
  go_wp2_with (go_at_call 90; refine (cornersN_any R hR A R.C.length c _).mono ?_; rintro e w4 ⟨rfl, hb4⟩)
  have hW4 := hW3.below hb4
  clear hb4 hW3 b0 b1 b2
  go_loopg [7, 24] (sidesOf R).length (fun r s7 s24 wr => ∃ (k : Nat) (m : Int), k + r = (sidesOf R).length ∧ s24 = .int .i64 (k : Nat) ∧ s7 = .int .i64 m ∧ Least R k m ∧ HW w wr R A c g S sc (List.replicate R.cn 99))
  case atStart => exact ⟨0, _, by omega, rfl, rfl, least_start R, hW4⟩
  case round =>
    clear hW4
    obtain ⟨k, m, hk, rfl, rfl, hm, hW⟩ := hrel
    have HK := Lib.hid hk
    have HM := Lib.hid hm
    clear hk hm
    by_cases hlt : k < (sidesOf R).length
    · obtain ⟨s, hs⟩ : ∃ s, (sidesOf R)[k]? = some s := ⟨_, List.getElem?_eq_getElem hlt⟩
      obtain ⟨q, rfl, hab, c0, c1, c2, c3, c4, c5⟩ := hW.scell hs
      have HS := Lib.hid hs
      clear hs
      have hW2 := hW.below ((Below.refl _ _).alloc (Nat.le_refl _) (.cells #[.int .i64 s.f, .int .i64 s.t, .int .i64 s.lx, .int .i64 s.ly, .int .i64 s.rx, .int .i64 s.ry] 120))
      go_wp2_with fail
      all_goals
        go_roundg ((sidesOf R).length - (k + 1))
        case measure => have := HK.out; omega
        case rel => exact ⟨k + 1, _, by have := HK.out; omega, by go_num, rfl, least_eq (least_next HM.out HS.out) (by omega), hW2⟩
    · have hk : k = (sidesOf R).length := by have := HK.out; omega
      have hm : m = (R.ci x0 y0 : Nat) := least_end hR (by rw [← hk]; exact HM.out) H0.out
      subst hm
      have hl0 := ci_lt H0.out.1 H0.out.2.1
      have hne : (((R.ci x0 y0 : Nat) : Int) == (R.cn : Int)) = false := by simp; omega
      clear HM HK hk
      obtain ⟨b0, b1, b2⟩ := hW.cells
      have hG := gr_first hH H0.out
      have HG := Lib.hid hG
      clear hG
      go_wp2_with fail
      refine (cornersN_any R hR A R.C.length c wr).mono ?_
      rintro e w5 ⟨rfl, hb5⟩
      have hW5 := hW.below hb5
      have oc := hW5.ocell hl0
      have of := hW5.out.frozenAt (R.ci x0 y0)
      go_wp2_with fail
      have hW6 := hW5.set (R.ci x0 y0) 0
      have hne0 : ((List.replicate R.cn (99 : Int)).set (R.ci x0 y0) 0).getD (R.ci x0 y0) 0 ≠ 99 := by
        rw [getD_set (by simpa using hl0), if_pos rfl]; decide
      have HN := Lib.hid hne0
      clear hne0 hW hW5 hb5 b0 b1 b2 oc of hne hl0
      go_loopg [10] (n99 ((List.replicate R.cn (99 : Int)).set (R.ci x0 y0) 0) + 1) (fun r s10 wr => ∃ (gf : Bool) (O : List Int), s10 = .bool gf ∧ r = (if gf = true then n99 O + 1 else 0) ∧ HW w wr R A c g S sc O ∧ Gr Hh O ∧ O.getD (R.ci x0 y0) 0 ≠ 99 ∧ (gf = false → O = Hh))
      case atStart => exact ⟨true, _, rfl, by simp, hW6, HG.out, HN.out, fun h => by cases h⟩
      case round =>
        clear hW6 HG HN
        obtain ⟨gf, O0, rfl, hgk, hW, hG, hN, hE⟩ := hrel
        have HGK := Lib.hid hgk
        have HG := Lib.hid hG
        have HN := Lib.hid hN
        have HE := Lib.hid hE
        clear hgk hG hN hE
        cases gf with
        | false =>
          have hO := HE.out rfl
          subst hO
          clear HG HN HGK HE
          go_wp2_with fail
          go_ret
          have hlH : O0.length = R.cn := hH.len
          refine ⟨g, by rw [hlH]; rfl, ?_, hW.bel⟩
          rw [hlH]
          exact own_mono hW.out (by omega)
        | true =>
          go_wp2_with fail
          obtain ⟨wo, rfl⟩ : ∃ wo : World, wo = wr := ⟨_, rfl⟩
          obtain ⟨gk0, rfl⟩ : ∃ gk0 : Nat, gk0 = gk := ⟨_, rfl⟩
          go_loopg [10, 46] (sidesOf R).length (fun r s10 s46 wr => ∃ (k : Nat) (gf : Bool) (O : List Int), k + r = (sidesOf R).length ∧ s46 = .int .i64 (k : Nat) ∧ s10 = .bool gf ∧ HW w wr R A c g S sc O ∧ GrMid R L Hh O0 O k gf ∧ O.getD (R.ci x0 y0) 0 ≠ 99)
          case atStart => exact ⟨0, false, O0, by omega, rfl, rfl, hW, grmid_start HG.out, HN.out⟩
          case round =>
            clear hW HG HN HE
            obtain ⟨k, gf, O, hk, rfl, rfl, hW, hM, hN⟩ := hrel
            have HK := Lib.hid hk
            have HM := Lib.hid hM
            have HN := Lib.hid hN
            clear hk hM hN
            by_cases hlt : k < (sidesOf R).length
            · obtain ⟨s, hs⟩ : ∃ s, (sidesOf R)[k]? = some s := ⟨_, List.getElem?_eq_getElem hlt⟩
              obtain ⟨f, t, hst⟩ := side_ht hR hS.1 hL hF hH (List.mem_of_getElem? hs)
              obtain ⟨q, rfl, hab, c0, c1, c2, c3, c4, c5⟩ := hW.scell hs
              have HS := Lib.hid hs
              have HST := Lib.hid hst
              rw [hst.fe] at c0
              rw [hst.te] at c1
              obtain ⟨bx1, bx2, by1, by2, bx3, bx4, by3, by4⟩ := hst.bd
              have hRI := fun w' => hide (rise_any f t s.lx s.ly s.rx s.ry ⟨bx1, bx2⟩ ⟨by1, by2⟩ w')
              have hCR := fun w' (h : Below w.heap.size w w') => hide (crossed_any R hR A c B L D d hL.len f t s.lx s.ly s.rx s.ry ⟨bx1, bx2⟩ ⟨by1, by2⟩ ⟨bx3, bx4⟩ ⟨by3, by4⟩ w' (hr.below (h.mono hB)) (hd.below (h.mono hB)) (Nat.le_trans hB h.size))
              have hsby : sby R L s = if crossB R L s.lx s.ly s.rx s.ry = true then -3 * sg s.lx s.ly else sg s.lx s.ly := rfl
              have hsg := sg_or s.lx s.ly
              have hsg1 : -1 ≤ sg s.lx s.ly := by omega
              have hsg2 : sg s.lx s.ly ≤ 1 := by omega
              have HSB := Lib.hid hsby
              obtain ⟨b0, b1, b2⟩ := hW.cells
              generalize sg s.lx s.ly = sgv at *
              clear hs hst hsby hsg
              go_upto_region 19 with (go_at_call 146; refine (unhide (hRI _)).mono ?_; rintro e w7 ⟨rfl, hb7⟩)
              have hbs : Blk w7 wr.heap.size 120 #[.int .i64 f, .int .i64 t, .int .i64 s.lx, .int .i64 s.ly, .int .i64 s.rx, .int .i64 s.ry] := (Blk.new wr _ _).below hb7 (by simp)
              have hW7 : HW w w7 R A c g (some ⟨q, 0, none⟩) sc O := hW.below (((Below.refl _ _).alloc (Nat.le_refl _) _).trans (hb7.mono (by simp)))
              clear hb7 hRI b0 b1 b2 c0 c1 c2 c3 c4 c5 hW
              obtain ⟨b0, b1, b2⟩ := hW7.cells
              have s0 := hbs.cell 0
              have s1 := hbs.cell 1
              have s2 := hbs.cell 2
              have s3 := hbs.cell 3
              have s4 := hbs.cell 4
              have s5 := hbs.cell 5
              simp at s0 s1 s2 s3 s4 s5
              go_upto_if 55 with (go_at_call 147; refine (unhide (hCR _ hW7.bel)).mono ?_; rintro e w8 ⟨rfl, hb8⟩)
              have hW8 := hW7.below hb8
              have hbs8 := hbs.below hb8 hbs.lt
              clear hW7 hbs hb8 b0 b1 b2 s0 s1 s2 s3 s4 s5 hCR
              go_cut [13] (fun s13 wx => s13 = .int .i64 (sby R L s) ∧ wx = w8)
              case first =>
                generalize crossB R L s.lx s.ly s.rx s.ry = cb at *
                cases cb with
                | true =>
                  go_wp2_with fail
                  go_meet
                  exact ⟨by rw [HSB.out]; simp, rfl⟩
                | false =>
                  go_wp2_with fail
                  go_meet
                  exact ⟨by rw [HSB.out]; simp, rfl⟩
              case rest =>
                obtain ⟨rfl, rfl⟩ := hcut
                clear HSB hsg1 hsg2
                have s0 := hbs8.cell 0
                have s1 := hbs8.cell 1
                simp at s0 s1
                have hst := HST.out
                have of := hW8.ocell hst.fl
                have ot := hW8.ocell hst.tl
                have ff := hW8.out.frozenAt f
                have ft := hW8.out.frozenAt t
                have hfl := hst.fl
                have htl := hst.tl
                have hne := hst.ne
                have hfn := hW8.glt
                obtain ⟨z1, z2⟩ := hst.fb
                obtain ⟨z3, z4⟩ := hst.tb
                have z5 := hst.by_
                have hOf := HM.out.gr.ok f
                have hOt := HM.out.gr.ok t
                have HOK := Lib.hid (⟨hOf, hOt⟩ : _ ∧ _)
                have y1 : -200 ≤ sby R L s := by omega
                have y2 : sby R L s ≤ 200 := by omega
                have y3 : -200 ≤ O.getD f 0 := by omega
                have y4 : O.getD f 0 ≤ 200 := by omega
                have y5 : -200 ≤ O.getD t 0 := by omega
                have y6 : O.getD t 0 ≤ 200 := by omega
                have hS1 : (O.getD f 0 ≠ 99 → O.getD t 0 = 99 → O.getD f 0 + sby R L s = Hh.getD t 0 ∧ GrMid R L Hh O0 (O.set t (Hh.getD t 0)) (k + 1) true) := fun h1 h2 => grmid_t hH.len HM.out hst h1 h2
                have hS2 : (O.getD t 0 ≠ 99 → O.getD f 0 = 99 → O.getD t 0 - sby R L s = Hh.getD f 0 ∧ GrMid R L Hh O0 (O.set f (Hh.getD f 0)) (k + 1) true) := fun h1 h2 => grmid_f hH.len HM.out hst h1 h2
                have hS3 : ((O.getD f 0 = 99 ↔ O.getD t 0 = 99) → GrMid R L Hh O0 O (k + 1) gf) := fun h => grmid_skip HM.out HS.out hst h
                have HS1 := Lib.hid hS1
                have HS2 := Lib.hid hS2
                have HS3 := Lib.hid hS3
                clear hS1 hS2 hS3 z1 z2 z3 z4 z5 hOf hOt hst
                generalize hvf : O.getD f 0 = vf at *
                generalize hvt : O.getD t 0 = vt at *
                have HVF := Lib.hid hvf
                have HVT := Lib.hid hvt
                clear hvf hvt
                by_cases e1 : vf = 99
                · by_cases e2 : vt = 99
                  · have f1 : (vf != 99) = false := by simpa using e1
                    have f2 : (vf == 99) = true := by simpa using e1
                    have f3 : (vt != 99) = false := by simpa using e2
                    have HG3 := Lib.hid (HS3.out ⟨fun _ => e2, fun _ => e1⟩)
                    clear e1 e2
                    go_wp2_with fail
                    go_roundg ((sidesOf R).length - (k + 1))
                    case measure => have := HK.out; omega
                    case rel => exact ⟨k + 1, gf, O, by have := HK.out; omega, by go_num, rfl, hW8, HG3.out, HN.out⟩
                  · have f1 : (vf != 99) = false := by simpa using e1
                    have f2 : (vf == 99) = true := by simpa using e1
                    have f3 : (vt != 99) = true := by simpa using e2
                    obtain ⟨g1, g2⟩ := HS2.out e2 e1
                    have hN2 : (O.set f (Hh.getD f 0)).getD (R.ci x0 y0) 0 ≠ 99 := by
                      rw [getD_set (by rw [HM.out.gr.len, hH.len]; exact hfl)]
                      split
                      · rw [← g1]
                        have := HST.out.fb; omega
                      · exact HN.out
                    have hW9 := (hW8.set f (vt - sby R L s)).below (w2 := (wc.setCell ⟨g, f, none⟩ (.int .i64 (vt - sby R L s))).drew) (Below.refl _ _).drew
                    have HG2 := Lib.hid g2
                    have HN2 := Lib.hid hN2
                    have G1 := Lib.hid g1
                    clear e1 e2 g1 g2 hN2
                    go_wp2_with fail
                    go_region
                    go_wp2_with fail
                    go_roundg ((sidesOf R).length - (k + 1))
                    case measure => have := HK.out; omega
                    case rel =>
                      refine ⟨k + 1, true, O.set f (Hh.getD f 0), by have := HK.out; omega, by go_num, rfl, ?_, HG2.out, HN2.out⟩
                      rw [← G1.out]
                      exact hW9
                · by_cases e2 : vt = 99
                  · have f1 : (vf != 99) = true := by simpa using e1
                    have f3 : (vt == 99) = true := by simpa using e2
                    obtain ⟨g1, g2⟩ := HS1.out e1 e2
                    have hN2 : (O.set t (Hh.getD t 0)).getD (R.ci x0 y0) 0 ≠ 99 := by
                      rw [getD_set (by rw [HM.out.gr.len, hH.len]; exact htl)]
                      split
                      · have := HST.out.tb; omega
                      · exact HN.out
                    have hW9 := (hW8.set t (vf + sby R L s)).below (w2 := (wc.setCell ⟨g, t, none⟩ (.int .i64 (vf + sby R L s))).drew) (Below.refl _ _).drew
                    have HG2 := Lib.hid g2
                    have HN2 := Lib.hid hN2
                    have G1 := Lib.hid g1
                    clear e1 e2 g1 g2 hN2
                    go_wp2_with fail
                    go_region
                    go_wp2_with fail
                    go_roundg ((sidesOf R).length - (k + 1))
                    case measure => have := HK.out; omega
                    case rel =>
                      refine ⟨k + 1, true, O.set t (Hh.getD t 0), by have := HK.out; omega, by go_num, rfl, ?_, HG2.out, HN2.out⟩
                      rw [← G1.out]
                      exact hW9
                  · have f1 : (vf != 99) = true := by simpa using e1
                    have f2 : (vf == 99) = false := by simpa using e1
                    have f3 : (vt == 99) = false := by simpa using e2
                    have HG3 := Lib.hid (HS3.out ⟨fun h => absurd h e1, fun h => absurd h e2⟩)
                    clear e1 e2
                    go_wp2_with fail
                    go_roundg ((sidesOf R).length - (k + 1))
                    case measure => have := HK.out; omega
                    case rel => exact ⟨k + 1, gf, O, by have := HK.out; omega, by go_num, rfl, hW8, HG3.out, HN.out⟩
            · have hk : k = (sidesOf R).length := by have := HK.out; omega
              have hM := HM.out
              rw [hk] at hM
              clear HM hk
              have hle : n99 O ≤ n99 O0 := le_of_mid hM
              go_wp2_with fail
              cases gf with
              | true =>
                have hlt2 := hM.yes rfl
                go_roundg (n99 O + 1)
                case measure => have := HGK.out; simp at this; omega
                case rel => exact ⟨true, O, rfl, by simp, hW, hM.gr, HN.out, fun h => by cases h⟩
              | false =>
                have he := grmid_end hR hS.1 hL hF hH H0.out HN.out hM
                go_roundg 0
                case measure => have := HGK.out; simp at this; omega
                case rel => exact ⟨false, O, rfl, by simp, hW, hM.gr, HN.out, fun _ => he⟩
end Go.Proofs.Ythepfpiphlfgnaa
