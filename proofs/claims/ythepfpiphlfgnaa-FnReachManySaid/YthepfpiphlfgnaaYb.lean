/-
  YthepfpiphlfgnaaYb: the texts By, ByI in one file.
-/
import Derived.Test.YthepfpiphlfgnaaHkS

/-
  YthepfpiphlfgnaaBy: the tiling of heights: what by computes, side after side.
-/
namespace Go.Proofs.Ythepfpiphlfgnaa
open Go.RowKit

def bySet (R : Reg) (a b : Nat) (L : List Int) (way : Nat) : List Int := if R.step a way = (b : Int) then (L.set a way).set b (back way) else L
def byWays (R : Reg) (a b : Nat) (L : List Int) : Nat → List Int
  | 0 => L
  | k + 1 => bySet R a b (byWays R a b L k) (k + 1)
def ByUp (R : Reg) (hs : List Int) (s : Sd) : Prop := R.inn s = true ∧ (sdD hs s.f.toNat s.t.toNat = 3 ∨ sdD hs s.f.toNat s.t.toNat = -3)
noncomputable def byS (R : Reg) (hs : List Int) (L : List Int) (s : Sd) : List Int := by
  classical
  exact if ByUp R hs s then byWays R (s.ly * R.W + s.lx).toNat (s.ry * R.W + s.rx).toNat L 4 else L
noncomputable def byTo (R : Reg) (hs : List Int) (k : Nat) : List Int := ((sidesOf R).take k).foldl (byS R hs) (List.replicate R.C.length 0)
theorem byS_yes {R : Reg} {hs L : List Int} {s : Sd} (h : ByUp R hs s) : byS R hs L s = byWays R (s.ly * R.W + s.lx).toNat (s.ry * R.W + s.rx).toNat L 4 := by
  unfold byS; exact if_pos h
theorem byS_no {R : Reg} {hs L : List Int} {s : Sd} (h : ¬ ByUp R hs s) : byS R hs L s = L := by
  unfold byS; exact if_neg h
theorem byTo_succ {R : Reg} {hs : List Int} {k : Nat} {s : Sd} (h : (sidesOf R)[k]? = some s) : byTo R hs (k + 1) = byS R hs (byTo R hs k) s := by
  unfold byTo
  rw [List.take_add_one, h]
  simp
theorem bySet_len (R : Reg) (a b : Nat) (L : List Int) (way : Nat) : (bySet R a b L way).length = L.length := by
  unfold bySet
  split <;> simp
theorem byWays_len (R : Reg) (a b : Nat) (L : List Int) : ∀ k, (byWays R a b L k).length = L.length
  | 0 => rfl
  | k + 1 => by rw [byWays, bySet_len, byWays_len R a b L k]
theorem byS_len (R : Reg) (hs L : List Int) (s : Sd) : (byS R hs L s).length = L.length := by
  by_cases h : ByUp R hs s
  · rw [byS_yes h, byWays_len]
  · rw [byS_no h]
theorem foldl_len {f : List Int → Sd → List Int} (hf : ∀ L s, (f L s).length = L.length) : ∀ (l : List Sd) (L : List Int), (l.foldl f L).length = L.length
  | [], L => rfl
  | s :: l, L => by rw [List.foldl_cons, foldl_len hf l, hf]
theorem byTo_len (R : Reg) (hs : List Int) (k : Nat) : (byTo R hs k).length = R.C.length := by
  unfold byTo
  rw [foldl_len (byS_len R hs)]
  simp
/-- A side between two cells: their indices. -/
theorem inn_ix {R : Reg} (hR : R.ok) {s : Sd} (h : R.inn s = true) : ∃ a b : Nat, s.ly * R.W + s.lx = (a : Nat) ∧ s.ry * R.W + s.rx = (b : Nat) ∧ a < R.C.length ∧ b < R.C.length ∧ 0 ≤ s.lx ∧ 0 ≤ s.ly ∧ 0 ≤ s.rx ∧ 0 ≤ s.ry := by
  unfold Reg.inn at h
  rw [Bool.and_eq_true] at h
  obtain ⟨x, y, e1, e2, _, _, hc⟩ := at_cell hR h.1
  obtain ⟨x', y', e1', e2', _, _, hc'⟩ := at_cell hR h.2
  exact ⟨y * R.W + x, y' * R.W + x', by rw [e1, e2]; simp, by rw [e1', e2']; simp, cell_lt hc, cell_lt hc', by omega, by omega, by omega, by omega⟩

end Go.Proofs.Ythepfpiphlfgnaa

/-
  YthepfpiphlfgnaaByI: the program's by.
-/
namespace Go.Proofs.Ythepfpiphlfgnaa
open Go.RowKit

structure GW (w wr : World) (R : Reg) (A : Option Addr) (c g : Nat) (S : Option Addr) (sc : Nat) (O : List Int) : Prop where
  bel : Below w.heap.size w wr
  box : Blk wr w.heap.size 25 #[.int .i64 R.W, .int .i64 R.T, .slice A R.C.length c]
  out : wr.ownsRow (w.heap.size + 1) 3 1 (.slice (some ⟨g, 0, none⟩) R.C.length R.C.length) R.C.length (O.map (Value.int .i64))
  sid : wr.ownsRow (w.heap.size + 1) 120 6 (.slice S (sidesOf R).length sc) (sidesOf R).length (sds (sidesOf R))
section
variable {w wr w2 : World} {R : Reg} {A S : Option Addr} {c g sc : Nat} {O : List Int}
theorem GW.below (H : GW w wr R A c g S sc O) (hb : Below wr.heap.size wr w2) : GW w w2 R A c g S sc O :=
  ⟨H.bel.trans (hb.mono H.bel.size), H.box.below hb H.box.lt, own_below H.out hb (Nat.le_refl _), own_below H.sid hb (Nat.le_refl _)⟩
theorem GW.glt (H : GW w wr R A c g S sc O) : w.heap.size < g ∧ g < wr.heap.size := by have := H.out.lt g rfl; omega
theorem GW.set (H : GW w wr R A c g S sc O) (j : Nat) (v : Int) : GW w (wr.setCell ⟨g, j, none⟩ (.int .i64 v)) R A c g S sc (O.set j v) := by
  have hg := H.glt
  refine ⟨H.bel.setCell (by simp; omega) _, H.box.far (p := ⟨g, j, none⟩) (by simp; omega) _, ?_, ownsRow_setCell_other H.sid (a := ⟨g, j, none⟩) ?_ _⟩
  · have := (H.out.stored j (.int .i64 v)).1
    rwa [← List.map_set] at this
  · rcases H.sid.2 with ⟨h0, _⟩ | ⟨g', cap, cur, hv, hb, hh, _⟩
    · rw [h0]; simp [Value.ownBlock]
    · rw [hv]
      simp only [Value.ownBlock, ne_eq, Option.some.injEq]
      rintro rfl
      rcases H.out.2 with ⟨h0, _⟩ | ⟨g2, cap2, cur2, hv2, _, hh2, _⟩
      · simp at h0
      · simp only [Value.slice.injEq, Option.some.injEq, Addr.mk.injEq, and_true, true_and] at hv2
        obtain ⟨rfl, _⟩ := hv2
        rw [hh] at hh2
        injection hh2 with hh2
        injection hh2 with _ ht
        exact absurd ht (by decide)
theorem GW.cells (H : GW w wr R A c g S sc O) : wr.cell? ⟨w.heap.size, 0, none⟩ = some (.int .i64 R.W) ∧ wr.cell? ⟨w.heap.size, 1, none⟩ = some (.int .i64 R.T) ∧ wr.cell? ⟨w.heap.size, 2, none⟩ = some (.slice A R.C.length c) := by
  have r0 := H.box.cell 0
  have r1 := H.box.cell 1
  have r2 := H.box.cell 2
  simp at r0 r1 r2
  exact ⟨r0, r1, r2⟩
theorem GW.ocell (H : GW w wr R A c g S sc O) {j : Nat} (hj : j < R.C.length) : wr.cell? ⟨g, j, none⟩ = some (.int .i64 (O.getD j 0)) := by
  have hl : O.length = R.C.length := by have := H.out.1; simpa using this
  rw [H.out.cellAt j (by omega), List.getElem?_map, List.getD_eq_getElem?_getD, List.getElem?_eq_getElem (by omega)]; rfl
theorem GW.scell (H : GW w wr R A c g S sc O) {k : Nat} {s : Sd} (hk : (sidesOf R)[k]? = some s) :
    ∃ q, S = some ⟨q, 0, none⟩ ∧ q < wr.heap.size ∧ wr.cell? ⟨q, k * 6, none⟩ = some (.int .i64 s.f) ∧ wr.cell? ⟨q, k * 6 + 1, none⟩ = some (.int .i64 s.t) ∧ wr.cell? ⟨q, k * 6 + 2, none⟩ = some (.int .i64 s.lx) ∧
      wr.cell? ⟨q, k * 6 + 3, none⟩ = some (.int .i64 s.ly) ∧ wr.cell? ⟨q, k * 6 + 4, none⟩ = some (.int .i64 s.rx) ∧ wr.cell? ⟨q, k * 6 + 5, none⟩ = some (.int .i64 s.ry) := by
  have hkl : k < (sidesOf R).length := (List.getElem?_eq_some_iff.1 hk).1
  obtain ⟨q, c', e, _, _, hq⟩ := own_shape H.sid (by omega)
  injection e with e1 e2 e3
  subst e1 e3
  have hc := H.sid.cells (g := q) rfl
  have h0 := hc (k * 6 + 0) _ (sds_at hk 0 _ rfl)
  have h1 := hc (k * 6 + 1) _ (sds_at hk 1 _ rfl)
  have h2 := hc (k * 6 + 2) _ (sds_at hk 2 _ rfl)
  have h3 := hc (k * 6 + 3) _ (sds_at hk 3 _ rfl)
  have h4 := hc (k * 6 + 4) _ (sds_at hk 4 _ rfl)
  have h5 := hc (k * 6 + 5) _ (sds_at hk 5 _ rfl)
  simp [Addr.add] at h0 h1 h2 h3 h4 h5
  refine ⟨q, rfl, hq, ?_, h1, h2, h3, h4, h5⟩
  by_cases hk0 : k = 0
  · subst hk0; simpa using h0
  · rw [if_neg (by omega)] at h0; exact h0
end


set_option maxHeartbeats 2000000 in
set_option maxRecDepth 100000 in
theorem by_any (R : Reg) (hR : R.ok) (A : Option Addr) (c B : Nat) (L : List Int) (ad : Addr) (d : Nat) (hk : HOk R L) (w : World)
    (hr : Reads w B 1 A R.C.length (R.C.map Value.bool)) (hd : Reads w B 1 (some ad) R.cn (L.map (Value.int .i64))) (hB : B ≤ w.heap.size) :
    Calls Try.prog 133 #[.agg #[.int .i64 R.W, .int .i64 R.T, .slice A R.C.length c], .slice (some ad) R.cn d] w (IntsRet w (byTo R L (sidesOf R).length)) := by
  have hcn := cn_bd hR
  obtain ⟨hcn1, hcn2⟩ := hcn
  have hl36 := (len_bd hR).2
  have hlen : (sidesOf R).length ≤ 98 := by have := sidesTo_len R R.cn; unfold sidesOf; omega
  have HLL := Lib.hid hk.len
  have HHK := Lib.hid hk
  clear hk
  go_enter Try.func133, Try.ntmps133
  go_wp2_with (at_make; refine wpList_make_ints rfl _ _ rfl R.C.length (by omega) rfl rfl rfl rfl ?_; intro w2 hown hb2; obtain ⟨hB2, hk2, b0, b1, b2⟩ := box_keep hb2)
  refine (sides_any R hR A c B w2 (hr.below (hB2.mono hB)) (Nat.le_trans hB hB2.size)).mono ?_
  rintro e w3 ⟨v, rfl, hos, hb3⟩
  obtain ⟨S, sc, rfl, hsc, hrs⟩ := own_form hos
  have hW3 : GW w w3 R A c (w.heap.size + 1) S sc (List.replicate R.C.length 0) :=
    ⟨hB2.trans (hb3.mono hB2.size), hk2.below hb3 hk2.lt, own_mono (own_below (by simpa using hown) hb3 (Nat.le_refl _)) (by omega), own_mono hos hk2.lt⟩
  clear hb3 hos hrs hown hb2 hk2 hB2 b0 b1 b2
  go_wp2_with fail
  go_loopg [19] (sidesOf R).length (fun r s19 wr => ∃ k : Nat, k + r = (sidesOf R).length ∧ s19 = .int .i64 (k : Nat) ∧ GW w wr R A c (w.heap.size + 1) S sc (byTo R L k))
  case atStart => exact ⟨0, by omega, rfl, by simpa [byTo] using hW3⟩
  case round =>
    clear hW3
    obtain ⟨k, hk, rfl, hW⟩ := hrel
    have HK := Lib.hid hk
    clear hk
    by_cases hlt : k < (sidesOf R).length
    · obtain ⟨s, hs⟩ : ∃ s, (sidesOf R)[k]? = some s := ⟨_, List.getElem?_eq_getElem hlt⟩
      obtain ⟨f, t, hst⟩ := side_at hR (List.mem_of_getElem? hs)
      have hsd := HHK.out.sd k s hlt hs
      have HTS := Lib.hid (byTo_succ (hs := L) hs)
      have HS := Lib.hid hs
      have HST := Lib.hid hst
      obtain ⟨q, rfl, hab, c0, c1, c2, c3, c4, c5⟩ := hW.scell hs
      rw [hst.fe] at c0
      rw [hst.te] at c1
      obtain ⟨bx1, bx2, by1, by2, bx3, bx4, by3, by4⟩ := hst.bd
      have hfl := hst.fl
      have htl := hst.tl
      have hIN := fun w' (h : Below w.heap.size w w') => hide (inner_any R hR A c B f t s.lx s.ly s.rx s.ry ⟨bx1, bx2⟩ ⟨by1, by2⟩ ⟨bx3, bx4⟩ ⟨by3, by4⟩ w' (hr.below (h.mono hB)) (Nat.le_trans hB h.size))
      have HINN : Hid ((R.at s.lx s.ly && R.at s.rx s.ry) = R.inn s) := Lib.hid rfl
      have HUP : Hid (ByUp R L s ↔ (R.inn s = true ∧ (sdD L f t = 3 ∨ sdD L f t = -3))) := Lib.hid (by unfold ByUp; rw [hst.fe, hst.te]; rfl)
      have HDD : Hid (sdD L f t = wrap64 (L.getD t 0 - L.getD f 0)) := Lib.hid rfl
      obtain ⟨b0, b1, b2⟩ := hW.cells
      have hbs : Blk (wr.alloc (.cells #[.int .i64 f, .int .i64 t, .int .i64 s.lx, .int .i64 s.ly, .int .i64 s.rx, .int .i64 s.ry] 120)) wr.heap.size 120 #[.int .i64 f, .int .i64 t, .int .i64 s.lx, .int .i64 s.ly, .int .i64 s.rx, .int .i64 s.ry] := Blk.new wr _ _
      have hW4 := hW.below ((Below.refl _ _).alloc (Nat.le_refl _) (.cells #[.int .i64 f, .int .i64 t, .int .i64 s.lx, .int .i64 s.ly, .int .i64 s.rx, .int .i64 s.ry] 120))
      clear hs hst hsd
      go_upto_region 5 with fail
      generalize wr.alloc (.cells #[.int .i64 f, .int .i64 t, .int .i64 s.lx, .int .i64 s.ly, .int .i64 s.rx, .int .i64 s.ry] 120) = w7 at *
      have s0 := hbs.cell 0
      have s1 := hbs.cell 1
      simp at s0 s1
      have hd7 := hd.below (hW4.bel.mono hB)
      obtain ⟨ad1, e1, _, d0⟩ := hd7.getI hfl
      obtain ⟨ad2, e2, _, d1⟩ := hd7.getI htl
      obtain rfl : ad = ad1 := by injection e1
      obtain rfl : ad = ad2 := by injection e2
      clear e1 e2 hd7 b0 b1 b2 c0 c1 c2 c3 c4 c5
      have HD2 := Lib.hid HDD.out.symm
      generalize L.getD f 0 = vf at *
      generalize L.getD t 0 = vt at *
      go_region
      rw [HD2.out]
      go_upto_region 6 with fail
      have hW8 := hW4.below (Below.refl _ _).drew
      have hbs8 := hbs.drew
      clear d0 d1 s0 s1 hW4 hbs
      generalize w7.drew = w8 at *
      generalize sdD L f t = dv at *
      obtain ⟨b0, b1, b2⟩ := hW8.cells
      obtain ⟨s0, s1, s2, s3, s4, s5⟩ := blk6 hbs8
      go_wp2_with fail
      refine (unhide (hIN _ hW8.bel)).mono ?_
      rw [HINN.out]
      rintro e w9 ⟨rfl, hb9⟩
      have hW9 := hW8.below hb9
      have hbs9 := hbs8.below hb9 hbs8.lt
      clear b0 b1 b2 s0 s1 s2 s3 s4 s5 hb9 hW8 hbs8
      cases hin : R.inn s with
      | false =>
        have hno : ¬ ByUp R L s := fun h => by rw [(HUP.out.1 h).1] at hin; cases hin
        have HNO := Lib.hid (byS_no (L := byTo R L k) hno)
        clear hno hin
        go_wp2_with fail
        go_roundg ((sidesOf R).length - (k + 1))
        case measure => have := HK.out; omega
        case rel => exact ⟨k + 1, by have := HK.out; omega, by go_num, by rw [HTS.out, HNO.out]; exact hW9⟩
      | true =>
        by_cases h3 : dv = 3 ∨ dv = -3
        · have hup := HUP.out.2 ⟨hin, h3⟩
          have HYES := Lib.hid (byS_yes (L := byTo R L k) hup)
          obtain ⟨a, b, e1, e2, ha, hb, z1, z2, z3, z4⟩ := inn_ix hR hin
          obtain ⟨y1, hy1⟩ : ∃ y1 : Nat, s.ly = y1 := ⟨s.ly.toNat, by omega⟩
          obtain ⟨y2, hy2⟩ : ∃ y2 : Nat, s.ry = y2 := ⟨s.ry.toNat, by omega⟩
          have hW6 := hR.2.1
          obtain ⟨p0, p1⟩ := prod_bd (a := y1) (b := R.W) (by omega) (by omega)
          obtain ⟨p2, p3⟩ := prod_bd (a := y2) (b := R.W) (by omega) (by omega)
          rw [← hy1] at p0 p1
          rw [← hy2] at p2 p3
          obtain ⟨b0, b1, b2⟩ := hW9.cells
          obtain ⟨s0, s1, s2, s3, s4, s5⟩ := blk6 hbs9
          have hY : byWays R (s.ly * R.W + s.lx).toNat (s.ry * R.W + s.rx).toNat (byTo R L k) 4 = byWays R a b (byTo R L k) 4 := by rw [e1, e2]; rfl
          have HY := Lib.hid hY
          have U1 := Lib.hid (IntWalk.i64_in (s.ly * R.W) (by omega))
          have U2 := Lib.hid (IntWalk.i64_in (s.ly * R.W + s.lx) (by omega))
          have U3 := Lib.hid (IntWalk.i64_in (s.ry * R.W) (by omega))
          have U4 := Lib.hid (IntWalk.i64_in (s.ry * R.W + s.rx) (by omega))
          have E1 := Lib.hid e1
          have E2 := Lib.hid e2
          have q0 : ((dv != 3) && (dv != -3)) = false := by
            rcases h3 with h | h <;> rw [h] <;> rfl
          clear hY e1 e2 hin hy1 hy2
          rcases h3 with rfl | rfl
          all_goals
            go_upto_region 7 with fail
            go_cut [9, 10] (fun s9 s10 wx => s9 = .int .i64 (a : Nat) ∧ s10 = .int .i64 (b : Nat) ∧ ∃ n, wx = w9.drewN n)
            case first =>
              have u1 := U1.out
              have u2 := U2.out
              have u3 := U3.out
              have u4 := U4.out
              clear q0 HUP HDD HD2 z1 z2 z3 z4 hcn1 hcn2 hl36 hlen hfl htl hIN HINN hup HY HYES bx1 bx2 bx3 bx4 by1 by2 by3 by4 ha hb hW9 hbs9 HTS HS HST hW6 hW hab HK hlt hr hd hB hsc HLL HHK p0 p1 p2 p3
              go_quiet (fail)
              go_wp2_with fail
              go_meet
              exact ⟨by rw [E1.out], by rw [E2.out], _, rfl⟩
            case rest =>
            obtain ⟨rfl, rfl, n, rfl⟩ := hcut
            have hW10 : GW w (w9.drewN n) R A c (w.heap.size + 1) (some ⟨q, 0, none⟩) sc (byTo R L k) := hW9.below (below_drewN (Below.refl _ _) _)
            clear b0 b1 b2 s0 s1 s2 s3 s4 s5 hW9 hbs9 p0 p1 p2 p3 U1 U2 U3 U4
            generalize w9.drewN n = w10 at *
            go_wp2_with fail
            obtain ⟨wo, rfl⟩ : ∃ wo : World, wo = wr := ⟨_, rfl⟩
            obtain ⟨gk0, rfl⟩ : ∃ gk0 : Nat, gk0 = gk := ⟨_, rfl⟩
            go_loopg [11] 4 (fun r s11 wr => ∃ j : Nat, j + r = 4 ∧ s11 = .int .i64 ((j : Int) + 1) ∧ GW w wr R A c (w.heap.size + 1) (some ⟨q, 0, none⟩) sc (byWays R a b (byTo R L k) j))
            case atStart => exact ⟨0, by omega, rfl, hW10⟩
            case round =>
              clear hW10
              obtain ⟨j, hj, rfl, hW⟩ := hrel
              have HJ := Lib.hid hj
              clear hj
              by_cases hj4 : j < 4
              · have hle : decide ((j : Int) + 1 ≤ 4) = true := decide_eq_true (by omega)
                have HST2 := fun w' => hide (step_any R hR A R.C.length c a ha ((j : Int) + 1) w')
                have HBK := fun w' => hide (back_any ((j : Int) + 1) (by omega) w')
                have HBW : Hid (byWays R a b (byTo R L k) (j + 1) = if R.step a ((j : Int) + 1) = (b : Int) then ((byWays R a b (byTo R L k) j).set a ((j : Int) + 1)).set b (back ((j : Int) + 1)) else byWays R a b (byTo R L k) j) := Lib.hid (by simp only [byWays, bySet, Int.natCast_add, Int.natCast_one])
                generalize byWays R a b (byTo R L k) j = O at *
                generalize R.step a ((j : Int) + 1) = st at *
                obtain ⟨b0, b1, b2⟩ := hW.cells
                go_wp2_with fail
                refine (unhide (HST2 _)).mono ?_
                rintro e w11 ⟨rfl, hb11⟩
                have hW11 := hW.below hb11
                clear b0 b1 b2
                by_cases hst2 : st = (b : Int)
                · have q3 : (st == (b : Int)) = true := by simpa using hst2
                  have hBW := HBW.out
                  rw [if_pos hst2] at hBW
                  have HBW2 := Lib.hid hBW
                  have oa := hW11.ocell ha
                  have oaf := hW11.out.frozenAt a
                  have hW12 := hW11.set a ((j : Int) + 1)
                  have ob := hW12.ocell hb
                  have obf := hW12.out.frozenAt b
                  have hW13 := hW12.set b (back ((j : Int) + 1))
                  clear hBW
                  generalize back ((j : Int) + 1) = bk at *
                  clear hst2
                  go_wp2_with (go_at_call 176; refine (unhide (HBK _)).mono ?_; rintro e w' ⟨rfl, rfl⟩)
                  go_roundg (4 - (j + 1))
                  case measure => have := HJ.out; omega
                  case rel => exact ⟨j + 1, by have := HJ.out; omega, by go_num, by rw [HBW2.out]; exact hW13⟩
                · have q3 : (st == (b : Int)) = false := by simpa using hst2
                  have hBW := HBW.out
                  rw [if_neg hst2] at hBW
                  have HBW2 := Lib.hid hBW
                  clear hBW hst2
                  go_wp2_with fail
                  go_roundg (4 - (j + 1))
                  case measure => have := HJ.out; omega
                  case rel => exact ⟨j + 1, by have := HJ.out; omega, by go_num, by rw [HBW2.out]; exact hW11⟩
              · obtain rfl : j = 4 := by have := HJ.out; omega
                go_wp2_with fail
                go_roundg ((sidesOf R).length - (k + 1))
                case measure => have := HK.out; omega
                case rel => exact ⟨k + 1, by have := HK.out; omega, by go_num, by rw [HTS.out, HYES.out, HY.out]; exact hW⟩
        · have hno : ¬ ByUp R L s := fun h => h3 (HUP.out.1 h).2
          have HNO := Lib.hid (byS_no (L := byTo R L k) hno)
          have q1 : (dv != 3) = true := by simp; omega
          have q2 : (dv != -3) = true := by simp; omega
          clear hno hin h3
          go_wp2_with fail
          go_roundg ((sidesOf R).length - (k + 1))
          case measure => have := HK.out; omega
          case rel => exact ⟨k + 1, by have := HK.out; omega, by go_num, by rw [HTS.out, HNO.out]; exact hW9⟩
    · obtain rfl : k = (sidesOf R).length := by have := HK.out; omega
      go_wp2_with fail
      go_ret
      have hl := byTo_len R L (sidesOf R).length
      refine ⟨w.heap.size + 1, by rw [hl]; rfl, ?_, hW.bel⟩
      rw [hl]
      exact own_mono hW.out (by omega)

end Go.Proofs.Ythepfpiphlfgnaa
