/-
  YthepfpiphlfgnaaD8: drawing: a region and a list that lays dominoes on it.
-/
import Derived.Test.YthepfpiphlfgnaaD7
import Derived.Test.YthepfpiphlfgnaaDq
namespace Go.Proofs.Ythepfpiphlfgnaa
open Go.RowKit
attribute [local go_sem ↓] Go.wp_at_zero Go.wp_at_succ

/-- Of a region that is one the list lays dominoes; of any other one it is empty. -/
def Lj (W T : Int) (bs : List Bool) (L : List Int) : Prop := (validB W T bs = true → laidB W T bs L = true) ∧ (validB W T bs = false → L = [])
theorem Lj.pos {W T : Int} {bs : List Bool} {L : List Int} (h : Lj W T bs L) (hl : 0 < L.length) : ∃ R : Reg, R.ok ∧ W = (R.W : Int) ∧ T = (R.T : Int) ∧ bs = R.C ∧ Lay R L := by
  cases hv : validB W T bs with
  | false => rw [h.2 hv] at hl; simp at hl
  | true => exact laid_cases (h.1 hv)
theorem Lj.of {R : Reg} (hR : R.ok) {L : List Int} (h : Lay R L) : Lj R.W R.T R.C L := ⟨fun _ => by rw [laidB_ok hR]; exact (laysB_iff hR).2 h, fun hv => by rw [valid_of_ok hR] at hv; cases hv⟩
theorem Lj.len {W T : Int} {bs : List Bool} {L : List Int} (h : Lj W T bs L) : L.length ≤ 36 := by
  rcases Nat.eq_zero_or_pos L.length with h0 | h0
  · omega
  · obtain ⟨R, hR, rfl, rfl, rfl, hL⟩ := h.pos h0
    rw [hL.len]; exact (len_bd hR).2
structure DL (w wr : World) (g B : Nat) (A : Option Addr) (n c p d : Nat) (zs : List Int) (x : Nat) (W T : Int) (v : Value) (bs : List Bool) (vl : Value) (L : List Int) : Prop where
  dr : DR w wr g B A n c p d zs x W T v bs
  li : LiAt wr w.heap.size vl L
  lj : Lj W T bs L
theorem DL.step {w wr w2 : World} {g B : Nat} {A : Option Addr} {n c p d d2 p' : Nat} {zs : List Int} {x : Nat} {W T : Int} {v : Value} {bs : List Bool} {vl : Value} {L : List Int} (h : DL w wr g B A n c p d zs x W T v bs vl L) (hp : p ≤ p' ∧ p' ≤ p + d) (hgr : w.grownBy wr (some g)) (hs : Stepped wr g B A n c p' d2 zs w2) : DL w w2 g B A n c p (d + d2) zs x W T v bs vl L :=
  ⟨h.dr.step hp hgr hs, h.li.step (by obtain ⟨_, _, _, _, hg⟩ := hs; exact hg) h.dr.glt, h.lj⟩
theorem DL.calm {w wr w2 : World} {g B : Nat} {A : Option Addr} {n c p d : Nat} {zs : List Int} {x : Nat} {W T : Int} {v : Value} {bs : List Bool} {vl : Value} {L : List Int} (h : DL w wr g B A n c p d zs x W T v bs vl L) (hb : Below wr.heap.size wr w2) : DL w w2 g B A n c p d zs x W T v bs vl L :=
  ⟨h.dr.calm hb, h.li.below hb, h.lj⟩
theorem DL.more {w wr : World} {g B : Nat} {A : Option Addr} {n c p d e : Nat} {zs : List Int} {x : Nat} {W T : Int} {v : Value} {bs : List Bool} {vl : Value} {L : List Int} (h : DL w wr g B A n c p d zs x W T v bs vl L) (he : d ≤ e) : DL w wr g B A n c p e zs x W T v bs vl L := ⟨h.dr.more he, h.li, h.lj⟩
theorem LiAt.some {w : World} {b m d : Nat} {D : Option Addr} {L : List Int} (h : LiAt w b (.slice D m d) L) (hm : 0 < m) : ∃ gl, D = some ⟨gl, 0, none⟩ := by
  obtain ⟨A, c1, c2, e, ho⟩ := h
  simp only [Value.slice.injEq] at e
  obtain ⟨rfl, rfl, rfl⟩ := e
  obtain ⟨g, cg, hs, _⟩ := own_shape ho hm
  simp only [Value.slice.injEq, true_and] at hs
  exact ⟨g, hs.1⟩
/-- A store into the list. -/
theorem DL.store {w wr : World} {g B : Nat} {A : Option Addr} {n c p d : Nat} {zs : List Int} {x : Nat} {W T : Int} {v : Value} {bs : List Bool} {gl m c1 : Nat} {L : List Int} (h : DL w wr g B A n c p d zs x W T v bs (.slice (some ⟨gl, 0, none⟩) m c1) L) {q : Nat} (hq : q < m) (z : Int) :
    (∃ z0, wr.cell? ⟨gl, q, none⟩ = some (.int .i64 z0)) ∧ wr.frozen? ⟨gl, q, none⟩ = false ∧ DR w (wr.setCell ⟨gl, q, none⟩ (.int .i64 z)) g B A n c p d zs x W T v bs ∧ LiAt (wr.setCell ⟨gl, q, none⟩ (.int .i64 z)) w.heap.size (.slice (some ⟨gl, 0, none⟩) m c1) (L.set q z) := by
  obtain ⟨A', c2, c3, e, ho⟩ := h.li
  simp only [Value.slice.injEq] at e
  obtain ⟨rfl, rfl, rfl⟩ := e
  have hb := own_lt ho rfl
  have hne1 : gl ≠ w.heap.size := by have := own_blk_ne ho h.dr.res (by decide); simpa [Value.ownBlock] using this
  have hne2 : gl ≠ x := by have := own_blk_ne ho h.dr.reg (by decide); simpa [Value.ownBlock] using this
  have hne3 : v.ownBlock ≠ some gl := by
    rcases own_far h.dr.own.1 ho (by decide) with h1 | h1
    · rw [h1]; simp
    · simpa [Value.ownBlock] using h1
  have hc := ho.cellAt q (by omega)
  refine ⟨?_, ho.frozenAt q, ⟨h.dr.st.put h.dr.glt (a := ⟨gl, q, none⟩) hb.1 _, h.dr.glt, h.dr.res.far (p := ⟨gl, q, none⟩) (Ne.symm hne1) _, h.dr.reg.far (p := ⟨gl, q, none⟩) (Ne.symm hne2) _, ⟨ownsRow_setCell_other h.dr.own.1 (a := ⟨gl, q, none⟩) hne3 _, h.dr.own.2⟩, h.dr.xlt⟩, ?_⟩
  · rw [List.getElem?_map, List.getElem?_eq_getElem hq] at hc
    exact ⟨_, by simpa using hc⟩
  · refine ⟨some ⟨gl, 0, none⟩, c1, c3, by rw [List.length_set], ?_⟩
    rw [List.length_set, List.map_set]
    exact (ho.stored q _).1
/-- The results' block is written. -/
theorem DR.outL {w wr : World} {g B : Nat} {A : Option Addr} {n c p d : Nat} {zs : List Int} {x : Nat} {W T : Int} {v : Value} {bs : List Bool} {vl : Value} {L : List Int} (h : DR w wr g B A n c p d zs x W T v bs) (hl : LiAt wr w.heap.size vl L) (u0 u1 u2 : Value) :
    RegAt (((wr.setCell ⟨w.heap.size, 0, none⟩ u0).setCell ⟨w.heap.size, 1, none⟩ u1).setCell ⟨w.heap.size, 2, none⟩ u2) w.heap.size v bs ∧ LiAt (((wr.setCell ⟨w.heap.size, 0, none⟩ u0).setCell ⟨w.heap.size, 1, none⟩ u1).setCell ⟨w.heap.size, 2, none⟩ u2) w.heap.size vl L ∧ Stepped w g B A n c p d zs (((wr.setCell ⟨w.heap.size, 0, none⟩ u0).setCell ⟨w.heap.size, 1, none⟩ u1).setCell ⟨w.heap.size, 2, none⟩ u2) := by
  obtain ⟨o1, o2⟩ := out_any h.st h.glt h.res h.own u0 u1 u2
  obtain ⟨A', c2, c3, e, ho⟩ := hl
  have hne := own_blk_ne ho h.res (by decide)
  exact ⟨o1, ⟨A', c2, c3, e, ownsRow_setCell_other (ownsRow_setCell_other (ownsRow_setCell_other ho (a := ⟨w.heap.size, 0, none⟩) hne u0) (a := ⟨w.heap.size, 1, none⟩) hne u1) (a := ⟨w.heap.size, 2, none⟩) hne u2⟩, o2⟩

/-- A drawn region with a list. -/
def DrawnL (w : World) (g B : Nat) (A : Option Addr) (n c p d : Nat) (zs : List Int) (e : Ending) (w' : World) : Prop :=
  ∃ (W T : Int) (v vl : Value) (bs : List Bool) (L : List Int), e = .returned (.tuple #[.agg #[.int .i64 W, .int .i64 T, v], vl]) ∧ RegAt w' w.heap.size v bs ∧ LiAt w' w.heap.size vl L ∧ L.length ≤ 99 ∧ Stepped w g B A n c p d zs w'

set_option maxHeartbeats 8000000 in
set_option maxRecDepth 100000 in
theorem drawLaid_any (g B : Nat) (A : Option Addr) (n c p : Nat) (zs : List Int) (m : Int) (hm : 0 ≤ m ∧ m ≤ 1000) (w : World) (h : Rd w g B A n c p zs) (hp : p ≤ 100000000) :
    Calls Try.prog 108 #[.pointer (some ⟨g, 0, none⟩), .int .i64 m] w (DrawnL w g B A n c p 500 zs) := by
  have hglt := h.lt
  go_enter Try.func108, Try.ntmps108
  go_wp2_with fail
  refine (drawSome_any g B A n c p zs (2 * m) _ (h.alloc _) (by omega)).mono ?_
  intro e w1 hd
  have hres := hd.blk (Blk.new w 25 #[.int .i64 0, .int .i64 0, .slice none 0 0]) (by omega)
  obtain ⟨W, T, v, bs, rfl, hreg, hst⟩ := hd.more (w0 := w) (p := p) (d := 170) (only_alloc (World.grownBy.refl w _) _) (by omega)
  obtain ⟨A2, c2, rfl, hc2, _⟩ := own_form hreg.1
  have hD0 : DR w (w1.alloc (.cells #[.int .i64 W, .int .i64 T, .slice A2 bs.length c2] 25)) g B A n c p 170 zs w1.heap.size W T (.slice A2 bs.length c2) bs :=
    ⟨hst.calm ((Below.refl _ _).alloc (Nat.le_refl _) _), hglt, hres.alloc _, Blk.new _ _ _, hreg.below ((Below.refl _ _).alloc (Nat.le_refl _) _), hres.lt⟩
  clear hd hres hreg hst h
  go_wp2_with fail
  have hTF := tilingFirstS_any W T A2 bs.length c2 _ bs _ rfl (Reads.of_own hD0.own.1) (Nat.le_refl _) (by have := hD0.own.2; omega)
  generalize w1.alloc (.cells #[.int .i64 W, .int .i64 T, .slice A2 bs.length c2] 25) = w2 at *
  generalize w1.heap.size = x at *
  refine hTF.mono ?_
  rintro e w3 ⟨v3, ok3, M3, rfl, hl3, hm3, hok3, hb3⟩
  have hD3 := hD0.calm hb3
  have hl3 := hl3.mono (b' := w.heap.size) (by obtain ⟨_, _, _, _, hq⟩ := hD0.st; exact hq.size)
  have hV3 : ok3 = true → validB W T bs = true := fun h => by
    cases hv : validB W T bs with
    | true => rfl
    | false => have := hok3 h; rw [laidB_no hv] at this; cases this
  have hL3 : ok3 = true → Lj W T bs M3 := fun h => ⟨fun _ => hok3 h, fun hv => by rw [hV3 h] at hv; cases hv⟩
  clear hD0 hb3 hTF hok3 hV3
  obtain ⟨A3, c3, c3', rfl, ho3⟩ := id hl3
  clear ho3
  go_upto_region 3 with fail
  go_cut [32] (fun s32 wx => ∃ b : Bool, s32 = .bool b ∧ (b = false → ok3 = true) ∧ DR w wx g B A n c p 171 zs x W T (.slice A2 bs.length c2) bs ∧ LiAt wx w.heap.size (.slice A3 M3.length c3) M3)
  case first =>
    cases ok3 with
    | true =>
      obtain ⟨p2, hp1, hp2, hR3, hgr⟩ := hD3.st
      go_wp2_with fail
      refine (pick_any g B A n c p2 zs 3 _ hR3 (by omega)).mono ?_
      rintro e w4 ⟨x4, rfl, _, _, _, h4, g4⟩
      have hD4 := hD3.step (d2 := 1) ⟨hp1, hp2⟩ hgr ⟨p2 + 1, by omega, by omega, h4, g4⟩
      have hl4 := hl3.step g4 hglt
      clear hD3 hl3 hR3 hgr h4 g4
      go_wp2_with fail
      go_meet
      exact ⟨_, rfl, fun _ => by simp, hD4, hl4⟩
    | false =>
      go_wp2_with fail
      go_meet
      exact ⟨true, rfl, (fun h => by cases h), hD3.more (by omega), hl3⟩
  case rest =>
    obtain ⟨b, rfl, hbo, hD, hl⟩ := hcut
    have HBO := Lib.hid hbo
    have HL3 := Lib.hid hL3
    clear hD3 hl3 hbo hL3
    go_upto_if 32 with fail
    go_cut [7] (fun s7 wx => ∃ (A4 : Option Addr) (c4 : Nat) (L : List Int), s7 = .slice A4 L.length c4 ∧ DL w wx g B A n c p 210 zs x W T (.slice A2 bs.length c2) bs (.slice A4 L.length c4) L)
    case first =>
      cases b with
      | false =>
        go_wp2_with fail
        go_meet
        exact ⟨A3, c3, M3, rfl, hD.more (by omega), hl, HL3.out (HBO.out (by simp))⟩
      | true =>
        have hLB := laidBareS_li W T A2 bs.length c2 _ bs _ rfl (Reads.of_own hD.own.1) (Nat.le_refl _) (by have := hD.own.2; omega)
        obtain ⟨⟨a0, a1, a2⟩, _, _, _⟩ := hD.cells
        clear HBO HL3 hl
        go_wp2_with fail
        refine hLB.mono ?_
        rintro e w4 ⟨v4, L4, rfl, hl4, hn4, hj1, hj2, hb4⟩
        have hE4 : DL w w4 g B A n c p 171 zs x W T (.slice A2 bs.length c2) bs v4 L4 := ⟨hD.calm hb4, hl4.mono (by obtain ⟨_, _, _, _, hq⟩ := hD.st; exact hq.size), hj1, hj2⟩
        obtain ⟨A4, c4, _, rfl, _⟩ := id hl4
        clear hD hl4 hb4 a0 a1 a2 hj1 hj2 hLB
        obtain ⟨p2, hp1, hp2, hR4, hgr⟩ := hE4.dr.st
        go_wp2_with fail
        refine (pick_any g B A n c p2 zs 16 _ hR4 (by omega)).mono ?_
        rintro e w5 ⟨x5, rfl, a5, b5, _, h5, g5⟩
        have b5 := b5 (by omega)
        have hE5 := hE4.step (d2 := 1) ⟨hp1, hp2⟩ hgr ⟨p2 + 1, by omega, by omega, h5, g5⟩
        obtain ⟨k5, rfl⟩ := Int.eq_ofNat_of_zero_le a5
        have hk5 : k5 < 16 := by omega
        clear hE4 hR4 hgr h5 g5 a5 b5
        go_wp2_with fail
        go_loopg [7, 9] k5 (fun r s7 s9 wr => ∃ (k : Nat) (A4 : Option Addr) (c4 : Nat) (L : List Int), k = r ∧ k ≤ k5 ∧ s9 = .int .i64 (k : Nat) ∧ s7 = .slice A4 L.length c4 ∧ DL w wr g B A n c p (172 + 2 * (k5 - k)) zs x W T (.slice A2 bs.length c2) bs (.slice A4 L.length c4) L)
        case atStart => exact ⟨k5, _, _, _, rfl, Nat.le_refl _, rfl, rfl, hE5.more (by omega)⟩
        case round =>
          clear hE5
          obtain ⟨k, A6, c6, L, hk, hkk, rfl, rfl, hE⟩ := hrel
          have HK := Lib.hid hk
          clear hk
          by_cases hgo : 0 < k ∧ 0 < L.length
          · obtain ⟨hk0, hl0⟩ := hgo
            obtain ⟨R, hR, rfl, rfl, rfl, hly⟩ := hE.lj.pos hl0
            have hLn := hly.len
            have hl36 := (len_bd hR).2
            rw [hLn] at hE hl0 ⊢
            obtain ⟨gl, rfl⟩ := hE.li.some hl0
            have hEd := hE.calm (Below.refl wr.heap.size wr).drew
            obtain ⟨p2, hp3, hp4, hR2, hgr⟩ := hEd.dr.st
            obtain ⟨⟨d0, d1, d2⟩, _, _, _⟩ := hE.dr.cells
            have hp5 : p2 ≤ 1000000000000 := by omega
            have hp6 : p2 + 1 ≤ 1000000000000 := by omega
            clear hE hLn
            go_upto_region 8 with fail
            go_region_law
              (first
                | ((rw [if_pos (by rfl)]); go_simp; (with_reducible refine (pick_any g B A n c p2 zs ((R.C.length : Nat) : Int) _ hR2 hp5).mono ?_); rintro e w5 ⟨x5, rfl, a5, b5, _, h5, g5⟩; have b5 := b5 (by omega); obtain ⟨q, rfl⟩ := Int.eq_ofNat_of_zero_le a5; have hq : q < R.C.length := (by omega);
                    have hE5 := hEd.step (d2 := 1) ⟨hp3, hp4⟩ hgr ⟨p2 + 1, by omega, by omega, h5, g5⟩; have G5 := hgr.trans g5; obtain ⟨⟨e0, e1, e2⟩, _, _, _⟩ := hE5.dr.cells; clear a5 b5; go_simp)
                | ((rw [if_pos (by rfl)]); go_simp; (with_reducible refine (pick_any g B A n c (p2 + 1) zs 4 _ h5 hp6).mono ?_); rintro e w6 ⟨x6, rfl, a6, b6, _, h6, g6⟩; have b6 := b6 (by omega);
                    have hE6 := hE5.step (d2 := 1) (p' := p2 + 1) (by omega) G5 ⟨p2 + 1 + 1, by omega, by omega, h6, g6⟩; obtain ⟨⟨i0, i1, i2⟩, _, _, _⟩ := hE6.dr.cells; have hLk := hide (layD_any hR hE6.dr.own hE6.li hly hq (y := 1 + x6) ⟨by omega, by omega⟩); have hw6 : IntKind.i64.wrap (1 + x6) = 1 + x6 := IntWalk.i64_in _ (by omega); go_simp)
                | ((rw [if_pos (by rfl)]); go_simp; (with_reducible refine (unhide hLk).mono ?_); rintro e w7 ⟨g7, c7, b7, M7, rfl, hM7, hl7, hb7⟩; go_simp))
            all_goals
              have hE7 := hE6.calm hb7
              have hN7 := hl7.mono (b' := w.heap.size) (by obtain ⟨_, _, _, _, hq⟩ := hE6.dr.st; exact hq.size)
              have hM7l := hM7.len
              have hLn := hly.len
              clear hE5 hE6 hl7 hb7 h5 h6 g5 g6 G5 hEd hR2 hgr hLk d0 d1 d2 e0 e1 e2 i0 i1 i2 hw6
              cases b7 with
              | true =>
                go_wp2_with fail
                go_roundg (k - 1)
                case measure => have := HK.out; omega
                case rel => exact ⟨k - 1, _, c7, M7, rfl, by omega, by congr 1; omega, by rw [hM7l], ⟨hE7.dr.more (by omega), by rw [hM7l]; exact hN7, Lj.of hR hM7⟩⟩
              | false =>
                go_wp2_with fail
                go_roundg (k - 1)
                case measure => have := HK.out; omega
                case rel => exact ⟨k - 1, _, c6, L, rfl, by omega, by congr 1; omega, by rw [hLn], ⟨hE7.dr.more (by omega), by rw [hLn]; exact hE7.li, Lj.of hR hly⟩⟩
          · have hEx := hE.more (e := 203) (by omega)
            have hcb := hEx.lj.len
            obtain ⟨p2, hp3, hp4, hR2, hgr⟩ := hEx.dr.st
            have hgo2 : k = 0 ∨ (0 < k ∧ L.length = 0) := by omega
            clear hgo hE
            have hpick := pick_any g B A n c p2 zs 2 _ hR2 (by omega)
            obtain ⟨ml, hml⟩ : ∃ ml, L.length = ml := ⟨_, rfl⟩
            have HML := Lib.hid hml
            rw [hml] at hcb hgo2 hEx ⊢
            clear hml
            rcases hgo2 with rfl | ⟨h0, rfl⟩
            all_goals
              go_upto_region 11 with fail
              try clear h0
              go_wp2_with fail
              refine hpick.mono ?_
              rintro e w5 ⟨x5, rfl, a5, b5, _, h5, g5⟩
              have b5 := b5 (by omega)
              have hE5 := hEx.step (d2 := 1) ⟨hp3, hp4⟩ hgr ⟨p2 + 1, by omega, by omega, h5, g5⟩
              obtain ⟨⟨a0, a1, a2⟩, _, _, _⟩ := hE5.dr.cells
              have hCO := completeS_any W T A2 bs.length c2 w5.heap.size bs L A6 _ c6 w5 rfl HML.out (Reads.of_own hE5.dr.own.1) hE5.li.reads.2 (Nat.le_refl _) (by have := hE5.dr.own.2; omega) (by omega)
              clear hEx hR2 hgr h5 g5 hpick
              rcases (show x5 = 0 ∨ x5 = 1 by omega) with rfl | rfl
              · go_wp2_with fail
                with_reducible refine hCO.mono ?_
                rintro e w6 ⟨v6, ok6, M6, rfl, hl6, hm6, hok6, hb6⟩
                have hE6 := hE5.calm hb6
                have hN6 := hl6.mono (b' := w.heap.size) (by obtain ⟨_, _, _, _, hq⟩ := hE5.dr.st; exact hq.size)
                obtain ⟨A7, c7, c7', rfl, _⟩ := id hl6
                clear hE5 hCO hb6 hl6 a0 a1 a2
                cases ok6 with
                | true =>
                  go_wp2_with fail
                  go_meet
                  exact ⟨A7, c7, M6, rfl, hE6.dr.more (by omega), hN6, fun _ => hok6 trivial, fun hv => by have := hok6 trivial; rw [laidB_no hv] at this; cases this⟩
                | false =>
                  go_wp2_with fail
                  go_meet
                  exact ⟨A6, c6, L, by rw [HML.out], by rw [HML.out]; exact hE6.more (by omega)⟩
              · clear hCO
                go_wp2_with fail
                go_meet
                exact ⟨A6, c6, L, by rw [HML.out], by rw [HML.out]; exact hE5.more (by omega)⟩
    case rest =>
      obtain ⟨A4, c4, L0, rfl, hE0⟩ := hcut
      clear hD hl HL3 HBO
      have hl36 := hE0.lj.len
      obtain ⟨m0, hm0⟩ : ∃ m0, L0.length = m0 := ⟨_, rfl⟩
      rw [hm0] at hE0 hl36 ⊢
      go_wp2_with fail
      go_loopg [7, 14] m0 (fun r s7 s14 wr => ∃ (k : Nat) (A5 : Option Addr) (c5 : Nat) (L : List Int), k + r = m0 ∧ s14 = .int .i64 (k : Nat) ∧ s7 = .slice A5 m0 c5 ∧ L.length = m0 ∧ DL w wr g B A n c p (210 + k) zs x W T (.slice A2 bs.length c2) bs (.slice A5 m0 c5) L)
      case atStart => exact ⟨0, A4, c4, L0, by omega, rfl, rfl, hm0, hE0⟩
      case round =>
        clear hE0 hm0
        obtain ⟨k, A5, c5, L, hk, rfl, rfl, hLm, hE⟩ := hrel
        have HK := Lib.hid hk
        clear hk
        by_cases hlt : k < m0
        · obtain ⟨R, hR, rfl, rfl, rfl, hly⟩ := hE.lj.pos (by omega)
          obtain rfl : m0 = R.C.length := by rw [← hLm]; exact hly.len
          have HLM := Lib.hid hLm
          clear hLm
          obtain ⟨p2, hp3, hp4, hR2, hgr⟩ := hE.dr.st
          go_wp2_with fail
          refine (pick_any g B A n c p2 zs 12 _ hR2 (by omega)).mono ?_
          rintro e w5 ⟨x5, rfl, a5, b5, _, h5, g5⟩
          have hE5 := hE.step (d2 := 1) ⟨hp3, hp4⟩ hgr ⟨p2 + 1, by omega, by omega, h5, g5⟩
          clear hE hR2 hgr h5 g5 a5 b5
          by_cases hx : x5 = 0
          · subst hx
            obtain ⟨⟨a0, a1, a2⟩, _, _, _⟩ := hE5.dr.cells
            have hLF := liftS_ok R hR A2 c2 w5.heap.size L A5 c5 k hlt hly w5 (Reads.of_own hE5.dr.own.1) hE5.li.reads.2 (Nat.le_refl _)
            go_wp2_with fail
            refine hLF.mono ?_
            rintro e w6 ⟨v6, ok6, M6, rfl, hl6, hM6, hb6⟩
            have hE6 := hE5.calm hb6
            have hN6 := hl6.mono (b' := w.heap.size) (by obtain ⟨_, _, _, _, hq⟩ := hE5.dr.st; exact hq.size)
            obtain ⟨A7, c7, c7', rfl, _⟩ := id hl6
            have hM6l := hM6.len
            rw [hM6l] at hN6 ⊢
            clear hE5 hLF hb6 hl6 a0 a1 a2
            cases ok6 with
            | true =>
              go_wp2_with fail
              go_roundg (R.C.length - (k + 1))
              case measure => have := HK.out; omega
              case rel => exact ⟨k + 1, A7, c7, M6, by have := HK.out; omega, by go_num, rfl, hM6l, hE6.dr.more (by omega), hN6, (Lj.of hR hM6).1, (Lj.of hR hM6).2⟩
            | false =>
              go_wp2_with fail
              go_roundg (R.C.length - (k + 1))
              case measure => have := HK.out; omega
              case rel => exact ⟨k + 1, A5, c5, L, by have := HK.out; omega, by go_num, rfl, HLM.out, hE6.more (by omega)⟩
          · have hx0 : (x5 == 0) = false := by simpa using hx
            clear hx
            go_wp2_with fail
            go_roundg (R.C.length - (k + 1))
            case measure => have := HK.out; omega
            case rel => exact ⟨k + 1, A5, c5, L, by have := HK.out; omega, by go_num, rfl, HLM.out, hE5.more (by omega)⟩
        · have hEx := hE.more (e := 250) (by have := HK.out; omega)
          have HLM := Lib.hid hLm
          clear hLm
          obtain ⟨p2, hp3, hp4, hR2, hgr⟩ := hEx.dr.st
          have hm2 : IntKind.i64.wrap (2 * m) = 2 * m := IntWalk.i64_in _ (by omega)
          go_wp2_with fail
          refine (odd_any g B A n c p2 zs _ _ hR2 (by omega)).mono ?_
          rintro e w4 ⟨b5, rfl, p5, hp5, hp6, h5, g5⟩
          have hE5 := hEx.step (d2 := 1) ⟨hp3, hp4⟩ hgr ⟨p5, hp5, hp6, h5, g5⟩
          clear hE hEx hR2 hgr h5 g5 hm2 hlt
          have hL36 : L.length ≤ 99 := by have := hE5.lj.len; omega
          by_cases hgo : b5 = true ∧ 0 < m0
          · obtain ⟨rfl, hm0⟩ := hgo
            obtain ⟨gl, rfl⟩ := hE5.li.some hm0
            obtain ⟨p6, hp7, hp8, hR6, hgr6⟩ := hE5.dr.st
            go_upto_region 23 with fail
            go_wp2_with fail
            refine (pick_any g B A n c p6 zs (m0 : Int) _ hR6 (by omega)).mono ?_
            rintro e w6 ⟨x6, rfl, a6, b6, _, h6, g6⟩
            have b6 := b6 (by omega)
            have hE6 := hE5.step (d2 := 1) ⟨hp7, hp8⟩ hgr6 ⟨p6 + 1, by omega, by omega, h6, g6⟩
            have G6 := hgr6.trans g6
            clear hE5 hR6 g6
            go_wp2_with fail
            refine (pick_any g B A n c (p6 + 1) zs 6 _ h6 (by omega)).mono ?_
            rintro e w7 ⟨x7, rfl, a7, b7, _, h7, g7⟩
            have hE7 := hE6.step (d2 := 1) (p' := p6 + 1) (by omega) G6 ⟨p6 + 1 + 1, by omega, by omega, h7, g7⟩
            clear hE6 h6 h7 g7 G6 hgr6 b7
            obtain ⟨q, rfl⟩ := Int.eq_ofNat_of_zero_le a6
            have hq : q < m0 := by omega
            obtain ⟨⟨z0, hz0⟩, hfz, hDs, hLs⟩ := hE7.store hq x7
            clear hE7
            obtain ⟨⟨a0, a1, a2⟩, _, ⟨r0, r1, r2⟩, q0, q1, q2⟩ := hDs.cells
            obtain ⟨o1, o3, o2⟩ := (hDs.more (e := 500) (by omega)).outL hLs (.int .i64 W) (.int .i64 T) (.slice A2 bs.length c2)
            clear hDs hLs
            go_wp2_with fail
            exact bodyPost_ret (v := .tuple #[.agg #[.int .i64 W, .int .i64 T, .slice A2 bs.length c2], .slice (some ⟨gl, 0, none⟩) m0 c5]) (by simp [results, Try.results108, go_sem, r0, r1, r2]) rfl ⟨W, T, _, _, bs, _, rfl, o1, o3, by rw [List.length_set]; exact hL36, o2⟩
          · obtain ⟨⟨a0, a1, a2⟩, _, ⟨r0, r1, r2⟩, q0, q1, q2⟩ := hE5.dr.cells
            obtain ⟨o1, o3, o2⟩ := (hE5.dr.more (e := 500) (by omega)).outL hE5.li (.int .i64 W) (.int .i64 T) (.slice A2 bs.length c2)
            clear hE5
            have hgo2 : b5 = false ∨ (b5 = true ∧ m0 = 0) := by
              cases b5 with
              | false => exact .inl rfl
              | true => exact .inr ⟨rfl, Nat.eq_zero_of_not_pos fun h => hgo ⟨rfl, h⟩⟩
            clear hgo
            rcases hgo2 with rfl | ⟨rfl, rfl⟩
            all_goals
              go_wp2_with fail
              exact bodyPost_ret (v := .tuple #[.agg #[.int .i64 W, .int .i64 T, .slice A2 bs.length c2], .slice A5 _ c5]) (by simp [results, Try.results108, go_sem, r0, r1, r2]) rfl ⟨W, T, _, _, bs, L, rfl, o1, o3, hL36, o2⟩

end Go.Proofs.Ythepfpiphlfgnaa
