/-
  YthepfpiphlfgnaaD6: drawing: a region that has a tiling.
-/
import Derived.Test.YthepfpiphlfgnaaDq
import Derived.Test.YthepfpiphlfgnaaByS
import Derived.Test.YthepfpiphlfgnaaRw
namespace Go.Proofs.Ythepfpiphlfgnaa
open Go.RowKit
attribute [local go_sem ↓] Go.wp_at_zero Go.wp_at_succ

theorem LiAt.step {w w2 : World} {g b : Nat} {v : Value} {L : List Int} (h : LiAt w b v L) (hg : w.grownBy w2 (some g)) (hb : g < b) : LiAt w2 b v L := by
  obtain ⟨A, c1, c2, e, ho⟩ := h
  exact ⟨A, c1, c2, e, own_step ho hg hb⟩
theorem RegAt.below {w w2 : World} {b : Nat} {v : Value} {bs : List Bool} (h : RegAt w b v bs) (hb : Below w.heap.size w w2) : RegAt w2 b v bs := ⟨own_below h.1 hb (Nat.le_refl _), h.2⟩
theorem LiAt.reads {w : World} {b m d : Nat} {D : Option Addr} {L : List Int} (h : LiAt w b (.slice D m d) L) : L.length = m ∧ Reads w w.heap.size 1 D m (L.map (Value.int .i64)) := by
  obtain ⟨A, c1, c2, e, ho⟩ := h
  simp only [Value.slice.injEq] at e
  obtain ⟨rfl, rfl, rfl⟩ := e
  exact ⟨rfl, Reads.of_own ho⟩
theorem LiAt.app {wr w2 : World} {b b' y i m : Nat} {vl v : Value} {L : List Int} {xs : List Value} {cs : Array Value} {o : Obj} (h : LiAt wr b vl L) (hv : wr.ownsRow b' 4 1 v m xs) (hg : (wr.alloc o).grownBy w2 v.ownBlock) (hy : Blk wr y 25 cs) (u : Value) : LiAt (w2.setCell ⟨y, i, none⟩ u) b vl L := by
  obtain ⟨A, c1, c2, e, ho⟩ := h
  have h1 := own_grown (ho.alloc o) hg (own_far (ho.alloc o) (hv.alloc o) (by decide))
  exact ⟨A, c1, c2, e, ownsRow_setCell_other h1 (own_blk_ne ho hy (by decide)) u⟩
/-- LayOne in a drawing: the list behind it. -/
def LayD (w : World) (n : Nat) (R : Reg) (e : Ending) (w' : World) : Prop :=
  ∃ g c1 b M, e = .returned (.tuple #[.slice (some ⟨g, 0, none⟩) n c1, .bool b]) ∧ Lay R M ∧ LiAt w' w.heap.size (.slice (some ⟨g, 0, none⟩) n c1) M ∧ Below w.heap.size w w'
theorem layD_any {R : Reg} (hR : R.ok) {A2 : Option Addr} {c2 : Nat} {w : World} {b1 b2 gl c6 : Nat} {L : List Int} (hreg : RegAt w b1 (.slice A2 R.C.length c2) R.C) (hli : LiAt w b2 (.slice (some ⟨gl, 0, none⟩) R.C.length c6) L) (hly : Lay R L) {k : Nat} (hk : k < R.C.length) {y : Int} (hy : 1 ≤ y ∧ y ≤ 4) :
    Calls Try.prog 157 #[.agg #[.int .i64 R.W, .int .i64 R.T, .slice A2 R.C.length c2], .slice (some ⟨gl, 0, none⟩) R.C.length c6, .int .i64 (k : Nat), .int .i64 y] w (LayD w R.C.length R) := by
  refine (layOneS_any R hR A2 c2 w.heap.size L (some ⟨gl, 0, none⟩) c6 k hk y hy hly w (Reads.of_own hreg.1) hli.reads.2 (Nat.le_refl _)).mono ?_
  rintro e w' ⟨g, c1, c3, rfl, ho, hb⟩
  have hM : Lay R (if frB R L k y = true then lyV R L k y else L) := by
    split
    · rename_i hf
      exact lay_lyV hR hly (by unfold back; omega) hf
    · exact hly
  refine ⟨g, c1, _, _, rfl, hM, ⟨some ⟨g, 0, none⟩, c1, c3, by rw [hM.len], by rw [hM.len]; exact ho⟩, hb⟩
/-- Where a drawing stands: the reader; the result's block; the region's block and cells. -/
structure DR (w wr : World) (g B : Nat) (A : Option Addr) (n c p d : Nat) (zs : List Int) (x : Nat) (W T : Int) (v : Value) (bs : List Bool) : Prop where
  st : Stepped w g B A n c p d zs wr
  glt : g < w.heap.size
  res : Blk wr w.heap.size 25 #[.int .i64 0, .int .i64 0, .slice none 0 0]
  reg : Blk wr x 25 #[.int .i64 W, .int .i64 T, v]
  own : RegAt wr w.heap.size v bs
  xlt : w.heap.size < x
section
variable {w wr w2 : World} {g B : Nat} {A : Option Addr} {n c p d d2 p' : Nat} {zs : List Int} {x : Nat} {W T : Int} {v : Value} {bs : List Bool}
theorem DR.step (h : DR w wr g B A n c p d zs x W T v bs) (hp : p ≤ p' ∧ p' ≤ p + d) (hgr : w.grownBy wr (some g)) (hs : Stepped wr g B A n c p' d2 zs w2) : DR w w2 g B A n c p (d + d2) zs x W T v bs := by
  have hg1 := h.glt
  have hx := h.xlt
  obtain ⟨_, _, _, _, hg⟩ := id hs
  exact ⟨Stepped.and_ hp hgr hs, hg1, h.res.grown hg (by simp; omega), h.reg.grown hg (by simp; omega), h.own.step hg hg1, hx⟩
theorem DR.calm (h : DR w wr g B A n c p d zs x W T v bs) (hb : Below wr.heap.size wr w2) : DR w w2 g B A n c p d zs x W T v bs :=
  ⟨h.st.calm hb, h.glt, h.res.below hb h.res.lt, h.reg.below hb h.reg.lt, h.own.below hb, h.xlt⟩
theorem DR.more {e : Nat} (h : DR w wr g B A n c p d zs x W T v bs) (he : d ≤ e) : DR w wr g B A n c p e zs x W T v bs := ⟨h.st.more he, h.glt, h.res, h.reg, h.own, h.xlt⟩
theorem DR.cells (h : DR w wr g B A n c p d zs x W T v bs) : (wr.cell? ⟨x, 0, none⟩ = some (.int .i64 W) ∧ wr.cell? ⟨x, 1, none⟩ = some (.int .i64 T) ∧ wr.cell? ⟨x, 2, none⟩ = some v) ∧
    (wr.frozen? ⟨x, 0, none⟩ = false ∧ wr.frozen? ⟨x, 1, none⟩ = false ∧ wr.frozen? ⟨x, 2, none⟩ = false) ∧
    (wr.cell? ⟨w.heap.size, 0, none⟩ = some (.int .i64 0) ∧ wr.cell? ⟨w.heap.size, 1, none⟩ = some (.int .i64 0) ∧ wr.cell? ⟨w.heap.size, 2, none⟩ = some (.slice none 0 0)) ∧
    (wr.frozen? ⟨w.heap.size, 0, none⟩ = false ∧ wr.frozen? ⟨w.heap.size, 1, none⟩ = false ∧ wr.frozen? ⟨w.heap.size, 2, none⟩ = false) := by
  have a0 := h.reg.cell 0
  have a1 := h.reg.cell 1
  have a2 := h.reg.cell 2
  have b0 := h.res.cell 0
  have b1 := h.res.cell 1
  have b2 := h.res.cell 2
  simp at a0 a1 a2 b0 b1 b2
  exact ⟨⟨a0, a1, a2⟩, ⟨h.reg.frozen 0, h.reg.frozen 1, h.reg.frozen 2⟩, ⟨b0, b1, b2⟩, h.res.frozen 0, h.res.frozen 1, h.res.frozen 2⟩
end

set_option maxHeartbeats 4000000 in
set_option maxRecDepth 100000 in
theorem drawTiled_any (g B : Nat) (A : Option Addr) (n c p : Nat) (zs : List Int) (m : Int) (w : World) (h : Rd w g B A n c p zs) (hp : p ≤ 10000000000) :
    Calls Try.prog 173 #[.pointer (some ⟨g, 0, none⟩), .int .i64 m] w (DrawnR w g B A n c p 160 zs) := by
  have hglt := h.lt
  go_enter Try.func173, Try.ntmps173
  go_wp2_with fail
  refine (drawRegion_any g B A n c p zs m _ (h.alloc _) (by omega)).mono ?_
  rintro e w1 ⟨W, T, v, bs, rfl, hreg, hst⟩
  obtain ⟨A2, c2, rfl, hc2, hrd⟩ := own_form hreg.1
  obtain ⟨p', hp1, hp2, hR1, hg1⟩ := id hst
  have hsz := hg1.size
  have hD0 : DR w (w1.alloc (.cells #[.int .i64 W, .int .i64 T, .slice A2 bs.length c2] 25)) g B A n c p 60 zs w1.heap.size W T (.slice A2 bs.length c2) bs := by
    simp at hsz
    refine ⟨(Stepped.calm (w2 := w1.alloc _) ⟨p', hp1, hp2, hR1, only_alloc_start hg1⟩ ((Below.refl _ _).alloc (Nat.le_refl _) _)), hglt, ?_, Blk.new _ _ _, (hreg.mono (by simp)).below ((Below.refl _ _).alloc (Nat.le_refl _) _), by omega⟩
    exact ((Blk.new w _ _).grown hg1 (by simp; omega)).alloc _
  clear hreg hst hR1 hg1 hrd h
  go_wp2_with fail
  have hVd := validS_any W T A2 bs.length c2 _ bs _ (Reads.of_own hD0.own.1) (Nat.le_refl _) (by have := hD0.own.2; omega)
  have hxl := hD0.reg.lt
  generalize w1.heap.size = x at *
  generalize w1.alloc (.cells #[.int .i64 W, .int .i64 T, .slice A2 bs.length c2] 25) = w2 at *
  refine hVd.mono ?_
  rintro e w3 ⟨rfl, hb3⟩
  have hD3 := hD0.calm hb3
  clear hD0 hb3 hVd
  cases hv : validB W T bs with
  | false =>
    obtain ⟨⟨a0, a1, a2⟩, ⟨f0, f1, f2⟩, ⟨r0, r1, r2⟩, q0, q1, q2⟩ := hD3.cells
    obtain ⟨o1, o2⟩ := out_any (hD3.st.more (e := 160) (by omega)) hglt hD3.res hD3.own (.int .i64 W) (.int .i64 T) (.slice A2 bs.length c2)
    go_wp2_with fail
    exact bodyPost_ret (v := .agg #[.int .i64 W, .int .i64 T, .slice A2 bs.length c2]) (by simp [results, Try.results173, go_sem, r0, r1, r2]) rfl ⟨W, T, _, bs, rfl, o1, o2⟩
  | true =>
    obtain ⟨R, hR, rfl, rfl, rfl⟩ := reg_of_valid hv
    have hLB := laidBareS_ok R hR A2 c2 _ w3 (Reads.of_own hD3.own.1) (Nat.le_refl _)
    obtain ⟨⟨a0, a1, a2⟩, _, _, _⟩ := hD3.cells
    go_wp2_with fail
    refine hLB.mono ?_
    rintro e w4 ⟨gl, rfl, ho4, hb4⟩
    have hD4 := hD3.calm hb4
    have hl4 : LiAt w4 w.heap.size (.slice (some ⟨gl, 0, none⟩) R.C.length R.C.length) (bare R) := ⟨some ⟨gl, 0, none⟩, R.C.length, R.C.length, by simp [bare], by
      have := own_mono ho4 (base' := w.heap.size) (by have := hD3.st; obtain ⟨_, _, _, _, hq⟩ := this; exact hq.size)
      simpa [bare] using this⟩
    clear hD3 hb4 ho4 hLB a0 a1 a2
    have hly : Lay R (bare R) := lay_bare hR
    go_wp2_with fail
    go_loopg [6, 7] R.C.length (fun r s6 s7 wr => ∃ (k gl c6 : Nat) (L : List Int), k + r = R.C.length ∧ s7 = .int .i64 (k : Nat) ∧ s6 = .slice (some ⟨gl, 0, none⟩) R.C.length c6 ∧ Lay R L ∧ LiAt wr w.heap.size (.slice (some ⟨gl, 0, none⟩) R.C.length c6) L ∧ DR w wr g B A n c p (60 + k) zs x R.W R.T (.slice A2 R.C.length c2) R.C)
    case atStart => exact ⟨0, _, _, _, by omega, rfl, rfl, hly, hl4, hD4⟩
    case round =>
      clear hD4 hl4 hly
      obtain ⟨k, gl, c6, L, hk, rfl, rfl, hly, hli, hD⟩ := hrel
      have HK := Lib.hid hk
      clear hk
      by_cases hlt : k < R.C.length
      · have hba : Below wr.heap.size wr (wr.alloc (.cells #[.int .i64 1, .int .i64 2, .int .i64 3, .int .i64 4] 3)).drew := ((Below.refl wr.heap.size wr).alloc (Nat.le_refl _) _).drew
        have hDd := hD.calm hba
        have hLd := hli.below hba
        have hSd : Blk (wr.alloc (.cells #[.int .i64 1, .int .i64 2, .int .i64 3, .int .i64 4] 3)).drew wr.heap.size 3 #[.int .i64 1, .int .i64 2, .int .i64 3, .int .i64 4] := Blk.new _ _ _
        obtain ⟨p2, hp3, hp4, hR2, hgr⟩ := hDd.st
        obtain ⟨⟨a0, a1, a2⟩, _, _, _⟩ := hDd.cells
        obtain ⟨⟨d0, d1, d2⟩, _, _, _⟩ := hD.cells
        have hl36 := (len_bd hR).2
        have hgs : g ≠ wr.heap.size := by have := hD.st; obtain ⟨_, _, _, hq, _⟩ := this; have := hq.lt; omega
        have hp5 : p2 ≤ 1000000000000 := by omega
        have hst5 : ∀ (w5 : World) (x5 : Int), 0 ≤ x5 → x5 < 4 → Rd w5 g B A n c (p2 + 1) zs → (wr.alloc (.cells #[.int .i64 1, .int .i64 2, .int .i64 3, .int .i64 4] 3)).drew.grownBy w5 (some g) →
            DR w w5 g B A n c p (60 + k + 1) zs x R.W R.T (.slice A2 R.C.length c2) R.C ∧ LiAt w5 w.heap.size (.slice (some ⟨gl, 0, none⟩) R.C.length c6) L ∧ ∃ (q : Nat) (y : Int), x5 = (q : Nat) ∧ q < 4 ∧ 1 ≤ y ∧ y ≤ 4 ∧ w5.cell? ⟨wr.heap.size, q, none⟩ = some (.int .i64 y) :=
          fun w5 x5 h0 h4 h5 g5 => by
            refine ⟨hDd.step ⟨hp3, hp4⟩ hgr ⟨p2 + 1, by omega, by omega, h5, g5⟩, hLd.step g5 hglt, ?_⟩
            have hS5 := hSd.grown g5 (by simp; omega)
            rcases (show x5 = 0 ∨ x5 = 1 ∨ x5 = 2 ∨ x5 = 3 by omega) with rfl | rfl | rfl | rfl
            · exact ⟨0, 1, rfl, by omega, by omega, by omega, (hS5.cell 0).trans (by simp)⟩
            · exact ⟨1, 2, rfl, by omega, by omega, by omega, (hS5.cell 1).trans (by simp)⟩
            · exact ⟨2, 3, rfl, by omega, by omega, by omega, (hS5.cell 2).trans (by simp)⟩
            · exact ⟨3, 4, rfl, by omega, by omega, by omega, (hS5.cell 3).trans (by simp)⟩
        have hDe := hD.calm (Below.refl wr.heap.size wr).drew
        have hLe := hli.below (Below.refl wr.heap.size wr).drew
        obtain ⟨p3, hp6, hp7, hR3, hgr3⟩ := hDe.st
        have hp8 : p3 ≤ 1000000000000 := by omega
        have hst6 : ∀ (w5 : World) (x5 : Int), 0 ≤ x5 → x5 < 4 → Rd w5 g B A n c (p3 + 1) zs → wr.drew.grownBy w5 (some g) →
            DR w w5 g B A n c p (60 + k + 1) zs x R.W R.T (.slice A2 R.C.length c2) R.C ∧ DR w (w5.alloc (.cells #[.int .i64 1, .int .i64 2, .int .i64 3, .int .i64 4] 3)) g B A n c p (60 + k + 1) zs x R.W R.T (.slice A2 R.C.length c2) R.C ∧ LiAt (w5.alloc (.cells #[.int .i64 1, .int .i64 2, .int .i64 3, .int .i64 4] 3)) w.heap.size (.slice (some ⟨gl, 0, none⟩) R.C.length c6) L ∧ ∃ (q : Nat) (y : Int), x5 = (q : Nat) ∧ q < 4 ∧ 1 ≤ y ∧ y ≤ 4 ∧ (w5.alloc (.cells #[.int .i64 1, .int .i64 2, .int .i64 3, .int .i64 4] 3)).cell? ⟨w5.heap.size, q, none⟩ = some (.int .i64 y) :=
          fun w5 x5 h0 h4 h5 g5 => by
            have hba5 : Below w5.heap.size w5 (w5.alloc (.cells #[.int .i64 1, .int .i64 2, .int .i64 3, .int .i64 4] 3)) := (Below.refl w5.heap.size w5).alloc (Nat.le_refl _) _
            have hD5 := hDe.step (d2 := 1) ⟨hp6, hp7⟩ hgr3 ⟨p3 + 1, by omega, by omega, h5, g5⟩
            have hS5 := Blk.new w5 3 #[.int .i64 1, .int .i64 2, .int .i64 3, .int .i64 4]
            refine ⟨hD5, hD5.calm hba5, (hLe.step g5 hglt).below hba5, ?_⟩
            rcases (show x5 = 0 ∨ x5 = 1 ∨ x5 = 2 ∨ x5 = 3 by omega) with rfl | rfl | rfl | rfl
            · exact ⟨0, 1, rfl, by omega, by omega, by omega, (hS5.cell 0).trans (by simp)⟩
            · exact ⟨1, 2, rfl, by omega, by omega, by omega, (hS5.cell 1).trans (by simp)⟩
            · exact ⟨2, 3, rfl, by omega, by omega, by omega, (hS5.cell 2).trans (by simp)⟩
            · exact ⟨3, 4, rfl, by omega, by omega, by omega, (hS5.cell 3).trans (by simp)⟩
        clear hDd hLd hSd hD hli hgr hDe hLe hgr3
        go_upto_region 8 with fail
        go_region_law
          (first
            | ((rw [if_pos (by rfl)]); go_simp; (with_reducible refine (pick_any g B A n c p2 zs 4 _ hR2 hp5).mono ?_); rintro e w5 ⟨x5, rfl, a5, b5, _, h5, g5⟩; have b5 := b5 (by omega); obtain ⟨hD5, hL5, q, y, rfl, hq, hy1, hy4, hcq⟩ := hst5 w5 x5 a5 b5 h5 g5; have hLk := hide (layD_any hR hD5.own hL5 hly hlt ⟨hy1, hy4⟩); obtain ⟨⟨e0, e1, e2⟩, _, _, _⟩ := hD5.cells; clear hst5 a5 b5 h5 g5; go_simp)
            | ((rw [if_pos (by rfl)]); go_simp; (with_reducible refine (pick_any g B A n c p3 zs 4 _ hR3 hp8).mono ?_); rintro e w5 ⟨x5, rfl, a5, b5, _, h5, g5⟩; have b5 := b5 (by omega); obtain ⟨hD6, hD5, hL5, q, y, rfl, hq, hy1, hy4, hcq⟩ := hst6 w5 x5 a5 b5 h5 g5; have hLk := hide (layD_any hR hD5.own hL5 hly hlt ⟨hy1, hy4⟩); obtain ⟨⟨e0, e1, e2⟩, _, _, _⟩ := hD5.cells; obtain ⟨⟨i0, i1, i2⟩, _, _, _⟩ := hD6.cells; clear hst6 hD6 a5 b5 h5 g5; go_simp)
            | ((rw [if_pos (by rfl)]); go_simp; (with_reducible refine (unhide hLk).mono ?_); rintro e w6 ⟨g6, c7, b6, M6, rfl, hM6, hl6, hb6⟩; go_simp))
        all_goals
          have hD7 := hD5.calm hb6
          have hL7 := hL5.below hb6
          have hN7 := hl6.mono (b' := w.heap.size) (by obtain ⟨_, _, _, _, hq⟩ := hD5.st; exact hq.size)
          clear hD5 hL5 hl6 hb6 hcq e0 e1 e2 d0 d1 d2 a0 a1 a2
          cases b6 with
          | true =>
            go_wp2_with fail
            go_roundg (R.C.length - (k + 1))
            case measure => have := HK.out; omega
            case rel => exact ⟨k + 1, _, _, _, by have := HK.out; omega, by go_num, rfl, hM6, hN7, hD7⟩
          | false =>
            go_wp2_with fail
            go_roundg (R.C.length - (k + 1))
            case measure => have := HK.out; omega
            case rel => exact ⟨k + 1, _, _, _, by have := HK.out; omega, by go_num, rfl, hly, hL7, hD7⟩
      · have hl36 := (len_bd hR).2
        have hD0 := hD.more (e := 96) (by have := HK.out; omega)
        obtain ⟨k0, hk0⟩ : ∃ k0 : Nat, k0 = k := ⟨k, rfl⟩
        clear hD
        go_wp2_with fail
        go_loopg [6, 10] R.C.length (fun r s6 s10 wr => ∃ (k gl c6 : Nat) (L : List Int), k + r = R.C.length ∧ s10 = .int .i64 (k : Nat) ∧ s6 = .slice (some ⟨gl, 0, none⟩) R.C.length c6 ∧ Lay R L ∧ LiAt wr w.heap.size (.slice (some ⟨gl, 0, none⟩) R.C.length c6) L ∧ DR w wr g B A n c p 96 zs x R.W R.T (.slice A2 R.C.length c2) R.C)
        case atStart => exact ⟨0, _, _, _, by omega, rfl, rfl, hly, hli, hD0⟩
        case round =>
          clear hly hli hD0 HK hlt hk0
          obtain ⟨k, gl, c6, L, hk, rfl, rfl, hly, hli, hD⟩ := hrel
          have HK := Lib.hid hk
          clear hk
          by_cases hlt : k < R.C.length
          · go_wp2_with fail
            go_loopg [6, 11] 2 (fun r s6 s11 wr => ∃ (j gl c6 : Nat) (L : List Int), j + r = 2 ∧ s11 = .int .i64 ((j : Int) + 1) ∧ s6 = .slice (some ⟨gl, 0, none⟩) R.C.length c6 ∧ Lay R L ∧ LiAt wr w.heap.size (.slice (some ⟨gl, 0, none⟩) R.C.length c6) L ∧ DR w wr g B A n c p 96 zs x R.W R.T (.slice A2 R.C.length c2) R.C)
            case atStart => exact ⟨0, _, _, _, by omega, rfl, rfl, hly, hli, hD⟩
            case round =>
              clear hly hli hD
              obtain ⟨j, gl, c6, L, hj, rfl, rfl, hly, hli, hD⟩ := hrel
              have HJ := Lib.hid hj
              by_cases hj2 : j < 2
              · have hle2 : decide ((j : Int) + 1 ≤ 2) = true := decide_eq_true (by omega)
                have hLk := hide (layD_any hR hD.own hli hly hlt (y := (j : Int) + 1) ⟨by omega, by omega⟩)
                obtain ⟨⟨a0, a1, a2⟩, _, _, _⟩ := hD.cells
                clear hj
                go_wp2_with fail
                refine (unhide hLk).mono ?_
                rintro e w6 ⟨g6, c7, b6, M6, rfl, hM6, hl6, hb6⟩
                have hD7 := hD.calm hb6
                have hL7 := hli.below hb6
                have hN7 := hl6.mono (b' := w.heap.size) (by obtain ⟨_, _, _, _, hq⟩ := hD.st; exact hq.size)
                clear hD hli hl6 hb6 hLk a0 a1 a2
                cases b6 with
                | true =>
                  go_wp2_with fail
                  go_roundg (2 - (j + 1))
                  case measure => have := HJ.out; omega
                  case rel => exact ⟨j + 1, _, _, _, by have := HJ.out; omega, by go_num, rfl, hM6, hN7, hD7⟩
                | false =>
                  go_wp2_with fail
                  go_roundg (2 - (j + 1))
                  case measure => have := HJ.out; omega
                  case rel => exact ⟨j + 1, _, _, _, by have := HJ.out; omega, by go_num, rfl, hly, hL7, hD7⟩
              · have hle2 : decide ((j : Int) + 1 ≤ 2) = false := decide_eq_false (by omega)
                clear hj
                go_wp2_with fail
                go_roundg (R.C.length - (k + 1))
                case measure => have := HK.out; omega
                case rel => exact ⟨k + 1, _, _, _, by have := HK.out; omega, by go_num, rfl, hly, hli, hD⟩
          · obtain ⟨⟨a0, a1, a2⟩, _, _, _⟩ := hD.cells
            go_wp2_with fail
            have hE0 : DS w (wr.alloc (.cells #[.int .i64 R.W, .int .i64 R.T, .slice none 0 0] 25)) g B A n c p 96 zs wr.heap.size R.W R.T (.slice none 0 0) [] :=
              ⟨hD.st.calm ((Below.refl _ _).alloc (Nat.le_refl _) _), hglt, hD.res.alloc _, Blk.new _ _ _, ⟨rfl, .inl ⟨rfl, rfl⟩⟩, hD.res.lt⟩
            have hl0 := hli.below ((Below.refl wr.heap.size wr).alloc (Nat.le_refl _) (.cells #[.int .i64 R.W, .int .i64 R.T, .slice none 0 0] 25))
            generalize wr.alloc (.cells #[.int .i64 R.W, .int .i64 R.T, .slice none 0 0] 25) = w8 at *
            generalize wr.heap.size = y at *
            have HLN := Lib.hid hly.len
            clear hD hli a0 a1 a2 hlt HK hly
            go_loopg [15] R.C.length (fun r s15 wr => ∃ (k : Nat) (v : Value) (cs : List Bool), k + r = R.C.length ∧ s15 = .int .i64 (k : Nat) ∧ cs.length = k ∧ LiAt wr w.heap.size (.slice (some ⟨gl, 0, none⟩) R.C.length c6) L ∧ DS w wr g B A n c p 96 zs y R.W R.T v cs)
            case atStart => exact ⟨0, _, [], by omega, rfl, rfl, hl0, hE0⟩
            case round =>
              clear hl0 hE0
              obtain ⟨k, v, cs, hk, rfl, hcl, hli, hD⟩ := hrel
              have HK := Lib.hid hk
              have HCL := Lib.hid hcl
              clear hk hcl
              by_cases hlt : k < R.C.length
              · have hDd := hD.drew
                have hLd := hli.below (Below.refl wr.heap.size wr).drew
                obtain ⟨ad, had, _, hcx⟩ := hLd.reads.2.getI hlt
                obtain rfl : ad = ⟨gl, 0, none⟩ := by injection had with h; exact h.symm
                obtain ⟨z, hz⟩ : ∃ z, z = L.getD k 0 := ⟨_, rfl⟩
                have hcx2 : wr.cell? ⟨gl, k, none⟩ = some (.int .i64 z) := by
                  rw [hz]
                  refine Eq.trans ?_ hcx
                  by_cases h0 : k = 0
                  · subst h0; rfl
                  · simp [Addr.add, h0]
                clear hz hcx
                obtain ⟨o, ho⟩ : ∃ o : Obj, o = .cells #[.bool (z != 0)] 4 := ⟨_, rfl⟩
                have c6x : (wr.alloc (.cells #[.bool (z != 0)] 4)).cell? ⟨y, 2, none⟩ = some v := ((hD.reg.alloc _).cell 2).trans (by simp)
                have c2x := hD.reg.cell 2
                simp at c2x
                have hoa : (wr.alloc (.cells #[.bool (z != 0)] 4)).drew.ownsRow w.heap.size 4 1 v cs.length (cs.map Value.bool) := own_below hD.own ((Below.refl wr.heap.size wr).alloc (Nat.le_refl _) _).drew (Nat.le_refl _)
                have hcs : cs.length ≤ 64 := by have := HCL.out; omega
                have hwsz : w.heap.size ≤ wr.heap.size := by have := hD.res.lt; omega
                obtain ⟨i0, hi0, hz0, hs0, hby0⟩ := info_parts info_bool
                clear hD hli ho
                go_upto_region 24 with fail
                go_region_law
                  (first
                    | (refine step_append_lies _ rfl _ _ _ rfl w.heap.size 4 i0 _ 1 1 Try.underlying23 hi0 hz0 hs0 hby0 rfl (by omega) v cs.length _ rfl hoa _ 1 1 [.bool (z != 0)] rfl rfl (World.news_of_block (heap_alloc_new wr _)) (by simp [Value.oneCell']) (by omega) (by simp only [maxLen]; omega) (by omega) (by have := hDd.res.lt; simp; omega) _ rfl ?_; intro g' cap w5 hown5 hgrow hat hlt5; obtain ⟨c5, f5⟩ := hDd.kept (o := .cells #[.bool (z != 0)] 4) hgrow))
                all_goals
                  have hD5 := hDd.app (o := .cells #[.bool (z != 0)] 4) hown5 hgrow
                  have hL5 := hLd.app (i := 2) (o := .cells #[.bool (z != 0)] 4) hDd.own hgrow hDd.reg (.slice (some ⟨g', 0, none⟩) (cs.length + 1) cap)
                  clear hoa c6x c2x hgrow hat hown5 c5 f5 hDd hLd hcx2
                  go_wp2_with fail
                  go_roundg (R.C.length - (k + 1))
                  case measure => have := HK.out; omega
                  case rel => exact ⟨k + 1, _, _, by have := HK.out; omega, by go_num, by simp [HCL.out], hL5, hD5⟩
              · obtain ⟨A3, c3, rfl, hc3, _⟩ := own_form hD.own
                obtain ⟨⟨a0, a1, a2⟩, ⟨f0, f1, f2⟩, ⟨r0, r1, r2⟩, q0, q1, q2⟩ := hD.cells
                obtain ⟨o1, o2⟩ := hD.out (by have := HCL.out; have := HK.out; omega) (e := 160) (by omega) (.int .i64 R.W) (.int .i64 R.T) (.slice A3 cs.length c3)
                go_wp2_with fail
                exact bodyPost_ret (v := .agg #[.int .i64 R.W, .int .i64 R.T, .slice A3 cs.length c3]) (by simp [results, Try.results173, go_sem, r0, r1, r2]) rfl ⟨R.W, R.T, _, _, rfl, o1, o2⟩

end Go.Proofs.Ythepfpiphlfgnaa
