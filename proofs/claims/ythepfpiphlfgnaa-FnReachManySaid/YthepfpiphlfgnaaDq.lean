/-
  YthepfpiphlfgnaaDq: the texts D1, D2, D3, D4, D5 in one file.
-/
import Derived.Deep.DrawnRows
import Derived.Deep.RegionHeld3
import Derived.Deep.RegionLaw
import Derived.Test.YthepfpiphlfgnaaRd
import Derived.Test.YthepfpiphlfgnaaWa
import Derived.Test.YthepfpiphlfgnaaTd
import Derived.Test.YthepfpiphlfgnaaQz
import Derived.Test.YthepfpiphlfgnaaFq
import Derived.Test.YthepfpiphlfgnaaByS

/-
  YthepfpiphlfgnaaD1: the reference draws a region.
-/
namespace Go.Proofs.Ythepfpiphlfgnaa
open Go.RowKit
attribute [local go_sem ↓] Go.wp_at_zero Go.wp_at_succ

theorem own_in {w : World} {base : Nat} {e : TypeId} {size : Nat} {v : Value} {n : Nat} {xs : List Value} (h : w.ownsRow base e size v n xs) {g : Nat} (hg : v.ownBlock = some g) : base ≤ g ∧ g < w.heap.size := by
  rcases h.2 with ⟨rfl, _⟩ | ⟨g', cap, cur, rfl, hb, hh, _⟩
  · simp [Value.ownBlock] at hg
  · have : g' = g := by simpa [Value.ownBlock] using hg
    subst this
    exact ⟨hb, (Array.getElem?_eq_some_iff.1 hh).1⟩
theorem mulc (W T : Nat) : (W : Int) * (T : Int) = ((W * T : Nat) : Int) := by simp
/-- A drawn region: its cells lie in a row of its own, or nowhere. -/
def RegAt (w : World) (b : Nat) (v : Value) (bs : List Bool) : Prop := w.ownsRow b 4 1 v bs.length (bs.map Value.bool) ∧ bs.length ≤ 64
def DrawnR (w : World) (g B : Nat) (A : Option Addr) (n c p d : Nat) (zs : List Int) (e : Ending) (w' : World) : Prop :=
  ∃ (W T : Int) (v : Value) (bs : List Bool), e = .returned (.agg #[.int .i64 W, .int .i64 T, v]) ∧ RegAt w' w.heap.size v bs ∧ Stepped w g B A n c p d zs w'

/-- Where the drawing of a region stands: the reader; the result's block; the region's block; the cells. -/
structure DS (w wr : World) (g B : Nat) (A : Option Addr) (n c p d : Nat) (zs : List Int) (x : Nat) (W T : Int) (v : Value) (bs : List Bool) : Prop where
  st : Stepped w g B A n c p d zs wr
  glt : g < w.heap.size
  res : Blk wr w.heap.size 25 #[.int .i64 0, .int .i64 0, .slice none 0 0]
  reg : Blk wr x 25 #[.int .i64 W, .int .i64 T, v]
  own : wr.ownsRow w.heap.size 4 1 v bs.length (bs.map Value.bool)
  xlt : w.heap.size < x
section
variable {w wr w2 : World} {g B : Nat} {A : Option Addr} {n c p d : Nat} {zs : List Int} {x : Nat} {W T : Int} {v : Value} {bs : List Bool}
theorem DS.pick (h : DS w wr g B A n c p d zs x W T v bs) {p' : Nat} (hp : p ≤ p' ∧ p' ≤ p + (d + 1)) (hR : Rd w2 g B A n c p' zs) (hg : wr.grownBy w2 (some g)) : DS w w2 g B A n c p (d + 1) zs x W T v bs := by
  obtain ⟨_, _, _, _, hgr⟩ := h.st
  have hg1 := h.glt
  have hx := h.xlt
  refine ⟨⟨p', hp.1, hp.2, hR, hgr.trans hg⟩, hg1, h.res.grown hg (by simp; omega), h.reg.grown hg (by simp; omega), own_grown h.own hg ?_, hx⟩
  cases hv : v.ownBlock with
  | none => exact .inl rfl
  | some k =>
    have := own_in h.own hv
    right; simp; omega
theorem Stepped.more {e : Nat} (h : Stepped w g B A n c p d zs w2) (he : d ≤ e) : Stepped w g B A n c p e zs w2 := by
  obtain ⟨p', h1, h2, h3, h4⟩ := h
  exact ⟨p', h1, by omega, h3, h4⟩
theorem DS.more {e : Nat} (h : DS w wr g B A n c p d zs x W T v bs) (he : d ≤ e) : DS w wr g B A n c p e zs x W T v bs :=
  ⟨h.st.more he, h.glt, h.res, h.reg, h.own, h.xlt⟩
theorem DS.drew (h : DS w wr g B A n c p d zs x W T v bs) : DS w wr.drew g B A n c p d zs x W T v bs := by
  obtain ⟨p', h1, h2, h3, hgr⟩ := h.st
  exact ⟨⟨p', h1, h2, h3.below ((Below.refl wr.heap.size wr).drew) h3.lt, only_drew hgr⟩, h.glt, h.res.drew, h.reg.drew, own_below h.own (Below.refl _ _).drew (Nat.le_refl _), h.xlt⟩
theorem DS.kept (h : DS w wr g B A n c p d zs x W T v bs) {o : Obj} (hg : (wr.alloc o).grownBy w2 v.ownBlock) : w2.cell? ⟨x, 2, none⟩ = some v ∧ w2.frozen? ⟨x, 2, none⟩ = false := by
  have hb := (h.reg.alloc o).grown hg (fun e => own_blk_ne h.own h.reg (by decide) e.symm)
  have := hb.cell 2
  exact ⟨by simpa using this, hb.frozen 2⟩
theorem only_alloc_start {o : Obj} {row : Option Nat} (h : (w.alloc o).grownBy w2 row) : w.grownBy w2 row :=
  (only_alloc (World.grownBy.refl w row) o).trans h
/-- One more cell: append, and the store of the new slice. -/
theorem DS.app (h : DS w wr g B A n c p d zs x W T v bs) {b : Bool} {u : Value} {o : Obj} (hown : w2.ownsRow w.heap.size 4 1 u (bs.length + 1) (bs.map Value.bool ++ [.bool b])) (hg : (wr.alloc o).grownBy w2 v.ownBlock) :
    DS w (w2.setCell ⟨x, 2, none⟩ u) g B A n c p d zs x W T u (bs ++ [b]) := by
  obtain ⟨p', h1, h2, h3, hgr⟩ := h.st
  have hg1 := h.glt
  have hx := h.xlt
  have hxl := h.reg.lt
  have hvn : ∀ k, v.ownBlock = some k → w.heap.size ≤ k ∧ k < wr.heap.size := fun k hk => own_in h.own hk
  have hdr : wr.grownBy (wr.alloc o) v.ownBlock := only_alloc (World.grownBy.refl _ _) o
  have hgt := hdr.trans hg
  have hres := h.res.grown hgt (fun e => own_blk_ne h.own h.res (by decide) e.symm)
  have hreg := h.reg.grown hgt (fun e => own_blk_ne h.own h.reg (by decide) e.symm)
  have hgn : some g ≠ v.ownBlock := fun e => by have := hvn g e.symm; omega
  have hR2 : Rd w2 g B A n c p' zs := h3.grown hgt hgn (fun k hk => by have := hvn k hk; have := h3.out; omega)
  have hxu : u.ownBlock ≠ some x := own_blk_ne hown hreg (by decide)
  refine ⟨⟨p', h1, h2, hR2.set_ (by simp; omega) (by have := h3.out; simp; omega) _, ?_⟩, hg1, hres.far (by simp; omega) _, ?_, ?_, hx⟩
  · refine only_setCell (g := g) ?_ (.inr (by simp; omega)) _
    refine ⟨hgt.os.trans hgr.os, hgt.tape.trans hgr.tape, hgt.output.trans hgr.output, Nat.le_trans hgr.size hgt.size, fun i hi hne => ?_⟩
    rw [hgt.block i (by have := hgr.size; omega) (fun e => by have := hvn i e.symm; omega)]
    exact hgr.block i hi hne
  · have := hreg.set_ 2 u
    simpa using this
  · have := ownsRow_setCell_other hown (a := ⟨x, 2, none⟩) hxu u
    simpa using this
theorem Stepped.put (h : Stepped w g B A n c p d zs wr) (hg : g < w.heap.size) {a : Addr} (ha : w.heap.size ≤ a.block) (u : Value) : Stepped w g B A n c p d zs (wr.setCell a u) := by
  obtain ⟨p', h1, h2, h3, hgr⟩ := h
  exact ⟨p', h1, h2, h3.set_ (by omega) (by have := h3.out; omega) u, only_setCell hgr (.inr ha) u⟩
theorem DS.out (h : DS w wr g B A n c p d zs x W T v bs) (hl : bs.length ≤ 64) {e : Nat} (he : d ≤ e) (u0 u1 u2 : Value) :
    RegAt (((wr.setCell ⟨w.heap.size, 0, none⟩ u0).setCell ⟨w.heap.size, 1, none⟩ u1).setCell ⟨w.heap.size, 2, none⟩ u2) w.heap.size v bs ∧ Stepped w g B A n c p e zs (((wr.setCell ⟨w.heap.size, 0, none⟩ u0).setCell ⟨w.heap.size, 1, none⟩ u1).setCell ⟨w.heap.size, 2, none⟩ u2) := by
  have hne : v.ownBlock ≠ some w.heap.size := own_blk_ne h.own h.res (by decide)
  exact ⟨⟨ownsRow_setCell_other (ownsRow_setCell_other (ownsRow_setCell_other h.own (a := ⟨w.heap.size, 0, none⟩) hne u0) (a := ⟨w.heap.size, 1, none⟩) hne u1) (a := ⟨w.heap.size, 2, none⟩) hne u2, hl⟩,
    (((h.st.put h.glt (a := ⟨w.heap.size, 0, none⟩) (Nat.le_refl _) u0).put h.glt (a := ⟨w.heap.size, 1, none⟩) (Nat.le_refl _) u1).put h.glt (a := ⟨w.heap.size, 2, none⟩) (Nat.le_refl _) u2).more he⟩
/-- The region's block written anew, without cells. -/
theorem DS.anew (h : DS w wr g B A n c p d zs x W T v bs) (W' T' : Int) : DS w (((wr.setCell ⟨x, 0, none⟩ (.int .i64 W')).setCell ⟨x, 1, none⟩ (.int .i64 T')).setCell ⟨x, 2, none⟩ (.slice none 0 0)) g B A n c p d zs x W' T' (.slice none 0 0) [] := by
  have hx := h.xlt
  refine ⟨((h.st.put h.glt (a := ⟨x, 0, none⟩) (by simp; omega) _).put h.glt (a := ⟨x, 1, none⟩) (by simp; omega) _).put h.glt (a := ⟨x, 2, none⟩) (by simp; omega) _, h.glt, ?_, ?_, ⟨rfl, .inl ⟨rfl, rfl⟩⟩, hx⟩
  · exact ((h.res.far (p := ⟨x, 0, none⟩) (by simp; omega) _).far (p := ⟨x, 1, none⟩) (by simp; omega) _).far (p := ⟨x, 2, none⟩) (by simp; omega) _
  · have := ((h.reg.set_ 0 (.int .i64 W')).set_ 1 (.int .i64 T')).set_ 2 (.slice none 0 0)
    simpa using this
theorem DS.cells (h : DS w wr g B A n c p d zs x W T v bs) : (wr.cell? ⟨x, 0, none⟩ = some (.int .i64 W) ∧ wr.cell? ⟨x, 1, none⟩ = some (.int .i64 T) ∧ wr.cell? ⟨x, 2, none⟩ = some v) ∧
    (wr.frozen? ⟨x, 0, none⟩ = false ∧ wr.frozen? ⟨x, 1, none⟩ = false ∧ wr.frozen? ⟨x, 2, none⟩ = false) ∧
    (wr.cell? ⟨w.heap.size, 0, none⟩ = some (.int .i64 0) ∧ wr.cell? ⟨w.heap.size, 1, none⟩ = some (.int .i64 0) ∧ wr.cell? ⟨w.heap.size, 2, none⟩ = some (.slice none 0 0)) ∧
    (wr.frozen? ⟨w.heap.size, 0, none⟩ = false ∧ wr.frozen? ⟨w.heap.size, 1, none⟩ = false ∧ wr.frozen? ⟨w.heap.size, 2, none⟩ = false) := by
  have a0 := h.reg.cell 0
  have a1 := h.reg.cell 1
  have a2 := h.reg.cell 2
  have b0 := h.res.cell 0
  have b1 := h.res.cell 1
  have b2 := h.res.cell 2
  simp at a0 a1 a2 b0 b1 b2
  exact ⟨⟨a0, a1, a2⟩, ⟨h.reg.frozen 0, h.reg.frozen 1, h.reg.frozen 2⟩, ⟨b0, b1, b2⟩, h.res.frozen 0, h.res.frozen 1, h.res.frozen 2⟩
end

set_option maxHeartbeats 4000000 in
set_option maxRecDepth 100000 in
theorem drawRegion_any (g B : Nat) (A : Option Addr) (n c p : Nat) (zs : List Int) (m : Int) (w : World) (h : Rd w g B A n c p zs) (hp : p ≤ 100000000000) :
    Calls Try.prog 132 #[.pointer (some ⟨g, 0, none⟩), .int .i64 m] w (DrawnR w g B A n c p 60 zs) := by
  have hglt := h.lt
  go_enter Try.func132, Try.ntmps132
  go_wp2_with fail
  refine (pick_any g B A n c _ zs 6 _ (h.alloc _) (by omega)).mono ?_
  rintro e w1 ⟨x1, rfl, a1, b1, _, h1, g1⟩
  have b1 := b1 (by omega)
  go_wp2_with fail
  refine (pick_any g B A n c _ zs 6 _ h1 (by omega)).mono ?_
  rintro e w2 ⟨x2, rfl, a2, b2, _, h2, g2⟩
  have b2 := b2 (by omega)
  obtain ⟨y1, rfl⟩ := Int.eq_ofNat_of_zero_le a1
  obtain ⟨y2, rfl⟩ := Int.eq_ofNat_of_zero_le a2
  have p0 : 0 ≤ (1 + (y1 : Int)) * (1 + (y2 : Int)) := Int.mul_nonneg (by omega) (by omega)
  have p1 : (1 + (y1 : Int)) * (1 + (y2 : Int)) ≤ 36 := by
    have := prod_bd (a := 1 + y1) (b := 1 + y2) (by omega) (by omega)
    have := Nat.mul_le_mul (show 1 + y1 ≤ 6 by omega) (show 1 + y2 ≤ 6 by omega)
    have e : (1 + (y1 : Int)) * (1 + (y2 : Int)) = (((1 + y1) * (1 + y2) : Nat) : Int) := by simp
    omega
  go_upto_if 21 with fail
  go_cut [] (fun wx => ∃ (W T : Nat), (1 ≤ W ∧ W ≤ 6 ∧ 1 ≤ T ∧ T ≤ 6 ∧ W * T ≤ 24) ∧ wx = w2.alloc (.cells #[.int .i64 (W : Nat), .int .i64 (T : Nat), .slice none 0 0] 25))
  case first =>
    by_cases hbig : 24 < (1 + (y1 : Int)) * (1 + (y2 : Int))
    · go_wp2_with fail
      go_meet
      have hy : y1 = 4 ∨ y1 = 5 := by
        have h6 : (1 + (y1 : Int)) * (1 + (y2 : Int)) ≤ (1 + (y1 : Int)) * 6 := Int.mul_le_mul_of_nonneg_left (by omega) (by omega)
        omega
      refine ⟨1 + y1, 4, by rcases hy with rfl | rfl <;> simp, ?_⟩
      rcases hy with rfl | rfl <;> rfl
    · go_wp2_with fail
      go_meet
      refine ⟨1 + y1, 1 + y2, ⟨by omega, by omega, by omega, by omega, ?_⟩, ?_⟩
      · have e : (1 + (y1 : Int)) * (1 + (y2 : Int)) = (((1 + y1) * (1 + y2) : Nat) : Int) := by simp
        omega
      · simp
  case rest =>
    obtain ⟨W, T, ⟨hW1, hW6, hT1, hT6, hWT⟩, rfl⟩ := hcut
    clear p0 p1 a1 b1 a2 b2
    have hm1 := Nat.mul_pos (show 0 < W by omega) (show 0 < T by omega)
    have m0 : 0 ≤ (W : Int) * (T : Int) := by have e := mulc W T; omega
    have m1 : (W : Int) * (T : Int) ≤ 24 := by have e := mulc W T; omega
    have hD0 : DS w (w2.alloc (.cells #[.int .i64 (W : Nat), .int .i64 (T : Nat), .slice none 0 0] 25)) g B A n c p 2 zs w2.heap.size W T (.slice none 0 0) [] := by
      have hs1 := g1.size
      have hs2 := g2.size
      simp at hs1
      refine ⟨⟨p + 1 + 1, by omega, by omega, h2.alloc _, only_alloc ((only_alloc_start g1).trans g2) _⟩, hglt, ?_, Blk.new _ _ _, ⟨rfl, .inl ⟨rfl, rfl⟩⟩, by omega⟩
      exact (((Blk.new w _ _).grown g1 (by simp; omega)).grown g2 (by simp; omega)).alloc _
    have hd9 := h2.alloc (.cells #[.int .i64 (W : Nat), .int .i64 (T : Nat), .slice none 0 0] 25)
    go_wp2_with fail
    refine (pick_any g B A n c _ zs 8 _ hd9 (by omega)).mono ?_
    rintro e w3 ⟨x3, rfl, a3, b3, _, h3, g3⟩
    have b3 := b3 (by omega)
    have hD1 := hD0.pick (p' := p + 1 + 1 + 1) (by omega) h3 g3
    clear hD0 hd9 h1 g1 h2 g2 h3 g3 h
    generalize w2.heap.size = x at *
    go_wp2_with fail
    go_loopg [7] (W * T) (fun r s7 wr => ∃ (k : Nat) (v : Value) (bs : List Bool), k + r = W * T ∧ s7 = .int .i64 (k : Nat) ∧ bs.length = k ∧ DS w wr g B A n c p (3 + k) zs x W T v bs)
    case atStart => exact ⟨0, _, [], by omega, rfl, rfl, hD1⟩
    case round =>
      clear hD1
      obtain ⟨k, v, bs, hk, rfl, hbl, hD⟩ := hrel
      have HK := Lib.hid hk
      have HBL := Lib.hid hbl
      clear hk hbl
      have hDd := hD.drew
      obtain ⟨p', hp1, hp2, hR, hgr⟩ := hDd.st
      have c0 := hDd.reg.cell 0
      have c1 := hDd.reg.cell 1
      have c2 := hDd.reg.cell 2
      have e0 := hD.reg.cell 0
      have e1 := hD.reg.cell 1
      simp at c0 c1 c2 e0 e1
      by_cases hlt : k < W * T
      · have hlti : decide ((k : Int) < (W : Int) * (T : Int)) = true := decide_eq_true (by have e := mulc W T; omega)
        have hp4 : p' ≤ 1000000000000 := by have := HK.out; omega
        clear hD e0 e1
        have e0 := c0
        have e1 := c1
        have hbl6 : bs.length ≤ 64 := by have := HBL.out; omega
        have hwsz : w.heap.size ≤ wr.heap.size := by have := hgr.size; exact this
        obtain ⟨i0, hi0, hz0, hs0, hby0⟩ := info_parts info_bool
        go_upto_region 8 with fail
        go_region_law
          (first
            | ((rw [if_pos (by rfl)]); go_simp; (with_reducible refine (pick_any g B A n c _ zs 10 _ hR hp4).mono ?_); rintro e w4 ⟨x4, rfl, a4, b4, _, h4, g4⟩; have hD4 := hDd.pick (p' := p' + 1) (by omega) h4 g4; have c4 := hD4.reg.cell 2; simp at c4; have c6 : (w4.alloc (.cells #[.bool (decide (x4 ≤ 2 + x3))] 4)).cell? ⟨x, 2, none⟩ = some v := ((hD4.reg.alloc _).cell 2).trans (by simp); go_simp)
            | (refine step_append_lies _ rfl _ _ _ rfl w.heap.size 4 i0 _ 1 1 Try.underlying23 hi0 hz0 hs0 hby0 rfl (by omega) v bs.length _ rfl (own_below hD4.own ((Below.refl _ _).alloc (Nat.le_refl _) _) (Nat.le_refl _)) _ 1 1 [.bool (decide (x4 ≤ 2 + x3))] rfl rfl (World.news_of_block (heap_alloc_new w4 _)) (by simp [Value.oneCell']) (by omega) (by simp only [maxLen]; omega) (by omega) (by have := hD4.res.lt; simp; omega) _ rfl ?_; intro g' cap w5 hown5 hgrow hat hlt5; obtain ⟨c5, f5⟩ := hD4.kept hgrow))
        all_goals
          have hD5 := hD4.app hown5 hgrow
          clear c4 c6 c5 f5 hgrow hat hown5 hD4 h4 g4 hDd hR hgr c0 c1 c2 e0 e1
          go_wp2_with fail
          go_roundg (W * T - (k + 1))
          case measure => have := HK.out; omega
          case rel => exact ⟨k + 1, _, _, by have := HK.out; omega, by go_num, by simp [HBL.out], hD5⟩
      · have hltf : decide ((k : Int) < (W : Int) * (T : Int)) = false := decide_eq_false (by have e := mulc W T; omega)
        have hk24 : k ≤ 24 := by have := HK.out; omega
        obtain ⟨p2, hp3, hp4, hR2, _⟩ := hD.st
        clear hDd hR hgr c0 c1 c2
        go_wp2_with fail
        refine (odd_any g B A n c p2 zs m _ hR2 (by omega)).mono ?_
        rintro e w4 ⟨b, rfl, p5, hp5, hp6, h5, g5⟩
        have hD4 := hD.pick (p' := p5) (by omega) h5 g5
        obtain ⟨A2, c2, rfl, hc2, _⟩ := own_form hD4.own
        obtain ⟨⟨a0, a1, a2⟩, _, ⟨r0, r1, r2⟩, q0, q1, q2⟩ := hD4.cells
        clear e0 e1 hD g5 hR2
        have hb64 : bs.length ≤ 64 := by have := HBL.out; omega
        cases b with
        | false =>
          obtain ⟨o1, o2⟩ := hD4.out hb64 (e := 60) (by omega) (.int .i64 W) (.int .i64 T) (.slice A2 bs.length c2)
          go_wp2_with fail
          exact bodyPost_ret (v := .agg #[.int .i64 W, .int .i64 T, .slice A2 bs.length c2]) (by simp [results, Try.results132, go_sem, r0, r1, r2]) rfl ⟨W, T, _, bs, rfl, o1, o2⟩
        | true =>
          go_wp2_with fail
          refine (pick_any g B A n c p5 zs 3 _ h5 (by omega)).mono ?_
          rintro e w6 ⟨x6, rfl, a6, b6, _, h6, g6⟩
          have b6 := b6 (by omega)
          have hD6 := hD4.pick (p' := p5 + 1) (by omega) h6 g6
          clear a0 a1 a2 r0 r1 r2 q0 q1 q2 hD4 g6 h6 h5
          rcases (show x6 = 0 ∨ x6 = 1 ∨ x6 = 2 by omega) with rfl | rfl | rfl
          · obtain ⟨⟨a0, a1, a2⟩, ⟨f0, f1, f2⟩, ⟨r0, r1, r2⟩, q0, q1, q2⟩ := hD6.cells
            go_wp2_with (at_builtin; refine wpList_app rfl _ _ _ rfl w.heap.size 4 (.bool false) 1 Try.underlying23 info_bool rfl (by omega) (.slice A2 bs.length c2) bs.length _ rfl (hD6.own.alloc _) w6.heap.size (.bool true) rfl ?c1 rfl (by omega) ?c2 ?_)
            case c1 => simp
            case c2 => have := hD6.res.lt; simp; omega
            rintro g' cc' w7 hown hgr _ _ _
            have hD7 := hD6.app hown hgr
            obtain ⟨c5, f5⟩ := hD6.kept hgr
            clear a0 a1 a2 f0 f1 f2 r0 r1 r2 q0 q1 q2 hD6 hown hgr
            obtain ⟨⟨a0, a1, a2⟩, ⟨f0, f1, f2⟩, ⟨r0, r1, r2⟩, q0, q1, q2⟩ := hD7.cells
            obtain ⟨o1, o2⟩ := hD7.out (by simp; have := HBL.out; omega) (e := 60) (by omega) (.int .i64 W) (.int .i64 T) (.slice (some ⟨g', 0, none⟩) (bs.length + 1) cc')
            go_wp2_with fail
            exact bodyPost_ret (v := .agg #[.int .i64 W, .int .i64 T, .slice (some ⟨g', 0, none⟩) (bs.length + 1) cc']) (by simp [results, Try.results132, go_sem, r0, r1, r2]) rfl ⟨W, T, _, _, rfl, o1, o2⟩
          · obtain ⟨⟨a0, a1, a2⟩, ⟨f0, f1, f2⟩, ⟨r0, r1, r2⟩, q0, q1, q2⟩ := hD6.cells
            obtain ⟨_, o2⟩ := hD6.out hb64 (e := 60) (by omega) (.int .i64 0) (.int .i64 0) (.slice none 0 0)
            go_wp2_with fail
            exact bodyPost_ret (v := .agg #[.int .i64 0, .int .i64 0, .slice none 0 0]) (by simp [results, Try.results132, go_sem, r0, r1, r2]) rfl ⟨0, 0, _, [], rfl, ⟨⟨rfl, .inl ⟨rfl, rfl⟩⟩, by simp⟩, o2⟩
          · obtain ⟨⟨a0, a1, a2⟩, ⟨f0, f1, f2⟩, ⟨r0, r1, r2⟩, q0, q1, q2⟩ := hD6.cells
            have hD7 := hD6.anew 6 6
            clear hD6
            go_wp2_with fail
            clear a0 a1 a2 f0 f1 f2 r0 r1 r2 q0 q1 q2
            go_loopg [8] 36 (fun r s8 wr => ∃ (j : Nat) (v : Value) (cs : List Bool), j + r = 36 ∧ s8 = .int .i64 (j : Nat) ∧ cs.length = j ∧ DS w wr g B A n c p (3 + k + 1 + 1) zs x 6 6 v cs)
            case atStart => exact ⟨0, _, [], by omega, rfl, rfl, hD7⟩
            case round =>
              clear hD7
              obtain ⟨j, v, cs, hj, rfl, hcl, hD⟩ := hrel
              have HJ := Lib.hid hj
              have HCL := Lib.hid hcl
              clear hj hcl
              by_cases hj36 : j < 36
              · obtain ⟨⟨a0, a1, a2⟩, ⟨f0, f1, f2⟩, _, _⟩ := hD.cells
                have hjl : decide ((j : Int) < 36) = true := decide_eq_true (by omega)
                go_wp2_with (at_builtin; refine wpList_app rfl _ _ _ rfl w.heap.size 4 (.bool false) 1 Try.underlying23 info_bool rfl (by omega) v cs.length _ rfl (hD.own.alloc _) wr.heap.size (.bool true) rfl ?c1 rfl (by have := HCL.out; omega) ?c2 ?_)
                case c1 => simp
                case c2 => have := hD.res.lt; simp; omega
                rintro g' cc' w8 hown hgr _ _ _
                have hD8 := hD.app hown hgr
                obtain ⟨c5, f5⟩ := hD.kept hgr
                clear a0 a1 a2 f0 f1 f2 hD hown hgr
                go_wp2_with fail
                go_roundg (36 - (j + 1))
                case measure => have := HJ.out; omega
                case rel => exact ⟨j + 1, _, _, by have := HJ.out; omega, by go_num, by simp [HCL.out], hD8⟩
              · obtain ⟨A3, c3, rfl, hc3, _⟩ := own_form hD.own
                obtain ⟨⟨a0, a1, a2⟩, ⟨f0, f1, f2⟩, ⟨r0, r1, r2⟩, q0, q1, q2⟩ := hD.cells
                have hjl : decide ((j : Int) < 36) = false := decide_eq_false (by omega)
                obtain ⟨o1, o2⟩ := hD.out (by have := HCL.out; have := HJ.out; omega) (e := 60) (by omega) (.int .i64 6) (.int .i64 6) (.slice A3 cs.length c3)
                go_wp2_with fail
                exact bodyPost_ret (v := .agg #[.int .i64 6, .int .i64 6, .slice A3 cs.length c3]) (by simp [results, Try.results132, go_sem, r0, r1, r2]) rfl ⟨6, 6, _, _, rfl, o1, o2⟩

end Go.Proofs.Ythepfpiphlfgnaa

/-
  YthepfpiphlfgnaaD2: drawing: a box.
-/
namespace Go.Proofs.Ythepfpiphlfgnaa
open Go.RowKit
attribute [local go_sem ↓] Go.wp_at_zero Go.wp_at_succ

theorem own_step {w w2 : World} {g base : Nat} {e : TypeId} {size : Nat} {v : Value} {n : Nat} {xs : List Value} (h : w.ownsRow base e size v n xs) (hg : w.grownBy w2 (some g)) (hb : g < base) : w2.ownsRow base e size v n xs := by
  refine own_grown h hg ?_
  cases hv : v.ownBlock with
  | none => exact .inl rfl
  | some k =>
    have := own_in h hv
    right; simp; omega
theorem Stepped.start {w wr : World} {g B : Nat} {A : Option Addr} {n c p : Nat} {zs : List Int} (h : Rd wr g B A n c p zs) (hg : w.grownBy wr (some g)) : Stepped w g B A n c p 0 zs wr := ⟨p, by omega, by omega, h, hg⟩
theorem Stepped.calm {w wr w2 : World} {g B : Nat} {A : Option Addr} {n c p d : Nat} {zs : List Int} (h : Stepped w g B A n c p d zs wr) (hb : Below wr.heap.size wr w2) : Stepped w g B A n c p d zs w2 := by
  obtain ⟨p', h1, h2, h3, h4⟩ := h
  exact ⟨p', h1, h2, h3.below hb h3.lt, h4.trans (only_of_below hb _)⟩
theorem Stepped.and_ {w wr w2 : World} {g B : Nat} {A : Option Addr} {n c p p' d d2 : Nat} {zs : List Int} (hp : p ≤ p' ∧ p' ≤ p + d) (hg : w.grownBy wr (some g)) (h : Stepped wr g B A n c p' d2 zs w2) : Stepped w g B A n c p (d + d2) zs w2 := by
  obtain ⟨p2, h1, h2, h3, h4⟩ := h
  exact ⟨p2, by omega, by omega, h3, hg.trans h4⟩
theorem RegAt.step {w w2 : World} {g b : Nat} {v : Value} {bs : List Bool} (h : RegAt w b v bs) (hg : w.grownBy w2 (some g)) (hb : g < b) : RegAt w2 b v bs := ⟨own_step h.1 hg hb, h.2⟩
theorem RegAt.mono {w : World} {b b' : Nat} {v : Value} {bs : List Bool} (h : RegAt w b v bs) (hb : b' ≤ b) : RegAt w b' v bs := ⟨own_mono h.1 hb, h.2⟩
/-- A region's three cells written into the result's block. -/
theorem out_any {w wr : World} {g B : Nat} {A : Option Addr} {n c p d b : Nat} {zs : List Int} {v : Value} {bs : List Bool} {cs : Array Value} (hst : Stepped w g B A n c p d zs wr) (hglt : g < w.heap.size) (hres : Blk wr w.heap.size 25 cs) (hreg : RegAt wr b v bs) (u0 u1 u2 : Value) :
    RegAt (((wr.setCell ⟨w.heap.size, 0, none⟩ u0).setCell ⟨w.heap.size, 1, none⟩ u1).setCell ⟨w.heap.size, 2, none⟩ u2) b v bs ∧ Stepped w g B A n c p d zs (((wr.setCell ⟨w.heap.size, 0, none⟩ u0).setCell ⟨w.heap.size, 1, none⟩ u1).setCell ⟨w.heap.size, 2, none⟩ u2) := by
  have hne : v.ownBlock ≠ some w.heap.size := own_blk_ne hreg.1 hres (by decide)
  exact ⟨⟨ownsRow_setCell_other (ownsRow_setCell_other (ownsRow_setCell_other hreg.1 (a := ⟨w.heap.size, 0, none⟩) hne u0) (a := ⟨w.heap.size, 1, none⟩) hne u1) (a := ⟨w.heap.size, 2, none⟩) hne u2, hreg.2⟩,
    ((hst.put hglt (a := ⟨w.heap.size, 0, none⟩) (Nat.le_refl _) u0).put hglt (a := ⟨w.heap.size, 1, none⟩) (Nat.le_refl _) u1).put hglt (a := ⟨w.heap.size, 2, none⟩) (Nat.le_refl _) u2⟩

set_option maxHeartbeats 2000000 in
set_option maxRecDepth 100000 in
theorem boxS_any (g B : Nat) (A : Option Addr) (n c p : Nat) (zs : List Int) (a b : Nat) (ha : 1 ≤ a ∧ a ≤ 6) (hb : 1 ≤ b ∧ b ≤ 6) (w : World) (h : Rd w g B A n c p zs) :
    Calls Try.prog 129 #[.int .i64 (a : Nat), .int .i64 (b : Nat)] w (DrawnR w g B A n c p 0 zs) := by
  have hglt := h.lt
  have I1 : inB (a : Int) 1 6 = true := by unfold inB; simp; omega
  have I2 : inB (b : Int) 1 6 = true := by unfold inB; simp; omega
  have mE := mulc a b
  have hm36 : a * b ≤ 36 := Nat.mul_le_mul ha.2 hb.2
  have m0 : 0 ≤ (a : Int) * (b : Int) := by omega
  have m1 : (a : Int) * (b : Int) ≤ 36 := by omega
  by_cases hbig : 24 < a * b
  · have hd : decide ((24 : Int) < (a : Int) * (b : Int)) = true := decide_eq_true (by omega)
    clear hbig hm36
    have MM := Lib.hid mE
    clear mE
    go_enter Try.func129, Try.ntmps129
    go_wp2_with (first
      | (go_at_call 91; refine (l1In_any _ _ _ _).mono ?_; rintro e w' ⟨rfl, rfl⟩))
    exact bodyPost_ret (v := .agg #[.int .i64 0, .int .i64 0, .slice none 0 0]) (by simp [results, Try.results129, go_sem]) rfl
      ⟨0, 0, _, [], rfl, ⟨⟨rfl, .inl ⟨rfl, rfl⟩⟩, by simp⟩, Stepped.start (h.alloc _) (only_alloc (World.grownBy.refl w _) _)⟩
  · have hd : decide ((24 : Int) < (a : Int) * (b : Int)) = false := decide_eq_false (by omega)
    have m2 : (a : Int) * (b : Int) ≤ 24 := by omega
    have MM := Lib.hid mE
    have MH := Lib.hid hbig
    clear mE hbig m1 hm36
    go_enter Try.func129, Try.ntmps129
    go_wp2_with (first
      | (go_at_call 91; refine (l1In_any _ _ _ _).mono ?_; rintro e w' ⟨rfl, rfl⟩))
    have hD0 : DS w ((w.alloc (.cells #[.int .i64 0, .int .i64 0, .slice none 0 0] 25)).alloc (.cells #[.int .i64 (a : Nat), .int .i64 (b : Nat), .slice none 0 0] 25)) g B A n c p 0 zs (w.heap.size + 1) a b (.slice none 0 0) [] := by
      refine ⟨Stepped.start ((h.alloc _).alloc _) (only_alloc (only_alloc (World.grownBy.refl w _) _) _), hglt, (Blk.new w _ _).alloc _, ?_, ⟨rfl, .inl ⟨rfl, rfl⟩⟩, by omega⟩
      have := Blk.new (w.alloc (.cells #[.int .i64 0, .int .i64 0, .slice none 0 0] 25)) 25 #[.int .i64 (a : Nat), .int .i64 (b : Nat), .slice none 0 0]
      simpa using this
    generalize (w.alloc (.cells #[.int .i64 0, .int .i64 0, .slice none 0 0] 25)).alloc (.cells #[.int .i64 (a : Nat), .int .i64 (b : Nat), .slice none 0 0] 25) = w2 at *
    generalize w.heap.size + 1 = x at *
    clear hd I1 I2
    go_loopg [6] (a * b) (fun r s6 wr => ∃ (j : Nat) (v : Value) (cs : List Bool), j + r = a * b ∧ s6 = .int .i64 (j : Nat) ∧ cs.length = j ∧ DS w wr g B A n c p 0 zs x a b v cs)
    case atStart => exact ⟨0, _, [], by omega, rfl, rfl, hD0⟩
    case round =>
      clear hD0
      obtain ⟨j, v, cs, hj, rfl, hcl, hD⟩ := hrel
      have HJ := Lib.hid hj
      have HCL := Lib.hid hcl
      clear hj hcl
      by_cases hjm : j < a * b
      · obtain ⟨⟨a0, a1, a2⟩, ⟨f0, f1, f2⟩, _, _⟩ := hD.cells
        have hjl : decide ((j : Int) < (a : Int) * (b : Int)) = true := decide_eq_true (by have := MM.out; omega)
        go_wp2_with (at_builtin; refine wpList_app rfl _ _ _ rfl w.heap.size 4 (.bool false) 1 Try.underlying23 info_bool rfl (by omega) v cs.length _ rfl (hD.own.alloc _) wr.heap.size (.bool true) rfl ?c1 rfl (by have := HCL.out; have := MH.out; omega) ?c2 ?_)
        case c1 => simp
        case c2 => have := hD.res.lt; simp; omega
        rintro g' cc' w8 hown hgr _ _ _
        have hD8 := hD.app hown hgr
        obtain ⟨c5, f5⟩ := hD.kept hgr
        clear a0 a1 a2 f0 f1 f2 hD hown hgr
        go_wp2_with fail
        go_roundg (a * b - (j + 1))
        case measure => have := HJ.out; omega
        case rel => exact ⟨j + 1, _, _, by have := HJ.out; omega, by go_num, by simp [HCL.out], hD8⟩
      · obtain ⟨A3, c3, rfl, hc3, _⟩ := own_form hD.own
        obtain ⟨⟨a0, a1, a2⟩, ⟨f0, f1, f2⟩, ⟨r0, r1, r2⟩, q0, q1, q2⟩ := hD.cells
        have hjl : decide ((j : Int) < (a : Int) * (b : Int)) = false := decide_eq_false (by have := MM.out; omega)
        obtain ⟨o1, o2⟩ := hD.out (by have := HCL.out; have := HJ.out; have := MH.out; omega) (e := 0) (by omega) (.int .i64 a) (.int .i64 b) (.slice A3 cs.length c3)
        go_wp2_with fail
        exact bodyPost_ret (v := .agg #[.int .i64 a, .int .i64 b, .slice A3 cs.length c3]) (by simp [results, Try.results129, go_sem, r0, r1, r2]) rfl ⟨a, b, _, _, rfl, o1, o2⟩

end Go.Proofs.Ythepfpiphlfgnaa

/-
  YthepfpiphlfgnaaD3: l2Complete, Complete and TilingFirst of the reference (as far as the draws need it).
-/
namespace Go.Proofs.Ythepfpiphlfgnaa
open Go.RowKit

/-- A list in a row of its own. -/
def LiAt (w : World) (b : Nat) (v : Value) (L : List Int) : Prop :=
  ∃ A c1 c2, v = .slice A L.length c1 ∧ w.ownsRow b 3 1 (.slice A L.length c2) L.length (L.map (Value.int .i64))
theorem LiAt.below {w w2 : World} {b : Nat} {v : Value} {L : List Int} (h : LiAt w b v L) (hb : Below w.heap.size w w2) : LiAt w2 b v L := by
  obtain ⟨A, c1, c2, e, ho⟩ := h
  exact ⟨A, c1, c2, e, own_below ho hb (Nat.le_refl _)⟩
theorem LiAt.mono {w : World} {b b' : Nat} {v : Value} {L : List Int} (h : LiAt w b v L) (hb : b' ≤ b) : LiAt w b' v L := by
  obtain ⟨A, c1, c2, e, ho⟩ := h
  exact ⟨A, c1, c2, e, own_mono ho hb⟩
/-- What Complete leaves: a list; it lays dominoes if it says so. -/
def CoRet (b : Nat) (w : World) (R : Reg) (e : Ending) (w' : World) : Prop :=
  ∃ v ok M, e = .returned (.tuple #[v, .bool ok]) ∧ LiAt w' b v M ∧ M.length ≤ 36 ∧ (ok = true → Lay R M) ∧ Below w.heap.size w w'
structure CW (w wr : World) (R : Reg) (A : Option Addr) (c b g c' : Nat) (L : List Int) : Prop where
  bel : Below w.heap.size w wr
  box : Blk wr w.heap.size 25 #[.int .i64 R.W, .int .i64 R.T, .slice A R.C.length c]
  own : wr.ownsRow b 3 1 (.slice (some ⟨g, 0, none⟩) R.C.length c') R.C.length (L.map (Value.int .i64))
theorem CW.below {w wr w2 : World} {R : Reg} {A : Option Addr} {c b g c' : Nat} {L : List Int} (H : CW w wr R A c b g c' L) (hb : Below wr.heap.size wr w2) : CW w w2 R A c b g c' L :=
  ⟨H.bel.trans (hb.mono H.bel.size), H.box.below hb H.box.lt, own_below H.own hb (Nat.le_refl _)⟩

set_option maxHeartbeats 1000000 in
theorem compS_none (R : Reg) (hR : R.ok) (A : Option Addr) (c B b : Nat) (hBb : B ≤ b) (L : List Int) (g c' d : Nat) (w : World) (hL : Lay R L) (hfn : fiV R L = none)
    (hr : Reads w B 1 A R.C.length (R.C.map Value.bool)) (hb : b ≤ w.heap.size) (ho : w.ownsRow b 3 1 (.slice (some ⟨g, 0, none⟩) R.C.length c') R.C.length (L.map (Value.int .i64))) :
    Calls Try.prog 189 #[.agg #[.int .i64 R.W, .int .i64 R.T, .slice A R.C.length c], .slice (some ⟨g, 0, none⟩) R.C.length d] w (CoRet b w R) := by
  have hl36 := (len_bd hR).2
  have hW0 : CW w (w.alloc (boxR R.W R.T A R.C.length c)) R A c b g c' L := ⟨(Below.refl _ _).alloc (Nat.le_refl _) _, Blk.new _ _ _, ho.alloc _⟩
  have hFR := fun w' (h : Below w.heap.size w w') (hown : w'.ownsRow b 3 1 (.slice (some ⟨g, 0, none⟩) R.C.length c') R.C.length (L.map (Value.int .i64))) => hide (firstS_any R hR A c w'.heap.size L (some ⟨g, 0, none⟩) d hL.len w' ((hr.below (h.mono (Nat.le_trans hBb hb))).more (Nat.le_trans (Nat.le_trans hBb hb) h.size)) (Reads.of_own hown) (Nat.le_refl _))
  simp only [fiZ_none hfn] at hFR
  have HLL := Lib.hid hL.len
  clear hfn hr ho
  go_enter Try.func189, Try.ntmps189
  go_wp2_with fail
  refine (unhide (hFR _ hW0.bel hW0.own)).mono ?_
  rintro e w1 ⟨rfl, hb1⟩
  have hW1 := hW0.below hb1
  clear hW0 hb1 hFR
  go_wp2_with fail
  go_ret2
  exact ⟨.slice (some ⟨g, 0, none⟩) R.C.length d, true, L, rfl, ⟨some ⟨g, 0, none⟩, d, c', by rw [HLL.out], by rw [HLL.out]; exact hW1.own⟩, by rw [HLL.out]; exact hl36, fun _ => hL, hW1.bel⟩

set_option maxHeartbeats 4000000 in
set_option maxRecDepth 20000 in
theorem compS_any (R : Reg) (hR : R.ok) (A : Option Addr) (c B b : Nat) (hBb : B ≤ b) : ∀ (f : Nat) (L : List Int) (g c' d : Nat) (w : World) (_ : f ≤ 18) (_ : Lay R L) (_ : opN R L ≤ 2 * f)
    (_ : Reads w B 1 A R.C.length (R.C.map Value.bool)) (_ : b ≤ w.heap.size) (_ : w.ownsRow b 3 1 (.slice (some ⟨g, 0, none⟩) R.C.length c') R.C.length (L.map (Value.int .i64))),
    Calls Try.prog 189 #[.agg #[.int .i64 R.W, .int .i64 R.T, .slice A R.C.length c], .slice (some ⟨g, 0, none⟩) R.C.length d] w (CoRet b w R) := by
  intro f
  induction f with
  | zero =>
    intro L g c' d w _ hL hn hr hb ho
    have hfn := opN_zero (R := R) (L := L) (by omega)
    exact compS_none R hR A c B b hBb L g c' d w hL hfn hr hb ho
  | succ f ih =>
    intro L g c' d w hf18 hL hn hr hb ho
    have hl36 := (len_bd hR).2
    have hl1 := (len_bd hR).1
    have hW0 : CW w (w.alloc (boxR R.W R.T A R.C.length c)) R A c b g c' L := ⟨(Below.refl _ _).alloc (Nat.le_refl _) _, Blk.new _ _ _, ho.alloc _⟩
    have hFR := fun w' (h : Below w.heap.size w w') (hown : w'.ownsRow b 3 1 (.slice (some ⟨g, 0, none⟩) R.C.length c') R.C.length (L.map (Value.int .i64))) => hide (firstS_any R hR A c w'.heap.size L (some ⟨g, 0, none⟩) d hL.len w' ((hr.below (h.mono (Nat.le_trans hBb hb))).more (Nat.le_trans (Nat.le_trans hBb hb) h.size)) (Reads.of_own hown) (Nat.le_refl _))
    have hLO := fun (k : Nat) (hk : k < R.C.length) (way : Int) (hw : 1 ≤ way ∧ way ≤ 4) w' (h : Below w.heap.size w w') (hown : w'.ownsRow b 3 1 (.slice (some ⟨g, 0, none⟩) R.C.length c') R.C.length (L.map (Value.int .i64))) => hide (layOneS_any R hR A c w'.heap.size L (some ⟨g, 0, none⟩) d k hk way hw hL w' ((hr.below (h.mono (Nat.le_trans hBb hb))).more (Nat.le_trans (Nat.le_trans hBb hb) h.size)) (Reads.of_own hown) (Nat.le_refl _))
    have hIH := fun (k : Nat) (way : Int) (hw : way = 1 ∨ way = 2) (hf : frB R L k way = true) (w' : World) (g2 c2 d2 : Nat) (hb' : Below w.heap.size w w') (ho' : w'.ownsRow b 3 1 (.slice (some ⟨g2, 0, none⟩) R.C.length c2) R.C.length ((lyV R L k way).map (Value.int .i64))) =>
      hide (ih (lyV R L k way) g2 c2 d2 w' (by omega) (lay_lyV hR hL (by rcases hw with rfl | rfl <;> rfl) hf) (by have := opN_lay hR hL.len (by omega) hf; omega) (hr.below (hb'.mono (Nat.le_trans hBb hb))) (Nat.le_trans hb hb'.size) ho')
    clear ih
    cases hfi : fiV R L with
    | none => exact compS_none R hR A c B b hBb L g c' d w hL hfi hr hb ho
    | some k =>
      have hklt := (fiV_some.1 hfi).1
      simp only [fiZ_some hfi] at hFR
      have hneg : decide ((k : Int) < 0) = false := decide_eq_false (by omega)
      clear hfi hr ho
      go_enter Try.func189, Try.ntmps189
      go_wp2_with fail
      refine (unhide (hFR _ hW0.bel hW0.own)).mono ?_
      rintro e w1 ⟨rfl, hb1⟩
      have hW1 := hW0.below hb1
      clear hW0 hb1 hFR
      go_wp2_with fail
      go_loopg [7] 2 (fun r s5 wr => ∃ (j : Nat), j + r = 2 ∧ s5 = .int .i64 ((j : Int) + 1) ∧ CW w wr R A c b g c' L)
      case atStart => exact ⟨0, by omega, rfl, hW1⟩
      case round =>
        clear hW1
        obtain ⟨j, hj, rfl, hW⟩ := hrel
        have HJ := Lib.hid hj
        obtain ⟨b0, b1, b2⟩ := blk3 hW.box
        by_cases hj2 : j < 2
        · have hw : ((j : Int) + 1 = 1 ∨ (j : Int) + 1 = 2) := by omega
          have hLk := hLO k hklt ((j : Int) + 1) (by omega) _ hW.bel hW.own
          have hle2 : decide ((j : Int) + 1 ≤ 2) = true := decide_eq_true (by omega)
          clear hj
          cases hfb : frB R L k ((j : Int) + 1) with
          | false =>
            rw [hfb] at hLk
            clear hfb hIH
            go_wp2_with fail
            refine (unhide hLk).mono ?_
            rintro e w2 ⟨g2, c2, c3, rfl, ho2, hb2⟩
            have hW2 := hW.below hb2
            clear hW hb2 b0 b1 b2 hLk ho2
            go_wp2_with fail
            go_roundg (2 - (j + 1))
            case measure => have := HJ.out; omega
            case rel => exact ⟨j + 1, by have := HJ.out; omega, by go_num, hW2⟩
          | true =>
            rw [hfb] at hLk
            rw [if_pos rfl] at hLk
            have hI := fun w' g2 c2 d2 hb' ho' => hIH k ((j : Int) + 1) hw hfb w' g2 c2 d2 hb' ho'
            clear hfb hIH
            go_wp2_with fail
            refine (unhide hLk).mono ?_
            rintro e w2 ⟨g2, c2, c3, rfl, ho2, hb2⟩
            have hW2 := hW.below hb2
            have hI2 := hI w2 g2 c3 c2 hW2.bel (own_mono ho2 (Nat.le_trans hb hW.bel.size))
            clear hW hb2 b0 b1 b2 hLk hI ho2
            obtain ⟨b0, b1, b2⟩ := blk3 hW2.box
            go_wp2_with fail
            refine (unhide hI2).mono ?_
            rintro e w3 ⟨v3, ok, M, rfl, hl3, hm3, hok, hb3⟩
            have hW3 := hW2.below hb3
            clear hW2 hb3 b0 b1 b2 hI2
            cases ok with
            | true =>
              go_wp2_with fail
              go_ret2
              exact ⟨v3, true, M, rfl, hl3, hm3, fun _ => hok trivial, hW3.bel⟩
            | false =>
              go_wp2_with fail
              go_roundg (2 - (j + 1))
              case measure => have := HJ.out; omega
              case rel => exact ⟨j + 1, by have := HJ.out; omega, by go_num, hW3⟩
        · have hle2 : decide ((j : Int) + 1 ≤ 2) = false := decide_eq_false (by omega)
          clear hj hIH hLO
          go_wp2_with fail
          go_ret2
          have hho := World.ownsRow_made (base := b) (e := 3) (size := 1) wr #[] 0 (Nat.le_trans hb hW.bel.size) (by simp [maxLen]) (by simp)
          exact ⟨.slice (some ⟨wr.heap.size, 0, none⟩) 0 0, false, [], rfl, ⟨some ⟨wr.heap.size, 0, none⟩, 0, 0, rfl, by simpa using hho⟩, by simp, (fun h => by cases h), hW.bel.alloc hW.bel.size _⟩

end Go.Proofs.Ythepfpiphlfgnaa

/-
  YthepfpiphlfgnaaD4: Complete, TilingFirst and LiftOne of the reference (as far as the draws need it).
-/
namespace Go.Proofs.Ythepfpiphlfgnaa
open Go.RowKit

/-- What Complete and TilingFirst leave, for any region. -/
def CompRet (w : World) (W T : Int) (bs : List Bool) (e : Ending) (w' : World) : Prop :=
  ∃ v ok M, e = .returned (.tuple #[v, .bool ok]) ∧ LiAt w' w.heap.size v M ∧ M.length ≤ 36 ∧ (ok = true → laidB W T bs M = true) ∧ Below w.heap.size w w'

set_option maxHeartbeats 1000000 in
set_option maxRecDepth 20000 in
theorem completeS_ok (R : Reg) (hR : R.ok) (A : Option Addr) (c B : Nat) (L : List Int) (D : Option Addr) (d : Nat) (hL : Lay R L) (w : World)
    (hr : Reads w B 1 A R.C.length (R.C.map Value.bool)) (hd : Reads w B 1 D R.C.length (L.map (Value.int .i64))) (hB : B ≤ w.heap.size) :
    Calls Try.prog 165 #[.agg #[.int .i64 R.W, .int .i64 R.T, .slice A R.C.length c], .slice D R.C.length d] w (CoRet w.heap.size w R) := by
  have hl36 := (len_bd hR).2
  have hl1 := (len_bd hR).1
  have hlo : laidB R.W R.T R.C L = true := by rw [laidB_ok hR]; exact (laysB_iff hR).2 hL
  have hb0 : Below w.heap.size w (w.alloc (boxR R.W R.T A R.C.length c)) := (Below.refl _ _).alloc (Nat.le_refl _) _
  have hLO := hide (laidOkS_any R.W R.T A R.C.length c B R.C L D R.C.length d (w.alloc (boxR R.W R.T A R.C.length c)) rfl hL.len (hr.alloc hB _) (hd.alloc hB _) (by simp; omega) (by omega) (by omega))
  rw [hlo] at hLO
  have hCO := fun w' g c' d' (h : Below w.heap.size w w') (ho : w'.ownsRow w.heap.size 3 1 (.slice (some ⟨g, 0, none⟩) R.C.length c') R.C.length (L.map (Value.int .i64))) => hide (compS_any R hR A c B w.heap.size hB 18 L g c' d' w' (by omega) hL (opN_le hR L) (hr.below (h.mono hB)) h.size ho)
  have hLn := hL.len
  have hONE := ints_one (L := L)
  clear hlo hL
  go_enter Try.func165, Try.ntmps165
  go_wp2_with fail
  refine (unhide hLO).mono ?_
  rintro e w1 ⟨rfl, hb1⟩
  obtain ⟨hB1, hk1, b0, b1, b2⟩ := box_keep hb1
  clear hb1
  obtain ⟨ad, hD, _, hnw⟩ := (hd.below (hB1.mono hB)).2 hl1
  subst hD
  have hoa : (w1.alloc (.cells #[] 3)).drew.ownsRow (w.heap.size + 1) 3 1 (.slice (some ⟨w1.heap.size, 0, none⟩) 0 0) 0 [] := by
    have := World.ownsRow_made (base := w.heap.size + 1) (e := 3) (size := 1) w1 #[] 0 hk1.lt (by simp [maxLen]) (by simp)
    exact own_below (by simpa using this) (Below.refl _ _).drew (Nat.le_refl _)
  have hnews : ∀ j u, (L.map (Value.int .i64))[j]? = some u → (w1.alloc (.cells #[] 3)).drew.cell? (ad.add j) = some u := fun j u h => cell_kept (hnw j u h) ((Below.refl w1.heap.size w1).alloc (Nat.le_refl _) (.cells #[] 3)).drew
  have hall : ∀ (w5 : World) (g' cap : Nat), w5.ownsRow (w.heap.size + 1) 3 1 (.slice (some ⟨g', 0, none⟩) (0 + R.C.length) cap) (0 + R.C.length) ([] ++ L.map (Value.int .i64)) → (w1.alloc (.cells #[] 3)).drew.grownBy w5 (Value.slice (some ⟨w1.heap.size, 0, none⟩) 0 0).ownBlock →
      PG w w5 R A c g' cap L := fun w5 g' cap ho hg => by
    rw [Nat.zero_add, List.nil_append] at ho
    have hlt := hk1.lt
    exact ⟨((hB1.alloc hB1.size _).drew).grown hg (by simp; omega) (fun j hj => by simp [Value.ownBlock] at hj; omega), (hk1.alloc _).drew.grown hg (by simp [Value.ownBlock]; omega), by rw [hLn]; exact ho⟩
  obtain ⟨i0, hi0, hz0, hs0, hby0⟩ := info_parts info_int
  have hlm : (L.map (Value.int .i64)).length = R.C.length * 1 := by simp [hLn]
  have hk1l := hk1.lt
  clear hnw
  go_upto_region 3 with fail
  go_region_law
    (first
      | (refine step_append_lies _ rfl _ _ _ rfl (w.heap.size + 1) 3 i0 _ 1 8 Try.underlying26 hi0 hz0 hs0 hby0 rfl (by omega) (.slice (some ⟨w1.heap.size, 0, none⟩) 0 0) 0 [] rfl hoa ad R.C.length d (L.map (Value.int .i64)) rfl hlm hnews hONE hl1 (by simp only [maxLen]; omega) (by omega) (by simp; omega) _ rfl ?_; intro g' cap w5 hown5 hgrow hat hlt5; have hP3 := hall _ _ _ hown5 hgrow; obtain ⟨p0, p1, p2⟩ := hP3.rcells; have hCq := hCO w5 g' cap cap hP3.bel (by have := own_mono hP3.own (base' := w.heap.size) (by omega); rw [hLn] at this; exact this); rw [Nat.zero_add])
      | ((rw [if_pos (by rfl)]); go_simp; (with_reducible refine (unhide hCq).mono ?_); rintro e w6 ⟨v6, ok6, M6, rfl, hl6, hm6, hok6, hb6⟩; go_simp))
  all_goals
    have hB6 := hP3.bel.trans (hb6.mono hP3.bel.size)
    clear hCq hCO hP3 hb6 hown5 hgrow hat hall hnews hoa p0 p1 p2 b0 b1 b2
    go_simp
    go_wp2_with fail
    go_ret2
    exact ⟨v6, ok6, M6, rfl, hl6, hm6, hok6, hB6⟩

set_option maxHeartbeats 1000000 in
theorem completeS_any (W T : Int) (A : Option Addr) (n c B : Nat) (bs : List Bool) (L : List Int) (D : Option Addr) (m d : Nat) (w : World) (hbl : bs.length = n) (hL : L.length = m)
    (hr : Reads w B 1 A n (bs.map Value.bool)) (hd : Reads w B 1 D m (L.map (Value.int .i64))) (hB : B ≤ w.heap.size) (hn : n ≤ 9223372036854775807) (hm : m ≤ 9223372036854775807) :
    Calls Try.prog 165 #[.agg #[.int .i64 W, .int .i64 T, .slice A n c], .slice D m d] w (CompRet w W T bs) := by
  cases h : laidB W T bs L with
  | true =>
    obtain ⟨R, hR, rfl, rfl, rfl, hLy⟩ := laid_cases h
    subst hbl
    obtain rfl : m = R.C.length := by rw [← hL]; exact hLy.len
    refine (completeS_ok R hR A c B L D d hLy w hr hd hB).mono ?_
    rintro e w' ⟨v, ok, M, rfl, h1, h2, h3, h4⟩
    exact ⟨v, ok, M, rfl, h1, h2, fun he => by rw [laidB_ok hR]; exact (laysB_iff hR).2 (h3 he), h4⟩
  | false =>
    have hLO := hide (laidOkS_any W T A n c B bs L D m d (w.alloc (boxR W T A n c)) hbl hL (hr.alloc hB _) (hd.alloc hB _) (by simp; omega) hn hm)
    rw [h] at hLO
    clear h
    go_enter Try.func165, Try.ntmps165
    go_wp2_with fail
    refine (unhide hLO).mono ?_
    rintro e w1 ⟨rfl, hb1⟩
    obtain ⟨hB1, hk1, b0, b1, b2⟩ := box_keep hb1
    go_wp2_with fail
    go_ret2
    have ho := World.ownsRow_made (base := w.heap.size) (e := 3) (size := 1) w1 #[] 0 hB1.size (by simp [maxLen]) (by simp)
    exact ⟨.slice (some ⟨w1.heap.size, 0, none⟩) 0 0, false, [], rfl, ⟨some ⟨w1.heap.size, 0, none⟩, 0, 0, rfl, by simpa using ho⟩, by simp, (fun he => by cases he), hB1.alloc hB1.size _⟩

set_option maxHeartbeats 1000000 in
theorem laidBareS_no (W T : Int) (A : Option Addr) (n c B : Nat) (bs : List Bool) (w : World) (hr : Reads w B 1 A n (bs.map Value.bool)) (hB : B ≤ w.heap.size) (hn : n ≤ 9223372036854775807) (hv : validB W T bs = false) :
    Calls Try.prog 131 #[.agg #[.int .i64 W, .int .i64 T, .slice A n c]] w fun e w' => ∃ v, e = .returned v ∧ LiAt w' w.heap.size v [] ∧ Below w.heap.size w w' := by
  have HV := hide (validS_any W T A n c B bs (w.alloc (boxR W T A n c)) (hr.alloc hB _) (by simp; omega) hn)
  rw [hv] at HV
  clear hv
  go_enter Try.func131, Try.ntmps131
  go_wp2_with fail
  refine (unhide HV).mono ?_
  rintro e w1 ⟨rfl, hb1⟩
  obtain ⟨hB1, hk1, b0, b1, b2⟩ := box_keep hb1
  go_wp2_with fail
  go_ret
  have ho := World.ownsRow_made (base := w.heap.size) (e := 3) (size := 1) w1 #[] 0 hB1.size (by simp [maxLen]) (by simp)
  exact ⟨.slice (some ⟨w1.heap.size, 0, none⟩) 0 0, rfl, ⟨some ⟨w1.heap.size, 0, none⟩, 0, 0, rfl, by simpa using ho⟩, hB1.alloc hB1.size _⟩

/-- LaidBare, of any region: a list that lays nothing, if the region is one. -/
theorem laidBareS_li (W T : Int) (A : Option Addr) (n c B : Nat) (bs : List Bool) (w : World) (hbl : bs.length = n) (hr : Reads w B 1 A n (bs.map Value.bool)) (hB : B ≤ w.heap.size) (hn : n ≤ 9223372036854775807) :
    Calls Try.prog 131 #[.agg #[.int .i64 W, .int .i64 T, .slice A n c]] w fun e w' => ∃ v L, e = .returned v ∧ LiAt w' w.heap.size v L ∧ L.length ≤ 36 ∧ (validB W T bs = true → laidB W T bs L = true) ∧ (validB W T bs = false → L = []) ∧ Below w.heap.size w w' := by
  cases hv : validB W T bs with
  | false =>
    refine (laidBareS_no W T A n c B bs w hr hB hn hv).mono ?_
    rintro e w' ⟨v, rfl, h1, h2⟩
    exact ⟨v, [], rfl, h1, by simp, (fun he => by cases he), fun _ => rfl, h2⟩
  | true =>
    obtain ⟨R, hR, rfl, rfl, rfl⟩ := reg_of_valid hv
    subst hbl
    refine (laidBareS_ok R hR A c B w hr hB).mono ?_
    rintro e w' ⟨g, rfl, h1, h2⟩
    refine ⟨_, bare R, rfl, ⟨some ⟨g, 0, none⟩, R.C.length, R.C.length, by simp [bare], by simpa [bare] using h1⟩, by simpa [bare] using (len_bd hR).2, fun _ => by rw [laidB_ok hR]; exact (laysB_iff hR).2 (lay_bare hR), (fun he => by cases he), h2⟩

set_option maxHeartbeats 1000000 in
theorem tilingFirstS_any (W T : Int) (A : Option Addr) (n c B : Nat) (bs : List Bool) (w : World) (hbl : bs.length = n)
    (hr : Reads w B 1 A n (bs.map Value.bool)) (hB : B ≤ w.heap.size) (hn : n ≤ 9223372036854775807) :
    Calls Try.prog 164 #[.agg #[.int .i64 W, .int .i64 T, .slice A n c]] w (CompRet w W T bs) := by
  have hb0 : Below w.heap.size w (w.alloc (boxR W T A n c)) := (Below.refl _ _).alloc (Nat.le_refl _) _
  have k0 : Blk (w.alloc (boxR W T A n c)) w.heap.size 25 #[.int .i64 W, .int .i64 T, .slice A n c] := Blk.new _ _ _
  have hLB := fun w' (h : Below w.heap.size w w') => hide (laidBareS_li W T A n c B bs w' hbl (hr.below (h.mono hB)) (Nat.le_trans hB h.size) hn)
  have hCO := fun w' (A3 : Option Addr) (c3 c4 : Nat) (L : List Int) (h : Below w.heap.size w w') (ho : w'.ownsRow w.heap.size 3 1 (.slice A3 L.length c4) L.length (L.map (Value.int .i64))) (hl : L.length ≤ 36) => hide (completeS_any W T A n c w'.heap.size bs L A3 L.length c3 w' hbl rfl ((hr.below (h.mono hB)).more (Nat.le_trans hB h.size)) (Reads.of_own ho) (Nat.le_refl _) hn (by omega))
  clear hr
  go_enter Try.func164, Try.ntmps164
  go_upto_region 1 with fail
  generalize w.alloc (.cells #[.int .i64 W, .int .i64 T, .slice A n c] 25) = w0 at *
  obtain ⟨b0, b1, b2⟩ := blk3 k0
  have hL1 := hLB w0.drew hb0.drew
  clear hLB
  go_region_held3 (fun w' => w'.cell? ⟨w.heap.size, 0, none⟩ = some (.int .i64 W) ∧ w'.cell? ⟨w.heap.size, 1, none⟩ = some (.int .i64 T) ∧ w'.cell? ⟨w.heap.size, 2, none⟩ = some (.slice A n c))
    (first
      | exact ⟨b0, b1, b2⟩
      | exact ⟨cell_kept (w := w0.drew) b0 hb3, cell_kept (w := w0.drew) b1 hb3, cell_kept (w := w0.drew) b2 hb3⟩
      | exact ⟨cell_kept (cell_kept (w := w0.drew) b0 hb3) hb4, cell_kept (cell_kept (w := w0.drew) b1 hb3) hb4, cell_kept (cell_kept (w := w0.drew) b2 hb3) hb4⟩)
    (first
      | (go_at_call 131; (with_reducible refine (unhide hL1).mono ?_); rintro e w3 ⟨v3, L3, rfl, ⟨A3, c3, c3', rfl, ho3⟩, hl3, _, _, hb3⟩)
      | (go_at_call 165; (with_reducible refine (unhide (hCO w3 A3 c3 c3' L3 (hb0.drew.trans (hb3.mono hb0.drew.size)) (own_mono ho3 hb0.drew.size) hl3)).mono ?_); rintro e w4 ⟨v4, ok4, M4, rfl, hl4, hm4, hok4, hb4⟩))
  all_goals
    have hB3 := hb0.drew.trans (hb3.mono hb0.drew.size)
    have hB4 := hB3.trans (hb4.mono hB3.size)
    clear b0 b1 b2 k0 hL1 hCO hb3 ho3 hb0
    go_simp
    go_wp2_with fail
    go_ret2
    exact ⟨v4, ok4, M4, rfl, hl4.mono hB3.size, hm4, hok4, hB4⟩

end Go.Proofs.Ythepfpiphlfgnaa

/-
  YthepfpiphlfgnaaD5: LiftOne of the reference: a domino less.
-/
namespace Go.Proofs.Ythepfpiphlfgnaa
open Go.RowKit

theorem set0_at (L : List Int) (i j : Nat) : (L.set i 0).getD j 0 = if j = i then 0 else L.getD j 0 := by
  rw [List.getD_eq_getElem?_getD, List.getD_eq_getElem?_getD, List.getElem?_set]
  by_cases h : j = i
  · subst h
    rw [if_pos rfl, if_pos rfl]
    split <;> rfl
  · rw [if_neg (Ne.symm h), if_neg h]
theorem lay_lift {R : Reg} (hR : R.ok) {L : List Int} (hL : Lay R L) {k e : Nat} (hk : k < R.C.length) (h0 : L.getD k 0 ≠ 0) (he : R.step k (L.getD k 0) = (e : Int)) : Lay R ((L.set e 0).set k 0) := by
  have hat : ∀ j, ((L.set e 0).set k 0).getD j 0 = if j = k then 0 else if j = e then 0 else L.getD j 0 := fun j => by rw [set0_at, set0_at]
  have hke : L.getD e 0 = back (L.getD k 0) ∧ e < R.C.length := by
    rcases layAt_of hR hL hk with h | ⟨d, h1, h2, h3, h4⟩
    · exact absurd h h0
    · have : d = e := by rw [he] at h1; omega
      subst this
      exact ⟨h4, cell_lt h3⟩
  refine lay_of hR (by simp [hL.len]) fun j hj => ?_
  unfold LayAt
  by_cases hjk : j = k
  · left; rw [hat, if_pos hjk]
  · by_cases hje : j = e
    · left; rw [hat, if_neg hjk, if_pos hje]
    · rw [hat, if_neg hjk, if_neg hje]
      rcases layAt_of hR hL hj with h | ⟨d, h1, h2, h3, h4⟩
      · exact .inl h
      · right
        refine ⟨d, h1, h2, h3, ?_⟩
        have hb := step_back hR.1 (xy_lt hR hj).2 h1
        rw [← h4] at hb
        have hdk : d ≠ k := by
          rintro rfl
          rw [he] at hb
          omega
        have hde : d ≠ e := by
          rintro rfl
          have hb2 := step_back hR.1 (xy_lt hR hk).2 he
          rw [← hke.1, hb] at hb2
          omega
        rw [hat, if_neg hdk, if_neg hde]
        exact h4

def LfRet (w : World) (R : Reg) (e : Ending) (w' : World) : Prop :=
  ∃ v ok M, e = .returned (.tuple #[v, .bool ok]) ∧ LiAt w' w.heap.size v M ∧ Lay R M ∧ Below w.heap.size w w'

set_option maxHeartbeats 1000000 in
set_option maxRecDepth 20000 in
theorem liftS_ok (R : Reg) (hR : R.ok) (A : Option Addr) (c B : Nat) (L : List Int) (D : Option Addr) (d : Nat) (k : Nat) (hk : k < R.C.length) (hL : Lay R L) (w : World)
    (hr : Reads w B 1 A R.C.length (R.C.map Value.bool)) (hd : Reads w B 1 D R.C.length (L.map (Value.int .i64))) (hB : B ≤ w.heap.size) :
    Calls Try.prog 166 #[.agg #[.int .i64 R.W, .int .i64 R.T, .slice A R.C.length c], .slice D R.C.length d, .int .i64 (k : Nat)] w (LfRet w R) := by
  have hl36 := (len_bd hR).2
  have hl1 := (len_bd hR).1
  have hlo : laidB R.W R.T R.C L = true := by rw [laidB_ok hR]; exact (laysB_iff hR).2 hL
  have hb0 : Below w.heap.size w (w.alloc (boxR R.W R.T A R.C.length c)) := (Below.refl _ _).alloc (Nat.le_refl _) _
  have hLO := hide (laidOkS_any R.W R.T A R.C.length c B R.C L D R.C.length d (w.alloc (boxR R.W R.T A R.C.length c)) rfl hL.len (hr.alloc hB _) (hd.alloc hB _) (by simp; omega) (by omega) (by omega))
  rw [hlo] at hLO
  have hLn := hL.len
  have hONE := ints_one (L := L)
  have HLL := Lib.hid hL
  have hI : inB (k : Int) 0 ((R.C.length : Int) - 1) = true := by unfold inB; simp; omega
  obtain ⟨ad, rfl, _, r0⟩ := hd.getI (k := k) (by omega)
  clear hlo
  go_enter Try.func166, Try.ntmps166
  go_wp2_with fail
  refine (unhide hLO).mono ?_
  rintro e w1 ⟨rfl, hb1⟩
  obtain ⟨hB1, hk1, b0, b1, b2⟩ := box_keep hb1
  clear hb1
  have ho1 : (w1.alloc (.cells #[] 3)).ownsRow (w.heap.size + 1) 3 1 (.slice (some ⟨w1.heap.size, 0, none⟩) 0 0) 0 [] := by simpa using World.ownsRow_made (base := w.heap.size + 1) (e := 3) (size := 1) w1 #[] 0 hk1.lt (by simp [maxLen]) (by simp)
  have hk2 := hk1.alloc (.cells #[] 3)
  have hB2 := hB1.alloc hB1.size (.cells #[] 3)
  have hd2 := hd.below (hB2.mono hB)
  clear b0 b1 b2
  go_wp2_with (at_builtin; refine wpList_appN rfl _ _ _ rfl (w.heap.size + 1) 3 _ 8 Try.underlying26 info_int rfl (by omega) (.slice (some ⟨w1.heap.size, 0, none⟩) 0 0) 0 [] rfl ho1 B (some ad) R.C.length d (L.map (Value.int .i64)) rfl hd2 hONE (by omega) (by have := hk2.lt; omega) ?_; rintro v' w3 ho3 hg3 _; obtain ⟨g, c', rfl, hP3⟩ := pg_copy hB1 hk1 ho3 hg3 hLn hl1; clear ho3 hg3)
  refine (l1In_any _ _ _ _).mono ?_
  rintro e w' ⟨rfl, rfl⟩
  rw [hI]
  have d0 := (hP3.bel.cell (p := ad.add k) (World.block_lt_of_cell? w _ r0)).trans r0
  clear ho1 hk2 hB2 hd2 hk1 hB1 hLO
  obtain ⟨z, hz⟩ : ∃ z, z = L.getD k 0 := ⟨_, rfl⟩
  have HZ := Lib.hid hz
  rw [← hz] at d0
  clear hz
  by_cases h0 : z = 0
  · subst h0
    go_wp2_with fail
    go_ret2
    exact ⟨.slice (some ⟨g, 0, none⟩) R.C.length c', false, L, rfl, ⟨some ⟨g, 0, none⟩, c', c', by rw [hLn], own_mono hP3.own (by omega)⟩, HLL.out, hP3.bel⟩
  · have h0d : (z == 0) = false := by simpa using h0
    have hze : L.getD k 0 ≠ 0 := by rw [← HZ.out]; exact h0
    obtain ⟨e, he, he1⟩ : ∃ e : Nat, R.step k z = (e : Int) ∧ e < R.C.length := by
      rcases layAt_of hR hL hk with h | ⟨d, h1, h2, h3, h4⟩
      · exact absurd h hze
      · exact ⟨d, by rw [HZ.out]; exact h1, cell_lt h3⟩
    have hST := fun w' => hide (stepS_any R hR A R.C.length c k hk z w')
    rw [he] at hST
    have hML := lay_lift hR hL hk hze (e := e) (by rw [← HZ.out]; exact he)
    have HML := Lib.hid hML
    obtain ⟨b0, b1, b2⟩ := hP3.rcells
    clear he hML hze
    have hS1 := hST w3.drew
    have hPd := hP3.drew
    clear hST
    go_upto_region 6 with fail
    go_region_with
      (first
        | (go_at_call 111; (with_reducible refine (unhide hS1).mono ?_); rintro e5 w5 ⟨rfl, hb5⟩; have hP5 := hPd.below hb5; have q0 := hP5.ocell (j := e) (by omega); have f0 := hP5.free e))
    all_goals
      have hP6 := hP5.set e 0
      have q1 := hP6.ocell (j := k) (by simp; omega)
      have f1 := hP6.free k
      have hP7 := hP6.set k 0
      clear hP3 hPd hS1 hb5 b0 b1 b2 d0 q0 f0 hP5 hP6
      go_simp
      go_wp2_with fail
      go_ret2
      exact ⟨.slice (some ⟨g, 0, none⟩) R.C.length c', true, (L.set e 0).set k 0, rfl, ⟨some ⟨g, 0, none⟩, c', c', by simp [hLn], own_mono hP7.own (by omega)⟩, HML.out, hP7.bel⟩

end Go.Proofs.Ythepfpiphlfgnaa
