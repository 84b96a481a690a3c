/-
  YthepfpiphlfgnaaD9: drawing: a region and two tilings of it.
-/
import Derived.Test.YthepfpiphlfgnaaD8
import Derived.Test.YthepfpiphlfgnaaR4
namespace Go.Proofs.Ythepfpiphlfgnaa
open Go.RowKit
attribute [local go_sem ↓] Go.wp_at_zero Go.wp_at_succ

theorem tab5b (x : Int) (h0 : 0 ≤ x) (h1 : x < 5) : ∃ q y : Nat, x = (q : Nat) ∧ q < 5 ∧ (1 ≤ y ∧ y ≤ 6) ∧ (#[.int .i64 2, .int .i64 3, .int .i64 4, .int .i64 4, .int .i64 5] : Array Value)[q]? = some (.int .i64 (y : Nat)) := by
  rcases (show x = 0 ∨ x = 1 ∨ x = 2 ∨ x = 3 ∨ x = 4 by omega) with rfl | rfl | rfl | rfl | rfl
  · exact ⟨0, 2, rfl, by omega, by omega, rfl⟩
  · exact ⟨1, 3, rfl, by omega, by omega, rfl⟩
  · exact ⟨2, 4, rfl, by omega, by omega, rfl⟩
  · exact ⟨3, 4, rfl, by omega, by omega, rfl⟩
  · exact ⟨4, 5, rfl, by omega, by omega, rfl⟩
theorem tab2b (x : Int) (h0 : 0 ≤ x) (h1 : x < 2) : ∃ q y : Nat, x = (q : Nat) ∧ q < 2 ∧ (1 ≤ y ∧ y ≤ 6) ∧ (#[.int .i64 2, .int .i64 4] : Array Value)[q]? = some (.int .i64 (y : Nat)) := by
  rcases (show x = 0 ∨ x = 1 by omega) with rfl | rfl
  · exact ⟨0, 2, rfl, by omega, by omega, rfl⟩
  · exact ⟨1, 4, rfl, by omega, by omega, rfl⟩
theorem DrawnR.form {w w0 : World} {g B : Nat} {A : Option Addr} {n c p p' d d2 : Nat} {zs : List Int} {e : Ending} {w' : World} (h : DrawnR w g B A n c p' d2 zs e w') (hw : w0.grownBy w (some g)) (hp : p ≤ p' ∧ p' + d2 ≤ p + d) :
    ∃ (W T : Int) (A2 : Option Addr) (c2 : Nat) (bs : List Bool), e = .returned (.agg #[.int .i64 W, .int .i64 T, .slice A2 bs.length c2]) ∧ RegAt w' w0.heap.size (.slice A2 bs.length c2) bs ∧ Stepped w0 g B A n c p d zs w' := by
  obtain ⟨W, T, v, bs, rfl, hreg, hst⟩ := h.more hw hp
  obtain ⟨A2, c2, rfl, _, _⟩ := own_form hreg.1
  exact ⟨W, T, A2, c2, bs, rfl, hreg, hst⟩
/-- The region's block written anew. -/
theorem DR.renew {w wr : World} {g B : Nat} {A : Option Addr} {n c p d : Nat} {zs : List Int} {x : Nat} {u0 u1 u2 : Value} {W T : Int} {v : Value} {bs : List Bool} (hst : Stepped w g B A n c p d zs wr) (hglt : g < w.heap.size) (hx : w.heap.size < x)
    (hres : Blk wr w.heap.size 25 #[.int .i64 0, .int .i64 0, .slice none 0 0]) (hrx : Blk wr x 25 #[u0, u1, u2]) (hreg : RegAt wr w.heap.size v bs) :
    DR w (((wr.setCell ⟨x, 0, none⟩ (.int .i64 W)).setCell ⟨x, 1, none⟩ (.int .i64 T)).setCell ⟨x, 2, none⟩ v) g B A n c p d zs x W T v bs :=
  ⟨((hst.put hglt (a := ⟨x, 0, none⟩) (Nat.le_of_lt hx) _).put hglt (a := ⟨x, 1, none⟩) (Nat.le_of_lt hx) _).put hglt (a := ⟨x, 2, none⟩) (Nat.le_of_lt hx) _, hglt, far3 hres (by omega), set3 hrx, ⟨own3 hreg.1 (own_blk_ne hreg.1 hrx (by decide)), hreg.2⟩, hx⟩
theorem LiAt.far3 {w : World} {b k : Nat} {vl : Value} {L : List Int} {cs : Array Value} {u0 u1 u2 : Value} (h : LiAt w b vl L) (hk : Blk w k 25 cs) : LiAt (((w.setCell ⟨k, 0, none⟩ u0).setCell ⟨k, 1, none⟩ u1).setCell ⟨k, 2, none⟩ u2) b vl L := by
  obtain ⟨A', c2, c3, e, ho⟩ := h
  exact ⟨A', c2, c3, e, own3 ho (own_blk_ne ho hk (by decide))⟩
/-- A drawn region with two lists. -/
def DrawnLL (w : World) (g B : Nat) (A : Option Addr) (n c p d : Nat) (zs : List Int) (e : Ending) (w' : World) : Prop :=
  ∃ (W T : Int) (v va vb : Value) (bs : List Bool) (La Lb : List Int), e = .returned (.tuple #[.agg #[.int .i64 W, .int .i64 T, v], va, vb]) ∧ RegAt w' w.heap.size v bs ∧ LiAt w' w.heap.size va La ∧ La.length ≤ 36 ∧ LiAt w' w.heap.size vb Lb ∧ Lb.length ≤ 36 ∧ Stepped w g B A n c p d zs w'

set_option maxHeartbeats 16000000 in
set_option maxRecDepth 100000 in
theorem drawTwo_any (g B : Nat) (A : Option Addr) (n c p : Nat) (zs : List Int) (w : World) (h : Rd w g B A n c p zs) (hp : p ≤ 10000000) :
    Calls Try.prog 63 #[.pointer (some ⟨g, 0, none⟩)] w (DrawnLL w g B A n c p 400 zs) := by
  have hglt := h.lt
  go_enter Try.func63, Try.ntmps63
  go_wp2_with fail
  refine (drawSome_any g B A n c p zs 16 _ (h.alloc _) (by omega)).mono ?_
  intro e w1 hd
  have hres := hd.blk (Blk.new w 25 #[.int .i64 0, .int .i64 0, .slice none 0 0]) (by omega)
  obtain ⟨W, T, A2, c2, bs, rfl, hreg, hst⟩ := hd.form (w0 := w) (p := p) (d := 170) (only_alloc (World.grownBy.refl w _) _) (by omega)
  have hD0 : DR w (w1.alloc (.cells #[.int .i64 W, .int .i64 T, .slice A2 bs.length c2] 25)) g B A n c p 170 zs w1.heap.size W T (.slice A2 bs.length c2) bs :=
    ⟨hst.calm ((Below.refl _ _).alloc (Nat.le_refl _) _), hglt, hres.alloc _, Blk.new _ _ _, hreg.below ((Below.refl _ _).alloc (Nat.le_refl _) _), hres.lt⟩
  clear hd hres hreg hst h
  go_upto_region 2 with fail
  generalize w1.alloc (.cells #[.int .i64 W, .int .i64 T, .slice A2 bs.length c2] 25) = w2 at *
  generalize w1.heap.size = x at *
  go_cut [20] (fun s20 wx => ∃ b : Bool, s20 = .bool b ∧ DR w wx g B A n c p 170 zs x W T (.slice A2 bs.length c2) bs)
  case first =>
    have hSI := SimpleS_any W T A2 bs.length c2 w2.heap.size bs w2 (Reads.of_own hD0.own.1) (Nat.le_refl _) (by have := hD0.own.2; omega)
    obtain ⟨⟨a0, a1, a2⟩, _, _, _⟩ := hD0.cells
    obtain ⟨sb, hsb⟩ : ∃ sb, simpleB W T bs = sb := ⟨_, rfl⟩
    rw [hsb] at hSI
    clear hsb
    go_wp2_with fail
    refine hSI.mono ?_
    rintro e w3 ⟨rfl, hb3⟩
    have hD3 := hD0.calm hb3
    clear hD0 hb3 hSI a0 a1 a2
    cases sb with
    | false =>
      go_wp2_with fail
      go_meet
      exact ⟨true, rfl, hD3⟩
    | true =>
      have hTM := tilingsManyS_any W T A2 bs.length c2 w3.heap.size bs w3 rfl (Reads.of_own hD3.own.1) (Nat.le_refl _) (by have := hD3.own.2; omega)
      obtain ⟨⟨a0, a1, a2⟩, _, _, _⟩ := hD3.cells
      generalize tmV W T bs = tm at *
      go_wp2_with fail
      refine hTM.mono ?_
      rintro e w4 ⟨rfl, hb4⟩
      have hD4 := hD3.calm hb4
      clear hD3 hb4 hTM a0 a1 a2
      go_wp2_with fail
      go_meet
      exact ⟨_, rfl, hD4⟩
  case rest =>
    obtain ⟨b, rfl, hD⟩ := hcut
    clear hD0
    go_upto_if 20 with fail
    go_cut [] (fun wx => ∃ (W T : Int) (A2 : Option Addr) (c2 : Nat) (bs : List Bool), DR w wx g B A n c p 180 zs x W T (.slice A2 bs.length c2) bs)
    case first =>
      cases b with
      | false =>
        go_wp2_with fail
        go_meet
        exact ⟨W, T, A2, c2, bs, hD.more (by omega)⟩
      | true =>
        obtain ⟨p3, hp3, hp4, hR, hgr⟩ := hD.st
        have hres := hD.res
        have hreX := hD.reg
        have hxl := hD.xlt
        have hxw := hreX.lt
        have hgw := hR.lt
        have hpp : p3 ≤ 1000000000000 := by omega
        have hpp2 : p3 + 1 ≤ 1000000000000 := by omega
        have hne : x ≠ g := by omega
        clear hD
        go_upto_region 3 with fail
        go_region_law
          (first
            | ((rw [if_pos (by rfl)]); go_simp; (with_reducible refine (pick_any g B A n c (p3) zs 5 _ (by first | exact hR.drewR | exact (hR.alloc _).drewR | exact ((hR.alloc _).alloc _).drewR) hpp).mono ?_); rintro e w5 ⟨x5, rfl, a5, b5, _, h5, g5⟩; have b5 := b5 (by omega); obtain ⟨q5, y5, rfl, hq5, hy5, hv5⟩ := tab5b x5 a5 b5; have l5 := h5.lt; have G5 : w.grownBy w5 (some g) := (by first | exact (only_drew hgr).trans g5 | exact (only_drew (only_alloc hgr _)).trans g5 | exact (only_drew (only_alloc (only_alloc hgr _) _)).trans g5); have hres5 : Blk w5 w.heap.size 25 #[.int .i64 0, .int .i64 0, .slice none 0 0] := (by first | exact hres.drew.grown g5 (by simp; omega) | exact (hres.alloc _).drew.grown g5 (by simp; omega) | exact ((hres.alloc _).alloc _).drew.grown g5 (by simp; omega)); have hreX5 : Blk w5 x 25 #[.int .i64 W, .int .i64 T, .slice A2 bs.length c2] := (by first | exact hreX.drew.grown g5 (by simp; omega) | exact (hreX.alloc _).drew.grown g5 (by simp; omega) | exact ((hreX.alloc _).alloc _).drew.grown g5 (by simp; omega)); clear a5 b5; (try (refine with_ (P := w5.cell? ⟨wc.heap.size, q5, none⟩ = some (.int .i64 (y5 : Nat))) ?_ (fun hx => ?_); focus (refine (blk_at (t := 3) (cs := #[.int .i64 2, .int .i64 3, .int .i64 4, .int .i64 4, .int .i64 5]) ?_).trans hv5; (repeat' (first | exact Blk.new _ _ _ | exact Blk.new1 _ _ _ _ | refine Blk.alloc ?_ _ | refine Blk.grown (Blk.drew ?_) g5 (some_ne ?_) | omega)); done))); (try (refine with_ (P := (w5.alloc (.cells #[.int .i64 2, .int .i64 4] 3)).cell? ⟨wc.heap.size, q5, none⟩ = some (.int .i64 (y5 : Nat))) ?_ (fun hx => ?_); focus (refine (blk_at (t := 3) (cs := #[.int .i64 2, .int .i64 3, .int .i64 4, .int .i64 4, .int .i64 5]) ?_).trans hv5; (repeat' (first | exact Blk.new _ _ _ | exact Blk.new1 _ _ _ _ | refine Blk.alloc ?_ _ | refine Blk.grown (Blk.drew ?_) g5 (some_ne ?_) | omega)); done))); (try (refine with_ (P := w5.cell? ⟨wc.heap.size + 1, q5, none⟩ = some (.int .i64 (y5 : Nat))) ?_ (fun hx => ?_); focus (refine (blk_at (t := 3) (cs := #[.int .i64 2, .int .i64 3, .int .i64 4, .int .i64 4, .int .i64 5]) ?_).trans hv5; (repeat' (first | exact Blk.new _ _ _ | exact Blk.new1 _ _ _ _ | refine Blk.alloc ?_ _ | refine Blk.grown (Blk.drew ?_) g5 (some_ne ?_) | omega)); done))); (try (refine with_ (P := (w5.alloc (.cells #[.int .i64 2, .int .i64 4] 3)).cell? ⟨wc.heap.size + 1, q5, none⟩ = some (.int .i64 (y5 : Nat))) ?_ (fun hx => ?_); focus (refine (blk_at (t := 3) (cs := #[.int .i64 2, .int .i64 3, .int .i64 4, .int .i64 4, .int .i64 5]) ?_).trans hv5; (repeat' (first | exact Blk.new _ _ _ | exact Blk.new1 _ _ _ _ | refine Blk.alloc ?_ _ | refine Blk.grown (Blk.drew ?_) g5 (some_ne ?_) | omega)); done))); (try (refine with_ (P := (w5.alloc (.cells #[.int .i64 2, .int .i64 3, .int .i64 4, .int .i64 4, .int .i64 5] 3)).cell? ⟨w5.heap.size, q5, none⟩ = some (.int .i64 (y5 : Nat))) ?_ (fun hx => ?_); focus (refine (blk_at (t := 3) (cs := #[.int .i64 2, .int .i64 3, .int .i64 4, .int .i64 4, .int .i64 5]) ?_).trans hv5; (repeat' (first | exact Blk.new _ _ _ | exact Blk.new1 _ _ _ _ | refine Blk.alloc ?_ _)); done))); (try (refine with_ (P := ((w5.alloc (.cells #[.int .i64 2, .int .i64 3, .int .i64 4, .int .i64 4, .int .i64 5] 3)).alloc (.cells #[.int .i64 2, .int .i64 4] 3)).cell? ⟨w5.heap.size, q5, none⟩ = some (.int .i64 (y5 : Nat))) ?_ (fun hx => ?_); focus (refine (blk_at (t := 3) (cs := #[.int .i64 2, .int .i64 3, .int .i64 4, .int .i64 4, .int .i64 5]) ?_).trans hv5; (repeat' (first | exact Blk.new _ _ _ | exact Blk.new1 _ _ _ _ | refine Blk.alloc ?_ _)); done))); (try (refine with_ (P := ((w5.alloc (.cells #[.int .i64 2, .int .i64 4] 3)).alloc (.cells #[.int .i64 2, .int .i64 3, .int .i64 4, .int .i64 4, .int .i64 5] 3)).cell? ⟨w5.heap.size + 1, q5, none⟩ = some (.int .i64 (y5 : Nat))) ?_ (fun hx => ?_); focus (refine (blk_at (t := 3) (cs := #[.int .i64 2, .int .i64 3, .int .i64 4, .int .i64 4, .int .i64 5]) ?_).trans hv5; (repeat' (first | exact Blk.new _ _ _ | exact Blk.new1 _ _ _ _ | refine Blk.alloc ?_ _)); done))); go_simp)
            | ((rw [if_pos (by rfl)]); go_simp; (with_reducible refine (pick_any g B A n c (p3 + 1) zs 2 _ (by first | exact h5 | exact (h5.alloc _) | exact ((h5.alloc _).alloc _)) hpp2).mono ?_); rintro e w6 ⟨x6, rfl, a6, b6, _, h6, g6⟩; (repeat clear hx); have b6 := b6 (by omega); obtain ⟨q6, y6, rfl, hq6, hy6, hv6⟩ := tab2b x6 a6 b6; have l6 := h6.lt; have G6 : w.grownBy w6 (some g) := (by first | exact G5.trans g6 | exact (only_alloc G5 _).trans g6 | exact (only_alloc (only_alloc G5 _) _).trans g6); have hres6 : Blk w6 w.heap.size 25 #[.int .i64 0, .int .i64 0, .slice none 0 0] := (by first | exact hres5.grown g6 (by simp; omega) | exact (hres5.alloc _).grown g6 (by simp; omega) | exact ((hres5.alloc _).alloc _).grown g6 (by simp; omega)); have hreX6 : Blk w6 x 25 #[.int .i64 W, .int .i64 T, .slice A2 bs.length c2] := (by first | exact hreX5.grown g6 (by simp; omega) | exact (hreX5.alloc _).grown g6 (by simp; omega) | exact ((hreX5.alloc _).alloc _).grown g6 (by simp; omega)); clear a6 b6; (try (refine with_ (P := w6.cell? ⟨wc.heap.size, q5, none⟩ = some (.int .i64 (y5 : Nat))) ?_ (fun hx => ?_); focus (refine (blk_at (t := 3) (cs := #[.int .i64 2, .int .i64 3, .int .i64 4, .int .i64 4, .int .i64 5]) ?_).trans hv5; (repeat' (first | exact Blk.new _ _ _ | exact Blk.new1 _ _ _ _ | refine Blk.alloc ?_ _ | refine Blk.grown ?_ g6 (some_ne ?_) | omega | refine Blk.grown (Blk.drew ?_) g5 (some_ne ?_) | omega)); done))); (try (refine with_ (P := (w6.alloc (.cells #[.int .i64 2, .int .i64 4] 3)).cell? ⟨wc.heap.size, q5, none⟩ = some (.int .i64 (y5 : Nat))) ?_ (fun hx => ?_); focus (refine (blk_at (t := 3) (cs := #[.int .i64 2, .int .i64 3, .int .i64 4, .int .i64 4, .int .i64 5]) ?_).trans hv5; (repeat' (first | exact Blk.new _ _ _ | exact Blk.new1 _ _ _ _ | refine Blk.alloc ?_ _ | refine Blk.grown ?_ g6 (some_ne ?_) | omega | refine Blk.grown (Blk.drew ?_) g5 (some_ne ?_) | omega)); done))); (try (refine with_ (P := w6.cell? ⟨wc.heap.size + 1, q5, none⟩ = some (.int .i64 (y5 : Nat))) ?_ (fun hx => ?_); focus (refine (blk_at (t := 3) (cs := #[.int .i64 2, .int .i64 3, .int .i64 4, .int .i64 4, .int .i64 5]) ?_).trans hv5; (repeat' (first | exact Blk.new _ _ _ | exact Blk.new1 _ _ _ _ | refine Blk.alloc ?_ _ | refine Blk.grown ?_ g6 (some_ne ?_) | omega | refine Blk.grown (Blk.drew ?_) g5 (some_ne ?_) | omega)); done))); (try (refine with_ (P := (w6.alloc (.cells #[.int .i64 2, .int .i64 4] 3)).cell? ⟨wc.heap.size + 1, q5, none⟩ = some (.int .i64 (y5 : Nat))) ?_ (fun hx => ?_); focus (refine (blk_at (t := 3) (cs := #[.int .i64 2, .int .i64 3, .int .i64 4, .int .i64 4, .int .i64 5]) ?_).trans hv5; (repeat' (first | exact Blk.new _ _ _ | exact Blk.new1 _ _ _ _ | refine Blk.alloc ?_ _ | refine Blk.grown ?_ g6 (some_ne ?_) | omega | refine Blk.grown (Blk.drew ?_) g5 (some_ne ?_) | omega)); done))); (try (refine with_ (P := w6.cell? ⟨w5.heap.size, q5, none⟩ = some (.int .i64 (y5 : Nat))) ?_ (fun hx => ?_); focus (refine (blk_at (t := 3) (cs := #[.int .i64 2, .int .i64 3, .int .i64 4, .int .i64 4, .int .i64 5]) ?_).trans hv5; (repeat' (first | exact Blk.new _ _ _ | exact Blk.new1 _ _ _ _ | refine Blk.alloc ?_ _ | refine Blk.grown ?_ g6 (some_ne ?_) | omega | refine Blk.grown (Blk.drew ?_) g5 (some_ne ?_) | omega)); done))); (try (refine with_ (P := (w6.alloc (.cells #[.int .i64 2, .int .i64 4] 3)).cell? ⟨w5.heap.size, q5, none⟩ = some (.int .i64 (y5 : Nat))) ?_ (fun hx => ?_); focus (refine (blk_at (t := 3) (cs := #[.int .i64 2, .int .i64 3, .int .i64 4, .int .i64 4, .int .i64 5]) ?_).trans hv5; (repeat' (first | exact Blk.new _ _ _ | exact Blk.new1 _ _ _ _ | refine Blk.alloc ?_ _ | refine Blk.grown ?_ g6 (some_ne ?_) | omega | refine Blk.grown (Blk.drew ?_) g5 (some_ne ?_) | omega)); done))); (try (refine with_ (P := w6.cell? ⟨w5.heap.size + 1, q5, none⟩ = some (.int .i64 (y5 : Nat))) ?_ (fun hx => ?_); focus (refine (blk_at (t := 3) (cs := #[.int .i64 2, .int .i64 3, .int .i64 4, .int .i64 4, .int .i64 5]) ?_).trans hv5; (repeat' (first | exact Blk.new _ _ _ | exact Blk.new1 _ _ _ _ | refine Blk.alloc ?_ _ | refine Blk.grown ?_ g6 (some_ne ?_) | omega | refine Blk.grown (Blk.drew ?_) g5 (some_ne ?_) | omega)); done))); (try (refine with_ (P := (w6.alloc (.cells #[.int .i64 2, .int .i64 4] 3)).cell? ⟨w5.heap.size + 1, q5, none⟩ = some (.int .i64 (y5 : Nat))) ?_ (fun hx => ?_); focus (refine (blk_at (t := 3) (cs := #[.int .i64 2, .int .i64 3, .int .i64 4, .int .i64 4, .int .i64 5]) ?_).trans hv5; (repeat' (first | exact Blk.new _ _ _ | exact Blk.new1 _ _ _ _ | refine Blk.alloc ?_ _ | refine Blk.grown ?_ g6 (some_ne ?_) | omega | refine Blk.grown (Blk.drew ?_) g5 (some_ne ?_) | omega)); done))); (try (refine with_ (P := (w6.alloc (.cells #[.int .i64 2, .int .i64 3, .int .i64 4, .int .i64 4, .int .i64 5] 3)).cell? ⟨w6.heap.size, q5, none⟩ = some (.int .i64 (y5 : Nat))) ?_ (fun hx => ?_); focus (refine (blk_at (t := 3) (cs := #[.int .i64 2, .int .i64 3, .int .i64 4, .int .i64 4, .int .i64 5]) ?_).trans hv5; (repeat' (first | exact Blk.new _ _ _ | exact Blk.new1 _ _ _ _ | refine Blk.alloc ?_ _)); done))); (try (refine with_ (P := ((w6.alloc (.cells #[.int .i64 2, .int .i64 3, .int .i64 4, .int .i64 4, .int .i64 5] 3)).alloc (.cells #[.int .i64 2, .int .i64 4] 3)).cell? ⟨w6.heap.size, q5, none⟩ = some (.int .i64 (y5 : Nat))) ?_ (fun hx => ?_); focus (refine (blk_at (t := 3) (cs := #[.int .i64 2, .int .i64 3, .int .i64 4, .int .i64 4, .int .i64 5]) ?_).trans hv5; (repeat' (first | exact Blk.new _ _ _ | exact Blk.new1 _ _ _ _ | refine Blk.alloc ?_ _)); done))); (try (refine with_ (P := ((w6.alloc (.cells #[.int .i64 2, .int .i64 4] 3)).alloc (.cells #[.int .i64 2, .int .i64 3, .int .i64 4, .int .i64 4, .int .i64 5] 3)).cell? ⟨w6.heap.size + 1, q5, none⟩ = some (.int .i64 (y5 : Nat))) ?_ (fun hx => ?_); focus (refine (blk_at (t := 3) (cs := #[.int .i64 2, .int .i64 3, .int .i64 4, .int .i64 4, .int .i64 5]) ?_).trans hv5; (repeat' (first | exact Blk.new _ _ _ | exact Blk.new1 _ _ _ _ | refine Blk.alloc ?_ _)); done))); (try (refine with_ (P := w6.cell? ⟨wc.heap.size, q6, none⟩ = some (.int .i64 (y6 : Nat))) ?_ (fun hx => ?_); focus (refine (blk_at (t := 3) (cs := #[.int .i64 2, .int .i64 4]) ?_).trans hv6; (repeat' (first | exact Blk.new _ _ _ | exact Blk.new1 _ _ _ _ | refine Blk.alloc ?_ _ | refine Blk.grown ?_ g6 (some_ne ?_) | omega | refine Blk.grown (Blk.drew ?_) g5 (some_ne ?_) | omega)); done))); (try (refine with_ (P := (w6.alloc (.cells #[.int .i64 2, .int .i64 3, .int .i64 4, .int .i64 4, .int .i64 5] 3)).cell? ⟨wc.heap.size, q6, none⟩ = some (.int .i64 (y6 : Nat))) ?_ (fun hx => ?_); focus (refine (blk_at (t := 3) (cs := #[.int .i64 2, .int .i64 4]) ?_).trans hv6; (repeat' (first | exact Blk.new _ _ _ | exact Blk.new1 _ _ _ _ | refine Blk.alloc ?_ _ | refine Blk.grown ?_ g6 (some_ne ?_) | omega | refine Blk.grown (Blk.drew ?_) g5 (some_ne ?_) | omega)); done))); (try (refine with_ (P := w6.cell? ⟨wc.heap.size + 1, q6, none⟩ = some (.int .i64 (y6 : Nat))) ?_ (fun hx => ?_); focus (refine (blk_at (t := 3) (cs := #[.int .i64 2, .int .i64 4]) ?_).trans hv6; (repeat' (first | exact Blk.new _ _ _ | exact Blk.new1 _ _ _ _ | refine Blk.alloc ?_ _ | refine Blk.grown ?_ g6 (some_ne ?_) | omega | refine Blk.grown (Blk.drew ?_) g5 (some_ne ?_) | omega)); done))); (try (refine with_ (P := (w6.alloc (.cells #[.int .i64 2, .int .i64 3, .int .i64 4, .int .i64 4, .int .i64 5] 3)).cell? ⟨wc.heap.size + 1, q6, none⟩ = some (.int .i64 (y6 : Nat))) ?_ (fun hx => ?_); focus (refine (blk_at (t := 3) (cs := #[.int .i64 2, .int .i64 4]) ?_).trans hv6; (repeat' (first | exact Blk.new _ _ _ | exact Blk.new1 _ _ _ _ | refine Blk.alloc ?_ _ | refine Blk.grown ?_ g6 (some_ne ?_) | omega | refine Blk.grown (Blk.drew ?_) g5 (some_ne ?_) | omega)); done))); (try (refine with_ (P := w6.cell? ⟨w5.heap.size, q6, none⟩ = some (.int .i64 (y6 : Nat))) ?_ (fun hx => ?_); focus (refine (blk_at (t := 3) (cs := #[.int .i64 2, .int .i64 4]) ?_).trans hv6; (repeat' (first | exact Blk.new _ _ _ | exact Blk.new1 _ _ _ _ | refine Blk.alloc ?_ _ | refine Blk.grown ?_ g6 (some_ne ?_) | omega | refine Blk.grown (Blk.drew ?_) g5 (some_ne ?_) | omega)); done))); (try (refine with_ (P := (w6.alloc (.cells #[.int .i64 2, .int .i64 3, .int .i64 4, .int .i64 4, .int .i64 5] 3)).cell? ⟨w5.heap.size, q6, none⟩ = some (.int .i64 (y6 : Nat))) ?_ (fun hx => ?_); focus (refine (blk_at (t := 3) (cs := #[.int .i64 2, .int .i64 4]) ?_).trans hv6; (repeat' (first | exact Blk.new _ _ _ | exact Blk.new1 _ _ _ _ | refine Blk.alloc ?_ _ | refine Blk.grown ?_ g6 (some_ne ?_) | omega | refine Blk.grown (Blk.drew ?_) g5 (some_ne ?_) | omega)); done))); (try (refine with_ (P := w6.cell? ⟨w5.heap.size + 1, q6, none⟩ = some (.int .i64 (y6 : Nat))) ?_ (fun hx => ?_); focus (refine (blk_at (t := 3) (cs := #[.int .i64 2, .int .i64 4]) ?_).trans hv6; (repeat' (first | exact Blk.new _ _ _ | exact Blk.new1 _ _ _ _ | refine Blk.alloc ?_ _ | refine Blk.grown ?_ g6 (some_ne ?_) | omega | refine Blk.grown (Blk.drew ?_) g5 (some_ne ?_) | omega)); done))); (try (refine with_ (P := (w6.alloc (.cells #[.int .i64 2, .int .i64 3, .int .i64 4, .int .i64 4, .int .i64 5] 3)).cell? ⟨w5.heap.size + 1, q6, none⟩ = some (.int .i64 (y6 : Nat))) ?_ (fun hx => ?_); focus (refine (blk_at (t := 3) (cs := #[.int .i64 2, .int .i64 4]) ?_).trans hv6; (repeat' (first | exact Blk.new _ _ _ | exact Blk.new1 _ _ _ _ | refine Blk.alloc ?_ _ | refine Blk.grown ?_ g6 (some_ne ?_) | omega | refine Blk.grown (Blk.drew ?_) g5 (some_ne ?_) | omega)); done))); (try (refine with_ (P := (w6.alloc (.cells #[.int .i64 2, .int .i64 4] 3)).cell? ⟨w6.heap.size, q6, none⟩ = some (.int .i64 (y6 : Nat))) ?_ (fun hx => ?_); focus (refine (blk_at (t := 3) (cs := #[.int .i64 2, .int .i64 4]) ?_).trans hv6; (repeat' (first | exact Blk.new _ _ _ | exact Blk.new1 _ _ _ _ | refine Blk.alloc ?_ _)); done))); (try (refine with_ (P := ((w6.alloc (.cells #[.int .i64 2, .int .i64 4] 3)).alloc (.cells #[.int .i64 2, .int .i64 3, .int .i64 4, .int .i64 4, .int .i64 5] 3)).cell? ⟨w6.heap.size, q6, none⟩ = some (.int .i64 (y6 : Nat))) ?_ (fun hx => ?_); focus (refine (blk_at (t := 3) (cs := #[.int .i64 2, .int .i64 4]) ?_).trans hv6; (repeat' (first | exact Blk.new _ _ _ | exact Blk.new1 _ _ _ _ | refine Blk.alloc ?_ _)); done))); (try (refine with_ (P := ((w6.alloc (.cells #[.int .i64 2, .int .i64 3, .int .i64 4, .int .i64 4, .int .i64 5] 3)).alloc (.cells #[.int .i64 2, .int .i64 4] 3)).cell? ⟨w6.heap.size + 1, q6, none⟩ = some (.int .i64 (y6 : Nat))) ?_ (fun hx => ?_); focus (refine (blk_at (t := 3) (cs := #[.int .i64 2, .int .i64 4]) ?_).trans hv6; (repeat' (first | exact Blk.new _ _ _ | exact Blk.new1 _ _ _ _ | refine Blk.alloc ?_ _)); done))); go_simp)
            | ((rw [if_pos (by rfl)]); go_simp; (with_reducible refine (boxS_any g B A n c (p3 + 1 + 1) zs y5 y6 hy5 hy6 _ (by first | exact h6 | exact (h6.alloc _) | exact ((h6.alloc _).alloc _))).mono ?_); intro e w7 hd; (repeat clear hx); have hres7 := hd.blk (k := w.heap.size) (t := 25) (cs := #[.int .i64 0, .int .i64 0, .slice none 0 0]) (by first | exact hres6 | exact (hres6.alloc _) | exact ((hres6.alloc _).alloc _)) (by omega); have hreX7 := hd.blk (k := x) (t := 25) (cs := #[.int .i64 W, .int .i64 T, .slice A2 bs.length c2]) (by first | exact hreX6 | exact (hreX6.alloc _) | exact ((hreX6.alloc _).alloc _)) (by omega); have hD7 : ∃ (W7 T7 : Int) (A7 : Option Addr) (c7 : Nat) (b7 : List Bool), e = .returned (.agg #[.int .i64 W7, .int .i64 T7, .slice A7 b7.length c7]) ∧ RegAt w7 w.heap.size (.slice A7 b7.length c7) b7 ∧ Stepped w g B A n c p 180 zs w7 := hd.form (w0 := w) (p := p) (d := 180) (by first | exact G6 | exact (only_alloc G6 _) | exact (only_alloc (only_alloc G6 _) _)) (by omega); obtain ⟨W7, T7, A7, c7, b7, rfl, hreg7, hst7⟩ := hD7; obtain ⟨r0, r1, r2⟩ := blk3 hreX7; have f0 := hreX7.frozen 0; have f1 := hreX7.frozen 1; have f2 := hreX7.frozen 2; go_simp))
        all_goals
          have hD8 := DR.renew (W := W7) (T := T7) hst7 hglt hxl hres7 hreX7 hreg7
          clear r0 r1 r2 f0 f1 f2
          first | go_meet | (go_wp2_with fail; go_meet)
          exact ⟨W7, T7, A7, c7, b7, by first | exact hD8 | exact hD8.calm (Below.refl _ _).drew⟩
    case rest =>
      clear hD
      obtain ⟨W, T, A2, c2, bs, hD⟩ := hcut
      have hTM := tilingsManyS_any W T A2 bs.length c2 wc.heap.size bs wc rfl (Reads.of_own hD.own.1) (Nat.le_refl _) (by have := hD.own.2; omega)
      obtain ⟨⟨a0, a1, a2⟩, _, _, _⟩ := hD.cells
      have htb := tmV_bd W T bs
      generalize tmV W T bs = tm at *
      go_wp2_with fail
      refine hTM.mono ?_
      rintro e w4 ⟨rfl, hb4⟩
      have hD4 := hD.calm hb4
      clear hD hb4 hTM a0 a1 a2
      go_upto_region 5 with fail
      go_cut [7] (fun s7 wx => ∃ Lx, DR w wx g B A n c p 181 zs x W T (.slice A2 bs.length c2) bs ∧ LiAt wx w.heap.size s7 Lx ∧ Lx.length ≤ 36)
      case first =>
        have hDd := hD4.calm (Below.refl w4.heap.size w4).drew
        obtain ⟨p5, hp5, hp6, hR5, hgr5⟩ := hDd.st
        obtain ⟨⟨a0, a1, a2⟩, _, _, _⟩ := hD4.cells
        obtain ⟨⟨d0, d1, d2⟩, _, _, _⟩ := hDd.cells
        have hpp : p5 ≤ 1000000000000 := by omega
        have hbs := hD4.own.2
        have hmx : ¬ max tm 1 = 0 := by omega
        clear hD4
        go_region_law
          (first
            | ((rw [if_pos (by rfl)]); go_simp; (with_reducible refine (pick_any g B A n c p5 zs 256 _ hR5 hpp).mono ?_); rintro e w5 ⟨x5, rfl, a5, b5, _, h5, g5⟩; have hD5 := hDd.step (d2 := 1) ⟨hp5, hp6⟩ hgr5 ⟨p5 + 1, by omega, by omega, h5, g5⟩; obtain ⟨⟨e0, e1, e2⟩, _, _, _⟩ := hD5.cells; have hTO := fun rank => hide (tilingOfS_any W T A2 bs.length c2 w5.heap.size bs rank w5 rfl (Reads.of_own hD5.own.1) (Nat.le_refl _) (by omega)); go_simp)
            | ((rw [if_pos (by rfl)]); go_simp; (with_reducible refine (unhide (hTO _)).mono ?_); rintro e w6 ⟨vx, ok, Lx, rfl, hlx, hllx, hb6⟩; go_simp))
        all_goals
          have hD6 := hD5.calm hb6
          have hlx := hlx.mono (b' := w.heap.size) (by obtain ⟨_, _, _, _, hq⟩ := hD5.st; exact hq.size)
          clear hTO hDd hD5 a0 a1 a2 d0 d1 d2 e0 e1 e2 hb6 hR5 hgr5 h5 g5
          go_wp2_with fail
          go_meet
          exact ⟨Lx, hD6.more (by omega), hlx, hllx⟩
      case rest =>
        clear hD4
        obtain ⟨La, hD, hla, hll⟩ := hcut
        go_upto_region 6 with fail
        go_cut [9] (fun s9 wx => ∃ Lx, DR w wx g B A n c p 182 zs x W T (.slice A2 bs.length c2) bs ∧ LiAt wx w.heap.size s9 Lx ∧ Lx.length ≤ 36 ∧ LiAt wx w.heap.size u7 La)
        case first =>
          have hDd := hD.calm (Below.refl wc.heap.size wc).drew
          have hla0 := hla.below (Below.refl wc.heap.size wc).drew
          obtain ⟨p5, hp5, hp6, hR5, hgr5⟩ := hDd.st
          obtain ⟨⟨a0, a1, a2⟩, _, _, _⟩ := hD.cells
          obtain ⟨⟨d0, d1, d2⟩, _, _, _⟩ := hDd.cells
          have hpp : p5 ≤ 1000000000000 := by omega
          have hbs := hD.own.2
          have hmx : ¬ max tm 1 = 0 := by omega
          clear hD
          go_region_law
            (first
              | ((rw [if_pos (by rfl)]); go_simp; (with_reducible refine (pick_any g B A n c p5 zs 256 _ hR5 hpp).mono ?_); rintro e w5 ⟨x5, rfl, a5, b5, _, h5, g5⟩; have hD5 := hDd.step (d2 := 1) ⟨hp5, hp6⟩ hgr5 ⟨p5 + 1, by omega, by omega, h5, g5⟩; obtain ⟨⟨e0, e1, e2⟩, _, _, _⟩ := hD5.cells; have hTO := fun rank => hide (tilingOfS_any W T A2 bs.length c2 w5.heap.size bs rank w5 rfl (Reads.of_own hD5.own.1) (Nat.le_refl _) (by omega)); go_simp)
              | ((rw [if_pos (by rfl)]); go_simp; (with_reducible refine (unhide (hTO _)).mono ?_); rintro e w6 ⟨vx, ok, Lx, rfl, hlx, hllx, hb6⟩; go_simp))
          all_goals
            have hD6 := hD5.calm hb6
            have hlx := hlx.mono (b' := w.heap.size) (by obtain ⟨_, _, _, _, hq⟩ := hD5.st; exact hq.size)
            have hla6 := (hla0.step g5 hglt).below hb6
            clear hTO hDd hD5 a0 a1 a2 d0 d1 d2 e0 e1 e2 hb6 hR5 hgr5 h5 g5
            go_wp2_with fail
            go_meet
            exact ⟨Lx, hD6.more (by omega), hlx, hllx, hla6⟩
        case rest =>
          clear hD hla
          obtain ⟨Lb, hD, hlb, hllb, hla⟩ := hcut
          obtain ⟨p5, hp5, hp6, hR5, hgr5⟩ := hD.st
          go_wp2_with fail
          refine (odd_any g B A n c p5 zs 14 _ hR5 (by omega)).mono ?_
          rintro e w5 ⟨b5, rfl, p6, hp7, hp8, h5, g5⟩
          have hD5 := hD.step (d2 := 1) ⟨hp5, hp6⟩ hgr5 ⟨p6, hp7, hp8, h5, g5⟩
          have hla5 := hla.step g5 hglt
          have hlb5 := hlb.step g5 hglt
          clear hD hla hlb hR5 hgr5 h5 g5
          go_upto_if 55 with fail
          go_cut [9] (fun s9 wx => ∃ Lx, DR w wx g B A n c p 183 zs x W T (.slice A2 bs.length c2) bs ∧ LiAt wx w.heap.size s9 Lx ∧ Lx.length ≤ 36 ∧ LiAt wx w.heap.size u7 La)
          case first =>
            cases b5 with
            | false =>
              go_wp2_with fail
              go_meet
              exact ⟨Lb, hD5, hlb5, hllb, hla5⟩
            | true =>
              have hLB := laidBareS_li W T A2 bs.length c2 w5.heap.size bs w5 rfl (Reads.of_own hD5.own.1) (Nat.le_refl _) (by have := hD5.own.2; omega)
              obtain ⟨⟨a0, a1, a2⟩, _, _, _⟩ := hD5.cells
              go_wp2_with fail
              refine hLB.mono ?_
              rintro e w6 ⟨v6, L6, rfl, hl6, hn6, _, _, hb6⟩
              have hD6 := hD5.calm hb6
              have hN6 := hl6.mono (b' := w.heap.size) (by obtain ⟨_, _, _, _, hq⟩ := hD5.st; exact hq.size)
              have hla6 := hla5.below hb6
              clear hD5 hLB hl6 hb6 a0 a1 a2
              go_wp2_with fail
              go_meet
              exact ⟨L6, hD6, hN6, hn6, hla6⟩
          case rest =>
            clear hD5 hla5 hlb5
            obtain ⟨Lb, hD, hlb, hllb, hla⟩ := hcut
            obtain ⟨p5, hp5, hp6, hR5, hgr5⟩ := hD.st
            go_wp2_with fail
            refine (odd_any g B A n c p5 zs 16 _ hR5 (by omega)).mono ?_
            rintro e w5 ⟨b5, rfl, p6, hp7, hp8, h5, g5⟩
            have hD5 := hD.step (d2 := 1) ⟨hp5, hp6⟩ hgr5 ⟨p6, hp7, hp8, h5, g5⟩
            have hla5 := hla.step g5 hglt
            have hlb5 := hlb.step g5 hglt
            have hgr6 := hgr5.trans g5
            clear hD hla hlb hR5 hgr5 g5
            go_upto_if 59 with fail
            go_cut [] (fun wx => ∃ (W T : Int) (A2 : Option Addr) (c2 : Nat) (bs : List Bool), DR w wx g B A n c p 400 zs x W T (.slice A2 bs.length c2) bs ∧ LiAt wx w.heap.size u9 Lb ∧ LiAt wx w.heap.size u7 La)
            case first =>
              cases b5 with
              | false =>
                go_wp2_with fail
                go_meet
                exact ⟨W, T, A2, c2, bs, hD5.more (by omega), hlb5, hla5⟩
              | true =>
                have hxg : x ≠ g := by have := hD5.xlt; omega
                have hwg : w.heap.size ≠ g := by omega
                go_wp2_with fail
                refine (drawRegion_any g B A n c p6 zs 9 _ h5 (by omega)).mono ?_
                intro e w7 hd
                have hres := hd.blk hD5.res hwg
                have hreX := hd.blk hD5.reg hxg
                have hgr7 : w5.grownBy w7 (some g) := by obtain ⟨_, _, _, _, _, _, _, _, _, _, h9⟩ := hd; exact h9
                obtain ⟨W7, T7, A7, c7, b7, rfl, hreg7, hst7⟩ := hd.form (w0 := w) (p := p) (d := 400) hgr6 (by omega)
                have hD8 := DR.renew (W := W7) (T := T7) hst7 hglt hD5.xlt hres hreX hreg7
                have hla8 := (hla5.step hgr7 hglt).far3 (u0 := .int .i64 W7) (u1 := .int .i64 T7) (u2 := .slice A7 b7.length c7) hreX
                have hlb8 := (hlb5.step hgr7 hglt).far3 (u0 := .int .i64 W7) (u1 := .int .i64 T7) (u2 := .slice A7 b7.length c7) hreX
                obtain ⟨r0, r1, r2⟩ := blk3 hreX
                have f0 := hreX.frozen 0
                have f1 := hreX.frozen 1
                have f2 := hreX.frozen 2
                clear hD5 hla5 hlb5 hd hres hreg7 hst7 hgr7 hreX
                go_wp2_with fail
                go_meet
                exact ⟨W7, T7, A7, c7, b7, hD8, hlb8, hla8⟩
            case rest =>
              clear hD5 hla5 hlb5 h5 hgr6
              obtain ⟨W8, T8, A8, c8, b8, hD, hlb, hla⟩ := hcut
              obtain ⟨⟨a0, a1, a2⟩, _, ⟨r0, r1, r2⟩, q0, q1, q2⟩ := hD.cells
              obtain ⟨o1, o2⟩ := out_any hD.st hglt hD.res hD.own (.int .i64 W8) (.int .i64 T8) (.slice A8 b8.length c8)
              have o3 := hla.far3 (u0 := .int .i64 W8) (u1 := .int .i64 T8) (u2 := .slice A8 b8.length c8) hD.res
              have o4 := hlb.far3 (u0 := .int .i64 W8) (u1 := .int .i64 T8) (u2 := .slice A8 b8.length c8) hD.res
              clear hD hla hlb
              go_wp2_with fail
              exact bodyPost_ret (v := .tuple #[.agg #[.int .i64 W8, .int .i64 T8, .slice A8 b8.length c8], u7, u9]) (by simp [results, Try.results63, go_sem, r0, r1, r2]) rfl ⟨W8, T8, _, _, _, b8, La, Lb, rfl, o1, o3, hll, o4, hllb, o2⟩

end Go.Proofs.Ythepfpiphlfgnaa
