/-
  YthepfpiphlfgnaaDkl: the texts Dk, Dl, Dr, Dy in one file.
-/
import Derived.Test.YthepfpiphlfgnaaDv
import Derived.Test.YthepfpiphlfgnaaPv
import Derived.Test.YthepfpiphlfgnaaDp

/-
  YthepfpiphlfgnaaDk: drawing: pushes.
-/
namespace Go.Proofs.Ythepfpiphlfgnaa
open Go.RowKit
attribute [local go_sem ↓] Go.wp_at_zero Go.wp_at_succ

theorem pc_app (ps : List (Int × Bool)) (z : Int) (b : Bool) : pc (ps ++ [(z, b)]) = pc ps ++ [.int .i64 z, .bool b] := by simp [pc]
/-- A row of pushes. -/
abbrev PuAt (w : World) (b : Nat) (v : Value) (ps : List (Int × Bool)) : Prop := w.ownsRow b 100 2 v ps.length (pc ps)
theorem PuAt.below {w w' : World} {b : Nat} {v : Value} {ps : List (Int × Bool)} (h : PuAt w b v ps) (hb : Below w.heap.size w w') : PuAt w' b v ps := own_below h hb (Nat.le_refl _)
theorem PuAt.step {w w' : World} {b g : Nat} {v : Value} {ps : List (Int × Bool)} (h : PuAt w b v ps) (hg : w.grownBy w' (some g)) (hb : g < b) : PuAt w' b v ps := own_step h hg hb
theorem PuAt.far3' {w : World} {b k : Nat} {v : Value} {ps : List (Int × Bool)} {cs : Array Value} {u0 u1 u2 : Value} (h : PuAt w b v ps) (hk : Blk w k 25 cs) : PuAt (((w.setCell ⟨k, 0, none⟩ u0).setCell ⟨k, 1, none⟩ u1).setCell ⟨k, 2, none⟩ u2) b v ps := by
  have hne := own_blk_ne h hk (by decide)
  exact ownsRow_setCell_other (ownsRow_setCell_other (ownsRow_setCell_other h (a := ⟨k, 0, none⟩) hne u0) (a := ⟨k, 1, none⟩) hne u1) (a := ⟨k, 2, none⟩) hne u2
/-- Drawing pushes: where it stands. -/
structure PS (w wr : World) (g B : Nat) (A : Option Addr) (n c p : Nat) (zs : List Int) (gc cc : Nat) (W T : Int) (A2 : Option Addr) (c2 : Nat) (bs : List Bool) (bb : Nat) (ps : List (Int × Bool)) : Prop where
  rd : Rd wr g B A n c p zs
  gr : w.grownBy wr (some g)
  reg : Blk wr w.heap.size 25 #[.int .i64 W, .int .i64 T, .slice A2 bs.length c2]
  own : RegAt wr bb (.slice A2 bs.length c2) bs
  cor : wr.ownsRow (w.heap.size + 1) 100 2 (.slice (some ⟨gc, 0, none⟩) ps.length cc) ps.length (pc ps)
  gb : g < bb ∧ g < w.heap.size ∧ B ≤ g
section
variable {w wr w2 : World} {g B : Nat} {A : Option Addr} {n c p p' : Nat} {zs : List Int} {gc cc : Nat} {W T : Int} {A2 : Option Addr} {c2 : Nat} {bs : List Bool} {bb : Nat} {ps : List (Int × Bool)}
theorem PS.below (h : PS w wr g B A n c p zs gc cc W T A2 c2 bs bb ps) (hb : Below wr.heap.size wr w2) : PS w w2 g B A n c p zs gc cc W T A2 c2 bs bb ps :=
  ⟨h.rd.below hb h.rd.lt, h.gr.trans (only_of_below hb _), h.reg.below hb h.reg.lt, ⟨own_below h.own.1 hb (Nat.le_refl _), h.own.2⟩, own_below h.cor hb (Nat.le_refl _), h.gb⟩
theorem PS.pick (h : PS w wr g B A n c p zs gc cc W T A2 c2 bs bb ps) (hR : Rd w2 g B A n c p' zs) (hg : wr.grownBy w2 (some g)) : PS w w2 g B A n c p' zs gc cc W T A2 c2 bs bb ps := by
  obtain ⟨g1, g2, g3⟩ := h.gb
  exact ⟨hR, h.gr.trans hg, h.reg.grown hg (by simp; omega), h.own.step hg g1, own_step h.cor hg (by omega), h.gb⟩
theorem PS.app (h : PS w wr g B A n c p zs gc cc W T A2 c2 bs bb ps) {g' c' : Nat} {z : Int} {b : Bool} {o : Obj} (hown : w2.ownsRow (w.heap.size + 1) 100 2 (.slice (some ⟨g', 0, none⟩) (ps.length + 1) c') (ps.length + 1) (pc ps ++ [.int .i64 z, .bool b])) (hg : (wr.alloc o).grownBy w2 (some gc)) : PS w w2 g B A n c p zs g' c' W T A2 c2 bs bb (ps ++ [(z, b)]) := by
  obtain ⟨g1, g2, g3⟩ := h.gb
  have hb : w.heap.size + 1 ≤ gc ∧ gc < wr.heap.size := own_lt h.cor rfl
  have hne1 : w.heap.size ≠ gc := by omega
  have hgg : g ≠ gc := by omega
  refine ⟨(h.rd.alloc o).grown hg (by simpa using hgg) (fun k hk => by injection hk with hk; omega), (only_alloc h.gr o).andThen hg (fun j hj => by injection hj with hj; left; omega), (h.reg.alloc o).grown hg (by simpa using hne1), ⟨own_grown (h.own.1.alloc o) hg (own_far (h.own.1.alloc o) (h.cor.alloc o) (by decide)), h.own.2⟩, by rw [pc_app]; simpa using hown, h.gb⟩
end


end Go.Proofs.Ythepfpiphlfgnaa

/-
  YthepfpiphlfgnaaDl: drawing: what FnPushesValid and FnPushesBy draw.
-/
namespace Go.Proofs.Ythepfpiphlfgnaa
open Go.RowKit
attribute [local go_sem ↓] Go.wp_at_zero Go.wp_at_succ




end Go.Proofs.Ythepfpiphlfgnaa

/-
  YthepfpiphlfgnaaDr: drawing: what FnLowest, FnHighest, FnFlipLines, FnFlipsOf, FnPushedMany and FnHeightSum draw.
-/
namespace Go.Proofs.Ythepfpiphlfgnaa
open Go.RowKit
attribute [local go_sem ↓] Go.wp_at_zero Go.wp_at_succ

/-- A region. -/
def Drawn0 (w : World) (e : Ending) (w' : World) : Prop :=
  ∃ (W T : Int) (A2 : Option Addr) (c2 : Nat) (bs : List Bool), e = .returned (.agg #[.int .i64 W, .int .i64 T, .slice A2 bs.length c2]) ∧ RegAt w' w.heap.size (.slice A2 bs.length c2) bs ∧ Below w.heap.size w w'



set_option maxHeartbeats 4000000 in
set_option maxRecDepth 20000 in
theorem drawFlipLines_any (A : Option Addr) (n c : Nat) (zs : List Int) (w : World) (hr : Reads w w.heap.size 1 A n (zs.map (Value.int .u8))) (hnc : n ≤ c) (hn : n ≤ 1048576) (hwz : ∀ z ∈ zs, (Lit.int .u8 z).wf = true) :
    Calls Try.prog 50 #[.slice A n c] w (Drawn0 w) := by
  have hb0 : Below w.heap.size w (w.alloc (boxR 0 0 none 0 0)) := (Below.refl _ _).alloc (Nat.le_refl _) _
  have k0 : Blk (w.alloc (boxR 0 0 none 0 0)) w.heap.size 25 #[.int .i64 0, .int .i64 0, .slice none 0 0] := Blk.new _ _ _
  have hOP := hide (open_any A n c zs (w.alloc (boxR 0 0 none 0 0)) ((hr.alloc (Nat.le_refl _) _).more (by simp)) hnc hn hwz)
  go_enter Try.func50, Try.ntmps50
  go_wp2_with fail
  refine (unhide hOP).mono ?_
  rintro e w1 ⟨g, n', zs', rfl, h1, b1⟩
  have hgB := h1.out
  have hb01 : w.heap.size ≤ w1.heap.size := (hb0.trans (b1.mono (by simp))).size
  have hglt := h1.lt
  simp at hgB
  have k1 := k0.below b1 k0.lt
  have hB1 := hb0.trans (b1.mono (by simp))
  clear hOP k0 hb0 b1
  go_wp2_with fail
  refine (drawSmall_any g _ A n' c 0 zs' 9 _ h1 (by omega)).mono ?_
  rintro e w2 ⟨W, T, v, bs, rfl, hreg, p2, hp1, hp2, h2, g2⟩
  obtain ⟨A2, c2, rfl, _, _⟩ := own_form hreg.1
  have k2 := k1.grown g2 (by simp; omega)
  have hB2 := hB1.grown g2 hB1.size (fun k hk => by injection hk with hk; omega)
  obtain ⟨r0, r1, r2⟩ := blk3 k2
  have f0 := k2.frozen 0
  have f1 := k2.frozen 1
  have f2 := k2.frozen 2
  have o1 := ((hreg.mono hb01).far3' (u0 := .int .i64 W) (u1 := .int .i64 T) (u2 := .slice A2 bs.length c2) k2)
  have o4 := below3' (v0 := .int .i64 W) (v1 := .int .i64 T) (v2 := .slice A2 bs.length c2) hB2 (Nat.le_refl _)
  obtain ⟨q0, q1, q2⟩ := blk3 (set3' (v0 := .int .i64 W) (v1 := .int .i64 T) (v2 := .slice A2 bs.length c2) k2)
  clear h1 k1 hB1 hreg h2 g2 hB2
  go_wp2_with fail
  exact bodyPost_ret (v := .agg #[.int .i64 W, .int .i64 T, .slice A2 bs.length c2]) (by simp [results, Try.results50, go_sem, q0, q1, q2]) rfl ⟨W, T, A2, c2, bs, rfl, o1, o4⟩

set_option maxHeartbeats 4000000 in
set_option maxRecDepth 20000 in
theorem drawFlipsOf_any (A : Option Addr) (n c : Nat) (zs : List Int) (w : World) (hr : Reads w w.heap.size 1 A n (zs.map (Value.int .u8))) (hnc : n ≤ c) (hn : n ≤ 1048576) (hwz : ∀ z ∈ zs, (Lit.int .u8 z).wf = true) :
    Calls Try.prog 41 #[.slice A n c] w (Drawn1 w) := by
  have hb0 : Below w.heap.size w (w.alloc (boxR 0 0 none 0 0)) := (Below.refl _ _).alloc (Nat.le_refl _) _
  have k0 : Blk (w.alloc (boxR 0 0 none 0 0)) w.heap.size 25 #[.int .i64 0, .int .i64 0, .slice none 0 0] := Blk.new _ _ _
  have hOP := hide (open_any A n c zs (w.alloc (boxR 0 0 none 0 0)) ((hr.alloc (Nat.le_refl _) _).more (by simp)) hnc hn hwz)
  go_enter Try.func41, Try.ntmps41
  go_wp2_with fail
  refine (unhide hOP).mono ?_
  rintro e w1 ⟨g, n', zs', rfl, h1, b1⟩
  have hgB := h1.out
  have hb01 : w.heap.size ≤ w1.heap.size := (hb0.trans (b1.mono (by simp))).size
  have hglt := h1.lt
  simp at hgB
  have k1 := k0.below b1 k0.lt
  have hB1 := hb0.trans (b1.mono (by simp))
  clear hOP k0 hb0 b1
  go_wp2_with fail
  refine (drawLaid_any g _ A n' c 0 zs' 9 (by omega) _ h1 (by omega)).mono ?_
  rintro e w2 ⟨W, T, v, vl, bs, L, rfl, hreg, hli, hL, p2, hp1, hp2, h2, g2⟩
  obtain ⟨A2, c2, rfl, _, _⟩ := own_form hreg.1
  obtain ⟨D, d, d', rfl, hlo⟩ := id hli
  have k2 := k1.grown g2 (by simp; omega)
  have hB2 := hB1.grown g2 hB1.size (fun k hk => by injection hk with hk; omega)
  obtain ⟨r0, r1, r2⟩ := blk3 k2
  have f0 := k2.frozen 0
  have f1 := k2.frozen 1
  have f2 := k2.frozen 2
  have o1 := ((hreg.mono hb01).far3' (u0 := .int .i64 W) (u1 := .int .i64 T) (u2 := .slice A2 bs.length c2) k2)
  have o2 := ((hli.mono hb01).far3' (u0 := .int .i64 W) (u1 := .int .i64 T) (u2 := .slice A2 bs.length c2) k2)
  have o4 := below3' (v0 := .int .i64 W) (v1 := .int .i64 T) (v2 := .slice A2 bs.length c2) hB2 (Nat.le_refl _)
  obtain ⟨q0, q1, q2⟩ := blk3 (set3' (v0 := .int .i64 W) (v1 := .int .i64 T) (v2 := .slice A2 bs.length c2) k2)
  clear h1 k1 hB1 hreg h2 g2 hB2 hli hlo
  go_wp2_with fail
  exact bodyPost_ret (v := .tuple #[.agg #[.int .i64 W, .int .i64 T, .slice A2 bs.length c2], .slice D L.length d]) (by simp [results, Try.results41, go_sem, q0, q1, q2]) rfl ⟨W, T, A2, c2, D, d, bs, L, rfl, o1, o2, by omega, o4⟩

end Go.Proofs.Ythepfpiphlfgnaa

/-
  YthepfpiphlfgnaaDy: left out.
-/
namespace Go.Proofs.Ythepfpiphlfgnaa

end Go.Proofs.Ythepfpiphlfgnaa
