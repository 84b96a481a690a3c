/-
  YthepfpiphlfgnaaDv: the texts Da, Db, Dc, De, Df, Dg in one file.
-/
import Derived.Test.YthepfpiphlfgnaaD8
import Derived.Test.YthepfpiphlfgnaaFd3
import Derived.Test.YthepfpiphlfgnaaPv
import Derived.Test.YthepfpiphlfgnaaD9

/-
  YthepfpiphlfgnaaDa: drawing: a corner.
-/
namespace Go.Proofs.Ythepfpiphlfgnaa
open Go.RowKit
attribute [local go_sem ↓] Go.wp_at_zero Go.wp_at_succ



end Go.Proofs.Ythepfpiphlfgnaa

/-
  YthepfpiphlfgnaaDb: drawing: what FnFlipOne draws.
-/
namespace Go.Proofs.Ythepfpiphlfgnaa
open Go.RowKit
attribute [local go_sem ↓] Go.wp_at_zero Go.wp_at_succ

theorem LiAt.far3' {w : World} {b k : Nat} {vl : Value} {L : List Int} {cs : Array Value} {u0 u1 u2 : Value} (h : LiAt w b vl L) (hk : Blk w k 25 cs) : LiAt (((w.setCell ⟨k, 0, none⟩ u0).setCell ⟨k, 1, none⟩ u1).setCell ⟨k, 2, none⟩ u2) b vl L := by
  obtain ⟨A', c2, c3, e, ho⟩ := h
  have hne := own_blk_ne ho hk (by decide)
  exact ⟨A', c2, c3, e, ownsRow_setCell_other (ownsRow_setCell_other (ownsRow_setCell_other ho (a := ⟨k, 0, none⟩) hne u0) (a := ⟨k, 1, none⟩) hne u1) (a := ⟨k, 2, none⟩) hne u2⟩
theorem RegAt.far3' {w : World} {b k : Nat} {v : Value} {bs : List Bool} {cs : Array Value} {u0 u1 u2 : Value} (h : RegAt w b v bs) (hk : Blk w k 25 cs) : RegAt (((w.setCell ⟨k, 0, none⟩ u0).setCell ⟨k, 1, none⟩ u1).setCell ⟨k, 2, none⟩ u2) b v bs := by
  have hne := own_blk_ne h.1 hk (by decide)
  exact ⟨ownsRow_setCell_other (ownsRow_setCell_other (ownsRow_setCell_other h.1 (a := ⟨k, 0, none⟩) hne u0) (a := ⟨k, 1, none⟩) hne u1) (a := ⟨k, 2, none⟩) hne u2, h.2⟩
theorem below3' {w w' : World} {B k : Nat} {v0 v1 v2 : Value} (h : Below B w w') (hk : B ≤ k) : Below B w (((w'.setCell ⟨k, 0, none⟩ v0).setCell ⟨k, 1, none⟩ v1).setCell ⟨k, 2, none⟩ v2) :=
  ((h.setCell (p := ⟨k, 0, none⟩) hk v0).setCell (p := ⟨k, 1, none⟩) hk v1).setCell (p := ⟨k, 2, none⟩) hk v2
theorem set3' {w : World} {k : Nat} {u0 u1 u2 v0 v1 v2 : Value} {t : TypeId} (h : Blk w k t #[u0, u1, u2]) : Blk (((w.setCell ⟨k, 0, none⟩ v0).setCell ⟨k, 1, none⟩ v1).setCell ⟨k, 2, none⟩ v2) k t #[v0, v1, v2] := by
  have := ((h.set_ 0 v0).set_ 1 v1).set_ 2 v2
  simpa using this


end Go.Proofs.Ythepfpiphlfgnaa

/-
  YthepfpiphlfgnaaDc: drawing: a region and two lists of heights.
-/
namespace Go.Proofs.Ythepfpiphlfgnaa
open Go.RowKit
attribute [local go_sem ↓] Go.wp_at_zero Go.wp_at_succ

/-- A store into a list of a drawing: another list that lies higher is as it was. -/
theorem DR.store {w wr : World} {g B : Nat} {A : Option Addr} {n c p d : Nat} {zs : List Int} {x : Nat} {W T : Int} {v : Value} {bs : List Bool} {gl m c1 b2 : Nat} {L L2 : List Int} {v2 : Value} (h : DR w wr g B A n c p d zs x W T v bs) (hl : LiAt wr w.heap.size (.slice (some ⟨gl, 0, none⟩) m c1) L) (h2 : LiAt wr b2 v2 L2) (hb2 : gl < b2) (hw2 : w.heap.size ≤ b2) {q : Nat} (hq : q < m) (z : Int) :
    (∃ z0, wr.cell? ⟨gl, q, none⟩ = some (.int .i64 z0)) ∧ wr.frozen? ⟨gl, q, none⟩ = false ∧ DR w (wr.setCell ⟨gl, q, none⟩ (.int .i64 z)) g B A n c p d zs x W T v bs ∧ LiAt (wr.setCell ⟨gl, q, none⟩ (.int .i64 z)) w.heap.size (.slice (some ⟨gl, 0, none⟩) m c1) (L.set q z) ∧ LiAt (wr.setCell ⟨gl, q, none⟩ (.int .i64 z)) w.heap.size v2 L2 := by
  obtain ⟨A', c2, c3, e, ho⟩ := hl
  simp only [Value.slice.injEq] at e
  obtain ⟨rfl, rfl, rfl⟩ := e
  have hb := own_lt ho rfl
  have hne1 : gl ≠ w.heap.size := by have := own_blk_ne ho h.res (by decide); simpa [Value.ownBlock] using this
  have hne2 : gl ≠ x := by have := own_blk_ne ho h.reg (by decide); simpa [Value.ownBlock] using this
  have hne3 : v.ownBlock ≠ some gl := by
    rcases own_far h.own.1 ho (by decide) with h1 | h1
    · rw [h1]; simp
    · simpa [Value.ownBlock] using h1
  have hc := ho.cellAt q (by omega)
  refine ⟨?_, ho.frozenAt q, ⟨h.st.put h.glt (a := ⟨gl, q, none⟩) hb.1 _, h.glt, h.res.far (p := ⟨gl, q, none⟩) (Ne.symm hne1) _, h.reg.far (p := ⟨gl, q, none⟩) (Ne.symm hne2) _, ⟨ownsRow_setCell_other h.own.1 (a := ⟨gl, q, none⟩) hne3 _, h.own.2⟩, h.xlt⟩, ?_, ?_⟩
  · rw [List.getElem?_map, List.getElem?_eq_getElem hq] at hc
    exact ⟨_, by simpa using hc⟩
  · refine ⟨some ⟨gl, 0, none⟩, c1, c3, by rw [List.length_set], ?_⟩
    rw [List.length_set, List.map_set]
    exact (ho.stored q _).1
  · obtain ⟨A4, c4, c5, e, ho2⟩ := h2
    refine ⟨A4, c4, c5, e, ownsRow_setCell_other (own_mono ho2 hw2) (a := ⟨gl, q, none⟩) ?_ _⟩
    intro hbk
    have := own_lt ho2 hbk
    simp at this
    omega


end Go.Proofs.Ythepfpiphlfgnaa

/-
  YthepfpiphlfgnaaDe: drawing: what the laws on heights and on the order draw.
-/
namespace Go.Proofs.Ythepfpiphlfgnaa
open Go.RowKit
attribute [local go_sem ↓] Go.wp_at_zero Go.wp_at_succ

/-- A region and a list. -/
def Drawn1 (w : World) (e : Ending) (w' : World) : Prop :=
  ∃ (W T : Int) (A2 : Option Addr) (c2 : Nat) (Da : Option Addr) (da : Nat) (bs : List Bool) (La : List Int), e = .returned (.tuple #[.agg #[.int .i64 W, .int .i64 T, .slice A2 bs.length c2], .slice Da La.length da]) ∧ RegAt w' w.heap.size (.slice A2 bs.length c2) bs ∧ LiAt w' w.heap.size (.slice Da La.length da) La ∧ La.length ≤ 99 ∧ Below w.heap.size w w'













end Go.Proofs.Ythepfpiphlfgnaa

/-
  YthepfpiphlfgnaaDf: left out.
-/
namespace Go.Proofs.Ythepfpiphlfgnaa

end Go.Proofs.Ythepfpiphlfgnaa

/-
  YthepfpiphlfgnaaDg: left out.
-/
namespace Go.Proofs.Ythepfpiphlfgnaa

end Go.Proofs.Ythepfpiphlfgnaa
