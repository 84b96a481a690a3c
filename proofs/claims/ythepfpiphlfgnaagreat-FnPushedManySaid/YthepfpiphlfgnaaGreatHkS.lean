/-
  YthepfpiphlfgnaaGreatHkS: the reference's HeightsOk.
-/
import Derived.Test.YthepfpiphlfgnaaGreatHki
namespace Go.Proofs.YthepfpiphlfgnaaGreat
open Go.RowKit


structure BoW (w wr : World) (R : Reg) (A : Option Addr) (c g : Nat) (O : List Bool) : Prop where
  bel : Below w.heap.size w wr
  box : Blk wr w.heap.size 25 #[.int .i64 R.W, .int .i64 R.T, .slice A R.C.length c]
  out : wr.ownsRow (w.heap.size + 1) 4 1 (.slice (some ⟨g, 0, none⟩) R.cn R.cn) R.cn (O.map Value.bool)
section
variable {w wr w2 : World} {R : Reg} {A : Option Addr} {c g : Nat} {O : List Bool}
theorem BoW.below (H : BoW w wr R A c g O) (hb : Below wr.heap.size wr w2) : BoW w w2 R A c g O :=
  ⟨H.bel.trans (hb.mono H.bel.size), H.box.below hb H.box.lt, own_below H.out hb (Nat.le_refl _)⟩
theorem BoW.glt (H : BoW w wr R A c g O) : w.heap.size < g ∧ g < wr.heap.size := by have := H.out.lt g rfl; omega
theorem BoW.set (H : BoW w wr R A c g O) (j : Nat) (v : Bool) : BoW w (wr.setCell ⟨g, j, none⟩ (.bool v)) R A c g (O.set j v) := by
  have hg := H.glt
  refine ⟨H.bel.setCell (by simp; omega) _, H.box.far (p := ⟨g, j, none⟩) (by simp; omega) _, ?_⟩
  have := (H.out.stored j (.bool v)).1
  rwa [← List.map_set] at this
theorem BoW.cells (H : BoW w wr R A c g O) : wr.cell? ⟨w.heap.size, 0, none⟩ = some (.int .i64 R.W) ∧ wr.cell? ⟨w.heap.size, 1, none⟩ = some (.int .i64 R.T) ∧ wr.cell? ⟨w.heap.size, 2, none⟩ = some (.slice A R.C.length c) := by
  have r0 := H.box.cell 0
  have r1 := H.box.cell 1
  have r2 := H.box.cell 2
  simp at r0 r1 r2
  exact ⟨r0, r1, r2⟩
theorem BoW.ocell (H : BoW w wr R A c g O) {j : Nat} (hj : j < R.cn) : wr.cell? ⟨g, j, none⟩ = some (.bool (O.getD j false)) := by
  have hl : O.length = R.cn := by have := H.out.1; simpa using this
  rw [H.out.cellAt j (by omega), List.getElem?_map, List.getD_eq_getElem?_getD, List.getElem?_eq_getElem (by omega)]; rfl
end




end Go.Proofs.YthepfpiphlfgnaaGreat
