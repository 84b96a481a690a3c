/-
  YtpeifojfpkkcpaaGreatFk: FlipsOf, DownOf and UpOf of the reference.
-/
import Derived.Test.YtpeifojfpkkcpaaGreatFm
import Derived.Test.YtpeifojfpkkcpaaGreatFq
import Derived.Test.YtpeifojfpkkcpaaGreatPv
namespace Go.Proofs.YtpeifojfpkkcpaaGreat
open Go.RowKit


/-- A box and one growing row, for any region. -/
structure AW (w wr : World) (W T : Int) (A : Option Addr) (n c g k : Nat) (L : List Int) : Prop where
  bel : Below w.heap.size w wr
  box : Blk wr w.heap.size 25 #[.int .i64 W, .int .i64 T, .slice A n c]
  own : wr.ownsRow (w.heap.size + 1) 3 1 (.slice (some ⟨g, 0, none⟩) L.length k) L.length (L.map (Value.int .i64))
section
variable {w wr w2 : World} {W T : Int} {A : Option Addr} {n c g k g' k' : Nat} {L : List Int}
theorem AW.lt (h : AW w wr W T A n c g k L) : w.heap.size < g ∧ g < wr.heap.size := by
  have := h.own.lt g rfl; exact ⟨by omega, this.2⟩
theorem AW.below (h : AW w wr W T A n c g k L) (hb : Below wr.heap.size wr w2) : AW w w2 W T A n c g k L :=
  ⟨h.bel.trans (hb.mono h.bel.size), h.box.below hb h.box.lt, own_below h.own hb (Nat.le_refl _)⟩
theorem AW.app {x : Int} {o : Obj} (h : AW w wr W T A n c g k L)
    (ho : w2.ownsRow (w.heap.size + 1) 3 1 (.slice (some ⟨g', 0, none⟩) (L.length + 1) k') (L.length + 1) (L.map (Value.int .i64) ++ [.int .i64 x])) (hg : (wr.alloc o).grownBy w2 (Value.slice (some ⟨g, 0, none⟩) L.length k).ownBlock) : AW w w2 W T A n c g' k' (L ++ [x]) := by
  have hlt := h.lt
  refine ⟨(h.bel.alloc h.bel.size o).grown hg (by have := h.bel.size; simp; omega) (fun j hj => by simp [Value.ownBlock] at hj; omega), (h.box.alloc o).grown hg (by simp [Value.ownBlock]; omega), ?_⟩
  rw [List.length_append, List.map_append]; exact ho
theorem AW.cells (h : AW w wr W T A n c g k L) : wr.cell? ⟨w.heap.size, 0, none⟩ = some (.int .i64 W) ∧ wr.cell? ⟨w.heap.size, 1, none⟩ = some (.int .i64 T) ∧ wr.cell? ⟨w.heap.size, 2, none⟩ = some (.slice A n c) := blk3 h.box
theorem AW.start (w : World) (W T : Int) (A : Option Addr) (n c : Nat) : AW w ((w.alloc (boxR W T A n c)).alloc (.cells #[] 3)) W T A n c (w.heap.size + 1) 0 [] := by
  refine ⟨((Below.refl _ _).alloc (Nat.le_refl _) _).alloc (by simp) _, (Blk.new _ _ _).alloc _, ?_⟩
  have := World.ownsRow_made (base := w.heap.size + 1) (e := 3) (size := 1) (w.alloc (boxR W T A n c)) #[] 0 (by simp) (by simp [maxLen]) (by simp)
  simpa using this
end







end Go.Proofs.YtpeifojfpkkcpaaGreat
