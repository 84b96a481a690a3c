/-
  YtpeifojfpkkcpaaPB: PushesBy: pushes from a seed on, program and reference.
-/
import Derived.Test.YtpeifojfpkkcpaaPv
import Derived.Test.YtpeifojfpkkcpaaTi
import Derived.Test.YtpeifojfpkkcpaaHS
import Derived.Test.YtpeifojfpkkcpaaSeed
namespace Go.Proofs.Ytpeifojfpkkcpaa
open Go.RowKit






structure PsW (w wr : World) (W T : Int) (A : Option Addr) (n c : Nat) (v : Value) (l : List (Int × Bool)) : Prop where
  own : wr.ownsRow (w.heap.size + 1) 40 2 v l.length (pc l)
  box : Blk wr w.heap.size 25 #[.int .i64 W, .int .i64 T, .slice A n c]
  bel : Below w.heap.size w wr
theorem pc_snoc (l : List (Int × Bool)) (p : Int × Bool) : pc (l ++ [p]) = pc l ++ [.int .i64 p.1, .bool p.2] := by simp [pc]
section
variable {w wr w2 : World} {W T : Int} {A : Option Addr} {n c : Nat} {v : Value} {l : List (Int × Bool)}
theorem PsW.below (H : PsW w wr W T A n c v l) (hb : Below wr.heap.size wr w2) : PsW w w2 W T A n c v l :=
  ⟨own_below H.own hb (Nat.le_refl _), H.box.below hb H.box.lt, H.bel.trans (hb.mono H.bel.size)⟩
theorem PsW.app {o : Obj} {v' : Value} {p : Int × Bool} (H : PsW w wr W T A n c v l) (ho : w2.ownsRow (w.heap.size + 1) 40 2 v' (l.length + 1) (pc l ++ [.int .i64 p.1, .bool p.2])) (hg : (wr.alloc o).grownBy w2 v.ownBlock) : PsW w w2 W T A n c v' (l ++ [p]) := by
  refine ⟨?_, (H.box.alloc o).grown hg (fun e => by have := own_block_ge H.own e.symm; omega), (H.bel.alloc H.bel.size o).grown hg (by have := H.bel.size; simp; omega) (fun g e => by have := own_block_ge H.own e; omega)⟩
  rw [List.length_append, List.length_singleton, pc_snoc]
  exact ho
theorem PsW.cells (H : PsW w wr W T A n c v l) : wr.cell? ⟨w.heap.size, 0, none⟩ = some (.int .i64 W) ∧ wr.cell? ⟨w.heap.size, 1, none⟩ = some (.int .i64 T) ∧ wr.cell? ⟨w.heap.size, 2, none⟩ = some (.slice A n c) := by
  have r0 := H.box.cell 0
  have r1 := H.box.cell 1
  have r2 := H.box.cell 2
  simp at r0 r1 r2
  exact ⟨r0, r1, r2⟩
end




end Go.Proofs.Ytpeifojfpkkcpaa
