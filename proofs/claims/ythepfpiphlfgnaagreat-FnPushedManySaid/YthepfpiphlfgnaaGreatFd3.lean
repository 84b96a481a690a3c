/-
  YthepfpiphlfgnaaGreatFd3: the texts Fk, Fd, Fw, Fx in one file.
-/
import Derived.Test.YthepfpiphlfgnaaGreatFm
import Derived.Test.YthepfpiphlfgnaaGreatFrz
import Derived.Test.YthepfpiphlfgnaaGreatPv

/-
  YthepfpiphlfgnaaGreatFk: FlipsOf, DownOf and UpOf of the reference.
-/
namespace Go.Proofs.YthepfpiphlfgnaaGreat
open Go.RowKit


/-- A box and one growing row, for any region. -/
structure AW (w wr : World) (W T : Int) (A : Option Addr) (n c g k : Nat) (L : List Int) : Prop where
  bel : Below w.heap.size w wr
  box : Blk wr w.heap.size 25 #[.int .i64 W, .int .i64 T, .slice A n c]
  own : wr.ownsRow (w.heap.size + 1) 3 1 (.slice (some ⟨g, 0, none⟩) L.length k) L.length (L.map (Value.int .i64))
section
variable {w wr w2 : World} {W T : Int} {A : Option Addr} {n c g k g' k' : Nat} {L : List Int}
theorem AW.lt (h : AW w wr W T A n c g k L) : w.heap.size < g ∧ g < wr.heap.size := by
  have := h.own.lt g rfl; exact ⟨by omega, this.2⟩
theorem AW.below (h : AW w wr W T A n c g k L) (hb : Below wr.heap.size wr w2) : AW w w2 W T A n c g k L :=
  ⟨h.bel.trans (hb.mono h.bel.size), h.box.below hb h.box.lt, own_below h.own hb (Nat.le_refl _)⟩
theorem AW.app {x : Int} {o : Obj} (h : AW w wr W T A n c g k L)
    (ho : w2.ownsRow (w.heap.size + 1) 3 1 (.slice (some ⟨g', 0, none⟩) (L.length + 1) k') (L.length + 1) (L.map (Value.int .i64) ++ [.int .i64 x])) (hg : (wr.alloc o).grownBy w2 (Value.slice (some ⟨g, 0, none⟩) L.length k).ownBlock) : AW w w2 W T A n c g' k' (L ++ [x]) := by
  have hlt := h.lt
  refine ⟨(h.bel.alloc h.bel.size o).grown hg (by have := h.bel.size; simp; omega) (fun j hj => by simp [Value.ownBlock] at hj; omega), (h.box.alloc o).grown hg (by simp [Value.ownBlock]; omega), ?_⟩
  rw [List.length_append, List.map_append]; exact ho
theorem AW.cells (h : AW w wr W T A n c g k L) : wr.cell? ⟨w.heap.size, 0, none⟩ = some (.int .i64 W) ∧ wr.cell? ⟨w.heap.size, 1, none⟩ = some (.int .i64 T) ∧ wr.cell? ⟨w.heap.size, 2, none⟩ = some (.slice A n c) := blk3 h.box
theorem AW.start (w : World) (W T : Int) (A : Option Addr) (n c : Nat) : AW w ((w.alloc (boxR W T A n c)).alloc (.cells #[] 3)) W T A n c (w.heap.size + 1) 0 [] := by
  refine ⟨((Below.refl _ _).alloc (Nat.le_refl _) _).alloc (by simp) _, (Blk.new _ _ _).alloc _, ?_⟩
  have := World.ownsRow_made (base := w.heap.size + 1) (e := 3) (size := 1) (w.alloc (boxR W T A n c)) #[] 0 (by simp) (by simp [maxLen]) (by simp)
  simpa using this
end







end Go.Proofs.YthepfpiphlfgnaaGreat

/-
  YthepfpiphlfgnaaGreatFd: DownAll of the program and of the reference.
-/
namespace Go.Proofs.YthepfpiphlfgnaaGreat
open Go.RowKit


/-- A box and the list that is gone on with. -/
structure DA (w wr : World) (R : Reg) (A : Option Addr) (c g c' : Nat) (M : List Int) : Prop where
  bel : Below w.heap.size w wr
  box : Blk wr w.heap.size 25 #[.int .i64 R.W, .int .i64 R.T, .slice A R.C.length c]
  own : wr.ownsRow w.heap.size 3 1 (.slice (some ⟨g, 0, none⟩) R.C.length c') R.C.length (M.map (Value.int .i64))
theorem DA.below {w wr w2 : World} {R : Reg} {A : Option Addr} {c g c' : Nat} {M : List Int} (H : DA w wr R A c g c' M) (hb : Below wr.heap.size wr w2) : DA w w2 R A c g c' M :=
  ⟨H.bel.trans (hb.mono H.bel.size), H.box.below hb H.box.lt, own_below H.own hb (Nat.le_refl _)⟩



end Go.Proofs.YthepfpiphlfgnaaGreat

/-
  YthepfpiphlfgnaaGreatFw: FlipWay of the program.
-/
namespace Go.Proofs.YthepfpiphlfgnaaGreat
open Go.RowKit


end Go.Proofs.YthepfpiphlfgnaaGreat

/-
  YthepfpiphlfgnaaGreatFx: FlipWay of the program: the walk.
-/
namespace Go.Proofs.YthepfpiphlfgnaaGreat
open Go.RowKit

/-- Where the program stands: boxes of the region, of the goal's heights and of the tiling now; the rows; the flips so far. -/
structure WY (w wr : World) (R : Reg) (A : Option Addr) (c qg gg cg cg' q g c' c2 : Nat) (G M : List Int) (v : Value) (l : List Int) : Prop where
  bel : Below w.heap.size w wr
  box : Blk wr w.heap.size 25 #[.int .i64 R.W, .int .i64 R.T, .slice A R.C.length c]
  gbx : Blk wr qg 42 #[.slice (some ⟨gg, 0, none⟩) R.cn cg]
  gow : wr.ownsRow w.heap.size 3 1 (.slice (some ⟨gg, 0, none⟩) R.cn cg') R.cn (G.map (Value.int .i64))
  nbx : Blk wr q 42 #[.slice (some ⟨g, 0, none⟩) R.C.length c2]
  now : wr.ownsRow w.heap.size 3 1 (.slice (some ⟨g, 0, none⟩) R.C.length c') R.C.length (M.map (Value.int .i64))
  out : wr.ownsRow w.heap.size 3 1 v l.length (l.map (Value.int .i64))
  n1 : v.ownBlock ≠ some gg
  n2 : v.ownBlock ≠ some g
  hq : qg ≠ q
  hqw : w.heap.size < q
theorem WY.below {w wr w2 : World} {R : Reg} {A : Option Addr} {c qg gg cg cg' q g c' c2 : Nat} {G M : List Int} {v : Value} {l : List Int} (H : WY w wr R A c qg gg cg cg' q g c' c2 G M v l) (hb : Below wr.heap.size wr w2) : WY w w2 R A c qg gg cg cg' q g c' c2 G M v l :=
  ⟨H.bel.trans (hb.mono H.bel.size), H.box.below hb H.box.lt, H.gbx.below hb H.gbx.lt, own_below H.gow hb (Nat.le_refl _), H.nbx.below hb H.nbx.lt, own_below H.now hb (Nat.le_refl _), own_below H.out hb (Nat.le_refl _), H.n1, H.n2, H.hq, H.hqw⟩
/-- Behind an append to the flips. -/
theorem WY.app {w wr w2 : World} {R : Reg} {A : Option Addr} {c qg gg cg cg' q g c' c2 : Nat} {G M : List Int} {v v' : Value} {l : List Int} {x : Int} {o : Obj} (H : WY w wr R A c qg gg cg cg' q g c' c2 G M v l)
    (ho : w2.ownsRow w.heap.size 3 1 v' (l.length + 1) (l.map (Value.int .i64) ++ [.int .i64 x])) (hg : (wr.alloc o).grownBy w2 v.ownBlock) (hv : v'.ownBlock = v.ownBlock ∨ v'.ownBlock = some (wr.alloc o).heap.size) : WY w w2 R A c qg gg cg cg' q g c' c2 G M v' (l ++ [x]) := by
  have hge : ∀ j, v.ownBlock = some j → w.heap.size ≤ j := fun j h => own_block_ge H.out h
  have hgg := H.gow.lt gg rfl
  have hgn := H.now.lt g rfl
  have hvt : ∀ (j : Nat) (cs : Array Value) (t : TypeId), t ≠ 3 → Blk wr j t cs → some j ≠ v.ownBlock := fun j cs t hne hb h => own_blk_ne H.out hb (Ne.symm hne) h.symm
  refine ⟨(H.bel.alloc H.bel.size o).grown hg (by have := H.bel.size; simp; omega) hge, (H.box.alloc o).grown hg (hvt _ _ _ (by decide) H.box), (H.gbx.alloc o).grown hg (hvt _ _ _ (by decide) H.gbx), own_grown (H.gow.alloc o) hg (.inr (Ne.symm H.n1)), (H.nbx.alloc o).grown hg (hvt _ _ _ (by decide) H.nbx), own_grown (H.now.alloc o) hg (.inr (Ne.symm H.n2)), by rw [List.length_append, List.map_append]; exact ho, ?_, ?_, H.hq, H.hqw⟩
  · rcases hv with h | h
    · rw [h]; exact H.n1
    · rw [h]; simp; omega
  · rcases hv with h | h
    · rw [h]; exact H.n2
    · rw [h]; simp; omega



end Go.Proofs.YthepfpiphlfgnaaGreat
