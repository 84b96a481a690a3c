/-
  YthepfpiphlfgnaaGreatDv: the texts Da, Db, Dc, De, Df, Dg in one file.
-/
import Derived.Test.YthepfpiphlfgnaaGreatD8
import Derived.Test.YthepfpiphlfgnaaGreatFd3
import Derived.Test.YthepfpiphlfgnaaGreatPv

/-
  YthepfpiphlfgnaaGreatDa: drawing: a corner.
-/
namespace Go.Proofs.YthepfpiphlfgnaaGreat
open Go.RowKit
attribute [local go_sem ↓] Go.wp_at_zero Go.wp_at_succ



end Go.Proofs.YthepfpiphlfgnaaGreat

/-
  YthepfpiphlfgnaaGreatDb: drawing: what FnFlipOne draws.
-/
namespace Go.Proofs.YthepfpiphlfgnaaGreat
open Go.RowKit
attribute [local go_sem ↓] Go.wp_at_zero Go.wp_at_succ

theorem LiAt.far3' {w : World} {b k : Nat} {vl : Value} {L : List Int} {cs : Array Value} {u0 u1 u2 : Value} (h : LiAt w b vl L) (hk : Blk w k 25 cs) : LiAt (((w.setCell ⟨k, 0, none⟩ u0).setCell ⟨k, 1, none⟩ u1).setCell ⟨k, 2, none⟩ u2) b vl L := by
  obtain ⟨A', c2, c3, e, ho⟩ := h
  have hne := own_blk_ne ho hk (by decide)
  exact ⟨A', c2, c3, e, ownsRow_setCell_other (ownsRow_setCell_other (ownsRow_setCell_other ho (a := ⟨k, 0, none⟩) hne u0) (a := ⟨k, 1, none⟩) hne u1) (a := ⟨k, 2, none⟩) hne u2⟩
theorem RegAt.far3' {w : World} {b k : Nat} {v : Value} {bs : List Bool} {cs : Array Value} {u0 u1 u2 : Value} (h : RegAt w b v bs) (hk : Blk w k 25 cs) : RegAt (((w.setCell ⟨k, 0, none⟩ u0).setCell ⟨k, 1, none⟩ u1).setCell ⟨k, 2, none⟩ u2) b v bs := by
  have hne := own_blk_ne h.1 hk (by decide)
  exact ⟨ownsRow_setCell_other (ownsRow_setCell_other (ownsRow_setCell_other h.1 (a := ⟨k, 0, none⟩) hne u0) (a := ⟨k, 1, none⟩) hne u1) (a := ⟨k, 2, none⟩) hne u2, h.2⟩
theorem below3' {w w' : World} {B k : Nat} {v0 v1 v2 : Value} (h : Below B w w') (hk : B ≤ k) : Below B w (((w'.setCell ⟨k, 0, none⟩ v0).setCell ⟨k, 1, none⟩ v1).setCell ⟨k, 2, none⟩ v2) :=
  ((h.setCell (p := ⟨k, 0, none⟩) hk v0).setCell (p := ⟨k, 1, none⟩) hk v1).setCell (p := ⟨k, 2, none⟩) hk v2
theorem set3' {w : World} {k : Nat} {u0 u1 u2 v0 v1 v2 : Value} {t : TypeId} (h : Blk w k t #[u0, u1, u2]) : Blk (((w.setCell ⟨k, 0, none⟩ v0).setCell ⟨k, 1, none⟩ v1).setCell ⟨k, 2, none⟩ v2) k t #[v0, v1, v2] := by
  have := ((h.set_ 0 v0).set_ 1 v1).set_ 2 v2
  simpa using this


end Go.Proofs.YthepfpiphlfgnaaGreat

/-
  YthepfpiphlfgnaaGreatDc: left out.
-/
namespace Go.Proofs.YthepfpiphlfgnaaGreat

end Go.Proofs.YthepfpiphlfgnaaGreat

/-
  YthepfpiphlfgnaaGreatDe: left out.
-/
namespace Go.Proofs.YthepfpiphlfgnaaGreat

end Go.Proofs.YthepfpiphlfgnaaGreat

/-
  YthepfpiphlfgnaaGreatDf: left out.
-/
namespace Go.Proofs.YthepfpiphlfgnaaGreat

end Go.Proofs.YthepfpiphlfgnaaGreat

/-
  YthepfpiphlfgnaaGreatDg: left out.
-/
namespace Go.Proofs.YthepfpiphlfgnaaGreat

end Go.Proofs.YthepfpiphlfgnaaGreat
