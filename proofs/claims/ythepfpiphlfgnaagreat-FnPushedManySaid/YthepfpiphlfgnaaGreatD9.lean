/-
  YthepfpiphlfgnaaGreatD9: drawing: a region and two tilings of it.
-/
import Derived.Test.YthepfpiphlfgnaaGreatD8
import Derived.Test.YthepfpiphlfgnaaGreatR4
namespace Go.Proofs.YthepfpiphlfgnaaGreat
open Go.RowKit
attribute [local go_sem ↓] Go.wp_at_zero Go.wp_at_succ

theorem DrawnR.form {w w0 : World} {g B : Nat} {A : Option Addr} {n c p p' d d2 : Nat} {zs : List Int} {e : Ending} {w' : World} (h : DrawnR w g B A n c p' d2 zs e w') (hw : w0.grownBy w (some g)) (hp : p ≤ p' ∧ p' + d2 ≤ p + d) :
    ∃ (W T : Int) (A2 : Option Addr) (c2 : Nat) (bs : List Bool), e = .returned (.agg #[.int .i64 W, .int .i64 T, .slice A2 bs.length c2]) ∧ RegAt w' w0.heap.size (.slice A2 bs.length c2) bs ∧ Stepped w0 g B A n c p d zs w' := by
  obtain ⟨W, T, v, bs, rfl, hreg, hst⟩ := h.more hw hp
  obtain ⟨A2, c2, rfl, _, _⟩ := own_form hreg.1
  exact ⟨W, T, A2, c2, bs, rfl, hreg, hst⟩
/-- The region's block written anew. -/
theorem DR.renew {w wr : World} {g B : Nat} {A : Option Addr} {n c p d : Nat} {zs : List Int} {x : Nat} {u0 u1 u2 : Value} {W T : Int} {v : Value} {bs : List Bool} (hst : Stepped w g B A n c p d zs wr) (hglt : g < w.heap.size) (hx : w.heap.size < x)
    (hres : Blk wr w.heap.size 25 #[.int .i64 0, .int .i64 0, .slice none 0 0]) (hrx : Blk wr x 25 #[u0, u1, u2]) (hreg : RegAt wr w.heap.size v bs) :
    DR w (((wr.setCell ⟨x, 0, none⟩ (.int .i64 W)).setCell ⟨x, 1, none⟩ (.int .i64 T)).setCell ⟨x, 2, none⟩ v) g B A n c p d zs x W T v bs :=
  ⟨((hst.put hglt (a := ⟨x, 0, none⟩) (Nat.le_of_lt hx) _).put hglt (a := ⟨x, 1, none⟩) (Nat.le_of_lt hx) _).put hglt (a := ⟨x, 2, none⟩) (Nat.le_of_lt hx) _, hglt, far3 hres (by omega), set3 hrx, ⟨own3 hreg.1 (own_blk_ne hreg.1 hrx (by decide)), hreg.2⟩, hx⟩
theorem LiAt.far3 {w : World} {b k : Nat} {vl : Value} {L : List Int} {cs : Array Value} {u0 u1 u2 : Value} (h : LiAt w b vl L) (hk : Blk w k 25 cs) : LiAt (((w.setCell ⟨k, 0, none⟩ u0).setCell ⟨k, 1, none⟩ u1).setCell ⟨k, 2, none⟩ u2) b vl L := by
  obtain ⟨A', c2, c3, e, ho⟩ := h
  exact ⟨A', c2, c3, e, own3 ho (own_blk_ne ho hk (by decide))⟩


end Go.Proofs.YthepfpiphlfgnaaGreat
