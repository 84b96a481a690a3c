/-
  YthepfpiphlfgnaaGreatTi: the program's tiled and HeightsOf.
-/
import Derived.Test.YthepfpiphlfgnaaGreatH3
import Derived.Test.YthepfpiphlfgnaaGreatHI
namespace Go.Proofs.YthepfpiphlfgnaaGreat
open Go.RowKit

/-- A fresh row of numbers. -/
def OwnInts (w : World) (L : List Int) (e : Ending) (w' : World) : Prop :=
  ∃ A c, e = .returned (.slice A L.length c) ∧ L.length ≤ c ∧ w'.ownsRow w.heap.size 3 1 (.slice A L.length c) L.length (L.map (Value.int .i64)) ∧ Below w.heap.size w w'

abbrev boxR (W T : Int) (A : Option Addr) (n c : Nat) : Obj := .cells #[.int .i64 W, .int .i64 T, .slice A n c] 25

theorem box_keep {w w1 : World} {W T : Int} {A : Option Addr} {n c : Nat} (hb : Below (w.alloc (boxR W T A n c)).heap.size (w.alloc (boxR W T A n c)) w1) :
    Below w.heap.size w w1 ∧ Blk w1 w.heap.size 25 #[.int .i64 W, .int .i64 T, .slice A n c] ∧ w1.cell? ⟨w.heap.size, 0, none⟩ = some (.int .i64 W) ∧ w1.cell? ⟨w.heap.size, 1, none⟩ = some (.int .i64 T) ∧ w1.cell? ⟨w.heap.size, 2, none⟩ = some (.slice A n c) := by
  have hk : Blk w1 w.heap.size 25 #[.int .i64 W, .int .i64 T, .slice A n c] := (Blk.new w _ _).below hb (by simp)
  have b0 := hk.cell 0
  have b1 := hk.cell 1
  have b2 := hk.cell 2
  simp at b0 b1 b2
  exact ⟨((Below.refl w.heap.size w).alloc (Nat.le_refl _) _).trans (hb.mono (by simp)), hk, b0, b1, b2⟩
theorem blk_keep {w1 w2 : World} {g : Nat} {W T : Int} {A : Option Addr} {n c : Nat} (hk : Blk w1 g 25 #[.int .i64 W, .int .i64 T, .slice A n c]) (hb : Below w1.heap.size w1 w2) :
    Blk w2 g 25 #[.int .i64 W, .int .i64 T, .slice A n c] ∧ w2.cell? ⟨g, 0, none⟩ = some (.int .i64 W) ∧ w2.cell? ⟨g, 1, none⟩ = some (.int .i64 T) ∧ w2.cell? ⟨g, 2, none⟩ = some (.slice A n c) := by
  have hk := hk.below hb hk.lt
  have b0 := hk.cell 0
  have b1 := hk.cell 1
  have b2 := hk.cell 2
  simp at b0 b1 b2
  exact ⟨hk, b0, b1, b2⟩




end Go.Proofs.YthepfpiphlfgnaaGreat
