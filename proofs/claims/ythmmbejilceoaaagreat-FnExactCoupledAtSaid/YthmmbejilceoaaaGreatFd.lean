/-
  YthmmbejilceoaaaGreatFd: DownAll of the program and of the reference.
-/
import Derived.Test.YthmmbejilceoaaaGreatFm
import Derived.Test.YthmmbejilceoaaaGreatFk
namespace Go.Proofs.YthmmbejilceoaaaGreat
open Go.RowKit

/-- A fresh row of numbers, and a number. -/
def RetII (w : World) (L : List Int) (b : Int) (e : Ending) (w' : World) : Prop :=
  ∃ A c c', e = .returned (.tuple #[.slice A L.length c', .int .i64 b]) ∧ w'.ownsRow w.heap.size 3 1 (.slice A L.length c) L.length (L.map (Value.int .i64)) ∧ Below w.heap.size w w'
theorem daV_len {W T : Int} {bs : List Bool} {L : List Int} : (daV W T bs L).length ≤ 36 := by
  cases h : tiledB W T bs L with
  | false => rw [(da_no h).1]; simp
  | true =>
    obtain ⟨R, hR, rfl, rfl, rfl, _, hL, hF⟩ := tiled_cases h
    rw [(da_yes h).1, (tile_dnIt hR ⟨hL, hF⟩ _).1.len]
    exact (len_bd hR).2

/-- A box and the list that is gone on with. -/
structure DA (w wr : World) (R : Reg) (A : Option Addr) (c g c' : Nat) (M : List Int) : Prop where
  bel : Below w.heap.size w wr
  box : Blk wr w.heap.size 29 #[.int .i64 R.W, .int .i64 R.T, .slice A R.C.length c]
  own : wr.ownsRow w.heap.size 3 1 (.slice (some ⟨g, 0, none⟩) R.C.length c') R.C.length (M.map (Value.int .i64))
theorem DA.below {w wr w2 : World} {R : Reg} {A : Option Addr} {c g c' : Nat} {M : List Int} (H : DA w wr R A c g c' M) (hb : Below wr.heap.size wr w2) : DA w w2 R A c g c' M :=
  ⟨H.bel.trans (hb.mono H.bel.size), H.box.below hb H.box.lt, own_below H.own hb (Nat.le_refl _)⟩

end Go.Proofs.YthmmbejilceoaaaGreat
