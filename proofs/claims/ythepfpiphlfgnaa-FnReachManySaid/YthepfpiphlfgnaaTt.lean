/-
  YthepfpiphlfgnaaTt: the texts Tb, Tc, Te, Tf, Tg, Th in one file.
-/
import Derived.Test.YthepfpiphlfgnaaTa
import Derived.Test.YthepfpiphlfgnaaFm
import Derived.Test.YthepfpiphlfgnaaTd
import Derived.Test.YthepfpiphlfgnaaPv
import Derived.Test.YthepfpiphlfgnaaLz

/-
  YthepfpiphlfgnaaTb: all tilings of the program: the function that collects them, and the search.
-/
namespace Go.Proofs.Ythepfpiphlfgnaa
open Go.RowKit

theorem info_ints : (Try.prog.info? 26).map (fun i => (i.zero, i.size, i.bytes)) = some (some (.slice none 0 0), 1, 24) := by kernel_rfl

theorem Fr.app {q : Nat} {v v' : Value} {w w' : World} {o : Obj} (hg : (w.alloc o).grownBy w' v.ownBlock) (hn : v'.ownBlock = v.ownBlock ∨ v'.ownBlock = some (w.alloc o).heap.size) (u : Value) : Fr q v v' w (w'.setCell ⟨q, 0, none⟩ u) := by
  refine ⟨hg.os, hg.tape, hg.output, ?_, fun k hk h1 h2 => ?_, fun k hk => ?_⟩
  · have := hg.size; simp [World.setCell] at this ⊢; omega
  · rw [Below.heap_setCell _ _ _ _ (by simpa using h1), hg.block k (by simp; omega) h2, Below.heap_alloc _ _ _ hk]
  · rcases hn with h | h
    · exact .inl (by rw [← h]; exact hk)
    · rw [h] at hk
      right
      simp at hk
      omega



/-- Where the search stands: the variable that collects, its rows, the box, the list. -/
structure EW (w wx : World) (R : Reg) (A : Option Addr) (c q b : Nat) (v0 v : Value) (xs : List Value) (Ts : List (List Int)) (g c' : Nat) (L : List Int) : Prop where
  hq : Blk wx q 74 #[v]
  rows : RowsOf wx b R.C.length v xs Ts
  fr : Fr q v0 v w wx
  box : Blk wx w.heap.size 25 #[.int .i64 R.W, .int .i64 R.T, .slice A R.C.length c]
  own : wx.ownsRow b 3 1 (.slice (some ⟨g, 0, none⟩) R.C.length c') R.C.length (L.map (Value.int .i64))
section
variable {w wx w2 : World} {R : Reg} {A : Option Addr} {c q b g c' : Nat} {v0 v v' : Value} {xs xs' : List Value} {Ts Ts' : List (List Int)} {L : List Int}
theorem EW.below (H : EW w wx R A c q b v0 v xs Ts g c' L) (hb : Below wx.heap.size wx w2) : EW w w2 R A c q b v0 v xs Ts g c' L :=
  ⟨H.hq.below hb H.hq.lt, H.rows.below hb, H.fr.trans (Fr.of_below hb), H.box.below hb H.box.lt, own_below H.own hb (Nat.le_refl _)⟩
theorem EW.step (H : EW w wx R A c q b v0 v xs Ts g c' L) (hlt : q < w.heap.size) (hq : Blk w2 q 74 #[v']) (hT : RowsOf w2 b R.C.length v' xs' Ts') (hF : Fr q v v' wx w2) : EW w w2 R A c q b v0 v' xs' Ts' g c' L :=
  ⟨hq, hT, H.fr.trans hF, hF.blk H.box (by omega) (own_blk_ne H.rows.own H.box (by decide)), hF.own H.own (own_blk_ne H.own H.hq (by decide)) (own_far H.own H.rows.own (by decide))⟩
theorem EW.bel (H : EW w wx R A c q b v0 v xs Ts g c' L) (hb : b ≤ w.heap.size) (hbq : b ≤ q) (hv0 : ∀ k, v0.ownBlock = some k → b ≤ k) : Below b w wx := H.fr.below hb hbq hv0
end



end Go.Proofs.Ythepfpiphlfgnaa

/-
  YthepfpiphlfgnaaTc: all tilings of the program, as rows.
-/
namespace Go.Proofs.Ythepfpiphlfgnaa
open Go.RowKit






end Go.Proofs.Ythepfpiphlfgnaa

/-
  YthepfpiphlfgnaaTe: all tilings of the reference.
-/
namespace Go.Proofs.Ythepfpiphlfgnaa
open Go.RowKit


/-- Where the reference's search stands. -/
structure SW2 (w wr : World) (R : Reg) (A : Option Addr) (c b : Nat) (v : Value) (xs : List Value) (Ts : List (List Int)) (g c' : Nat) (L : List Int) : Prop where
  bel : Below w.heap.size w wr
  rows : RowsOf wr b R.C.length v xs Ts
  new : ∀ k, v.ownBlock = some k → w.heap.size ≤ k
  box : Blk wr w.heap.size 25 #[.int .i64 R.W, .int .i64 R.T, .slice A R.C.length c]
  own : wr.ownsRow b 3 1 (.slice (some ⟨g, 0, none⟩) R.C.length c') R.C.length (L.map (Value.int .i64))
section
variable {w wr w2 : World} {R : Reg} {A : Option Addr} {c b g c' : Nat} {v v' : Value} {xs xs' : List Value} {Ts Ts' : List (List Int)} {L : List Int}
theorem SW2.below (H : SW2 w wr R A c b v xs Ts g c' L) (hb : Below wr.heap.size wr w2) : SW2 w w2 R A c b v xs Ts g c' L :=
  ⟨H.bel.trans (hb.mono H.bel.size), H.rows.below hb, H.new, H.box.below hb H.box.lt, own_below H.own hb (Nat.le_refl _)⟩
theorem SW2.appN {v2 : Value} {xs2 : List Value} {Ts2 : List (List Int)} (H : SW2 w wr R A c b v xs Ts g c' L) (h2 : RowsOf wr b R.C.length v2 xs2 Ts2) (ho : w2.ownsRow b 26 1 v' (xs.length + xs2.length) (xs ++ xs2)) (hg : wr.grownBy w2 v.ownBlock) (hn : v'.ownBlock = v.ownBlock ∨ v'.ownBlock = some wr.heap.size) : SW2 w w2 R A c b v' (xs ++ xs2) (Ts ++ Ts2) g c' L := by
  refine ⟨H.bel.grown hg H.bel.size H.new, H.rows.appN h2 ho hg, fun k hk => ?_, H.box.grown hg (fun h => own_blk_ne H.rows.own H.box (by decide) h.symm), own_grown H.own hg (own_far H.own H.rows.own (by decide))⟩
  rcases hn with h | h
  · exact H.new k (by rw [← h]; exact hk)
  · rw [h] at hk
    have := H.bel.size
    simp at hk
    omega
end



end Go.Proofs.Ythepfpiphlfgnaa

/-
  YthepfpiphlfgnaaTf: TilingsAll of the reference; HeightSum.
-/
namespace Go.Proofs.Ythepfpiphlfgnaa
open Go.RowKit








end Go.Proofs.Ythepfpiphlfgnaa

/-
  YthepfpiphlfgnaaTg: Lowest and Highest: the program.
-/
namespace Go.Proofs.Ythepfpiphlfgnaa
open Go.RowKit






end Go.Proofs.Ythepfpiphlfgnaa

/-
  YthepfpiphlfgnaaTh: Lowest and Highest: the reference.
-/
namespace Go.Proofs.Ythepfpiphlfgnaa
open Go.RowKit








end Go.Proofs.Ythepfpiphlfgnaa
