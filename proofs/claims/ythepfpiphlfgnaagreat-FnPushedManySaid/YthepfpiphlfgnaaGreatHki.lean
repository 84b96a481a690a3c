/-
  YthepfpiphlfgnaaGreatHki: the texts Hk, HkI in one file.
-/
import Derived.Test.YthepfpiphlfgnaaGreatHS
import Derived.Test.YthepfpiphlfgnaaGreatEx
import Derived.Test.YthepfpiphlfgnaaGreatBl

/-
  YthepfpiphlfgnaaGreatHk: HeightsOk: what it means, and the program's.
-/
namespace Go.Proofs.YthepfpiphlfgnaaGreat
open Go.RowKit

def Reg.inn (R : Reg) (s : Sd) : Bool := R.at s.lx s.ly && R.at s.rx s.ry
def sdD (hs : List Int) (f t : Nat) : Int := wrap64 (hs.getD t 0 - hs.getD f 0)
def SdOk (R : Reg) (hs : List Int) (s : Sd) : Prop := sdD hs s.f.toNat s.t.toNat = sg s.lx s.ly ∨ (R.inn s = true ∧ sdD hs s.f.toNat s.t.toNat = -3 * sg s.lx s.ly)
def UsedTo (R : Reg) (k i : Nat) : Prop := ∃ (j : Nat) (s : Sd), j < k ∧ (sidesOf R)[j]? = some s ∧ (s.f = (i : Nat) ∨ s.t = (i : Nat))
def UsedC (R : Reg) (i : Nat) : Prop := UsedTo R (sidesOf R).length i
def FirstU (R : Reg) (i : Nat) : Prop := UsedC R i ∧ ∀ j, j < i → ¬ UsedC R j
structure HOk (R : Reg) (hs : List Int) : Prop where
  len : hs.length = R.cn
  sd : ∀ (k : Nat) s, k < (sidesOf R).length → (sidesOf R)[k]? = some s → SdOk R hs s
  rng : ∀ i, i < R.cn → UsedC R i → -60 ≤ hs.getD i 0 ∧ hs.getD i 0 ≤ 60
  no : ∀ i, i < R.cn → ¬ UsedC R i → hs.getD i 0 = 99
  fst : ∀ i, i < R.cn → FirstU R i → hs.getD i 0 = 0





/-! ### The first true one of a list -/

end Go.Proofs.YthepfpiphlfgnaaGreat

/-
  YthepfpiphlfgnaaGreatHkI: the program's HeightsOk.
-/
namespace Go.Proofs.YthepfpiphlfgnaaGreat
open Go.RowKit

structure UW (w wr : World) (R : Reg) (A : Option Addr) (c g : Nat) (S : Option Addr) (sc : Nat) (O : List Bool) : Prop where
  bel : Below w.heap.size w wr
  box : Blk wr w.heap.size 25 #[.int .i64 R.W, .int .i64 R.T, .slice A R.C.length c]
  out : wr.ownsRow (w.heap.size + 1) 4 1 (.slice (some ⟨g, 0, none⟩) R.cn R.cn) R.cn (O.map Value.bool)
  sid : wr.ownsRow (w.heap.size + 1) 107 6 (.slice S (sidesOf R).length sc) (sidesOf R).length (sds (sidesOf R))
section
variable {w wr w2 : World} {R : Reg} {A S : Option Addr} {c g sc : Nat} {O : List Bool}
theorem UW.below (H : UW w wr R A c g S sc O) (hb : Below wr.heap.size wr w2) : UW w w2 R A c g S sc O :=
  ⟨H.bel.trans (hb.mono H.bel.size), H.box.below hb H.box.lt, own_below H.out hb (Nat.le_refl _), own_below H.sid hb (Nat.le_refl _)⟩
theorem UW.glt (H : UW w wr R A c g S sc O) : w.heap.size < g ∧ g < wr.heap.size := by have := H.out.lt g rfl; omega
theorem UW.set (H : UW w wr R A c g S sc O) (j : Nat) (v : Bool) : UW w (wr.setCell ⟨g, j, none⟩ (.bool v)) R A c g S sc (O.set j v) := by
  have hg := H.glt
  refine ⟨H.bel.setCell (by simp; omega) _, H.box.far (p := ⟨g, j, none⟩) (by simp; omega) _, ?_, ownsRow_setCell_other H.sid (a := ⟨g, j, none⟩) ?_ _⟩
  · have := (H.out.stored j (.bool v)).1
    rwa [← List.map_set] at this
  · rcases H.sid.2 with ⟨h0, _⟩ | ⟨g', cap, cur, hv, hb, hh, _⟩
    · rw [h0]; simp [Value.ownBlock]
    · rw [hv]
      simp only [Value.ownBlock, ne_eq, Option.some.injEq]
      rintro rfl
      rcases H.out.2 with ⟨h0, _⟩ | ⟨g2, cap2, cur2, hv2, _, hh2, _⟩
      · simp at h0
      · simp only [Value.slice.injEq, Option.some.injEq, Addr.mk.injEq, and_true, true_and] at hv2
        obtain ⟨rfl, _⟩ := hv2
        rw [hh] at hh2
        injection hh2 with hh2
        injection hh2 with _ ht
        exact absurd ht (by decide)
theorem UW.cells (H : UW w wr R A c g S sc O) : wr.cell? ⟨w.heap.size, 0, none⟩ = some (.int .i64 R.W) ∧ wr.cell? ⟨w.heap.size, 1, none⟩ = some (.int .i64 R.T) ∧ wr.cell? ⟨w.heap.size, 2, none⟩ = some (.slice A R.C.length c) := by
  have r0 := H.box.cell 0
  have r1 := H.box.cell 1
  have r2 := H.box.cell 2
  simp at r0 r1 r2
  exact ⟨r0, r1, r2⟩
theorem UW.len (H : UW w wr R A c g S sc O) : O.length = R.cn := by have := H.out.1; simpa using this
theorem UW.ocell (H : UW w wr R A c g S sc O) {j : Nat} (hj : j < R.cn) : wr.cell? ⟨g, j, none⟩ = some (.bool (O.getD j false)) := by
  have hl := H.len
  rw [H.out.cellAt j (by omega), List.getElem?_map, List.getD_eq_getElem?_getD, List.getElem?_eq_getElem (by omega)]; rfl
theorem UW.scell (H : UW w wr R A c g S sc O) {k : Nat} {s : Sd} (hk : (sidesOf R)[k]? = some s) :
    ∃ q, S = some ⟨q, 0, none⟩ ∧ q < wr.heap.size ∧ wr.cell? ⟨q, k * 6, none⟩ = some (.int .i64 s.f) ∧ wr.cell? ⟨q, k * 6 + 1, none⟩ = some (.int .i64 s.t) ∧ wr.cell? ⟨q, k * 6 + 2, none⟩ = some (.int .i64 s.lx) ∧
      wr.cell? ⟨q, k * 6 + 3, none⟩ = some (.int .i64 s.ly) ∧ wr.cell? ⟨q, k * 6 + 4, none⟩ = some (.int .i64 s.rx) ∧ wr.cell? ⟨q, k * 6 + 5, none⟩ = some (.int .i64 s.ry) := by
  have hkl : k < (sidesOf R).length := (List.getElem?_eq_some_iff.1 hk).1
  obtain ⟨q, c', e, _, _, hq⟩ := own_shape H.sid (by omega)
  injection e with e1 e2 e3
  subst e1 e3
  have hc := H.sid.cells (g := q) rfl
  have h0 := hc (k * 6 + 0) _ (sds_at hk 0 _ rfl)
  have h1 := hc (k * 6 + 1) _ (sds_at hk 1 _ rfl)
  have h2 := hc (k * 6 + 2) _ (sds_at hk 2 _ rfl)
  have h3 := hc (k * 6 + 3) _ (sds_at hk 3 _ rfl)
  have h4 := hc (k * 6 + 4) _ (sds_at hk 4 _ rfl)
  have h5 := hc (k * 6 + 5) _ (sds_at hk 5 _ rfl)
  simp [Addr.add] at h0 h1 h2 h3 h4 h5
  refine ⟨q, rfl, hq, ?_, h1, h2, h3, h4, h5⟩
  by_cases hk0 : k = 0
  · subst hk0; simpa using h0
  · rw [if_neg (by omega)] at h0; exact h0
end





end Go.Proofs.YthepfpiphlfgnaaGreat
