/-
  YthepfpiphlfgnaaGreatLee: the texts Ld, Fa, Le, Lf, Tk, Lg in one file.
-/
import Derived.Test.YthepfpiphlfgnaaGreatLz
import Derived.Test.YthepfpiphlfgnaaGreatTt
import Derived.Test.YthepfpiphlfgnaaGreatFd3
import Derived.Test.YthepfpiphlfgnaaGreatPq
import Derived.Test.YthepfpiphlfgnaaGreatQz

/-
  YthepfpiphlfgnaaGreatLd: what the property laws on ways up and down, and on the lowest and the highest tiling, say of the values. Plain Lean.
-/
namespace Go.Proofs.YthepfpiphlfgnaaGreat

/-- What a choice of heights is to both. -/
structure Ext (f : Int → Int → Int) (r : Int → Int → Prop) : Prop where
  keeps : Keeps f
  l : ∀ x y, r (f x y) x
  rr : ∀ x y, r (f x y) y
  refl : ∀ x, r x x
  trans : ∀ x y z, r x y → r y z → r x z
  anti : ∀ x y, r x y → r y x → x = y

end Go.Proofs.YthepfpiphlfgnaaGreat

/-
  YthepfpiphlfgnaaGreatFa: FlipsOf of the program; the laws' ascend.
-/
namespace Go.Proofs.YthepfpiphlfgnaaGreat
open Go.RowKit




end Go.Proofs.YthepfpiphlfgnaaGreat

/-
  YthepfpiphlfgnaaGreatLe: what the property laws on pushes say, of the values. Plain Lean.
-/
namespace Go.Proofs.YthepfpiphlfgnaaGreat

theorem ruV_app (R : Reg) (L : List Int) (a b : List (Int × Bool)) : ruV R L (a ++ b) = ruV R (ruV R L a) b := by unfold ruV; rw [List.foldl_append]

end Go.Proofs.YthepfpiphlfgnaaGreat

/-
  YthepfpiphlfgnaaGreatLf: what the property laws on pushes from and into tilings say, of the values. Plain Lean.
-/
namespace Go.Proofs.YthepfpiphlfgnaaGreat
open Go.RowKit

theorem cornerManyI_any (W T : Int) (A : Option Addr) (n c B : Nat) (bs : List Bool) (w : World) (hl : bs.length = n) (hr : Reads w B 1 A n (bs.map Value.bool)) (hB : B ≤ w.heap.size) (hn : n ≤ 9223372036854775807) :
    Calls Tryz.prog 8 #[.agg #[.int .i64 W, .int .i64 T, .slice A n c]] w fun e w' => e = .returned (.int .i64 (cornersB W T bs)) ∧ Below w.heap.size w w' := by
  cases hv : validB W T bs with
  | false =>
    have := cornerManyI_no W T A n c B bs w hr hB hn hv
    unfold cornersB
    rw [hv]
    exact this
  | true =>
    obtain ⟨R, hR, rfl, rfl, rfl⟩ := reg_of_valid hv
    rw [cornersB_ok hR]
    subst hl
    exact cornerManyI_ok R hR A c B w hr hB

/-- Two tilings that differ by a flip. -/
def Nbr (R : Reg) (a b : List Int) : Prop := ∃ k, k < R.cn ∧ flB R a (k : Int) = true ∧ flV R a (k : Int) = b
theorem Nbr.symm {R : Reg} (hR : R.ok) {a b : List Int} (ha : Tile R a) (h : Nbr R a b) : Nbr R b a := by
  obtain ⟨k, hk, hf, rfl⟩ := h
  obtain ⟨h1, h2, _, _⟩ := flV_back hR ha.1 hf
  exact ⟨k, hk, h1, h2⟩
theorem cornersB_cn {R : Reg} (hR : R.ok) : cornersB R.W R.T R.C = (R.cn : Int) := by
  unfold cornersB
  rw [valid_of_ok hR]
  unfold Reg.cn
  simp

end Go.Proofs.YthepfpiphlfgnaaGreat

/-
  YthepfpiphlfgnaaGreatTk: PushesInto of the program and of the reference.
-/
namespace Go.Proofs.YthepfpiphlfgnaaGreat
open Go.RowKit








end Go.Proofs.YthepfpiphlfgnaaGreat

/-
  YthepfpiphlfgnaaGreatLg: left out.
-/
namespace Go.Proofs.YthepfpiphlfgnaaGreat

end Go.Proofs.YthepfpiphlfgnaaGreat
