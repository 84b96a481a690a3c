/-
  YthepfpiphlfgnaaLee: the texts Ld, Fa, Le, Lf, Tk, Lg in one file.
-/
import Derived.Test.YthepfpiphlfgnaaLz
import Derived.Test.YthepfpiphlfgnaaTt
import Derived.Test.YthepfpiphlfgnaaFd3
import Derived.Test.YthepfpiphlfgnaaPq
import Derived.Test.YthepfpiphlfgnaaQz

/-
  YthepfpiphlfgnaaLd: what the property laws on ways up and down, and on the lowest and the highest tiling, say of the values. Plain Lean.
-/
namespace Go.Proofs.Ythepfpiphlfgnaa

/-- What a choice of heights is to both. -/
structure Ext (f : Int → Int → Int) (r : Int → Int → Prop) : Prop where
  keeps : Keeps f
  l : ∀ x y, r (f x y) x
  rr : ∀ x y, r (f x y) y
  refl : ∀ x, r x x
  trans : ∀ x y z, r x y → r y z → r x z
  anti : ∀ x y, r x y → r y x → x = y

end Go.Proofs.Ythepfpiphlfgnaa

/-
  YthepfpiphlfgnaaFa: FlipsOf of the program; the laws' ascend.
-/
namespace Go.Proofs.Ythepfpiphlfgnaa
open Go.RowKit

theorem enters_anyCorner : Enters Try.prog 95 := enters_of Try.func95 (by kernel_rfl) rfl
theorem anyCorner_any (k : Nat) (w : World) : Calls Try.prog 95 #[.int .i64 (k : Nat)] w fun e w' => e = .returned (.bool true) ∧ Below w.heap.size w w' := by
  go_enter Try.func95, Try.ntmps95
  go_wp2_with fail
  go_ret
  exact ⟨rfl, Below.refl _ _⟩



end Go.Proofs.Ythepfpiphlfgnaa

/-
  YthepfpiphlfgnaaLe: what the property laws on pushes say, of the values. Plain Lean.
-/
namespace Go.Proofs.Ythepfpiphlfgnaa


end Go.Proofs.Ythepfpiphlfgnaa

/-
  YthepfpiphlfgnaaLf: what the property laws on pushes from and into tilings say, of the values. Plain Lean.
-/
namespace Go.Proofs.Ythepfpiphlfgnaa
open Go.RowKit


/-- Two tilings that differ by a flip. -/
def Nbr (R : Reg) (a b : List Int) : Prop := ∃ k, k < R.cn ∧ flB R a (k : Int) = true ∧ flV R a (k : Int) = b
theorem Nbr.symm {R : Reg} (hR : R.ok) {a b : List Int} (ha : Tile R a) (h : Nbr R a b) : Nbr R b a := by
  obtain ⟨k, hk, hf, rfl⟩ := h
  obtain ⟨h1, h2, _, _⟩ := flV_back hR ha.1 hf
  exact ⟨k, hk, h1, h2⟩
theorem cornersB_cn {R : Reg} (hR : R.ok) : cornersB R.W R.T R.C = (R.cn : Int) := by
  unfold cornersB
  rw [valid_of_ok hR]
  unfold Reg.cn
  simp

end Go.Proofs.Ythepfpiphlfgnaa

/-
  YthepfpiphlfgnaaTk: PushesInto of the program and of the reference.
-/
namespace Go.Proofs.Ythepfpiphlfgnaa
open Go.RowKit


theorem small_any (W T : Int) (A : Option Addr) (n c B : Nat) (bs : List Bool) (w : World) (hr : Reads w B 1 A n (bs.map Value.bool)) (hB : B ≤ w.heap.size) (hn : n ≤ 9223372036854775807) :
    Calls Try.prog 100 #[.agg #[.int .i64 W, .int .i64 T, .slice A n c]] w fun e w' => e = .returned (.bool (validB W T bs && decide (cnt bs ≤ 16))) ∧ Below w.heap.size w w' := by
  have hb0 : Below w.heap.size w (w.alloc (boxR W T A n c)) := (Below.refl _ _).alloc (Nat.le_refl _) _
  have k0 : Blk (w.alloc (boxR W T A n c)) w.heap.size 25 #[.int .i64 W, .int .i64 T, .slice A n c] := Blk.new _ _ _
  have HV := hide (valid_any W T A n c B bs _ (hr.below (hb0.mono hB)) (Nat.le_trans hB hb0.size) hn)
  have HM := fun w' (h : Below w.heap.size w w') => hide (many_any A n c B bs w' (hr.below (h.mono hB)) hn)
  generalize cnt bs = cb at *
  clear hr
  cases hv : validB W T bs with
  | false =>
    rw [hv] at HV
    go_enter Try.func100, Try.ntmps100
    go_wp2_with fail
    refine (unhide HV).mono ?_
    rintro e w1 ⟨rfl, hb1⟩
    go_wp2_with fail
    go_ret
    exact ⟨rfl, hb0.trans (hb1.mono hb0.size)⟩
  | true =>
    rw [hv] at HV
    go_enter Try.func100, Try.ntmps100
    go_wp2_with fail
    refine (unhide HV).mono ?_
    rintro e w1 ⟨rfl, hb1⟩
    have hB1 := hb0.trans (hb1.mono hb0.size)
    obtain ⟨b0, b1, b2⟩ := blk3 (k0.below hb1 k0.lt)
    have hM1 := HM _ hB1
    clear hb1 hb0 k0 HM HV
    go_wp2_with fail
    refine (unhide hM1).mono ?_
    rintro e w2 ⟨rfl, rfl⟩
    go_wp2_with fail
    go_ret
    exact ⟨ret_bool (by have h16 : ((cb : Int) ≤ 16) ↔ cb ≤ 16 := (by omega); simp [h16]), hB1⟩


theorem cellsManyS_ok (R : Reg) (hR : R.ok) (A : Option Addr) (c B : Nat) (w : World) (hr : Reads w B 1 A R.C.length (R.C.map Value.bool)) (hB : B ≤ w.heap.size) :
    Calls Try.prog 105 #[.agg #[.int .i64 R.W, .int .i64 R.T, .slice A R.C.length c]] w fun e w' => e = .returned (.int .i64 (cnt R.C)) ∧ Below w.heap.size w w' := by
  have hl36 := (len_bd hR).2
  have hb0 : Below w.heap.size w (w.alloc (boxR R.W R.T A R.C.length c)) := (Below.refl _ _).alloc (Nat.le_refl _) _
  have k0 : Blk (w.alloc (boxR R.W R.T A R.C.length c)) w.heap.size 25 #[.int .i64 R.W, .int .i64 R.T, .slice A R.C.length c] := Blk.new _ _ _
  have HV := hide (validS_any R.W R.T A R.C.length c B R.C _ (hr.below (hb0.mono hB)) (Nat.le_trans hB hb0.size) (by omega))
  rw [valid_of_ok hR] at HV
  have HM := fun w' (h : Below w.heap.size w w') => hide (countS_any A R.C.length c B R.C w' (hr.below (h.mono hB)) (by omega))
  generalize cnt R.C = cb at *
  clear hr
  go_enter Try.func105, Try.ntmps105
  go_wp2_with fail
  refine (unhide HV).mono ?_
  rintro e w1 ⟨rfl, hb1⟩
  have hB1 := hb0.trans (hb1.mono hb0.size)
  obtain ⟨b0, b1, b2⟩ := blk3 (k0.below hb1 k0.lt)
  have hM1 := HM _ hB1
  clear hb1 hb0 k0 HM HV
  go_wp2_with fail
  refine (unhide hM1).mono ?_
  rintro e w2 ⟨rfl, rfl⟩
  go_wp2_with fail
  go_ret
  exact ⟨rfl, hB1⟩




end Go.Proofs.Ythepfpiphlfgnaa

/-
  YthepfpiphlfgnaaLg: left out.
-/
namespace Go.Proofs.Ythepfpiphlfgnaa

end Go.Proofs.Ythepfpiphlfgnaa
