/-
  YthepfpiphlfgnaaLee: the texts Ld, Fa, Le, Lf, Tk, Lg in one file.
-/
import Derived.Test.YthepfpiphlfgnaaLz
import Derived.Test.YthepfpiphlfgnaaTt
import Derived.Test.YthepfpiphlfgnaaFd3
import Derived.Test.YthepfpiphlfgnaaPq
import Derived.Test.YthepfpiphlfgnaaQz

/-
  YthepfpiphlfgnaaLd: what the property laws on ways up and down, and on the lowest and the highest tiling, say of the values. Plain Lean.
-/
namespace Go.Proofs.Ythepfpiphlfgnaa

/-- What a choice of heights is to both. -/
structure Ext (f : Int → Int → Int) (r : Int → Int → Prop) : Prop where
  keeps : Keeps f
  l : ∀ x y, r (f x y) x
  rr : ∀ x y, r (f x y) y
  refl : ∀ x, r x x
  trans : ∀ x y z, r x y → r y z → r x z
  anti : ∀ x y, r x y → r y x → x = y
theorem dif_sum_self : ∀ (X : List Int), (List.zipWith dif X X).sum = 0
  | [] => rfl
  | x :: X => by simp only [List.zipWith_cons_cons, List.sum_cons, dif_self, dif_sum_self X]; rfl
theorem tile_of_tiled {R : Reg} (hR : R.ok) {L : List Int} (h : tiledB R.W R.T R.C L = true) : SimpleP R ∧ Tile R L := by
  have h1 := (tiled_ok hR).1 h
  exact ⟨h1.1, h1.2⟩
theorem tiled_tile' {W T : Int} {bs : List Bool} {L : List Int} (h : tiledB W T bs L = true) : ∃ R : Reg, R.ok ∧ W = (R.W : Int) ∧ T = (R.T : Int) ∧ bs = R.C ∧ SimpleP R ∧ Tile R L := by
  obtain ⟨R, hR, rfl, rfl, rfl, hS, h1, h2⟩ := tiled_cases h
  exact ⟨R, hR, rfl, rfl, rfl, hS, h1, h2⟩
/-- FnFlipWay: one step of the way. -/
theorem law_flipWay {W T : Int} {bs : List Bool} {M N : List Int} (h : tiledB W T bs M = true) (g : tiledB W T bs N = true) :
    ∃ S : Nat → List Int, S 0 = M ∧ S (fwV W T bs M N).length = N ∧ apartV W T bs M N = ((fwV W T bs M N).length : Nat) ∧ (∀ j, (S j).length ≤ 36) ∧
      ∀ j, j < (fwV W T bs M N).length → foV W T bs (S j) ((fwV W T bs M N).getD j 0) = S (j + 1) ∧ foB W T bs (S j) ((fwV W T bs M N).getD j 0) = true ∧ 0 ≤ (fwV W T bs M N).getD j 0 ∧ (fwV W T bs M N).getD j 0 ≤ 48 := by
  obtain ⟨R, hR, rfl, rfl, rfl, hS, hM⟩ := tiled_tile' h
  obtain ⟨_, hN⟩ := tile_of_tiled hR g
  obtain ⟨n1, n2, n3⟩ := wyN_spec hR hS hM hN
  rw [fwV_yes h g, wyOut_len]
  refine ⟨wyIt R N M, rfl, n2, ?_, fun j => by rw [(tile_wyIt hR hM j).1.len]; exact (len_bd hR).2, fun j hj => ?_⟩
  · have hd := wy_down hR hS hM hN (wyN R N M) n3
    rw [n2] at hd
    have h0 : dsum R N N = 0 := by
      unfold dsum
      exact dif_sum_self _
    rw [apartV_tile hR hS hM hN]
    omega
  · have hT := tile_wyIt hR hM (N := N) j
    have e : (wyOut R N M (wyN R N M)).getD j 0 = wyHd R N (wyIt R N M j) := by
      unfold wyOut
      rw [List.getD_eq_getElem?_getD, List.getElem?_map, List.getElem?_range hj]; rfl
    rw [e]
    cases hw : wyL R N (wyIt R N M j) with
    | nil => exact absurd hw (wy_some hR hS hT hN (n3 j hj))
    | cons z l =>
      obtain ⟨q, _, hq, hf, _, hs, hh⟩ := wy_head hw
      have hl : laidB R.W R.T R.C (wyIt R N M j) = true := by rw [laidB_ok hR]; exact (laysB_iff hR).2 hT.1
      have hc := (cn_bd hR).2
      rw [hh, (foV_yes hl).1, (foV_yes hl).2]
      exact ⟨hs.symm, hf, by omega, by omega⟩

end Go.Proofs.Ythepfpiphlfgnaa

/-
  YthepfpiphlfgnaaFa: FlipsOf of the program; the laws' ascend.
-/
namespace Go.Proofs.Ythepfpiphlfgnaa
open Go.RowKit

theorem enters_anyCorner : Enters Try.prog 95 := enters_of Try.func95 (by kernel_rfl) rfl
theorem anyCorner_any (k : Nat) (w : World) : Calls Try.prog 95 #[.int .i64 (k : Nat)] w fun e w' => e = .returned (.bool true) ∧ Below w.heap.size w w' := by
  go_enter Try.func95, Try.ntmps95
  go_wp2_with fail
  go_ret
  exact ⟨rfl, Below.refl _ _⟩



end Go.Proofs.Ythepfpiphlfgnaa

/-
  YthepfpiphlfgnaaLe: what the property laws on pushes say, of the values. Plain Lean.
-/
namespace Go.Proofs.Ythepfpiphlfgnaa


end Go.Proofs.Ythepfpiphlfgnaa

/-
  YthepfpiphlfgnaaLf: what the property laws on pushes from and into tilings say, of the values. Plain Lean.
-/
namespace Go.Proofs.Ythepfpiphlfgnaa
open Go.RowKit


/-- Two tilings that differ by a flip. -/
def Nbr (R : Reg) (a b : List Int) : Prop := ∃ k, k < R.cn ∧ flB R a (k : Int) = true ∧ flV R a (k : Int) = b
theorem Nbr.symm {R : Reg} (hR : R.ok) {a b : List Int} (ha : Tile R a) (h : Nbr R a b) : Nbr R b a := by
  obtain ⟨k, hk, hf, rfl⟩ := h
  obtain ⟨h1, h2, _, _⟩ := flV_back hR ha.1 hf
  exact ⟨k, hk, h1, h2⟩

end Go.Proofs.Ythepfpiphlfgnaa

/-
  YthepfpiphlfgnaaTk: PushesInto of the program and of the reference.
-/
namespace Go.Proofs.Ythepfpiphlfgnaa
open Go.RowKit


theorem small_any (W T : Int) (A : Option Addr) (n c B : Nat) (bs : List Bool) (w : World) (hr : Reads w B 1 A n (bs.map Value.bool)) (hB : B ≤ w.heap.size) (hn : n ≤ 9223372036854775807) :
    Calls Try.prog 100 #[.agg #[.int .i64 W, .int .i64 T, .slice A n c]] w fun e w' => e = .returned (.bool (validB W T bs && decide (cnt bs ≤ 16))) ∧ Below w.heap.size w w' := by
  have hb0 : Below w.heap.size w (w.alloc (boxR W T A n c)) := (Below.refl _ _).alloc (Nat.le_refl _) _
  have k0 : Blk (w.alloc (boxR W T A n c)) w.heap.size 25 #[.int .i64 W, .int .i64 T, .slice A n c] := Blk.new _ _ _
  have HV := hide (valid_any W T A n c B bs _ (hr.below (hb0.mono hB)) (Nat.le_trans hB hb0.size) hn)
  have HM := fun w' (h : Below w.heap.size w w') => hide (many_any A n c B bs w' (hr.below (h.mono hB)) hn)
  generalize cnt bs = cb at *
  clear hr
  cases hv : validB W T bs with
  | false =>
    rw [hv] at HV
    go_enter Try.func100, Try.ntmps100
    go_wp2_with fail
    refine (unhide HV).mono ?_
    rintro e w1 ⟨rfl, hb1⟩
    go_wp2_with fail
    go_ret
    exact ⟨rfl, hb0.trans (hb1.mono hb0.size)⟩
  | true =>
    rw [hv] at HV
    go_enter Try.func100, Try.ntmps100
    go_wp2_with fail
    refine (unhide HV).mono ?_
    rintro e w1 ⟨rfl, hb1⟩
    have hB1 := hb0.trans (hb1.mono hb0.size)
    obtain ⟨b0, b1, b2⟩ := blk3 (k0.below hb1 k0.lt)
    have hM1 := HM _ hB1
    clear hb1 hb0 k0 HM HV
    go_wp2_with fail
    refine (unhide hM1).mono ?_
    rintro e w2 ⟨rfl, rfl⟩
    go_wp2_with fail
    go_ret
    exact ⟨ret_bool (by have h16 : ((cb : Int) ≤ 16) ↔ cb ≤ 16 := (by omega); simp [h16]), hB1⟩


theorem cellsManyS_ok (R : Reg) (hR : R.ok) (A : Option Addr) (c B : Nat) (w : World) (hr : Reads w B 1 A R.C.length (R.C.map Value.bool)) (hB : B ≤ w.heap.size) :
    Calls Try.prog 105 #[.agg #[.int .i64 R.W, .int .i64 R.T, .slice A R.C.length c]] w fun e w' => e = .returned (.int .i64 (cnt R.C)) ∧ Below w.heap.size w w' := by
  have hl36 := (len_bd hR).2
  have hb0 : Below w.heap.size w (w.alloc (boxR R.W R.T A R.C.length c)) := (Below.refl _ _).alloc (Nat.le_refl _) _
  have k0 : Blk (w.alloc (boxR R.W R.T A R.C.length c)) w.heap.size 25 #[.int .i64 R.W, .int .i64 R.T, .slice A R.C.length c] := Blk.new _ _ _
  have HV := hide (validS_any R.W R.T A R.C.length c B R.C _ (hr.below (hb0.mono hB)) (Nat.le_trans hB hb0.size) (by omega))
  rw [valid_of_ok hR] at HV
  have HM := fun w' (h : Below w.heap.size w w') => hide (countS_any A R.C.length c B R.C w' (hr.below (h.mono hB)) (by omega))
  generalize cnt R.C = cb at *
  clear hr
  go_enter Try.func105, Try.ntmps105
  go_wp2_with fail
  refine (unhide HV).mono ?_
  rintro e w1 ⟨rfl, hb1⟩
  have hB1 := hb0.trans (hb1.mono hb0.size)
  obtain ⟨b0, b1, b2⟩ := blk3 (k0.below hb1 k0.lt)
  have hM1 := HM _ hB1
  clear hb1 hb0 k0 HM HV
  go_wp2_with fail
  refine (unhide hM1).mono ?_
  rintro e w2 ⟨rfl, rfl⟩
  go_wp2_with fail
  go_ret
  exact ⟨rfl, hB1⟩




end Go.Proofs.Ythepfpiphlfgnaa

/-
  YthepfpiphlfgnaaLg: left out.
-/
namespace Go.Proofs.Ythepfpiphlfgnaa

end Go.Proofs.Ythepfpiphlfgnaa
