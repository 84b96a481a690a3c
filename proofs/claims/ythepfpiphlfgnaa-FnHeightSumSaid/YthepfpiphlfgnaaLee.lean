/-
  YthepfpiphlfgnaaLee: the texts Ld, Fa, Le, Lf, Tk, Lg in one file.
-/
import Derived.Test.YthepfpiphlfgnaaLz
import Derived.Test.YthepfpiphlfgnaaTt
import Derived.Test.YthepfpiphlfgnaaFd3
import Derived.Test.YthepfpiphlfgnaaPq
import Derived.Test.YthepfpiphlfgnaaQz

/-
  YthepfpiphlfgnaaLd: what the property laws on ways up and down, and on the lowest and the highest tiling, say of the values. Plain Lean.
-/
namespace Go.Proofs.Ythepfpiphlfgnaa

/-- What a choice of heights is to both. -/
structure Ext (f : Int → Int → Int) (r : Int → Int → Prop) : Prop where
  keeps : Keeps f
  l : ∀ x y, r (f x y) x
  rr : ∀ x y, r (f x y) y
  refl : ∀ x, r x x
  trans : ∀ x y z, r x y → r y z → r x z
  anti : ∀ x y, r x y → r y x → x = y
theorem ext_min : Ext min (fun x y => x ≤ y) where
  keeps := keeps_min
  l x y := by show min x y ≤ x; omega
  rr x y := by show min x y ≤ y; omega
  refl x := Int.le_refl x
  trans x y z h g := Int.le_trans h g
  anti x y h g := Int.le_antisymm h g
theorem ext_max : Ext max (fun x y => y ≤ x) where
  keeps := keeps_max
  l x y := by show x ≤ max x y; omega
  rr x y := by show y ≤ max x y; omega
  refl x := Int.le_refl x
  trans x y z h g := Int.le_trans g h
  anti x y h g := Int.le_antisymm g h
theorem exH_rel {f : Int → Int → Int} {r : Int → Int → Prop} (hf : Ext f r) {R : Reg} (hR : R.ok) (hS : SimpleP R) : ∀ {Ts : List (List Int)} {H : List Int}, HP R H → (∀ M ∈ Ts, Tile R M) → ∀ k, k < R.cn →
    r ((exH f R H Ts).getD k 0) (H.getD k 0) ∧ ∀ M ∈ Ts, r ((exH f R H Ts).getD k 0) ((htsOf R.W R.T R.C M).getD k 0)
  | [], H, _, _, k, _ => ⟨hf.refl _, fun M hM => by cases hM⟩
  | N :: Ts, H, h, g, k, hk => by
    have hN := g N (by simp)
    have hz := hf.keeps hR hS.1 h (hp_of_tile hR hS hN)
    obtain ⟨i1, i2⟩ := exH_rel hf hR hS (Ts := Ts) hz (fun M hM => g M (by simp [hM])) k hk
    have e : (List.zipWith f H (htsOf R.W R.T R.C N)).getD k 0 = f (H.getD k 0) ((htsOf R.W R.T R.C N).getD k 0) := zip_getD (by rw [h.len]; exact hk) (by rw [hts_len hR hS hN]; exact hk)
    have e0 : exH f R H (N :: Ts) = exH f R (List.zipWith f H (htsOf R.W R.T R.C N)) Ts := rfl
    rw [e] at i1
    rw [e0]
    refine ⟨hf.trans _ _ _ i1 (hf.l _ _), fun M hM => ?_⟩
    rcases List.mem_cons.1 hM with rfl | hM
    · exact hf.trans _ _ _ i1 (hf.rr _ _)
    · exact i2 M hM
theorem ex_tile {f : Int → Int → Int} {r : Int → Int → Prop} (hf : Ext f r) {R : Reg} (hR : R.ok) (hS : SimpleP R) (hne : tilT R ≠ []) :
    Tile R (exV f R.W R.T R.C) ∧ exB R.W R.T R.C = true ∧ ∀ M, Tile R M → ∀ k, k < R.cn → r ((htsOf R.W R.T R.C (exV f R.W R.T R.C)).getD k 0) ((htsOf R.W R.T R.C M).getD k 0) := by
  obtain ⟨e1, e2⟩ := exV_yes (f := f) ((simple_of hR).2 hS) hne
  have hall : ∀ M ∈ tilT R, Tile R M := fun M hM => (tilT_iff hR).1 hM
  have hh : Tile R ((tilT R).headD []) := by
    cases h : tilT R with
    | nil => exact absurd h hne
    | cons M l => exact hall M (by rw [h]; simp)
  have hp := exH_hp hf.keeps hR hS (Ts := tilT R) (hp_of_tile hR hS hh) hall
  rw [e1]
  refine ⟨⟨lay_tilH hR hp, full_tilH hR hp⟩, e2, fun M hM k hk => ?_⟩
  rw [htsOf_til hR hS hp]
  exact (exH_rel hf hR hS (Ts := tilT R) (hp_of_tile hR hS hh) hall k hk).2 M ((tilT_iff hR).2 hM)
theorem tile_of_tiled {R : Reg} (hR : R.ok) {L : List Int} (h : tiledB R.W R.T R.C L = true) : SimpleP R ∧ Tile R L := by
  have h1 := (tiled_ok hR).1 h
  exact ⟨h1.1, h1.2⟩

end Go.Proofs.Ythepfpiphlfgnaa

/-
  YthepfpiphlfgnaaFa: left out.
-/
namespace Go.Proofs.Ythepfpiphlfgnaa

end Go.Proofs.Ythepfpiphlfgnaa

/-
  YthepfpiphlfgnaaLe: what the property laws on pushes say, of the values. Plain Lean.
-/
namespace Go.Proofs.Ythepfpiphlfgnaa


end Go.Proofs.Ythepfpiphlfgnaa

/-
  YthepfpiphlfgnaaLf: what the property laws on pushes from and into tilings say, of the values. Plain Lean.
-/
namespace Go.Proofs.Ythepfpiphlfgnaa
open Go.RowKit


/-- Two tilings that differ by a flip. -/
def Nbr (R : Reg) (a b : List Int) : Prop := ∃ k, k < R.cn ∧ flB R a (k : Int) = true ∧ flV R a (k : Int) = b
theorem Nbr.symm {R : Reg} (hR : R.ok) {a b : List Int} (ha : Tile R a) (h : Nbr R a b) : Nbr R b a := by
  obtain ⟨k, hk, hf, rfl⟩ := h
  obtain ⟨h1, h2, _, _⟩ := flV_back hR ha.1 hf
  exact ⟨k, hk, h1, h2⟩
theorem cornersB_cn {R : Reg} (hR : R.ok) : cornersB R.W R.T R.C = (R.cn : Int) := by
  unfold cornersB
  rw [valid_of_ok hR]
  unfold Reg.cn
  simp

end Go.Proofs.Ythepfpiphlfgnaa

/-
  YthepfpiphlfgnaaTk: left out.
-/
namespace Go.Proofs.Ythepfpiphlfgnaa

end Go.Proofs.Ythepfpiphlfgnaa

/-
  YthepfpiphlfgnaaLg: left out.
-/
namespace Go.Proofs.Ythepfpiphlfgnaa

end Go.Proofs.Ythepfpiphlfgnaa
