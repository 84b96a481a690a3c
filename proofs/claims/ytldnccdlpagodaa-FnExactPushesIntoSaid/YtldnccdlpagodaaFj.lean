/-
  YtldnccdlpagodaaFj: rising, DownOf and UpOf of the program.
-/
import Derived.Test.YtldnccdlpagodaaFi
namespace Go.Proofs.Ytldnccdlpagodaa
open Go.RowKit

/-- The corners whose flip changes the height by so much. -/
noncomputable def rgV (W T : Int) (bs : List Bool) (L : List Int) (by_ : Int) : List Int := if tiledB W T bs L = true then flL ⟨W.toNat, T.toNat, bs⟩ L (fun k => rsZ ⟨W.toNat, T.toNat, bs⟩ L (k : Int) == by_) else []
theorem rgV_yes {R : Reg} {L : List Int} {b : Int} (h : tiledB R.W R.T R.C L = true) : rgV R.W R.T R.C L b = flL R L fun k => rsZ R L (k : Int) == b := by unfold rgV; rw [if_pos h]; rfl
theorem rgV_no {W T : Int} {bs : List Bool} {L : List Int} {b : Int} (h : tiledB W T bs L = false) : rgV W T bs L b = [] := by unfold rgV; rw [h]; rfl
theorem rgV_len {W T : Int} {bs : List Bool} {L : List Int} {b : Int} : (rgV W T bs L b).length ≤ 49 := by
  cases h : tiledB W T bs L with
  | false => rw [rgV_no h]; simp
  | true =>
    obtain ⟨R, hR, rfl, rfl, rfl, _⟩ := tiled_cases h
    rw [rgV_yes h]
    exact Nat.le_trans (flTo_len _ _ _ _) (cn_bd hR).2

end Go.Proofs.Ytldnccdlpagodaa
