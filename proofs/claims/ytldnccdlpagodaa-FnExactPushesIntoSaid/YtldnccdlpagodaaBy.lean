/-
  YtldnccdlpagodaaBy: the tiling of heights: what by computes, side after side.
-/
import Derived.Test.YtldnccdlpagodaaHkS
namespace Go.Proofs.Ytldnccdlpagodaa
open Go.RowKit

def bySet (R : Reg) (a b : Nat) (L : List Int) (way : Nat) : List Int := if R.step a way = (b : Int) then (L.set a way).set b (back way) else L
def byWays (R : Reg) (a b : Nat) (L : List Int) : Nat → List Int
  | 0 => L
  | k + 1 => bySet R a b (byWays R a b L k) (k + 1)
def ByUp (R : Reg) (hs : List Int) (s : Sd) : Prop := R.inn s = true ∧ (sdD hs s.f.toNat s.t.toNat = 3 ∨ sdD hs s.f.toNat s.t.toNat = -3)
noncomputable def byS (R : Reg) (hs : List Int) (L : List Int) (s : Sd) : List Int := by
  classical
  exact if ByUp R hs s then byWays R (s.ly * R.W + s.lx).toNat (s.ry * R.W + s.rx).toNat L 4 else L
noncomputable def byTo (R : Reg) (hs : List Int) (k : Nat) : List Int := ((sidesOf R).take k).foldl (byS R hs) (List.replicate R.C.length 0)
theorem byS_yes {R : Reg} {hs L : List Int} {s : Sd} (h : ByUp R hs s) : byS R hs L s = byWays R (s.ly * R.W + s.lx).toNat (s.ry * R.W + s.rx).toNat L 4 := by
  unfold byS; exact if_pos h
theorem byS_no {R : Reg} {hs L : List Int} {s : Sd} (h : ¬ ByUp R hs s) : byS R hs L s = L := by
  unfold byS; exact if_neg h
theorem byTo_succ {R : Reg} {hs : List Int} {k : Nat} {s : Sd} (h : (sidesOf R)[k]? = some s) : byTo R hs (k + 1) = byS R hs (byTo R hs k) s := by
  unfold byTo
  rw [List.take_add_one, h]
  simp
theorem bySet_len (R : Reg) (a b : Nat) (L : List Int) (way : Nat) : (bySet R a b L way).length = L.length := by
  unfold bySet
  split <;> simp
theorem byWays_len (R : Reg) (a b : Nat) (L : List Int) : ∀ k, (byWays R a b L k).length = L.length
  | 0 => rfl
  | k + 1 => by rw [byWays, bySet_len, byWays_len R a b L k]
theorem byS_len (R : Reg) (hs L : List Int) (s : Sd) : (byS R hs L s).length = L.length := by
  by_cases h : ByUp R hs s
  · rw [byS_yes h, byWays_len]
  · rw [byS_no h]
theorem foldl_len {f : List Int → Sd → List Int} (hf : ∀ L s, (f L s).length = L.length) : ∀ (l : List Sd) (L : List Int), (l.foldl f L).length = L.length
  | [], L => rfl
  | s :: l, L => by rw [List.foldl_cons, foldl_len hf l, hf]
theorem byTo_len (R : Reg) (hs : List Int) (k : Nat) : (byTo R hs k).length = R.C.length := by
  unfold byTo
  rw [foldl_len (byS_len R hs)]
  simp
/-- A side between two cells: their indices. -/
theorem inn_ix {R : Reg} (hR : R.ok) {s : Sd} (h : R.inn s = true) : ∃ a b : Nat, s.ly * R.W + s.lx = (a : Nat) ∧ s.ry * R.W + s.rx = (b : Nat) ∧ a < R.C.length ∧ b < R.C.length ∧ 0 ≤ s.lx ∧ 0 ≤ s.ly ∧ 0 ≤ s.rx ∧ 0 ≤ s.ry := by
  unfold Reg.inn at h
  rw [Bool.and_eq_true] at h
  obtain ⟨x, y, e1, e2, _, _, hc⟩ := at_cell hR h.1
  obtain ⟨x', y', e1', e2', _, _, hc'⟩ := at_cell hR h.2
  exact ⟨y * R.W + x, y' * R.W + x', by rw [e1, e2]; simp, by rw [e1', e2']; simp, cell_lt hc, cell_lt hc', by omega, by omega, by omega, by omega⟩

end Go.Proofs.Ytldnccdlpagodaa
