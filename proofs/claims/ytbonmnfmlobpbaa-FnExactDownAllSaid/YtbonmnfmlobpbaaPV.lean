/-
  YtbonmnfmlobpbaaPV: PushesValid: the reference and the program, both compute pushesB.
-/
import Derived.Test.YtbonmnfmlobpbaaPush
import Derived.Test.YtbonmnfmlobpbaaOut
import Derived.Deep.RegionHeld3
import Derived.IntWalk
namespace Go.Proofs.Ytbonmnfmlobpbaa
open Go.RowKit

def cornersB (W T : Int) (bs : List Bool) : Int := if validB W T bs then (W + 1) * (T + 1) else -1
theorem cornersB_ok {R : Reg} (hR : R.ok) : cornersB R.W R.T R.C = (R.corners : Int) := by
  unfold cornersB
  rw [valid_of_ok hR, if_pos rfl]
  unfold Reg.corners
  simp
theorem cornersB_bd (W T : Int) (bs : List Bool) : -1 ≤ cornersB W T bs ∧ cornersB W T bs ≤ 49 := by
  cases hv : validB W T bs with
  | false => unfold cornersB; rw [hv]; simp
  | true =>
    obtain ⟨R, hR, rfl, rfl, rfl⟩ := reg_of_valid hv
    rw [cornersB_ok hR]
    have := corners_bd hR
    omega
theorem cornerManyS_any (W T : Int) (A : Option Addr) (n c B : Nat) (bs : List Bool) (w : World) (hl : bs.length = n) (hr : Reads w B 1 A n (bs.map Value.bool)) (hB : B ≤ w.heap.size) (hn : n ≤ 9223372036854775807) :
    Calls Try.prog 80 #[.agg #[.int .i64 W, .int .i64 T, .slice A n c]] w fun e w' => e = .returned (.int .i64 (cornersB W T bs)) ∧ Below w.heap.size w w' := by
  cases hv : validB W T bs with
  | false =>
    have := cornerManyS_no W T A n c B bs w hr hB hn hv
    unfold cornersB
    rw [hv]
    exact this
  | true =>
    obtain ⟨R, hR, rfl, rfl, rfl⟩ := reg_of_valid hv
    rw [cornersB_ok hR]
    subst hl
    exact cornerManyS_ok R hR A c B w hr hB

noncomputable def pushesB (W T : Int) (bs : List Bool) (ps : List (Int × Bool)) : Bool :=
  simpleB W T bs && (decide (ps.length ≤ 128) && ps.all fun p => inB p.1 0 (cornersB W T bs - 1))

theorem cell_keep {w w' : World} {p : Addr} {v : Value} (h : w.cell? p = some v) (hb : Below w.heap.size w w') : w'.cell? p = some v := (hb.cell (World.block_lt_of_cell? w p h)).trans h

theorem all_false_at {ps : List (Int × Bool)} {f : Int × Bool → Bool} {k : Nat} {p : Int × Bool} (hp : ps[k]? = some p) (h : f p = false) : ps.all f = false := by
  rw [List.all_eq_false]
  exact ⟨p, List.mem_of_getElem? hp, by simp [h]⟩
theorem all_true_of {ps : List (Int × Bool)} {f : Int × Bool → Bool} (h : ∀ (k : Nat) (p : Int × Bool), ps[k]? = some p → f p = true) : ps.all f = true := by
  rw [List.all_eq_true]
  intro p hp
  obtain ⟨k, hk⟩ := List.getElem?_of_mem hp
  exact h k p hk

end Go.Proofs.Ytbonmnfmlobpbaa
