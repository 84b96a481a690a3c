/-
  YtpeifojfpkkcpaaLh: what FnFlipRun says, of the values. Plain Lean.
-/
import Derived.Test.YtpeifojfpkkcpaaFv
namespace Go.Proofs.Ytpeifojfpkkcpaa
open Go.RowKit

theorem fqL_len {W T : Int} {bs : List Bool} {L cs : List Int} : (fqL W T bs L cs).length ≤ 36 ∧ fqN W T bs L cs ≤ 60 := by
  cases h : fqB W T bs L cs with
  | false => rw [(fqL_no h).1, (fqL_no h).2]; simp
  | true =>
    have h2 := h
    unfold fqB at h2
    rw [Bool.and_eq_true, decide_eq_true_eq] at h2
    obtain ⟨R, hR, rfl, rfl, rfl, hL⟩ := laid_cases h2.1
    obtain ⟨_, e1, e2⟩ := fqL_yes hR hL h2.2
    have := runN_le R cs L
    rw [e1, e2, (lay_run hR cs L hL).1.len]
    exact ⟨(len_bd hR).2, by omega⟩
/-- FnFlipRun. -/
theorem law_flipRun {W T : Int} {bs : List Bool} {L cs : List Int} (h : fqB W T bs L cs = true) (k : Nat) :
    fqL W T bs (fqL W T bs L (cs.take k)) (cs.drop k) = fqL W T bs L cs ∧ fqN W T bs L (cs.take k) + fqN W T bs (fqL W T bs L (cs.take k)) (cs.drop k) = fqN W T bs L cs ∧
      laidB W T bs (fqL W T bs L cs) = true ∧ tilingB W T bs (fqL W T bs L cs) = tilingB W T bs L := by
  unfold fqB at h
  rw [Bool.and_eq_true, decide_eq_true_eq] at h
  obtain ⟨R, hR, rfl, rfl, rfl, hL⟩ := laid_cases h.1
  have hc := h.2
  obtain ⟨_, e1, e2⟩ := fqL_yes hR hL hc
  obtain ⟨_, f1, f2⟩ := fqL_yes hR hL (cs := cs.take k) (by rw [List.length_take]; omega)
  obtain ⟨_, g1, g2⟩ := fqL_yes hR (lay_run hR (cs.take k) L hL).1 (cs := cs.drop k) (by rw [List.length_drop]; omega)
  obtain ⟨l1, l2⟩ := lay_run hR cs L hL
  rw [e1, e2, f1, f2, g1, g2, ← runL_app, ← runN_app, List.take_append_drop]
  have q1 := (laysB_iff hR).2 hL
  have q2 := (laysB_iff hR).2 l1
  refine ⟨rfl, rfl, by rw [laidB_ok hR]; exact q2, ?_⟩
  rw [tilingB_ok hR, tilingB_ok hR, q1, q2, Bool.true_and, Bool.true_and, Bool.eq_iff_iff, fullB_iff hR, fullB_iff hR]
  exact l2
theorem fqB_laid {W T : Int} {bs : List Bool} {L cs : List Int} : fqB W T bs L cs = (laidB W T bs L && decide (cs.length ≤ 60)) := rfl
theorem Reads.take {w : World} {B n k : Nat} {A : Option Addr} {xs : List Value} (h : Reads w B 1 A n xs) (hk : k ≤ n) : Reads w B 1 A k (xs.take k) := by
  refine ⟨by rw [List.length_take, h.1]; omega, fun hn => ?_⟩
  obtain ⟨ad, e, hb, hc⟩ := h.2 (by omega)
  refine ⟨ad, e, hb, fun j u hu => hc j u ?_⟩
  rw [List.getElem?_take] at hu
  split at hu
  · exact hu
  · cases hu
theorem Reads.takeI {w : World} {B n k : Nat} {A : Option Addr} {L : List Int} (h : Reads w B 1 A n (L.map (Value.int .i64))) (hk : k ≤ n) : Reads w B 1 A k ((L.take k).map (Value.int .i64)) := by
  rw [List.map_take]; exact h.take hk
theorem Reads.cutI {w : World} {B n k cap : Nat} {A : Option Addr} {L : List Int} (h : Reads w B 1 A n (L.map (Value.int .i64))) (hk : k ≤ n) (hc : n ≤ cap) : Reads w B 1 (if cap = k then A else A.map (·.add k)) (n - k) ((L.drop k).map (Value.int .i64)) := by
  have := h.cut (k := k) hk hc
  rw [Nat.mul_one] at this
  rw [List.map_drop]; exact this

end Go.Proofs.Ytpeifojfpkkcpaa
