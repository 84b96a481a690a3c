/-
  YtpeifojfpkkcpaaGreatLpj: the texts Lp, Lj in one file.
-/
import Derived.Test.YtpeifojfpkkcpaaGreatPv
import Derived.Test.YtpeifojfpkkcpaaGreatLz
import Derived.Test.YtpeifojfpkkcpaaGreatLee
import Derived.Test.YtpeifojfpkkcpaaGreatPq

/-
  YtpeifojfpkkcpaaGreatLp: a law's pushes.
-/
namespace Go.Proofs.YtpeifojfpkkcpaaGreat
open Go.RowKit

/-- A row of pushes of a law. -/
def LP (w wr : World) (P : Option Addr) (ps : List (Int × Bool)) : Prop := ∃ c, wr.ownsRow w.heap.size 47 2 (.slice P ps.length c) ps.length (pc ps)
theorem LP.below {w wr w2 : World} {P : Option Addr} {ps : List (Int × Bool)} (h : LP w wr P ps) (hb : Below wr.heap.size wr w2) : LP w w2 P ps := by
  obtain ⟨c, h⟩ := h
  exact ⟨c, own_below h hb (Nat.le_refl _)⟩
theorem LP.rd {w wr : World} {P : Option Addr} {ps : List (Int × Bool)} (h : LP w wr P ps) : Reads wr wr.heap.size 2 P ps.length (pc ps) := by
  obtain ⟨c, h⟩ := h
  exact Reads.of_own h
theorem LP.of {w wr w2 : World} {P : Option Addr} {c : Nat} {ps : List (Int × Bool)} (hb : w.heap.size ≤ wr.heap.size) (h : w2.ownsRow wr.heap.size 47 2 (.slice P ps.length c) ps.length (pc ps)) : LP w w2 P ps := ⟨c, own_mono h hb⟩
theorem pc_take : ∀ (ps : List (Int × Bool)) (k : Nat), pc (ps.take k) = (pc ps).take (k * 2)
  | [], k => by simp [pc]
  | p :: ps, 0 => by simp [pc]
  | p :: ps, k + 1 => by
    rw [List.take_succ_cons, pc_cons, pc_cons, pc_take ps k, show (k + 1) * 2 = k * 2 + 1 + 1 by omega, List.take_succ_cons, List.take_succ_cons]
theorem pc_drop : ∀ (ps : List (Int × Bool)) (k : Nat), pc (ps.drop k) = (pc ps).drop (k * 2)
  | [], k => by simp [pc]
  | p :: ps, 0 => by simp
  | p :: ps, k + 1 => by
    rw [List.drop_succ_cons, pc_cons, pc_drop ps k, show (k + 1) * 2 = k * 2 + 1 + 1 by omega, List.drop_succ_cons, List.drop_succ_cons]
theorem Reads.takeP {w : World} {B n k : Nat} {A : Option Addr} {ps : List (Int × Bool)} (h : Reads w B 2 A n (pc ps)) (hk : k ≤ n) : Reads w B 2 A k (pc (ps.take k)) := by
  rw [pc_take]
  refine ⟨by rw [List.length_take, h.1]; omega, fun hn => ?_⟩
  obtain ⟨ad, e, hb, hc⟩ := h.2 (by omega)
  refine ⟨ad, e, hb, fun j u hu => hc j u ?_⟩
  rw [List.getElem?_take] at hu
  split at hu
  · exact hu
  · cases hu
theorem Reads.cutP {w : World} {B n k cap : Nat} {A : Option Addr} {ps : List (Int × Bool)} (h : Reads w B 2 A n (pc ps)) (hk : k ≤ n) (hc : n ≤ cap) : Reads w B 2 (if cap = k then A else A.map (·.add (k * 2))) (n - k) (pc (ps.drop k)) := by
  rw [pc_drop]
  refine ⟨by rw [List.length_drop, h.1, Nat.sub_mul], fun hn => ?_⟩
  obtain ⟨ad, rfl, hb, hcell⟩ := h.2 (by omega)
  rw [if_neg (by omega)]
  have hbl : ∀ (p : Addr) (i : Nat), (p.add i).block = p.block := fun p i => by unfold Addr.add; split <;> rfl
  have hadd : ∀ (p : Addr) (i j : Nat), (p.add i).add j = p.add (i + j) := fun p i j => by
    unfold Addr.add
    by_cases hi : i = 0 <;> by_cases hj : j = 0 <;> simp [hi, hj, Nat.add_assoc]
  refine ⟨ad.add (k * 2), rfl, by rw [hbl]; exact hb, fun j u hu => ?_⟩
  rw [hadd]
  exact hcell _ u (by rw [← hu, List.getElem?_drop])

end Go.Proofs.YtpeifojfpkkcpaaGreat

/-
  YtpeifojfpkkcpaaGreatLj: what FnPushRun says, of the values. Plain Lean.
-/
namespace Go.Proofs.YtpeifojfpkkcpaaGreat

theorem pushes_take {W T : Int} {bs : List Bool} {ps : List (Int × Bool)} (h : pushesB W T bs ps = true) (k : Nat) : pushesB W T bs (ps.take k) = true ∧ pushesB W T bs (ps.drop k) = true := by
  unfold pushesB at h ⊢
  rw [Bool.and_eq_true, Bool.and_eq_true, List.all_eq_true, decide_eq_true_eq] at h
  rw [h.1, Bool.true_and, Bool.true_and, Bool.and_eq_true, Bool.and_eq_true, List.all_eq_true, List.all_eq_true, decide_eq_true_eq, decide_eq_true_eq, List.length_take, List.length_drop]
  exact ⟨⟨by omega, fun p hp => h.2.2 p (List.mem_of_mem_take hp)⟩, by omega, fun p hp => h.2.2 p (List.mem_of_mem_drop hp)⟩
/-- FnPushRun. -/
theorem law_pushRun {W T : Int} {bs : List Bool} {L : List Int} {ps : List (Int × Bool)} (h : tiledB W T bs L = true) (g : pushesB W T bs ps = true) (k : Nat) :
    exB W T bs = true ∧ tilingB W T bs (prV W T bs L ps) = true ∧ belowB W T bs (prV W T bs (exV min W T bs) ps) (prV W T bs L ps) = true ∧ belowB W T bs (prV W T bs L ps) (prV W T bs (exV max W T bs) ps) = true ∧
      prV W T bs (prV W T bs L (ps.take k)) (ps.drop k) = prV W T bs L ps := by
  obtain ⟨R, hR, rfl, rfl, rfl, hS, hT⟩ := tiled_tile' h
  obtain ⟨l1, l2, l3⟩ := ex_tile ext_min hR hS (tilT_ne hR hT)
  obtain ⟨u1, _, u3⟩ := ex_tile ext_max hR hS (tilT_ne hR hT)
  obtain ⟨g1, g2⟩ := pushes_take g k
  have hX := tile_ruV hR hT (ps := ps)
  rw [prV_yes h g, prV_yes (tiled_tile hR hS l1) g, prV_yes (tiled_tile hR hS u1) g, prV_yes h g1, prV_yes (tiled_tile hR hS (tile_ruV hR hT)) g2, ← ruV_app, List.take_append_drop]
  refine ⟨l2, tiledB_tiling (tiled_tile hR hS hX), ?_, ?_, rfl⟩
  · rw [below_iff hR hS (tile_ruV hR l1) hX]
    exact ru_mono hR hS l1 hT (l3 L hT)
  · rw [below_iff hR hS hX (tile_ruV hR u1)]
    exact ru_mono hR hS hT u1 (u3 L hT)

end Go.Proofs.YtpeifojfpkkcpaaGreat
