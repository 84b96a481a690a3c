/-
  YtpeifojfpkkcpaaHkS: the reference's HeightsOk.
-/
import Derived.Test.YtpeifojfpkkcpaaHki
namespace Go.Proofs.Ytpeifojfpkkcpaa
open Go.RowKit

theorem first_u {R : Reg} (hR : R.ok) {x0 y0 : Nat} (h0 : First R x0 y0) : FirstU R (R.ci x0 y0) := by
  have hm : (⟨(R.ci x0 y0 : Nat), ((R.ci x0 y0 : Nat) : Int) + 1, x0, y0, x0, (y0 : Int) - 1⟩ : Sd) ∈ sidesOf R := by
    have hc := first_cell hR h0
    unfold sidesOf sidesTo
    rw [List.mem_flatMap]
    refine ⟨R.ci x0 y0, List.mem_range.2 (ci_lt h0.1 h0.2.1), ?_⟩
    unfold sidesAt
    rw [ci_mod y0 h0.1, ci_div y0 h0.1, List.mem_append]
    left
    unfold sideE; rw [hc]; simp
  obtain ⟨k, hk⟩ := List.getElem?_of_mem hm
  refine ⟨⟨k, _, (List.getElem?_eq_some_iff.1 hk).1, hk, .inl rfl⟩, ?_⟩
  rintro j hj ⟨i, s, hi, hs, e⟩
  obtain ⟨x, y, hx, hy, _, h⟩ := mem_sides (List.mem_of_getElem? hs) (Nat.le_refl _)
  rcases h with h | h
  · obtain ⟨hu, rfl⟩ := sideE_mem h
    have k1 := h0.2.2.2 x y hx hy (cu_e hu).1
    simp only at e
    omega
  · obtain ⟨hu, rfl⟩ := sideN_mem h
    have k1 := h0.2.2.2 x y hx hy (cu_n hu).1
    simp only at e
    omega

structure BoW (w wr : World) (R : Reg) (A : Option Addr) (c g : Nat) (O : List Bool) : Prop where
  bel : Below w.heap.size w wr
  box : Blk wr w.heap.size 25 #[.int .i64 R.W, .int .i64 R.T, .slice A R.C.length c]
  out : wr.ownsRow (w.heap.size + 1) 4 1 (.slice (some ⟨g, 0, none⟩) R.cn R.cn) R.cn (O.map Value.bool)
section
variable {w wr w2 : World} {R : Reg} {A : Option Addr} {c g : Nat} {O : List Bool}
theorem BoW.below (H : BoW w wr R A c g O) (hb : Below wr.heap.size wr w2) : BoW w w2 R A c g O :=
  ⟨H.bel.trans (hb.mono H.bel.size), H.box.below hb H.box.lt, own_below H.out hb (Nat.le_refl _)⟩
theorem BoW.glt (H : BoW w wr R A c g O) : w.heap.size < g ∧ g < wr.heap.size := by have := H.out.lt g rfl; omega
theorem BoW.set (H : BoW w wr R A c g O) (j : Nat) (v : Bool) : BoW w (wr.setCell ⟨g, j, none⟩ (.bool v)) R A c g (O.set j v) := by
  have hg := H.glt
  refine ⟨H.bel.setCell (by simp; omega) _, H.box.far (p := ⟨g, j, none⟩) (by simp; omega) _, ?_⟩
  have := (H.out.stored j (.bool v)).1
  rwa [← List.map_set] at this
theorem BoW.cells (H : BoW w wr R A c g O) : wr.cell? ⟨w.heap.size, 0, none⟩ = some (.int .i64 R.W) ∧ wr.cell? ⟨w.heap.size, 1, none⟩ = some (.int .i64 R.T) ∧ wr.cell? ⟨w.heap.size, 2, none⟩ = some (.slice A R.C.length c) := by
  have r0 := H.box.cell 0
  have r1 := H.box.cell 1
  have r2 := H.box.cell 2
  simp at r0 r1 r2
  exact ⟨r0, r1, r2⟩
theorem BoW.ocell (H : BoW w wr R A c g O) {j : Nat} (hj : j < R.cn) : wr.cell? ⟨g, j, none⟩ = some (.bool (O.getD j false)) := by
  have hl : O.length = R.cn := by have := H.out.1; simpa using this
  rw [H.out.cellAt j (by omega), List.getElem?_map, List.getD_eq_getElem?_getD, List.getElem?_eq_getElem (by omega)]; rfl
end

def SdIn (L : List Int) (s : Sd) : Prop := (-60 ≤ L.getD s.f.toNat 0 ∧ L.getD s.f.toNat 0 ≤ 60) ∧ (-60 ≤ L.getD s.t.toNat 0 ∧ L.getD s.t.toNat 0 ≤ 60)
/-- What holds behind the first k sides. -/
def KS (R : Reg) (L : List Int) (k : Nat) (O : List Bool) : Prop := UsedL R k O ∧ ∀ (j : Nat) s, j < k → (sidesOf R)[j]? = some s → SdOk R L s ∧ SdIn L s
theorem ks_next {R : Reg} {L : List Int} {k : Nat} {O : List Bool} (h : KS R L k O) {s : Sd} (hs : (sidesOf R)[k]? = some s) {f t : Nat} (ha : SdAt R s f t) (hk : SdOk R L s ∧ SdIn L s) : KS R L (k + 1) ((O.set f true).set t true) := by
  refine ⟨usedL_next h.1 hs ha, fun j s' hj hjs => ?_⟩
  by_cases hjk : j = k
  · subst hjk
    rw [hs] at hjs
    injection hjs with hjs
    subst hjs
    exact hk
  · exact h.2 j s' (by omega) hjs
theorem ks_rng {R : Reg} {L : List Int} {O : List Bool} (h : KS R L (sidesOf R).length O) {i : Nat} (hu : UsedC R i) : -60 ≤ L.getD i 0 ∧ L.getD i 0 ≤ 60 := by
  obtain ⟨j, s, hj, hs, e⟩ := hu
  have := (h.2 j s hj hs).2
  rcases e with e | e
  · have h1 := this.1
    rw [e] at h1; exact h1
  · have h1 := this.2
    rw [e] at h1; exact h1

end Go.Proofs.Ytpeifojfpkkcpaa
