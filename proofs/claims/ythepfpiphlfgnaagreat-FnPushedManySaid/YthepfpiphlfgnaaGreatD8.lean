/-
  YthepfpiphlfgnaaGreatD8: drawing: a region and a list that lays dominoes on it.
-/
import Derived.Test.YthepfpiphlfgnaaGreatD7
import Derived.Test.YthepfpiphlfgnaaGreatDq
namespace Go.Proofs.YthepfpiphlfgnaaGreat
open Go.RowKit
attribute [local go_sem ↓] Go.wp_at_zero Go.wp_at_succ

/-- Of a region that is one the list lays dominoes; of any other one it is empty. -/
def Lj (W T : Int) (bs : List Bool) (L : List Int) : Prop := (validB W T bs = true → laidB W T bs L = true) ∧ (validB W T bs = false → L = [])
theorem Lj.pos {W T : Int} {bs : List Bool} {L : List Int} (h : Lj W T bs L) (hl : 0 < L.length) : ∃ R : Reg, R.ok ∧ W = (R.W : Int) ∧ T = (R.T : Int) ∧ bs = R.C ∧ Lay R L := by
  cases hv : validB W T bs with
  | false => rw [h.2 hv] at hl; simp at hl
  | true => exact laid_cases (h.1 hv)
theorem Lj.of {R : Reg} (hR : R.ok) {L : List Int} (h : Lay R L) : Lj R.W R.T R.C L := ⟨fun _ => by rw [laidB_ok hR]; exact (laysB_iff hR).2 h, fun hv => by rw [valid_of_ok hR] at hv; cases hv⟩
theorem Lj.len {W T : Int} {bs : List Bool} {L : List Int} (h : Lj W T bs L) : L.length ≤ 36 := by
  rcases Nat.eq_zero_or_pos L.length with h0 | h0
  · omega
  · obtain ⟨R, hR, rfl, rfl, rfl, hL⟩ := h.pos h0
    rw [hL.len]; exact (len_bd hR).2
structure DL (w wr : World) (g B : Nat) (A : Option Addr) (n c p d : Nat) (zs : List Int) (x : Nat) (W T : Int) (v : Value) (bs : List Bool) (vl : Value) (L : List Int) : Prop where
  dr : DR w wr g B A n c p d zs x W T v bs
  li : LiAt wr w.heap.size vl L
  lj : Lj W T bs L
theorem DL.step {w wr w2 : World} {g B : Nat} {A : Option Addr} {n c p d d2 p' : Nat} {zs : List Int} {x : Nat} {W T : Int} {v : Value} {bs : List Bool} {vl : Value} {L : List Int} (h : DL w wr g B A n c p d zs x W T v bs vl L) (hp : p ≤ p' ∧ p' ≤ p + d) (hgr : w.grownBy wr (some g)) (hs : Stepped wr g B A n c p' d2 zs w2) : DL w w2 g B A n c p (d + d2) zs x W T v bs vl L :=
  ⟨h.dr.step hp hgr hs, h.li.step (by obtain ⟨_, _, _, _, hg⟩ := hs; exact hg) h.dr.glt, h.lj⟩
theorem DL.calm {w wr w2 : World} {g B : Nat} {A : Option Addr} {n c p d : Nat} {zs : List Int} {x : Nat} {W T : Int} {v : Value} {bs : List Bool} {vl : Value} {L : List Int} (h : DL w wr g B A n c p d zs x W T v bs vl L) (hb : Below wr.heap.size wr w2) : DL w w2 g B A n c p d zs x W T v bs vl L :=
  ⟨h.dr.calm hb, h.li.below hb, h.lj⟩
theorem DL.more {w wr : World} {g B : Nat} {A : Option Addr} {n c p d e : Nat} {zs : List Int} {x : Nat} {W T : Int} {v : Value} {bs : List Bool} {vl : Value} {L : List Int} (h : DL w wr g B A n c p d zs x W T v bs vl L) (he : d ≤ e) : DL w wr g B A n c p e zs x W T v bs vl L := ⟨h.dr.more he, h.li, h.lj⟩
theorem LiAt.some {w : World} {b m d : Nat} {D : Option Addr} {L : List Int} (h : LiAt w b (.slice D m d) L) (hm : 0 < m) : ∃ gl, D = some ⟨gl, 0, none⟩ := by
  obtain ⟨A, c1, c2, e, ho⟩ := h
  simp only [Value.slice.injEq] at e
  obtain ⟨rfl, rfl, rfl⟩ := e
  obtain ⟨g, cg, hs, _⟩ := own_shape ho hm
  simp only [Value.slice.injEq, true_and] at hs
  exact ⟨g, hs.1⟩
/-- A store into the list. -/
theorem DL.store {w wr : World} {g B : Nat} {A : Option Addr} {n c p d : Nat} {zs : List Int} {x : Nat} {W T : Int} {v : Value} {bs : List Bool} {gl m c1 : Nat} {L : List Int} (h : DL w wr g B A n c p d zs x W T v bs (.slice (some ⟨gl, 0, none⟩) m c1) L) {q : Nat} (hq : q < m) (z : Int) :
    (∃ z0, wr.cell? ⟨gl, q, none⟩ = some (.int .i64 z0)) ∧ wr.frozen? ⟨gl, q, none⟩ = false ∧ DR w (wr.setCell ⟨gl, q, none⟩ (.int .i64 z)) g B A n c p d zs x W T v bs ∧ LiAt (wr.setCell ⟨gl, q, none⟩ (.int .i64 z)) w.heap.size (.slice (some ⟨gl, 0, none⟩) m c1) (L.set q z) := by
  obtain ⟨A', c2, c3, e, ho⟩ := h.li
  simp only [Value.slice.injEq] at e
  obtain ⟨rfl, rfl, rfl⟩ := e
  have hb := own_lt ho rfl
  have hne1 : gl ≠ w.heap.size := by have := own_blk_ne ho h.dr.res (by decide); simpa [Value.ownBlock] using this
  have hne2 : gl ≠ x := by have := own_blk_ne ho h.dr.reg (by decide); simpa [Value.ownBlock] using this
  have hne3 : v.ownBlock ≠ some gl := by
    rcases own_far h.dr.own.1 ho (by decide) with h1 | h1
    · rw [h1]; simp
    · simpa [Value.ownBlock] using h1
  have hc := ho.cellAt q (by omega)
  refine ⟨?_, ho.frozenAt q, ⟨h.dr.st.put h.dr.glt (a := ⟨gl, q, none⟩) hb.1 _, h.dr.glt, h.dr.res.far (p := ⟨gl, q, none⟩) (Ne.symm hne1) _, h.dr.reg.far (p := ⟨gl, q, none⟩) (Ne.symm hne2) _, ⟨ownsRow_setCell_other h.dr.own.1 (a := ⟨gl, q, none⟩) hne3 _, h.dr.own.2⟩, h.dr.xlt⟩, ?_⟩
  · rw [List.getElem?_map, List.getElem?_eq_getElem hq] at hc
    exact ⟨_, by simpa using hc⟩
  · refine ⟨some ⟨gl, 0, none⟩, c1, c3, by rw [List.length_set], ?_⟩
    rw [List.length_set, List.map_set]
    exact (ho.stored q _).1



end Go.Proofs.YthepfpiphlfgnaaGreat
