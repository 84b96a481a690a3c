/-
  YthmmbejilceoaaaGreatFk: FlipsOf, DownOf and UpOf of the reference.
-/
import Derived.Test.YthmmbejilceoaaaGreatFm
import Derived.Test.YthmmbejilceoaaaGreatFq
import Derived.Test.YthmmbejilceoaaaGreatPv
namespace Go.Proofs.YthmmbejilceoaaaGreat
open Go.RowKit

/-- All corners that can be flipped. -/
def fsV (W T : Int) (bs : List Bool) (L : List Int) : List Int := if laidB W T bs L = true then flL ⟨W.toNat, T.toNat, bs⟩ L (fun _ => true) else []
theorem fsV_yes {R : Reg} {L : List Int} (h : laidB R.W R.T R.C L = true) : fsV R.W R.T R.C L = flL R L (fun _ => true) := by unfold fsV; rw [if_pos h]; rfl
theorem fsV_no {W T : Int} {bs : List Bool} {L : List Int} (h : laidB W T bs L = false) : fsV W T bs L = [] := by unfold fsV; rw [h]; rfl
theorem flTo_in {R : Reg} {L : List Int} {p : Nat → Bool} {k : Nat} {z : Int} (h : z ∈ flTo R L p k) : ∃ j : Nat, z = (j : Int) ∧ j < k ∧ flB R L (j : Int) = true ∧ p j = true := by
  unfold flTo at h
  obtain ⟨j, hj, rfl⟩ := List.mem_map.1 h
  rw [List.mem_filter, List.mem_range, Bool.and_eq_true] at hj
  exact ⟨j, rfl, hj.1, hj.2.1, hj.2.2⟩

/-- A box and one growing row, for any region. -/
structure AW (w wr : World) (W T : Int) (A : Option Addr) (n c g k : Nat) (L : List Int) : Prop where
  bel : Below w.heap.size w wr
  box : Blk wr w.heap.size 29 #[.int .i64 W, .int .i64 T, .slice A n c]
  own : wr.ownsRow (w.heap.size + 1) 3 1 (.slice (some ⟨g, 0, none⟩) L.length k) L.length (L.map (Value.int .i64))
section
variable {w wr w2 : World} {W T : Int} {A : Option Addr} {n c g k g' k' : Nat} {L : List Int}
theorem AW.lt (h : AW w wr W T A n c g k L) : w.heap.size < g ∧ g < wr.heap.size := by
  have := h.own.lt g rfl; exact ⟨by omega, this.2⟩
theorem AW.below (h : AW w wr W T A n c g k L) (hb : Below wr.heap.size wr w2) : AW w w2 W T A n c g k L :=
  ⟨h.bel.trans (hb.mono h.bel.size), h.box.below hb h.box.lt, own_below h.own hb (Nat.le_refl _)⟩
theorem AW.app {x : Int} {o : Obj} (h : AW w wr W T A n c g k L)
    (ho : w2.ownsRow (w.heap.size + 1) 3 1 (.slice (some ⟨g', 0, none⟩) (L.length + 1) k') (L.length + 1) (L.map (Value.int .i64) ++ [.int .i64 x])) (hg : (wr.alloc o).grownBy w2 (Value.slice (some ⟨g, 0, none⟩) L.length k).ownBlock) : AW w w2 W T A n c g' k' (L ++ [x]) := by
  have hlt := h.lt
  refine ⟨(h.bel.alloc h.bel.size o).grown hg (by have := h.bel.size; simp; omega) (fun j hj => by simp [Value.ownBlock] at hj; omega), (h.box.alloc o).grown hg (by simp [Value.ownBlock]; omega), ?_⟩
  rw [List.length_append, List.map_append]; exact ho
theorem AW.cells (h : AW w wr W T A n c g k L) : wr.cell? ⟨w.heap.size, 0, none⟩ = some (.int .i64 W) ∧ wr.cell? ⟨w.heap.size, 1, none⟩ = some (.int .i64 T) ∧ wr.cell? ⟨w.heap.size, 2, none⟩ = some (.slice A n c) := blk3 h.box
theorem AW.start (w : World) (W T : Int) (A : Option Addr) (n c : Nat) : AW w ((w.alloc (boxR W T A n c)).alloc (.cells #[] 3)) W T A n c (w.heap.size + 1) 0 [] := by
  refine ⟨((Below.refl _ _).alloc (Nat.le_refl _) _).alloc (by simp) _, (Blk.new _ _ _).alloc _, ?_⟩
  have := World.ownsRow_made (base := w.heap.size + 1) (e := 3) (size := 1) (w.alloc (boxR W T A n c)) #[] 0 (by simp) (by simp [maxLen]) (by simp)
  simpa using this
end

theorem flipMayS_no (W T : Int) (A : Option Addr) (n c B : Nat) (bs : List Bool) (L : List Int) (D : Option Addr) (m d : Nat) (k : Int) (h : laidB W T bs L = false) (w : World) (hbl : bs.length = n) (hL : L.length = m)
    (hr : Reads w B 1 A n (bs.map Value.bool)) (hd : Reads w B 1 D m (L.map (Value.int .i64))) (hB : B ≤ w.heap.size) (hn : n ≤ 9223372036854775807) (hm : m ≤ 9223372036854775807) :
    Calls Tryz.prog 45 #[.agg #[.int .i64 W, .int .i64 T, .slice A n c], .slice D m d, .int .i64 k] w fun e w' => e = .returned (.bool false) ∧ Below w.heap.size w w' := by
  have hLO := hide (laidOkS_any W T A n c B bs L D m d (w.alloc (boxR W T A n c)) hbl hL (hr.alloc hB _) (hd.alloc hB _) (by simp; omega) hn hm)
  rw [h] at hLO
  clear h
  go_enter Tryz.func45, Tryz.ntmps45
  go_wp2_with fail
  refine (unhide hLO).mono ?_
  rintro e w1 ⟨rfl, hb1⟩
  go_wp2_with fail
  go_ret
  exact ⟨rfl, (box_keep hb1).1⟩

theorem fs_filter (W T : Int) (bs : List Bool) (L : List Int) (b : Int) (hb : b ≠ 0) : (fsV W T bs L).filter (fun z => frV W T bs L z == b) = rgV W T bs L b := by
  cases ht : tiledB W T bs L with
  | false =>
    rw [rgV_no ht, List.filter_eq_nil_iff]
    intro z _ hz
    rw [frV_no ht] at hz
    simp at hz
    exact hb hz.symm
  | true =>
    obtain ⟨R, hR, rfl, rfl, rfl, _, hL, _⟩ := tiled_cases ht
    have hl : laidB R.W R.T R.C L = true := by rw [laidB_ok hR]; exact (laysB_iff hR).2 hL
    rw [fsV_yes hl, rgV_yes ht]
    unfold flL flTo
    rw [List.filter_map, List.filter_filter]
    congr 1
    apply List.filter_congr
    intro j _
    simp only [Function.comp, frV_yes ht, Bool.and_true]
    exact Bool.and_comm _ _
theorem fsV_len {W T : Int} {bs : List Bool} {L : List Int} : (fsV W T bs L).length ≤ 49 := by
  cases h : laidB W T bs L with
  | false => rw [fsV_no h]; simp
  | true =>
    obtain ⟨R, hR, rfl, rfl, rfl, _⟩ := laid_cases h
    rw [fsV_yes h]
    exact Nat.le_trans (flTo_len _ _ _ _) (cn_bd hR).2
theorem filter_take {F : List Int} {q : Int → Bool} {k : Nat} {z : Int} (h : F[k]? = some z) : (F.take (k + 1)).filter q = (F.take k).filter q ++ (if q z = true then [z] else []) := by
  rw [List.take_add_one, h, List.filter_append]
  congr 1
  simp only [Option.toList_some, List.filter_cons, List.filter_nil]

end Go.Proofs.YthmmbejilceoaaaGreat
