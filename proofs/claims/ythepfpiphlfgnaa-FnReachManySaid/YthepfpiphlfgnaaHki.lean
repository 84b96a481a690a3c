/-
  YthepfpiphlfgnaaHki: the texts Hk, HkI in one file.
-/
import Derived.Test.YthepfpiphlfgnaaHS
import Derived.Test.YthepfpiphlfgnaaEx
import Derived.Test.YthepfpiphlfgnaaBl

/-
  YthepfpiphlfgnaaHk: HeightsOk: what it means, and the program's.
-/
namespace Go.Proofs.Ythepfpiphlfgnaa
open Go.RowKit

def Reg.inn (R : Reg) (s : Sd) : Bool := R.at s.lx s.ly && R.at s.rx s.ry
def sdD (hs : List Int) (f t : Nat) : Int := wrap64 (hs.getD t 0 - hs.getD f 0)
def SdOk (R : Reg) (hs : List Int) (s : Sd) : Prop := sdD hs s.f.toNat s.t.toNat = sg s.lx s.ly ∨ (R.inn s = true ∧ sdD hs s.f.toNat s.t.toNat = -3 * sg s.lx s.ly)
def UsedTo (R : Reg) (k i : Nat) : Prop := ∃ (j : Nat) (s : Sd), j < k ∧ (sidesOf R)[j]? = some s ∧ (s.f = (i : Nat) ∨ s.t = (i : Nat))
def UsedC (R : Reg) (i : Nat) : Prop := UsedTo R (sidesOf R).length i
def FirstU (R : Reg) (i : Nat) : Prop := UsedC R i ∧ ∀ j, j < i → ¬ UsedC R j
structure HOk (R : Reg) (hs : List Int) : Prop where
  len : hs.length = R.cn
  sd : ∀ (k : Nat) s, k < (sidesOf R).length → (sidesOf R)[k]? = some s → SdOk R hs s
  rng : ∀ i, i < R.cn → UsedC R i → -60 ≤ hs.getD i 0 ∧ hs.getD i 0 ≤ 60
  no : ∀ i, i < R.cn → ¬ UsedC R i → hs.getD i 0 = 99
  fst : ∀ i, i < R.cn → FirstU R i → hs.getD i 0 = 0

theorem side_at {R : Reg} (hR : R.ok) {s : Sd} (hs : s ∈ sidesOf R) : ∃ f t : Nat, SdAt R s f t := by
  obtain ⟨x, y, hx, hy, _, h⟩ := mem_sides hs (Nat.le_refl _)
  rcases h with h | h
  · obtain ⟨hu, rfl⟩ := sideE_mem h
    exact ⟨_, _, (sideE_at hR hy hu).2⟩
  · obtain ⟨hu, rfl⟩ := sideN_mem h
    exact ⟨_, _, (sideN_at hR hx hu).2⟩

def UsedL (R : Reg) (k : Nat) (O : List Bool) : Prop := O.length = R.cn ∧ ∀ i, i < R.cn → (O.getD i false = true ↔ UsedTo R k i)
theorem usedL_start (R : Reg) : UsedL R 0 (List.replicate R.cn false) := by
  refine ⟨by simp, fun i hi => ?_⟩
  constructor
  · intro h
    rw [List.getD_eq_getElem?_getD, List.getElem?_replicate, if_pos hi] at h
    cases h
  · rintro ⟨j, s, hj, _⟩
    omega
theorem getDb_set {O : List Bool} {j i : Nat} (hj : j < O.length) (v : Bool) : (O.set j v).getD i false = if i = j then v else O.getD i false := by
  rw [List.getD_eq_getElem?_getD, List.getD_eq_getElem?_getD, List.getElem?_set]
  by_cases h : j = i
  · subst h
    rw [if_pos rfl, if_pos rfl, if_pos hj]; rfl
  · rw [if_neg h, if_neg (Ne.symm h)]
theorem usedL_next {R : Reg} {k : Nat} {O : List Bool} (h : UsedL R k O) {s : Sd} (hs : (sidesOf R)[k]? = some s) {f t : Nat} (ha : SdAt R s f t) : UsedL R (k + 1) ((O.set f true).set t true) := by
  refine ⟨by simp [h.1], fun i hi => ?_⟩
  rw [getDb_set (by simp [h.1]; exact ha.tl), getDb_set (by rw [h.1]; exact ha.fl)]
  constructor
  · intro hv
    by_cases h1 : i = t
    · subst h1; exact ⟨k, s, by omega, hs, .inr ha.te⟩
    · by_cases h2 : i = f
      · subst h2; exact ⟨k, s, by omega, hs, .inl ha.fe⟩
      · rw [if_neg h1, if_neg h2] at hv
        obtain ⟨j, s', hj, hjs, e⟩ := (h.2 i hi).1 hv
        exact ⟨j, s', by omega, hjs, e⟩
  · rintro ⟨j, s', hj, hjs, e⟩
    by_cases hjk : j = k
    · subst hjk
      rw [hs] at hjs
      injection hjs with hjs
      subst hjs
      rw [ha.fe, ha.te] at e
      split
      · rfl
      · split
        · rfl
        · omega
    · split
      · rfl
      · split
        · rfl
        · exact (h.2 i hi).2 ⟨j, s', by omega, hjs, e⟩
theorem usedL_end {R : Reg} {O : List Bool} (h : UsedL R (sidesOf R).length O) {i : Nat} (hi : i < R.cn) : O.getD i false = true ↔ UsedC R i := h.2 i hi

/-- Some corner is used: the first one. -/
theorem firstU_ex {R : Reg} (hR : R.ok) (hI : InConn R) : ∃ i, i < R.cn ∧ FirstU R i := by
  obtain ⟨x0, y0, h0⟩ := first_ex hR hI
  have hm : (⟨(R.ci x0 y0 : Nat), ((R.ci x0 y0 : Nat) : Int) + 1, x0, y0, x0, (y0 : Int) - 1⟩ : Sd) ∈ sidesOf R := by
    have hc := first_cell hR h0
    unfold sidesOf sidesTo
    rw [List.mem_flatMap]
    refine ⟨R.ci x0 y0, List.mem_range.2 (ci_lt h0.1 h0.2.1), ?_⟩
    unfold sidesAt
    rw [ci_mod y0 h0.1, ci_div y0 h0.1, List.mem_append]
    left
    unfold sideE; rw [hc]; simp
  obtain ⟨k, hk⟩ := List.getElem?_of_mem hm
  have hu : UsedC R (R.ci x0 y0) := ⟨k, _, (List.getElem?_eq_some_iff.1 hk).1, hk, .inl rfl⟩
  obtain ⟨i, hi, hl⟩ := least (P := UsedC R) ⟨_, hu⟩
  exact ⟨i, Nat.lt_of_le_of_lt (hl _ hu) (ci_lt h0.1 h0.2.1), hi, fun j hj hu' => by have := hl j hu'; omega⟩

noncomputable def hokB (W T : Int) (bs : List Bool) (hs : List Int) : Bool := by
  classical
  exact decide (∃ R : Reg, R.ok ∧ SimpleP R ∧ W = R.W ∧ T = R.T ∧ bs = R.C ∧ HOk R hs)
theorem hokB_iff {W T : Int} {bs : List Bool} {hs : List Int} : hokB W T bs hs = true ↔ ∃ R : Reg, R.ok ∧ SimpleP R ∧ W = R.W ∧ T = R.T ∧ bs = R.C ∧ HOk R hs := by
  unfold hokB
  simp
theorem hokB_ok {R : Reg} (hR : R.ok) (hS : SimpleP R) {hs : List Int} : hokB R.W R.T R.C hs = true ↔ HOk R hs := by
  rw [hokB_iff]
  constructor
  · rintro ⟨R', _, _, h1, h2, h3, h4⟩
    have e : R' = R := by
      cases R; cases R'
      simp only [Reg.mk.injEq]
      exact ⟨(Int.ofNat.inj h1).symm, (Int.ofNat.inj h2).symm, h3.symm⟩
    rw [← e]; exact h4
  · exact fun h => ⟨R, hR, hS, rfl, rfl, rfl, h⟩
theorem hokB_no {R : Reg} (hR : R.ok) (hS : SimpleP R) {hs : List Int} (h : ¬ HOk R hs) : hokB R.W R.T R.C hs = false := by
  cases hb : hokB R.W R.T R.C hs with
  | false => rfl
  | true => exact absurd ((hokB_ok hR hS).1 hb) h
theorem hokB_s {W T : Int} {bs : List Bool} {hs : List Int} (h : simpleB W T bs = false) : hokB W T bs hs = false := by
  cases hb : hokB W T bs hs with
  | false => rfl
  | true =>
    obtain ⟨R, hR, hS, rfl, rfl, rfl, _⟩ := hokB_iff.1 hb
    rw [(simple_of hR).2 hS] at h
    cases h

end Go.Proofs.Ythepfpiphlfgnaa

/-
  YthepfpiphlfgnaaHkI: the program's HeightsOk.
-/
namespace Go.Proofs.Ythepfpiphlfgnaa
open Go.RowKit

structure UW (w wr : World) (R : Reg) (A : Option Addr) (c g : Nat) (S : Option Addr) (sc : Nat) (O : List Bool) : Prop where
  bel : Below w.heap.size w wr
  box : Blk wr w.heap.size 25 #[.int .i64 R.W, .int .i64 R.T, .slice A R.C.length c]
  out : wr.ownsRow (w.heap.size + 1) 4 1 (.slice (some ⟨g, 0, none⟩) R.cn R.cn) R.cn (O.map Value.bool)
  sid : wr.ownsRow (w.heap.size + 1) 120 6 (.slice S (sidesOf R).length sc) (sidesOf R).length (sds (sidesOf R))
section
variable {w wr w2 : World} {R : Reg} {A S : Option Addr} {c g sc : Nat} {O : List Bool}
theorem UW.below (H : UW w wr R A c g S sc O) (hb : Below wr.heap.size wr w2) : UW w w2 R A c g S sc O :=
  ⟨H.bel.trans (hb.mono H.bel.size), H.box.below hb H.box.lt, own_below H.out hb (Nat.le_refl _), own_below H.sid hb (Nat.le_refl _)⟩
theorem UW.glt (H : UW w wr R A c g S sc O) : w.heap.size < g ∧ g < wr.heap.size := by have := H.out.lt g rfl; omega
theorem UW.set (H : UW w wr R A c g S sc O) (j : Nat) (v : Bool) : UW w (wr.setCell ⟨g, j, none⟩ (.bool v)) R A c g S sc (O.set j v) := by
  have hg := H.glt
  refine ⟨H.bel.setCell (by simp; omega) _, H.box.far (p := ⟨g, j, none⟩) (by simp; omega) _, ?_, ownsRow_setCell_other H.sid (a := ⟨g, j, none⟩) ?_ _⟩
  · have := (H.out.stored j (.bool v)).1
    rwa [← List.map_set] at this
  · rcases H.sid.2 with ⟨h0, _⟩ | ⟨g', cap, cur, hv, hb, hh, _⟩
    · rw [h0]; simp [Value.ownBlock]
    · rw [hv]
      simp only [Value.ownBlock, ne_eq, Option.some.injEq]
      rintro rfl
      rcases H.out.2 with ⟨h0, _⟩ | ⟨g2, cap2, cur2, hv2, _, hh2, _⟩
      · simp at h0
      · simp only [Value.slice.injEq, Option.some.injEq, Addr.mk.injEq, and_true, true_and] at hv2
        obtain ⟨rfl, _⟩ := hv2
        rw [hh] at hh2
        injection hh2 with hh2
        injection hh2 with _ ht
        exact absurd ht (by decide)
theorem UW.cells (H : UW w wr R A c g S sc O) : wr.cell? ⟨w.heap.size, 0, none⟩ = some (.int .i64 R.W) ∧ wr.cell? ⟨w.heap.size, 1, none⟩ = some (.int .i64 R.T) ∧ wr.cell? ⟨w.heap.size, 2, none⟩ = some (.slice A R.C.length c) := by
  have r0 := H.box.cell 0
  have r1 := H.box.cell 1
  have r2 := H.box.cell 2
  simp at r0 r1 r2
  exact ⟨r0, r1, r2⟩
theorem UW.len (H : UW w wr R A c g S sc O) : O.length = R.cn := by have := H.out.1; simpa using this
theorem UW.ocell (H : UW w wr R A c g S sc O) {j : Nat} (hj : j < R.cn) : wr.cell? ⟨g, j, none⟩ = some (.bool (O.getD j false)) := by
  have hl := H.len
  rw [H.out.cellAt j (by omega), List.getElem?_map, List.getD_eq_getElem?_getD, List.getElem?_eq_getElem (by omega)]; rfl
theorem UW.scell (H : UW w wr R A c g S sc O) {k : Nat} {s : Sd} (hk : (sidesOf R)[k]? = some s) :
    ∃ q, S = some ⟨q, 0, none⟩ ∧ q < wr.heap.size ∧ wr.cell? ⟨q, k * 6, none⟩ = some (.int .i64 s.f) ∧ wr.cell? ⟨q, k * 6 + 1, none⟩ = some (.int .i64 s.t) ∧ wr.cell? ⟨q, k * 6 + 2, none⟩ = some (.int .i64 s.lx) ∧
      wr.cell? ⟨q, k * 6 + 3, none⟩ = some (.int .i64 s.ly) ∧ wr.cell? ⟨q, k * 6 + 4, none⟩ = some (.int .i64 s.rx) ∧ wr.cell? ⟨q, k * 6 + 5, none⟩ = some (.int .i64 s.ry) := by
  have hkl : k < (sidesOf R).length := (List.getElem?_eq_some_iff.1 hk).1
  obtain ⟨q, c', e, _, _, hq⟩ := own_shape H.sid (by omega)
  injection e with e1 e2 e3
  subst e1 e3
  have hc := H.sid.cells (g := q) rfl
  have h0 := hc (k * 6 + 0) _ (sds_at hk 0 _ rfl)
  have h1 := hc (k * 6 + 1) _ (sds_at hk 1 _ rfl)
  have h2 := hc (k * 6 + 2) _ (sds_at hk 2 _ rfl)
  have h3 := hc (k * 6 + 3) _ (sds_at hk 3 _ rfl)
  have h4 := hc (k * 6 + 4) _ (sds_at hk 4 _ rfl)
  have h5 := hc (k * 6 + 5) _ (sds_at hk 5 _ rfl)
  simp [Addr.add] at h0 h1 h2 h3 h4 h5
  refine ⟨q, rfl, hq, ?_, h1, h2, h3, h4, h5⟩
  by_cases hk0 : k = 0
  · subst hk0; simpa using h0
  · rw [if_neg (by omega)] at h0; exact h0
end

def CornOk (R : Reg) (L : List Int) (m i : Nat) : Prop := (UsedC R i → -60 ≤ L.getD i 0 ∧ L.getD i 0 ≤ 60) ∧ (¬ UsedC R i → L.getD i 0 = 99) ∧ (i = m → L.getD i 0 = 0)
theorem firstU_one {R : Reg} {i j : Nat} (h : FirstU R i) (h' : FirstU R j) : i = j := by
  rcases Nat.lt_trichotomy i j with hl | e | hl
  · exact absurd h.1 (h'.2 i hl)
  · exact e
  · exact absurd h'.1 (h.2 j hl)

theorem blk6 {w : World} {x : Nat} {ty : TypeId} {a b c d e f : Value} (H : Blk w x ty #[a, b, c, d, e, f]) : w.cell? ⟨x, 0, none⟩ = some a ∧ w.cell? ⟨x, 1, none⟩ = some b ∧ w.cell? ⟨x, 2, none⟩ = some c ∧ w.cell? ⟨x, 3, none⟩ = some d ∧ w.cell? ⟨x, 4, none⟩ = some e ∧ w.cell? ⟨x, 5, none⟩ = some f := by
  have s0 := H.cell 0
  have s1 := H.cell 1
  have s2 := H.cell 2
  have s3 := H.cell 3
  have s4 := H.cell 4
  have s5 := H.cell 5
  simp at s0 s1 s2 s3 s4 s5
  exact ⟨s0, s1, s2, s3, s4, s5⟩

end Go.Proofs.Ythepfpiphlfgnaa
