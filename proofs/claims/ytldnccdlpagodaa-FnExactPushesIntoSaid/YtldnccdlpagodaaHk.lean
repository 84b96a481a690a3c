/-
  YtldnccdlpagodaaHk: HeightsOk: what it means, and the program's.
-/
import Derived.Test.YtldnccdlpagodaaHS
import Derived.Test.YtldnccdlpagodaaEx
import Derived.Test.YtldnccdlpagodaaBl
namespace Go.Proofs.Ytldnccdlpagodaa
open Go.RowKit

def Reg.inn (R : Reg) (s : Sd) : Bool := R.at s.lx s.ly && R.at s.rx s.ry
def sdD (hs : List Int) (f t : Nat) : Int := wrap64 (hs.getD t 0 - hs.getD f 0)
def SdOk (R : Reg) (hs : List Int) (s : Sd) : Prop := sdD hs s.f.toNat s.t.toNat = sg s.lx s.ly ∨ (R.inn s = true ∧ sdD hs s.f.toNat s.t.toNat = -3 * sg s.lx s.ly)
def UsedTo (R : Reg) (k i : Nat) : Prop := ∃ (j : Nat) (s : Sd), j < k ∧ (sidesOf R)[j]? = some s ∧ (s.f = (i : Nat) ∨ s.t = (i : Nat))
def UsedC (R : Reg) (i : Nat) : Prop := UsedTo R (sidesOf R).length i
def FirstU (R : Reg) (i : Nat) : Prop := UsedC R i ∧ ∀ j, j < i → ¬ UsedC R j
structure HOk (R : Reg) (hs : List Int) : Prop where
  len : hs.length = R.cn
  sd : ∀ (k : Nat) s, k < (sidesOf R).length → (sidesOf R)[k]? = some s → SdOk R hs s
  rng : ∀ i, i < R.cn → UsedC R i → -60 ≤ hs.getD i 0 ∧ hs.getD i 0 ≤ 60
  no : ∀ i, i < R.cn → ¬ UsedC R i → hs.getD i 0 = 99
  fst : ∀ i, i < R.cn → FirstU R i → hs.getD i 0 = 0

theorem side_at {R : Reg} (hR : R.ok) {s : Sd} (hs : s ∈ sidesOf R) : ∃ f t : Nat, SdAt R s f t := by
  obtain ⟨x, y, hx, hy, _, h⟩ := mem_sides hs (Nat.le_refl _)
  rcases h with h | h
  · obtain ⟨hu, rfl⟩ := sideE_mem h
    exact ⟨_, _, (sideE_at hR hy hu).2⟩
  · obtain ⟨hu, rfl⟩ := sideN_mem h
    exact ⟨_, _, (sideN_at hR hx hu).2⟩

def UsedL (R : Reg) (k : Nat) (O : List Bool) : Prop := O.length = R.cn ∧ ∀ i, i < R.cn → (O.getD i false = true ↔ UsedTo R k i)
theorem usedL_start (R : Reg) : UsedL R 0 (List.replicate R.cn false) := by
  refine ⟨by simp, fun i hi => ?_⟩
  constructor
  · intro h
    rw [List.getD_eq_getElem?_getD, List.getElem?_replicate, if_pos hi] at h
    cases h
  · rintro ⟨j, s, hj, _⟩
    omega
theorem getDb_set {O : List Bool} {j i : Nat} (hj : j < O.length) (v : Bool) : (O.set j v).getD i false = if i = j then v else O.getD i false := by
  rw [List.getD_eq_getElem?_getD, List.getD_eq_getElem?_getD, List.getElem?_set]
  by_cases h : j = i
  · subst h
    rw [if_pos rfl, if_pos rfl, if_pos hj]; rfl
  · rw [if_neg h, if_neg (Ne.symm h)]
theorem usedL_next {R : Reg} {k : Nat} {O : List Bool} (h : UsedL R k O) {s : Sd} (hs : (sidesOf R)[k]? = some s) {f t : Nat} (ha : SdAt R s f t) : UsedL R (k + 1) ((O.set f true).set t true) := by
  refine ⟨by simp [h.1], fun i hi => ?_⟩
  rw [getDb_set (by simp [h.1]; exact ha.tl), getDb_set (by rw [h.1]; exact ha.fl)]
  constructor
  · intro hv
    by_cases h1 : i = t
    · subst h1; exact ⟨k, s, by omega, hs, .inr ha.te⟩
    · by_cases h2 : i = f
      · subst h2; exact ⟨k, s, by omega, hs, .inl ha.fe⟩
      · rw [if_neg h1, if_neg h2] at hv
        obtain ⟨j, s', hj, hjs, e⟩ := (h.2 i hi).1 hv
        exact ⟨j, s', by omega, hjs, e⟩
  · rintro ⟨j, s', hj, hjs, e⟩
    by_cases hjk : j = k
    · subst hjk
      rw [hs] at hjs
      injection hjs with hjs
      subst hjs
      rw [ha.fe, ha.te] at e
      split
      · rfl
      · split
        · rfl
        · omega
    · split
      · rfl
      · split
        · rfl
        · exact (h.2 i hi).2 ⟨j, s', by omega, hjs, e⟩
theorem usedL_end {R : Reg} {O : List Bool} (h : UsedL R (sidesOf R).length O) {i : Nat} (hi : i < R.cn) : O.getD i false = true ↔ UsedC R i := h.2 i hi

/-- Some corner is used: the first one. -/
theorem firstU_ex {R : Reg} (hR : R.ok) (hI : InConn R) : ∃ i, i < R.cn ∧ FirstU R i := by
  obtain ⟨x0, y0, h0⟩ := first_ex hR hI
  have hm : (⟨(R.ci x0 y0 : Nat), ((R.ci x0 y0 : Nat) : Int) + 1, x0, y0, x0, (y0 : Int) - 1⟩ : Sd) ∈ sidesOf R := by
    have hc := first_cell hR h0
    unfold sidesOf sidesTo
    rw [List.mem_flatMap]
    refine ⟨R.ci x0 y0, List.mem_range.2 (ci_lt h0.1 h0.2.1), ?_⟩
    unfold sidesAt
    rw [ci_mod y0 h0.1, ci_div y0 h0.1, List.mem_append]
    left
    unfold sideE; rw [hc]; simp
  obtain ⟨k, hk⟩ := List.getElem?_of_mem hm
  have hu : UsedC R (R.ci x0 y0) := ⟨k, _, (List.getElem?_eq_some_iff.1 hk).1, hk, .inl rfl⟩
  obtain ⟨i, hi, hl⟩ := least (P := UsedC R) ⟨_, hu⟩
  exact ⟨i, Nat.lt_of_le_of_lt (hl _ hu) (ci_lt h0.1 h0.2.1), hi, fun j hj hu' => by have := hl j hu'; omega⟩

noncomputable def hokB (W T : Int) (bs : List Bool) (hs : List Int) : Bool := by
  classical
  exact decide (∃ R : Reg, R.ok ∧ SimpleP R ∧ W = R.W ∧ T = R.T ∧ bs = R.C ∧ HOk R hs)
theorem hokB_iff {W T : Int} {bs : List Bool} {hs : List Int} : hokB W T bs hs = true ↔ ∃ R : Reg, R.ok ∧ SimpleP R ∧ W = R.W ∧ T = R.T ∧ bs = R.C ∧ HOk R hs := by
  unfold hokB
  simp
theorem hokB_ok {R : Reg} (hR : R.ok) (hS : SimpleP R) {hs : List Int} : hokB R.W R.T R.C hs = true ↔ HOk R hs := by
  rw [hokB_iff]
  constructor
  · rintro ⟨R', _, _, h1, h2, h3, h4⟩
    have e : R' = R := by
      cases R; cases R'
      simp only [Reg.mk.injEq]
      exact ⟨(Int.ofNat.inj h1).symm, (Int.ofNat.inj h2).symm, h3.symm⟩
    rw [← e]; exact h4
  · exact fun h => ⟨R, hR, hS, rfl, rfl, rfl, h⟩
theorem hokB_no {R : Reg} (hR : R.ok) (hS : SimpleP R) {hs : List Int} (h : ¬ HOk R hs) : hokB R.W R.T R.C hs = false := by
  cases hb : hokB R.W R.T R.C hs with
  | false => rfl
  | true => exact absurd ((hokB_ok hR hS).1 hb) h
theorem hokB_s {W T : Int} {bs : List Bool} {hs : List Int} (h : simpleB W T bs = false) : hokB W T bs hs = false := by
  cases hb : hokB W T bs hs with
  | false => rfl
  | true =>
    obtain ⟨R, hR, hS, rfl, rfl, rfl, _⟩ := hokB_iff.1 hb
    rw [(simple_of hR).2 hS] at h
    cases h

end Go.Proofs.Ytldnccdlpagodaa
