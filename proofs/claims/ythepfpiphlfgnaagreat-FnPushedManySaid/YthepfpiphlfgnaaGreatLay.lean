/-
  YthepfpiphlfgnaaGreatLay: lists that lay dominoes: what the program and the reference say of them.
-/
import Derived.Test.YthepfpiphlfgnaaGreatSd
import Derived.Test.YthepfpiphlfgnaaGreatSpec
namespace Go.Proofs.YthepfpiphlfgnaaGreat
open Go.RowKit

/-! ### Plain -/
def layAtB (R : Reg) (L : List Int) (k : Nat) : Bool :=
  decide (L.getD k 0 = 0) || (decide (0 ≤ R.step k (L.getD k 0)) && (R.C.getD k false && (R.C.getD (R.step k (L.getD k 0)).toNat false && decide (L.getD (R.step k (L.getD k 0)).toNat 0 = back (L.getD k 0)))))
def laysB (R : Reg) (L : List Int) : Bool := decide (L.length = R.C.length) && (List.range R.C.length).all (layAtB R L)
def fullAtB (R : Reg) (L : List Int) (k : Nat) : Bool := !R.C.getD k false || decide (L.getD k 0 ≠ 0)
def fullB (R : Reg) (L : List Int) : Bool := (List.range R.C.length).all (fullAtB R L)

theorem getD_cell {R : Reg} {k : Nat} : R.C.getD k false = true ↔ R.cell k := by
  unfold Reg.cell
  rw [List.getD_eq_getElem?_getD]
  cases R.C[k]? with
  | none => simp
  | some b => simp
theorem layAtB_iff {R : Reg} {L : List Int} {k : Nat} : layAtB R L k = true ↔ LayAt R L k := by
  unfold layAtB LayAt
  rw [Bool.or_eq_true, decide_eq_true_eq]
  refine or_congr Iff.rfl ?_
  simp only [Bool.and_eq_true, decide_eq_true_eq, getD_cell]
  constructor
  · rintro ⟨h1, h2, h3, h4⟩
    obtain ⟨e, he⟩ := Int.eq_ofNat_of_zero_le h1
    refine ⟨e, he, h2, ?_, ?_⟩
    · rw [he] at h3; exact h3
    · rw [← h4, he]; rfl
  · rintro ⟨e, he, h2, h3, h4⟩
    refine ⟨by rw [he]; omega, h2, ?_, ?_⟩
    · rw [he]; exact h3
    · rw [← h4, he]; rfl
theorem laysB_iff {R : Reg} (hR : R.ok) {L : List Int} : laysB R L = true ↔ Lay R L := by
  unfold laysB
  rw [Bool.and_eq_true, decide_eq_true_eq, List.all_eq_true]
  constructor
  · rintro ⟨h1, h2⟩
    exact lay_of hR h1 fun k hk => layAtB_iff.1 (h2 k (List.mem_range.2 hk))
  · intro h
    exact ⟨h.len, fun k hk => layAtB_iff.2 (layAt_of hR h (List.mem_range.1 hk))⟩
theorem fullB_iff {R : Reg} (hR : R.ok) {L : List Int} : fullB R L = true ↔ Full R L := by
  unfold fullB Full
  rw [List.all_eq_true]
  constructor
  · intro h x y hxy
    obtain ⟨a, b, rfl, rfl, ha, hb, hc⟩ := at_cell hR hxy
    have := h (b * R.W + a) (List.mem_range.2 (idx_lt hR ha hb))
    unfold fullAtB at this
    rw [getD_cell.2 hc] at this
    rw [way_in ha hb]
    simpa using this
  · intro h k hk
    have hk' := List.mem_range.1 hk
    unfold fullAtB
    by_cases hc : R.cell k
    · have := h _ _ (cell_at' hR hc)
      rw [way_in (xy_lt hR hk').1 (xy_lt hR hk').2, xy_eq] at this
      simp only [Bool.or_eq_true, decide_eq_true_eq]
      exact .inr this
    · simp only [Bool.or_eq_true, Bool.not_eq_true']
      left
      rw [Bool.eq_false_iff]
      exact fun h => hc (getD_cell.1 h)
theorem laysB_no {R : Reg} {L : List Int} {k : Nat} (hk : k < R.C.length) (h : layAtB R L k = false) : laysB R L = false := by
  unfold laysB
  rw [Bool.and_eq_false_iff]
  right
  rw [Bool.eq_false_iff]
  intro ha
  rw [List.all_eq_true] at ha
  have := ha k (List.mem_range.2 hk)
  rw [h] at this; cases this
theorem laysB_yes {R : Reg} {L : List Int} (hl : L.length = R.C.length) (h : ∀ k, k < R.C.length → layAtB R L k = true) : laysB R L = true := by
  unfold laysB
  rw [Bool.and_eq_true, decide_eq_true_eq, List.all_eq_true]
  exact ⟨hl, fun k hk => h k (List.mem_range.1 hk)⟩
theorem fullB_no {R : Reg} {L : List Int} {k : Nat} (hk : k < R.C.length) (h : fullAtB R L k = false) : fullB R L = false := by
  unfold fullB
  rw [Bool.eq_false_iff]
  intro ha
  rw [List.all_eq_true] at ha
  have := ha k (List.mem_range.2 hk)
  rw [h] at this; cases this
theorem fullB_yes {R : Reg} {L : List Int} (h : ∀ k, k < R.C.length → fullAtB R L k = true) : fullB R L = true := by
  unfold fullB
  rw [List.all_eq_true]
  exact fun k hk => h k (List.mem_range.1 hk)
/-- .. for a region by its parts. -/
def laidB (W T : Int) (bs : List Bool) (L : List Int) : Bool := validB W T bs && laysB ⟨W.toNat, T.toNat, bs⟩ L
def tilingB (W T : Int) (bs : List Bool) (L : List Int) : Bool := laidB W T bs L && fullB ⟨W.toNat, T.toNat, bs⟩ L
theorem laidB_no {W T : Int} {bs : List Bool} {L : List Int} (h : validB W T bs = false) : laidB W T bs L = false := by unfold laidB; rw [h]; rfl
theorem tilingB_no {W T : Int} {bs : List Bool} {L : List Int} (h : laidB W T bs L = false) : tilingB W T bs L = false := by unfold tilingB; rw [h]; rfl
theorem laidB_ok {R : Reg} (hR : R.ok) (L : List Int) : laidB R.W R.T R.C L = laysB R L := by
  unfold laidB; rw [valid_of_ok hR]; simp
theorem tilingB_ok {R : Reg} (hR : R.ok) (L : List Int) : tilingB R.W R.T R.C L = (laysB R L && fullB R L) := by
  unfold tilingB; rw [laidB_ok hR]; simp

/-! ### Small functions -/
theorem back_any (way : Int) (h : 1 ≤ way ∧ way ≤ 4) (w : World) :
    Calls Tryz.prog 90 #[.int .i64 way] w fun e w' => e = .returned (.int .i64 (back way)) ∧ w = w' := by
  obtain ⟨h1, h2⟩ := h
  have HB : Hid (back way = (way + 1) % 4 + 1) := Lib.hid rfl
  go_enter Tryz.func90, Tryz.ntmps90
  go_wp2_with fail
  go_ret
  exact ⟨ret_int (by rw [HB.out]), rfl⟩

theorem backS_any (way : Int) (h : 1 ≤ way ∧ way ≤ 4) (w : World) :
    Calls Tryz.prog 75 #[.int .i64 way] w fun e w' => e = .returned (.int .i64 (back way)) ∧ w = w' := by
  obtain ⟨h1, h2⟩ := h
  have HB : Hid (back way = (way + 1) % 4 + 1) := Lib.hid rfl
  go_enter Tryz.func75, Tryz.ntmps75
  go_wp2_with fail
  go_ret
  exact ⟨ret_int (by rw [HB.out]), rfl⟩

theorem stepS_any (R : Reg) (hR : R.ok) (A : Option Addr) (k c : Nat) (j : Nat) (hj : j < R.C.length) (way : Int) (w : World) :
    Calls Tryz.prog 65 #[.agg #[.int .i64 R.W, .int .i64 R.T, .slice A k c], .int .i64 j, .int .i64 way] w fun e w' => e = .returned (.int .i64 (R.step j way)) ∧ Below w.heap.size w w' := by
  have hP := place_of hR hj
  have hmod := hP.mod
  have hdiv := hP.div
  have hW := hR.1
  have hW6 := hR.2.1
  have hT := hR.2.2.1
  have hT6 := hR.2.2.2.1
  have hlen := (len_bd hR).2
  have hw0 : ((R.W : Int) == 0) = false := by simp; omega
  have ex : (j : Int) % (R.W : Int) = ((j % R.W : Nat) : Int) := by simp
  have ey : (j : Int) / (R.W : Int) = ((j / R.W : Nat) : Int) := by simp
  have hx := hP.col
  have hy := hP.row
  have hpm : ∀ x y, R.place j x y → True := fun _ _ _ => trivial
  clear hmod hdiv hpm
  generalize j % R.W = x at *
  generalize j / R.W = y at *
  have EX := Lib.hid ex
  have EY := Lib.hid ey
  clear ex ey
  have m1 : 0 ≤ (j : Int) % (R.W : Int) := by rw [EX.out]; omega
  have m2 : (j : Int) % (R.W : Int) ≤ 6 := by rw [EX.out]; omega
  have m3 : 0 ≤ (j : Int) / (R.W : Int) := by rw [EY.out]; omega
  have m4 : (j : Int) / (R.W : Int) ≤ 6 := by rw [EY.out]; omega
  by_cases w1 : way = 1
  · subst w1
    have S := Lib.hid (step_1 hP)
    by_cases hc : x + 1 < R.W
    · have c1 : decide ((j : Int) % (R.W : Int) < (R.W : Int) - 1) = true := by rw [decide_eq_true_eq, EX.out]; omega
      go_enter Tryz.func65, Tryz.ntmps65
      go_wp2_with fail
      go_quiet (fail)
      go_wp2_with fail
      go_ret
      exact ⟨ret_int (by rw [S.out, if_pos hc]), by repeat (first | exact (Below.refl _ _).alloc (Nat.le_refl _) _ | apply below_drewN)⟩
    · have c1 : decide ((j : Int) % (R.W : Int) < (R.W : Int) - 1) = false := by rw [decide_eq_false_iff_not, EX.out]; omega
      go_enter Tryz.func65, Tryz.ntmps65
      go_wp2_with fail
      go_quiet (fail)
      go_wp2_with fail
      go_quiet (fail)
      go_wp2_with fail
      go_ret
      exact ⟨ret_int (by rw [S.out, if_neg hc]), by repeat (first | exact (Below.refl _ _).alloc (Nat.le_refl _) _ | apply below_drewN)⟩
  by_cases w2 : way = 2
  · subst w2
    have S := Lib.hid (step_2 hP)
    by_cases hc : y + 1 < R.T
    · have c1 : decide ((j : Int) / (R.W : Int) < (R.T : Int) - 1) = true := by rw [decide_eq_true_eq, EY.out]; omega
      go_enter Tryz.func65, Tryz.ntmps65
      go_wp2_with fail
      go_quiet (fail)
      go_wp2_with fail
      go_quiet (fail)
      go_wp2_with fail
      go_ret
      exact ⟨ret_int (by rw [S.out, if_pos hc]), by repeat (first | exact (Below.refl _ _).alloc (Nat.le_refl _) _ | apply below_drewN)⟩
    · have c1 : decide ((j : Int) / (R.W : Int) < (R.T : Int) - 1) = false := by rw [decide_eq_false_iff_not, EY.out]; omega
      go_enter Tryz.func65, Tryz.ntmps65
      go_wp2_with fail
      go_quiet (fail)
      go_wp2_with fail
      go_quiet (fail)
      go_wp2_with fail
      go_ret
      exact ⟨ret_int (by rw [S.out, if_neg hc]), by repeat (first | exact (Below.refl _ _).alloc (Nat.le_refl _) _ | apply below_drewN)⟩
  by_cases w3 : way = 3
  · subst w3
    have S := Lib.hid (step_3 hP)
    by_cases hc : 0 < x
    · have c1 : decide (0 < (j : Int) % (R.W : Int)) = true := by rw [decide_eq_true_eq, EX.out]; omega
      go_enter Tryz.func65, Tryz.ntmps65
      go_wp2_with fail
      go_quiet (fail)
      go_wp2_with fail
      go_quiet (fail)
      go_wp2_with fail
      go_ret
      exact ⟨ret_int (by rw [S.out, if_pos hc]), by repeat (first | exact (Below.refl _ _).alloc (Nat.le_refl _) _ | apply below_drewN)⟩
    · have c1 : decide (0 < (j : Int) % (R.W : Int)) = false := by rw [decide_eq_false_iff_not, EX.out]; omega
      go_enter Tryz.func65, Tryz.ntmps65
      go_wp2_with fail
      go_quiet (fail)
      go_wp2_with fail
      go_quiet (fail)
      go_wp2_with fail
      go_ret
      exact ⟨ret_int (by rw [S.out, if_neg hc]), by repeat (first | exact (Below.refl _ _).alloc (Nat.le_refl _) _ | apply below_drewN)⟩
  by_cases w4 : way = 4
  · subst w4
    have S := Lib.hid (step_4 hP)
    by_cases hc : 0 < y
    · have c1 : decide (0 < (j : Int) / (R.W : Int)) = true := by rw [decide_eq_true_eq, EY.out]; omega
      go_enter Tryz.func65, Tryz.ntmps65
      go_wp2_with fail
      go_quiet (fail)
      go_wp2_with fail
      go_quiet (fail)
      go_wp2_with fail
      go_ret
      exact ⟨ret_int (by rw [S.out, if_pos hc]), by repeat (first | exact (Below.refl _ _).alloc (Nat.le_refl _) _ | apply below_drewN)⟩
    · have c1 : decide (0 < (j : Int) / (R.W : Int)) = false := by rw [decide_eq_false_iff_not, EY.out]; omega
      go_enter Tryz.func65, Tryz.ntmps65
      go_wp2_with fail
      go_quiet (fail)
      go_wp2_with fail
      go_quiet (fail)
      go_wp2_with fail
      go_ret
      exact ⟨ret_int (by rw [S.out, if_neg hc]), by repeat (first | exact (Below.refl _ _).alloc (Nat.le_refl _) _ | apply below_drewN)⟩
  have S := Lib.hid (step_no (R := R) (j := j) (way := way) (by omega))
  have v1 : (way == 1) = false := by simpa using w1
  have v2 : (way == 2) = false := by simpa using w2
  have v3 : (way == 3) = false := by simpa using w3
  have v4 : (way == 4) = false := by simpa using w4
  clear w1 w2 w3 w4
  go_enter Tryz.func65, Tryz.ntmps65
  go_wp2_with fail
  go_quiet (fail)
  go_wp2_with fail
  go_quiet (fail)
  go_wp2_with fail
  go_ret
  exact ⟨ret_int (by rw [S.out]), by repeat (first | exact (Below.refl _ _).alloc (Nat.le_refl _) _ | apply below_drewN)⟩

/-! ### lays, full -/
theorem getB {w : World} {B n k : Nat} {A : Option Addr} {bs : List Bool} (h : Reads w B 1 A n (bs.map Value.bool)) (hk : k < n) :
    ∃ ad, A = some ad ∧ ad.block < B ∧ w.cell? (ad.add k) = some (.bool (bs.getD k false)) := by
  obtain ⟨ad, u, e, hb, hx, hc⟩ := h.at_ hk
  refine ⟨ad, e, hb, ?_⟩
  rw [hc]
  rw [List.getElem?_map] at hx
  rw [List.getD_eq_getElem?_getD]
  cases hl : bs[k]? with
  | none => rw [hl] at hx; cases hx
  | some x => rw [hl] at hx; simp at hx; simp [hx]





end Go.Proofs.YthepfpiphlfgnaaGreat
