/-
  YtbonmnfmlobpbaaM0: regions, tilings and their cells, in plain Lean: the definitions that all other texts share.
-/
import Derived.WalkKit
namespace Go.Proofs.Ytbonmnfmlobpbaa

def inB (n lo hi : Int) : Bool := decide (lo ≤ n ∧ n ≤ hi)
theorem inB_t {n lo hi : Int} (h : lo ≤ n ∧ n ≤ hi) : inB n lo hi = true := by simp [inB, h]
theorem inB_f {n lo hi : Int} (h : ¬ (lo ≤ n ∧ n ≤ hi)) : inB n lo hi = false := by simp only [inB, decide_eq_false_iff_not]; exact h

def cnt (bs : List Bool) : Nat := bs.countP (· == true)
theorem cnt_snoc (bs : List Bool) (b : Bool) : cnt (bs ++ [b]) = cnt bs + if b = true then 1 else 0 := by
  unfold cnt; rw [List.countP_append]; cases b <;> rfl
theorem cnt_take (bs : List Bool) (k : Nat) (h : k < bs.length) : cnt (bs.take (k + 1)) = cnt (bs.take k) + if bs[k] = true then 1 else 0 := by
  rw [List.take_succ_eq_append_getElem h, cnt_snoc]
theorem cnt_le (bs : List Bool) : cnt bs ≤ bs.length := List.countP_le_length

def validB (W T : Int) (bs : List Bool) : Bool := inB W 1 6 && inB T 1 6 && decide ((bs.length : Int) = W * T) && decide (cnt bs ≤ 24)
theorem mul_bd {a b : Int} (h1 : 1 ≤ a) (h2 : a ≤ 6) (h3 : 1 ≤ b) (h4 : b ≤ 6) : 1 ≤ a * b ∧ a * b ≤ 36 := by
  have ha : a = 1 ∨ a = 2 ∨ a = 3 ∨ a = 4 ∨ a = 5 ∨ a = 6 := by omega
  rcases ha with rfl | rfl | rfl | rfl | rfl | rfl <;> omega
theorem mul_bdN {a b : Nat} (h1 : 1 ≤ a) (h2 : a ≤ 6) (h3 : 1 ≤ b) (h4 : b ≤ 6) : 1 ≤ a * b ∧ a * b ≤ 36 := by
  have ha : a = 1 ∨ a = 2 ∨ a = 3 ∨ a = 4 ∨ a = 5 ∨ a = 6 := by omega
  rcases ha with rfl | rfl | rfl | rfl | rfl | rfl <;> omega
theorem valid_f1 {W T : Int} {bs : List Bool} (h : ¬ (1 ≤ W ∧ W ≤ 6)) : validB W T bs = false := by simp only [validB, inB_f h]; rfl
theorem valid_f2 {W T : Int} {bs : List Bool} (h : ¬ (1 ≤ T ∧ T ≤ 6)) : validB W T bs = false := by simp only [validB, inB_f h]; cases inB W 1 6 <;> rfl
theorem valid_3 {W T : Int} {bs : List Bool} (h1 : 1 ≤ W ∧ W ≤ 6) (h2 : 1 ≤ T ∧ T ≤ 6) : validB W T bs = (decide ((bs.length : Int) = W * T) && decide (cnt bs ≤ 24)) := by
  simp only [validB, inB_t h1, inB_t h2, Bool.true_and]

/-- A region: its field's sides, and for each cell whether it belongs to it. -/
structure Reg where
  W : Nat
  T : Nat
  C : List Bool

def Reg.ok (R : Reg) : Prop := 1 ≤ R.W ∧ R.W ≤ 6 ∧ 1 ≤ R.T ∧ R.T ≤ 6 ∧ R.C.length = R.W * R.T ∧ cnt R.C ≤ 24

theorem reg_of_valid {W T : Int} {bs : List Bool} (h : validB W T bs = true) : ∃ R : Reg, R.ok ∧ W = (R.W : Int) ∧ T = (R.T : Int) ∧ bs = R.C := by
  simp only [validB, inB, Bool.and_eq_true, decide_eq_true_eq] at h
  obtain ⟨⟨⟨⟨a, b⟩, c, d⟩, e⟩, f⟩ := h
  obtain ⟨W, rfl⟩ := Int.eq_ofNat_of_zero_le (show 0 ≤ W by omega)
  obtain ⟨T, rfl⟩ := Int.eq_ofNat_of_zero_le (show 0 ≤ T by omega)
  refine ⟨⟨W, T, bs⟩, ⟨by simp; omega, by simp; omega, by simp; omega, by simp; omega, by exact_mod_cast e, f⟩, rfl, rfl, rfl⟩
theorem valid_of_ok {R : Reg} (h : R.ok) : validB R.W R.T R.C = true := by
  obtain ⟨a, b, c, d, e, f⟩ := h
  simp only [validB, inB, Bool.and_eq_true, decide_eq_true_eq]
  refine ⟨⟨⟨⟨by omega, by omega⟩, by omega, by omega⟩, by rw [e]; simp⟩, f⟩

/-- Does the cell in a column and a row belong to a region? Outside of the field none does. -/
def Reg.at (R : Reg) (x y : Int) : Bool := decide (0 ≤ x ∧ x < R.W ∧ 0 ≤ y ∧ y < R.T) && R.C.getD (y * R.W + x).toNat false

/-- The cell beside a cell in a direction, -1 if there is none. -/
def Reg.step (R : Reg) (c : Nat) (way : Int) : Int :=
  if way = 1 then (if c % R.W + 1 < R.W then (c : Int) + 1 else -1)
  else if way = 2 then (if c / R.W + 1 < R.T then (c : Int) + R.W else -1)
  else if way = 3 then (if 0 < c % R.W then (c : Int) - 1 else -1)
  else if way = 4 then (if 0 < c / R.W then (c : Int) - R.W else -1)
  else -1

def back (way : Int) : Int := (way + 1) % 4 + 1

theorem at_out {R : Reg} {x y : Int} (h : ¬ (0 ≤ x ∧ x < R.W ∧ 0 ≤ y ∧ y < R.T)) : R.at x y = false := by
  simp only [Reg.at, decide_eq_false h, Bool.false_and]
theorem at_in {R : Reg} {x y : Nat} (hx : x < R.W) (hy : y < R.T) : R.at x y = R.C.getD (y * R.W + x) false := by
  simp only [Reg.at]
  rw [decide_eq_true (by omega), Bool.true_and]
  congr 1
theorem idx_lt {R : Reg} (hR : R.ok) {x y : Nat} (hx : x < R.W) (hy : y < R.T) : y * R.W + x < R.C.length := by
  rw [hR.2.2.2.2.1, Nat.mul_comm R.W R.T]
  calc y * R.W + x < y * R.W + R.W := by omega
    _ = (y + 1) * R.W := by rw [Nat.add_mul, Nat.one_mul]
    _ ≤ R.T * R.W := Nat.mul_le_mul_right _ hy
theorem len_bd {R : Reg} (hR : R.ok) : 1 ≤ R.C.length ∧ R.C.length ≤ 36 := by
  rw [hR.2.2.2.2.1]; exact mul_bdN hR.1 hR.2.1 hR.2.2.1 hR.2.2.2.1
theorem xy_lt {R : Reg} (hR : R.ok) {c : Nat} (hc : c < R.C.length) : c % R.W < R.W ∧ c / R.W < R.T := by
  have h := hR.2.2.2.2.1
  have h1 := hR.1
  refine ⟨Nat.mod_lt _ (by omega), ?_⟩
  rw [Nat.div_lt_iff_lt_mul (by omega), Nat.mul_comm]; omega
theorem xy_eq (c W : Nat) : c / W * W + c % W = c := by rw [Nat.mul_comm]; exact Nat.div_add_mod c W

end Go.Proofs.Ytbonmnfmlobpbaa
