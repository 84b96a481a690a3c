/-
  YtbonmnfmlobpbaaReg: the small methods of a region: xy, step, at, and their fellows in the reference.
-/
import Derived.Test.YtbonmnfmlobpbaaBox
import Derived.Test.YtbonmnfmlobpbaaM1
namespace Go.Proofs.Ytbonmnfmlobpbaa
open Go.RowKit

/-- A cell by its column and its row. -/
structure Reg.place (R : Reg) (j x y : Nat) : Prop where
  col : x < R.W
  row : y < R.T
  eq : j = y * R.W + x
theorem place_of {R : Reg} (hR : R.ok) {j : Nat} (hj : j < R.C.length) : R.place j (j % R.W) (j / R.W) := ⟨(xy_lt hR hj).1, (xy_lt hR hj).2, (xy_eq j R.W).symm⟩
theorem Reg.place.mod {R : Reg} {j x y : Nat} (h : R.place j x y) : j % R.W = x := by rw [h.eq]; exact mk_mod y h.col
theorem Reg.place.div {R : Reg} {j x y : Nat} (h : R.place j x y) : j / R.W = y := by rw [h.eq]; exact mk_div y h.col
theorem Reg.place.lt {R : Reg} {j x y : Nat} (hR : R.ok) (h : R.place j x y) : j < R.C.length := by rw [h.eq]; exact idx_lt hR h.col h.row
theorem prod_bd {a b : Nat} (ha : a ≤ 7) (hb : b ≤ 7) : (0 : Int) ≤ (a : Int) * (b : Int) ∧ (a : Int) * (b : Int) ≤ 49 := by
  have h : a * b ≤ 7 * 7 := Nat.mul_le_mul ha hb
  have e : (a : Int) * (b : Int) = ((a * b : Nat) : Int) := by simp
  omega

theorem xy_any (R : Reg) (hR : R.ok) (A : Option Addr) (k c : Nat) (j x y : Nat) (hj : R.place j x y) (w : World) :
    Calls Try.prog 136 #[.agg #[.int .i64 R.W, .int .i64 R.T, .slice A k c], .int .i64 j] w fun e w' => e = .returned (.tuple #[.int .i64 x, .int .i64 y]) ∧ Below w.heap.size w w' := by
  have hW := hR.1
  have hW6 := hR.2.1
  have hl := (len_bd hR).2
  have hjl := hj.lt hR
  have hWn : ((R.W : Int) == 0) = false := by simp; omega
  have e1 : (j : Int) % (R.W : Int) = (x : Int) := by rw [← hj.mod]; simp
  have e2 : (j : Int) / (R.W : Int) = (y : Int) := by rw [← hj.div]; simp
  have e3 : wrap64 (y : Int) = (y : Int) := IntWalk.wrap64_in _ (by have := hj.row; have := hR.2.2.2.1; omega)
  have E1 := Lib.hid e1
  have E3 := Lib.hid e3
  clear e1 e3
  go_enter Try.func136, Try.ntmps136
  go_wp2
  go_quiet (fail)
  go_wp2
  go_ret2
  exact ⟨by show Ending.returned (.tuple #[.int .i64 ((j : Int) % (R.W : Int)), .int .i64 (wrap64 (y : Int))]) = _; rw [E1.out, E3.out], below_drewN ((Below.refl _ _).alloc (Nat.le_refl _) _) _⟩

theorem step_1 {R : Reg} {j x y : Nat} (h : R.place j x y) : R.step j 1 = if x + 1 < R.W then (j : Int) + 1 else -1 := by unfold Reg.step; rw [h.mod]; rfl
theorem step_2 {R : Reg} {j x y : Nat} (h : R.place j x y) : R.step j 2 = if y + 1 < R.T then (j : Int) + R.W else -1 := by unfold Reg.step; rw [h.div]; rfl
theorem step_3 {R : Reg} {j x y : Nat} (h : R.place j x y) : R.step j 3 = if 0 < x then (j : Int) - 1 else -1 := by unfold Reg.step; rw [h.mod]; rfl
theorem step_4 {R : Reg} {j x y : Nat} (h : R.place j x y) : R.step j 4 = if 0 < y then (j : Int) - R.W else -1 := by unfold Reg.step; rw [h.div]; rfl
theorem step_no {R : Reg} {j : Nat} {way : Int} (h : ¬ (1 ≤ way ∧ way ≤ 4)) : R.step j way = -1 := by
  unfold Reg.step
  rw [if_neg (by omega), if_neg (by omega), if_neg (by omega), if_neg (by omega)]

/-- 'step': the cell in a direction. -/
theorem step_any (R : Reg) (hR : R.ok) (A : Option Addr) (k c : Nat) (j : Nat) (hj : j < R.C.length) (way : Int) (w : World) :
    Calls Try.prog 103 #[.agg #[.int .i64 R.W, .int .i64 R.T, .slice A k c], .int .i64 j, .int .i64 way] w fun e w' => e = .returned (.int .i64 (R.step j way)) ∧ Below w.heap.size w w' := by
  have hP := place_of hR hj
  generalize j % R.W = x at hP
  generalize j / R.W = y at hP
  have hW := hR.1
  have hW6 := hR.2.1
  have hT := hR.2.2.1
  have hT6 := hR.2.2.2.1
  have hx := hP.col
  have hy := hP.row
  have hq : (j : Int) = (y : Int) * (R.W : Int) + (x : Int) := by rw [hP.eq]; simp
  have Q := Lib.hid hq
  have hl := (len_bd hR).2
  obtain ⟨p0, p1⟩ := prod_bd (a := y) (b := R.W) (by omega) (by omega)
  clear hq
  by_cases w1 : way = 1
  · subst w1
    have S := Lib.hid (step_1 hP)
    by_cases hc : x + 1 < R.W
    · have I1 : inB ((x : Int) + 1) 0 ((R.W : Int) - 1) = true := inB_t (by omega)
      have I2 : inB (y : Int) 0 ((R.T : Int) - 1) = true := inB_t (by omega)
      go_enter Try.func103, Try.ntmps103
      go_wp2_with (first
        | (go_at_call 136; refine (xy_any R hR A k c j x y hP _).mono ?_; rintro e w1 ⟨rfl, hb⟩; simp only [World.size_alloc] at hb; obtain ⟨hcc, hcf⟩ := bcell hb)
        | (go_at_call 83; refine (in_any _ _ _ _).mono ?_; rintro e w' ⟨rfl, rfl⟩))
      go_ret
      exact ⟨ret_int (by rw [S.out, if_pos hc, Q.out]; omega), ((Below.refl _ _).alloc (Nat.le_refl _) _).trans (hb.mono (by omega))⟩
    · have I1 : inB ((x : Int) + 1) 0 ((R.W : Int) - 1) = false := inB_f (by omega)
      go_enter Try.func103, Try.ntmps103
      go_wp2_with (first
        | (go_at_call 136; refine (xy_any R hR A k c j x y hP _).mono ?_; rintro e w1 ⟨rfl, hb⟩; simp only [World.size_alloc] at hb; obtain ⟨hcc, hcf⟩ := bcell hb)
        | (go_at_call 83; refine (in_any _ _ _ _).mono ?_; rintro e w' ⟨rfl, rfl⟩))
      go_ret
      exact ⟨ret_int (by rw [S.out, if_neg hc]), ((Below.refl _ _).alloc (Nat.le_refl _) _).trans (hb.mono (by omega))⟩
  by_cases w2 : way = 2
  · subst w2
    have S := Lib.hid (step_2 hP)
    have I1 : inB (x : Int) 0 ((R.W : Int) - 1) = true := inB_t (by omega)
    obtain ⟨p2, p3⟩ := prod_bd (a := y + 1) (b := R.W) (by omega) (by omega)
    simp only [Int.natCast_add, Int.natCast_one] at p2 p3
    have hm : ((y : Int) + 1) * (R.W : Int) = (y : Int) * (R.W : Int) + R.W := by rw [Int.add_mul, Int.one_mul]
    have M := Lib.hid hm
    clear hm
    by_cases hc : y + 1 < R.T
    · have I2 : inB ((y : Int) + 1) 0 ((R.T : Int) - 1) = true := inB_t (by omega)
      go_enter Try.func103, Try.ntmps103
      go_wp2_with (first
        | (go_at_call 136; refine (xy_any R hR A k c j x y hP _).mono ?_; rintro e w1 ⟨rfl, hb⟩; simp only [World.size_alloc] at hb; obtain ⟨hcc, hcf⟩ := bcell hb)
        | (go_at_call 83; refine (in_any _ _ _ _).mono ?_; rintro e w' ⟨rfl, rfl⟩))
      go_ret
      exact ⟨ret_int (by rw [S.out, if_pos hc, Q.out, M.out]; omega), ((Below.refl _ _).alloc (Nat.le_refl _) _).trans (hb.mono (by omega))⟩
    · have I2 : inB ((y : Int) + 1) 0 ((R.T : Int) - 1) = false := inB_f (by omega)
      go_enter Try.func103, Try.ntmps103
      go_wp2_with (first
        | (go_at_call 136; refine (xy_any R hR A k c j x y hP _).mono ?_; rintro e w1 ⟨rfl, hb⟩; simp only [World.size_alloc] at hb; obtain ⟨hcc, hcf⟩ := bcell hb)
        | (go_at_call 83; refine (in_any _ _ _ _).mono ?_; rintro e w' ⟨rfl, rfl⟩))
      go_ret
      exact ⟨ret_int (by rw [S.out, if_neg hc]), ((Below.refl _ _).alloc (Nat.le_refl _) _).trans (hb.mono (by omega))⟩
  by_cases w3 : way = 3
  · subst w3
    have S := Lib.hid (step_3 hP)
    by_cases hc : 0 < x
    · have I1 : inB ((x : Int) - 1) 0 ((R.W : Int) - 1) = true := inB_t (by omega)
      have I2 : inB (y : Int) 0 ((R.T : Int) - 1) = true := inB_t (by omega)
      go_enter Try.func103, Try.ntmps103
      go_wp2_with (first
        | (go_at_call 136; refine (xy_any R hR A k c j x y hP _).mono ?_; rintro e w1 ⟨rfl, hb⟩; simp only [World.size_alloc] at hb; obtain ⟨hcc, hcf⟩ := bcell hb)
        | (go_at_call 83; refine (in_any _ _ _ _).mono ?_; rintro e w' ⟨rfl, rfl⟩))
      go_ret
      exact ⟨ret_int (by rw [S.out, if_pos hc, Q.out]; omega), ((Below.refl _ _).alloc (Nat.le_refl _) _).trans (hb.mono (by omega))⟩
    · have I1 : inB ((x : Int) - 1) 0 ((R.W : Int) - 1) = false := inB_f (by omega)
      go_enter Try.func103, Try.ntmps103
      go_wp2_with (first
        | (go_at_call 136; refine (xy_any R hR A k c j x y hP _).mono ?_; rintro e w1 ⟨rfl, hb⟩; simp only [World.size_alloc] at hb; obtain ⟨hcc, hcf⟩ := bcell hb)
        | (go_at_call 83; refine (in_any _ _ _ _).mono ?_; rintro e w' ⟨rfl, rfl⟩))
      go_ret
      exact ⟨ret_int (by rw [S.out, if_neg hc]), ((Below.refl _ _).alloc (Nat.le_refl _) _).trans (hb.mono (by omega))⟩
  by_cases w4 : way = 4
  · subst w4
    have S := Lib.hid (step_4 hP)
    have I1 : inB (x : Int) 0 ((R.W : Int) - 1) = true := inB_t (by omega)
    by_cases hc : 0 < y
    · have I2 : inB ((y : Int) - 1) 0 ((R.T : Int) - 1) = true := inB_t (by omega)
      have hm : ((y : Int) - 1) * (R.W : Int) = (y : Int) * (R.W : Int) - R.W := by rw [Int.sub_mul, Int.one_mul]
      have p2 : 0 ≤ ((y : Int) - 1) * (R.W : Int) := Int.mul_nonneg (by omega) (by omega)
      have p3 : ((y : Int) - 1) * (R.W : Int) ≤ 49 := by omega
      have M := Lib.hid hm
      clear hm
      go_enter Try.func103, Try.ntmps103
      go_wp2_with (first
        | (go_at_call 136; refine (xy_any R hR A k c j x y hP _).mono ?_; rintro e w1 ⟨rfl, hb⟩; simp only [World.size_alloc] at hb; obtain ⟨hcc, hcf⟩ := bcell hb)
        | (go_at_call 83; refine (in_any _ _ _ _).mono ?_; rintro e w' ⟨rfl, rfl⟩))
      go_ret
      exact ⟨ret_int (by rw [S.out, if_pos hc, Q.out, M.out]; omega), ((Below.refl _ _).alloc (Nat.le_refl _) _).trans (hb.mono (by omega))⟩
    · have I2 : inB ((y : Int) - 1) 0 ((R.T : Int) - 1) = false := inB_f (by omega)
      go_enter Try.func103, Try.ntmps103
      go_wp2_with (first
        | (go_at_call 136; refine (xy_any R hR A k c j x y hP _).mono ?_; rintro e w1 ⟨rfl, hb⟩; simp only [World.size_alloc] at hb; obtain ⟨hcc, hcf⟩ := bcell hb)
        | (go_at_call 83; refine (in_any _ _ _ _).mono ?_; rintro e w' ⟨rfl, rfl⟩))
      go_ret
      exact ⟨ret_int (by rw [S.out, if_neg hc]), ((Below.refl _ _).alloc (Nat.le_refl _) _).trans (hb.mono (by omega))⟩
  have S := Lib.hid (step_no (R := R) (j := j) (way := way) (by omega))
  have v1 : (way == 1) = false := by simpa using w1
  have v2 : (way == 2) = false := by simpa using w2
  have v3 : (way == 3) = false := by simpa using w3
  have v4 : (way == 4) = false := by simpa using w4
  clear w1 w2 w3 w4
  go_enter Try.func103, Try.ntmps103
  go_wp2_with (first
    | (go_at_call 136; refine (xy_any R hR A k c j x y hP _).mono ?_; rintro e w1 ⟨rfl, hb⟩; simp only [World.size_alloc] at hb; obtain ⟨hcc, hcf⟩ := bcell hb))
  go_ret
  exact ⟨ret_int (by rw [S.out]), ((Below.refl _ _).alloc (Nat.le_refl _) _).trans (hb.mono (by omega))⟩

/-! ### at -/
theorem at_any (R : Reg) (hR : R.ok) (A : Option Addr) (c B : Nat) (x y : Int) (hx : -100 ≤ x ∧ x ≤ 100) (hy : -100 ≤ y ∧ y ≤ 100) (w : World) (hr : Reads w B 1 A R.C.length (R.C.map Value.bool)) (hB : B ≤ w.heap.size) :
    Calls Try.prog 134 #[.agg #[.int .i64 R.W, .int .i64 R.T, .slice A R.C.length c], .int .i64 x, .int .i64 y] w fun e w' => e = .returned (.bool (R.at x y)) ∧ Below w.heap.size w w' := by
  have hW := hR.1
  have hW6 := hR.2.1
  have hT := hR.2.2.1
  have hT6 := hR.2.2.2.1
  obtain ⟨hx0, hx1⟩ := hx
  obtain ⟨hy0, hy1⟩ := hy
  by_cases h1 : 0 ≤ x ∧ x ≤ (R.W : Int) - 1
  · have I1 := inB_t h1
    by_cases h2 : 0 ≤ y ∧ y ≤ (R.T : Int) - 1
    · have I2 := inB_t h2
      obtain ⟨x, rfl⟩ := Int.eq_ofNat_of_zero_le h1.1
      obtain ⟨y, rfl⟩ := Int.eq_ofNat_of_zero_le h2.1
      have hxl : x < R.W := by omega
      have hyl : y < R.T := by omega
      have S := Lib.hid (at_in hxl hyl)
      have hlt := idx_lt hR hxl hyl
      have hl := (len_bd hR).2
      obtain ⟨p0, p1⟩ := prod_bd (a := y) (b := R.W) (by omega) (by omega)
      obtain ⟨ad, u, rfl, hab, hu, hcell⟩ := hr.at_ hlt
      have hu' : u = .bool (R.C.getD (y * R.W + x) false) := by
        rw [List.getElem?_map, List.getElem?_eq_getElem hlt] at hu
        simp at hu
        rw [List.getD_eq_getElem?_getD, List.getElem?_eq_getElem hlt]
        exact hu.symm
      subst hu'
      generalize R.C.getD (y * R.W + x) false = b at hcell S
      have hcell' : ∀ o, (w.alloc o).cell? (ad.add (y * R.W + x)) = some (.bool b) := fun o => (World.cell?_alloc_lt w o _ (by rw [block_of_add]; omega)).trans hcell
      clear hu hr
      go_enter Try.func134, Try.ntmps134
      go_wp2_with (first
        | (go_at_call 83; refine (in_any _ _ _ _).mono ?_; rintro e w' ⟨rfl, rfl⟩))
      go_ret
      exact ⟨ret_bool (by rw [S.out]), (Below.refl _ _).alloc (Nat.le_refl _) _⟩
    · have I2 := inB_f h2
      have S := Lib.hid (at_out (R := R) (x := x) (y := y) (by omega))
      clear h2
      go_enter Try.func134, Try.ntmps134
      go_wp2_with (first
        | (go_at_call 83; refine (in_any _ _ _ _).mono ?_; rintro e w' ⟨rfl, rfl⟩))
      go_ret
      exact ⟨ret_bool (by rw [S.out]), (Below.refl _ _).alloc (Nat.le_refl _) _⟩
  · have I1 := inB_f h1
    have S := Lib.hid (at_out (R := R) (x := x) (y := y) (by omega))
    clear h1
    go_enter Try.func134, Try.ntmps134
    go_wp2_with (first
      | (go_at_call 83; refine (in_any _ _ _ _).mono ?_; rintro e w' ⟨rfl, rfl⟩))
    go_ret
    exact ⟨ret_bool (by rw [S.out]), (Below.refl _ _).alloc (Nat.le_refl _) _⟩

end Go.Proofs.Ytbonmnfmlobpbaa
