/-
  YthepfpiphlfgnaaEdge: the reference's sides of cells, from a corner on.
-/
import Derived.Test.YthepfpiphlfgnaaLayS
import Derived.Test.YthepfpiphlfgnaaH2
import Derived.Test.YthepfpiphlfgnaaPo
namespace Go.Proofs.Ythepfpiphlfgnaa
open Go.RowKit

theorem rise_any_S (d a : Bool) (w : World) :
    Calls Try.prog 136 #[.bool d, .bool a] w fun e w' => e = .returned (.int .i64 (if a then (if d then -3 else 3) else (if d then 1 else -1))) ∧ w = w' := by
  cases d <;> cases a
  all_goals
    go_enter Try.func136, Try.ntmps136
    go_wp2_with fail
    go_ret
    exact ⟨rfl, rfl⟩

theorem sg_dark (x y : Int) : decide (sg x y = 1) = ((x + y) % 2 == 0) := by
  by_cases h : (x + y) % 2 = 0
  · rw [decide_eq_true (by unfold sg; rw [if_pos h]), h]; rfl
  · rw [decide_eq_false (by unfold sg; rw [if_neg h]; decide)]
    simp only [Bool.false_eq, beq_eq_false_iff_ne]; exact h

theorem darkS_any (x y : Int) (hx : -1 ≤ x ∧ x ≤ 7) (hy : 0 ≤ y ∧ y ≤ 7) (w : World) :
    Calls Try.prog 178 #[.int .i64 x, .int .i64 y] w fun e w' => e = .returned (.bool (decide (sg x y = 1))) ∧ w = w' := by
  obtain ⟨hx1, hx2⟩ := hx
  obtain ⟨hy1, hy2⟩ := hy
  have HS := Lib.hid (sg_dark x y)
  have h0 : 0 ≤ x + y + 2 := by omega
  go_enter Try.func178, Try.ntmps178
  go_wp2_with fail
  go_ret
  exact ⟨ret_bool (by rw [HS.out]), rfl⟩

/-- The index of a cell, -1 if it does not belong to a region. -/
def ixOf (R : Reg) (u v : Int) : Int := if R.at u v = true then v * R.W + u else -1

theorem results_tmp6 {fn : Func} {t u v x y z : Tmp} (h : fn.results = #[.tmp t, .tmp u, .tmp v, .tmp x, .tmp y, .tmp z]) (tmps : Array Value) (P : Program) (w : World) :
    (results fn tmps).run P w = .ok (.tuple #[tmps.getD t undef, tmps.getD u undef, tmps.getD v undef, tmps.getD x undef, tmps.getD y undef, tmps.getD z undef]) w := by simp [results, h]

theorem edgeE_any (R : Reg) (hR : R.ok) (A : Option Addr) (c B : Nat) (x y : Nat) (hx : x ≤ R.W) (hy : y ≤ R.T) (w : World) (hr : Reads w B 1 A R.C.length (R.C.map Value.bool)) (hB : B ≤ w.heap.size) :
    Calls Try.prog 135 #[.agg #[.int .i64 R.W, .int .i64 R.T, .slice A R.C.length c], .int .i64 (R.ci x y : Nat), .bool false] w fun e w' =>
      e = .returned (.tuple #[.int .i64 ((R.ci x y : Nat) + 1), .bool (R.at x y || R.at x ((y : Int) - 1)), .bool (R.at x y && R.at x ((y : Int) - 1)), .int .i64 (ixOf R x y), .int .i64 (ixOf R x ((y : Int) - 1)), .bool (decide (sg x y = 1))]) ∧ Below w.heap.size w w' := by
  have hW6 := hR.2.1
  have hT6 := hR.2.2.2.1
  have hcn := (cn_bd hR).2
  have hcl := ci_lt hx hy
  have em : ((R.ci x y : Nat) : Int) % ((R.W : Int) + 1) = (x : Int) := by
    have := int_mod (ci_mod y hx); simpa using this
  have ed : ((R.ci x y : Nat) : Int) / ((R.W : Int) + 1) = (y : Int) := by
    have := int_div (ci_div y hx); simpa using this
  have hnz : ((R.W : Int) + 1 == 0) = false := by simp; omega
  have EM := Lib.hid em
  have ED := Lib.hid ed
  have m1 : 0 ≤ ((R.ci x y : Nat) : Int) % ((R.W : Int) + 1) := by omega
  have m2 : ((R.ci x y : Nat) : Int) % ((R.W : Int) + 1) ≤ 7 := by omega
  have m3 : 0 ≤ ((R.ci x y : Nat) : Int) / ((R.W : Int) + 1) := by omega
  have m4 : ((R.ci x y : Nat) : Int) / ((R.W : Int) + 1) ≤ 7 := by omega
  have HL := fun w' (h : Below w.heap.size w w') => hide (atS_any R hR A c B x y (by omega) (by omega) w' (hr.below (h.mono hB)) (Nat.le_trans hB h.size))
  have HR := fun w' (h : Below w.heap.size w w') => hide (atS_any R hR A c B x ((y : Int) - 1) (by omega) (by omega) w' (hr.below (h.mono hB)) (Nat.le_trans hB h.size))
  have hth : (R.at x y || R.at x ((y : Int) - 1)) = true → x < R.W := fun h => by
    rw [Bool.or_eq_true] at h
    rcases h with h | h <;> exact at_x h
  have HTH := Lib.hid hth
  have hb0 := (Below.refl w.heap.size w).alloc (Nat.le_refl _) (.cells #[.int .i64 R.W, .int .i64 R.T, .slice A R.C.length c] 25)
  have HD := fun w' => hide (darkS_any x y (by omega) (by omega) w')
  have hix1 : ixOf R x y = if R.at x y = true then (y : Int) * R.W + x else -1 := rfl
  have hix2 : ixOf R x ((y : Int) - 1) = if R.at x ((y : Int) - 1) = true then ((y : Int) - 1) * R.W + x else -1 := rfl
  obtain ⟨p0, p1⟩ := prod_bd (a := y) (b := R.W) (by omega) (by omega)
  have HI1 := Lib.hid hix1
  have HI2 := Lib.hid hix2
  clear em ed hth hix1 hix2
  have q0 : R.at x ((y : Int) - 1) = true → 0 ≤ ((y : Int) - 1) * (R.W : Int) ∧ ((y : Int) - 1) * (R.W : Int) ≤ 49 := fun h => by
    obtain ⟨a, b, _, e, _, hb, _⟩ := at_cell hR h
    obtain ⟨p2, p3⟩ := prod_bd (a := b) (b := R.W) (by omega) (by omega)
    rw [e]; exact ⟨p2, p3⟩
  generalize hp : R.at x y = p at *
  generalize hq : R.at x ((y : Int) - 1) = q at *
  clear hp hq
  generalize R.ci x y = k at *
  go_enter Try.func135, Try.ntmps135
  go_upto_region 3 with fail
  rw [EM.out, ED.out]
  clear m1 m2 m3 m4
  have hcl2 : (k : Int) ≤ 49 := by omega
  go_upto_region 17 with fail
  rcases p with _ | _ <;> rcases q with _ | _
  · by_cases hxw : x < R.W
    · have hxd : decide (x < R.W) = true := decide_eq_true hxw
      have F1 := Lib.hid (show ixOf R x y = -1 by rw [HI1.out]; rfl)
      have F2 := Lib.hid (show ixOf R x ((y : Int) - 1) = -1 by rw [HI2.out]; rfl)
      clear HTH q0
      go_wp2_with fail
      refine (unhide (HL _ hb0)).mono ?_
      rintro e w1 ⟨rfl, hb1⟩
      have hB1 := hb0.trans (hb1.mono hb0.size)
      have hk1 := (Blk.new w 25 #[.int .i64 R.W, .int .i64 R.T, .slice A R.C.length c]).below hb1 (by simp)
      have b0 := hk1.cell 0
      have b1 := hk1.cell 1
      have b2 := hk1.cell 2
      simp at b0 b1 b2
      go_wp2_with fail
      refine (unhide (HR _ hB1)).mono ?_
      rintro e w2 ⟨rfl, hb2⟩
      have hB2 := hB1.trans (hb2.mono hB1.size)
      have hk2 := hk1.below hb2 hk1.lt
      clear b0 b1 b2
      have b0 := hk2.cell 0
      have b1 := hk2.cell 1
      have b2 := hk2.cell 2
      simp at b0 b1 b2
      go_wp2_with (go_at_call 178; refine (unhide (HD _)).mono ?_; rintro e w3 ⟨rfl, rfl⟩)
      refine bodyPost_ret (v := _) (results_tmp6 rfl _ _ _) rfl ⟨?_, hB2⟩
      rw [F1.out, F2.out]
      rfl
    · have hxd : decide (x < R.W) = false := decide_eq_false hxw
      have F1 := Lib.hid (show ixOf R x y = -1 by rw [HI1.out]; rfl)
      have F2 := Lib.hid (show ixOf R x ((y : Int) - 1) = -1 by rw [HI2.out]; rfl)
      clear HTH q0
      go_wp2_with fail
      refine (unhide (HL _ hb0)).mono ?_
      rintro e w1 ⟨rfl, hb1⟩
      have hB1 := hb0.trans (hb1.mono hb0.size)
      have hk1 := (Blk.new w 25 #[.int .i64 R.W, .int .i64 R.T, .slice A R.C.length c]).below hb1 (by simp)
      have b0 := hk1.cell 0
      have b1 := hk1.cell 1
      have b2 := hk1.cell 2
      simp at b0 b1 b2
      go_wp2_with fail
      refine (unhide (HR _ hB1)).mono ?_
      rintro e w2 ⟨rfl, hb2⟩
      have hB2 := hB1.trans (hb2.mono hB1.size)
      have hk2 := hk1.below hb2 hk1.lt
      clear b0 b1 b2
      have b0 := hk2.cell 0
      have b1 := hk2.cell 1
      have b2 := hk2.cell 2
      simp at b0 b1 b2
      go_wp2_with (go_at_call 178; refine (unhide (HD _)).mono ?_; rintro e w3 ⟨rfl, rfl⟩)
      refine bodyPost_ret (v := _) (results_tmp6 rfl _ _ _) rfl ⟨?_, hB2⟩
      rw [F1.out, F2.out]
      rfl
  · have hxw := HTH.out rfl
    have hxd : decide (x < R.W) = true := decide_eq_true hxw
    obtain ⟨p2, p3⟩ := q0 rfl
    have F1 := Lib.hid (show ixOf R x y = -1 by rw [HI1.out]; rfl)
    have F2 := Lib.hid (show ixOf R x ((y : Int) - 1) = ((y : Int) - 1) * (R.W : Int) + x by rw [HI2.out]; rfl)
    clear HTH q0
    go_wp2_with fail
    refine (unhide (HL _ hb0)).mono ?_
    rintro e w1 ⟨rfl, hb1⟩
    have hB1 := hb0.trans (hb1.mono hb0.size)
    have hk1 := (Blk.new w 25 #[.int .i64 R.W, .int .i64 R.T, .slice A R.C.length c]).below hb1 (by simp)
    have b0 := hk1.cell 0
    have b1 := hk1.cell 1
    have b2 := hk1.cell 2
    simp at b0 b1 b2
    go_wp2_with fail
    refine (unhide (HR _ hB1)).mono ?_
    rintro e w2 ⟨rfl, hb2⟩
    have hB2 := hB1.trans (hb2.mono hB1.size)
    have hk2 := hk1.below hb2 hk1.lt
    clear b0 b1 b2
    have b0 := hk2.cell 0
    have b1 := hk2.cell 1
    have b2 := hk2.cell 2
    simp at b0 b1 b2
    go_wp2_with (go_at_call 178; refine (unhide (HD _)).mono ?_; rintro e w3 ⟨rfl, rfl⟩)
    refine bodyPost_ret (v := _) (results_tmp6 rfl _ _ _) rfl ⟨?_, hB2⟩
    rw [F1.out, F2.out]
    rfl
  · have hxw := HTH.out rfl
    have hxd : decide (x < R.W) = true := decide_eq_true hxw
    have F1 := Lib.hid (show ixOf R x y = y * (R.W : Int) + x by rw [HI1.out]; rfl)
    have F2 := Lib.hid (show ixOf R x ((y : Int) - 1) = -1 by rw [HI2.out]; rfl)
    clear HTH q0
    go_wp2_with fail
    refine (unhide (HL _ hb0)).mono ?_
    rintro e w1 ⟨rfl, hb1⟩
    have hB1 := hb0.trans (hb1.mono hb0.size)
    have hk1 := (Blk.new w 25 #[.int .i64 R.W, .int .i64 R.T, .slice A R.C.length c]).below hb1 (by simp)
    have b0 := hk1.cell 0
    have b1 := hk1.cell 1
    have b2 := hk1.cell 2
    simp at b0 b1 b2
    go_wp2_with fail
    refine (unhide (HR _ hB1)).mono ?_
    rintro e w2 ⟨rfl, hb2⟩
    have hB2 := hB1.trans (hb2.mono hB1.size)
    have hk2 := hk1.below hb2 hk1.lt
    clear b0 b1 b2
    have b0 := hk2.cell 0
    have b1 := hk2.cell 1
    have b2 := hk2.cell 2
    simp at b0 b1 b2
    go_wp2_with (go_at_call 178; refine (unhide (HD _)).mono ?_; rintro e w3 ⟨rfl, rfl⟩)
    refine bodyPost_ret (v := _) (results_tmp6 rfl _ _ _) rfl ⟨?_, hB2⟩
    rw [F1.out, F2.out]
    rfl
  · have hxw := HTH.out rfl
    have hxd : decide (x < R.W) = true := decide_eq_true hxw
    obtain ⟨p2, p3⟩ := q0 rfl
    have F1 := Lib.hid (show ixOf R x y = y * (R.W : Int) + x by rw [HI1.out]; rfl)
    have F2 := Lib.hid (show ixOf R x ((y : Int) - 1) = ((y : Int) - 1) * (R.W : Int) + x by rw [HI2.out]; rfl)
    clear HTH q0
    go_wp2_with fail
    refine (unhide (HL _ hb0)).mono ?_
    rintro e w1 ⟨rfl, hb1⟩
    have hB1 := hb0.trans (hb1.mono hb0.size)
    have hk1 := (Blk.new w 25 #[.int .i64 R.W, .int .i64 R.T, .slice A R.C.length c]).below hb1 (by simp)
    have b0 := hk1.cell 0
    have b1 := hk1.cell 1
    have b2 := hk1.cell 2
    simp at b0 b1 b2
    go_wp2_with fail
    refine (unhide (HR _ hB1)).mono ?_
    rintro e w2 ⟨rfl, hb2⟩
    have hB2 := hB1.trans (hb2.mono hB1.size)
    have hk2 := hk1.below hb2 hk1.lt
    clear b0 b1 b2
    have b0 := hk2.cell 0
    have b1 := hk2.cell 1
    have b2 := hk2.cell 2
    simp at b0 b1 b2
    go_wp2_with (go_at_call 178; refine (unhide (HD _)).mono ?_; rintro e w3 ⟨rfl, rfl⟩)
    refine bodyPost_ret (v := _) (results_tmp6 rfl _ _ _) rfl ⟨?_, hB2⟩
    rw [F1.out, F2.out]
    rfl

theorem edgeN_any (R : Reg) (hR : R.ok) (A : Option Addr) (c B : Nat) (x y : Nat) (hx : x ≤ R.W) (hy : y ≤ R.T) (w : World) (hr : Reads w B 1 A R.C.length (R.C.map Value.bool)) (hB : B ≤ w.heap.size) :
    Calls Try.prog 135 #[.agg #[.int .i64 R.W, .int .i64 R.T, .slice A R.C.length c], .int .i64 (R.ci x y : Nat), .bool true] w fun e w' =>
      e = .returned (.tuple #[.int .i64 ((R.ci x y : Nat) + R.W + 1), .bool (R.at ((x : Int) - 1) y || R.at x y), .bool (R.at ((x : Int) - 1) y && R.at x y), .int .i64 (ixOf R ((x : Int) - 1) y), .int .i64 (ixOf R x y), .bool (decide (sg ((x : Int) - 1) y = 1))]) ∧ Below w.heap.size w w' := by
  have hW6 := hR.2.1
  have hT6 := hR.2.2.2.1
  have hcn := (cn_bd hR).2
  have hcl := ci_lt hx hy
  have em : ((R.ci x y : Nat) : Int) % ((R.W : Int) + 1) = (x : Int) := by
    have := int_mod (ci_mod y hx); simpa using this
  have ed : ((R.ci x y : Nat) : Int) / ((R.W : Int) + 1) = (y : Int) := by
    have := int_div (ci_div y hx); simpa using this
  have hnz : ((R.W : Int) + 1 == 0) = false := by simp; omega
  have EM := Lib.hid em
  have ED := Lib.hid ed
  have m1 : 0 ≤ ((R.ci x y : Nat) : Int) % ((R.W : Int) + 1) := by omega
  have m2 : ((R.ci x y : Nat) : Int) % ((R.W : Int) + 1) ≤ 7 := by omega
  have m3 : 0 ≤ ((R.ci x y : Nat) : Int) / ((R.W : Int) + 1) := by omega
  have m4 : ((R.ci x y : Nat) : Int) / ((R.W : Int) + 1) ≤ 7 := by omega
  have HL := fun w' (h : Below w.heap.size w w') => hide (atS_any R hR A c B ((x : Int) - 1) y (by omega) (by omega) w' (hr.below (h.mono hB)) (Nat.le_trans hB h.size))
  have HR := fun w' (h : Below w.heap.size w w') => hide (atS_any R hR A c B x y (by omega) (by omega) w' (hr.below (h.mono hB)) (Nat.le_trans hB h.size))
  have hth : (R.at ((x : Int) - 1) y || R.at x y) = true → y < R.T := fun h => by
    rw [Bool.or_eq_true] at h
    rcases h with h | h <;> exact at_y h
  have HTH := Lib.hid hth
  have hb0 := (Below.refl w.heap.size w).alloc (Nat.le_refl _) (.cells #[.int .i64 R.W, .int .i64 R.T, .slice A R.C.length c] 25)
  have HD := fun w' => hide (darkS_any ((x : Int) - 1) y (by omega) (by omega) w')
  have hix1 : ixOf R ((x : Int) - 1) y = if R.at ((x : Int) - 1) y = true then (y : Int) * R.W + ((x : Int) - 1) else -1 := rfl
  have hix2 : ixOf R x y = if R.at x y = true then (y : Int) * R.W + x else -1 := rfl
  obtain ⟨p0, p1⟩ := prod_bd (a := y) (b := R.W) (by omega) (by omega)
  have HI1 := Lib.hid hix1
  have HI2 := Lib.hid hix2
  clear em ed hth hix1 hix2
  have q0 : R.at ((x : Int) - 1) y = true → 1 ≤ x := fun h => by
    obtain ⟨a, b, e, _, _, hb, _⟩ := at_cell hR h
    omega
  generalize hp : R.at ((x : Int) - 1) y = p at *
  generalize hq : R.at x y = q at *
  clear hp hq
  generalize R.ci x y = k at *
  go_enter Try.func135, Try.ntmps135
  go_upto_region 3 with fail
  rw [EM.out, ED.out]
  clear m1 m2 m3 m4
  have hcl2 : (k : Int) ≤ 49 := by omega
  go_upto_region 17 with fail
  rcases p with _ | _ <;> rcases q with _ | _
  · by_cases hxw : y < R.T
    · have hxd : decide (y < R.T) = true := decide_eq_true hxw
      have F1 := Lib.hid (show ixOf R ((x : Int) - 1) y = -1 by rw [HI1.out]; rfl)
      have F2 := Lib.hid (show ixOf R x y = -1 by rw [HI2.out]; rfl)
      clear HTH q0
      go_wp2_with fail
      refine (unhide (HL _ hb0)).mono ?_
      rintro e w1 ⟨rfl, hb1⟩
      have hB1 := hb0.trans (hb1.mono hb0.size)
      have hk1 := (Blk.new w 25 #[.int .i64 R.W, .int .i64 R.T, .slice A R.C.length c]).below hb1 (by simp)
      have b0 := hk1.cell 0
      have b1 := hk1.cell 1
      have b2 := hk1.cell 2
      simp at b0 b1 b2
      go_wp2_with fail
      refine (unhide (HR _ hB1)).mono ?_
      rintro e w2 ⟨rfl, hb2⟩
      have hB2 := hB1.trans (hb2.mono hB1.size)
      have hk2 := hk1.below hb2 hk1.lt
      clear b0 b1 b2
      have b0 := hk2.cell 0
      have b1 := hk2.cell 1
      have b2 := hk2.cell 2
      simp at b0 b1 b2
      go_wp2_with (go_at_call 178; refine (unhide (HD _)).mono ?_; rintro e w3 ⟨rfl, rfl⟩)
      refine bodyPost_ret (v := _) (results_tmp6 rfl _ _ _) rfl ⟨?_, hB2⟩
      rw [F1.out, F2.out]
      rfl
    · have hxd : decide (y < R.T) = false := decide_eq_false hxw
      have F1 := Lib.hid (show ixOf R ((x : Int) - 1) y = -1 by rw [HI1.out]; rfl)
      have F2 := Lib.hid (show ixOf R x y = -1 by rw [HI2.out]; rfl)
      clear HTH q0
      go_wp2_with fail
      refine (unhide (HL _ hb0)).mono ?_
      rintro e w1 ⟨rfl, hb1⟩
      have hB1 := hb0.trans (hb1.mono hb0.size)
      have hk1 := (Blk.new w 25 #[.int .i64 R.W, .int .i64 R.T, .slice A R.C.length c]).below hb1 (by simp)
      have b0 := hk1.cell 0
      have b1 := hk1.cell 1
      have b2 := hk1.cell 2
      simp at b0 b1 b2
      go_wp2_with fail
      refine (unhide (HR _ hB1)).mono ?_
      rintro e w2 ⟨rfl, hb2⟩
      have hB2 := hB1.trans (hb2.mono hB1.size)
      have hk2 := hk1.below hb2 hk1.lt
      clear b0 b1 b2
      have b0 := hk2.cell 0
      have b1 := hk2.cell 1
      have b2 := hk2.cell 2
      simp at b0 b1 b2
      go_wp2_with (go_at_call 178; refine (unhide (HD _)).mono ?_; rintro e w3 ⟨rfl, rfl⟩)
      refine bodyPost_ret (v := _) (results_tmp6 rfl _ _ _) rfl ⟨?_, hB2⟩
      rw [F1.out, F2.out]
      rfl
  · have hxw := HTH.out rfl
    have hxd : decide (y < R.T) = true := decide_eq_true hxw
    have F1 := Lib.hid (show ixOf R ((x : Int) - 1) y = -1 by rw [HI1.out]; rfl)
    have F2 := Lib.hid (show ixOf R x y = y * (R.W : Int) + x by rw [HI2.out]; rfl)
    clear HTH q0
    go_wp2_with fail
    refine (unhide (HL _ hb0)).mono ?_
    rintro e w1 ⟨rfl, hb1⟩
    have hB1 := hb0.trans (hb1.mono hb0.size)
    have hk1 := (Blk.new w 25 #[.int .i64 R.W, .int .i64 R.T, .slice A R.C.length c]).below hb1 (by simp)
    have b0 := hk1.cell 0
    have b1 := hk1.cell 1
    have b2 := hk1.cell 2
    simp at b0 b1 b2
    go_wp2_with fail
    refine (unhide (HR _ hB1)).mono ?_
    rintro e w2 ⟨rfl, hb2⟩
    have hB2 := hB1.trans (hb2.mono hB1.size)
    have hk2 := hk1.below hb2 hk1.lt
    clear b0 b1 b2
    have b0 := hk2.cell 0
    have b1 := hk2.cell 1
    have b2 := hk2.cell 2
    simp at b0 b1 b2
    go_wp2_with (go_at_call 178; refine (unhide (HD _)).mono ?_; rintro e w3 ⟨rfl, rfl⟩)
    refine bodyPost_ret (v := _) (results_tmp6 rfl _ _ _) rfl ⟨?_, hB2⟩
    rw [F1.out, F2.out]
    rfl
  · have hxw := HTH.out rfl
    have q1 := q0 rfl
    have hxd : decide (y < R.T) = true := decide_eq_true hxw
    have F1 := Lib.hid (show ixOf R ((x : Int) - 1) y = y * (R.W : Int) + ((x : Int) - 1) by rw [HI1.out]; rfl)
    have F2 := Lib.hid (show ixOf R x y = -1 by rw [HI2.out]; rfl)
    clear HTH q0
    go_wp2_with fail
    refine (unhide (HL _ hb0)).mono ?_
    rintro e w1 ⟨rfl, hb1⟩
    have hB1 := hb0.trans (hb1.mono hb0.size)
    have hk1 := (Blk.new w 25 #[.int .i64 R.W, .int .i64 R.T, .slice A R.C.length c]).below hb1 (by simp)
    have b0 := hk1.cell 0
    have b1 := hk1.cell 1
    have b2 := hk1.cell 2
    simp at b0 b1 b2
    go_wp2_with fail
    refine (unhide (HR _ hB1)).mono ?_
    rintro e w2 ⟨rfl, hb2⟩
    have hB2 := hB1.trans (hb2.mono hB1.size)
    have hk2 := hk1.below hb2 hk1.lt
    clear b0 b1 b2
    have b0 := hk2.cell 0
    have b1 := hk2.cell 1
    have b2 := hk2.cell 2
    simp at b0 b1 b2
    go_wp2_with (go_at_call 178; refine (unhide (HD _)).mono ?_; rintro e w3 ⟨rfl, rfl⟩)
    refine bodyPost_ret (v := _) (results_tmp6 rfl _ _ _) rfl ⟨?_, hB2⟩
    rw [F1.out, F2.out]
    rfl
  · have hxw := HTH.out rfl
    have q1 := q0 rfl
    have hxd : decide (y < R.T) = true := decide_eq_true hxw
    have F1 := Lib.hid (show ixOf R ((x : Int) - 1) y = y * (R.W : Int) + ((x : Int) - 1) by rw [HI1.out]; rfl)
    have F2 := Lib.hid (show ixOf R x y = y * (R.W : Int) + x by rw [HI2.out]; rfl)
    clear HTH q0
    go_wp2_with fail
    refine (unhide (HL _ hb0)).mono ?_
    rintro e w1 ⟨rfl, hb1⟩
    have hB1 := hb0.trans (hb1.mono hb0.size)
    have hk1 := (Blk.new w 25 #[.int .i64 R.W, .int .i64 R.T, .slice A R.C.length c]).below hb1 (by simp)
    have b0 := hk1.cell 0
    have b1 := hk1.cell 1
    have b2 := hk1.cell 2
    simp at b0 b1 b2
    go_wp2_with fail
    refine (unhide (HR _ hB1)).mono ?_
    rintro e w2 ⟨rfl, hb2⟩
    have hB2 := hB1.trans (hb2.mono hB1.size)
    have hk2 := hk1.below hb2 hk1.lt
    clear b0 b1 b2
    have b0 := hk2.cell 0
    have b1 := hk2.cell 1
    have b2 := hk2.cell 2
    simp at b0 b1 b2
    go_wp2_with (go_at_call 178; refine (unhide (HD _)).mono ?_; rintro e w3 ⟨rfl, rfl⟩)
    refine bodyPost_ret (v := _) (results_tmp6 rfl _ _ _) rfl ⟨?_, hB2⟩
    rw [F1.out, F2.out]
    rfl

end Go.Proofs.Ythepfpiphlfgnaa
