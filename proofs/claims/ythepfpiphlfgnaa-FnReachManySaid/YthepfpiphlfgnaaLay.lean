/-
  YthepfpiphlfgnaaLay: lists that lay dominoes: what the program and the reference say of them.
-/
import Derived.Test.YthepfpiphlfgnaaSd
import Derived.Test.YthepfpiphlfgnaaSpec
namespace Go.Proofs.Ythepfpiphlfgnaa
open Go.RowKit

/-! ### Plain -/
def layAtB (R : Reg) (L : List Int) (k : Nat) : Bool :=
  decide (L.getD k 0 = 0) || (decide (0 ≤ R.step k (L.getD k 0)) && (R.C.getD k false && (R.C.getD (R.step k (L.getD k 0)).toNat false && decide (L.getD (R.step k (L.getD k 0)).toNat 0 = back (L.getD k 0)))))
def laysB (R : Reg) (L : List Int) : Bool := decide (L.length = R.C.length) && (List.range R.C.length).all (layAtB R L)
def fullAtB (R : Reg) (L : List Int) (k : Nat) : Bool := !R.C.getD k false || decide (L.getD k 0 ≠ 0)
def fullB (R : Reg) (L : List Int) : Bool := (List.range R.C.length).all (fullAtB R L)

theorem getD_cell {R : Reg} {k : Nat} : R.C.getD k false = true ↔ R.cell k := by
  unfold Reg.cell
  rw [List.getD_eq_getElem?_getD]
  cases R.C[k]? with
  | none => simp
  | some b => simp
theorem layAtB_iff {R : Reg} {L : List Int} {k : Nat} : layAtB R L k = true ↔ LayAt R L k := by
  unfold layAtB LayAt
  rw [Bool.or_eq_true, decide_eq_true_eq]
  refine or_congr Iff.rfl ?_
  simp only [Bool.and_eq_true, decide_eq_true_eq, getD_cell]
  constructor
  · rintro ⟨h1, h2, h3, h4⟩
    obtain ⟨e, he⟩ := Int.eq_ofNat_of_zero_le h1
    refine ⟨e, he, h2, ?_, ?_⟩
    · rw [he] at h3; exact h3
    · rw [← h4, he]; rfl
  · rintro ⟨e, he, h2, h3, h4⟩
    refine ⟨by rw [he]; omega, h2, ?_, ?_⟩
    · rw [he]; exact h3
    · rw [← h4, he]; rfl
theorem laysB_iff {R : Reg} (hR : R.ok) {L : List Int} : laysB R L = true ↔ Lay R L := by
  unfold laysB
  rw [Bool.and_eq_true, decide_eq_true_eq, List.all_eq_true]
  constructor
  · rintro ⟨h1, h2⟩
    exact lay_of hR h1 fun k hk => layAtB_iff.1 (h2 k (List.mem_range.2 hk))
  · intro h
    exact ⟨h.len, fun k hk => layAtB_iff.2 (layAt_of hR h (List.mem_range.1 hk))⟩
theorem fullB_iff {R : Reg} (hR : R.ok) {L : List Int} : fullB R L = true ↔ Full R L := by
  unfold fullB Full
  rw [List.all_eq_true]
  constructor
  · intro h x y hxy
    obtain ⟨a, b, rfl, rfl, ha, hb, hc⟩ := at_cell hR hxy
    have := h (b * R.W + a) (List.mem_range.2 (idx_lt hR ha hb))
    unfold fullAtB at this
    rw [getD_cell.2 hc] at this
    rw [way_in ha hb]
    simpa using this
  · intro h k hk
    have hk' := List.mem_range.1 hk
    unfold fullAtB
    by_cases hc : R.cell k
    · have := h _ _ (cell_at' hR hc)
      rw [way_in (xy_lt hR hk').1 (xy_lt hR hk').2, xy_eq] at this
      simp only [Bool.or_eq_true, decide_eq_true_eq]
      exact .inr this
    · simp only [Bool.or_eq_true, Bool.not_eq_true']
      left
      rw [Bool.eq_false_iff]
      exact fun h => hc (getD_cell.1 h)
theorem laysB_no {R : Reg} {L : List Int} {k : Nat} (hk : k < R.C.length) (h : layAtB R L k = false) : laysB R L = false := by
  unfold laysB
  rw [Bool.and_eq_false_iff]
  right
  rw [Bool.eq_false_iff]
  intro ha
  rw [List.all_eq_true] at ha
  have := ha k (List.mem_range.2 hk)
  rw [h] at this; cases this
theorem laysB_yes {R : Reg} {L : List Int} (hl : L.length = R.C.length) (h : ∀ k, k < R.C.length → layAtB R L k = true) : laysB R L = true := by
  unfold laysB
  rw [Bool.and_eq_true, decide_eq_true_eq, List.all_eq_true]
  exact ⟨hl, fun k hk => h k (List.mem_range.1 hk)⟩
theorem fullB_no {R : Reg} {L : List Int} {k : Nat} (hk : k < R.C.length) (h : fullAtB R L k = false) : fullB R L = false := by
  unfold fullB
  rw [Bool.eq_false_iff]
  intro ha
  rw [List.all_eq_true] at ha
  have := ha k (List.mem_range.2 hk)
  rw [h] at this; cases this
theorem fullB_yes {R : Reg} {L : List Int} (h : ∀ k, k < R.C.length → fullAtB R L k = true) : fullB R L = true := by
  unfold fullB
  rw [List.all_eq_true]
  exact fun k hk => h k (List.mem_range.1 hk)
/-- .. for a region by its parts. -/
def laidB (W T : Int) (bs : List Bool) (L : List Int) : Bool := validB W T bs && laysB ⟨W.toNat, T.toNat, bs⟩ L
def tilingB (W T : Int) (bs : List Bool) (L : List Int) : Bool := laidB W T bs L && fullB ⟨W.toNat, T.toNat, bs⟩ L
theorem laidB_no {W T : Int} {bs : List Bool} {L : List Int} (h : validB W T bs = false) : laidB W T bs L = false := by unfold laidB; rw [h]; rfl
theorem tilingB_no {W T : Int} {bs : List Bool} {L : List Int} (h : laidB W T bs L = false) : tilingB W T bs L = false := by unfold tilingB; rw [h]; rfl
theorem laidB_ok {R : Reg} (hR : R.ok) (L : List Int) : laidB R.W R.T R.C L = laysB R L := by
  unfold laidB; rw [valid_of_ok hR]; simp
theorem tilingB_ok {R : Reg} (hR : R.ok) (L : List Int) : tilingB R.W R.T R.C L = (laysB R L && fullB R L) := by
  unfold tilingB; rw [laidB_ok hR]; simp

/-! ### Small functions -/
theorem back_any (way : Int) (h : 1 ≤ way ∧ way ≤ 4) (w : World) :
    Calls Try.prog 176 #[.int .i64 way] w fun e w' => e = .returned (.int .i64 (back way)) ∧ w = w' := by
  obtain ⟨h1, h2⟩ := h
  have HB : Hid (back way = (way + 1) % 4 + 1) := Lib.hid rfl
  go_enter Try.func176, Try.ntmps176
  go_wp2_with fail
  go_ret
  exact ⟨ret_int (by rw [HB.out]), rfl⟩

theorem backS_any (way : Int) (h : 1 ≤ way ∧ way ≤ 4) (w : World) :
    Calls Try.prog 112 #[.int .i64 way] w fun e w' => e = .returned (.int .i64 (back way)) ∧ w = w' := by
  obtain ⟨h1, h2⟩ := h
  have HB : Hid (back way = (way + 1) % 4 + 1) := Lib.hid rfl
  go_enter Try.func112, Try.ntmps112
  go_wp2_with fail
  go_ret
  exact ⟨ret_int (by rw [HB.out]), rfl⟩

theorem stepS_any (R : Reg) (hR : R.ok) (A : Option Addr) (k c : Nat) (j : Nat) (hj : j < R.C.length) (way : Int) (w : World) :
    Calls Try.prog 111 #[.agg #[.int .i64 R.W, .int .i64 R.T, .slice A k c], .int .i64 j, .int .i64 way] w fun e w' => e = .returned (.int .i64 (R.step j way)) ∧ Below w.heap.size w w' := by
  have hP := place_of hR hj
  have hmod := hP.mod
  have hdiv := hP.div
  have hW := hR.1
  have hW6 := hR.2.1
  have hT := hR.2.2.1
  have hT6 := hR.2.2.2.1
  have hlen := (len_bd hR).2
  have hw0 : ((R.W : Int) == 0) = false := by simp; omega
  have ex : (j : Int) % (R.W : Int) = ((j % R.W : Nat) : Int) := by simp
  have ey : (j : Int) / (R.W : Int) = ((j / R.W : Nat) : Int) := by simp
  have hx := hP.col
  have hy := hP.row
  have hpm : ∀ x y, R.place j x y → True := fun _ _ _ => trivial
  clear hmod hdiv hpm
  generalize j % R.W = x at *
  generalize j / R.W = y at *
  have EX := Lib.hid ex
  have EY := Lib.hid ey
  clear ex ey
  have m1 : 0 ≤ (j : Int) % (R.W : Int) := by rw [EX.out]; omega
  have m2 : (j : Int) % (R.W : Int) ≤ 6 := by rw [EX.out]; omega
  have m3 : 0 ≤ (j : Int) / (R.W : Int) := by rw [EY.out]; omega
  have m4 : (j : Int) / (R.W : Int) ≤ 6 := by rw [EY.out]; omega
  by_cases w1 : way = 1
  · subst w1
    have S := Lib.hid (step_1 hP)
    by_cases hc : x + 1 < R.W
    · have c1 : decide ((j : Int) % (R.W : Int) < (R.W : Int) - 1) = true := by rw [decide_eq_true_eq, EX.out]; omega
      go_enter Try.func111, Try.ntmps111
      go_wp2_with fail
      go_quiet (fail)
      go_wp2_with fail
      go_ret
      exact ⟨ret_int (by rw [S.out, if_pos hc]), by repeat (first | exact (Below.refl _ _).alloc (Nat.le_refl _) _ | apply below_drewN)⟩
    · have c1 : decide ((j : Int) % (R.W : Int) < (R.W : Int) - 1) = false := by rw [decide_eq_false_iff_not, EX.out]; omega
      go_enter Try.func111, Try.ntmps111
      go_wp2_with fail
      go_quiet (fail)
      go_wp2_with fail
      go_quiet (fail)
      go_wp2_with fail
      go_ret
      exact ⟨ret_int (by rw [S.out, if_neg hc]), by repeat (first | exact (Below.refl _ _).alloc (Nat.le_refl _) _ | apply below_drewN)⟩
  by_cases w2 : way = 2
  · subst w2
    have S := Lib.hid (step_2 hP)
    by_cases hc : y + 1 < R.T
    · have c1 : decide ((j : Int) / (R.W : Int) < (R.T : Int) - 1) = true := by rw [decide_eq_true_eq, EY.out]; omega
      go_enter Try.func111, Try.ntmps111
      go_wp2_with fail
      go_quiet (fail)
      go_wp2_with fail
      go_quiet (fail)
      go_wp2_with fail
      go_ret
      exact ⟨ret_int (by rw [S.out, if_pos hc]), by repeat (first | exact (Below.refl _ _).alloc (Nat.le_refl _) _ | apply below_drewN)⟩
    · have c1 : decide ((j : Int) / (R.W : Int) < (R.T : Int) - 1) = false := by rw [decide_eq_false_iff_not, EY.out]; omega
      go_enter Try.func111, Try.ntmps111
      go_wp2_with fail
      go_quiet (fail)
      go_wp2_with fail
      go_quiet (fail)
      go_wp2_with fail
      go_ret
      exact ⟨ret_int (by rw [S.out, if_neg hc]), by repeat (first | exact (Below.refl _ _).alloc (Nat.le_refl _) _ | apply below_drewN)⟩
  by_cases w3 : way = 3
  · subst w3
    have S := Lib.hid (step_3 hP)
    by_cases hc : 0 < x
    · have c1 : decide (0 < (j : Int) % (R.W : Int)) = true := by rw [decide_eq_true_eq, EX.out]; omega
      go_enter Try.func111, Try.ntmps111
      go_wp2_with fail
      go_quiet (fail)
      go_wp2_with fail
      go_quiet (fail)
      go_wp2_with fail
      go_ret
      exact ⟨ret_int (by rw [S.out, if_pos hc]), by repeat (first | exact (Below.refl _ _).alloc (Nat.le_refl _) _ | apply below_drewN)⟩
    · have c1 : decide (0 < (j : Int) % (R.W : Int)) = false := by rw [decide_eq_false_iff_not, EX.out]; omega
      go_enter Try.func111, Try.ntmps111
      go_wp2_with fail
      go_quiet (fail)
      go_wp2_with fail
      go_quiet (fail)
      go_wp2_with fail
      go_ret
      exact ⟨ret_int (by rw [S.out, if_neg hc]), by repeat (first | exact (Below.refl _ _).alloc (Nat.le_refl _) _ | apply below_drewN)⟩
  by_cases w4 : way = 4
  · subst w4
    have S := Lib.hid (step_4 hP)
    by_cases hc : 0 < y
    · have c1 : decide (0 < (j : Int) / (R.W : Int)) = true := by rw [decide_eq_true_eq, EY.out]; omega
      go_enter Try.func111, Try.ntmps111
      go_wp2_with fail
      go_quiet (fail)
      go_wp2_with fail
      go_quiet (fail)
      go_wp2_with fail
      go_ret
      exact ⟨ret_int (by rw [S.out, if_pos hc]), by repeat (first | exact (Below.refl _ _).alloc (Nat.le_refl _) _ | apply below_drewN)⟩
    · have c1 : decide (0 < (j : Int) / (R.W : Int)) = false := by rw [decide_eq_false_iff_not, EY.out]; omega
      go_enter Try.func111, Try.ntmps111
      go_wp2_with fail
      go_quiet (fail)
      go_wp2_with fail
      go_quiet (fail)
      go_wp2_with fail
      go_ret
      exact ⟨ret_int (by rw [S.out, if_neg hc]), by repeat (first | exact (Below.refl _ _).alloc (Nat.le_refl _) _ | apply below_drewN)⟩
  have S := Lib.hid (step_no (R := R) (j := j) (way := way) (by omega))
  have v1 : (way == 1) = false := by simpa using w1
  have v2 : (way == 2) = false := by simpa using w2
  have v3 : (way == 3) = false := by simpa using w3
  have v4 : (way == 4) = false := by simpa using w4
  clear w1 w2 w3 w4
  go_enter Try.func111, Try.ntmps111
  go_wp2_with fail
  go_quiet (fail)
  go_wp2_with fail
  go_quiet (fail)
  go_wp2_with fail
  go_ret
  exact ⟨ret_int (by rw [S.out]), by repeat (first | exact (Below.refl _ _).alloc (Nat.le_refl _) _ | apply below_drewN)⟩

/-! ### lays, full -/
theorem getB {w : World} {B n k : Nat} {A : Option Addr} {bs : List Bool} (h : Reads w B 1 A n (bs.map Value.bool)) (hk : k < n) :
    ∃ ad, A = some ad ∧ ad.block < B ∧ w.cell? (ad.add k) = some (.bool (bs.getD k false)) := by
  obtain ⟨ad, u, e, hb, hx, hc⟩ := h.at_ hk
  refine ⟨ad, e, hb, ?_⟩
  rw [hc]
  rw [List.getElem?_map] at hx
  rw [List.getD_eq_getElem?_getD]
  cases hl : bs[k]? with
  | none => rw [hl] at hx; cases hx
  | some x => rw [hl] at hx; simp at hx; simp [hx]

set_option maxHeartbeats 2000000 in
theorem lays_any (R : Reg) (hR : R.ok) (A : Option Addr) (c B : Nat) (L : List Int) (D : Option Addr) (n d : Nat) (hn : L.length = n) (hm : n ≤ 9223372036854775807) (w : World)
    (hr : Reads w B 1 A R.C.length (R.C.map Value.bool)) (hd : Reads w B 1 D n (L.map (Value.int .i64))) (hB : B ≤ w.heap.size) :
    Calls Try.prog 143 #[.agg #[.int .i64 R.W, .int .i64 R.T, .slice A R.C.length c], .slice D n d] w fun e w' => e = .returned (.bool (laysB R L)) ∧ Below w.heap.size w w' := by
  have hlen := (len_bd hR).2
  by_cases hl : n = R.C.length
  · subst hl
    have hne : ((R.C.length : Int) != (R.C.length : Int)) = false := by simp
    go_enter Try.func143, Try.ntmps143
    go_wp2_with fail
    go_loopg [16] R.C.length (fun r s16 wr => ∃ k : Nat, k + r = R.C.length ∧ s16 = .int .i64 (k : Nat) ∧ (∀ j, j < k → layAtB R L j = true) ∧ Blk wr w.heap.size 25 #[.int .i64 R.W, .int .i64 R.T, .slice A R.C.length c] ∧ Below w.heap.size w wr)
    case atStart => exact ⟨0, by omega, rfl, fun j hj => absurd hj (by omega), Blk.new _ _ _, (Below.refl _ _).alloc (Nat.le_refl _) _⟩
    case round =>
      obtain ⟨k, hk, rfl, hall, hbk, hb⟩ := hrel
      have HK := Lib.hid hk
      have HALL := Lib.hid hall
      clear hk hall
      by_cases hlt : k < R.C.length
      · have b0 := hbk.cell 0
        have b1 := hbk.cell 1
        have b2 := hbk.cell 2
        simp at b0 b1 b2
        have hat : layAtB R L k = (decide (L.getD k 0 = 0) || (decide (0 ≤ R.step k (L.getD k 0)) && (R.C.getD k false && (R.C.getD (R.step k (L.getD k 0)).toNat false && decide (L.getD (R.step k (L.getD k 0)).toNat 0 = back (L.getD k 0)))))) := rfl
        have hsr := step_range hR hlt (L.getD k 0)
        have hno := laysB_no (L := L) hlt
        have hLG := fun k (hk : k < R.C.length) => (hd.below (hb.mono hB)).getI hk
        have hCG := fun k (hk : k < R.C.length) => getB (hr.below (hb.mono hB)) hk
        obtain ⟨ad, rfl, hab, hcell⟩ := hLG k hlt
        obtain ⟨ac, rfl, hac, hcc⟩ := hCG k hlt
        have hst := fun w' => hide (step_any R hR (some ac) R.C.length c k hlt (L.getD k 0) w')
        have hsc : ∀ e : Nat, R.step k (L.getD k 0) = (e : Int) → 1 ≤ L.getD k 0 ∧ L.getD k 0 ≤ 4 := fun e he => by
          rcases step_cases he with ⟨h, _⟩ | ⟨h, _⟩ | ⟨h, _⟩ | ⟨h, _⟩ <;> omega
        generalize L.getD k 0 = v at *
        have HNO := Lib.hid hno
        have HAT := Lib.hid hat
        have HLG := Lib.hid hLG
        have HCG := Lib.hid hCG
        have HSC := Lib.hid hsc
        clear hno hat hLG hCG hsc
        by_cases hv : v = 0
        · subst hv
          go_wp2_with fail
          go_roundg (R.C.length - (k + 1))
          case measure => have := HK.out; omega
          case rel =>
            refine ⟨k + 1, by have := HK.out; omega, by go_num, fun j hj => ?_, hbk, hb⟩
            by_cases hjk : j = k
            · subst hjk; rw [HAT.out]; simp
            · exact HALL.out j (by omega)
        · have hv0 : (v == 0) = false := by simpa using hv
          clear hv
          generalize R.step k v = z at *
          go_upto_region 8 with (go_at_call 175; refine (unhide (hst _)).mono ?_; rintro e w1 ⟨rfl, hb1⟩)
          have hcell1 := (hb1.cell (World.block_lt_of_cell? _ _ hcell)).trans hcell
          have hcc1 := (hb1.cell (World.block_lt_of_cell? _ _ hcc)).trans hcc
          have hbk1 := hbk.below hb1 hbk.lt
          have hB1 := hb.trans (hb1.mono hb.size)
          have d2 := hbk1.cell 2
          simp at d2
          clear b0 b1 b2 hcell hcc hst hbk
          go_cut [53] (fun s wx => s = .bool (!layAtB R L k) ∧ ∃ m, wx = w1.drewN m)
          case first =>
            rcases hsr with hz | ⟨e, hz, he⟩
            · have hres : (!layAtB R L k) = true := by rw [HAT.out, hz]; simp; intro h; subst h; cases hv0
              have HRES := Lib.hid hres
              have hz0 : decide (z < 0) = true := by rw [hz]; decide
              clear hres hz
              go_big_quiet (fail)
              go_wp2_with fail
              go_meet
              exact ⟨by rw [HRES.out], _, rfl⟩
            · obtain ⟨ac', e1, _, hce⟩ := HCG.out e he
              injection e1 with e1
              subst e1
              obtain ⟨ad', e1, _, hle⟩ := HLG.out e he
              injection e1 with e1
              subst e1
              have hce1 := (hb1.cell (World.block_lt_of_cell? _ _ hce)).trans hce
              have hle1 := (hb1.cell (World.block_lt_of_cell? _ _ hle)).trans hle
              obtain ⟨v1, v2⟩ := HSC.out e hz
              have hres : (!layAtB R L k) = !(R.C.getD k false && (R.C.getD e false && decide (L.getD e 0 = back v))) := by
                rw [HAT.out, hz]
                have : decide (v = 0) = false := by simpa using hv0
                rw [this]
                simp
              have HRES := Lib.hid hres
              clear hres hce hle
              subst hz
              have hz0 : decide ((e : Int) < 0) = false := decide_eq_false (by omega)
              generalize R.C.getD k false = p at *
              generalize R.C.getD e false = q at *
              generalize L.getD e 0 = u at *
              have hbkc : ∀ w', Calls Try.prog 176 #[.int .i64 v] w' fun e w'' => e = .returned (.int .i64 (back v)) ∧ w'' = w' := fun w' => (back_any v ⟨v1, v2⟩ w').mono fun _ _ h => ⟨h.1, h.2.symm⟩
              generalize back v = bv at *
              cases p with
              | false =>
                go_big_quiet (fail)
                go_wp2_with fail
                go_meet
                exact ⟨by rw [HRES.out]; simp, _, rfl⟩
              | true =>
                cases q with
                | false =>
                  go_big_quiet (fail)
                  go_wp2_with fail
                  go_meet
                  exact ⟨by rw [HRES.out]; simp, _, rfl⟩
                | true =>
                  go_big_quiet ((go_at_call 176; exact Calls.quiet_of_same (hbkc _)))
                  go_wp2_with fail
                  go_meet
                  exact ⟨by rw [HRES.out]; simp [bne, Bool.beq_eq_decide_eq], _, rfl⟩
          case rest =>
            obtain ⟨rfl, m, rfl⟩ := hcut
            cases hat : layAtB R L k with
            | true =>
              have HT := Lib.hid hat
              clear hat
              go_wp2_with fail
              go_roundg (R.C.length - (k + 1))
              case measure => have := HK.out; omega
              case rel =>
                refine ⟨k + 1, by have := HK.out; omega, by go_num, fun j hj => ?_, hbk1.drewN m, below_drewN hB1 m⟩
                by_cases hjk : j = k
                · subst hjk; exact HT.out
                · exact HALL.out j (by omega)
            | false =>
              have HN := Lib.hid (HNO.out hat)
              clear hat
              go_wp2_with fail
              go_ret
              exact ⟨by rw [HN.out]; rfl, below_drewN hB1 m⟩
      · have hall := laysB_yes (L := L) hn (fun j hj => HALL.out j (by have := HK.out; omega))
        have HA := Lib.hid hall
        clear hall
        go_wp2_with fail
        go_ret
        exact ⟨by rw [HA.out]; rfl, hb⟩
  · have hne : ((n : Int) != (R.C.length : Int)) = true := by simp; omega
    have hres : laysB R L = false := by
      unfold laysB
      rw [decide_eq_false (by rw [hn]; exact hl)]; rfl
    rw [hres]
    clear hres hl
    go_enter Try.func143, Try.ntmps143
    go_wp2_with fail
    go_ret
    exact ⟨rfl, (Below.refl _ _).alloc (Nat.le_refl _) _⟩


theorem full_any (R : Reg) (hR : R.ok) (A : Option Addr) (c B : Nat) (L : List Int) (D : Option Addr) (d : Nat) (w : World)
    (hr : Reads w B 1 A R.C.length (R.C.map Value.bool)) (hd : Reads w B 1 D R.C.length (L.map (Value.int .i64))) (hB : B ≤ w.heap.size) :
    Calls Try.prog 78 #[.agg #[.int .i64 R.W, .int .i64 R.T, .slice A R.C.length c], .slice D R.C.length d] w fun e w' => e = .returned (.bool (fullB R L)) ∧ Below w.heap.size w w' := by
  have hlen := (len_bd hR).2
  have hLG := fun k (hk : k < R.C.length) => (hd.alloc hB (.cells #[.int .i64 R.W, .int .i64 R.T, .slice A R.C.length c] 25)).getI hk
  have hCG := fun k (hk : k < R.C.length) => getB (hr.alloc hB (.cells #[.int .i64 R.W, .int .i64 R.T, .slice A R.C.length c] 25)) hk
  have HLG := Lib.hid hLG
  have HCG := Lib.hid hCG
  clear hLG hCG
  go_enter Try.func78, Try.ntmps78
  go_wp2_with fail
  go_loopg [10] R.C.length (fun r s10 wr => ∃ k : Nat, k + r = R.C.length ∧ s10 = .int .i64 (k : Nat) ∧ (∀ j, j < k → fullAtB R L j = true) ∧ wr = w.alloc (.cells #[.int .i64 R.W, .int .i64 R.T, .slice A R.C.length c] 25))
  case atStart => exact ⟨0, by omega, rfl, fun j hj => absurd hj (by omega), rfl⟩
  case round =>
    obtain ⟨k, hk, rfl, hall, rfl⟩ := hrel
    have HK := Lib.hid hk
    have HALL := Lib.hid hall
    clear hk hall
    by_cases hlt : k < R.C.length
    · obtain ⟨ad, rfl, hab, hcell⟩ := HLG.out k hlt
      obtain ⟨ac, rfl, hac, hcc⟩ := HCG.out k hlt
      have hat : fullAtB R L k = (!R.C.getD k false || decide (L.getD k 0 ≠ 0)) := rfl
      have HAT := Lib.hid hat
      have HNO := Lib.hid (fullB_no (R := R) (L := L) hlt)
      clear hat
      generalize R.C.getD k false = p at *
      generalize L.getD k 0 = v at *
      cases p with
      | false =>
        go_wp2_with fail
        go_roundg (R.C.length - (k + 1))
        case measure => have := HK.out; omega
        case rel =>
          refine ⟨k + 1, by have := HK.out; omega, by go_num, fun j hj => ?_, rfl⟩
          by_cases hjk : j = k
          · subst hjk; rw [HAT.out]; rfl
          · exact HALL.out j (by omega)
      | true =>
        by_cases hv : v = 0
        · have hv0 : (v == 0) = true := by simpa using hv
          have HN := Lib.hid (HNO.out (by rw [HAT.out]; simp [hv]))
          clear hv
          go_wp2_with fail
          go_ret
          exact ⟨by rw [HN.out]; rfl, (Below.refl _ _).alloc (Nat.le_refl _) _⟩
        · have hv0 : (v == 0) = false := by simpa using hv
          have HV := Lib.hid hv
          clear hv
          go_wp2_with fail
          go_roundg (R.C.length - (k + 1))
          case measure => have := HK.out; omega
          case rel =>
            refine ⟨k + 1, by have := HK.out; omega, by go_num, fun j hj => ?_, rfl⟩
            by_cases hjk : j = k
            · subst hjk; rw [HAT.out]; simp [HV.out]
            · exact HALL.out j (by omega)
    · have HA := Lib.hid (fullB_yes (R := R) (L := L) (fun j hj => HALL.out j (by have := HK.out; omega)))
      go_wp2_with fail
      go_ret
      exact ⟨by rw [HA.out]; rfl, (Below.refl _ _).alloc (Nat.le_refl _) _⟩

theorem laidOkI_any (W T : Int) (A : Option Addr) (n c B : Nat) (bs : List Bool) (L : List Int) (D : Option Addr) (m d : Nat) (w : World) (hbl : bs.length = n) (hL : L.length = m)
    (hr : Reads w B 1 A n (bs.map Value.bool)) (hd : Reads w B 1 D m (L.map (Value.int .i64))) (hB : B ≤ w.heap.size) (hn : n ≤ 9223372036854775807) (hm : m ≤ 9223372036854775807) :
    Calls Try.prog 77 #[.agg #[.int .i64 W, .int .i64 T, .slice A n c], .slice D m d] w fun e w' => e = .returned (.bool (laidB W T bs L)) ∧ Below w.heap.size w w' := by
  cases hv : validB W T bs with
  | false =>
    have HV := Lib.hid hv
    have HS := Lib.hid (laidB_no (L := L) hv)
    clear hv
    go_enter Try.func77, Try.ntmps77
    go_wp2_with fail
    refine (valid_any _ _ A _ c B bs _ (hr.alloc hB _) (by simp; omega) hn).mono ?_
    rintro e w0 ⟨rfl, hb0⟩
    rw [HV.out]
    go_wp2_with fail
    go_ret
    exact ⟨ret_bool (by rw [HS.out]), ((Below.refl _ _).alloc (Nat.le_refl _) _).trans (hb0.mono (by simp))⟩
  | true =>
    obtain ⟨R, hR, rfl, rfl, rfl⟩ := reg_of_valid hv
    subst hbl
    have HV := Lib.hid hv
    have HS := Lib.hid (laidB_ok hR L)
    clear hv
    go_enter Try.func77, Try.ntmps77
    go_wp2_with fail
    refine (valid_any _ _ A _ c B R.C _ (hr.alloc hB _) (by simp; omega) hn).mono ?_
    rintro e w0 ⟨rfl, hb0⟩
    rw [HV.out]
    have hB0 := ((Below.refl w.heap.size w).alloc (Nat.le_refl _) (.cells #[.int .i64 R.W, .int .i64 R.T, .slice A R.C.length c] 25)).trans (hb0.mono (by simp))
    obtain ⟨hc0, hf0⟩ := bcell hb0
    go_wp2_with fail
    refine (lays_any R hR A c B L D m d hL hm _ (hr.below (hB0.mono hB)) (hd.below (hB0.mono hB)) (Nat.le_trans hB hB0.size)).mono ?_
    rintro e w1 ⟨rfl, hb1⟩
    go_wp2_with fail
    go_ret
    exact ⟨ret_bool (by rw [HS.out]), hB0.trans (hb1.mono hB0.size)⟩

theorem tilingOkI_any (W T : Int) (A : Option Addr) (n c B : Nat) (bs : List Bool) (L : List Int) (D : Option Addr) (m d : Nat) (w : World) (hbl : bs.length = n) (hL : L.length = m)
    (hr : Reads w B 1 A n (bs.map Value.bool)) (hd : Reads w B 1 D m (L.map (Value.int .i64))) (hB : B ≤ w.heap.size) (hn : n ≤ 9223372036854775807) (hm : m ≤ 9223372036854775807) :
    Calls Try.prog 21 #[.agg #[.int .i64 W, .int .i64 T, .slice A n c], .slice D m d] w fun e w' => e = .returned (.bool (tilingB W T bs L)) ∧ Below w.heap.size w w' := by
  have hLO := hide (laidOkI_any W T A n c B bs L D m d (w.alloc (.cells #[.int .i64 W, .int .i64 T, .slice A n c] 25)) hbl hL (hr.alloc hB _) (hd.alloc hB _) (by simp; omega) hn hm)
  cases hv : laidB W T bs L with
  | false =>
    rw [hv] at hLO
    have HS := Lib.hid (tilingB_no hv)
    clear hv
    go_enter Try.func21, Try.ntmps21
    go_wp2_with fail
    refine (unhide hLO).mono ?_
    rintro e w0 ⟨rfl, hb0⟩
    go_wp2_with fail
    go_ret
    exact ⟨ret_bool (by rw [HS.out]), ((Below.refl _ _).alloc (Nat.le_refl _) _).trans (hb0.mono (by simp))⟩
  | true =>
    rw [hv] at hLO
    have hvv : validB W T bs = true := by
      cases h : validB W T bs with
      | true => rfl
      | false => rw [laidB_no h] at hv; cases hv
    obtain ⟨R, hR, rfl, rfl, rfl⟩ := reg_of_valid hvv
    subst hbl
    rw [laidB_ok hR] at hv
    have hml : m = R.C.length := by rw [← hL]; exact ((laysB_iff hR).1 hv).len
    subst hml
    have HS := Lib.hid (show tilingB R.W R.T R.C L = fullB R L by rw [tilingB_ok hR, hv, Bool.true_and])
    clear hv hvv
    go_enter Try.func21, Try.ntmps21
    go_wp2_with fail
    refine (unhide hLO).mono ?_
    rintro e w0 ⟨rfl, hb0⟩
    have hB0 := ((Below.refl w.heap.size w).alloc (Nat.le_refl _) (.cells #[.int .i64 R.W, .int .i64 R.T, .slice A R.C.length c] 25)).trans (hb0.mono (by simp))
    obtain ⟨hc0, hf0⟩ := bcell hb0
    go_wp2_with fail
    refine (full_any R hR A c B L D d _ (hr.below (hB0.mono hB)) (hd.below (hB0.mono hB)) (Nat.le_trans hB hB0.size)).mono ?_
    rintro e w1 ⟨rfl, hb1⟩
    go_wp2_with fail
    go_ret
    exact ⟨ret_bool (by rw [HS.out]), hB0.trans (hb1.mono hB0.size)⟩

end Go.Proofs.Ythepfpiphlfgnaa
