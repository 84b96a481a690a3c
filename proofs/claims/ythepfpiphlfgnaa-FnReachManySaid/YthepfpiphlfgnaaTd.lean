/-
  YthepfpiphlfgnaaTd: laying dominoes in the reference: StepTo, LayOne, the first cell that wants one.
-/
import Derived.Test.YthepfpiphlfgnaaTa
import Derived.Test.YthepfpiphlfgnaaFs
import Derived.Test.YthepfpiphlfgnaaByS
namespace Go.Proofs.Ythepfpiphlfgnaa
open Go.RowKit

set_option maxRecDepth 20000 in
theorem stepToS_any (R : Reg) (hR : R.ok) (A : Option Addr) (c B : Nat) (q : Nat) (hq : q < R.C.length) (way : Int) (hway : 1 ≤ way ∧ way ≤ 4) (w : World) (hr : Reads w B 1 A R.C.length (R.C.map Value.bool)) (hB : B ≤ w.heap.size) :
    Calls Try.prog 187 #[.agg #[.int .i64 R.W, .int .i64 R.T, .slice A R.C.length c], .int .i64 (q : Nat), .int .i64 way] w fun e w' => e = .returned (.int .i64 (R.step q way)) ∧ Below w.heap.size w w' := by
  have hl36 := (len_bd hR).2
  have HV := fun w' (h : Below w.heap.size w w') => hide (validS_any R.W R.T A R.C.length c B R.C w' (hr.below (h.mono hB)) (Nat.le_trans hB h.size) (by omega))
  simp only [valid_of_ok hR] at HV
  have hst := fun w' => hide (stepS_any R hR A R.C.length c q hq way w')
  have I1 : inB (q : Int) 0 ((R.C.length : Int) - 1) = true := inB_t (by omega)
  have I2 : inB way 1 4 = true := inB_t hway
  have hb0 : Below w.heap.size w (w.alloc (boxR R.W R.T A R.C.length c)) := (Below.refl _ _).alloc (Nat.le_refl _) _
  have k0 : Blk (w.alloc (boxR R.W R.T A R.C.length c)) w.heap.size 25 #[.int .i64 R.W, .int .i64 R.T, .slice A R.C.length c] := Blk.new _ _ _
  generalize R.step q way = z at *
  clear hr
  go_enter Try.func187, Try.ntmps187
  go_wp2_with fail
  refine (unhide (HV _ hb0)).mono ?_
  rintro e w1 ⟨rfl, hb1⟩
  have hB1 := hb0.trans (hb1.mono hb0.size)
  obtain ⟨b0, b1, b2⟩ := blk3 (k0.below hb1 k0.lt)
  clear k0 hb0 hb1 HV
  go_wp2_with (go_at_call 91; first | ((with_reducible refine (l1In_any (q : Int) 0 ((R.C.length : Int) - 1) _).mono ?_); rintro e w' ⟨rfl, rfl⟩; rw [I1]) | ((with_reducible refine (l1In_any way 1 4 _).mono ?_); rintro e w' ⟨rfl, rfl⟩; rw [I2]))
  refine (unhide (hst _)).mono ?_
  rintro e w2 ⟨rfl, hb2⟩
  go_wp2_with fail
  go_ret
  exact ⟨rfl, hB1.trans (hb2.mono hB1.size)⟩

def fiZ (R : Reg) (L : List Int) : Int := match fiV R L with
  | none => -1
  | some k => (k : Int)
theorem fiZ_none {R : Reg} {L : List Int} (h : fiV R L = none) : fiZ R L = -1 := by unfold fiZ; rw [h]
theorem fiZ_some {R : Reg} {L : List Int} {k : Nat} (h : fiV R L = some k) : fiZ R L = (k : Int) := by unfold fiZ; rw [h]

set_option maxHeartbeats 1000000 in
theorem firstS_any (R : Reg) (hR : R.ok) (A : Option Addr) (c B : Nat) (L : List Int) (D : Option Addr) (d : Nat) (hl : L.length = R.C.length) (w : World)
    (hr : Reads w B 1 A R.C.length (R.C.map Value.bool)) (hd : Reads w B 1 D R.C.length (L.map (Value.int .i64))) (hB : B ≤ w.heap.size) :
    Calls Try.prog 156 #[.agg #[.int .i64 R.W, .int .i64 R.T, .slice A R.C.length c], .slice D R.C.length d] w fun e w' => e = .returned (.int .i64 (fiZ R L)) ∧ Below w.heap.size w w' := by
  have hl36 := (len_bd hR).2
  obtain ⟨zz, hzz⟩ : ∃ zz, zz = fiZ R L := ⟨_, rfl⟩
  rw [← hzz]
  have HZ := Lib.hid hzz
  clear hzz
  have hb0 : Below w.heap.size w (w.alloc (boxR R.W R.T A R.C.length c)) := (Below.refl _ _).alloc (Nat.le_refl _) _
  have k0 : Blk (w.alloc (boxR R.W R.T A R.C.length c)) w.heap.size 25 #[.int .i64 R.W, .int .i64 R.T, .slice A R.C.length c] := Blk.new _ _ _
  have hLG := fun k (hk : k < R.C.length) => (hd.below (hb0.mono hB)).getI hk
  have hCG := fun k (hk : k < R.C.length) => getB (hr.below (hb0.mono hB)) hk
  obtain ⟨b0, b1, b2⟩ := blk3 k0
  clear hr hd
  go_enter Try.func156, Try.ntmps156
  go_upto_region 2 with fail
  generalize w.alloc (boxR R.W R.T A R.C.length c) = w0 at *
  go_loopg [5] R.C.length (fun r s5 wr => ∃ k : Nat, k + r = R.C.length ∧ s5 = .int .i64 (k : Nat) ∧ (∀ j, j < k → opB R L j = false) ∧ wr = w0)
  case atStart => exact ⟨0, by omega, rfl, fun j hj => absurd hj (by omega), rfl⟩
  case round =>
    obtain ⟨k, hk, rfl, hall, rfl⟩ := hrel
    have HK := Lib.hid hk
    have HALL := Lib.hid hall
    clear hk hall
    by_cases hlt : k < R.C.length
    · obtain ⟨ac, rfl, hac, hcc⟩ := hCG k hlt
      obtain ⟨ad, rfl, had, hxk⟩ := hLG k hlt
      have hop : opB R L k = (R.C.getD k false && decide (L.getD k 0 = 0)) := rfl
      have HOP := Lib.hid hop
      clear hop hLG hCG
      cases hcb : R.C.getD k false with
      | false =>
        rw [hcb] at hcc HOP
        have HNO : Hid (opB R L k = false) := Lib.hid (by rw [HOP.out]; rfl)
        clear hcb HOP
        go_wp2_with fail
        go_roundg (R.C.length - (k + 1))
        case measure => have := HK.out; omega
        case rel =>
          refine ⟨k + 1, by have := HK.out; omega, by go_num, fun j hj => ?_, rfl⟩
          by_cases hjk : j = k
          · subst hjk; exact HNO.out
          · exact HALL.out j (by omega)
      | true =>
        rw [hcb] at hcc HOP
        by_cases hz : L.getD k 0 = 0
        · have HYES : Hid (opB R L k = true) := Lib.hid (by rw [HOP.out, hz]; rfl)
          have hfi : fiV R L = some k := fiV_some.2 ⟨hlt, HYES.out, HALL.out⟩
          have HFZ := Lib.hid (fiZ_some hfi)
          rw [hz] at hxk
          clear hz hcb HOP hfi
          go_wp2_with fail
          go_ret
          exact ⟨by rw [HZ.out, HFZ.out]; rfl, hb0⟩
        · have HNO : Hid (opB R L k = false) := Lib.hid (by rw [HOP.out, decide_eq_false hz]; rfl)
          have hu : (L.getD k 0 == 0) = false := by simpa using hz
          clear hcb HOP hz
          generalize L.getD k 0 = u at *
          go_wp2_with fail
          go_roundg (R.C.length - (k + 1))
          case measure => have := HK.out; omega
          case rel =>
            refine ⟨k + 1, by have := HK.out; omega, by go_num, fun j hj => ?_, rfl⟩
            by_cases hjk : j = k
            · subst hjk; exact HNO.out
            · exact HALL.out j (by omega)
    · have hfi : fiV R L = none := fiV_none.2 fun j hj => HALL.out j (by have := HK.out; omega)
      have HFZ := Lib.hid (fiZ_none hfi)
      clear hfi hLG hCG
      go_wp2_with fail
      go_ret
      exact ⟨by rw [HZ.out, HFZ.out]; rfl, hb0⟩

/-- A fresh row and a yes or no. -/
def LayRet (w : World) (n : Nat) (b : Bool) (M : List Int) (e : Ending) (w' : World) : Prop :=
  ∃ g c1 c2, e = .returned (.tuple #[.slice (some ⟨g, 0, none⟩) n c1, .bool b]) ∧ w'.ownsRow w.heap.size 3 1 (.slice (some ⟨g, 0, none⟩) n c2) n (M.map (Value.int .i64)) ∧ Below w.heap.size w w'

set_option maxHeartbeats 2000000 in
set_option maxRecDepth 20000 in
theorem layOneS_any (R : Reg) (hR : R.ok) (A : Option Addr) (c B : Nat) (L : List Int) (D : Option Addr) (d : Nat) (q : Nat) (hq : q < R.C.length) (way : Int) (hway : 1 ≤ way ∧ way ≤ 4) (hL : Lay R L) (w : World)
    (hr : Reads w B 1 A R.C.length (R.C.map Value.bool)) (hd : Reads w B 1 D R.C.length (L.map (Value.int .i64))) (hB : B ≤ w.heap.size) :
    Calls Try.prog 157 #[.agg #[.int .i64 R.W, .int .i64 R.T, .slice A R.C.length c], .slice D R.C.length d, .int .i64 (q : Nat), .int .i64 way] w (LayRet w R.C.length (frB R L q way) (if frB R L q way = true then lyV R L q way else L)) := by
  have hl36 := (len_bd hR).2
  have hl1 := (len_bd hR).1
  have hlo : laidB R.W R.T R.C L = true := by rw [laidB_ok hR]; exact (laysB_iff hR).2 hL
  have hLO := hide (laidOkS_any R.W R.T A R.C.length c B R.C L D R.C.length d (w.alloc (boxR R.W R.T A R.C.length c)) rfl hL.len (hr.alloc hB _) (hd.alloc hB _) (by simp; omega) (by omega) (by omega))
  rw [hlo] at hLO
  have hST := fun w' (h : Below w.heap.size w w') => hide (stepToS_any R hR A c B q hq way hway w' (hr.below (h.mono hB)) (Nat.le_trans hB h.size))
  have hbk := fun w' => hide (backS_any way hway w')
  have hLG := fun k (hk : k < R.C.length) w' (h : Below w.heap.size w w') => (hd.below (h.mono hB)).getI hk
  have hCG := fun k (hk : k < R.C.length) w' (h : Below w.heap.size w w') => getB (hr.below (h.mono hB)) hk
  have hLn := hL.len
  have HLN := Lib.hid hLn
  have hONE := ints_one (L := L)
  have hsr := step_range hR hq way
  have hne := fun e h => step_ne hR (c := q) (e := e) (way := way) hq h
  have hF0 := fun h => frB_no (R := R) (L := L) (q := q) (way := way) h
  have hF1 := fun e h => frB_at (R := R) (L := L) (q := q) (e := e) (way := way) h
  have hly : ∀ e : Nat, R.step q way = (e : Int) → lyV R L q way = (L.set q way).set e (back way) := fun e he => by unfold lyV; rw [he, Int.toNat_natCast]
  generalize back way = bk at *
  generalize lyV R L q way = LV at *
  generalize frB R L q way = fb at *
  generalize R.step q way = z at *
  obtain ⟨MM, hMM⟩ : ∃ MM, MM = (if fb = true then LV else L) := ⟨_, rfl⟩
  rw [← hMM]
  have HMM := Lib.hid hMM
  clear hMM hlo hL hLn hway
  go_enter Try.func157, Try.ntmps157
  go_wp2_with fail
  refine (unhide hLO).mono ?_
  rintro e w1 ⟨rfl, hb1⟩
  obtain ⟨hB1, hk1, b0, b1, b2⟩ := box_keep hb1
  clear hb1 hLO
  have ho1 : (w1.alloc (.cells #[] 3)).ownsRow (w.heap.size + 1) 3 1 (.slice (some ⟨w1.heap.size, 0, none⟩) 0 0) 0 [] := by simpa using World.ownsRow_made (base := w.heap.size + 1) (e := 3) (size := 1) w1 #[] 0 hk1.lt (by simp [maxLen]) (by simp)
  have hk2 := hk1.alloc (.cells #[] 3)
  have hB2 := hB1.alloc hB1.size (.cells #[] 3)
  have hd2 := hd.below (hB2.mono hB)
  clear b0 b1 b2
  go_wp2_with (at_builtin; refine wpList_appN rfl _ _ _ rfl (w.heap.size + 1) 3 _ 8 Try.underlying26 info_int rfl (by omega) (.slice (some ⟨w1.heap.size, 0, none⟩) 0 0) 0 [] rfl ho1 B D R.C.length d (L.map (Value.int .i64)) rfl hd2 hONE (by omega) (by have := hk2.lt; omega) ?_; rintro v' w3 ho3 hg3 _; obtain ⟨g, c', rfl, hP3⟩ := pg_copy hB1 hk1 ho3 hg3 HLN.out hl1; obtain ⟨b0, b1, b2⟩ := hP3.rcells; clear ho3 hg3)
  refine (unhide (hST _ hP3.bel)).mono ?_
  rintro e w4 ⟨rfl, hb4⟩
  have hP4 := hP3.below hb4
  clear ho1 hk2 hB2 hd2 hB1 hk1 hP3 hb4 b0 b1 b2 hST
  obtain ⟨b0, b1, b2⟩ := hP4.rcells
  have hown4 : w4.ownsRow (w.heap.size + 1) 3 1 (.slice (some ⟨g, 0, none⟩) R.C.length c') R.C.length (L.map (Value.int .i64)) := by have := hP4.own; rwa [HLN.out] at this
  have hno : fb = false → LayRet w R.C.length fb MM (.returned (.tuple #[.slice (some ⟨g, 0, none⟩) R.C.length c', .bool false])) w4 := fun h => by
    subst h
    rw [HMM.out]
    exact ⟨g, c', c', rfl, own_mono hown4 (by omega), hP4.bel⟩
  rcases hsr with rfl | ⟨e, rfl, he⟩
  · have hf := hF0 rfl
    clear hF0 hF1 hLG hCG hly hne
    go_wp2_with fail
    go_ret2
    exact hno hf
  · have HF := Lib.hid (hF1 e rfl)
    have hnq := hne e rfl
    have hlv := hly e rfl
    obtain ⟨ac, rfl, _, hcq⟩ := hCG q hq _ hP4.bel
    obtain ⟨ac', e1, _, hce⟩ := hCG e he _ hP4.bel
    injection e1 with e1
    subst e1
    obtain ⟨ad, rfl, _, hlq⟩ := hLG q hq _ hP4.bel
    obtain ⟨ad', e1, _, hle⟩ := hLG e he _ hP4.bel
    injection e1 with e1
    subst e1
    have hz0 : decide ((e : Int) < 0) = false := decide_eq_false (by omega)
    have HLV := Lib.hid hlv
    clear hF0 hF1 hLG hCG hly hne hr hd hlv
    have hlt := hP4.lt
    generalize R.C.getD q false = p1 at *
    generalize R.C.getD e false = p2 at *
    generalize L.getD q 0 = u1 at *
    generalize L.getD e 0 = u2 at *
    cases p1 with
    | false =>
      have hf : fb = false := by rw [HF.out]; rfl
      go_wp2_with fail
      go_ret2
      exact hno hf
    | true =>
      cases p2 with
      | false =>
        have hf : fb = false := by rw [HF.out]; rfl
        go_wp2_with fail
        go_ret2
        exact hno hf
      | true =>
        by_cases h1 : u1 = 0
        · subst h1
          by_cases h2 : u2 = 0
          · subst h2
            have hf : fb = true := by rw [HF.out]; rfl
            subst hf
            have q0 := hown4.cellAt q (by omega)
            have q1 := hown4.cellAt e (by omega)
            have f0 := hown4.frozenAt q
            have f1 := hown4.frozenAt e
            rw [List.getElem?_map, List.getElem?_eq_getElem (by have := HLN.out; omega)] at q0 q1
            have HM2 : Hid (MM = LV) := Lib.hid (by rw [HMM.out, if_pos rfl])
            clear hno HMM
            go_wp2_with (go_at_call 112; refine (unhide (hbk _)).mono ?_; rintro e' w5 ⟨rfl, rfl⟩)
            go_ret2
            refine ⟨g, c', c', rfl, ?_, (hP4.bel.setCell (by simp; omega) _).setCell (by simp; omega) _⟩
            rw [HM2.out, HLV.out]
            exact own_mono (own_set (own_set hown4 q way) e bk) (by omega)
          · have hu : (u2 != 0) = true := by simpa using h2
            have hf : fb = false := by rw [HF.out, decide_eq_false h2]; rfl
            clear h2
            go_wp2_with fail
            go_ret2
            exact hno hf
        · have hu : (u1 != 0) = true := by simpa using h1
          have hf : fb = false := by rw [HF.out, decide_eq_false h1]; rfl
          clear h1
          go_wp2_with fail
          go_ret2
          exact hno hf

end Go.Proofs.Ythepfpiphlfgnaa
