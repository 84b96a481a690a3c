/-
  YthepfpiphlfgnaaTa: tilings of the program: may a domino be laid, and the list behind it.
-/
import Derived.Test.YthepfpiphlfgnaaFm
import Derived.Test.YthepfpiphlfgnaaRw
import Derived.Test.YthepfpiphlfgnaaRep
namespace Go.Proofs.Ythepfpiphlfgnaa
open Go.RowKit

theorem frB_no {R : Reg} {L : List Int} {q : Nat} {way : Int} (h : R.step q way = -1) : frB R L q way = false := by unfold frB; rw [h]; rfl
theorem frB_at {R : Reg} {L : List Int} {q e : Nat} {way : Int} (h : R.step q way = (e : Int)) : frB R L q way = (R.C.getD q false && (R.C.getD e false && (decide (L.getD q 0 = 0) && decide (L.getD e 0 = 0)))) := by
  unfold frB opB
  rw [h, Int.toNat_natCast, decide_eq_true (show (0 : Int) ≤ (e : Int) by omega)]
  cases R.C.getD q false <;> cases R.C.getD e false <;> cases decide (L.getD q 0 = 0) <;> cases decide (L.getD e 0 = 0) <;> rfl

set_option maxHeartbeats 1000000 in
theorem free_any (R : Reg) (hR : R.ok) (A : Option Addr) (c B : Nat) (L : List Int) (D : Option Addr) (d : Nat) (q : Nat) (hq : q < R.C.length) (way : Int) (hl : L.length = R.C.length) (w : World)
    (hr : Reads w B 1 A R.C.length (R.C.map Value.bool)) (hd : Reads w B 1 D R.C.length (L.map (Value.int .i64))) :
    Calls Try.prog 179 #[.agg #[.int .i64 R.W, .int .i64 R.T, .slice A R.C.length c], .slice D R.C.length d, .int .i64 (q : Nat), .int .i64 way] w fun e w' => e = .returned (.bool (frB R L q way)) ∧ Below w.heap.size w w' := by
  have hl36 := (len_bd hR).2
  have hst := fun w' => hide (step_any R hR A R.C.length c q hq way w')
  have hsr := step_range hR hq way
  have I1 : inB (q : Int) 0 ((R.C.length : Int) - 1) = true := inB_t (by omega)
  have hLG := fun k (hk : k < R.C.length) => hd.getI hk
  have hCG := fun k (hk : k < R.C.length) => getB hr hk
  obtain ⟨ad, rfl, hab, hcell⟩ := hLG q hq
  obtain ⟨ac, rfl, hac, hcc⟩ := hCG q hq
  have hF0 := fun h => frB_no (R := R) (L := L) (q := q) (way := way) h
  have hF1 := fun e h => frB_at (R := R) (L := L) (q := q) (e := e) (way := way) h
  have k0 : Blk (w.alloc (boxR R.W R.T (some ac) R.C.length c)) w.heap.size 25 #[.int .i64 R.W, .int .i64 R.T, .slice (some ac) R.C.length c] := Blk.new _ _ _
  have hb0 : Below w.heap.size w (w.alloc (boxR R.W R.T (some ac) R.C.length c)) := (Below.refl _ _).alloc (Nat.le_refl _) _
  have HHAS : ∀ w', Hid (Calls Try.prog 193 #[.agg #[.int .i64 R.W, .int .i64 R.T, .slice (some ac) R.C.length c], .int .i64 (q : Nat)] w' fun e w'' => e = .returned (.bool true) ∧ Below w'.heap.size w' w'') := fun w' => by
    refine hide ?_
    have hb1 : Below w'.heap.size w' (w'.alloc (boxR R.W R.T (some ac) R.C.length c)) := (Below.refl _ _).alloc (Nat.le_refl _) _
    go_enter Try.func193, Try.ntmps193
    go_wp2_with (go_at_call 74; refine (in_any _ _ _ _).mono ?_; rintro e w3 ⟨rfl, rfl⟩; rw [I1])
    go_ret
    exact ⟨rfl, hb1⟩
  generalize R.step q way = z at *
  generalize frB R L q way = fb at *
  go_enter Try.func179, Try.ntmps179
  go_wp2_with fail
  refine (unhide (HHAS _)).mono ?_
  rintro e w1 ⟨rfl, hb1⟩
  have k1 := k0.below hb1 k0.lt
  have hB1 := hb0.trans (hb1.mono hb0.size)
  obtain ⟨b0, b1, b2⟩ := blk3 k1
  clear k0 hb0 hb1
  go_wp2_with fail
  refine (unhide (hst _)).mono ?_
  rintro e w2 ⟨rfl, hb2⟩
  have k2 := k1.below hb2 k1.lt
  have hB2 := hB1.trans (hb2.mono hB1.size)
  clear b0 b1 b2 k1 hb2
  obtain ⟨b0, b1, b2⟩ := blk3 k2
  rcases hsr with rfl | ⟨e, rfl, he⟩
  · have hf := hF0 rfl
    go_wp2_with fail
    go_ret
    exact ⟨by rw [hf]; rfl, hB2⟩
  · have HF := Lib.hid (hF1 e rfl)
    obtain ⟨ac', e1, _, hce⟩ := hCG e he
    injection e1 with e1
    subst e1
    obtain ⟨ad', e1, _, hle⟩ := hLG e he
    injection e1 with e1
    subst e1
    have c1 := cell_kept hcell (hB2.mono (Nat.le_refl _))
    have c2 := cell_kept hcc (hB2.mono (Nat.le_refl _))
    have c3 := cell_kept hce (hB2.mono (Nat.le_refl _))
    have c4 := cell_kept hle (hB2.mono (Nat.le_refl _))
    clear hcell hcc hce hle hLG hCG hF0 hF1 hst HHAS hr hd
    have hz0 : decide (0 ≤ (e : Int)) = true := decide_eq_true (by omega)
    generalize R.C.getD q false = p1 at *
    generalize R.C.getD e false = p2 at *
    generalize L.getD q 0 = u1 at *
    generalize L.getD e 0 = u2 at *
    cases p1 with
    | false =>
      go_wp2_with fail
      go_ret
      exact ⟨by rw [HF.out]; rfl, hB2⟩
    | true =>
      cases p2 with
      | false =>
        go_wp2_with fail
        go_ret
        exact ⟨by rw [HF.out]; rfl, hB2⟩
      | true =>
        by_cases h1 : u1 = 0
        · subst h1
          go_wp2_with fail
          go_ret
          exact ⟨by rw [HF.out]; simp [Bool.beq_eq_decide_eq], hB2⟩
        · have hu : (u1 == 0) = false := by simpa using h1
          have hu2 : decide (u1 = 0) = false := by simpa using h1
          clear h1
          go_wp2_with fail
          go_ret
          exact ⟨by rw [HF.out, hu2]; rfl, hB2⟩

set_option maxHeartbeats 1000000 in
set_option maxRecDepth 20000 in
theorem lay_any (R : Reg) (hR : R.ok) (A : Option Addr) (n c B : Nat) (L : List Int) (D : Option Addr) (d : Nat) (q : Nat) (way : Int) (hP : Plain D) (hl : L.length = R.C.length) (hf : frB R L q way = true) (w : World)
    (hd : Reads w B 1 D R.C.length (L.map (Value.int .i64))) (hB : B ≤ w.heap.size) :
    Calls Try.prog 180 #[.agg #[.int .i64 R.W, .int .i64 R.T, .slice A n c], .slice D R.C.length d, .int .i64 (q : Nat), .int .i64 way] w fun e w' => ∃ g c1 c2, e = .returned (.slice (some ⟨g, 0, none⟩) R.C.length c1) ∧ w'.ownsRow w.heap.size 3 1 (.slice (some ⟨g, 0, none⟩) R.C.length c2) R.C.length ((lyV R L q way).map (Value.int .i64)) ∧ Below w.heap.size w w' := by
  have hl36 := (len_bd hR).2
  have hl1 := (len_bd hR).1
  obtain ⟨e, he, hqc, _, hec, _⟩ := frB_iff.1 hf
  have hq := cell_lt hqc
  have hel := cell_lt hec
  have hne := step_ne hR hq he
  have hway : 1 ≤ way ∧ way ≤ 4 := by rcases step_cases he with ⟨h, _⟩ | ⟨h, _⟩ | ⟨h, _⟩ | ⟨h, _⟩ <;> omega
  have HC := fun w' (h : Below w.heap.size w w') => hide (clone_any D d B L w' hP (by rw [hl]; exact hd.below (h.mono hB)) (by omega))
  simp only [hl] at HC
  have hst := fun w' => hide (step_any R hR A n c q hq way w')
  have hbk := fun w' => hide (back_any way hway w')
  have hly : lyV R L q way = (L.set q way).set e (back way) := by unfold lyV; rw [he, Int.toNat_natCast]
  rw [hly]
  simp only [he] at hst
  generalize back way = bk at *
  have k0 : Blk (w.alloc (boxR R.W R.T A n c)) w.heap.size 25 #[.int .i64 R.W, .int .i64 R.T, .slice A n c] := Blk.new _ _ _
  have hb0 : Below w.heap.size w (w.alloc (boxR R.W R.T A n c)) := (Below.refl _ _).alloc (Nat.le_refl _) _
  clear hf hly hway he hd hqc hec
  go_enter Try.func180, Try.ntmps180
  go_wp2_with fail
  refine (unhide (HC _ hb0)).mono ?_
  rintro e' w1 ⟨A', c', rfl, ho1, hb1⟩
  have k1 := k0.below hb1 k0.lt
  have hB1 := hb0.trans (hb1.mono hb0.size)
  rw [hl] at ho1 ⊢
  obtain ⟨g, cg, hsh, _, hg1, hg2⟩ := own_shape ho1 hl1
  simp only [Value.slice.injEq, true_and] at hsh
  obtain ⟨rfl, rfl⟩ := hsh
  have ho1' := own_mono ho1 hb0.size
  obtain ⟨b0, b1, b2⟩ := blk3 k1
  clear ho1 hb1 HC k0 hb0 hg1
  go_wp2_with fail
  refine (unhide (hst _)).mono ?_
  rintro e' w2 ⟨rfl, hb2⟩
  have ho2 := own_below ho1' hb2 (Nat.le_refl _)
  have hB2 := hB1.trans (hb2.mono hB1.size)
  have hgw : w.heap.size ≤ g := (ho1'.lt g rfl).1
  have q0 := ho2.cellAt q (by omega)
  have q1 := ho2.cellAt e (by omega)
  have f0 := ho2.frozenAt q
  have f1 := ho2.frozenAt e
  rw [List.getElem?_map, List.getElem?_eq_getElem (by omega)] at q0 q1
  clear hb2 b0 b1 b2 k1 hst ho1'
  go_wp2_with (go_at_call 176; refine (unhide (hbk _)).mono ?_; rintro e' w3 ⟨rfl, rfl⟩)
  go_ret
  exact ⟨g, _, _, rfl, own_set (own_set ho2 q way) e bk, (hB2.setCell hgw _).setCell hgw _⟩

end Go.Proofs.Ythepfpiphlfgnaa
