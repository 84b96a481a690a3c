/-
  YtahpipcmgcambaaD5: LiftOne of the reference: a domino less.
-/
import Derived.Test.YtahpipcmgcambaaD3
import Derived.Test.YtahpipcmgcambaaFq
namespace Go.Proofs.Ytahpipcmgcambaa
open Go.RowKit

theorem set0_at (L : List Int) (i j : Nat) : (L.set i 0).getD j 0 = if j = i then 0 else L.getD j 0 := by
  rw [List.getD_eq_getElem?_getD, List.getD_eq_getElem?_getD, List.getElem?_set]
  by_cases h : j = i
  · subst h
    rw [if_pos rfl, if_pos rfl]
    split <;> rfl
  · rw [if_neg (Ne.symm h), if_neg h]
theorem lay_lift {R : Reg} (hR : R.ok) {L : List Int} (hL : Lay R L) {k e : Nat} (hk : k < R.C.length) (h0 : L.getD k 0 ≠ 0) (he : R.step k (L.getD k 0) = (e : Int)) : Lay R ((L.set e 0).set k 0) := by
  have hat : ∀ j, ((L.set e 0).set k 0).getD j 0 = if j = k then 0 else if j = e then 0 else L.getD j 0 := fun j => by rw [set0_at, set0_at]
  have hke : L.getD e 0 = back (L.getD k 0) ∧ e < R.C.length := by
    rcases layAt_of hR hL hk with h | ⟨d, h1, h2, h3, h4⟩
    · exact absurd h h0
    · have : d = e := by rw [he] at h1; omega
      subst this
      exact ⟨h4, cell_lt h3⟩
  refine lay_of hR (by simp [hL.len]) fun j hj => ?_
  unfold LayAt
  by_cases hjk : j = k
  · left; rw [hat, if_pos hjk]
  · by_cases hje : j = e
    · left; rw [hat, if_neg hjk, if_pos hje]
    · rw [hat, if_neg hjk, if_neg hje]
      rcases layAt_of hR hL hj with h | ⟨d, h1, h2, h3, h4⟩
      · exact .inl h
      · right
        refine ⟨d, h1, h2, h3, ?_⟩
        have hb := step_back hR.1 (xy_lt hR hj).2 h1
        rw [← h4] at hb
        have hdk : d ≠ k := by
          rintro rfl
          rw [he] at hb
          omega
        have hde : d ≠ e := by
          rintro rfl
          have hb2 := step_back hR.1 (xy_lt hR hk).2 he
          rw [← hke.1, hb] at hb2
          omega
        rw [hat, if_neg hdk, if_neg hde]
        exact h4

def LfRet (w : World) (R : Reg) (e : Ending) (w' : World) : Prop :=
  ∃ v ok M, e = .returned (.tuple #[v, .bool ok]) ∧ LiAt w' w.heap.size v M ∧ Lay R M ∧ Below w.heap.size w w'

set_option maxHeartbeats 1000000 in
set_option maxRecDepth 20000 in
theorem liftS_ok (R : Reg) (hR : R.ok) (A : Option Addr) (c B : Nat) (L : List Int) (D : Option Addr) (d : Nat) (k : Nat) (hk : k < R.C.length) (hL : Lay R L) (w : World)
    (hr : Reads w B 1 A R.C.length (R.C.map Value.bool)) (hd : Reads w B 1 D R.C.length (L.map (Value.int .i64))) (hB : B ≤ w.heap.size) :
    Calls Try.prog 136 #[.agg #[.int .i64 R.W, .int .i64 R.T, .slice A R.C.length c], .slice D R.C.length d, .int .i64 (k : Nat)] w (LfRet w R) := by
  have hl36 := (len_bd hR).2
  have hl1 := (len_bd hR).1
  have hlo : laidB R.W R.T R.C L = true := by rw [laidB_ok hR]; exact (laysB_iff hR).2 hL
  have hb0 : Below w.heap.size w (w.alloc (boxR R.W R.T A R.C.length c)) := (Below.refl _ _).alloc (Nat.le_refl _) _
  have hLO := hide (laidOkS_any R.W R.T A R.C.length c B R.C L D R.C.length d (w.alloc (boxR R.W R.T A R.C.length c)) rfl hL.len (hr.alloc hB _) (hd.alloc hB _) (by simp; omega) (by omega) (by omega))
  rw [hlo] at hLO
  have hLn := hL.len
  have hONE := ints_one (L := L)
  have HLL := Lib.hid hL
  have hI : inB (k : Int) 0 ((R.C.length : Int) - 1) = true := by unfold inB; simp; omega
  obtain ⟨ad, rfl, _, r0⟩ := hd.getI (k := k) (by omega)
  clear hlo
  go_enter Try.func136, Try.ntmps136
  go_wp2_with fail
  refine (unhide hLO).mono ?_
  rintro e w1 ⟨rfl, hb1⟩
  obtain ⟨hB1, hk1, b0, b1, b2⟩ := box_keep hb1
  clear hb1
  have ho1 : (w1.alloc (.cells #[] 3)).ownsRow (w.heap.size + 1) 3 1 (.slice (some ⟨w1.heap.size, 0, none⟩) 0 0) 0 [] := by simpa using World.ownsRow_made (base := w.heap.size + 1) (e := 3) (size := 1) w1 #[] 0 hk1.lt (by simp [maxLen]) (by simp)
  have hk2 := hk1.alloc (.cells #[] 3)
  have hB2 := hB1.alloc hB1.size (.cells #[] 3)
  have hd2 := hd.below (hB2.mono hB)
  clear b0 b1 b2
  go_wp2_with (at_builtin; refine wpList_appN rfl _ _ _ rfl (w.heap.size + 1) 3 _ 8 Try.underlying26 info_int rfl (by omega) (.slice (some ⟨w1.heap.size, 0, none⟩) 0 0) 0 [] rfl ho1 B (some ad) R.C.length d (L.map (Value.int .i64)) rfl hd2 hONE (by omega) (by have := hk2.lt; omega) ?_; rintro v' w3 ho3 hg3 _; obtain ⟨g, c', rfl, hP3⟩ := pg_copy hB1 hk1 ho3 hg3 hLn hl1; clear ho3 hg3)
  refine (l1In_any _ _ _ _).mono ?_
  rintro e w' ⟨rfl, rfl⟩
  rw [hI]
  have d0 := (hP3.bel.cell (p := ad.add k) (World.block_lt_of_cell? w _ r0)).trans r0
  clear ho1 hk2 hB2 hd2 hk1 hB1 hLO
  obtain ⟨z, hz⟩ : ∃ z, z = L.getD k 0 := ⟨_, rfl⟩
  have HZ := Lib.hid hz
  rw [← hz] at d0
  clear hz
  by_cases h0 : z = 0
  · subst h0
    go_wp2_with fail
    go_ret2
    exact ⟨.slice (some ⟨g, 0, none⟩) R.C.length c', false, L, rfl, ⟨some ⟨g, 0, none⟩, c', c', by rw [hLn], own_mono hP3.own (by omega)⟩, HLL.out, hP3.bel⟩
  · have h0d : (z == 0) = false := by simpa using h0
    have hze : L.getD k 0 ≠ 0 := by rw [← HZ.out]; exact h0
    obtain ⟨e, he, he1⟩ : ∃ e : Nat, R.step k z = (e : Int) ∧ e < R.C.length := by
      rcases layAt_of hR hL hk with h | ⟨d, h1, h2, h3, h4⟩
      · exact absurd h hze
      · exact ⟨d, by rw [HZ.out]; exact h1, cell_lt h3⟩
    have hST := fun w' => hide (stepS_any R hR A R.C.length c k hk z w')
    rw [he] at hST
    have hML := lay_lift hR hL hk hze (e := e) (by rw [← HZ.out]; exact he)
    have HML := Lib.hid hML
    obtain ⟨b0, b1, b2⟩ := hP3.rcells
    clear he hML hze
    have hS1 := hST w3.drew
    have hPd := hP3.drew
    clear hST
    go_upto_region 6 with fail
    go_region_with
      (first
        | (go_at_call 65; (with_reducible refine (unhide hS1).mono ?_); rintro e5 w5 ⟨rfl, hb5⟩; have hP5 := hPd.below hb5; have q0 := hP5.ocell (j := e) (by omega); have f0 := hP5.free e))
    all_goals
      have hP6 := hP5.set e 0
      have q1 := hP6.ocell (j := k) (by simp; omega)
      have f1 := hP6.free k
      have hP7 := hP6.set k 0
      clear hP3 hPd hS1 hb5 b0 b1 b2 d0 q0 f0 hP5 hP6
      go_simp
      go_wp2_with fail
      go_ret2
      exact ⟨.slice (some ⟨g, 0, none⟩) R.C.length c', true, (L.set e 0).set k 0, rfl, ⟨some ⟨g, 0, none⟩, c', c', by simp [hLn], own_mono hP7.own (by omega)⟩, HML.out, hP7.bel⟩

end Go.Proofs.Ytahpipcmgcambaa
