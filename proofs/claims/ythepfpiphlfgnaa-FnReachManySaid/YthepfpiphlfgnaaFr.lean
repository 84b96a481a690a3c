/-
  YthepfpiphlfgnaaFr: by how much a flip changes a height: the program's rise and FlipRise.
-/
import Derived.Test.YthepfpiphlfgnaaQ4
import Derived.Test.YthepfpiphlfgnaaBl
import Derived.Deep.RegionHeld3
namespace Go.Proofs.Ythepfpiphlfgnaa
open Go.RowKit

def rsZ (R : Reg) (L : List Int) (k : Int) : Int := if 0 ≤ k then rsV R L k.toNat else 0
theorem rsZ_no {R : Reg} {L : List Int} {k : Int} (h : flB R L k = false) : rsZ R L k = 0 := by
  unfold rsZ
  split
  · rename_i h0
    obtain ⟨m, rfl⟩ := Int.eq_ofNat_of_zero_le h0
    exact rsV_no h
  · rfl
theorem flB_nat {R : Reg} {L : List Int} {k : Int} (h : flB R L k = true) : ∃ m : Nat, k = (m : Nat) ∧ m < R.cn ∧ rsZ R L k = rsV R L m := by
  obtain ⟨a, b, ha, hb, rfl, _⟩ := fl_cases h
  exact ⟨_, rfl, ci_lt (by omega) (by omega), by unfold rsZ; rw [if_pos (by omega), Int.toNat_natCast]⟩

set_option maxHeartbeats 1000000 in
set_option maxRecDepth 20000 in
theorem rise_ok (R : Reg) (hR : R.ok) (hS : SimpleP R) (A : Option Addr) (c B : Nat) (L : List Int) (D : Option Addr) (d : Nat) (k : Int) (hk9 : k ≤ 9223372036854775807) (hP : Plain D) (hL : Lay R L) (hF : Full R L) (w : World)
    (hr : Reads w B 1 A R.C.length (R.C.map Value.bool)) (hd : Reads w B 1 D R.C.length (L.map (Value.int .i64))) (hB : B ≤ w.heap.size) :
    Calls Try.prog 192 #[.agg #[.int .i64 R.W, .int .i64 R.T, .slice A R.C.length c], .slice D R.C.length d, .int .i64 k] w fun e w' => e = .returned (.int .i64 (rsZ R L k)) ∧ Below w.heap.size w w' := by
  have hcn := cn_bd hR
  have hb0 : Below w.heap.size w (w.alloc (boxR R.W R.T A R.C.length c)) := (Below.refl _ _).alloc (Nat.le_refl _) _
  have HFL := hide (flip_any R hR A R.C.length c B L D d k hk9 hP hL.len (w.alloc (boxR R.W R.T A R.C.length c)) (hd.alloc hB _) (Nat.le_trans hB hb0.size))
  cases hfl : flB R L k with
  | false =>
    rw [hfl] at HFL
    rw [rsZ_no hfl]
    clear hfl
    go_enter Try.func192, Try.ntmps192
    go_wp2_with fail
    refine (unhide HFL).mono ?_
    rintro e w1 ⟨A1, c1, c1', rfl, ho1, hb1⟩
    go_wp2_with fail
    go_ret
    exact ⟨rfl, (box_keep hb1).1⟩
  | true =>
    obtain ⟨m, rfl, hm, hrs⟩ := flB_nat hfl
    rw [hrs]
    have hH := htsOf_yes hR hS hL hF
    have hL2 := lay_flV hR hL (m : Int)
    have hF2 := (full_flV hR hL (m : Int)).2 hF
    have hH2 := hts_flV hR hL hH hfl
    generalize htsOf R.W R.T R.C L = H at *
    have hb1 := ht_le hR hS.1 (hp_of_hts hL hH) (x := m % (R.W + 1)) (y := m / (R.W + 1)) (ci_in hm).1 (ci_in hm).2
    unfold Reg.ht at hb1
    rw [ci_of] at hb1
    have hor := rsV_or hfl
    have hg : (H.set m (H.getD m 0 + rsV R L m)).getD m 0 = H.getD m 0 + rsV R L m := by rw [getD_set (by rw [hH.len]; exact hm), if_pos rfl]
    have hlen2 : (flV R L (m : Int)).length = R.C.length := by rw [flV_len]; exact hL.len
    rw [hfl] at HFL
    have hHT1 : ∀ (w' : World) (E : Option Addr) (e1 : Nat), Below w.heap.size w w' → Reads w' w'.heap.size 1 E R.C.length ((flV R L (m : Int)).map (Value.int .i64)) →
        Hid (Calls Try.prog 80 #[.agg #[.int .i64 R.W, .int .i64 R.T, .slice A R.C.length c], .slice E R.C.length e1] w' fun e w'' => ∃ g, e = .returned (.slice (some ⟨g, 0, none⟩) R.cn R.cn) ∧ w''.cell? ⟨g, m, none⟩ = some (.int .i64 (H.getD m 0 + rsV R L m)) ∧ Below w'.heap.size w' w'') := fun w' E e1 h ha => by
      have := heights_any R hR hS A c w'.heap.size (flV R L (m : Int)) E e1 hL2 hF2 _ hH2 w' ((hr.below (h.mono hB)).more (Nat.le_trans hB h.size)) (by rw [hlen2]; exact ha) (Nat.le_refl _)
      rw [hlen2] at this
      refine hide (this.mono fun e w'' hh => ?_)
      obtain ⟨g, rfl, ho, hb⟩ := hh
      rw [hH2.len] at ho ⊢
      refine ⟨g, rfl, ?_, hb⟩
      rw [ho.cellAt m (by omega), List.getElem?_map, List.getElem?_eq_getElem (by rw [hH2.len]; exact hm)]
      rw [List.getD_eq_getElem?_getD, List.getElem?_eq_getElem (by rw [hH2.len]; exact hm)] at hg
      simp only [Option.getD_some] at hg
      rw [hg]; rfl
    have hHT2 : ∀ (w' : World), Below w.heap.size w w' →
        Hid (Calls Try.prog 80 #[.agg #[.int .i64 R.W, .int .i64 R.T, .slice A R.C.length c], .slice D R.C.length d] w' fun e w'' => ∃ g, e = .returned (.slice (some ⟨g, 0, none⟩) R.cn R.cn) ∧ w''.cell? ⟨g, m, none⟩ = some (.int .i64 (H.getD m 0)) ∧ Below w'.heap.size w' w'') := fun w' h => by
      have := heights_any R hR hS A c B L D d hL hF _ hH w' (hr.below (h.mono hB)) (by rw [hL.len]; exact hd.below (h.mono hB)) (Nat.le_trans hB h.size)
      rw [hL.len] at this
      refine hide (this.mono fun e w'' hh => ?_)
      obtain ⟨g, rfl, ho, hb⟩ := hh
      rw [hH.len] at ho ⊢
      refine ⟨g, rfl, ?_, hb⟩
      rw [ho.cellAt m (by omega), List.getElem?_map, List.getD_eq_getElem?_getD, List.getElem?_eq_getElem (by rw [hH.len]; exact hm)]; rfl
    have U := Lib.hid (IntWalk.i64_in (H.getD m 0 + rsV R L m - H.getD m 0) (by omega))
    have HD : Hid (H.getD m 0 + rsV R L m - H.getD m 0 = rsV R L m) := Lib.hid (by omega)
    have HL2 := Lib.hid hlen2
    clear hfl hrs hH hL2 hF2 hH2 hb1 hor hg hlen2
    generalize H.getD m 0 + rsV R L m = z2 at *
    generalize H.getD m 0 = z1 at *
    generalize rsV R L m = rr at *
    generalize flV R L (m : Int) = L2 at *
    go_enter Try.func192, Try.ntmps192
    go_wp2_with fail
    refine (unhide HFL).mono ?_
    rintro e w1 ⟨A1, c1, c1', rfl, ho1, hb1⟩
    rw [HL2.out] at ho1 ⊢
    obtain ⟨hB1, hk1, b0, b1, b2⟩ := box_keep hb1
    clear hb1
    go_upto_region 4 with fail
    have u := U.out
    go_region_with
      (first
        | (go_at_call 80; (with_reducible refine (unhide (hHT1 _ _ _ hB1.drew (Reads.of_own (own_drew ho1)))).mono ?_); rintro e w3 ⟨g3, rfl, hx3, hb3⟩; have d0 := cell_kept (w := w1.drew) b0 hb3; have d1 := cell_kept (w := w1.drew) b1 hb3; have d2 := cell_kept (w := w1.drew) b2 hb3)
        | (go_at_call 80; (with_reducible refine (unhide (hHT2 _ (hB1.drew.trans (hb3.mono hB1.drew.size)))).mono ?_); rintro e w4 ⟨g4, rfl, hx4, hb4⟩; have hx34 := cell_kept hx3 hb4; have f0 := cell_kept d0 hb4; have f1 := cell_kept d1 hb4; have f2 := cell_kept d2 hb4))
    all_goals
      clear u
      have hB3 := hB1.drew.trans (hb3.mono hB1.drew.size)
      have hB4 := hB3.trans (hb4.mono hB3.size)
      go_wp2_with fail
      go_ret
      exact ⟨ret_int HD.out, hB4⟩

/-- By how much a flip changes the height of its corner. -/
noncomputable def frV (W T : Int) (bs : List Bool) (L : List Int) (k : Int) : Int := if tiledB W T bs L = true then rsZ ⟨W.toNat, T.toNat, bs⟩ L k else 0
theorem frV_yes {R : Reg} {L : List Int} {k : Int} (h : tiledB R.W R.T R.C L = true) : frV R.W R.T R.C L k = rsZ R L k := by unfold frV; rw [if_pos h]; rfl
theorem frV_no {W T : Int} {bs : List Bool} {L : List Int} {k : Int} (h : tiledB W T bs L = false) : frV W T bs L k = 0 := by unfold frV; rw [h]; rfl

end Go.Proofs.Ythepfpiphlfgnaa
