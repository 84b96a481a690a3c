/-
  YthepfpiphlfgnaaSpec: the reference's small functions of regions.
-/
import Derived.Test.YthepfpiphlfgnaaWa
namespace Go.Proofs.Ythepfpiphlfgnaa
open Go.RowKit

theorem countS_any (A : Option Addr) (n c B : Nat) (bs : List Bool) (w : World) (hr : Reads w B 1 A n (bs.map Value.bool)) (hn : n ≤ 9223372036854775807) :
    Calls Try.prog 162 #[.slice A n c] w fun e w' => e = .returned (.int .i64 (cnt bs)) ∧ w = w' := by
  have hl : bs.length = n := by have := hr.1; simpa using this
  go_enter Try.func162, Try.ntmps162
  go_wp2
  go_loop [3, 4] (fun s i => ∃ k : Nat, k ≤ n ∧ i = .int .i64 k ∧ s = .int .i64 (cnt (bs.take k) : Nat))
    (fun _ i => n - (intOf i).toNat)
  case atStart => exact ⟨0, Nat.zero_le _, rfl, rfl⟩
  case round =>
    obtain ⟨k, hk, rfl, rfl⟩ := hrel
    have hle := cnt_le (bs.take k)
    have hle2 : (bs.take k).length ≤ k := List.length_take_le _ _
    by_cases hlt : k < n
    · obtain ⟨ad, u, rfl, _, hx, hc⟩ := hr.at_ hlt
      obtain ⟨b, hb⟩ : ∃ b, bs[k]? = some b := ⟨bs[k]'(by omega), by simp⟩
      have hu : u = .bool b := by simp [hb] at hx; exact hx.symm
      subst hu
      have hs := cnt_take bs k (by omega)
      have hb' : bs[k]'(by omega) = b := by
        rw [List.getElem?_eq_getElem (by omega)] at hb; injection hb
      rw [hb'] at hs
      have HS := Lib.hid hs
      clear hs hx hb hb'
      go_wp2
      all_goals
        go_round
        case rel => exact ⟨k + 1, by omega, by go_num, by rw [HS.out]; simp [*]⟩
        case measure => simp [intOf]; omega
    · go_wp2
      go_ret
      obtain rfl : k = bs.length := by omega
      exact ⟨by simp, rfl⟩

set_option maxHeartbeats 400000 in
theorem validS_any (W T : Int) (A : Option Addr) (n c B : Nat) (bs : List Bool) (w : World) (hr : Reads w B 1 A n (bs.map Value.bool)) (hB : B ≤ w.heap.size) (hn : n ≤ 9223372036854775807) :
    Calls Try.prog 110 #[.agg #[.int .i64 W, .int .i64 T, .slice A n c]] w fun e w' => e = .returned (.bool (validB W T bs)) ∧ Below w.heap.size w w' := by
  have hl : bs.length = n := by have := hr.1; simpa using this
  by_cases h1 : 1 ≤ W ∧ W ≤ 6
  · have H1 := Lib.hid (inB_t h1)
    by_cases h2 : 1 ≤ T ∧ T ≤ 6
    · have H2 := Lib.hid (inB_t h2)
      obtain ⟨hm1, hm2⟩ := mul_bd h1.1 h1.2 h2.1 h2.2
      have H3 := Lib.hid (valid_3 (bs := bs) h1 h2)
      obtain rfl := hl
      have H1' := H1.out
      have H2' := H2.out
      go_enter Try.func110, Try.ntmps110
      go_wp2_with (first
        | (go_at_call 91; refine (l1In_any _ _ _ _).mono ?_; rintro e w' ⟨rfl, rfl⟩)
        | (go_at_call 162; refine (countS_any _ _ _ B bs _ (hr.alloc hB _) hn).mono ?_; rintro e w' ⟨rfl, rfl⟩))
      all_goals go_ret
      all_goals exact ⟨ret_bool (by rw [H3.out]; simp [*]; try omega), (Below.refl _ _).alloc (Nat.le_refl _) _⟩
    · have H2 := inB_f h2
      have H3 := Lib.hid (valid_f2 (W := W) (bs := bs) h2)
      clear h2
      have H1' := H1.out
      go_enter Try.func110, Try.ntmps110
      go_wp2_with (first
        | (go_at_call 91; refine (l1In_any _ _ _ _).mono ?_; rintro e w' ⟨rfl, rfl⟩))
      all_goals go_ret
      all_goals exact ⟨ret_bool (by rw [H3.out]), (Below.refl _ _).alloc (Nat.le_refl _) _⟩
  · have H1 := inB_f h1
    have H3 := Lib.hid (valid_f1 (T := T) (bs := bs) h1)
    clear h1
    go_enter Try.func110, Try.ntmps110
    go_wp2_with (first
        | (go_at_call 91; refine (l1In_any _ _ _ _).mono ?_; rintro e w' ⟨rfl, rfl⟩))
    all_goals go_ret
    all_goals exact ⟨ret_bool (by rw [H3.out]), (Below.refl _ _).alloc (Nat.le_refl _) _⟩
theorem atS_any (R : Reg) (hR : R.ok) (A : Option Addr) (c B : Nat) (x y : Int) (hx : -100 ≤ x ∧ x ≤ 100) (hy : -100 ≤ y ∧ y ≤ 100) (w : World) (hr : Reads w B 1 A R.C.length (R.C.map Value.bool)) (hB : B ≤ w.heap.size) :
    Calls Try.prog 177 #[.agg #[.int .i64 R.W, .int .i64 R.T, .slice A R.C.length c], .int .i64 x, .int .i64 y] w fun e w' => e = .returned (.bool (R.at x y)) ∧ Below w.heap.size w w' := by
  have hW := hR.1
  have hW6 := hR.2.1
  have hT := hR.2.2.1
  have hT6 := hR.2.2.2.1
  obtain ⟨hx0, hx1⟩ := hx
  obtain ⟨hy0, hy1⟩ := hy
  by_cases h1 : 0 ≤ x ∧ x ≤ (R.W : Int) - 1
  · have I1 := inB_t h1
    by_cases h2 : 0 ≤ y ∧ y ≤ (R.T : Int) - 1
    · have I2 := inB_t h2
      obtain ⟨x, rfl⟩ := Int.eq_ofNat_of_zero_le h1.1
      obtain ⟨y, rfl⟩ := Int.eq_ofNat_of_zero_le h2.1
      have hxl : x < R.W := by omega
      have hyl : y < R.T := by omega
      have S := Lib.hid (at_in hxl hyl)
      have hlt := idx_lt hR hxl hyl
      have hl := (len_bd hR).2
      obtain ⟨p0, p1⟩ := prod_bd (a := y) (b := R.W) (by omega) (by omega)
      obtain ⟨ad, u, rfl, hab, hu, hcell⟩ := hr.at_ hlt
      have hu' : u = .bool (R.C.getD (y * R.W + x) false) := by
        rw [List.getElem?_map, List.getElem?_eq_getElem hlt] at hu
        simp at hu
        rw [List.getD_eq_getElem?_getD, List.getElem?_eq_getElem hlt]
        exact hu.symm
      subst hu'
      generalize R.C.getD (y * R.W + x) false = b at hcell S
      have hcell' : ∀ o, (w.alloc o).cell? (ad.add (y * R.W + x)) = some (.bool b) := fun o => (World.cell?_alloc_lt w o _ (by rw [block_of_add]; omega)).trans hcell
      clear hu hr
      go_enter Try.func177, Try.ntmps177
      go_wp2_with (first
        | (go_at_call 91; refine (l1In_any _ _ _ _).mono ?_; rintro e w' ⟨rfl, rfl⟩))
      go_ret
      exact ⟨ret_bool (by rw [S.out]), (Below.refl _ _).alloc (Nat.le_refl _) _⟩
    · have I2 := inB_f h2
      have S := Lib.hid (at_out (R := R) (x := x) (y := y) (by omega))
      clear h2
      go_enter Try.func177, Try.ntmps177
      go_wp2_with (first
        | (go_at_call 91; refine (l1In_any _ _ _ _).mono ?_; rintro e w' ⟨rfl, rfl⟩))
      go_ret
      exact ⟨ret_bool (by rw [S.out]), (Below.refl _ _).alloc (Nat.le_refl _) _⟩
  · have I1 := inB_f h1
    have S := Lib.hid (at_out (R := R) (x := x) (y := y) (by omega))
    clear h1
    go_enter Try.func177, Try.ntmps177
    go_wp2_with (first
      | (go_at_call 91; refine (l1In_any _ _ _ _).mono ?_; rintro e w' ⟨rfl, rfl⟩))
    go_ret
    exact ⟨ret_bool (by rw [S.out]), (Below.refl _ _).alloc (Nat.le_refl _) _⟩

end Go.Proofs.Ythepfpiphlfgnaa
