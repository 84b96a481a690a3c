/-
  YtldnccdlpagodaaPartsT: PartsMany of the reference; how many corners a field has.
-/
import Derived.Test.YtldnccdlpagodaaPartsS
namespace Go.Proofs.Ytldnccdlpagodaa
open Go.RowKit

theorem partsManyS_ok (R : Reg) (hR : R.ok) (A : Option Addr) (c B : Nat) (w : World) (hr : Reads w B 1 A R.C.length (R.C.map Value.bool)) (hB : B ≤ w.heap.size) :
    Calls Try.prog 109 #[.agg #[.int .i64 R.W, .int .i64 R.T, .slice A R.C.length c]] w fun e w' => ∃ m : Nat, e = .returned (.int .i64 m) ∧ (m = 1 ↔ InConn R) ∧ Below w.heap.size w w' := by
  have hl := len_bd hR
  obtain ⟨hl1, hl2⟩ := hl
  have hv := Lib.hid (valid_of_ok hR)
  go_enter Try.func109, Try.ntmps109
  go_wp2_with fail
  refine (validS_any _ _ A _ c B R.C _ (hr.alloc hB _) (by simp; omega) (by omega)).mono ?_
  rintro e w0 ⟨rfl, hb0⟩
  rw [hv.out]
  simp only [World.size_alloc] at hb0
  obtain ⟨hc0, hf0⟩ := bcell hb0
  have hz0 := hb0.size
  simp only [World.size_alloc] at hz0
  go_wp2_with fail
  refine (partsS_ok R hR A c B _ ((hr.alloc hB _).below (hb0.mono (by omega))) (by omega)).mono ?_
  rintro e w1 ⟨g, cc, L, rfl, hL, hown, hb⟩
  have hlen : L.length = R.C.length := hL.len
  have hbw : Below w.heap.size w w1 := (((Below.refl _ _).alloc (Nat.le_refl _) _).trans (hb0.mono (by omega))).trans (hb.mono (by omega))
  have H1 := Lib.hid hlen
  clear hlen hb hr hb0 hc0 hf0
  go_wp2_with fail
  go_loop [3, 5] (fun n i => ∃ k : Nat, k ≤ R.C.length ∧ i = .int .i64 k ∧ n = .int .i64 (((List.range k).countP fun c : Nat => decide (L[c]? = some (c : Int)) : Nat) : Int)) (fun _ i => R.C.length - (intOf i).toNat)
  case atStart => exact ⟨0, Nat.zero_le _, rfl, rfl⟩
  case round =>
    obtain ⟨k, hk, rfl, rfl⟩ := hrel
    have hle := roots_le L k
    by_cases hlt : k < R.C.length
    · obtain ⟨m, hm⟩ : ∃ m, L[k]? = some m := ⟨_, List.getElem?_eq_getElem (by rw [H1.out]; omega)⟩
      have hs0 := roots_succ L k m hm
      have hsw : ((k : Int) == m) = (m == (k : Int)) := by rw [Bool.eq_iff_iff]; simp; exact ⟨Eq.symm, Eq.symm⟩
      rw [hsw] at hs0
      have hs := Lib.hid hs0
      clear hs0 hsw
      have hc := hown.cellAt k (by omega)
      rw [List.getElem?_map, hm] at hc
      simp only [Option.map_some] at hc
      generalize ((List.range k).countP fun c : Nat => decide (L[c]? = some (c : Int))) = s at hle hs
      clear hm
      go_wp2
      all_goals
        go_round
        case rel => exact ⟨k + 1, by omega, by go_num, by rw [hs.out]; simp [*]⟩
        case measure => simp [intOf]; omega
    · go_wp2
      go_ret
      obtain rfl : k = R.C.length := by omega
      refine ⟨_, rfl, ?_, hbw⟩
      rw [← H1.out]
      exact roots_one hR hL

theorem partsManyS_no (W T : Int) (A : Option Addr) (n c B : Nat) (bs : List Bool) (w : World) (hr : Reads w B 1 A n (bs.map Value.bool)) (hB : B ≤ w.heap.size) (hn : n ≤ 9223372036854775807) (hv : validB W T bs = false) :
    Calls Try.prog 109 #[.agg #[.int .i64 W, .int .i64 T, .slice A n c]] w fun e w' => e = .returned (.int .i64 (-1)) ∧ Below w.heap.size w w' := by
  have HV := Lib.hid hv
  clear hv
  go_enter Try.func109, Try.ntmps109
  go_wp2_with fail
  refine (validS_any _ _ A _ c B bs _ (hr.alloc hB _) (by simp; omega) hn).mono ?_
  rintro e w0 ⟨rfl, hb0⟩
  rw [HV.out]
  simp only [World.size_alloc] at hb0
  go_wp2_with fail
  go_ret
  exact ⟨rfl, ((Below.refl _ _).alloc (Nat.le_refl _) _).trans (hb0.mono (by omega))⟩

/-- How many corners the field has. -/
def Reg.corners (R : Reg) : Nat := (R.W + 1) * (R.T + 1)
theorem corners_bd {R : Reg} (hR : R.ok) : 4 ≤ R.corners ∧ R.corners ≤ 49 := by
  obtain ⟨a, b, c, d, _, _⟩ := hR
  unfold Reg.corners
  have h1 : (R.W + 1) * (R.T + 1) ≤ 7 * 7 := Nat.mul_le_mul (by omega) (by omega)
  have h2 : 2 * 2 ≤ (R.W + 1) * (R.T + 1) := Nat.mul_le_mul (by omega) (by omega)
  omega

theorem cornersI_any (R : Reg) (hR : R.ok) (A : Option Addr) (k c : Nat) (w : World) :
    Calls Try.prog 70 #[.agg #[.int .i64 R.W, .int .i64 R.T, .slice A k c]] w fun e w' => e = .returned (.int .i64 R.corners) ∧ Below w.heap.size w w' := by
  have hW6 := hR.2.1
  have hT6 := hR.2.2.2.1
  obtain ⟨p0, p1⟩ := prod_bd (a := R.W + 1) (b := R.T + 1) (by omega) (by omega)
  simp only [Int.natCast_add, Int.natCast_one] at p0 p1
  go_enter Try.func70, Try.ntmps70
  go_wp2
  go_ret
  exact ⟨ret_int (by simp [Reg.corners]), (Below.refl _ _).alloc (Nat.le_refl _) _⟩

theorem cornerManyS_ok (R : Reg) (hR : R.ok) (A : Option Addr) (c B : Nat) (w : World) (hr : Reads w B 1 A R.C.length (R.C.map Value.bool)) (hB : B ≤ w.heap.size) :
    Calls Try.prog 66 #[.agg #[.int .i64 R.W, .int .i64 R.T, .slice A R.C.length c]] w fun e w' => e = .returned (.int .i64 R.corners) ∧ Below w.heap.size w w' := by
  have hl := len_bd hR
  have hv := Lib.hid (valid_of_ok hR)
  have hW6 := hR.2.1
  have hT6 := hR.2.2.2.1
  obtain ⟨p0, p1⟩ := prod_bd (a := R.W + 1) (b := R.T + 1) (by omega) (by omega)
  simp only [Int.natCast_add, Int.natCast_one] at p0 p1
  go_enter Try.func66, Try.ntmps66
  go_wp2_with fail
  refine (validS_any _ _ A _ c B R.C _ (hr.alloc hB _) (by simp; omega) (by omega)).mono ?_
  rintro e w0 ⟨rfl, hb0⟩
  rw [hv.out]
  simp only [World.size_alloc] at hb0
  obtain ⟨hc0, hf0⟩ := bcell hb0
  go_wp2_with fail
  go_ret
  exact ⟨ret_int (by simp [Reg.corners]), ((Below.refl _ _).alloc (Nat.le_refl _) _).trans (hb0.mono (by omega))⟩

theorem cornerManyS_no (W T : Int) (A : Option Addr) (n c B : Nat) (bs : List Bool) (w : World) (hr : Reads w B 1 A n (bs.map Value.bool)) (hB : B ≤ w.heap.size) (hn : n ≤ 9223372036854775807) (hv : validB W T bs = false) :
    Calls Try.prog 66 #[.agg #[.int .i64 W, .int .i64 T, .slice A n c]] w fun e w' => e = .returned (.int .i64 (-1)) ∧ Below w.heap.size w w' := by
  have HV := Lib.hid hv
  clear hv
  go_enter Try.func66, Try.ntmps66
  go_wp2_with fail
  refine (validS_any _ _ A _ c B bs _ (hr.alloc hB _) (by simp; omega) hn).mono ?_
  rintro e w0 ⟨rfl, hb0⟩
  rw [HV.out]
  simp only [World.size_alloc] at hb0
  go_wp2_with fail
  go_ret
  exact ⟨rfl, ((Below.refl _ _).alloc (Nat.le_refl _) _).trans (hb0.mono (by omega))⟩

end Go.Proofs.Ytldnccdlpagodaa
