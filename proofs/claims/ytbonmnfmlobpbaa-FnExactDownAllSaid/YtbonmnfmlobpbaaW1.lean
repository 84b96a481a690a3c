/-
  YtbonmnfmlobpbaaW1: what the smallest helpers of regions return.
-/
import Derived.Test.YtbonmnfmlobpbaaBase
import Derived.Test.YtbonmnfmlobpbaaM0
import Derived.Test.YtbonmnfmlobpbaaRows
namespace Go.Proofs.Ytbonmnfmlobpbaa
open Go.RowKit

theorem ret_bool {a b : Bool} (h : a = b) : Ending.returned (.bool a) = .returned (.bool b) := by rw [h]
theorem ret_int {k : IntKind} {a b : Int} (h : a = b) : Ending.returned (.int k a) = .returned (.int k b) := by rw [h]

theorem in_any (n lo hi : Int) (w : World) :
    Calls Try.prog 83 #[.int .i64 n, .int .i64 lo, .int .i64 hi] w fun e w' => e = .returned (.bool (inB n lo hi)) ∧ w = w' := by
  go_enter Try.func83, Try.ntmps83
  go_wp2
  all_goals go_ret
  all_goals exact ⟨ret_bool (by simp [inB]; omega), rfl⟩

theorem l1In_any (n lo hi : Int) (w : World) :
    Calls Try.prog 79 #[.int .i64 n, .int .i64 lo, .int .i64 hi] w fun e w' => e = .returned (.bool (inB n lo hi)) ∧ w = w' := by
  go_enter Try.func79, Try.ntmps79
  go_wp2
  all_goals go_ret
  all_goals exact ⟨ret_bool (by simp [inB]; omega), rfl⟩

theorem many_any (A : Option Addr) (n c B : Nat) (bs : List Bool) (w : World) (hr : Reads w B 1 A n (bs.map Value.bool)) (hn : n ≤ 9223372036854775807) :
    Calls Try.prog 131 #[.slice A n c] w fun e w' => e = .returned (.int .i64 (cnt bs)) ∧ w = w' := by
  have hl : bs.length = n := by have := hr.1; simpa using this
  go_enter Try.func131, Try.ntmps131
  go_wp2
  go_loop [3, 8] (fun s i => ∃ k : Nat, k ≤ n ∧ i = .int .i64 k ∧ s = .int .i64 (cnt (bs.take k) : Nat))
    (fun _ i => n - (intOf i).toNat)
  case atStart => exact ⟨0, Nat.zero_le _, rfl, rfl⟩
  case round =>
    obtain ⟨k, hk, rfl, rfl⟩ := hrel
    have hle := cnt_le (bs.take k)
    have hle2 : (bs.take k).length ≤ k := List.length_take_le _ _
    by_cases hlt : k < n
    · obtain ⟨ad, u, rfl, _, hx, hc⟩ := hr.at_ hlt
      obtain ⟨b, hb⟩ : ∃ b, bs[k]? = some b := ⟨bs[k]'(by omega), by simp⟩
      have hu : u = .bool b := by simp [hb] at hx; exact hx.symm
      subst hu
      have hs := cnt_take bs k (by omega)
      have hb' : bs[k]'(by omega) = b := by
        rw [List.getElem?_eq_getElem (by omega)] at hb; injection hb
      rw [hb'] at hs
      have HS := Lib.hid hs
      clear hs hx hb hb'
      go_wp2
      all_goals
        go_round
        case rel => exact ⟨k + 1, by omega, by go_num, by rw [HS.out]; simp [*]⟩
        case measure => simp [intOf]; omega
    · go_wp2
      go_ret
      obtain rfl : k = bs.length := by omega
      exact ⟨by simp, rfl⟩

set_option maxHeartbeats 400000 in
theorem valid_any (W T : Int) (A : Option Addr) (n c B : Nat) (bs : List Bool) (w : World) (hr : Reads w B 1 A n (bs.map Value.bool)) (hB : B ≤ w.heap.size) (hn : n ≤ 9223372036854775807) :
    Calls Try.prog 120 #[.agg #[.int .i64 W, .int .i64 T, .slice A n c]] w fun e w' => e = .returned (.bool (validB W T bs)) ∧ Below w.heap.size w w' := by
  have hl : bs.length = n := by have := hr.1; simpa using this
  by_cases h1 : 1 ≤ W ∧ W ≤ 6
  · have H1 := Lib.hid (inB_t h1)
    by_cases h2 : 1 ≤ T ∧ T ≤ 6
    · have H2 := Lib.hid (inB_t h2)
      obtain ⟨hm1, hm2⟩ := mul_bd h1.1 h1.2 h2.1 h2.2
      have H3 := Lib.hid (valid_3 (bs := bs) h1 h2)
      obtain rfl := hl
      have H1' := H1.out
      have H2' := H2.out
      go_enter Try.func120, Try.ntmps120
      go_wp2_with (first
        | (go_at_call 83; refine (in_any _ _ _ _).mono ?_; rintro e w' ⟨rfl, rfl⟩)
        | (go_at_call 131; refine (many_any _ _ _ B bs _ (hr.alloc hB _) hn).mono ?_; rintro e w' ⟨rfl, rfl⟩))
      all_goals go_ret
      all_goals exact ⟨ret_bool (by rw [H3.out]; simp [*]; try omega), (Below.refl _ _).alloc (Nat.le_refl _) _⟩
    · have H2 := inB_f h2
      have H3 := Lib.hid (valid_f2 (W := W) (bs := bs) h2)
      clear h2
      have H1' := H1.out
      go_enter Try.func120, Try.ntmps120
      go_wp2_with (first
        | (go_at_call 83; refine (in_any _ _ _ _).mono ?_; rintro e w' ⟨rfl, rfl⟩))
      all_goals go_ret
      all_goals exact ⟨ret_bool (by rw [H3.out]), (Below.refl _ _).alloc (Nat.le_refl _) _⟩
  · have H1 := inB_f h1
    have H3 := Lib.hid (valid_f1 (T := T) (bs := bs) h1)
    clear h1
    go_enter Try.func120, Try.ntmps120
    go_wp2_with (first
        | (go_at_call 83; refine (in_any _ _ _ _).mono ?_; rintro e w' ⟨rfl, rfl⟩))
    all_goals go_ret
    all_goals exact ⟨ret_bool (by rw [H3.out]), (Below.refl _ _).alloc (Nat.le_refl _) _⟩

end Go.Proofs.Ytbonmnfmlobpbaa
