/-
  YtpeifojfpkkcpaaSeed: what SeedNext returns, here and in the reference.
-/
import Derived.Test.YtpeifojfpkkcpaaWa
namespace Go.Proofs.Ytpeifojfpkkcpaa
open Go.RowKit

def seedL (s : Int) : Int := if 0 ≤ s ∧ s ≤ 2147483647 then (s * 1103515245 + 12345) % 2147483648 else -1
theorem seedL_t {s : Int} (h : 0 ≤ s ∧ s ≤ 2147483647) : seedL s = (s * 1103515245 + 12345) % 2147483648 := if_pos h
theorem seedL_f {s : Int} (h : ¬ (0 ≤ s ∧ s ≤ 2147483647)) : seedL s = -1 := if_neg h
theorem seedL_bd (s : Int) : -1 ≤ seedL s ∧ seedL s ≤ 2147483647 := by unfold seedL; split <;> omega

theorem seedI (s : Int) (w : World) :
    Calls Try.prog 92 #[.int .i64 s] w fun e w' => e = .returned (.int .i64 (seedL s)) ∧ w = w' := by
  by_cases h : 0 ≤ s ∧ s ≤ 2147483647
  · have H1 := inB_t h
    have H2 := Lib.hid (seedL_t h)
    obtain ⟨h1, h2⟩ := h
    go_enter Try.func92, Try.ntmps92
    go_wp2_with (first
      | (go_at_call 88; refine (in_any _ _ _ _).mono ?_; rintro e w' ⟨rfl, rfl⟩))
    go_ret
    exact ⟨ret_int (by rw [H2.out]), rfl⟩
  · have H1 := inB_f h
    have H2 := Lib.hid (seedL_f h)
    clear h
    go_enter Try.func92, Try.ntmps92
    go_wp2_with (first
      | (go_at_call 88; refine (in_any _ _ _ _).mono ?_; rintro e w' ⟨rfl, rfl⟩))
    go_ret
    exact ⟨ret_int (by rw [H2.out]), rfl⟩

theorem seedS (s : Int) (w : World) :
    Calls Try.prog 94 #[.int .i64 s] w fun e w' => e = .returned (.int .i64 (seedL s)) ∧ w = w' := by
  by_cases h : 0 ≤ s ∧ s ≤ 2147483647
  · have H1 := inB_t h
    have H2 := Lib.hid (seedL_t h)
    obtain ⟨h1, h2⟩ := h
    go_enter Try.func94, Try.ntmps94
    go_wp2_with (first
      | (go_at_call 76; refine (l1In_any _ _ _ _).mono ?_; rintro e w' ⟨rfl, rfl⟩))
    go_ret
    exact ⟨ret_int (by rw [H2.out]), rfl⟩
  · have H1 := inB_f h
    have H2 := Lib.hid (seedL_f h)
    clear h
    go_enter Try.func94, Try.ntmps94
    go_wp2_with (first
      | (go_at_call 76; refine (l1In_any _ _ _ _).mono ?_; rintro e w' ⟨rfl, rfl⟩))
    go_ret
    exact ⟨ret_int (by rw [H2.out]), rfl⟩

end Go.Proofs.Ytpeifojfpkkcpaa
