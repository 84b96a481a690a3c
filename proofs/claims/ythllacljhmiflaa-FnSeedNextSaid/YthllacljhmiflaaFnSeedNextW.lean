/-
  YthllacljhmiflaaFnSeedNextW: the walk of FnSeedNext.
-/
import Derived.Test.YthllacljhmiflaaSeed
import Derived.Test.YthllacljhmiflaaRd
namespace Go.Proofs.Ythllacljhmiflaa
open Go.RowKit

theorem seed_par {x s : Int} (hs : s = (x * 1103515245 + 12345) % 2147483648) : (s % 2 != x % 2) = true := by
  rw [bne_iff_ne]; omega
theorem seed_zero : seedL 0 = 12345 := by decide

set_option maxHeartbeats 400000 in
theorem FnSeedNext_walk (w : World) (A : Option Addr) (n c : Nat) (zs : List Int) (hnc : n ≤ c) (hm : n ≤ maxLen) (_hl : zs.length = n) (hr : Reads w w.heap.size 1 A n (zs.map (Value.int .u8))) (hwz : ∀ z ∈ zs, (Lit.int .u8 z).wf = true) :
    Calls Try.prog 4 #[.slice A n c] w fun e w' => e = .returned (.bool true) ∧ Below w.heap.size w w' := by
  unfold maxLen at hm
  by_cases hb : 1048576 < n
  · go_enter Try.func4, Try.ntmps4
    go_wp2_with fail
    go_ret
    exact ⟨rfl, Below.refl _ _⟩
  · go_enter Try.func4, Try.ntmps4
    go_wp2_with fail
    refine (DrawSeedNext_any A n c zs _ hr hnc (by omega) hwz).mono ?_
    rintro e w1 ⟨x, rfl, ha, hb1, hbel⟩
    go_wp2_with fail
    refine (seedI _ _).mono ?_
    rintro e w' ⟨rfl, rfl⟩
    go_wp2_with fail
    refine (seedS _ _).mono ?_
    rintro e w' ⟨rfl, rfl⟩
    by_cases hx : 0 ≤ x ∧ x ≤ 2147483647
    · have hs := seedL_t hx
      have hp := seed_par hs
      have h0 : 0 ≤ seedL x := by omega
      have h1 : seedL x ≤ 2147483647 := by omega
      clear hs
      go_wp2_with fail
      refine (seedI _ _).mono ?_
      rintro e w' ⟨rfl, rfl⟩
      rw [seed_zero]
      go_wp2_with fail
      go_ret
      exact ⟨rfl, hbel⟩
    · have hs := seedL_f hx
      rw [hs]
      go_wp2_with fail
      refine (alive_any _).mono ?_
      rintro e w2 ⟨rfl, hb2⟩
      go_wp2_with fail
      go_ret
      exact ⟨rfl, hbel.trans (hb2.mono hbel.size)⟩

end Go.Proofs.Ythllacljhmiflaa
