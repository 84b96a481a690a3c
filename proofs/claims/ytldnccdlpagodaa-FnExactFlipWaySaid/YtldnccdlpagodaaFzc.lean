/-
  YtldnccdlpagodaaFzc: FlipWay of the reference: any input.
-/
import Derived.Test.YtldnccdlpagodaaFzb
namespace Go.Proofs.Ytldnccdlpagodaa
open Go.RowKit

theorem flipWayS_any (W T : Int) (A : Option Addr) (n c B : Nat) (bs : List Bool) (L1 : List Int) (D1 : Option Addr) (m1 d1 : Nat) (L2 : List Int) (D2 : Option Addr) (m2 d2 : Nat) (w : World) (hbl : bs.length = n) (hL1 : L1.length = m1) (hL2 : L2.length = m2)
    (hr : Reads w B 1 A n (bs.map Value.bool)) (h1 : Reads w B 1 D1 m1 (L1.map (Value.int .i64))) (h2 : Reads w B 1 D2 m2 (L2.map (Value.int .i64))) (hB : B ≤ w.heap.size) (hn : n ≤ 9223372036854775807) (hm1 : m1 ≤ 9223372036854775807) (hm2 : m2 ≤ 9223372036854775807) :
    Calls Try.prog 14 #[.agg #[.int .i64 W, .int .i64 T, .slice A n c], .slice D1 m1 d1, .slice D2 m2 d2] w (RetIB w (fwV W T bs L1 L2) (tiledB W T bs L1 && tiledB W T bs L2)) := by
  by_cases h : tiledB W T bs L1 = true ∧ tiledB W T bs L2 = true
  · obtain ⟨R, hR, rfl, rfl, rfl, hS, hLy, hF⟩ := tiled_cases h.1
    obtain ⟨hS2, hLy2, hF2⟩ := (tiled_ok hR).1 h.2
    rw [fwV_yes h.1 h.2, h.1, h.2]
    subst hbl
    obtain rfl : m1 = R.C.length := by rw [← hL1]; exact hLy.len
    obtain rfl : m2 = R.C.length := by rw [← hL2]; exact hLy2.len
    exact flipWayS_ok R hR hS A c B L1 L2 D1 d1 D2 d2 ⟨hLy, hF⟩ ⟨hLy2, hF2⟩ w hr h1 h2 hB
  · have hb : (tiledB W T bs L1 && tiledB W T bs L2) = false := by
      cases g1 : tiledB W T bs L1 with
      | false => rfl
      | true =>
        cases g2 : tiledB W T bs L2 with
        | false => rfl
        | true => exact absurd ⟨g1, g2⟩ h
    rw [fwV_no h, hb]
    exact flipWayS_no W T A n c B bs L1 D1 m1 d1 L2 D2 m2 d2 w hbl hL1 hL2 h hr h1 h2 hB hn hm1 hm2

theorem fwV_len {W T : Int} {bs : List Bool} {M N : List Int} : (fwV W T bs M N).length ≤ 1838 := by
  by_cases h : tiledB W T bs M = true ∧ tiledB W T bs N = true
  · obtain ⟨R, hR, rfl, rfl, rfl, hS, hLy, hF⟩ := tiled_cases h.1
    obtain ⟨_, hLy2, hF2⟩ := (tiled_ok hR).1 h.2
    rw [fwV_yes h.1 h.2, wyOut_len]
    exact (wyN_spec hR hS ⟨hLy, hF⟩ ⟨hLy2, hF2⟩).1
  · rw [fwV_no h]; simp

end Go.Proofs.Ytldnccdlpagodaa
