/-
  YtldnccdlpagodaaFz: FlipWay of the reference: inputs that are no two tilings.
-/
import Derived.Test.YtldnccdlpagodaaFy
namespace Go.Proofs.Ytldnccdlpagodaa
open Go.RowKit

theorem apartV_no {W T : Int} {bs : List Bool} {a b : List Int} (h : ¬ (tiledB W T bs a = true ∧ tiledB W T bs b = true)) : apartV W T bs a b = -1 := by
  unfold apartV
  rw [if_neg (by simpa using h)]

theorem flipWayS_no (W T : Int) (A : Option Addr) (n c B : Nat) (bs : List Bool) (L1 : List Int) (D1 : Option Addr) (m1 d1 : Nat) (L2 : List Int) (D2 : Option Addr) (m2 d2 : Nat) (w : World) (hbl : bs.length = n) (hL1 : L1.length = m1) (hL2 : L2.length = m2)
    (hno : ¬ (tiledB W T bs L1 = true ∧ tiledB W T bs L2 = true))
    (hr : Reads w B 1 A n (bs.map Value.bool)) (h1 : Reads w B 1 D1 m1 (L1.map (Value.int .i64))) (h2 : Reads w B 1 D2 m2 (L2.map (Value.int .i64))) (hB : B ≤ w.heap.size) (hn : n ≤ 9223372036854775807) (hm1 : m1 ≤ 9223372036854775807) (hm2 : m2 ≤ 9223372036854775807) :
    Calls Try.prog 14 #[.agg #[.int .i64 W, .int .i64 T, .slice A n c], .slice D1 m1 d1, .slice D2 m2 d2] w (RetIB w [] false) := by
  have hAP := fun w' (h : Below w.heap.size w w') => hide (apartS_any W T A n c B bs L1 D1 m1 d1 L2 D2 m2 d2 w' hbl hL1 hL2 (hr.below (h.mono hB)) (h1.below (h.mono hB)) (h2.below (h.mono hB)) (Nat.le_trans hB h.size) hn hm1 hm2)
  simp only [apartV_no hno] at hAP
  have h00 := AW.start w W T A n c
  clear hr h1 h2 hno
  go_enter Try.func14, Try.ntmps14
  go_wp2_with fail
  refine (unhide (hAP _ h00.bel)).mono ?_
  rintro e w1 ⟨rfl, hb1⟩
  have hP1 := h00.below hb1
  clear hb1 h00
  go_wp2_with fail
  go_ret2
  exact ⟨_, _, _, rfl, own_mono hP1.own (by omega), hP1.bel⟩

end Go.Proofs.Ytldnccdlpagodaa
