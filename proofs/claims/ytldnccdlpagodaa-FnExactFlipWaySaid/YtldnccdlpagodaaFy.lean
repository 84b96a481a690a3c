/-
  YtldnccdlpagodaaFy: FlipWay of the program: any input.
-/
import Derived.Test.YtldnccdlpagodaaFx
namespace Go.Proofs.Ytldnccdlpagodaa
open Go.RowKit

theorem flipWayI_any (W T : Int) (A : Option Addr) (n c B : Nat) (bs : List Bool) (L1 : List Int) (D1 : Option Addr) (m1 d1 : Nat) (L2 : List Int) (D2 : Option Addr) (m2 d2 : Nat) (w : World) (hbl : bs.length = n) (hL1 : L1.length = m1) (hL2 : L2.length = m2)
    (hP : Plain D1) (hF : L2 ≠ [] → ∃ gb, D2 = some ⟨gb, 0, none⟩)
    (hr : Reads w B 1 A n (bs.map Value.bool)) (h1 : Reads w B 1 D1 m1 (L1.map (Value.int .i64))) (h2 : Reads w B 1 D2 m2 (L2.map (Value.int .i64))) (hB : B ≤ w.heap.size) (hn : n ≤ 9223372036854775807) (hm1 : m1 ≤ 9223372036854775807) (hm2 : m2 ≤ 9223372036854775807) :
    Calls Try.prog 17 #[.agg #[.int .i64 W, .int .i64 T, .slice A n c], .slice D1 m1 d1, .slice D2 m2 d2] w (RetIB w (fwV W T bs L1 L2) (tiledB W T bs L1 && tiledB W T bs L2)) := by
  have hT1 := hide (tiled_any W T A n c B bs L1 D1 m1 d1 (w.alloc (boxR W T A n c)) hbl hL1 (hr.alloc hB _) (h1.alloc hB _) (by simp; omega) hn hm1)
  have hT2 := fun w' (h : Below w.heap.size w w') => hide (tiled_any W T A n c B bs L2 D2 m2 d2 w' hbl hL2 (hr.below (h.mono hB)) (h2.below (h.mono hB)) (Nat.le_trans hB h.size) hn hm2)
  cases ht1 : tiledB W T bs L1 with
  | false =>
    simp only [ht1] at hT1
    rw [fwV_no (by rw [ht1]; simp), Bool.false_and]
    clear ht1 hT2
    go_enter Try.func17, Try.ntmps17
    go_wp2_with fail
    refine (unhide hT1).mono ?_
    rintro e w0 ⟨rfl, hb0⟩
    obtain ⟨hB0, hk0, b0, b1, b2⟩ := box_keep hb0
    go_wp2_with fail
    go_ret2
    exact ⟨none, 0, 0, rfl, ⟨rfl, .inl ⟨rfl, rfl⟩⟩, hB0⟩
  | true =>
    cases ht2 : tiledB W T bs L2 with
    | false =>
      simp only [ht1] at hT1
      simp only [ht2] at hT2
      rw [fwV_no (by rw [ht2]; simp), Bool.and_false]
      clear ht1 ht2
      go_enter Try.func17, Try.ntmps17
      go_wp2_with fail
      refine (unhide hT1).mono ?_
      rintro e w0 ⟨rfl, hb0⟩
      obtain ⟨hB0, hk0, b0, b1, b2⟩ := box_keep hb0
      clear hb0 hT1
      go_wp2_with fail
      refine (unhide (hT2 _ hB0)).mono ?_
      rintro e w1 ⟨rfl, hb1⟩
      go_wp2_with fail
      go_ret2
      exact ⟨none, 0, 0, rfl, ⟨rfl, .inl ⟨rfl, rfl⟩⟩, hB0.trans (hb1.mono hB0.size)⟩
    | true =>
      obtain ⟨R, hR, rfl, rfl, rfl, hS, hLy, hFl⟩ := tiled_cases ht1
      obtain ⟨_, hLy2, hFl2⟩ := (tiled_ok hR).1 ht2
      rw [fwV_yes ht1 ht2]
      clear hT1 hT2
      subst hbl
      obtain rfl : m1 = R.C.length := by rw [← hL1]; exact hLy.len
      obtain rfl : m2 = R.C.length := by rw [← hL2]; exact hLy2.len
      obtain ⟨gb, rfl⟩ := hF (by rintro rfl; have := (len_bd hR).1; have := hLy2.len; simp at this; omega)
      exact flipWayI_ok R hR hS A c B L1 L2 D1 d1 gb d2 hP ⟨hLy, hFl⟩ ⟨hLy2, hFl2⟩ w hr h1 h2 hB

end Go.Proofs.Ytldnccdlpagodaa
