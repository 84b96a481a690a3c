/-
  YthepfpiphlfgnaaRn: ReachMany of both sides, for any arguments.
-/
import Derived.Test.YthepfpiphlfgnaaRmz
import Derived.Test.YthepfpiphlfgnaaRl
import Derived.Test.YthepfpiphlfgnaaLz
namespace Go.Proofs.Ythepfpiphlfgnaa
open Go.RowKit


theorem reachManyI_any (W T : Int) (A : Option Addr) (n c B : Nat) (bs : List Bool) (L2 : List Int) (D2 : Option Addr) (m2 d2 : Nat) (w : World) (hbl : bs.length = n) (hL2 : L2.length = m2) (hF : L2 ≠ [] → ∃ gb, D2 = some ⟨gb, 0, none⟩)
    (hr : Reads w B 1 A n (bs.map Value.bool)) (h2 : Reads w B 1 D2 m2 (L2.map (Value.int .i64))) (hB : B ≤ w.heap.size) (hn : n ≤ 9223372036854775807) (hm2 : m2 ≤ 9223372036854775807) :
    Calls Try.prog 39 #[.agg #[.int .i64 W, .int .i64 T, .slice A n c], .slice D2 m2 d2] w fun e w' => e = .returned (.int .i64 (rmV W T bs L2)) ∧ Below w.heap.size w w' := by
  by_cases h : tilingB W T bs L2 = true ∧ cnt bs ≤ 16
  · obtain ⟨R, hR, rfl, rfl, rfl, hT⟩ := tile_of_tiling h.1
    rw [rmV_yes h.1 h.2]
    subst hbl
    obtain rfl : m2 = R.C.length := by rw [← hL2]; exact hT.1.len
    obtain ⟨gb, rfl⟩ := hF (by rintro rfl; have := (len_bd hR).1; have := hT.1.len; simp at this; omega)
    exact reachManyI_ok R hR h.2 A c B L2 gb d2 hT w hr h2 hB
  · rw [rmV_no h]
    have hb0 : Below w.heap.size w (w.alloc (boxR W T A n c)) := (Below.refl _ _).alloc (Nat.le_refl _) _
    have k0 : Blk (w.alloc (boxR W T A n c)) w.heap.size 25 #[.int .i64 W, .int .i64 T, .slice A n c] := Blk.new _ _ _
    have hSM := hide (small_any W T A n c B bs _ (hr.below (hb0.mono hB)) (Nat.le_trans hB hb0.size) hn)
    have hT2 := fun w' (h : Below w.heap.size w w') => hide (tilingOkI_any W T A n c B bs L2 D2 m2 d2 w' hbl hL2 (hr.below (h.mono hB)) (h2.below (h.mono hB)) (Nat.le_trans hB h.size) hn hm2)
    cases hsm : (validB W T bs && decide (cnt bs ≤ 16)) with
    | false =>
      rw [hsm] at hSM
      clear hsm h hT2 hF hr h2 k0
      go_enter Try.func39, Try.ntmps39
      go_wp2_with fail
      refine (unhide hSM).mono ?_
      rintro e w1 ⟨rfl, hb1⟩
      go_wp2_with fail
      go_ret
      exact ⟨rfl, hb0.trans (hb1.mono hb0.size)⟩
    | true =>
      rw [hsm] at hSM
      have ht : tilingB W T bs L2 = false := by
        cases ht : tilingB W T bs L2 with
        | false => rfl
        | true => rw [Bool.and_eq_true, decide_eq_true_eq] at hsm; exact absurd ⟨ht, hsm.2⟩ h
      simp only [ht] at hT2
      clear hsm h ht hF hr h2
      go_enter Try.func39, Try.ntmps39
      go_wp2_with fail
      refine (unhide hSM).mono ?_
      rintro e w1 ⟨rfl, hb1⟩
      have hB1 := hb0.trans (hb1.mono hb0.size)
      obtain ⟨b0, b1, b2⟩ := blk3 (k0.below hb1 k0.lt)
      have hT3 := hT2 _ hB1
      clear hb1 hb0 k0 hSM hT2
      go_wp2_with fail
      refine (unhide hT3).mono ?_
      rintro e w2 ⟨rfl, hb2⟩
      go_wp2_with fail
      go_ret
      exact ⟨rfl, hB1.trans (hb2.mono hB1.size)⟩

set_option maxHeartbeats 1000000 in
theorem reachManyS_any (W T : Int) (A : Option Addr) (n c B : Nat) (bs : List Bool) (L2 : List Int) (D2 : Option Addr) (m2 d2 : Nat) (w : World) (hbl : bs.length = n) (hL2 : L2.length = m2) (hF : L2 ≠ [] → ∃ gb, D2 = some ⟨gb, 0, none⟩)
    (hr : Reads w B 1 A n (bs.map Value.bool)) (h2 : Reads w B 1 D2 m2 (L2.map (Value.int .i64))) (hB : B ≤ w.heap.size) (hn : n ≤ 9223372036854775807) (hm2 : m2 ≤ 9223372036854775807) :
    Calls Try.prog 40 #[.agg #[.int .i64 W, .int .i64 T, .slice A n c], .slice D2 m2 d2] w fun e w' => e = .returned (.int .i64 (rmV W T bs L2)) ∧ Below w.heap.size w w' := by
  have hb0 : Below w.heap.size w (w.alloc (boxR W T A n c)) := (Below.refl _ _).alloc (Nat.le_refl _) _
  have k0 : Blk (w.alloc (boxR W T A n c)) w.heap.size 25 #[.int .i64 W, .int .i64 T, .slice A n c] := Blk.new _ _ _
  have hT2 := hide (tilingOkS_any W T A n c B bs L2 D2 m2 d2 _ hbl hL2 (hr.below (hb0.mono hB)) (h2.below (hb0.mono hB)) (Nat.le_trans hB hb0.size) hn hm2)
  cases ht : tilingB W T bs L2 with
  | false =>
    rw [rmV_no (by rw [ht]; simp)]
    rw [ht] at hT2
    clear ht hF hr h2 k0
    go_enter Try.func40, Try.ntmps40
    go_wp2_with fail
    refine (unhide hT2).mono ?_
    rintro e w1 ⟨rfl, hb1⟩
    go_wp2_with fail
    go_ret
    exact ⟨rfl, hb0.trans (hb1.mono hb0.size)⟩
  | true =>
    obtain ⟨R, hR, rfl, rfl, rfl, hT⟩ := tile_of_tiling ht
    subst hbl
    obtain rfl : m2 = R.C.length := by rw [← hL2]; exact hT.1.len
    obtain ⟨gb, rfl⟩ := hF (by rintro rfl; have := (len_bd hR).1; have := hT.1.len; simp at this; omega)
    rw [ht] at hT2
    have hCM := fun w' (h : Below w.heap.size w w') => hide (cellsManyS_ok R hR A c B w' (hr.below (h.mono hB)) (Nat.le_trans hB h.size))
    by_cases hc : cnt R.C ≤ 16
    · rw [rmV_yes ht hc]
      have hgt : decide ((16 : Int) < cnt R.C) = false := decide_eq_false (by omega)
      have hRK := fun w' (h : Below w.heap.size w w') => hide (rankOfS_ok R hR A c B L2 hT gb d2 w' (hr.below (h.mono hB)) (h2.below (h.mono hB)) (Nat.le_trans hB h.size))
      have hRE := fun w' (h : Below w.heap.size w w') => hide (l5ReachS_ok R hR A c B L2 hT w' (hr.below (h.mono hB)) (Nat.le_trans hB h.size))
      have e1 : rkI R L2 = ((rkV R L2 : Nat) : Int) := rfl
      rw [e1] at hRE
      clear ht hF hr h2 hc e1
      generalize rkV R L2 = k2 at *
      go_enter Try.func40, Try.ntmps40
      go_wp2_with fail
      refine (unhide hT2).mono ?_
      rintro e w1 ⟨rfl, hb1⟩
      have hB1 := hb0.trans (hb1.mono hb0.size)
      have k1 := k0.below hb1 k0.lt
      obtain ⟨b0, b1, b2⟩ := blk3 k1
      have hC1 := hCM _ hB1
      clear hb0 k0 hb1 hT2 hCM
      go_wp2_with fail
      refine (unhide hC1).mono ?_
      rintro e w2 ⟨rfl, hb2⟩
      have hB2 := hB1.trans (hb2.mono hB1.size)
      have k2' := k1.below hb2 k1.lt
      clear b0 b1 b2 k1 hb2 hB1 hC1
      obtain ⟨b0, b1, b2⟩ := blk3 k2'
      have hd0 := hB2.drew
      have hR2 := hRK w2.drew hd0
      go_upto_region 3 with fail
      go_region_with
        (first
          | (go_at_call 107; (with_reducible refine (unhide hR2).mono ?_); rintro e w3 ⟨rfl, hb3⟩; have hB3 := hd0.trans (hb3.mono hd0.size); have d0 := cell_kept (w := w2.drew) b0 hb3; have d1 := cell_kept (w := w2.drew) b1 hb3; have d2 := cell_kept (w := w2.drew) b2 hb3; have hE3 := hRE w3 hB3)
          | (go_at_call 106; (with_reducible refine (unhide hE3).mono ?_); rintro e w4 ⟨g4, c4, rfl, hb4⟩))
      all_goals
        have hB4 := hB3.trans (hb4.mono hB3.size)
        clear hRK hRE hR2 hE3 d0 d1 d2 b0 b1 b2 hb3 hb4 hB3 hd0
        go_wp2_with fail
        go_ret
        exact ⟨rfl, hB4⟩
    · rw [rmV_no fun h => hc h.2]
      have hgt : decide ((16 : Int) < cnt R.C) = true := decide_eq_true (by omega)
      clear ht hF hr h2 hc
      go_enter Try.func40, Try.ntmps40
      go_wp2_with fail
      refine (unhide hT2).mono ?_
      rintro e w1 ⟨rfl, hb1⟩
      have hB1 := hb0.trans (hb1.mono hb0.size)
      obtain ⟨b0, b1, b2⟩ := blk3 (k0.below hb1 k0.lt)
      have hC1 := hCM _ hB1
      clear hb0 k0 hb1 hT2 hCM
      go_wp2_with fail
      refine (unhide hC1).mono ?_
      rintro e w2 ⟨rfl, hb2⟩
      go_wp2_with fail
      go_ret
      exact ⟨rfl, hB1.trans (hb2.mono hB1.size)⟩

end Go.Proofs.Ythepfpiphlfgnaa
