/-
  YthepfpiphlfgnaaGreatRmz: the texts Ce, Cg, Rm in one file.
-/
import Derived.Test.YthepfpiphlfgnaaGreatCz
import Derived.Test.YthepfpiphlfgnaaGreatRw

/-
  YthepfpiphlfgnaaGreatCe: is a row of numbers among rows (PushedMany of the program)?
-/
namespace Go.Proofs.YthepfpiphlfgnaaGreat
open Go.RowKit

theorem addr_at (g j : Nat) : (⟨g, 0, none⟩ : Addr).add j = ⟨g, j, none⟩ := by
  unfold Addr.add
  split
  · rename_i h; rw [h]
  · simp
theorem pmClos_any (q n : Nat) (g1 c1 g2 c2 : Nat) (M N : List Int) (w : World) (hq : Blk w q 42 #[.slice (some ⟨g2, 0, none⟩) n c2]) (hM : M.length = n) (hN : N.length = n) (hn : n ≤ 9223372036854775807)
    (h1 : Reads w w.heap.size 1 (some ⟨g1, 0, none⟩) n (M.map (Value.int .i64))) (h2 : Reads w w.heap.size 1 (some ⟨g2, 0, none⟩) n (N.map (Value.int .i64))) :
    Calls Tryz.prog 17 #[.slice (some ⟨g1, 0, none⟩) n c1, .pointer (some ⟨q, 0, none⟩)] w fun e w' => e = .returned (.bool (M == N)) ∧ Below w.heap.size w w' := by
  have q0 := hq.cell 0
  simp at q0
  have hE := slices_Equal_int g1 0 n c1 g2 0 n c2 M N w (by omega) (by omega) hn hn (fun j hj => by
    obtain ⟨ad, e, _, hc⟩ := h1.getI (k := j) (by omega)
    injection e with e
    subst e
    rw [Nat.zero_add, ← addr_at]; exact hc) (fun j hj => by
    obtain ⟨ad, e, _, hc⟩ := h2.getI (k := j) (by omega)
    injection e with e
    subst e
    rw [Nat.zero_add, ← addr_at]; exact hc)
  rw [List.take_of_length_le (by omega), List.take_of_length_le (by omega)] at hE
  have HE := hide hE
  clear hE h1 h2
  go_enter Tryz.func17, Tryz.ntmps17
  go_wp2_with fail
  refine (unhide HE).mono ?_
  rintro e w2 ⟨rfl, k, rfl⟩
  go_wp2_with fail
  go_ret
  exact ⟨rfl, below_drewN (Below.refl _ _) k⟩

/-- The row's place, or -1. -/
def FoundR (Ts : List (List Int)) (N : List Int) (w : World) (e : Ending) (w' : World) : Prop :=
  ∃ z : Int, e = .returned (.int .i64 z) ∧ (0 ≤ z ↔ N ∈ Ts) ∧ Below w.heap.size w w'

theorem pmIndex_any (q n b g2 c2 m c d : Nat) (P : Option Addr) (N : List Int) (xs : List Value) (Ts : List (List Int)) (w : World) (hq : Blk w q 42 #[.slice (some ⟨g2, 0, none⟩) n c2]) (hN : N.length = n) (hn : n ≤ 9223372036854775807)
    (h2 : Reads w w.heap.size 1 (some ⟨g2, 0, none⟩) n (N.map (Value.int .i64))) (hT : RowsOf w b n (.slice P m c) xs Ts) (hm : Ts.length = m) (hmm : m ≤ 4294967295) (hTn : ∀ M ∈ Ts, M.length = n) :
    Calls Tryz.prog 46 #[.slice P m d, .func (.func 17) #[] #[.pointer (some ⟨q, 0, none⟩)]] w (FoundR Ts N w) := by
  have HM := Lib.hid hm
  have HTN := Lib.hid hTn
  clear hm hTn
  go_enter Tryz.func46, Tryz.ntmps46
  go_wp2
  go_loopg [8] m (fun r i wr => ∃ k : Nat, k + r = m ∧ i = .int .i64 (k : Nat) ∧ (∀ (j : Nat), j < k → Ts[j]? ≠ some N) ∧ Below w.heap.size w wr)
  case atStart => exact ⟨0, by omega, rfl, fun j hj => by omega, Below.refl _ _⟩
  case round =>
    obtain ⟨k, hk, rfl, hall, hb⟩ := hrel
    have HK := Lib.hid hk
    have HALL := Lib.hid hall
    clear hk hall
    by_cases hlt : k < m
    · have hrow := hT.below hb
      obtain ⟨y, M, hx, hM, hin⟩ := hrow.at_ (k := k) (by rw [HM.out]; exact hlt)
      obtain ⟨gx, cx, rfl, hrx⟩ := hin.reads
      have hMl := HTN.out M (List.mem_of_getElem? hM)
      have hown := hrow.own
      rw [hrow.len, HM.out] at hown
      obtain ⟨g3, cg3, hsh3, _, _, _⟩ := own_shape hown (by omega)
      simp only [Value.slice.injEq, true_and] at hsh3
      obtain ⟨rfl, rfl⟩ := hsh3
      have hxc : wr.cell? ⟨g3, k, none⟩ = some (.slice (some ⟨gx, 0, none⟩) n cx) := by rw [hown.cellAt k (by omega)]; exact hx
      have HC := hide (pmClos_any q n gx cx g2 c2 M N wr (hq.below hb hq.lt) hMl hN hn hrx ((h2.below hb).more hb.size))
      have hsz := hb.size
      have HP := Lib.hid hM
      clear hM hx hown hin hrx hMl hrow
      cases heq : (M == N) with
      | true =>
        rw [heq] at HC
        have HI := Lib.hid heq
        clear heq
        go_wp2_with (go_at_call 17; (with_reducible refine (unhide HC).mono ?_); rintro e w2 ⟨rfl, hb2⟩)
        go_ret
        exact ⟨k, rfl, ⟨fun _ => List.mem_of_getElem? (HP.out.trans (by rw [eq_of_beq HI.out])), fun _ => by omega⟩, hb.trans (hb2.mono hsz)⟩
      | false =>
        rw [heq] at HC
        have HI := Lib.hid heq
        clear heq
        go_wp2_with (go_at_call 17; (with_reducible refine (unhide HC).mono ?_); rintro e w2 ⟨rfl, hb2⟩)
        go_roundg (m - (k + 1))
        case measure => have := HK.out; omega
        case rel =>
          refine ⟨k + 1, by have := HK.out; omega, by go_num, fun j hj hjp => ?_, hb.trans (hb2.mono hsz)⟩
          by_cases hjk : j = k
          · subst hjk
            rw [HP.out] at hjp
            injection hjp with hjp
            have := HI.out
            rw [hjp] at this
            simp at this
          · exact HALL.out j (by omega) hjp
    · go_wp2
      go_ret
      have hk : k = m := by have := HK.out; omega
      refine ⟨-1, rfl, ⟨fun h => by omega, fun h => ?_⟩, hb⟩
      obtain ⟨j, hj⟩ := List.getElem?_of_mem h
      have hjl := (List.getElem?_eq_some_iff.1 hj).1
      exact absurd hj (HALL.out j (by rw [HM.out] at hjl; omega))

theorem pmContains_any (q n b g2 c2 m c d : Nat) (P : Option Addr) (N : List Int) (xs : List Value) (Ts : List (List Int)) (w : World) (hq : Blk w q 42 #[.slice (some ⟨g2, 0, none⟩) n c2]) (hN : N.length = n) (hn : n ≤ 9223372036854775807)
    (h2 : Reads w w.heap.size 1 (some ⟨g2, 0, none⟩) n (N.map (Value.int .i64))) (hT : RowsOf w b n (.slice P m c) xs Ts) (hm : Ts.length = m) (hmm : m ≤ 4294967295) (hTn : ∀ M ∈ Ts, M.length = n) :
    Calls Tryz.prog 16 #[.slice P m d, .func (.func 17) #[] #[.pointer (some ⟨q, 0, none⟩)]] w fun e w' => e = .returned (.bool (decide (N ∈ Ts))) ∧ Below w.heap.size w w' := by
  have HI := hide (pmIndex_any q n b g2 c2 m c d P N xs Ts w hq hN hn h2 hT hm hmm hTn)
  clear hq h2 hT hTn
  by_cases hin : N ∈ Ts
  · rw [decide_eq_true hin]
    have HA := Lib.hid hin
    clear hin
    go_enter Tryz.func16, Tryz.ntmps16
    go_wp2_with (go_at_call 46; refine (unhide HI).mono ?_; rintro e w2 ⟨z, rfl, hz, hb2⟩; have hz2 : (0 : Int) ≤ z := hz.2 HA.out; clear hz)
    go_ret
    exact ⟨rfl, hb2⟩
  · rw [decide_eq_false hin]
    have HA := Lib.hid hin
    clear hin
    go_enter Tryz.func16, Tryz.ntmps16
    go_wp2_with (go_at_call 46; refine (unhide HI).mono ?_; rintro e w2 ⟨z, rfl, hz, hb2⟩; have hz2 : ¬ ((0 : Int) ≤ z) := fun h => HA.out (hz.1 h); clear hz)
    go_ret
    exact ⟨ret_bool (decide_eq_false (by omega)), hb2⟩

end Go.Proofs.YthepfpiphlfgnaaGreat

/-
  YthepfpiphlfgnaaGreatCg: left out.
-/
namespace Go.Proofs.YthepfpiphlfgnaaGreat

end Go.Proofs.YthepfpiphlfgnaaGreat

/-
  YthepfpiphlfgnaaGreatRm: left out.
-/
namespace Go.Proofs.YthepfpiphlfgnaaGreat

end Go.Proofs.YthepfpiphlfgnaaGreat
