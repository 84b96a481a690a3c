/-
  YtpeifojfpkkcpaaPw: what FnPushesBy and FnPushesValid want: the laws' samePushes, and the values.
-/
import Derived.Test.YtpeifojfpkkcpaaPB
import Derived.Test.YtpeifojfpkkcpaaLz
import Derived.BigRegion
namespace Go.Proofs.Ytpeifojfpkkcpaa
open Go.RowKit

/-- A row of pushes of a law. -/
def LP (w wr : World) (P : Option Addr) (ps : List (Int × Bool)) : Prop := ∃ c, wr.ownsRow w.heap.size 40 2 (.slice P ps.length c) ps.length (pc ps)
theorem LP.below {w wr w2 : World} {P : Option Addr} {ps : List (Int × Bool)} (h : LP w wr P ps) (hb : Below wr.heap.size wr w2) : LP w w2 P ps := by
  obtain ⟨c, h⟩ := h
  exact ⟨c, own_below h hb (Nat.le_refl _)⟩
theorem LP.rd {w wr : World} {P : Option Addr} {ps : List (Int × Bool)} (h : LP w wr P ps) : Reads wr wr.heap.size 2 P ps.length (pc ps) := by
  obtain ⟨c, h⟩ := h
  exact Reads.of_own h
theorem LP.of {w wr w2 : World} {P : Option Addr} {c : Nat} {ps : List (Int × Bool)} (hb : w.heap.size ≤ wr.heap.size) (h : w2.ownsRow wr.heap.size 40 2 (.slice P ps.length c) ps.length (pc ps)) : LP w w2 P ps := ⟨c, own_mono h hb⟩
theorem pc_take : ∀ (ps : List (Int × Bool)) (k : Nat), pc (ps.take k) = (pc ps).take (k * 2)
  | [], k => by simp [pc]
  | p :: ps, 0 => by simp [pc]
  | p :: ps, k + 1 => by
    rw [List.take_succ_cons, pc_cons, pc_cons, pc_take ps k, show (k + 1) * 2 = k * 2 + 1 + 1 by omega, List.take_succ_cons, List.take_succ_cons]
theorem pc_drop : ∀ (ps : List (Int × Bool)) (k : Nat), pc (ps.drop k) = (pc ps).drop (k * 2)
  | [], k => by simp [pc]
  | p :: ps, 0 => by simp
  | p :: ps, k + 1 => by
    rw [List.drop_succ_cons, pc_cons, pc_drop ps k, show (k + 1) * 2 = k * 2 + 1 + 1 by omega, List.drop_succ_cons, List.drop_succ_cons]
theorem Reads.takeP {w : World} {B n k : Nat} {A : Option Addr} {ps : List (Int × Bool)} (h : Reads w B 2 A n (pc ps)) (hk : k ≤ n) : Reads w B 2 A k (pc (ps.take k)) := by
  rw [pc_take]
  refine ⟨by rw [List.length_take, h.1]; omega, fun hn => ?_⟩
  obtain ⟨ad, e, hb, hc⟩ := h.2 (by omega)
  refine ⟨ad, e, hb, fun j u hu => hc j u ?_⟩
  rw [List.getElem?_take] at hu
  split at hu
  · exact hu
  · cases hu
theorem Reads.cutP {w : World} {B n k cap : Nat} {A : Option Addr} {ps : List (Int × Bool)} (h : Reads w B 2 A n (pc ps)) (hk : k ≤ n) (hc : n ≤ cap) : Reads w B 2 (if cap = k then A else A.map (·.add (k * 2))) (n - k) (pc (ps.drop k)) := by
  rw [pc_drop]; exact h.cut hk hc

set_option maxHeartbeats 1000000 in
theorem samePushes_same (A A' : Option Addr) (c c' B B' : Nat) (ps : List (Int × Bool)) (w : World) (hr : Reads w B 2 A ps.length (pc ps)) (hr' : Reads w B' 2 A' ps.length (pc ps)) (hn : ps.length ≤ 1048576) :
    Calls Try.prog 28 #[.slice A ps.length c, .slice A' ps.length c'] w fun e w' => e = .returned (.bool true) ∧ Below w.heap.size w w' := by
  have hne : ((ps.length : Int) != (ps.length : Int)) = false := by simp
  go_enter Try.func28, Try.ntmps28
  go_wp2_with fail
  go_loopg [5] ps.length (fun r i wr => ∃ k q : Nat, k + r = ps.length ∧ i = .int .i64 (k : Nat) ∧ wr = w.drewN q)
  case atStart => exact ⟨0, 0, by omega, rfl, rfl⟩
  case round =>
    obtain ⟨k, q, hk, rfl, rfl⟩ := hrel
    have HK := Lib.hid hk
    clear hk
    by_cases hlt : k < ps.length
    · obtain ⟨ad, ⟨z, b⟩, rfl, hab, hp, hcell, hcell2⟩ := hr.push rfl hlt
      obtain ⟨ad', ⟨z', b'⟩, rfl, hab', hp', hcell', hcell2'⟩ := hr'.push rfl hlt
      rw [hp] at hp'
      obtain ⟨rfl, rfl⟩ : z = z' ∧ b = b' := by simpa using hp'
      clear hp hp'
      dsimp only at hcell hcell2 hcell' hcell2'
      have hnn : (z != z) = false := by simp
      have hbb : (b != b) = false := by simp
      clear hne
      go_wp2
      go_quiet (fail)
      go_wp2_with fail
      go_roundg (ps.length - (k + 1))
      case measure => have := HK.out; omega
      case rel => exact ⟨k + 1, _, by have := HK.out; omega, by go_num, rfl⟩
    · go_wp2_with fail
      go_ret
      exact ⟨rfl, below_drewN (Below.refl _ _) _⟩

theorem pushRun_take (N s : Int) (k : Nat) : (pushRun N s (k + 1)).take k = pushRun N s k := by
  have h := pushRun_len N s k
  show (pushRun N s k ++ _).take k = _
  rw [List.take_append_of_le_length (by omega)]
  exact List.take_of_length_le (by omega)
theorem pushRun_in {N s : Int} (hN : 0 < N) : ∀ (k : Nat) (p : Int × Bool), p ∈ pushRun N s k → 0 ≤ p.1 ∧ p.1 ≤ N - 1
  | 0, p, h => by cases h
  | k + 1, p, h => by
    rcases List.mem_append.1 h with h | h
    · exact pushRun_in hN k p h
    · simp only [List.mem_singleton] at h
      rw [h]
      have h1 := Int.emod_nonneg (seedL (seedN s (2 * k)) / 65536) (show N ≠ 0 by omega)
      have h2 := Int.emod_lt_of_pos (seedL (seedN s (2 * k)) / 65536) hN
      exact ⟨h1, by show seedL (seedN s (2 * k)) / 65536 % N ≤ N - 1; omega⟩
theorem simple_ok {W T : Int} {bs : List Bool} (h : simpleB W T bs = true) : ∃ R : Reg, R.ok ∧ W = (R.W : Int) ∧ T = (R.T : Int) ∧ bs = R.C ∧ SimpleP R := by
  have hv : validB W T bs = true := by unfold simpleB at h; rw [Bool.and_eq_true] at h; exact h.1
  obtain ⟨R, hR, rfl, rfl, rfl⟩ := reg_of_valid hv
  exact ⟨R, hR, rfl, rfl, rfl, (simple_of hR).1 h⟩
/-- FnPushesBy. -/
theorem law_pushesBy {W T : Int} {bs : List Bool} {s m : Int} : (pushesByL W T bs s m).length = 0 ∨ (((pushesByL W T bs s m).length : Int) = m ∧ m ≤ 128 ∧ pushesB W T bs (pushesByL W T bs s m) = true ∧ (m = 128 ∨ (((pushesByL W T bs s (m + 1)).length : Int) = m + 1 ∧ (pushesByL W T bs s (m + 1)).take (pushesByL W T bs s m).length = pushesByL W T bs s m))) := by
  by_cases hc : simpleB W T bs = true ∧ (0 ≤ s ∧ s ≤ 2147483647) ∧ (0 ≤ m ∧ m ≤ 128)
  · obtain ⟨hs, hsd, hm⟩ := hc
    obtain ⟨M, rfl⟩ := Int.eq_ofNat_of_zero_le hm.1
    right
    have e : pushesByL W T bs s M = pushRun (cornersB W T bs) s M := by unfold pushesByL; rw [if_pos ⟨hs, hsd, hm⟩]; rfl
    have hl := pushRun_len (cornersB W T bs) s M
    have hN : 0 < cornersB W T bs := by
      obtain ⟨R, hR, rfl, rfl, rfl, _⟩ := simple_ok hs
      unfold cornersB
      rw [valid_of_ok hR, if_pos rfl]
      exact Int.mul_pos (by omega) (by omega)
    rw [e, hl]
    refine ⟨rfl, hm.2, ?_, ?_⟩
    · unfold pushesB
      rw [hs, hl, decide_eq_true (by omega), Bool.true_and, Bool.true_and, List.all_eq_true]
      intro p hp
      exact inB_t (pushRun_in hN M p hp)
    · by_cases h128 : (M : Int) = 128
      · exact .inl h128
      · right
        have e2 : pushesByL W T bs s ((M : Int) + 1) = pushRun (cornersB W T bs) s (M + 1) := by
          unfold pushesByL; rw [if_pos ⟨hs, hsd, by omega, by omega⟩]; rfl
        rw [e2, pushRun_len]
        exact ⟨by omega, pushRun_take _ _ _⟩
  · left
    rw [pushesByL_no hc]; rfl

end Go.Proofs.Ytpeifojfpkkcpaa
