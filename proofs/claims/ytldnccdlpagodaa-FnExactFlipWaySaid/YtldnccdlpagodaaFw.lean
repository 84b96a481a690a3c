/-
  YtldnccdlpagodaaFw: FlipWay of the program.
-/
import Derived.Test.YtldnccdlpagodaaQ6
import Derived.Test.YtldnccdlpagodaaFd
namespace Go.Proofs.Ytldnccdlpagodaa
open Go.RowKit

set_option maxRecDepth 20000 in
theorem wayClos_any (R : Reg) (hR : R.ok) (hS : SimpleP R) (A : Option Addr) (c B : Nat) (N M : List Int) (D : Option Addr) (d : Nat) (k : Nat) (hk : k < R.cn) (q1 q2 q3 q4 gh ch gg cg : Nat) (hP : Plain D) (hM : Tile R M) (w : World)
    (hr : Reads w B 1 A R.C.length (R.C.map Value.bool)) (hd : Reads w B 1 D R.C.length (M.map (Value.int .i64))) (hB : B ≤ w.heap.size)
    (h1 : Blk w q1 29 #[.int .i64 R.W, .int .i64 R.T, .slice A R.C.length c]) (h2 : w.cell? ⟨q2, 0, none⟩ = some (.slice D R.C.length d)) (h3 : w.cell? ⟨q3, 0, none⟩ = some (.slice (some ⟨gh, 0, none⟩) R.cn ch)) (h4 : w.cell? ⟨q4, 0, none⟩ = some (.slice (some ⟨gg, 0, none⟩) R.cn cg))
    (h5 : w.cell? ⟨gh, k, none⟩ = some (.int .i64 ((htsOf R.W R.T R.C M).getD k 0))) (h6 : w.cell? ⟨gg, k, none⟩ = some (.int .i64 ((htsOf R.W R.T R.C N).getD k 0))) :
    Calls Try.prog 58 #[.int .i64 (k : Nat), .pointer (some ⟨q1, 0, none⟩), .pointer (some ⟨q2, 0, none⟩), .pointer (some ⟨q3, 0, none⟩), .pointer (some ⟨q4, 0, none⟩)] w fun e w' => e = .returned (.bool (wyP R N M k)) ∧ Below w.heap.size w w' := by
  have hcn := cn_bd hR
  have HR := fun w' (h : Below w.heap.size w w') => hide (rise_ok R hR hS A c B M D d (k : Int) (by omega) hP hM.1 hM.2 w' (hr.below (h.mono hB)) (hd.below (h.mono hB)) (Nat.le_trans hB h.size))
  obtain ⟨b0, b1, b2⟩ := blk3 h1
  have hb0 := Below.refl w.heap.size w
  have HW : Hid (wyP R N M k = ((decide (0 < rsZ R M (k : Int)) && decide ((htsOf R.W R.T R.C M).getD k 0 < (htsOf R.W R.T R.C N).getD k 0)) || (decide (rsZ R M (k : Int) < 0) && decide ((htsOf R.W R.T R.C N).getD k 0 < (htsOf R.W R.T R.C M).getD k 0)))) := Lib.hid rfl
  generalize wyP R N M k = wp at *
  generalize rsZ R M (k : Int) = z at *
  generalize (htsOf R.W R.T R.C M).getD k 0 = x at *
  generalize (htsOf R.W R.T R.C N).getD k 0 = y at *
  go_enter Try.func58, Try.ntmps58
  go_wp2_with fail
  refine (unhide (HR _ hb0)).mono ?_
  rintro e w3 ⟨rfl, hb3⟩
  have d3 := cell_kept h3 hb3
  have d4 := cell_kept h4 hb3
  have d5 := cell_kept h5 hb3
  have d6 := cell_kept h6 hb3
  clear h2 h3 h4 h5 h6 b0 b1 b2 HR h1 hr hd
  go_upto_region 2 with fail
  have fin : ∀ b nq, wp = b → (Ending.returned (Value.bool b) = Ending.returned (Value.bool wp) ∧ Below w.heap.size w (w3.drewN nq)) := fun b nq h => ⟨by rw [h], below_drewN hb3 _⟩
  cases z1 : decide (0 < z) with
  | true =>
    have z2 : decide (z < 0) = false := decide_eq_false (by have := of_decide_eq_true z1; omega)
    cases z3 : decide (x < y) with
    | true =>
      go_quiet (fail)
      go_wp2_with fail
      go_ret
      exact ⟨ret_bool (by rw [HW.out, z1, z3]; rfl), below_drewN hb3 _⟩
    | false =>
      go_quiet (fail)
      go_wp2_with fail
      go_ret
      exact ⟨ret_bool (by rw [HW.out, z1, z2, z3]; rfl), below_drewN hb3 _⟩
  | false =>
    cases z2 : decide (z < 0) with
    | true =>
      cases z3 : decide (y < x) with
      | true =>
        go_quiet (fail)
        go_wp2_with fail
        go_ret
        exact ⟨ret_bool (by rw [HW.out, z1, z2, z3]; rfl), below_drewN hb3 _⟩
      | false =>
        go_quiet (fail)
        go_wp2_with fail
        go_ret
        exact ⟨ret_bool (by rw [HW.out, z1, z2, z3]; rfl), below_drewN hb3 _⟩
    | false =>
      go_quiet (fail)
      go_wp2_with fail
      go_ret
      exact ⟨ret_bool (by rw [HW.out, z1, z2]; rfl), below_drewN hb3 _⟩
theorem enters_way : Enters Try.prog 58 := enters_of Try.func58 (by kernel_rfl) rfl

end Go.Proofs.Ytldnccdlpagodaa
