/-
  YthepfpiphlfgnaaGreatByS: the reference's TilingBy, and the program's.
-/
import Derived.Test.YthepfpiphlfgnaaGreatYb
import Derived.Test.YthepfpiphlfgnaaGreatRb
import Derived.IntWalk
namespace Go.Proofs.YthepfpiphlfgnaaGreat
open Go.RowKit

theorem laidBareS_ok (R : Reg) (hR : R.ok) (A : Option Addr) (c B : Nat) (w : World) (hr : Reads w B 1 A R.C.length (R.C.map Value.bool)) (hB : B ≤ w.heap.size) :
    Calls Tryz.prog 50 #[.agg #[.int .i64 R.W, .int .i64 R.T, .slice A R.C.length c]] w fun e w' =>
      ∃ g, e = .returned (.slice (some ⟨g, 0, none⟩) R.C.length R.C.length) ∧ w'.ownsRow w.heap.size 3 1 (.slice (some ⟨g, 0, none⟩) R.C.length R.C.length) R.C.length ((List.replicate R.C.length 0).map (Value.int .i64)) ∧ Below w.heap.size w w' := by
  have hlen := (len_bd hR).2
  have HV := hide (validS_any R.W R.T A R.C.length c B R.C (w.alloc (boxR R.W R.T A R.C.length c)) (hr.alloc hB _) (by simp; omega) (by omega))
  rw [valid_of_ok hR] at HV
  go_enter Tryz.func50, Tryz.ntmps50
  go_wp2_with fail
  refine (unhide HV).mono ?_
  rintro e w1 ⟨rfl, hb1⟩
  obtain ⟨hB1, hk1, b0, b1, b2⟩ := box_keep hb1
  go_wp2_with (at_make; refine wpList_make_ints rfl _ _ rfl R.C.length (by omega) rfl rfl (by simp) (by simp) ?_; intro w2 hown hb2)
  go_ret
  exact ⟨_, rfl, by simpa using own_mono hown hB1.size, hB1.trans (hb2.mono hB1.size)⟩






end Go.Proofs.YthepfpiphlfgnaaGreat
