/-
  YthepfpiphlfgnaaGreatR4: TilingOf of the reference: the tiling of a rank.
-/
import Derived.Test.YthepfpiphlfgnaaGreatRk
import Derived.Test.YthepfpiphlfgnaaGreatD6
namespace Go.Proofs.YthepfpiphlfgnaaGreat
open Go.RowKit

/-- Where the search stands: the region's box, and the list so far. -/
structure TW (w wr : World) (R : Reg) (A : Option Addr) (c g c1 : Nat) (L : List Int) : Prop where
  bel : Below w.heap.size w wr
  box : Blk wr w.heap.size 25 #[.int .i64 R.W, .int .i64 R.T, .slice A R.C.length c]
  li : LiAt wr w.heap.size (.slice (some ⟨g, 0, none⟩) R.C.length c1) L
theorem TW.below {w wr w2 : World} {R : Reg} {A : Option Addr} {c g c1 : Nat} {L : List Int} (h : TW w wr R A c g c1 L) (hb : Below wr.heap.size wr w2) : TW w w2 R A c g c1 L :=
  ⟨h.bel.trans (hb.mono h.bel.size), h.box.below hb h.box.lt, h.li.below hb⟩
theorem nT_with {R : Reg} (hR : R.ok) {L : List Int} (hL : L.length = R.C.length) {c : Nat} : (if frB R L c 1 = true then nT (less R (lyV R L c 1)) else 0) = lowN R L c := by
  unfold lowN
  split
  · rw [nT_less hR (by rw [lyV_len]; exact hL)]
  · rfl






/-- TilingsMany of the reference, of any region. -/
def tmV (W T : Int) (bs : List Bool) : Int := if validB W T bs = true then ((nT ⟨W.toNat, T.toNat, bs⟩ : Nat) : Int) else -1
theorem tmV_ok {R : Reg} (hR : R.ok) : tmV R.W R.T R.C = ((nT R : Nat) : Int) := by unfold tmV; rw [if_pos (valid_of_ok hR)]; rfl
theorem tmV_no {W T : Int} {bs : List Bool} (h : validB W T bs = false) : tmV W T bs = -1 := by unfold tmV; rw [if_neg (by rw [h]; simp)]

set_option maxHeartbeats 1000000 in
set_option maxRecDepth 100000 in
theorem tilingsManyS_no (W T : Int) (A : Option Addr) (n c B : Nat) (bs : List Bool) (w : World) (hr : Reads w B 1 A n (bs.map Value.bool)) (hB : B ≤ w.heap.size) (hn : n ≤ 9223372036854775807) (hv : validB W T bs = false) :
    Calls Tryz.prog 35 #[.agg #[.int .i64 W, .int .i64 T, .slice A n c]] w fun e w' => e = .returned (.int .i64 (-1)) ∧ Below w.heap.size w w' := by
  have HV := hide (validS_any W T A n c B bs (w.alloc (boxR W T A n c)) (hr.alloc hB _) (by simp; omega) hn)
  rw [hv] at HV
  clear hv
  go_enter Tryz.func35, Tryz.ntmps35
  go_wp2_with fail
  refine (unhide HV).mono ?_
  rintro e w1 ⟨rfl, hb1⟩
  obtain ⟨hB1, hk1, b0, b1, b2⟩ := box_keep hb1
  go_wp2_with fail
  go_ret
  exact ⟨rfl, hB1⟩
theorem tilingsManyS_any (W T : Int) (A : Option Addr) (n c B : Nat) (bs : List Bool) (w : World) (hbl : bs.length = n) (hr : Reads w B 1 A n (bs.map Value.bool)) (hB : B ≤ w.heap.size) (hn : n ≤ 9223372036854775807) :
    Calls Tryz.prog 35 #[.agg #[.int .i64 W, .int .i64 T, .slice A n c]] w fun e w' => e = .returned (.int .i64 (tmV W T bs)) ∧ Below w.heap.size w w' := by
  cases hv : validB W T bs with
  | false => rw [tmV_no hv]; exact tilingsManyS_no W T A n c B bs w hr hB hn hv
  | true =>
    obtain ⟨R, hR, rfl, rfl, rfl⟩ := reg_of_valid hv
    subst hbl
    rw [tmV_ok hR]
    exact tilingsManyS_ok R hR A c B w hr hB

end Go.Proofs.YthepfpiphlfgnaaGreat
