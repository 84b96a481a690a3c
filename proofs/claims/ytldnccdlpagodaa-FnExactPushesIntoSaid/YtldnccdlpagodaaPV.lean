/-
  YtldnccdlpagodaaPV: PushesValid: the reference and the program, both compute pushesB.
-/
import Derived.Test.YtldnccdlpagodaaPush
import Derived.Test.YtldnccdlpagodaaOut
import Derived.Deep.RegionHeld3
import Derived.IntWalk
namespace Go.Proofs.Ytldnccdlpagodaa
open Go.RowKit

def cornersB (W T : Int) (bs : List Bool) : Int := if validB W T bs then (W + 1) * (T + 1) else -1
theorem cornersB_ok {R : Reg} (hR : R.ok) : cornersB R.W R.T R.C = (R.corners : Int) := by
  unfold cornersB
  rw [valid_of_ok hR, if_pos rfl]
  unfold Reg.corners
  simp
theorem cornersB_bd (W T : Int) (bs : List Bool) : -1 ≤ cornersB W T bs ∧ cornersB W T bs ≤ 49 := by
  cases hv : validB W T bs with
  | false => unfold cornersB; rw [hv]; simp
  | true =>
    obtain ⟨R, hR, rfl, rfl, rfl⟩ := reg_of_valid hv
    rw [cornersB_ok hR]
    have := corners_bd hR
    omega
theorem cornerManyS_any (W T : Int) (A : Option Addr) (n c B : Nat) (bs : List Bool) (w : World) (hl : bs.length = n) (hr : Reads w B 1 A n (bs.map Value.bool)) (hB : B ≤ w.heap.size) (hn : n ≤ 9223372036854775807) :
    Calls Try.prog 66 #[.agg #[.int .i64 W, .int .i64 T, .slice A n c]] w fun e w' => e = .returned (.int .i64 (cornersB W T bs)) ∧ Below w.heap.size w w' := by
  cases hv : validB W T bs with
  | false =>
    have := cornerManyS_no W T A n c B bs w hr hB hn hv
    unfold cornersB
    rw [hv]
    exact this
  | true =>
    obtain ⟨R, hR, rfl, rfl, rfl⟩ := reg_of_valid hv
    rw [cornersB_ok hR]
    subst hl
    exact cornerManyS_ok R hR A c B w hr hB

noncomputable def pushesB (W T : Int) (bs : List Bool) (ps : List (Int × Bool)) : Bool :=
  simpleB W T bs && (decide (ps.length ≤ 128) && ps.all fun p => inB p.1 0 (cornersB W T bs - 1))

theorem cell_keep {w w' : World} {p : Addr} {v : Value} (h : w.cell? p = some v) (hb : Below w.heap.size w w') : w'.cell? p = some v := (hb.cell (World.block_lt_of_cell? w p h)).trans h

theorem all_false_at {ps : List (Int × Bool)} {f : Int × Bool → Bool} {k : Nat} {p : Int × Bool} (hp : ps[k]? = some p) (h : f p = false) : ps.all f = false := by
  rw [List.all_eq_false]
  exact ⟨p, List.mem_of_getElem? hp, by simp [h]⟩
theorem all_true_of {ps : List (Int × Bool)} {f : Int × Bool → Bool} (h : ∀ (k : Nat) (p : Int × Bool), ps[k]? = some p → f p = true) : ps.all f = true := by
  rw [List.all_eq_true]
  intro p hp
  obtain ⟨k, hk⟩ := List.getElem?_of_mem hp
  exact h k p hk

set_option maxRecDepth 20000 in
theorem PushesValidS_any (W T : Int) (A : Option Addr) (n c B : Nat) (bs : List Bool) (P : Option Addr) (m d D : Nat) (ps : List (Int × Bool)) (w : World)
    (hl : bs.length = n) (hr : Reads w B 1 A n (bs.map Value.bool)) (hB : B ≤ w.heap.size) (hn : n ≤ 9223372036854775807)
    (hm : ps.length = m) (hp : Reads w D 2 P m (pc ps)) (hD : D ≤ w.heap.size) (hmm : m ≤ 9223372036854775807) :
    Calls Try.prog 86 #[.agg #[.int .i64 W, .int .i64 T, .slice A n c], .slice P m d] w fun e w' => e = .returned (.bool (pushesB W T bs ps)) ∧ Below w.heap.size w w' := by
  have hcb := cornersB_bd W T bs
  have HPB : Hid (pushesB W T bs ps = (simpleB W T bs && (decide (ps.length ≤ 128) && ps.all fun p => inB p.1 0 (cornersB W T bs - 1)))) := Lib.hid rfl
  go_enter Try.func86, Try.ntmps86
  go_wp2
  go_loopg [5] m (fun r i wr => ∃ k : Nat, k + r = m ∧ i = .int .i64 (k : Nat) ∧ (∀ j p, j < k → ps[j]? = some p → inB p.1 0 (cornersB W T bs - 1) = true) ∧ Blk wr w.heap.size 29 #[.int .i64 W, .int .i64 T, .slice A n c] ∧ Below w.heap.size w wr)
  case atStart => exact ⟨0, by omega, rfl, fun j p hj => by omega, Blk.new _ _ _, (Below.refl _ _).alloc (Nat.le_refl _) _⟩
  case round =>
    obtain ⟨k, hk, rfl, hall, hbk, hb⟩ := hrel
    have HK := Lib.hid hk
    have HALL := Lib.hid hall
    clear hk hall
    have b0 := hbk.cell 0
    have b1 := hbk.cell 1
    have b2 := hbk.cell 2
    simp at b0 b1 b2
    by_cases hlt : k < m
    · obtain ⟨ad, ⟨z, b⟩, rfl, hab, hpk, hcell, hcell2⟩ := (hp.below (hb.mono hD)).push hm hlt
      have HP := Lib.hid hpk
      clear hpk
      dsimp only at hcell hcell2
      have hrd : Reads wr.drew B 1 A n (bs.map Value.bool) := (hr.below (hb.mono hB)).drew
      have hsz : w.heap.size ≤ wr.drew.heap.size := hb.size
      have HC := hide (cornerManyS_any W T A n c B bs wr.drew hl hrd (by omega) hn)
      clear hrd
      have hw1 : IntKind.i64.wrap (cornersB W T bs - 1) = cornersB W T bs - 1 := IntWalk.i64_in _ (by omega)
      generalize cornersB W T bs = cb at *
      cases hin : inB z 0 (cb - 1) with
      | false =>
        have HI := Lib.hid hin
        clear hin
        go_upto_region 4 with fail
        go_region_held3 (fun w' => w'.cell? (ad.add (k * 2)) = some (Value.int IntKind.i64 z) ∧ w'.cell? ⟨w.heap.size, 0, none⟩ = some (.int .i64 W) ∧ w'.cell? ⟨w.heap.size, 1, none⟩ = some (.int .i64 T) ∧ w'.cell? ⟨w.heap.size, 2, none⟩ = some (.slice A n c))
          (first | exact ⟨hcell, b0, b1, b2⟩ | exact ⟨cell_keep (w := wr.drew) hcell hb2, cell_keep (w := wr.drew) b0 hb2, cell_keep (w := wr.drew) b1 hb2, cell_keep (w := wr.drew) b2 hb2⟩)
          (first
            | (go_at_call 66; refine (unhide HC).mono ?_; rintro e w2 ⟨rfl, hb2⟩)
            | (go_at_call 65; refine (l1In_any z 0 (cb - 1) _).mono ?_; rintro e w3 ⟨rfl, rfl⟩; rw [HI.out]))
        go_wp2
        go_ret
        have hpf : pushesB W T bs ps = false := by
          rw [HPB.out, all_false_at HP.out HI.out]
          simp
        exact ⟨by rw [hpf]; rfl, hb.drew.trans (hb2.mono hsz)⟩
      | true =>
        have HI := Lib.hid hin
        clear hin
        go_upto_region 4 with fail
        go_region_held3 (fun w' => w'.cell? (ad.add (k * 2)) = some (Value.int IntKind.i64 z) ∧ w'.cell? ⟨w.heap.size, 0, none⟩ = some (.int .i64 W) ∧ w'.cell? ⟨w.heap.size, 1, none⟩ = some (.int .i64 T) ∧ w'.cell? ⟨w.heap.size, 2, none⟩ = some (.slice A n c))
          (first | exact ⟨hcell, b0, b1, b2⟩ | exact ⟨cell_keep (w := wr.drew) hcell hb2, cell_keep (w := wr.drew) b0 hb2, cell_keep (w := wr.drew) b1 hb2, cell_keep (w := wr.drew) b2 hb2⟩)
          (first
            | (go_at_call 66; refine (unhide HC).mono ?_; rintro e w2 ⟨rfl, hb2⟩)
            | (go_at_call 65; refine (l1In_any z 0 (cb - 1) _).mono ?_; rintro e w3 ⟨rfl, rfl⟩; rw [HI.out]))
        go_wp2
        go_roundg (m - (k + 1))
        case measure => have := HK.out; omega
        case rel =>
          refine ⟨k + 1, by have := HK.out; omega, by go_num, fun j p hj hjp => ?_, hbk.drew.below hb2 hbk.drew.lt, hb.drew.trans (hb2.mono hsz)⟩
          by_cases hjk : j = k
          · subst hjk
            rw [HP.out] at hjp
            injection hjp with hjp
            subst hjp
            exact HI.out
          · exact HALL.out j p (by omega) hjp
    · have HPF : Hid (pushesB W T bs ps = (simpleB W T bs && decide ((m : Int) ≤ 128))) := by
        have hk : k = m := by have := HK.out; omega
        have hall := all_true_of (ps := ps) (f := fun p => inB p.1 0 (cornersB W T bs - 1)) (fun j p hjp => HALL.out j p (by have := (List.getElem?_eq_some_iff.1 hjp).1; omega) hjp)
        refine Lib.hid ?_
        rw [HPB.out, hall, Bool.and_true, hm]
        congr 1
        simp; omega
      have hrd := hr.below (hb.mono hB)
      have hsz := hb.size
      have HS := hide (SimpleS_any W T A n c B bs wr hrd (by omega) hn)
      clear hrd
      generalize simpleB W T bs = sb at *
      cases sb with
      | false =>
        go_wp2_with (go_at_call 64; refine (unhide HS).mono ?_; rintro e w2 ⟨rfl, hb2⟩)
        go_ret
        exact ⟨by rw [HPF.out]; rfl, hb.trans (hb2.mono hsz)⟩
      | true =>
        go_wp2_with (go_at_call 64; refine (unhide HS).mono ?_; rintro e w2 ⟨rfl, hb2⟩)
        go_ret
        exact ⟨by rw [HPF.out]; rfl, hb.trans (hb2.mono hsz)⟩

end Go.Proofs.Ytldnccdlpagodaa
