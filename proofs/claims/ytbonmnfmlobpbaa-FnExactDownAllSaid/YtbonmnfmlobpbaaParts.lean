/-
  YtbonmnfmlobpbaaParts: parts, partsMany: what the program's rounds over the numbers of parts come to.
-/
import Derived.Test.YtbonmnfmlobpbaaReg
import Derived.Test.YtbonmnfmlobpbaaM2
namespace Go.Proofs.Ytbonmnfmlobpbaa
open Go.RowKit

/-! ### A call with a boxed region and one row of numbers of its own -/
structure PW (w wr : World) (R : Reg) (A : Option Addr) (c : Nat) (L : List Int) : Prop where
  bel : Below w.heap.size w wr
  box : Blk wr w.heap.size 29 #[.int .i64 R.W, .int .i64 R.T, .slice A R.C.length c]
  own : wr.ownsRow (w.heap.size + 1) 3 1 (.slice (some ⟨w.heap.size + 1, 0, none⟩) R.C.length R.C.length) R.C.length (L.map (Value.int .i64))

theorem PW.size {w wr : World} {R : Reg} {A : Option Addr} {c : Nat} {L : List Int} (h : PW w wr R A c L) : w.heap.size + 1 < wr.heap.size := (h.own.lt _ rfl).2
theorem PW.below {w wr w2 : World} {R : Reg} {A : Option Addr} {c : Nat} {L : List Int} (h : PW w wr R A c L) (hb : Below wr.heap.size wr w2) : PW w w2 R A c L :=
  ⟨h.bel.trans (hb.mono h.bel.size), h.box.below hb h.box.lt, own_below h.own hb (Nat.le_refl _)⟩
theorem PW.len {w wr : World} {R : Reg} {A : Option Addr} {c : Nat} {L : List Int} (h : PW w wr R A c L) : L.length = R.C.length := by
  have := h.own.1; simpa using this
theorem PW.cell {w wr : World} {R : Reg} {A : Option Addr} {c : Nat} {L : List Int} (h : PW w wr R A c L) {j : Nat} {m : Int} (hj : L[j]? = some m) : wr.cell? ⟨w.heap.size + 1, j, none⟩ = some (.int .i64 m) := by
  have hl : j < L.length := (List.getElem?_eq_some_iff.1 hj).1
  rw [h.own.cellAt j (by have := h.len; omega), List.getElem?_map, hj]
  rfl
theorem PW.free {w wr : World} {R : Reg} {A : Option Addr} {c : Nat} {L : List Int} (h : PW w wr R A c L) (j : Nat) : wr.frozen? ⟨w.heap.size + 1, j, none⟩ = false := h.own.frozenAt j
theorem PW.set {w wr : World} {R : Reg} {A : Option Addr} {c : Nat} {L : List Int} (h : PW w wr R A c L) (j : Nat) (x : Int) : PW w (wr.setCell ⟨w.heap.size + 1, j, none⟩ (.int .i64 x)) R A c (L.set j x) := by
  refine ⟨h.bel.setCell (by simp) _, h.box.far (p := ⟨w.heap.size + 1, j, none⟩) (by simp) _, ?_⟩
  have := (h.own.stored j (.int .i64 x)).1
  rwa [← List.map_set] at this
theorem PW.drewN {w wr : World} {R : Reg} {A : Option Addr} {c : Nat} {L : List Int} (h : PW w wr R A c L) (k : Nat) : PW w (wr.drewN k) R A c L :=
  ⟨Go.Proofs.Ytbonmnfmlobpbaa.below_drewN h.bel k, h.box, h.own⟩
theorem PW.drew {w wr : World} {R : Reg} {A : Option Addr} {c : Nat} {L : List Int} (h : PW w wr R A c L) : PW w wr.drew R A c L :=
  ⟨h.bel.drew, h.box, h.own⟩

/-- What the rounds come to. -/
def PartsRet (w : World) (R : Reg) (e : Ending) (w' : World) : Prop :=
  ∃ g c L, e = .returned (.slice (some ⟨g, 0, none⟩) R.C.length c) ∧ Parts R R.C.length L ∧ w'.ownsRow w.heap.size 3 1 (.slice (some ⟨g, 0, none⟩) R.C.length c) R.C.length (L.map (Value.int .i64)) ∧ Below w.heap.size w w'

/-- The region's own cell, in a later world. -/
theorem reg_cell {R : Reg} {A : Option Addr} {B k : Nat} {w : World} (hr : Reads w B 1 A R.C.length (R.C.map Value.bool)) (hk : k < R.C.length) :
    ∃ ad b, A = some ad ∧ ad.block < B ∧ R.C[k]? = some b ∧ w.cell? (ad.add k) = some (.bool b) := by
  obtain ⟨ad, u, hA, hab, hu, hcell⟩ := hr.at_ hk
  rw [List.getElem?_map] at hu
  cases hb : R.C[k]? with
  | none => rw [hb] at hu; cases hu
  | some b =>
    rw [hb] at hu
    injection hu with hu
    subst hu
    exact ⟨ad, b, hA, hab, rfl, hcell⟩

set_option maxHeartbeats 1000000 in
theorem parts_any (R : Reg) (hR : R.ok) (A : Option Addr) (c B : Nat) (w : World) (hr : Reads w B 1 A R.C.length (R.C.map Value.bool)) (hB : B ≤ w.heap.size) :
    Calls Try.prog 148 #[.agg #[.int .i64 R.W, .int .i64 R.T, .slice A R.C.length c]] w (PartsRet w R) := by
  have hl := len_bd hR
  obtain ⟨hl1, hl2⟩ := hl
  go_enter Try.func148, Try.ntmps148
  go_wp2_with (at_make; refine wpList_make_ints rfl _ _ rfl R.C.length (by omega) rfl rfl (by simp) (by simp) ?_; intro w1 hown hb; simp only [World.size_alloc] at hown hb; obtain ⟨hc, hf⟩ := bcell hb)
  have h0 : PW w w1 R A c (List.replicate R.C.length 0) := ⟨((Below.refl _ _).alloc (Nat.le_refl _) _).trans (hb.mono (by omega)), (Blk.new _ _ _).below hb (by simp), hown⟩
  clear hown hb hc hf
  go_loopw [16] (fun i wr => ∃ k L, k ≤ R.C.length ∧ i = .int .i64 (k : Nat) ∧ PW w wr R A c L ∧ ∀ j : Nat, j < k → L[j]? = some (if R.C[j]? = some true then (j : Int) else -1))
    (fun i _ => R.C.length - (intOf i).toNat)
  case atStart => exact ⟨0, _, Nat.zero_le _, rfl, h0, fun j hj => by omega⟩
  case round =>
    obtain ⟨k, L, hk, rfl, hP, hL⟩ := hrel
    have b2 := hP.box.cell 2
    simp at b2
    have hL' := Lib.hid hL
    clear hL
    by_cases hlt : k < R.C.length
    · obtain ⟨ad, b, rfl, hab, hbk, hcell⟩ := reg_cell (hr.below (hP.bel.mono hB)) hlt
      have hbk' := Lib.hid hbk
      clear hbk
      obtain ⟨x0, hx0⟩ : ∃ x, L[k]? = some x := ⟨_, List.getElem?_eq_getElem (by rw [hP.len]; omega)⟩
      have hck := hP.cell hx0
      have hfk := hP.free k
      have hX0 := Lib.hid hx0
      clear hx0
      cases b with
      | true =>
        go_wp2
        go_roundw
        case rel =>
          refine ⟨k + 1, (L.set k (-1)).set k k, by omega, by go_num, (hP.set k (-1)).set k k, fun j hj => ?_⟩
          have hlen : k < L.length := by rw [hP.len]; omega
          by_cases hjk : j = k
          · subst hjk
            rw [List.getElem?_set, if_pos rfl, if_pos (by simpa using hlen), if_pos (by rw [hbk'.out])]
          · rw [List.getElem?_set, if_neg (by omega), List.getElem?_set, if_neg (by omega)]
            exact hL'.out j (by omega)
        case measure => simp [intOf]; omega
      | false =>
        go_wp2
        go_roundw
        case rel =>
          refine ⟨k + 1, L.set k (-1), by omega, by go_num, hP.set k (-1), fun j hj => ?_⟩
          have hlen : k < L.length := by rw [hP.len]; omega
          by_cases hjk : j = k
          · subst hjk
            rw [List.getElem?_set, if_pos rfl, if_pos (by simpa using hlen), if_neg (by rw [hbk'.out]; simp)]
          · rw [List.getElem?_set, if_neg (by omega)]
            exact hL'.out j (by omega)
        case measure => simp [intOf]; omega
    · go_wp2_with fail
      have hP0 := parts_first hP.len (fun j hj => hL'.out j (by omega))
      have h0 := hP
      have H0 := Lib.hid hP0
      clear hP0 hP hL' b2
      obtain ⟨wo, rfl⟩ : ∃ wo : World, wo = wr := ⟨_, rfl⟩
      go_loopw [33] (fun i wr => ∃ K L, K ≤ R.C.length ∧ i = .int .i64 (K : Nat) ∧ PW w wr R A c L ∧ Parts R K L) (fun i _ => R.C.length - (intOf i).toNat)
      case atStart => exact ⟨0, _, Nat.zero_le _, rfl, h0, H0.out⟩
      case round =>
        clear h0 H0
        obtain ⟨K, L, hK, rfl, hP, hL⟩ := hrel
        have b2 := hP.box.cell 2
        simp at b2
        have hL' := Lib.hid hL
        clear hL
        by_cases hKlt : K < R.C.length
        · go_wp2_with fail
          have hs := pmid_start hL'.out
          have HS := Lib.hid hs
          have h1 := hP
          clear hs hL' hP b2
          obtain ⟨wo2, rfl⟩ : ∃ wo : World, wo = wr := ⟨_, rfl⟩
          go_loopw [38] (fun i wr => ∃ j L, j ≤ R.C.length ∧ i = .int .i64 (j : Nat) ∧ PW w wr R A c L ∧ PMid R K j 1 L) (fun i _ => R.C.length - (intOf i).toNat)
          case atStart => exact ⟨0, _, Nat.zero_le _, rfl, h1, HS.out⟩
          case round =>
            clear h1 HS
            obtain ⟨j, L, hj, rfl, hP, hL⟩ := hrel
            have hL' := Lib.hid hL
            clear hL
            by_cases hjlt : j < R.C.length
            · go_wp2_with fail
              have h2 := hP
              clear hP
              obtain ⟨wo3, rfl⟩ : ∃ wo : World, wo = wr := ⟨_, rfl⟩
              go_loopw [7] (fun i wr => ∃ v L, 1 ≤ v ∧ v ≤ 5 ∧ i = .int .i64 (v : Nat) ∧ PW w wr R A c L ∧ PMid R K j v L) (fun i _ => 5 - (intOf i).toNat)
              case atStart => exact ⟨1, _, by omega, by omega, rfl, h2, hL'.out⟩
              case round =>
                clear h2 hL'
                obtain ⟨v, L, hv1, hv2, rfl, hP, hL⟩ := hrel
                have hL' := Lib.hid hL
                clear hL
                have c0 := hP.box.cell 0
                have c1 := hP.box.cell 1
                have c2 := hP.box.cell 2
                simp at c0 c1 c2
                by_cases hvlt : v ≤ 4
                · obtain ⟨a, ha⟩ : ∃ x, L[j]? = some x := ⟨_, List.getElem?_eq_getElem (by rw [hP.len]; omega)⟩
                  have HA := Lib.hid ha
                  have hbd := pbase_bd hL'.out.base ha
                  clear ha
                  go_wp2_with fail
                  refine (step_any R hR A _ c j hjlt _ _).mono ?_
                  rintro e w2 ⟨rfl, hb⟩
                  have hP2 := hP.below hb
                  have hP2' := hP2.cell HA.out
                  clear hP c0 c1 c2 hb
                  rcases step_range hR hjlt (v : Int) with hs | ⟨e, hs, he⟩
                  · rw [hs]
                    have HS := Lib.hid hs
                    clear hs
                    go_wp2_with fail
                    go_roundw
                    case rel => exact ⟨v + 1, L, by omega, by omega, by go_num, hP2, pmid_skip hL'.out (fun e he => by rw [HS.out] at he; omega)⟩
                    case measure => simp [intOf]; omega
                  · rw [hs]
                    have HS := Lib.hid hs
                    clear hs
                    obtain ⟨b, hb⟩ : ∃ x, L[e]? = some x := ⟨_, List.getElem?_eq_getElem (by rw [hP2.len]; omega)⟩
                    have HB := Lib.hid hb
                    have hbd2 := pbase_bd hL'.out.base hb
                    have hbc := hP2.cell hb
                    clear hb
                    by_cases ha0 : 0 ≤ a
                    · by_cases hb0 : 0 ≤ b
                      · have hfr := hP2.free j
                        go_wp2_with fail
                        go_region
                        all_goals
                          go_wp2_with fail
                        go_roundw
                        case rel =>
                          have hmin : (if b < a then b else a) = min a b := by split <;> omega
                          rw [hmin]
                          exact ⟨v + 1, _, by omega, by omega, by go_num, (hP2.set j (min a b)).drew, pmid_set hL'.out ⟨hv1, hvlt⟩ HS.out HA.out HB.out ha0 hb0⟩
                        case measure => simp [intOf]; omega
                      · have hno : ∀ e' : Nat, R.step j (v : Int) = (e' : Int) → ¬ R.A j e' := by
                          intro e' he' hA
                          rw [HS.out] at he'
                          obtain rfl : e = e' := by omega
                          exact hb0 (pbase_nonneg hL'.out.base HB.out hA.2.1)
                        have HNo := Lib.hid hno
                        clear hno
                        go_wp2_with fail
                        go_roundw
                        case rel => exact ⟨v + 1, L, by omega, by omega, by go_num, hP2, pmid_skip hL'.out HNo.out⟩
                        case measure => simp [intOf]; omega
                    · go_wp2_with fail
                      go_roundw
                      case rel => exact ⟨v + 1, L, by omega, by omega, by go_num, hP2, pmid_skip hL'.out (fun e' _ hA => by have := pbase_nonneg hL'.out.base HA.out hA.1; omega)⟩
                      case measure => simp [intOf]; omega
                · go_wp2_with fail
                  go_roundw
                  case rel => 
                    obtain rfl : v = 5 := by omega
                    exact ⟨j + 1, L, by omega, by go_num, hP, pmid_next hL'.out⟩
                  case measure => simp [intOf]; omega
            · go_wp2_with fail
              go_roundw
              case rel =>
                obtain rfl : j = R.C.length := by omega
                exact ⟨K + 1, L, by omega, by go_num, hP, pmid_end hL'.out⟩
              case measure => simp [intOf]; omega
        · go_wp2_with fail
          go_ret
          obtain rfl : K = R.C.length := by omega
          exact ⟨_, _, L, rfl, hL'.out, own_mono hP.own (by omega), hP.bel⟩

/-! ### partsMany -/
theorem roots_le (L : List Int) (k : Nat) : ((List.range k).countP fun c : Nat => decide (L[c]? = some (c : Int))) ≤ k := by
  have := List.countP_le_length (p := fun c : Nat => decide (L[c]? = some (c : Int))) (l := List.range k)
  simpa using this
theorem roots_succ (L : List Int) (k : Nat) (m : Int) (h : L[k]? = some m) : ((List.range (k + 1)).countP fun c : Nat => decide (L[c]? = some (c : Int))) = ((List.range k).countP fun c : Nat => decide (L[c]? = some (c : Int))) + if ((k : Int) == m) = true then 1 else 0 := by
  rw [List.range_succ, List.countP_append]
  by_cases hkm : m = (k : Int)
  · subst hkm; simp [h]
  · have : ¬ ((k : Int) = m) := fun e => hkm e.symm
    simp [h, hkm, this]

theorem partsMany_any (R : Reg) (hR : R.ok) (A : Option Addr) (c B : Nat) (w : World) (hr : Reads w B 1 A R.C.length (R.C.map Value.bool)) (hB : B ≤ w.heap.size) :
    Calls Try.prog 140 #[.agg #[.int .i64 R.W, .int .i64 R.T, .slice A R.C.length c]] w fun e w' => ∃ m : Nat, e = .returned (.int .i64 m) ∧ (m = 1 ↔ InConn R) ∧ Below w.heap.size w w' := by
  have hl := len_bd hR
  obtain ⟨hl1, hl2⟩ := hl
  go_enter Try.func140, Try.ntmps140
  go_wp2_with fail
  refine (parts_any R hR A c B _ (hr.alloc hB _) (by simp; omega)).mono ?_
  rintro e w1 ⟨g, cc, L, rfl, hL, hown, hb⟩
  have hlen : L.length = R.C.length := hL.len
  simp only [World.size_alloc] at hown hb
  have hbw : Below w.heap.size w w1 := ((Below.refl _ _).alloc (Nat.le_refl _) _).trans (hb.mono (by omega))
  have H1 := Lib.hid hlen
  clear hlen hb hr
  go_wp2_with fail
  go_loop [3, 9] (fun n i => ∃ k : Nat, k ≤ R.C.length ∧ i = .int .i64 k ∧ n = .int .i64 (((List.range k).countP fun c : Nat => decide (L[c]? = some (c : Int)) : Nat) : Int)) (fun _ i => R.C.length - (intOf i).toNat)
  case atStart => exact ⟨0, Nat.zero_le _, rfl, rfl⟩
  case round =>
    obtain ⟨k, hk, rfl, rfl⟩ := hrel
    have hle := roots_le L k
    by_cases hlt : k < R.C.length
    · obtain ⟨m, hm⟩ : ∃ m, L[k]? = some m := ⟨_, List.getElem?_eq_getElem (by rw [H1.out]; omega)⟩
      have hs := Lib.hid (roots_succ L k m hm)
      have hc := hown.cellAt k (by omega)
      rw [List.getElem?_map, hm] at hc
      simp only [Option.map_some] at hc
      generalize ((List.range k).countP fun c : Nat => decide (L[c]? = some (c : Int))) = s at hle hs
      clear hm
      go_wp2
      all_goals
        go_round
        case rel => exact ⟨k + 1, by omega, by go_num, by rw [hs.out]; simp [*]⟩
        case measure => simp [intOf]; omega
    · go_wp2
      go_ret
      obtain rfl : k = R.C.length := by omega
      refine ⟨_, rfl, ?_, hbw⟩
      rw [← H1.out]
      exact roots_one hR hL

end Go.Proofs.Ytbonmnfmlobpbaa
