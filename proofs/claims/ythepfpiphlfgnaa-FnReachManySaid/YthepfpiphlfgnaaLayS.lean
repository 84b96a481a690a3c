/-
  YthepfpiphlfgnaaLayS: LaidOk and TilingOk of the reference.
-/
import Derived.Test.YthepfpiphlfgnaaLay
namespace Go.Proofs.Ythepfpiphlfgnaa
open Go.RowKit

set_option maxHeartbeats 1000000 in
theorem laidOkS_any (W T : Int) (A : Option Addr) (n c B : Nat) (bs : List Bool) (L : List Int) (D : Option Addr) (m d : Nat) (w : World) (hbl : bs.length = n) (hL : L.length = m)
    (hr : Reads w B 1 A n (bs.map Value.bool)) (hd : Reads w B 1 D m (L.map (Value.int .i64))) (hB : B ≤ w.heap.size) (hn : n ≤ 9223372036854775807) (hm : m ≤ 9223372036854775807) :
    Calls Try.prog 43 #[.agg #[.int .i64 W, .int .i64 T, .slice A n c], .slice D m d] w fun e w' => e = .returned (.bool (laidB W T bs L)) ∧ Below w.heap.size w w' := by
  cases hv : validB W T bs with
  | false =>
    have HV := Lib.hid hv
    have HS := Lib.hid (laidB_no (L := L) hv)
    clear hv
    go_enter Try.func43, Try.ntmps43
    go_wp2_with fail
    refine (validS_any _ _ A _ c B bs _ (hr.alloc hB _) (by simp; omega) hn).mono ?_
    rintro e w0 ⟨rfl, hb0⟩
    rw [HV.out]
    go_wp2_with fail
    go_ret
    exact ⟨ret_bool (by rw [HS.out]), ((Below.refl _ _).alloc (Nat.le_refl _) _).trans (hb0.mono (by simp))⟩
  | true =>
    obtain ⟨R, hR, rfl, rfl, rfl⟩ := reg_of_valid hv
    subst hbl
    have HV := Lib.hid hv
    have HS := Lib.hid (laidB_ok hR L)
    have hlen := (len_bd hR).2
    clear hv
    by_cases hl : m = R.C.length
    · subst hl
      have hne : ((R.C.length : Int) != (R.C.length : Int)) = false := by simp
      go_enter Try.func43, Try.ntmps43
      go_wp2_with fail
      refine (validS_any _ _ A _ c B R.C _ (hr.alloc hB _) (by simp; omega) hn).mono ?_
      rintro e w0 ⟨rfl, hb0⟩
      rw [HV.out]
      have hB0 := ((Below.refl w.heap.size w).alloc (Nat.le_refl _) (.cells #[.int .i64 R.W, .int .i64 R.T, .slice A R.C.length c] 25)).trans (hb0.mono (by simp))
      have hk0 : Blk w0 w.heap.size 25 #[.int .i64 R.W, .int .i64 R.T, .slice A R.C.length c] := (Blk.new w _ _).below hb0 (by simp)
      have b2 := hk0.cell 2
      simp at b2
      go_wp2_with fail
      clear b2 hb0
      go_loopg [5] R.C.length (fun r s5 wr => ∃ k : Nat, k + r = R.C.length ∧ s5 = .int .i64 (k : Nat) ∧ (∀ j, j < k → layAtB R L j = true) ∧ Blk wr w.heap.size 25 #[.int .i64 R.W, .int .i64 R.T, .slice A R.C.length c] ∧ Below w.heap.size w wr)
      case atStart => exact ⟨0, by omega, rfl, fun j hj => absurd hj (by omega), hk0, hB0⟩
      case round =>
        clear hk0 hB0
        obtain ⟨k, hk, rfl, hall, hbk, hb⟩ := hrel
        have HK := Lib.hid hk
        have HALL := Lib.hid hall
        clear hk hall
        by_cases hlt : k < R.C.length
        · have b0 := hbk.cell 0
          have b1 := hbk.cell 1
          have b2 := hbk.cell 2
          simp at b0 b1 b2
          have hat : layAtB R L k = (decide (L.getD k 0 = 0) || (decide (0 ≤ R.step k (L.getD k 0)) && (R.C.getD k false && (R.C.getD (R.step k (L.getD k 0)).toNat false && decide (L.getD (R.step k (L.getD k 0)).toNat 0 = back (L.getD k 0)))))) := rfl
          have hsr := step_range hR hlt (L.getD k 0)
          have hno := laysB_no (L := L) hlt
          have hLG := fun k (hk : k < R.C.length) => (hd.below (hb.mono hB)).getI hk
          have hCG := fun k (hk : k < R.C.length) => getB (hr.below (hb.mono hB)) hk
          obtain ⟨ad, rfl, hab, hcell⟩ := hLG k hlt
          obtain ⟨ac, rfl, hac, hcc⟩ := hCG k hlt
          have hst := fun w' => hide (stepS_any R hR (some ac) R.C.length c k hlt (L.getD k 0) w')
          have hsc : ∀ e : Nat, R.step k (L.getD k 0) = (e : Int) → 1 ≤ L.getD k 0 ∧ L.getD k 0 ≤ 4 := fun e he => by
            rcases step_cases he with ⟨h, _⟩ | ⟨h, _⟩ | ⟨h, _⟩ | ⟨h, _⟩ <;> omega
          have hso : ¬ (1 ≤ L.getD k 0 ∧ L.getD k 0 ≤ 4) → R.step k (L.getD k 0) = -1 := fun h => step_no h
          generalize L.getD k 0 = v at *
          have HNO := Lib.hid hno
          have HAT := Lib.hid hat
          have HLG := Lib.hid hLG
          have HCG := Lib.hid hCG
          have HSC := Lib.hid hsc
          have HSO := Lib.hid hso
          clear hno hat hLG hCG hsc hso
          by_cases hv : v = 0
          · subst hv
            go_wp2_with fail
            go_roundg (R.C.length - (k + 1))
            case measure => have := HK.out; omega
            case rel =>
              refine ⟨k + 1, by have := HK.out; omega, by go_num, fun j hj => ?_, hbk, hb⟩
              by_cases hjk : j = k
              · subst hjk; rw [HAT.out]; simp
              · exact HALL.out j (by omega)
          · have hv0 : (v == 0) = false := by simpa using hv
            have hvd : decide (v = 0) = false := by simpa using hv
            have HVD := Lib.hid hvd
            clear hv hvd
            by_cases h14 : 1 ≤ v ∧ v ≤ 4
            · have I1 := inB_t h14
              cases hck : R.C.getD k false with
              | false =>
                rw [hck] at hcc
                have HN := Lib.hid (HNO.out (by rw [HAT.out, HVD.out, hck]; simp))
                clear hck h14
                go_wp2_with (go_at_call 91; refine (l1In_any _ _ _ _).mono ?_; rintro e w' ⟨rfl, rfl⟩)
                go_ret
                exact ⟨ret_bool (by rw [HS.out, HN.out]), hb⟩
              | true =>
                rw [hck] at hcc
                have HCK := Lib.hid hck
                obtain ⟨v1, v2⟩ := h14
                clear hck
                generalize R.step k v = z at *
                go_upto_region 9 with (go_at_call 91; refine (l1In_any _ _ _ _).mono ?_; rintro e w' ⟨rfl, rfl⟩)
                go_region_held3 (fun w' => w'.cell? (ad.add k) = some (Value.int IntKind.i64 v) ∧ w'.cell? ⟨w.heap.size, 0, none⟩ = some (.int .i64 R.W) ∧ w'.cell? ⟨w.heap.size, 1, none⟩ = some (.int .i64 R.T) ∧ w'.cell? ⟨w.heap.size, 2, none⟩ = some (.slice (some ac) R.C.length c))
                  (first | exact ⟨hcell, b0, b1, b2⟩ | exact ⟨cell_kept (w := wr.drew) hcell hb1, cell_kept (w := wr.drew) b0 hb1, cell_kept (w := wr.drew) b1 hb1, cell_kept (w := wr.drew) b2 hb1⟩)
                  (first
                    | (go_at_call 111; refine (unhide (hst _)).mono ?_; rintro e w1 ⟨rfl, hb1⟩))
                have hcell1 := cell_kept (w := wr.drew) hcell hb1
                have hcc1 := cell_kept (w := wr.drew) hcc hb1
                have hbk1 := hbk.drew.below hb1 hbk.drew.lt
                have hB1 := hb.drew.trans (hb1.mono hb.size)
                have d2 := hbk1.cell 2
                simp at d2
                clear b0 b1 b2 hcell hcc hst hbk
                go_upto_region 10 with fail
                go_cut [71] (fun s wx => s = .bool (!layAtB R L k) ∧ ∃ m, wx = w1.drewN m)
                case first =>
                  rcases hsr with hz | ⟨e, hz, he⟩
                  · have hres : (!layAtB R L k) = true := by rw [HAT.out, hz, HVD.out]; simp
                    have HRES := Lib.hid hres
                    have hz0 : decide (z < 0) = true := by rw [hz]; decide
                    clear hres hz
                    go_big_quiet (fail)
                    go_wp2_with fail
                    go_meet
                    exact ⟨by rw [HRES.out], _, rfl⟩
                  · obtain ⟨ac', e1, _, hce⟩ := HCG.out e he
                    injection e1 with e1
                    subst e1
                    obtain ⟨ad', e1, _, hle⟩ := HLG.out e he
                    injection e1 with e1
                    subst e1
                    have hce1 := cell_kept (w := wr.drew) hce hb1
                    have hle1 := cell_kept (w := wr.drew) hle hb1
                    have hres : (!layAtB R L k) = !((R.C.getD e false && decide (L.getD e 0 = back v))) := by
                      rw [HAT.out, hz, HVD.out, HCK.out]
                      simp
                    have HRES := Lib.hid hres
                    clear hres hce hle
                    subst hz
                    have hz0 : decide ((e : Int) < 0) = false := decide_eq_false (by omega)
                    generalize R.C.getD e false = q at *
                    generalize L.getD e 0 = u at *
                    have hbkc : ∀ w', Calls Try.prog 112 #[.int .i64 v] w' fun e w'' => e = .returned (.int .i64 (back v)) ∧ w'' = w' := fun w' => (backS_any v ⟨v1, v2⟩ w').mono fun _ _ h => ⟨h.1, h.2.symm⟩
                    generalize back v = bv at *
                    cases q with
                    | false =>
                      go_big_quiet (fail)
                      go_wp2_with fail
                      go_meet
                      exact ⟨by rw [HRES.out]; simp, _, rfl⟩
                    | true =>
                      go_big_quiet ((go_at_call 112; exact Calls.quiet_of_same (hbkc _)))
                      go_wp2_with fail
                      go_meet
                      exact ⟨by rw [HRES.out]; simp [bne, Bool.beq_eq_decide_eq], _, rfl⟩
                case rest =>
                  obtain ⟨rfl, m, rfl⟩ := hcut
                  cases hat : layAtB R L k with
                  | true =>
                    have HT := Lib.hid hat
                    clear hat
                    go_wp2_with fail
                    go_roundg (R.C.length - (k + 1))
                    case measure => have := HK.out; omega
                    case rel =>
                      refine ⟨k + 1, by have := HK.out; omega, by go_num, fun j hj => ?_, hbk1.drewN m, below_drewN hB1 m⟩
                      by_cases hjk : j = k
                      · subst hjk; exact HT.out
                      · exact HALL.out j (by omega)
                  | false =>
                    have HN := Lib.hid (HNO.out hat)
                    clear hat
                    go_wp2_with fail
                    go_ret
                    exact ⟨ret_bool (by rw [HS.out, HN.out]), below_drewN hB1 m⟩
            · have I1 := inB_f h14
              have HN := Lib.hid (HNO.out (by rw [HAT.out, HVD.out, HSO.out h14]; simp))
              clear h14
              go_wp2_with (go_at_call 91; refine (l1In_any _ _ _ _).mono ?_; rintro e w' ⟨rfl, rfl⟩)
              go_ret
              exact ⟨ret_bool (by rw [HS.out, HN.out]), hb⟩
        · have hall := laysB_yes (L := L) hL (fun j hj => HALL.out j (by have := HK.out; omega))
          have HA := Lib.hid hall
          clear hall
          go_wp2_with fail
          go_ret
          exact ⟨ret_bool (by rw [HS.out, HA.out]), hb⟩
    · have hne : ((m : Int) != (R.C.length : Int)) = true := by simp; omega
      have hres : laysB R L = false := by
        unfold laysB
        rw [decide_eq_false (by rw [hL]; exact hl)]; rfl
      have HRES := Lib.hid hres
      clear hres hl
      go_enter Try.func43, Try.ntmps43
      go_wp2_with fail
      refine (validS_any _ _ A _ c B R.C _ (hr.alloc hB _) (by simp; omega) hn).mono ?_
      rintro e w0 ⟨rfl, hb0⟩
      rw [HV.out]
      have hk0 : Blk w0 w.heap.size 25 #[.int .i64 R.W, .int .i64 R.T, .slice A R.C.length c] := (Blk.new w _ _).below hb0 (by simp)
      have b2 := hk0.cell 2
      simp at b2
      go_wp2_with fail
      go_ret
      exact ⟨ret_bool (by rw [HS.out, HRES.out]), ((Below.refl _ _).alloc (Nat.le_refl _) _).trans (hb0.mono (by simp))⟩


theorem tilingOkS_any (W T : Int) (A : Option Addr) (n c B : Nat) (bs : List Bool) (L : List Int) (D : Option Addr) (m d : Nat) (w : World) (hbl : bs.length = n) (hL : L.length = m)
    (hr : Reads w B 1 A n (bs.map Value.bool)) (hd : Reads w B 1 D m (L.map (Value.int .i64))) (hB : B ≤ w.heap.size) (hn : n ≤ 9223372036854775807) (hm : m ≤ 9223372036854775807) :
    Calls Try.prog 96 #[.agg #[.int .i64 W, .int .i64 T, .slice A n c], .slice D m d] w fun e w' => e = .returned (.bool (tilingB W T bs L)) ∧ Below w.heap.size w w' := by
  have hLO := hide (laidOkS_any W T A n c B bs L D m d (w.alloc (.cells #[.int .i64 W, .int .i64 T, .slice A n c] 25)) hbl hL (hr.alloc hB _) (hd.alloc hB _) (by simp; omega) hn hm)
  cases hv : laidB W T bs L with
  | false =>
    rw [hv] at hLO
    have HS := Lib.hid (tilingB_no hv)
    clear hv
    go_enter Try.func96, Try.ntmps96
    go_wp2_with fail
    refine (unhide hLO).mono ?_
    rintro e w0 ⟨rfl, hb0⟩
    go_wp2_with fail
    go_ret
    exact ⟨ret_bool (by rw [HS.out]), ((Below.refl _ _).alloc (Nat.le_refl _) _).trans (hb0.mono (by simp))⟩
  | true =>
    rw [hv] at hLO
    have hvv : validB W T bs = true := by
      cases h : validB W T bs with
      | true => rfl
      | false => rw [laidB_no h] at hv; cases hv
    obtain ⟨R, hR, rfl, rfl, rfl⟩ := reg_of_valid hvv
    subst hbl
    rw [laidB_ok hR] at hv
    have hml : m = R.C.length := by rw [← hL]; exact ((laysB_iff hR).1 hv).len
    subst hml
    have HS := Lib.hid (show tilingB R.W R.T R.C L = fullB R L by rw [tilingB_ok hR, hv, Bool.true_and])
    clear hv hvv
    go_enter Try.func96, Try.ntmps96
    go_wp2_with fail
    refine (unhide hLO).mono ?_
    rintro e w0 ⟨rfl, hb0⟩
    have hB0 := ((Below.refl w.heap.size w).alloc (Nat.le_refl _) (.cells #[.int .i64 R.W, .int .i64 R.T, .slice A R.C.length c] 25)).trans (hb0.mono (by simp))
    have hk0 : Blk w0 w.heap.size 25 #[.int .i64 R.W, .int .i64 R.T, .slice A R.C.length c] := (Blk.new w _ _).below hb0 (by simp)
    have b2 := hk0.cell 2
    simp at b2
    have hLG := fun k (hk : k < R.C.length) => (hd.below (hB0.mono hB)).getI hk
    have hCG := fun k (hk : k < R.C.length) => getB (hr.below (hB0.mono hB)) hk
    have HLG := Lib.hid hLG
    have HCG := Lib.hid hCG
    clear hLG hCG hb0 hk0
    go_wp2_with fail
    go_loopg [5] R.C.length (fun r s5 wr => ∃ k : Nat, k + r = R.C.length ∧ s5 = .int .i64 (k : Nat) ∧ (∀ j, j < k → fullAtB R L j = true) ∧ wr = w0)
    case atStart => exact ⟨0, by omega, rfl, fun j hj => absurd hj (by omega), rfl⟩
    case round =>
      obtain ⟨k, hk, rfl, hall, rfl⟩ := hrel
      have HK := Lib.hid hk
      have HALL := Lib.hid hall
      clear hk hall
      by_cases hlt : k < R.C.length
      · obtain ⟨ad, rfl, hab, hcell⟩ := HLG.out k hlt
        obtain ⟨ac, rfl, hac, hcc⟩ := HCG.out k hlt
        have hat : fullAtB R L k = (!R.C.getD k false || decide (L.getD k 0 ≠ 0)) := rfl
        have HAT := Lib.hid hat
        have HNO := Lib.hid (fullB_no (R := R) (L := L) hlt)
        clear hat
        generalize R.C.getD k false = p at *
        generalize L.getD k 0 = v at *
        cases p with
        | false =>
          go_wp2_with fail
          go_roundg (R.C.length - (k + 1))
          case measure => have := HK.out; omega
          case rel =>
            refine ⟨k + 1, by have := HK.out; omega, by go_num, fun j hj => ?_, rfl⟩
            by_cases hjk : j = k
            · subst hjk; rw [HAT.out]; rfl
            · exact HALL.out j (by omega)
        | true =>
          by_cases hv : v = 0
          · have hv0 : (v == 0) = true := by simpa using hv
            have HN := Lib.hid (HNO.out (by rw [HAT.out]; simp [hv]))
            clear hv
            go_wp2_with fail
            go_ret
            exact ⟨ret_bool (by rw [HS.out, HN.out]), hB0⟩
          · have hv0 : (v == 0) = false := by simpa using hv
            have HV := Lib.hid hv
            clear hv
            go_wp2_with fail
            go_roundg (R.C.length - (k + 1))
            case measure => have := HK.out; omega
            case rel =>
              refine ⟨k + 1, by have := HK.out; omega, by go_num, fun j hj => ?_, rfl⟩
              by_cases hjk : j = k
              · subst hjk; rw [HAT.out]; simp [HV.out]
              · exact HALL.out j (by omega)
      · have HA := Lib.hid (fullB_yes (R := R) (L := L) (fun j hj => HALL.out j (by have := HK.out; omega)))
        go_wp2_with fail
        go_ret
        exact ⟨ret_bool (by rw [HS.out, HA.out]), hB0⟩

end Go.Proofs.Ythepfpiphlfgnaa
