/-
  YthepfpiphlfgnaaByS: the reference's TilingBy, and the program's.
-/
import Derived.Test.YthepfpiphlfgnaaYb
import Derived.Test.YthepfpiphlfgnaaRb
import Derived.IntWalk
namespace Go.Proofs.Ythepfpiphlfgnaa
open Go.RowKit

theorem laidBareS_ok (R : Reg) (hR : R.ok) (A : Option Addr) (c B : Nat) (w : World) (hr : Reads w B 1 A R.C.length (R.C.map Value.bool)) (hB : B ≤ w.heap.size) :
    Calls Try.prog 131 #[.agg #[.int .i64 R.W, .int .i64 R.T, .slice A R.C.length c]] w fun e w' =>
      ∃ g, e = .returned (.slice (some ⟨g, 0, none⟩) R.C.length R.C.length) ∧ w'.ownsRow w.heap.size 3 1 (.slice (some ⟨g, 0, none⟩) R.C.length R.C.length) R.C.length ((List.replicate R.C.length 0).map (Value.int .i64)) ∧ Below w.heap.size w w' := by
  have hlen := (len_bd hR).2
  have HV := hide (validS_any R.W R.T A R.C.length c B R.C (w.alloc (boxR R.W R.T A R.C.length c)) (hr.alloc hB _) (by simp; omega) (by omega))
  rw [valid_of_ok hR] at HV
  go_enter Try.func131, Try.ntmps131
  go_wp2_with fail
  refine (unhide HV).mono ?_
  rintro e w1 ⟨rfl, hb1⟩
  obtain ⟨hB1, hk1, b0, b1, b2⟩ := box_keep hb1
  go_wp2_with (at_make; refine wpList_make_ints rfl _ _ rfl R.C.length (by omega) rfl rfl (by simp) (by simp) ?_; intro w2 hown hb2)
  go_ret
  exact ⟨_, rfl, by simpa using own_mono hown hB1.size, hB1.trans (hb2.mono hB1.size)⟩

theorem sdD_in {L : List Int} {f t : Nat} (hf : -60 ≤ L.getD f 0 ∧ L.getD f 0 ≤ 60) (ht : -60 ≤ L.getD t 0 ∧ L.getD t 0 ≤ 60) : sdD L f t = L.getD t 0 - L.getD f 0 := by
  unfold sdD
  exact IntWalk.wrap64_in _ (by omega)
theorem ixOf_in {R : Reg} (hR : R.ok) {s : Sd} (h : R.inn s = true) : ∃ a b : Nat, ixOf R s.lx s.ly = (a : Nat) ∧ ixOf R s.rx s.ry = (b : Nat) ∧ s.ly * R.W + s.lx = (a : Nat) ∧ s.ry * R.W + s.rx = (b : Nat) ∧ a < R.C.length ∧ b < R.C.length := by
  obtain ⟨a, b, e1, e2, ha, hb, _⟩ := inn_ix hR h
  unfold Reg.inn at h
  rw [Bool.and_eq_true] at h
  exact ⟨a, b, by unfold ixOf; rw [if_pos h.1, e1], by unfold ixOf; rw [if_pos h.2, e2], e1, e2, ha, hb⟩

set_option maxHeartbeats 4000000 in
set_option maxRecDepth 100000 in
theorem tilingByS_ok (R : Reg) (hR : R.ok) (hS : SimpleP R) (A : Option Addr) (c B : Nat) (L : List Int) (ad : Addr) (d : Nat) (hk : HOk R L) (w : World)
    (hr : Reads w B 1 A R.C.length (R.C.map Value.bool)) (hd : Reads w B 1 (some ad) R.cn (L.map (Value.int .i64))) (hB : B ≤ w.heap.size) :
    Calls Try.prog 67 #[.agg #[.int .i64 R.W, .int .i64 R.T, .slice A R.C.length c], .slice (some ad) R.cn d] w (RetIB w (byTo R L (sidesOf R).length) true) := by
  have hcn := cn_bd hR
  obtain ⟨hcn1, hcn2⟩ := hcn
  have hl36 := (len_bd hR).2
  have HHK := Lib.hid hk
  have hHO := hide (hokS_ok R hR hS A c B L ad d hk.len (w.alloc (boxR R.W R.T A R.C.length c)) (hr.alloc hB _) (hd.alloc hB _) (by simp; omega))
  rw [(hokB_ok hR hS).2 hk] at hHO
  clear hk
  go_enter Try.func67, Try.ntmps67
  go_wp2_with fail
  refine (unhide hHO).mono ?_
  rintro e w0 ⟨rfl, hb0⟩
  obtain ⟨hB0, hk0, b0, b1, b2⟩ := box_keep hb0
  clear hb0 hHO
  go_wp2_with fail
  refine (laidBareS_ok R hR A c B _ (hr.below (hB0.mono hB)) (Nat.le_trans hB hB0.size)).mono ?_
  rintro e w1 ⟨g, rfl, hown, hb1⟩
  have hP1 : PG w w1 R A c g R.C.length (List.replicate R.C.length 0) := ⟨hB0.trans (hb1.mono hB0.size), hk0.below hb1 hk0.lt, by simpa using own_mono hown hk0.lt⟩
  clear hb1 hk0 hB0 hown b0 b1 b2
  go_wp2_with fail
  go_loopg [7] R.cn (fun r s7 wr => ∃ (q : Nat), q + r = R.cn ∧ s7 = .int .i64 (q : Nat) ∧ PG w wr R A c g R.C.length (byTo R L (sidesTo R q).length))
  case atStart => exact ⟨0, by omega, rfl, by simpa [sidesTo, byTo] using hP1⟩
  case round =>
    clear hP1
    obtain ⟨q, hq, rfl, hP⟩ := hrel
    have HQ := Lib.hid hq
    clear hq
    by_cases hlt2 : q < R.cn
    · obtain ⟨x, y, hx, hy, rfl⟩ : ∃ x y : Nat, x ≤ R.W ∧ y ≤ R.T ∧ q = R.ci x y := ⟨_, _, (ci_in hlt2).1, (ci_in hlt2).2, (ci_of R q).symm⟩
      go_wp2_with fail
      obtain ⟨gk1, rfl⟩ : ∃ gk1 : Nat, gk1 = gk := ⟨_, rfl⟩
      obtain ⟨wo1, rfl⟩ : ∃ wo1 : World, wo1 = wr := ⟨_, rfl⟩
      go_loopg [8] 2 (fun r s8 wr => ∃ (t : Nat), t + r = 2 ∧ s8 = .int .i64 (t : Nat) ∧ PG w wr R A c g R.C.length (byTo R L (kN R x y t)))
      case atStart => exact ⟨0, by omega, rfl, by rw [kN_zero]; exact hP⟩
      case round =>
        clear hP
        obtain ⟨t, ht, rfl, hP⟩ := hrel
        have HT := Lib.hid ht
        clear ht
        by_cases htl : t ≤ 1
        · obtain ⟨nb, hnb⟩ : ∃ nb, ((t : Int) == 1) = nb := ⟨_, rfl⟩
          have htl2 : decide ((t : Int) < 2) = true := decide_eq_true (by omega)
          obtain ⟨b0, b1, b2⟩ := hP.rcells
          have HE := fun w' (h : Below w.heap.size w w') => hide (edge_any R hR A c B x y t nb htl hnb hx hy w' (hr.below (h.mono hB)) (Nat.le_trans hB h.size))
          have hkn := kN_next R y hx htl
          rw [← kN_le R x y htl] at hkn
          cases hu : usedOf R x y t with
          | false =>
            rw [hu] at hkn
            simp only [Bool.false_eq_true, if_false, Nat.add_zero] at hkn
            have HKN := Lib.hid hkn
            simp only [hu] at HE
            clear hu hkn
            go_wp2_with fail
            refine (unhide (HE _ hP.bel)).mono ?_
            rintro e w5 ⟨rfl, hb5⟩
            go_wp2_with fail
            go_quiet (fail)
            go_wp2_with fail
            go_roundg (2 - (t + 1))
            case measure => have := HT.out; omega
            case rel => exact ⟨t + 1, by have := HT.out; omega, by go_num, by rw [HKN.out]; exact hP.below (hb5.trans (below_drewN (Below.refl _ _) _))⟩
          | true =>
            have hkat := sdOf_at hx hy htl hu
            rw [hu] at hkn
            simp only [if_true] at hkn
            have hff := sdOf_f R x y t
            rw [← kN_le R x y htl] at hkat
            simp only [hu] at HE
            generalize sdOf R x y t = s at *
            obtain ⟨f, tt, hst⟩ := side_at hR (List.mem_of_getElem? hkat)
            have hfe := hst.fe
            rw [hff] at hfe
            obtain rfl : f = R.ci x y := by omega
            have hte := hst.te
            simp only [hte] at HE
            have hinn : (R.at s.lx s.ly && R.at s.rx s.ry) = R.inn s := rfl
            rw [hinn] at HE
            have hkl : kN R x y t < (sidesOf R).length := (List.getElem?_eq_some_iff.1 hkat).1
            have r1 := HHK.out.rng _ hst.fl ⟨_, s, hkl, hkat, .inl hst.fe⟩
            have r2 := HHK.out.rng _ hst.tl ⟨_, s, hkl, hkat, .inr hst.te⟩
            have HUP : Hid (ByUp R L s ↔ (R.inn s = true ∧ (L.getD tt 0 - L.getD (R.ci x y) 0 = 3 ∨ L.getD tt 0 - L.getD (R.ci x y) 0 = -3))) := Lib.hid (by unfold ByUp; rw [hst.fe, hst.te, ← sdD_in r1 r2]; rfl)
            have HTS : Hid (byTo R L (kN R x y (t + 1)) = byS R L (byTo R L (kN R x y t)) s) := Lib.hid (by rw [hkn]; exact byTo_succ hkat)
            have hfl := hst.fl
            have htl3 := hst.tl
            have hIX : R.inn s = true → ∃ a b : Nat, ixOf R s.lx s.ly = (a : Nat) ∧ ixOf R s.rx s.ry = (b : Nat) ∧ s.ly * R.W + s.lx = (a : Nat) ∧ s.ry * R.W + s.rx = (b : Nat) ∧ a < R.C.length ∧ b < R.C.length := ixOf_in hR
            have HIX := Lib.hid hIX
            clear hinn hkn hkat hff hfe hte hu hst hkl hIX
            generalize decide (sg s.lx s.ly = 1) = dk at *
            generalize ixOf R s.lx s.ly = ia at *
            generalize ixOf R s.rx s.ry = ib at *
            have hOl := byTo_len R L (kN R x y t)
            have HOL := Lib.hid hOl
            clear hOl
            cases hin : R.inn s with
            | false =>
              have hno : ¬ ByUp R L s := fun h => by rw [(HUP.out.1 h).1] at hin; cases hin
              have HNO := Lib.hid (byS_no (L := byTo R L (kN R x y t)) hno)
              simp only [hin] at HE
              clear hno hin HIX HUP r1 r2
              go_wp2_with fail
              refine (unhide (HE _ hP.bel)).mono ?_
              rintro e w5 ⟨rfl, hb5⟩
              go_wp2_with fail
              go_quiet (fail)
              go_wp2_with fail
              go_roundg (2 - (t + 1))
              case measure => have := HT.out; omega
              case rel => exact ⟨t + 1, by have := HT.out; omega, by go_num, by rw [HTS.out, HNO.out]; exact hP.below (hb5.trans (below_drewN (Below.refl _ _) _))⟩
            | true =>
              obtain ⟨a, b, rfl, rfl, e1, e2, ha, hb⟩ := HIX.out hin
              simp only [hin] at HE
              have U := Lib.hid (IntWalk.i64_in (L.getD tt 0 - L.getD (R.ci x y) 0) (by omega))
              by_cases h3 : L.getD tt 0 - L.getD (R.ci x y) 0 = 3 ∨ L.getD tt 0 - L.getD (R.ci x y) 0 = -3
              · have hup := HUP.out.2 ⟨hin, h3⟩
                have hY : byS R L (byTo R L (kN R x y t)) s = byWays R a b (byTo R L (kN R x y t)) 4 := by rw [byS_yes hup, e1, e2]; rfl
                have HY := Lib.hid hY
                have H3 := Lib.hid h3
                clear hup hY h3 hin e1 e2 HIX HUP r1 r2
                go_wp2_with fail
                refine (unhide (HE _ hP.bel)).mono ?_
                rintro e w5 ⟨rfl, hb5⟩
                have hP5 := hP.below hb5
                clear hP hb5 HE b0 b1 b2
                have hd7 := hd.below (hP5.bel.mono hB)
                obtain ⟨ad1, e1, _, d0⟩ := hd7.getI hfl
                obtain ⟨ad2, e2, _, d1⟩ := hd7.getI htl3
                obtain rfl : ad = ad1 := by injection e1
                obtain rfl : ad = ad2 := by injection e2
                clear e1 e2 hd7
                generalize L.getD (R.ci x y) 0 = vf at *
                generalize L.getD tt 0 = vt at *
                have u := U.out
                have HW := Lib.hid hd
                have HH3 : Hid ((vt - vf == 3) = true ∨ ((vt - vf == 3) = false ∧ (vt - vf == -3) = true)) := Lib.hid (by
                  rcases H3.out with h | h
                  · exact .inl (by rw [h]; rfl)
                  · exact .inr ⟨by rw [h]; rfl, by rw [h]; rfl⟩)
                go_wp2_with fail
                have h3 := HH3.out
                rcases h3 with q1 | ⟨q1, q2⟩
                all_goals
                  go_quiet (fail)
                  clear u q1 HW HH3 H3 d0 d1 U
                  have hP6 := hP5.below (below_drewN (Below.refl _ _) nq)
                  clear hP5
                  generalize w5.drewN nq = w10 at *
                  go_wp2_with fail
                  obtain ⟨wo, rfl⟩ : ∃ wo : World, wo = wr := ⟨_, rfl⟩
                  obtain ⟨gk0, rfl⟩ : ∃ gk0 : Nat, gk0 = gk := ⟨_, rfl⟩
                  go_loopg [15] 4 (fun r s15 wr => ∃ j : Nat, j + r = 4 ∧ s15 = .int .i64 ((j : Int) + 1) ∧ PG w wr R A c g R.C.length (byWays R a b (byTo R L (kN R x y t)) j))
                  case atStart => exact ⟨0, by omega, rfl, hP6⟩
                  case round =>
                    clear hP6
                    obtain ⟨j, hj, rfl, hW⟩ := hrel
                    have HJ := Lib.hid hj
                    clear hj
                    by_cases hj4 : j < 4
                    · have hle : decide ((j : Int) + 1 ≤ 4) = true := decide_eq_true (by omega)
                      have HST2 := fun w' => hide (stepS_any R hR A R.C.length c a ha ((j : Int) + 1) w')
                      have HBK := fun w' => hide (backS_any ((j : Int) + 1) (by omega) w')
                      have HBW : Hid (byWays R a b (byTo R L (kN R x y t)) (j + 1) = if R.step a ((j : Int) + 1) = (b : Int) then ((byWays R a b (byTo R L (kN R x y t)) j).set a ((j : Int) + 1)).set b (back ((j : Int) + 1)) else byWays R a b (byTo R L (kN R x y t)) j) := Lib.hid (by simp only [byWays, bySet, Int.natCast_add, Int.natCast_one])
                      have hOl : (byWays R a b (byTo R L (kN R x y t)) j).length = R.C.length := by rw [byWays_len]; exact HOL.out
                      have HOL2 := Lib.hid hOl
                      clear hOl
                      generalize byWays R a b (byTo R L (kN R x y t)) j = O at *
                      generalize R.step a ((j : Int) + 1) = st at *
                      obtain ⟨b0, b1, b2⟩ := hW.rcells
                      go_wp2_with fail
                      refine (unhide (HST2 _)).mono ?_
                      rintro e w11 ⟨rfl, hb11⟩
                      have hW11 := hW.below hb11
                      clear b0 b1 b2
                      by_cases hst2 : st = (b : Int)
                      · have q3 : (st == (b : Int)) = true := by simpa using hst2
                        have hBW := HBW.out
                        rw [if_pos hst2] at hBW
                        have HBW2 := Lib.hid hBW
                        have oa := hW11.ocell (j := a) (by rw [HOL2.out]; exact ha)
                        have oaf := hW11.own.frozenAt a
                        have hW12 := hW11.set a ((j : Int) + 1)
                        have ob := hW12.ocell (j := b) (by rw [List.length_set, HOL2.out]; exact hb)
                        have obf := hW12.own.frozenAt b
                        have hW13 := hW12.set b (back ((j : Int) + 1))
                        clear hBW
                        generalize back ((j : Int) + 1) = bk at *
                        clear hst2
                        go_wp2_with (go_at_call 112; refine (unhide (HBK _)).mono ?_; rintro e w' ⟨rfl, rfl⟩)
                        go_roundg (4 - (j + 1))
                        case measure => have := HJ.out; omega
                        case rel => exact ⟨j + 1, by have := HJ.out; omega, by go_num, by rw [HBW2.out]; exact hW13⟩
                      · have q3 : (st == (b : Int)) = false := by simpa using hst2
                        have hBW := HBW.out
                        rw [if_neg hst2] at hBW
                        have HBW2 := Lib.hid hBW
                        clear hBW hst2
                        go_wp2_with fail
                        go_roundg (4 - (j + 1))
                        case measure => have := HJ.out; omega
                        case rel => exact ⟨j + 1, by have := HJ.out; omega, by go_num, by rw [HBW2.out]; exact hW11⟩
                    · obtain rfl : j = 4 := by have := HJ.out; omega
                      go_wp2_with fail
                      go_roundg (2 - (t + 1))
                      case measure => have := HT.out; omega
                      case rel => exact ⟨t + 1, by have := HT.out; omega, by go_num, by rw [HTS.out, HY.out]; exact hW⟩
              · have hno : ¬ ByUp R L s := fun h => h3 (HUP.out.1 h).2
                have HNO := Lib.hid (byS_no (L := byTo R L (kN R x y t)) hno)
                have q1 : (L.getD tt 0 - L.getD (R.ci x y) 0 == 3) = false := by simp only [beq_eq_false_iff_ne]; exact fun h => h3 (.inl h)
                have q2 : (L.getD tt 0 - L.getD (R.ci x y) 0 == -3) = false := by simp only [beq_eq_false_iff_ne]; exact fun h => h3 (.inr h)
                clear hno hin e1 e2 HIX HUP r1 r2 h3
                go_wp2_with fail
                refine (unhide (HE _ hP.bel)).mono ?_
                rintro e w5 ⟨rfl, hb5⟩
                have hP5 := hP.below hb5
                clear hP hb5 HE b0 b1 b2
                have hd7 := hd.below (hP5.bel.mono hB)
                obtain ⟨ad1, e1, _, d0⟩ := hd7.getI hfl
                obtain ⟨ad2, e2, _, d1⟩ := hd7.getI htl3
                obtain rfl : ad = ad1 := by injection e1
                obtain rfl : ad = ad2 := by injection e2
                clear e1 e2 hd7
                generalize L.getD (R.ci x y) 0 = vf at *
                generalize L.getD tt 0 = vt at *
                have u := U.out
                go_wp2_with fail
                go_quiet (fail)
                clear u
                go_wp2_with fail
                go_roundg (2 - (t + 1))
                case measure => have := HT.out; omega
                case rel => exact ⟨t + 1, by have := HT.out; omega, by go_num, by rw [HTS.out, HNO.out]; exact hP5.below (below_drewN (Below.refl _ _) _)⟩
        · obtain rfl : t = 2 := by have := HT.out; omega
          go_wp2_with fail
          go_roundg (R.cn - (R.ci x y + 1))
          case measure => have := HQ.out; omega
          case rel => exact ⟨R.ci x y + 1, by have := HQ.out; omega, by go_num, by rw [← kN_two]; exact hP⟩
    · obtain rfl : q = R.cn := by have := HQ.out; omega
      have hl := byTo_len R L (sidesOf R).length
      go_wp2_with fail
      go_ret2
      refine ⟨some ⟨g, 0, none⟩, R.C.length, R.C.length, by rw [hl]; rfl, ?_, hP.bel⟩
      exact own_mono hP.own (by omega)

noncomputable def byV (W T : Int) (bs : List Bool) (hs : List Int) : List Int := if hokB W T bs hs = true then byTo ⟨W.toNat, T.toNat, bs⟩ hs (sidesOf ⟨W.toNat, T.toNat, bs⟩).length else []
theorem byV_no {W T : Int} {bs : List Bool} {hs : List Int} (h : hokB W T bs hs = false) : byV W T bs hs = [] := by unfold byV; rw [h]; rfl
theorem byV_yes {R : Reg} {hs : List Int} (h : hokB R.W R.T R.C hs = true) : byV R.W R.T R.C hs = byTo R hs (sidesOf R).length := by unfold byV; rw [if_pos h]; rfl
theorem byV_len {W T : Int} {bs : List Bool} {hs : List Int} : (byV W T bs hs).length ≤ 36 := by
  cases h : hokB W T bs hs with
  | false => rw [byV_no h]; simp
  | true =>
    obtain ⟨R, hR, _, rfl, rfl, rfl, _⟩ := hokB_iff.1 h
    rw [byV_yes h, byTo_len]
    exact (len_bd hR).2

theorem tilingByS_any (W T : Int) (A : Option Addr) (n c B : Nat) (bs : List Bool) (L : List Int) (D : Option Addr) (m d : Nat) (w : World) (hbl : bs.length = n) (hL : L.length = m)
    (hr : Reads w B 1 A n (bs.map Value.bool)) (hd : Reads w B 1 D m (L.map (Value.int .i64))) (hB : B ≤ w.heap.size) (hn : n ≤ 9223372036854775807) (hm : m ≤ 9223372036854775807) :
    Calls Try.prog 67 #[.agg #[.int .i64 W, .int .i64 T, .slice A n c], .slice D m d] w (RetIB w (byV W T bs L) (hokB W T bs L)) := by
  have hHI := hide (hokS_any W T A n c B bs L D m d (w.alloc (boxR W T A n c)) hbl hL (hr.alloc hB _) (hd.alloc hB _) (by simp; omega) hn hm)
  cases hs : hokB W T bs L with
  | false =>
    rw [hs] at hHI
    rw [byV_no hs]
    clear hs
    go_enter Try.func67, Try.ntmps67
    go_wp2_with fail
    refine (unhide hHI).mono ?_
    rintro e w0 ⟨rfl, hb0⟩
    obtain ⟨hB0, hk0, b0, b1, b2⟩ := box_keep hb0
    go_wp2_with fail
    go_ret2
    have ho := World.ownsRow_made (base := w.heap.size) (e := 3) (size := 1) w0 #[] 0 hB0.size (by simp [maxLen]) (by simp)
    exact ⟨_, 0, 0, rfl, by simpa using ho, hB0.alloc hB0.size _⟩
  | true =>
    obtain ⟨R, hR, hS, rfl, rfl, rfl, hk⟩ := hokB_iff.1 hs
    subst hbl
    rw [byV_yes hs]
    obtain rfl : m = R.cn := by rw [← hL]; exact hk.len
    have hcn := cn_bd hR
    obtain ⟨ad, rfl, _⟩ := hd.getI (k := 0) (by omega)
    exact tilingByS_ok R hR hS A c B L ad d hk w hr hd hB

end Go.Proofs.Ythepfpiphlfgnaa
