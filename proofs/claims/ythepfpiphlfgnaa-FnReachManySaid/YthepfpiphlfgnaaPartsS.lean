/-
  YthepfpiphlfgnaaPartsS: PartsOf and PartsMany of the reference.
-/
import Derived.Test.YthepfpiphlfgnaaSpec
namespace Go.Proofs.Ythepfpiphlfgnaa
open Go.RowKit

/-- A call with a boxed region and one row of numbers of its own, at the head of block g. -/
structure PG (w wr : World) (R : Reg) (A : Option Addr) (c g k : Nat) (L : List Int) : Prop where
  bel : Below w.heap.size w wr
  box : Blk wr w.heap.size 25 #[.int .i64 R.W, .int .i64 R.T, .slice A R.C.length c]
  own : wr.ownsRow (w.heap.size + 1) 3 1 (.slice (some ⟨g, 0, none⟩) L.length k) L.length (L.map (Value.int .i64))

theorem PG.lt {w wr : World} {R : Reg} {A : Option Addr} {c g k : Nat} {L : List Int} (h : PG w wr R A c g k L) : w.heap.size < g ∧ g < wr.heap.size := by
  have := h.own.lt g rfl; exact ⟨by omega, this.2⟩
theorem PG.below {w wr w2 : World} {R : Reg} {A : Option Addr} {c g k : Nat} {L : List Int} (h : PG w wr R A c g k L) (hb : Below wr.heap.size wr w2) : PG w w2 R A c g k L :=
  ⟨h.bel.trans (hb.mono h.bel.size), h.box.below hb h.box.lt, own_below h.own hb (Nat.le_refl _)⟩
theorem PG.cell {w wr : World} {R : Reg} {A : Option Addr} {c g k : Nat} {L : List Int} (h : PG w wr R A c g k L) {j : Nat} {m : Int} (hj : L[j]? = some m) : wr.cell? ⟨g, j, none⟩ = some (.int .i64 m) := by
  have hl : j < L.length := (List.getElem?_eq_some_iff.1 hj).1
  rw [h.own.cellAt j (by omega), List.getElem?_map, hj]
  rfl
theorem PG.free {w wr : World} {R : Reg} {A : Option Addr} {c g k : Nat} {L : List Int} (h : PG w wr R A c g k L) (j : Nat) : wr.frozen? ⟨g, j, none⟩ = false := h.own.frozenAt j
theorem PG.set {w wr : World} {R : Reg} {A : Option Addr} {c g k : Nat} {L : List Int} (h : PG w wr R A c g k L) (j : Nat) (x : Int) : PG w (wr.setCell ⟨g, j, none⟩ (.int .i64 x)) R A c g k (L.set j x) := by
  have hlt := h.lt
  refine ⟨h.bel.setCell (by simp; omega) _, h.box.far (p := ⟨g, j, none⟩) (by simp; omega) _, ?_⟩
  have := (h.own.stored j (.int .i64 x)).1
  rw [← List.map_set] at this
  rwa [List.length_set]
theorem PG.drew {w wr : World} {R : Reg} {A : Option Addr} {c g k : Nat} {L : List Int} (h : PG w wr R A c g k L) : PG w wr.drew R A c g k L := ⟨h.bel.drew, h.box, h.own⟩
/-- Behind an append of one number. -/
theorem PG.app {w wr w2 : World} {R : Reg} {A : Option Addr} {c g k g' k' : Nat} {L : List Int} {x : Int} {o : Obj} (h : PG w wr R A c g k L)
    (ho : w2.ownsRow (w.heap.size + 1) 3 1 (.slice (some ⟨g', 0, none⟩) (L.length + 1) k') (L.length + 1) (L.map (Value.int .i64) ++ [.int .i64 x])) (hg : (wr.alloc o).grownBy w2 (Value.slice (some ⟨g, 0, none⟩) L.length k).ownBlock) : PG w w2 R A c g' k' (L ++ [x]) := by
  have hlt := h.lt
  refine ⟨(h.bel.alloc h.bel.size o).grown hg (by have := h.bel.size; simp; omega) (fun j hj => by simp [Value.ownBlock] at hj; omega), (h.box.alloc o).grown hg (by simp [Value.ownBlock]; omega), ?_⟩
  rw [List.length_append, List.length_singleton, List.map_append]
  exact ho

/-- What the test at a cell's west side tells. -/
def West (R : Reg) (L : List Int) (j : Nat) (t : Bool) : Prop :=
  (t = true → ∃ (e : Nat) (a b : Int), e + 1 = j ∧ 0 < j % R.W ∧ L[j]? = some a ∧ L[e]? = some b ∧ 0 ≤ a ∧ 0 ≤ b) ∧ (t = false → ∀ b', b' + 1 = j → 0 < j % R.W → R.cell j → R.cell b' → False)
def South (R : Reg) (L : List Int) (j : Nat) (t : Bool) : Prop :=
  (t = true → ∃ (e : Nat) (a b : Int), e + R.W = j ∧ L[j]? = some a ∧ L[e]? = some b ∧ 0 ≤ a ∧ 0 ≤ b) ∧ (t = false → ∀ b', b' + R.W = j → R.cell j → R.cell b' → False)

set_option maxRecDepth 100000 in
set_option maxHeartbeats 1000000 in
theorem partsS_ok (R : Reg) (hR : R.ok) (A : Option Addr) (c B : Nat) (w : World) (hr : Reads w B 1 A R.C.length (R.C.map Value.bool)) (hB : B ≤ w.heap.size) :
    Calls Try.prog 185 #[.agg #[.int .i64 R.W, .int .i64 R.T, .slice A R.C.length c]] w (PartsRet w R) := by
  have hl := len_bd hR
  obtain ⟨hl1, hl2⟩ := hl
  have hv := Lib.hid (valid_of_ok hR)
  go_enter Try.func185, Try.ntmps185
  go_wp2_with fail
  refine (validS_any _ _ A _ c B R.C _ ((hr.alloc hB _).alloc (by simp; omega) _) (by simp; omega) (by omega)).mono ?_
  rintro e w1 ⟨rfl, hb⟩
  rw [hv.out]
  have h0 : PG w w1 R A c (w.heap.size + 1) 0 [] := by
    have h00 : PG w ((w.alloc (.cells #[.int .i64 R.W, .int .i64 R.T, .slice A R.C.length c] 25)).alloc (.cells #[] 3)) R A c (w.heap.size + 1) 0 [] := by
      refine ⟨((Below.refl _ _).alloc (Nat.le_refl _) _).alloc (by simp) _, (Blk.new _ _ _).alloc _, ?_⟩
      have := World.ownsRow_made (base := w.heap.size + 1) (e := 3) (size := 1) (w.alloc (.cells #[.int .i64 R.W, .int .i64 R.T, .slice A R.C.length c] 25)) #[] 0 (by simp) (by simp [maxLen]) (by simp)
      simpa using this
    exact h00.below hb
  clear hb
  go_wp2_with fail
  go_loopw [3, 4] (fun v i wr => ∃ g cc L, L.length ≤ R.C.length ∧ i = .int .i64 (L.length : Nat) ∧ v = .slice (some ⟨g, 0, none⟩) L.length cc ∧ PG w wr R A c g cc L ∧ ∀ j : Nat, j < L.length → L[j]? = some (if R.C[j]? = some true then (j : Int) else -1))
    (fun _ i _ => R.C.length - (intOf i).toNat)
  case atStart => exact ⟨_, _, [], Nat.zero_le _, rfl, rfl, h0, fun j hj => by simp at hj⟩
  case round =>
    clear h0
    obtain ⟨g, cc, L, hk, rfl, rfl, hP, hL⟩ := hrel
    have b2 := hP.box.cell 2
    simp at b2
    have hL' := Lib.hid hL
    clear hL
    by_cases hlt : L.length < R.C.length
    · obtain ⟨k, hkd⟩ : ∃ k, k = L.length := ⟨_, rfl⟩
      have hKD := Lib.hid hkd
      clear hkd
      go_wp2_with (at_builtin; refine wpList_app rfl _ _ _ rfl (w.heap.size + 1) 3 _ 8 Try.underlying26 info_int rfl (by omega) _ _ _ rfl (hP.own.alloc _) wr.heap.size (.int .i64 (-1)) rfl ?c1 rfl (by omega) ?c2 ?_)
      case c1 => simp
      case c2 => have := hP.bel.size; have := hP.lt; simp; omega
      rintro g' c' w2 hown hgr hcase hbase hcap
      have hP2 := hP.app hown hgr
      clear hown hgr hcase hbase hcap hP b2
      have b2 := hP2.box.cell 2
      simp at b2
      obtain ⟨ad, b, rfl, hab, hbk, hcell⟩ := reg_cell (hr.below (hP2.bel.mono hB)) hlt
      have hbk' := Lib.hid hbk
      clear hbk
      have hlast := hP2.cell (j := L.length) (m := -1) (by simp)
      have hfree := hP2.free L.length
      cases b with
      | true =>
        go_wp2
        go_roundw
        case rel =>
          refine ⟨g', c', (L ++ [-1]).set L.length (L.length : Nat), by simp; omega, by simp, by simp, hP2.set L.length (L.length : Nat), fun j hj => ?_⟩
          rw [List.length_set, List.length_append, List.length_singleton] at hj
          rw [List.getElem?_set]
          by_cases hjk : L.length = j
          · subst hjk
            rw [if_pos rfl, if_pos (by simp), if_pos (by rw [hbk'.out])]
          · rw [if_neg hjk, List.getElem?_append_left (by omega)]
            exact hL'.out j (by omega)
        case measure => simp [intOf]; omega
      | false =>
        go_wp2
        go_roundw
        case rel =>
          refine ⟨g', c', L ++ [-1], by simp; omega, by simp, by simp, hP2, fun j hj => ?_⟩
          rw [List.length_append, List.length_singleton] at hj
          by_cases hjk : L.length = j
          · subst hjk
            rw [if_neg (by rw [hbk'.out]; simp)]
            simp
          · rw [List.getElem?_append_left (by omega)]
            exact hL'.out j (by omega)
        case measure => simp [intOf]; omega
    · have e : L.length = R.C.length := by omega
      have hP0 := parts_first e (fun j hj => hL'.out j (by omega))
      rw [e]
      have h0 := hP
      have H0 := Lib.hid hP0
      have HE := Lib.hid e
      clear hP0 hP hL' e hlt hk
      go_wp2_with fail
      clear b2
      obtain ⟨wo, rfl⟩ : ∃ wo : World, wo = wr := ⟨_, rfl⟩
      go_loopg [5] R.C.length (fun r i wr => ∃ K L, K + r = R.C.length ∧ i = .int .i64 (K : Nat) ∧ L.length = R.C.length ∧ PG w wr R A c g cc L ∧ Parts R K L)
      case atStart => exact ⟨0, _, by omega, rfl, HE.out, h0, H0.out⟩
      case round =>
        clear h0 H0 HE
        obtain ⟨K, L, hK, rfl, hlen, hP, hL⟩ := hrel
        have HL := Lib.hid hL
        have HE := Lib.hid hlen
        have HK := Lib.hid hK
        clear hL hlen
        by_cases hKlt : K < R.C.length
        · clear hK
          go_wp2_with fail
          have hs := Lib.hid (smid_start HL.out)
          have h1 := hP
          clear hP
          obtain ⟨wo2, rfl⟩ : ∃ wo : World, wo = wr := ⟨_, rfl⟩
          obtain ⟨gk0, rfl⟩ : ∃ gk0 : Nat, gk0 = gk := ⟨_, rfl⟩
          go_loopg [6] R.C.length (fun r i wr => ∃ j L, j + r = R.C.length ∧ i = .int .i64 (j : Nat) ∧ L.length = R.C.length ∧ PG w wr R A c g cc L ∧ SMid R K j 0 L)
          case atStart => exact ⟨0, _, by omega, rfl, HE.out, h1, hs.out⟩
          case round =>
            clear h1 hs HL HE
            obtain ⟨j, L, hj, rfl, hlen, hP, hL⟩ := hrel
            have HL := Lib.hid hL
            have HE := Lib.hid hlen
            have HJ := Lib.hid hj
            clear hL hlen
            by_cases hjlt : j < R.C.length
            · clear hj
              obtain ⟨a, ha⟩ : ∃ x, L[j]? = some x := ⟨_, List.getElem?_eq_getElem (by rw [HE.out]; omega)⟩
              have HA := Lib.hid ha
              clear ha
              have c0 := hP.box.cell 0
              simp at c0
              have hca := hP.cell HA.out
              have hWn : ((R.W : Int) == 0) = false := by have := hR.1; simp; omega
              have hW1 := hR.1
              have hW6 := hR.2.1
              go_upto_region 16 with fail
              go_cut [62] (fun s wx => ∃ t, s = .bool t ∧ wx = wr ∧ Hid (West R L j t))
              case first =>
                by_cases ha0 : 0 ≤ a
                · by_cases hm : 0 < j % R.W
                  · have hmi : 0 < (j : Int) % (R.W : Int) := by
                      have : (j : Int) % (R.W : Int) = ((j % R.W : Nat) : Int) := by simp
                      omega
                    have hj1 : 1 ≤ j := by
                      rcases Nat.eq_zero_or_pos j with h | h
                      · subst h; simp at hm
                      · exact h
                    obtain ⟨b, hb⟩ : ∃ x, L[j - 1]? = some x := ⟨_, List.getElem?_eq_getElem (by rw [HE.out]; omega)⟩
                    have HB := Lib.hid hb
                    clear hb
                    have hcb := hP.cell HB.out
                    by_cases hb0 : 0 ≤ b
                    · go_wp2
                      go_meet
                      exact ⟨true, rfl, rfl, ⟨fun _ => ⟨j - 1, a, b, by omega, hm, HA.out, HB.out, ha0, hb0⟩, (fun h => Bool.noConfusion h)⟩⟩
                    · have hno : ∀ b', b' + 1 = j → 0 < j % R.W → R.cell j → R.cell b' → False := fun b' h1 _ _ h4 => by
                        obtain rfl : b' = j - 1 := by omega
                        have := pbase_nonneg HL.out.base HB.out h4
                        omega
                      have HN := Lib.hid hno
                      clear hno
                      go_wp2
                      go_meet
                      exact ⟨false, rfl, rfl, ⟨(fun h => Bool.noConfusion h), fun _ => HN.out⟩⟩
                  · have hmi : (j : Int) % (R.W : Int) ≤ 0 := by
                      have : (j : Int) % (R.W : Int) = ((j % R.W : Nat) : Int) := by simp
                      omega
                    have HN := Lib.hid hm
                    clear hm
                    go_wp2
                    go_meet
                    exact ⟨false, rfl, rfl, ⟨(fun h => Bool.noConfusion h), fun _ b' _ h2 _ _ => HN.out h2⟩⟩
                · have hno : ¬ R.cell j := fun h4 => ha0 (pbase_nonneg HL.out.base HA.out h4)
                  have HN := Lib.hid hno
                  clear hno
                  go_wp2
                  go_meet
                  exact ⟨false, rfl, rfl, ⟨(fun h => Bool.noConfusion h), fun _ b' _ _ h3 _ => HN.out h3⟩⟩
              case rest =>
                obtain ⟨t, rfl, rfl, HT⟩ := hcut
                clear HA hca c0
                go_upto_if 62 with fail
                go_cut [] (fun wx => ∃ L', L'.length = R.C.length ∧ PG w wx R A c g cc L' ∧ Hid (SMid R K j 1 L'))
                case first =>
                  cases t with
                  | false =>
                    go_wp2
                    go_meet
                    exact ⟨L, HE.out, hP, smid_skip1 HL.out (HT.out.2 rfl)⟩
                  | true =>
                    obtain ⟨e, a, b, h1, h2, h3, h4, h5, h6⟩ := HT.out.1 rfl
                    subst h1
                    have ca := hP.cell h3
                    have cb := hP.cell h4
                    have fa := hP.free (e + 1)
                    have fe := hP.free e
                    have H3 := Lib.hid h3
                    have H4 := Lib.hid h4
                    clear h3 h4
                    go_wp2
                    go_region
                    all_goals go_wp2
                    all_goals go_meet
                    all_goals
                      have hS := smid_set1 hR HL.out rfl h2 H3.out H4.out h5 h6
                      first
                      | (rw [Int.min_eq_right (by omega)] at hS; exact ⟨_, by simp [HE.out], ((hP.set (e + 1) b).set e b).drew, hS⟩)
                      | (rw [Int.min_eq_left (by omega)] at hS; exact ⟨_, by simp [HE.out], ((hP.set (e + 1) a).set e a).drew, hS⟩)
                case rest =>
                  obtain ⟨L', hlen, hP', HL'⟩ := hcut
                  clear hP HL HT HE
                  have HE := Lib.hid hlen
                  clear hlen
                  obtain ⟨a, ha⟩ : ∃ x, L'[j]? = some x := ⟨_, List.getElem?_eq_getElem (by rw [HE.out]; omega)⟩
                  have HA := Lib.hid ha
                  clear ha
                  have c0 := hP'.box.cell 0
                  simp at c0
                  have hca := hP'.cell HA.out
                  go_upto_region 19 with fail
                  go_cut [104] (fun s wx => ∃ t, s = .bool t ∧ wx = wc ∧ Hid (South R L' j t))
                  case first =>
                    by_cases ha0 : 0 ≤ a
                    · by_cases hm : R.W ≤ j
                      · have hmi : (R.W : Int) ≤ (j : Int) := by omega
                        obtain ⟨b, hb⟩ : ∃ x, L'[j - R.W]? = some x := ⟨_, List.getElem?_eq_getElem (by rw [HE.out]; omega)⟩
                        have HB := Lib.hid hb
                        clear hb
                        have hcb := hP'.cell HB.out
                        by_cases hb0 : 0 ≤ b
                        · go_wp2
                          go_meet
                          exact ⟨true, rfl, rfl, ⟨fun _ => ⟨j - R.W, a, b, by omega, HA.out, HB.out, ha0, hb0⟩, (fun h => Bool.noConfusion h)⟩⟩
                        · have hno : ∀ b', b' + R.W = j → R.cell j → R.cell b' → False := fun b' h1 _ h4 => by
                            obtain rfl : b' = j - R.W := by omega
                            have := pbase_nonneg HL'.out.base HB.out h4
                            omega
                          have HN := Lib.hid hno
                          clear hno
                          go_wp2
                          go_meet
                          exact ⟨false, rfl, rfl, ⟨(fun h => Bool.noConfusion h), fun _ => HN.out⟩⟩
                      · have hmi : (j : Int) < (R.W : Int) := by omega
                        go_wp2
                        go_meet
                        exact ⟨false, rfl, rfl, ⟨(fun h => Bool.noConfusion h), fun _ b' h1 _ _ => by omega⟩⟩
                    · have hno : ¬ R.cell j := fun h4 => ha0 (pbase_nonneg HL'.out.base HA.out h4)
                      have HN := Lib.hid hno
                      clear hno
                      go_wp2
                      go_meet
                      exact ⟨false, rfl, rfl, ⟨(fun h => Bool.noConfusion h), fun _ b' _ h3 _ => HN.out h3⟩⟩
                  case rest =>
                    obtain ⟨t, rfl, rfl, HT⟩ := hcut
                    clear HA hca
                    go_upto_if 104 with fail
                    cases t with
                    | false =>
                      go_wp2
                      go_roundg (R.C.length - (j + 1))
                      case measure => have := HJ.out; omega
                      case rel => exact ⟨j + 1, L', by omega, by go_num, HE.out, hP', smid_next (smid_skip2 HL'.out (HT.out.2 rfl))⟩
                    | true =>
                      obtain ⟨e, a, b, h1, h3, h4, h5, h6⟩ := HT.out.1 rfl
                      have h1i : (R.W : Int) ≤ (j : Int) := by omega
                      obtain rfl : e = j - R.W := by omega
                      have ca := hP'.cell h3
                      have cb := hP'.cell h4
                      have fa := hP'.free j
                      have fe := hP'.free (j - R.W)
                      have H3 := Lib.hid h3
                      have H4 := Lib.hid h4
                      have H1 := Lib.hid h1
                      clear h3 h4
                      go_wp2
                      go_region
                      all_goals go_wp2
                      all_goals go_region
                      all_goals go_wp2
                      all_goals
                        have hS := smid_set2 hR HL'.out H1.out H3.out H4.out h5 h6
                        go_roundg (R.C.length - (j + 1))
                        case measure => have := HJ.out; omega
                        case rel =>
                          first
                          | (rw [Int.min_eq_right (by omega)] at hS; exact ⟨j + 1, _, by omega, by go_num, by simp [HE.out], ((hP'.set j b).set (j - R.W) b).drew.drew, smid_next hS⟩)
                          | (rw [Int.min_eq_left (by omega)] at hS; exact ⟨j + 1, _, by omega, by go_num, by simp [HE.out], ((hP'.set j a).set (j - R.W) a).drew.drew, smid_next hS⟩)
            · go_wp2
              go_roundg (R.C.length - (K + 1))
              case measure => have := HK.out; omega
              case rel =>
                obtain rfl : j = R.C.length := by omega
                exact ⟨K + 1, L, by omega, by go_num, HE.out, hP, smid_end HL.out⟩
        · go_wp2
          go_ret
          obtain rfl : K = R.C.length := by omega
          have hown := hP.own
          rw [HE.out] at hown
          exact ⟨_, _, L, rfl, HL.out, own_mono hown (by omega), hP.bel⟩

end Go.Proofs.Ythepfpiphlfgnaa
