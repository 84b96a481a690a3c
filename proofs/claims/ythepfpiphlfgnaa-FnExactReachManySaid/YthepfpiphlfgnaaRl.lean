/-
  YthepfpiphlfgnaaRl: l5Reach of the reference: the ranks that flips reach.
-/
import Derived.Test.YthepfpiphlfgnaaCz
import Derived.Test.YthepfpiphlfgnaaR5
import Derived.Test.YthepfpiphlfgnaaFs
namespace Go.Proofs.Ythepfpiphlfgnaa
open Go.RowKit

/-- As many as the search meets. -/
def ReachRet (R : Reg) (M : List Int) (w : World) (e : Ending) (w' : World) : Prop :=
  ∃ g cc, e = .returned (.slice (some ⟨g, 0, none⟩) (runR (fnR R) M (tilT R).length).length cc) ∧ Below w.heap.size w w'

set_option maxHeartbeats 4000000 in
set_option maxRecDepth 20000 in
theorem l5ReachS_ok (R : Reg) (hR : R.ok) (A : Option Addr) (c B : Nat) (M : List Int) (hM : Tile R M) (w : World) (hr : Reads w B 1 A R.C.length (R.C.map Value.bool)) (hB : B ≤ w.heap.size) :
    Calls Try.prog 106 #[.agg #[.int .i64 R.W, .int .i64 R.T, .slice A R.C.length c], .int .i64 (rkI R M)] w (ReachRet R M w) := by
  have hl36 := (len_bd hR).2
  have hl1 := (len_bd hR).1
  have hnT : (tilT R).length ≤ 262144 := nT_le R
  have hrd : ∀ w', Below w.heap.size w w' → Reads w' w'.heap.size 1 A R.C.length (R.C.map Value.bool) := fun w' h => (hr.below (h.mono hB)).more (Nat.le_trans hB h.size)
  have hTO : ∀ (X : List Int) w', Tile R X → Below w.heap.size w w' → Hid (Calls Try.prog 98 #[.agg #[.int .i64 R.W, .int .i64 R.T, .slice A R.C.length c], .int .i64 (rkI R X)] w' fun e w'' => ∃ v, e = .returned (.tuple #[v, .bool true]) ∧ LiAt w'' w'.heap.size v X ∧ Below w'.heap.size w' w'') := fun X w' hX h => by
    have := tilingOfS_ok R hR A c w'.heap.size (rkV R X) (rkV_at hR hX).2 w' (hrd w' h) (Nat.le_refl _)
    rw [tlV_rkV hR hX] at this
    unfold rkI
    exact hide this
  have hFS : ∀ (X : List Int) (D : Option Addr) (d : Nat) w', Tile R X → Below w.heap.size w w' → Reads w' w'.heap.size 1 D R.C.length (X.map (Value.int .i64)) → Hid (Calls Try.prog 42 #[.agg #[.int .i64 R.W, .int .i64 R.T, .slice A R.C.length c], .slice D R.C.length d] w' (RetInts w' (flL R X fun _ => true))) := fun X D d w' hX h ha =>
    hide (flipsOfS_ok R hR A c w'.heap.size X D d hX.1 w' (hrd w' h) ha (Nat.le_refl _))
  have hFO : ∀ (X : List Int) (D : Option Addr) (d : Nat) (z : Int) w', Tile R X → Below w.heap.size w w' → Reads w' w'.heap.size 1 D R.C.length (X.map (Value.int .i64)) → Hid (Calls Try.prog 163 #[.agg #[.int .i64 R.W, .int .i64 R.T, .slice A R.C.length c], .slice D R.C.length d, .int .i64 z] w' (RetIB w' (flV R X z) (flB R X z))) := fun X D d z w' hX h ha =>
    hide (flipOneS_ok R hR A c w'.heap.size X D d z hX.1 w' (hrd w' h) ha (Nat.le_refl _))
  have hRK : ∀ (X : List Int) (gd d : Nat) w', Tile R X → Below w.heap.size w w' → Reads w' w'.heap.size 1 (some ⟨gd, 0, none⟩) R.C.length (X.map (Value.int .i64)) → Hid (Calls Try.prog 107 #[.agg #[.int .i64 R.W, .int .i64 R.T, .slice A R.C.length c], .slice (some ⟨gd, 0, none⟩) R.C.length d] w' fun e w'' => e = .returned (.int .i64 (rkI R X)) ∧ Below w'.heap.size w' w'') := fun X gd d w' hX h ha =>
    hide (rankOfS_ok R hR A c w'.heap.size X hX gd d w' (hrd w' h) ha (Nat.le_refl _))
  have hA0 := AW.one w R.W R.T A R.C.length c (rkI R M)
  have HM := Lib.hid hM
  clear hr hM
  go_enter Try.func106, Try.ntmps106
  go_wp2_with fail
  go_loopg [5, 6] (tilT R).length (fun r s5 s6 wr => ∃ (i g cc : Nat) (L : List Int), i + r = (tilT R).length ∧ (runR (fnR R) M i).map (rkI R) = L ∧ s6 = .int .i64 (i : Nat) ∧ s5 = .slice (some ⟨g, 0, none⟩) L.length cc ∧ AW w wr R.W R.T A R.C.length c g cc L)
  case atStart => exact ⟨0, _, _, [rkI R M], by omega, rfl, rfl, rfl, hA0⟩
  case round =>
    clear hA0
    obtain ⟨i, g, cc, L, hi, hL, rfl, rfl, hA⟩ := hrel
    have HI := Lib.hid hi
    have HL := Lib.hid hL
    have hLl : L.length = (runR (fnR R) M i).length := by rw [← hL, List.length_map]
    have HLL := Lib.hid hLl
    have hle : L.length ≤ 262144 := by rw [hLl]; exact Nat.le_trans (runR_le hR HM.out i) hnT
    clear hi hL hLl
    obtain ⟨w0, hw0⟩ : ∃ w0, w0 = wr := ⟨_, rfl⟩
    subst hw0
    by_cases hlt : i < L.length
    · obtain ⟨X, hX⟩ := runR_at (R := R) (M := M) (i := i) (by rw [← HLL.out]; exact hlt)
      have hTX : Tile R X := runR_in (P := Tile R) HM.out (fun _ h => fnR_tile hR h) i X (List.mem_of_getElem? hX)
      have hXl := hTX.1.len
      have hxc : w0.cell? ⟨g, i, none⟩ = some (.int .i64 (rkI R X)) := by
        rw [hA.own.cellAt i (by omega), List.getElem?_map, ← HL.out, List.getElem?_map, hX]; rfl
      have hT5 := hTO X w0.drew hTX hA.bel.drew
      have HX := Lib.hid hX
      have HTX := Lib.hid hTX
      obtain ⟨b0, b1, b2⟩ := hA.cells
      have hgl := hA.lt.2
      clear hX hTX
      generalize rkI R X = zx at *
      go_upto_region 5 with fail
      go_region_with
        (first
          | (go_at_call 98; (with_reducible refine (unhide hT5).mono ?_); rintro e w5 ⟨v5, rfl, hl5, hb5⟩))
      all_goals
        have hA5 := (hA.below (Below.refl w0.heap.size w0).drew).below hb5
        have hl5' := hl5.mono (b' := w0.heap.size) (Nat.le_refl _)
        obtain ⟨A5, c5, c5', rfl, _⟩ := id hl5'
        rw [hXl] at hl5' ⊢
        have hF5 := hFS X A5 c5 w5 HTX.out hA5.bel hl5'.reads.2
        have hsz5 : w0.heap.size ≤ w5.heap.size := hb5.size
        clear hA hl5 hb5 hT5 hxc b0 b1 b2
        obtain ⟨b0, b1, b2⟩ := hA5.cells
        go_wp2_with fail
        refine (unhide hF5).mono ?_
        rintro e w6 ⟨A6, c6, c6', rfl, ho6, hb6⟩
        have hA6 := hA5.below hb6
        have hl6 := hl5'.below hb6
        have ho6' := own_mono ho6 hsz5
        have hG6 := GrW.start (b := w0.heap.size) hA6 hgl
        clear hA5 hl5' hb6 ho6 hA6 hF5 b0 b1 b2 hsz5
        obtain ⟨V, hV⟩ : ∃ V, (flL R X fun _ => true) = V := ⟨_, rfl⟩
        have hVl : V.length ≤ 49 := by rw [← hV]; have := flTo_len R X (fun _ => true) R.cn; have := (cn_bd hR).2; show (flTo R X (fun _ => true) R.cn).length ≤ 49; omega
        rw [hV] at ho6' ⊢
        have HV := Lib.hid hV
        clear hV
        go_simp
        go_wp2_with fail
        go_loopg [5, 10] V.length (fun r s5 s10 wq => ∃ (j g cc : Nat) (L : List Int), j + r = V.length ∧ (mdR R M i j).map (rkI R) = L ∧ s10 = .int .i64 (j : Nat) ∧ s5 = .slice (some ⟨g, 0, none⟩) L.length cc ∧ GrW w w6 wq R.W R.T A R.C.length c w0.heap.size g cc L)
        case atStart => exact ⟨0, g, cc, L, by omega, by rw [mdR_zero]; exact HL.out, rfl, rfl, hG6⟩
        case round =>
          clear hG6
          obtain ⟨j, gq, cq, Lq, hj, hLq, rfl, rfl, hG⟩ := hrel
          have HJ := Lib.hid hj
          have HLQ := Lib.hid hLq
          have hil : i < (runR (fnR R) M i).length := (List.getElem?_eq_some_iff.1 HX.out).1
          have hlq : Lq.length ≤ 262144 := by rw [← hLq, List.length_map]; exact Nat.le_trans (mdR_le hR HM.out hil j) hnT
          clear hj hLq
          by_cases hlt2 : j < V.length
          · have hoV := own_keep ho6' hG.kp
            obtain ⟨g6, cg6, hsh6, _, _, _⟩ := own_shape hoV (by omega)
            simp only [Value.slice.injEq, true_and] at hsh6
            obtain ⟨rfl, rfl⟩ := hsh6
            obtain ⟨z, hz⟩ : ∃ z, V[j]? = some z := ⟨_, List.getElem?_eq_getElem hlt2⟩
            have hzc : wr.cell? ⟨g6, j, none⟩ = some (.int .i64 z) := by rw [hoV.cellAt j (by omega), List.getElem?_map, hz]; rfl
            have hlX := hl6.keep hG.kp
            have hFO5 := hFO X A5 c5 z wr.drew HTX.out hG.aw.bel.drew hlX.reads.2
            have hTN : Tile R (flV R X z) := tile_flV hR HTX.out z
            have hNl := hTN.1.len
            have hs1 : (mdR R M i (j + 1)).map (rkI R) = if rkI R (flV R X z) ∈ Lq then Lq else Lq ++ [rkI R (flV R X z)] := by
              rw [mdR_succ HX.out (by rw [HV.out]; exact hz), rkI_add hR (mdR_tile hR HM.out hil j) hTN, HLQ.out]
            have HS1 := Lib.hid hs1
            have HTN := Lib.hid hTN
            have hG' := hG.below (Below.refl wr.heap.size wr).drew
            obtain ⟨b0, b1, b2⟩ := hG.aw.cells
            clear hs1 hTN hoV hlX hz hG hil
            generalize flV R X z = N at *
            generalize flB R X z = fb at *
            go_upto_region 10 with fail
            go_region_with
              (first
                | (go_at_call 163; (with_reducible refine (unhide hFO5).mono ?_); rintro e w7 ⟨A7, c7, c7', he, ho7, hb7⟩; rw [hNl] at he ho7; subst he))
            all_goals
              have hG7 := hG'.below hb7
              obtain ⟨g7, cg7, hsh7, _, _, _⟩ := own_shape ho7 (by omega)
              simp only [Value.slice.injEq, true_and] at hsh7
              obtain ⟨rfl, rfl⟩ := hsh7
              have hRK7 := hRK N g7 c7' w7 HTN.out hG7.aw.bel (Reads.of_own ho7)
              clear hG' hb7 hFO5 hzc b0 b1 b2 ho7
              obtain ⟨b0, b1, b2⟩ := hG7.aw.cells
              generalize rkI R N = zN at *
              go_simp
              go_wp2_with fail
              refine (unhide hRK7).mono ?_
              rintro e w8 ⟨rfl, hb8⟩
              have hG8 := hG7.below hb8
              clear hG7 hb8 hRK7 b0 b1 b2
              have hHS := hide (hasS_any Lq (some ⟨gq, 0, none⟩) Lq.length cq w8.heap.size zN w8 rfl (Reads.of_own hG8.aw.own) (by omega))
              by_cases hin : zN ∈ Lq
              · rw [decide_eq_true hin] at hHS
                have hs2 := HS1.out
                rw [if_pos hin] at hs2
                have HS2 := Lib.hid hs2
                clear hin hs2
                go_wp2_with fail
                refine (unhide hHS).mono ?_
                rintro e w9 ⟨rfl, hb9⟩
                have hG9 := hG8.below hb9
                clear hG8 hb9 hHS
                go_wp2_with fail
                go_roundg (V.length - (j + 1))
                case measure => have := HJ.out; omega
                case rel => exact ⟨j + 1, gq, cq, Lq, by have := HJ.out; omega, HS2.out, by go_num, rfl, hG9⟩
              · rw [decide_eq_false hin] at hHS
                have hs2 := HS1.out
                rw [if_neg hin] at hs2
                have HS2 := Lib.hid hs2
                clear hin hs2
                go_wp2_with fail
                refine (unhide hHS).mono ?_
                rintro e w9 ⟨rfl, hb9⟩
                have hG9 := hG8.below hb9
                clear hG8 hb9 hHS
                go_wp2_with (at_builtin; refine wpList_app rfl _ _ _ rfl (w.heap.size + 1) 3 _ 8 Try.underlying26 info_int rfl (by omega) _ _ _ rfl (hG9.aw.own.alloc _) w9.heap.size (.int .i64 zN) rfl ?c1 rfl (by omega) ?c2 ?_)
                case c1 => simp
                case c2 => have := hG9.aw.bel.size; have := hG9.aw.lt; simp; omega
                rintro g' c' w10 hown hgr hgg _ _
                have hG10 := hG9.app (x := zN) hown hgr hgg
                clear hown hgr hgg hG9
                go_wp2_with fail
                go_roundg (V.length - (j + 1))
                case measure => have := HJ.out; omega
                case rel => exact ⟨j + 1, g', c', Lq ++ [zN], by have := HJ.out; omega, HS2.out, by go_num, by rw [List.length_append]; rfl, hG10⟩
          · obtain rfl : j = V.length := by have := HJ.out; omega
            have hnx : (runR (fnR R) M (i + 1)).map (rkI R) = Lq := by
              rw [← HLQ.out, ← HV.out, mdR_all HX.out]
            have HNX := Lib.hid hnx
            have hni : i < (tilT R).length := by
              have := runR_le hR HM.out i
              omega
            have hAq := hG.aw
            clear hnx hG hil
            go_wp2_with fail
            go_roundg ((tilT R).length - (i + 1))
            case measure => have := HI.out; omega
            case rel => exact ⟨i + 1, gq, cq, Lq, by have := HI.out; omega, HNX.out, by go_num, rfl, hAq⟩
    · have hfin : L.length = (runR (fnR R) M (tilT R).length).length := by
        have h1 := runR_le hR HM.out i
        have h2 := HI.out
        rw [HLL.out] at hlt ⊢
        by_cases he : (runR (fnR R) M i).length = i
        · rw [runR_end hR HM.out he, he]
        · have := runR_fix (f := fnR R) (M := M) (i := i) (by omega) ((tilT R).length - i)
          rw [show i + ((tilT R).length - i) = (tilT R).length by omega] at this
          rw [this]
      have HF := Lib.hid hfin
      have hbel := hA.bel
      clear hA hfin
      go_wp2_with fail
      go_ret
      exact ⟨g, cc, by show Ending.returned (.slice (some ⟨g, 0, none⟩) L.length cc) = _; rw [HF.out], hbel⟩

end Go.Proofs.Ythepfpiphlfgnaa
