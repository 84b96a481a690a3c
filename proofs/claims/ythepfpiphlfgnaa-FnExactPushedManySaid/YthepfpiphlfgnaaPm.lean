/-
  YthepfpiphlfgnaaPm: PushedMany of the program.
-/
import Derived.Test.YthepfpiphlfgnaaCz
import Derived.Test.YthepfpiphlfgnaaRmz
import Derived.Test.YthepfpiphlfgnaaDq
namespace Go.Proofs.Ythepfpiphlfgnaa
open Go.RowKit

/-- What pushes leave of the first tilings, each once. -/
noncomputable def pmT (R : Reg) (ps : List (Int × Bool)) (k : Nat) : List (List Int) := onceU (((tilT R).take k).map fun M => ruV R M ps)
theorem pmT_succ {R : Reg} {ps : List (Int × Bool)} {k : Nat} {M : List Int} (h : (tilT R)[k]? = some M) : pmT R ps (k + 1) = addU (pmT R ps k) (ruV R M ps) := by
  unfold pmT onceU
  rw [List.take_add_one, h, List.map_append, List.foldl_append]; rfl
theorem pmT_all (R : Reg) (ps : List (Int × Bool)) : pmT R ps (tilT R).length = pmL R ps := by unfold pmT pmL; rw [List.take_length]
theorem pmT_le (R : Reg) (ps : List (Int × Bool)) (k : Nat) : (pmT R ps k).length ≤ k := by
  have := onceU_le (((tilT R).take k).map fun M => ruV R M ps)
  rw [List.length_map, List.length_take] at this
  unfold pmT; omega
theorem pmT_len {R : Reg} (hR : R.ok) {ps : List (Int × Bool)} {k : Nat} : ∀ N ∈ pmT R ps k, N.length = R.C.length := fun N hN => by
  unfold pmT at hN
  rw [mem_onceU] at hN
  obtain ⟨M, hM, rfl⟩ := List.mem_map.1 hN
  exact (tile_ruV hR ((tilT_iff hR).1 (List.mem_of_mem_take hM))).1.len
theorem pushes_k9 {R : Reg} (hR : R.ok) {ps : List (Int × Bool)} (h : pushesB R.W R.T R.C ps = true) : ∀ p ∈ ps, p.1 ≤ 9223372036854775807 := fun p hp => by
  unfold pushesB at h
  simp only [Bool.and_eq_true, List.all_eq_true] at h
  have := h.2.2 p hp
  rw [cornersB_cn hR] at this
  have := (cn_bd hR).2
  simp only [inB, decide_eq_true_eq] at *
  omega

set_option maxHeartbeats 4000000 in
set_option maxRecDepth 20000 in
theorem pushedManyI_ok (R : Reg) (hR : R.ok) (hS : SimpleP R) (A : Option Addr) (c B : Nat) (P : Option Addr) (m pc' E : Nat) (ps : List (Int × Bool)) (hps : pushesB R.W R.T R.C ps = true) (w : World)
    (hr : Reads w B 1 A R.C.length (R.C.map Value.bool)) (hB : B ≤ w.heap.size) (hm : ps.length = m) (hp : Reads w E 2 P m (pc ps)) (hE : E ≤ w.heap.size) (hmm : m ≤ 9223372036854775807) :
    Calls Try.prog 58 #[.agg #[.int .i64 R.W, .int .i64 R.T, .slice A R.C.length c], .slice P m pc'] w fun e w' => e = .returned (.int .i64 ((pmL R ps).length : Nat)) ∧ Below w.heap.size w w' := by
  have hl36 := (len_bd hR).2
  have hl1 := (len_bd hR).1
  have hmf : ∀ (fn : Fn) (first cap : Array Value) (w : World), (Instr.makeFunc fn first cap).run Try.prog w = .ok (.func fn first cap) w := fun _ _ _ _ => rfl
  have hPV := fun w' (h : Below w.heap.size w w') => hide (PushesValidI_any R.W R.T A R.C.length c B R.C P m pc' E ps w' rfl (hr.below (h.mono hB)) (Nat.le_trans hB h.size) (by omega) hm (hp.below (h.mono hE)) (Nat.le_trans hE h.size) hmm)
  simp only [hps] at hPV
  have hk9 := pushes_k9 hR hps
  have hTI := fun w' (h : Below w.heap.size w w') => hide (tilings_any R hR A c B w' (hr.below (h.mono hB)) (Nat.le_trans hB h.size))
  have hRU : ∀ (M : List Int) (g d : Nat) w', Tile R M → Below w.heap.size w w' → Reads w' w'.heap.size 1 (some ⟨g, 0, none⟩) R.C.length (M.map (Value.int .i64)) → Hid (Calls Try.prog 124 #[.agg #[.int .i64 R.W, .int .i64 R.T, .slice A R.C.length c], .slice (some ⟨g, 0, none⟩) R.C.length d, .slice P m pc'] w' (RetInts w' (ruV R M ps))) := fun M g d w' hM h ha =>
    hide (run_any R hR hS A c w'.heap.size M (some ⟨g, 0, none⟩) d P m pc' w'.heap.size ps hk9 (.inr ⟨g, 0, rfl⟩) hM w' ((hr.below (h.mono hB)).more (Nat.le_trans hB h.size)) ha (Nat.le_refl _) hm ((hp.below (h.mono hE)).more (Nat.le_trans hE h.size)) (Nat.le_refl _) hmm)
  have hTl : ∀ (k : Nat) (M : List Int), (tilT R)[k]? = some M → Tile R M := fun k M h => (tilT_iff hR).1 (List.mem_of_getElem? h)
  have HTL := Lib.hid hTl
  have hln : ∀ (M : List Int), Tile R M → (ruV R M ps).length = R.C.length := fun M h => (tile_ruV hR h).1.len
  have HLN := Lib.hid hln
  have hsu := fun n M h => pmT_succ (R := R) (ps := ps) (k := n) (M := M) h
  have HSU := Lib.hid hsu
  have hbd := fun n => pmT_le R ps n
  have HBD := Lib.hid hbd
  have hpl := fun n => pmT_len hR (ps := ps) (k := n)
  have HPL := Lib.hid hpl
  have hnl := tilT_len R
  have HNL := Lib.hid hnl
  have hal := pmT_all R ps
  have HAL := Lib.hid hal
  have hb0 : Below w.heap.size w (w.alloc (boxR R.W R.T A R.C.length c)) := (Below.refl _ _).alloc (Nat.le_refl _) _
  have k0 : Blk (w.alloc (boxR R.W R.T A R.C.length c)) w.heap.size 25 #[.int .i64 R.W, .int .i64 R.T, .slice A R.C.length c] := Blk.new _ _ _
  clear hTl hsu hbd hnl hr hp hps hk9 hpl hln hal
  generalize tilT R = TT at *
  generalize pmL R ps = PM at *
  go_enter Try.func58, Try.ntmps58
  go_wp2_with fail
  refine (unhide (hPV _ hb0)).mono ?_
  rintro e w1 ⟨rfl, hb1⟩
  have hB1 := hb0.trans (hb1.mono hb0.size)
  have k1 := k0.below hb1 k0.lt
  obtain ⟨b0, b1, b2⟩ := blk3 k1
  clear k0 hb0 hb1 hPV
  go_wp2_with fail
  refine (unhide (hTI _ hB1)).mono ?_
  rintro e w3 ⟨A3, c3, c3', xs, rfl, hR3, hb3⟩
  have hB3 := hB1.trans (hb3.mono hB1.size)
  have k3 := k1.below hb3 k1.lt
  clear b0 b1 b2 k1 hb3 hB1 hTI
  have hR3' := hR3.mono (b' := 0) (by omega)
  clear hR3
  have hstart : RowsOf w3 w3.heap.size R.C.length (.slice none 0 0) [] (pmT R ps 0) := RowsOf.nil _ _ _
  go_wp2_with fail
  go_loopg [5, 16] TT.length (fun r s5 s16 wr => ∃ (k : Nat) (Pm : Option Addr) (cm : Nat) (ys : List Value), k + r = TT.length ∧ s16 = .int .i64 (k : Nat) ∧ s5 = .slice Pm (pmT R ps k).length cm ∧ Below w3.heap.size w3 wr ∧ RowsOf wr w3.heap.size R.C.length (.slice Pm (pmT R ps k).length cm) ys (pmT R ps k))
  case atStart => exact ⟨0, none, 0, [], by omega, rfl, rfl, Below.refl _ _, hstart⟩
  case round =>
    clear hstart
    obtain ⟨k, Pm, cm, ys, hk, rfl, rfl, hbW, hmet⟩ := hrel
    have HK := Lib.hid hk
    clear hk
    by_cases hlt : k < TT.length
    · have hrow := hR3'.below hbW
      have hbk := k3.below hbW k3.lt
      have hBw := hB3.trans (hbW.mono hB3.size)
      obtain ⟨x, M, hx, hM, hin⟩ := hrow.at_ hlt
      obtain ⟨gx, cx, rfl, hrx⟩ := hin.reads
      have hTM := HTL.out k M hM
      have hown := hrow.own
      rw [hrow.len] at hown
      obtain ⟨g3, cg3, hsh3, _, _, _⟩ := own_shape hown (by omega)
      simp only [Value.slice.injEq, true_and] at hsh3
      obtain ⟨rfl, rfl⟩ := hsh3
      have hxc : wr.cell? ⟨g3, k, none⟩ = some (.slice (some ⟨gx, 0, none⟩) R.C.length cx) := by rw [hown.cellAt k (by omega)]; exact hx
      have hHk := hRU M gx cx wr hTM hBw hrx
      have hs1 := HSU.out k M hM
      have HS1 := Lib.hid hs1
      have hNl := HLN.out M hTM
      have hbdk := HBD.out k
      have hnl := HNL.out
      have hplk := HPL.out k
      have HPLK := Lib.hid hplk
      generalize ruV R M ps = N at *
      generalize hst : pmT R ps k = st at *
      have HST := Lib.hid hst
      obtain ⟨b0, b1, b2⟩ := blk3 hbk
      clear hs1 hM hx hown hin hrx hTM hrow hst hplk
      go_wp2_with fail
      refine (unhide hHk).mono ?_
      rintro e w4 ⟨A4, c4, c4', he, ho4, hb4⟩
      rw [hNl] at he ho4
      subst he
      obtain ⟨g4, cg4, hsh4, _, _, _⟩ := own_shape ho4 (by omega)
      simp only [Value.slice.injEq] at hsh4
      obtain ⟨rfl, _, rfl⟩ := hsh4
      have hbW4 := hbW.trans (hb4.mono hbW.size)
      have hmet4 := hmet.below hb4
      have ho4' := own_mono ho4 hbW.size
      clear hHk b0 b1 b2 hxc hb4 hmet ho4 hbk hBw hbW
      go_upto_region 8 with fail
      have hq5 := Blk.new w4 26 #[.slice (some ⟨g4, 0, none⟩) R.C.length c4']
      have hb5 : Below w4.heap.size w4 (w4.alloc (.cells #[.slice (some ⟨g4, 0, none⟩) R.C.length c4'] 26)) := (Below.refl _ _).alloc (Nat.le_refl _) _
      have hbW5 := hbW4.trans (hb5.mono hbW4.size)
      have hmet5 := hmet4.below hb5
      have ho5 := ho4'.alloc (.cells #[.slice (some ⟨g4, 0, none⟩) R.C.length c4'] 26)
      clear hbW4 hmet4 ho4' hb5
      generalize w4.alloc (.cells #[.slice (some ⟨g4, 0, none⟩) R.C.length c4'] 26) = w5 at *
      generalize w4.heap.size = q at *
      have hCO := hide (pmContains_any q R.C.length w3.heap.size g4 c4' st.length cm cm Pm N ys st w5 hq5 hNl (by omega) (Reads.of_own ho5) hmet5 rfl (by omega) HPLK.out)
      by_cases hin : N ∈ st
      · rw [decide_eq_true hin] at hCO
        have HA := Lib.hid (addU_in hin)
        clear hin
        go_wp2_with fail
        refine (unhide hCO).mono ?_
        rintro e w6 ⟨rfl, hb6⟩
        have hbW6 := hbW5.trans (hb6.mono hbW5.size)
        have hmet6 := hmet5.below hb6
        clear hbW5 hmet5 ho5 hb6 hq5 hCO
        go_wp2_with fail
        go_roundg (TT.length - (k + 1))
        case measure => have := HK.out; omega
        case rel =>
          have e : pmT R ps (k + 1) = st := HS1.out.trans HA.out
          exact ⟨k + 1, Pm, cm, ys, by have := HK.out; omega, by go_num, by rw [e], hbW6, by rw [e]; exact hmet6⟩
      · rw [decide_eq_false hin] at hCO
        have HA := Lib.hid (addU_out hin)
        clear hin
        go_wp2_with fail
        refine (unhide hCO).mono ?_
        rintro e w6 ⟨rfl, hb6⟩
        have hbW6 := hbW5.trans (hb6.mono hbW5.size)
        have hmet6 := hmet5.below hb6
        have ho6 := own_below ho5 hb6 (Nat.le_refl _)
        have hq6 := (hq5.below hb6 hq5.lt).cell 0
        simp at hq6
        have hyl := hmet6.len
        have HYL := Lib.hid hyl
        have hsz := hbW6.size
        clear hbW5 hmet5 ho5 hb6 hq5 hCO hyl
        go_wp2_with (at_builtin; refine wpList_app rfl _ _ _ rfl w3.heap.size 26 _ 24 Try.underlying74 info_ints rfl (by omega) (.slice Pm st.length cm) ys.length ys rfl (hmet6.own.alloc _) w6.heap.size (.slice (some ⟨g4, 0, none⟩) R.C.length c4') rfl ?c1 rfl (by have := HYL.out; omega) ?c2 ?_)
        case c1 => simp
        case c2 => simp; omega
        rintro g' c' w7 hown hgr _ _ _
        have hmet7 := hmet6.app (x := .slice (some ⟨g4, 0, none⟩) R.C.length c4') (L := N) ⟨g4, _, _, rfl, ho6⟩ hown hgr
        have hbW7 := (hbW6.alloc hbW6.size _).grown hgr (by simp; omega) (fun j hj => (own_in hmet6.own hj).1)
        clear hbW6 hmet6 ho6 hq6 hown hgr
        rw [HYL.out] at hmet7 ⊢
        go_wp2_with fail
        go_roundg (TT.length - (k + 1))
        case measure => have := HK.out; omega
        case rel =>
          have e : pmT R ps (k + 1) = st ++ [N] := HS1.out.trans HA.out
          have el : (pmT R ps (k + 1)).length = st.length + 1 := by rw [e, List.length_append]; rfl
          exact ⟨k + 1, _, c', _, by have := HK.out; omega, by go_num, by rw [el], hbW7, by rw [el, e]; exact hmet7⟩
    · obtain rfl : k = TT.length := by have := HK.out; omega
      have hBw := hB3.trans (hbW.mono hB3.size)
      rw [HAL.out]
      clear hmet hbW hR3' k3 hB3
      go_wp2_with fail
      go_ret
      exact ⟨rfl, hBw⟩

end Go.Proofs.Ythepfpiphlfgnaa
