/-
  YthepfpiphlfgnaaPn: PushedMany of the reference.
-/
import Derived.Test.YthepfpiphlfgnaaPm
import Derived.Test.YthepfpiphlfgnaaR5
import Derived.Test.YthepfpiphlfgnaaCz
import Derived.Test.YthepfpiphlfgnaaPq
import Derived.Test.YthepfpiphlfgnaaPv
import Derived.Deep.RegionHeld
namespace Go.Proofs.Ythepfpiphlfgnaa
open Go.RowKit

theorem pmT_tile {R : Reg} (hR : R.ok) {ps : List (Int × Bool)} {k : Nat} : ∀ N ∈ pmT R ps k, Tile R N := fun N hN => by
  unfold pmT at hN
  rw [mem_onceU] at hN
  obtain ⟨M, hM, rfl⟩ := List.mem_map.1 hN
  exact tile_ruV hR ((tilT_iff hR).1 (List.mem_of_mem_take hM))

set_option maxHeartbeats 4000000 in
set_option maxRecDepth 20000 in
theorem pushedManyS_ok (R : Reg) (hR : R.ok) (hS : SimpleP R) (A : Option Addr) (c B : Nat) (P : Option Addr) (m pc' E : Nat) (ps : List (Int × Bool)) (hps : pushesB R.W R.T R.C ps = true) (w : World)
    (hr : Reads w B 1 A R.C.length (R.C.map Value.bool)) (hB : B ≤ w.heap.size) (hm : ps.length = m) (hp : Reads w E 2 P m (pc ps)) (hE : E ≤ w.heap.size) (hmm : m ≤ 9223372036854775807) :
    Calls Try.prog 55 #[.agg #[.int .i64 R.W, .int .i64 R.T, .slice A R.C.length c], .slice P m pc'] w fun e w' => e = .returned (.int .i64 ((pmL R ps).length : Nat)) ∧ Below w.heap.size w w' := by
  have hl36 := (len_bd hR).2
  have hl1 := (len_bd hR).1
  have hnT : (tilT R).length ≤ 262144 := nT_le R
  have hrd : ∀ w', Below w.heap.size w w' → Reads w' w'.heap.size 1 A R.C.length (R.C.map Value.bool) := fun w' h => (hr.below (h.mono hB)).more (Nat.le_trans hB h.size)
  have hPV := fun w' (h : Below w.heap.size w w') => hide (PushesValidS_any R.W R.T A R.C.length c w'.heap.size R.C P m pc' E ps w' rfl (hrd w' h) (Nat.le_refl _) (by omega) hm (hp.below (h.mono hE)) (Nat.le_trans hE h.size) hmm)
  simp only [hps] at hPV
  have hTI := fun w' (h : Below w.heap.size w w') => hide (tilingsAllS_ok R hR A c w'.heap.size w' (hrd w' h) (Nat.le_refl _))
  have hRU : ∀ (M : List Int) (g d : Nat) w', Tile R M → Below w.heap.size w w' → Reads w' w'.heap.size 1 (some ⟨g, 0, none⟩) R.C.length (M.map (Value.int .i64)) → Hid (Calls Try.prog 119 #[.agg #[.int .i64 R.W, .int .i64 R.T, .slice A R.C.length c], .slice (some ⟨g, 0, none⟩) R.C.length d, .slice P m pc'] w' (RetInts w' (ruV R M ps))) := fun M g d w' hM h ha => by
    have := pushRunS_any R.W R.T A R.C.length c w'.heap.size R.C M (some ⟨g, 0, none⟩) R.C.length d P m pc' E ps w' rfl hM.1.len (hrd w' h) ha (Nat.le_refl _) (by omega) (by omega) hm (hp.below (h.mono hE)) (Nat.le_trans hE h.size) hmm
    rw [prV_yes ((tiled_ok hR).2 ⟨hS, hM.1, hM.2⟩) hps] at this
    exact hide this
  have hRK : ∀ (X : List Int) (gd d : Nat) w', Tile R X → Below w.heap.size w w' → Reads w' w'.heap.size 1 (some ⟨gd, 0, none⟩) R.C.length (X.map (Value.int .i64)) → Hid (Calls Try.prog 107 #[.agg #[.int .i64 R.W, .int .i64 R.T, .slice A R.C.length c], .slice (some ⟨gd, 0, none⟩) R.C.length d] w' fun e w'' => e = .returned (.int .i64 (rkI R X)) ∧ Below w'.heap.size w' w'') := fun X gd d w' hX h ha =>
    hide (rankOfS_ok R hR A c w'.heap.size X hX gd d w' (hrd w' h) ha (Nat.le_refl _))
  have hTl : ∀ (k : Nat) (M : List Int), (tilT R)[k]? = some M → Tile R M := fun k M h => (tilT_iff hR).1 (List.mem_of_getElem? h)
  have HTL := Lib.hid hTl
  have hTN : ∀ (M : List Int), Tile R M → Tile R (ruV R M ps) := fun M h => tile_ruV hR h
  have HTN := Lib.hid hTN
  have hsu : ∀ k M, (tilT R)[k]? = some M → (pmT R ps (k + 1)).map (rkI R) = if rkI R (ruV R M ps) ∈ (pmT R ps k).map (rkI R) then (pmT R ps k).map (rkI R) else (pmT R ps k).map (rkI R) ++ [rkI R (ruV R M ps)] := fun k M h => by
    rw [pmT_succ h]
    exact rkI_add hR (pmT_tile hR) (tile_ruV hR (hTl k M h))
  have HSU := Lib.hid hsu
  have hbd : ∀ k, ((pmT R ps k).map (rkI R)).length ≤ k := fun k => by rw [List.length_map]; exact pmT_le R ps k
  have HBD := Lib.hid hbd
  have hal : ((pmT R ps (tilT R).length).map (rkI R)).length = (pmL R ps).length := by rw [List.length_map, pmT_all]
  have HAL := Lib.hid hal
  have h0 : (pmT R ps 0).map (rkI R) = [] := by simp [pmT, onceU]
  have H0 := Lib.hid h0
  have hb0 : Below w.heap.size w (w.alloc (boxR R.W R.T A R.C.length c)) := (Below.refl _ _).alloc (Nat.le_refl _) _
  have k0 : Blk (w.alloc (boxR R.W R.T A R.C.length c)) w.heap.size 25 #[.int .i64 R.W, .int .i64 R.T, .slice A R.C.length c] := Blk.new _ _ _
  clear hTl hTN hsu hbd hr hp hps hal h0
  generalize tilT R = TT at *
  generalize pmL R ps = PM at *
  go_enter Try.func55, Try.ntmps55
  go_wp2_with fail
  refine (unhide (hPV _ hb0)).mono ?_
  rintro e w1 ⟨rfl, hb1⟩
  have hB1 := hb0.trans (hb1.mono hb0.size)
  have k1 := k0.below hb1 k0.lt
  clear k0 hb0 hb1 hPV
  go_upto_region 4 with fail
  have hA2 : AW w (w1.alloc (.cells #[] 3)) R.W R.T A R.C.length c w1.heap.size 0 [] := by
    have hk := k1.lt
    refine ⟨hB1.alloc hB1.size _, k1.alloc _, ?_⟩
    have := World.ownsRow_made (base := w.heap.size + 1) (e := 3) (size := 1) w1 #[] 0 (by omega) (by simp [maxLen]) (by simp)
    simpa using this
  clear k1 hB1
  have hgl : w1.heap.size < (w1.alloc (.cells #[] 3)).heap.size := by simp
  generalize w1.alloc (.cells #[] 3) = w2 at *
  generalize w1.heap.size = g0 at *
  obtain ⟨b0, b1, b2⟩ := hA2.cells
  go_wp2_with fail
  refine (unhide (hTI _ hA2.bel)).mono ?_
  rintro e w3 ⟨A3, c3, xs, rfl, hR3, hb3, _⟩
  have hG3 := GrW.start (b := w2.heap.size) (hA2.below hb3) hgl
  clear b0 b1 b2 hA2 hb3 hTI hgl
  go_wp2_with fail
  go_loopg [5, 7] TT.length (fun r s5 s7 wr => ∃ (k g cc : Nat) (L : List Int), k + r = TT.length ∧ (pmT R ps k).map (rkI R) = L ∧ s7 = .int .i64 (k : Nat) ∧ s5 = .slice (some ⟨g, 0, none⟩) L.length cc ∧ GrW w w3 wr R.W R.T A R.C.length c w2.heap.size g cc L)
  case atStart => exact ⟨0, g0, 0, [], by omega, H0.out, rfl, rfl, hG3⟩
  case round =>
    clear hG3
    obtain ⟨k, g, cc, L, hk, hL, rfl, rfl, hG⟩ := hrel
    have HK := Lib.hid hk
    have HL := Lib.hid hL
    have hLl : L.length ≤ k := by rw [← hL]; exact HBD.out k
    clear hk hL
    by_cases hlt : k < TT.length
    · obtain ⟨x, M, hx, hM, hin⟩ := (hR3.keep hG.kp).at_ hlt
      obtain ⟨gx, cx, rfl, hrx⟩ := hin.reads
      have hTM := HTL.out k M hM
      have hown := (hR3.keep hG.kp).own
      rw [hR3.len] at hown
      obtain ⟨g3, cg3, hsh3, _, _, _⟩ := own_shape hown (by omega)
      simp only [Value.slice.injEq, true_and] at hsh3
      obtain ⟨rfl, rfl⟩ := hsh3
      have hxc : wr.cell? ⟨g3, k, none⟩ = some (.slice (some ⟨gx, 0, none⟩) R.C.length cx) := by rw [hown.cellAt k (by omega)]; exact hx
      have hd0 := (Below.refl wr.heap.size wr).drew
      have hHk := hRU M gx cx wr.drew hTM hG.aw.bel.drew hrx
      have hs1 := HSU.out k M hM
      rw [HL.out] at hs1
      have HS1 := Lib.hid hs1
      have hTNk := HTN.out M hTM
      have HTNK := Lib.hid hTNk
      have hNl := hTNk.1.len
      generalize ruV R M ps = N at *
      have hRKN := fun gd d w' h ha => hRK N gd d w' HTNK.out h ha
      have hG4 := hG.below hd0
      have hxcd := cell_kept hxc hd0
      clear hs1 hM hx hown hin hrx hTM hTNk hRK
      go_upto_region 8 with fail
      refine wp_region_held_drew (S := (fun w' => (w'.cell? ⟨w.heap.size, 0, none⟩ = some (.int .i64 R.W) ∧ w'.cell? ⟨w.heap.size, 1, none⟩ = some (.int .i64 R.T) ∧ w'.cell? ⟨w.heap.size, 2, none⟩ = some (.slice A R.C.length c)) ∧ w'.cell? ⟨g3, k, none⟩ = some (.slice (some ⟨gx, 0, none⟩) R.C.length cx))) (by kernel_rfl) ⟨hG4.aw.cells, hxcd⟩ ?_
      intro hHeld
      refine wpAnyH_take (i := 0) (v := ?_) rfl (by kernel_rfl) (by kernel_rfl) (by kernel_rfl) (fun _ _ _ h => h) (Or.inl ⟨by kernel_rfl, ?_⟩) hHeld ?_
      rotate_left
      · intro w' hS'
        obtain ⟨⟨x0, x1, x2⟩, x3⟩ := hS'
        go_simp
        try with_reducible rfl
      refine wpAnyH_take (i := 1) (v := ?_) rfl (by kernel_rfl) (by kernel_rfl) (by kernel_rfl) (fun _ _ _ h => h) (Or.inl ⟨by kernel_rfl, ?_⟩) hHeld ?_
      rotate_left
      · intro w' hS'
        obtain ⟨⟨x0, x1, x2⟩, x3⟩ := hS'
        go_simp
        try with_reducible rfl
      refine wpAnyH_take (i := 2) (v := ?_) rfl (by kernel_rfl) (by kernel_rfl) (by kernel_rfl) (fun _ _ _ h => h) (Or.inl ⟨by kernel_rfl, ?_⟩) hHeld ?_
      rotate_left
      · intro w' hS'
        clear hS'
        go_simp
        try with_reducible rfl
      refine wpAnyH_take (i := 3) (v := ?_) rfl (by kernel_rfl) (by kernel_rfl) (by kernel_rfl) (fun _ _ _ h => h) (Or.inl ⟨by kernel_rfl, ?_⟩) hHeld ?_
      rotate_left
      · intro w' hS'
        clear hS'
        go_simp
        try with_reducible rfl
      refine wpAnyH_take (i := 4) (v := ?_) rfl (by kernel_rfl) (by kernel_rfl) (by kernel_rfl) (fun _ _ _ h => h) (Or.inl ⟨by kernel_rfl, ?_⟩) hHeld ?_
      rotate_left
      · intro w' hS'
        clear hS'
        go_simp
        try with_reducible rfl
      refine wpAnyH_take (i := 5) (v := ?_) rfl (by kernel_rfl) (by kernel_rfl) (by kernel_rfl) (fun _ _ _ h => h) (Or.inl ⟨by kernel_rfl, ?_⟩) hHeld ?_
      rotate_left
      · intro w' hS'
        obtain ⟨⟨x0, x1, x2⟩, x3⟩ := hS'
        go_simp
        try with_reducible rfl
      refine wpAnyH_take (i := 6) (v := ?_) rfl (by kernel_rfl) (by kernel_rfl) (by kernel_rfl) (fun _ _ _ h => h) (Or.inl ⟨by kernel_rfl, ?_⟩) hHeld ?_
      rotate_left
      · intro w' hS'
        clear hS'
        go_simp
        try with_reducible rfl
      refine wpAnyH_ready (rs := [7]) (by kernel_rfl) (by simp) ?_
      refine AllReadyH.cons rfl (fun K hK => ?_) AllReadyH.nil
      go_simp
      go_at_call 119
      (with_reducible refine (unhide hHk).mono ?_)
      rintro e w5 ⟨A5, c5, c5', he, ho5, hb5⟩
      rw [hNl] at he ho5
      subst he
      obtain ⟨g5, cg5, hsh5, _, _, _⟩ := own_shape ho5 (by omega)
      simp only [Value.slice.injEq] at hsh5
      obtain ⟨rfl, _, rfl⟩ := hsh5
      have hG5 := hG4.below hb5
      have hxc5 := cell_kept hxcd hb5
      have hRN := hRKN g5 c5' w5 hG5.aw.bel (Reads.of_own ho5)
      refine hK.out _ _ ?_ ?_
      · exact ⟨hG5.aw.cells, hxc5⟩
      clear hHeld
      intro hHeld
      clear hK K
      refine wpAnyH_ready (rs := [8]) (by kernel_rfl) (by simp) ?_
      refine AllReadyH.cons rfl (fun K hK => ?_) AllReadyH.nil
      go_simp
      go_at_call 107
      (with_reducible refine (unhide hRN).mono ?_)
      rintro e w6 ⟨rfl, hb6⟩
      have hG6 := hG5.below hb6
      have hxc6 := cell_kept hxc5 hb6
      refine hK.out _ _ ?_ ?_
      · exact ⟨hG6.aw.cells, hxc6⟩
      clear hHeld
      intro hHeld
      clear hK K
      refine wpAnyH_take (i := 9) (v := ?_) rfl (by kernel_rfl) (by kernel_rfl) (by kernel_rfl) (fun _ _ _ h => h) (Or.inl ⟨by kernel_rfl, ?_⟩) hHeld ?_
      rotate_left
      · intro w' hS'
        clear hS'
        go_simp
        try with_reducible rfl
      refine wpAnyH_done (by kernel_rfl) ?_ _
      clear hHeld hG hG4 hG5 hxc hxcd hxc5 hxc6 hb5 hb6 hd0 hHk hRKN hRN ho5
      generalize rkI R N = zN at *
      have hHS := hide (hasS_any L (some ⟨g, 0, none⟩) L.length cc w6.heap.size zN w6 rfl (Reads.of_own hG6.aw.own) (by omega))
      go_simp
      by_cases hin : zN ∈ L
      · rw [decide_eq_true hin] at hHS
        have hs2 := HS1.out
        rw [if_pos hin] at hs2
        have HS2 := Lib.hid hs2
        clear hin hs2
        go_wp2_with fail
        refine (unhide hHS).mono ?_
        rintro e w7 ⟨rfl, hb7⟩
        have hG7 := hG6.below hb7
        clear hG6 hb7 hHS
        go_wp2_with fail
        go_roundg (TT.length - (k + 1))
        case measure => have := HK.out; omega
        case rel => exact ⟨k + 1, g, cc, L, by have := HK.out; omega, HS2.out, by go_num, rfl, hG7⟩
      · rw [decide_eq_false hin] at hHS
        have hs2 := HS1.out
        rw [if_neg hin] at hs2
        have HS2 := Lib.hid hs2
        clear hin hs2
        go_wp2_with fail
        refine (unhide hHS).mono ?_
        rintro e w7 ⟨rfl, hb7⟩
        have hG7 := hG6.below hb7
        clear hG6 hb7 hHS
        go_wp2_with (at_builtin; refine wpList_app rfl _ _ _ rfl (w.heap.size + 1) 3 _ 8 Try.underlying26 info_int rfl (by omega) _ _ _ rfl (hG7.aw.own.alloc _) w7.heap.size (.int .i64 zN) rfl ?c1 rfl (by omega) ?c2 ?_)
        case c1 => simp
        case c2 => have := hG7.aw.bel.size; have := hG7.aw.lt; simp; omega
        rintro g' c' w8 hown hgr hgg _ _
        have hG8 := hG7.app (x := zN) hown hgr hgg
        clear hown hgr hgg hG7
        go_wp2_with fail
        go_roundg (TT.length - (k + 1))
        case measure => have := HK.out; omega
        case rel => exact ⟨k + 1, g', c', L ++ [zN], by have := HK.out; omega, HS2.out, by go_num, by rw [List.length_append]; rfl, hG8⟩
    · obtain rfl : k = TT.length := by have := HK.out; omega
      have hfin : L.length = PM.length := by rw [← HL.out]; exact HAL.out
      have HF := Lib.hid hfin
      have hbel := hG.aw.bel
      clear hG hfin
      go_wp2_with fail
      go_ret
      exact ⟨ret_int (by rw [HF.out]), hbel⟩

end Go.Proofs.Ythepfpiphlfgnaa
