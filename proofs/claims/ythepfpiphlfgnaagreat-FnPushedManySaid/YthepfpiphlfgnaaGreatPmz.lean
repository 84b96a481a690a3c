/-
  YthepfpiphlfgnaaGreatPmz: the texts R5, Pm, Pn, Py in one file.
-/
import Derived.Deep.RegionHeld
import Derived.Test.YthepfpiphlfgnaaGreatR4
import Derived.Test.YthepfpiphlfgnaaGreatCz
import Derived.Test.YthepfpiphlfgnaaGreatRmz
import Derived.Test.YthepfpiphlfgnaaGreatDq
import Derived.Test.YthepfpiphlfgnaaGreatPq
import Derived.Test.YthepfpiphlfgnaaGreatPv

/-
  YthepfpiphlfgnaaGreatR5: RankOf of the reference: a tiling's place among all.
-/
namespace Go.Proofs.YthepfpiphlfgnaaGreat
open Go.RowKit

theorem addr_at5 (g j : Nat) : (⟨g, 0, none⟩ : Addr).add j = ⟨g, j, none⟩ := by
  unfold Addr.add
  split
  · rename_i h; rw [h]
  · simp

set_option maxHeartbeats 4000000 in
set_option maxRecDepth 100000 in
theorem rankOfS_ok (R : Reg) (hR : R.ok) (A : Option Addr) (c B : Nat) (M : List Int) (hM : Tile R M) (gd d : Nat) (w : World) (hr : Reads w B 1 A R.C.length (R.C.map Value.bool)) (hd : Reads w B 1 (some ⟨gd, 0, none⟩) R.C.length (M.map (Value.int .i64))) (hB : B ≤ w.heap.size) :
    Calls Tryz.prog 21 #[.agg #[.int .i64 R.W, .int .i64 R.T, .slice A R.C.length c], .slice (some ⟨gd, 0, none⟩) R.C.length d] w fun e w' => e = .returned (.int .i64 (rkV R M : Nat)) ∧ Below w.heap.size w w' := by
  have hl36 := (len_bd hR).2
  have hl1 := (len_bd hR).1
  have hnT := nT_le R
  have hb0 : Below w.heap.size w (w.alloc (boxR R.W R.T A R.C.length c)) := (Below.refl _ _).alloc (Nat.le_refl _) _
  have k0 : Blk (w.alloc (boxR R.W R.T A R.C.length c)) w.heap.size 25 #[.int .i64 R.W, .int .i64 R.T, .slice A R.C.length c] := Blk.new _ _ _
  have hrd : ∀ w', Below w.heap.size w w' → Reads w' w'.heap.size 1 A R.C.length (R.C.map Value.bool) := fun w' h => (hr.below (h.mono hB)).more (Nat.le_trans hB h.size)
  have hTO := fun w' (h : Below w.heap.size w w') => hide (tilingOkS_any R.W R.T A R.C.length c w'.heap.size R.C M (some ⟨gd, 0, none⟩) R.C.length d w' rfl hM.1.len (hrd w' h) ((hd.below (h.mono hB)).more (Nat.le_trans hB h.size)) (Nat.le_refl _) (by omega) (by omega))
  have htb : tilingB R.W R.T R.C M = true := by rw [tilingB_ok hR, (laysB_iff hR).2 hM.1, (fullB_iff hR).2 hM.2]; rfl
  rw [htb] at hTO
  have hLB := fun w' (h : Below w.heap.size w w') => hide (laidBareS_ok R hR A c w'.heap.size w' (hrd w' h) (Nat.le_refl _))
  have hFI := fun (L : List Int) (g c1 : Nat) (w' : World) (hl : L.length = R.C.length) (h : TW w w' R A c g c1 L) => hide (firstS_any R hR A c w'.heap.size L (some ⟨g, 0, none⟩) c1 hl w' (hrd w' h.bel) h.li.reads.2 (Nat.le_refl _))
  have hLO := fun (L : List Int) (g c1 : Nat) (w' : World) (hl : Lay R L) (h : TW w w' R A c g c1 L) (q : Nat) (hq : q < R.C.length) (way : Int) (hw : 1 ≤ way ∧ way ≤ 4) => hide (layOneS_any R hR A c w'.heap.size L (some ⟨g, 0, none⟩) c1 q hq way hw hl w' (hrd w' h.bel) h.li.reads.2 (Nat.le_refl _))
  have hWI := fun (L : List Int) (g c1 : Nat) (w' : World) (hl : L.length = R.C.length) (hb : Below w.heap.size w w') (h : LiAt w' w.heap.size (.slice (some ⟨g, 0, none⟩) R.C.length c1) L) => hide (l3WithS_any R hR A c w'.heap.size L (some ⟨g, 0, none⟩) c1 hl w' (hrd w' hb) h.reads.2 (Nat.le_refl _))
  have hML : ∀ w', Below w.heap.size w w' → ∀ q, q < R.C.length → w'.cell? ⟨gd, q, none⟩ = some (.int .i64 (M.getD q 0)) := fun w' h q hq => by
    obtain ⟨ad, e, _, hc⟩ := (hd.below (h.mono hB)).getI hq
    injection e with e
    subst e
    rw [← addr_at5]; exact hc
  have hAT := AtM.start hR M
  have hnx := fun (L : List Int) (r q : Nat) (h : AtM R M L r) (hf : fiV R L = some q) => h.next hR hM hf
  have HNX := Lib.hid hnx
  have hdn := fun (L : List Int) (r : Nat) (h : AtM R M L r) (hf : fiV R L = none) => h.done hR hM hf
  have HDN := Lib.hid hdn
  clear hr hB hd htb hnx hdn
  go_enter Tryz.func21, Tryz.ntmps21
  go_wp2_with fail
  refine (unhide (hTO _ hb0)).mono ?_
  rintro e w1 ⟨rfl, hb1⟩
  have k2 := k0.below hb1 k0.lt
  have hB2 := hb0.trans (hb1.mono hb0.size)
  obtain ⟨b0, b1, b2⟩ := blk3 k2
  clear hTO hb1 k0 hb0
  go_wp2_with fail
  refine (unhide (hLB _ hB2)).mono ?_
  rintro e w3 ⟨g3, rfl, ho3, hb3⟩
  have hT3 : TW w w3 R A c g3 R.C.length (bare R) := ⟨hB2.trans (hb3.mono hB2.size), k2.below hb3 k2.lt, some ⟨g3, 0, none⟩, R.C.length, R.C.length, by simp [bare], by
    have := own_mono ho3 hB2.size
    simpa [bare] using this⟩
  clear hLB hb3 k2 hB2 ho3 b0 b1 b2
  obtain ⟨b0, b1, b2⟩ := blk3 hT3.box
  have hF3 := hFI _ _ _ _ (lay_bare hR).len hT3
  go_wp2_with fail
  refine (unhide hF3).mono ?_
  rintro e w4 ⟨rfl, hb4⟩
  have hT4 := hT3.below hb4
  clear hT3 hb4 b0 b1 b2 hF3
  go_wp2_with fail
  go_loopg [5, 6, 7] (opN R (bare R)) (fun q s5 s6 s7 wr => ∃ (L : List Int) (g c1 r : Nat), opN R L = q ∧ s5 = .int .i64 (r : Nat) ∧ s6 = .slice (some ⟨g, 0, none⟩) R.C.length c1 ∧ s7 = .int .i64 (fiZ R L) ∧ TW w wr R A c g c1 L ∧ AtM R M L r)
  case atStart => exact ⟨bare R, _, _, 0, rfl, rfl, rfl, rfl, hT4, hAT⟩
  case round =>
    clear hT4 hAT
    obtain ⟨L, g, c1, r, hq, rfl, rfl, rfl, hT, hA⟩ := hrel
    have HQ := Lib.hid hq
    clear hq
    have hrl : r ≤ nT R := by have := hA.le; omega
    cases hf : fiV R L with
    | none =>
      rw [fiZ_none hf]
      have hfin := HDN.out L r hA hf
      have HFIN := Lib.hid hfin
      have hbel := hT.bel
      clear hT hA hFI hLO hWI hfin
      go_wp2_with fail
      go_ret
      exact ⟨ret_int (by rw [HFIN.out]), hbel⟩
    | some q =>
      rw [fiZ_some hf]
      have hqc := (fiV_some.1 hf).1
      have hmc := hML wr hT.bel q hqc
      obtain ⟨hfr, hnx⟩ := HNX.out L r q hA hf
      have hLl := hA.lay.len
      have hLy := hA.lay
      have hWT := nT_with hR hLl (c := q)
      have hlol := lowN_le R L q
      obtain ⟨lo, hlo⟩ : ∃ lo, lowN R L q = lo := ⟨_, rfl⟩
      rw [hlo] at hWT hlol hnx
      have HWT := Lib.hid hWT
      have HLY := Lib.hid hLy
      have HLL := Lib.hid hLl
      obtain ⟨z, hz⟩ : ∃ z, M.getD q 0 = z := ⟨_, rfl⟩
      rw [hz] at hmc hfr hnx
      obtain ⟨b0, b1, b2⟩ := blk3 hT.box
      have HZ := Lib.hid hz
      clear hlo hWT hLl hLy hA hz
      rcases hnx with ⟨rfl, hA2⟩ | ⟨rfl, hA2⟩
      · have hL2 := hLO L g c1 wr.drew HLY.out (hT.below (Below.refl _ _).drew) q hqc 1 ⟨by omega, by omega⟩
        rw [if_pos hfr] at hL2
        have hon := opN_lay hR HLL.out (by decide) hfr
        have HFR := Lib.hid hfr
        clear hfr
        go_upto_region 12 with fail
        go_region_with
          (first
            | (go_at_call 53; (with_reducible refine (unhide hL2).mono ?_); rintro e w7 ⟨g7, c7, c7', rfl, ho7, hb7⟩))
        all_goals
          have hB7 := hT.bel.drew
          have hT7 : TW w w7 R A c g7 c7 (lyV R L q 1) := ⟨hB7.trans (hb7.mono hB7.size), hT.box.drew.below hb7 hT.box.drew.lt, some ⟨g7, 0, none⟩, c7, c7', by rw [hA2.lay.len], by rw [hA2.lay.len]; exact own_mono ho7 hB7.size⟩
          clear hT hb7 ho7 hL2 b0 b1 b2 hmc hB7
          obtain ⟨b0, b1, b2⟩ := blk3 hT7.box
          have hF7 := hFI _ _ _ _ hA2.lay.len hT7
          go_wp2_with fail
          refine (unhide hF7).mono ?_
          rintro e w8 ⟨rfl, hb8⟩
          have hT8 := hT7.below hb8
          clear hT7 hb8 b0 b1 b2 hF7
          go_wp2_with fail
          go_roundg (opN R (lyV R L q 1))
          case measure => have := HQ.out; omega
          case rel => exact ⟨_, g7, c7, r, rfl, rfl, rfl, rfl, hT8, hA2⟩
      · have hL1 := hLO L g c1 wr HLY.out hT q hqc 1 ⟨by omega, by omega⟩
        have HFR := Lib.hid hfr
        have hbdr : r + lo ≤ nT R := by have := hA2.le; omega
        obtain ⟨fb, hfb⟩ : ∃ fb, frB R L q 1 = fb := ⟨_, rfl⟩
        have hM5 : (if frB R L q 1 = true then lyV R L q 1 else L).length = R.C.length := by
          split
          · rw [lyV_len]; exact HLL.out
          · exact HLL.out
        clear hfr
        go_wp2_with fail
        refine (unhide hL1).mono ?_
        rintro e w5 ⟨g5, c5, c5', rfl, ho5, hb5⟩
        have hT5 := hT.below hb5
        have hN5 : LiAt w5 w.heap.size (.slice (some ⟨g5, 0, none⟩) R.C.length c5) (if frB R L q 1 = true then lyV R L q 1 else L) := ⟨some ⟨g5, 0, none⟩, c5, c5', by rw [hM5], by rw [hM5]; exact own_mono ho5 hT.bel.size⟩
        clear hb5 b0 b1 b2 hL1 ho5 hM5
        obtain ⟨M5, hM5⟩ : ∃ M5, M5 = (if frB R L q 1 = true then lyV R L q 1 else L) := ⟨_, rfl⟩
        rw [← hM5] at hN5
        have HM5 := Lib.hid hM5
        have HW2 := HWT.out
        clear hM5 HWT
        rw [hfb] at HM5 HW2 ⊢
        have HFB1 := Lib.hid hfb
        have HWT := Lib.hid HW2
        have hmc5 := hML w5 hT5.bel q hqc
        clear hfb HW2 hT hmc
        rw [HZ.out] at hmc5
        cases fb with
        | true =>
          have hMl : M5.length = R.C.length := by rw [HM5.out, if_pos rfl, lyV_len]; exact HLL.out
          have hW5 := hWI M5 g5 c5 w5 hMl hT5.bel hN5
          have hval : nT (less R M5) = lo := by
            have := HWT.out
            rw [if_pos rfl] at this
            rw [HM5.out, if_pos rfl]; exact this
          rw [hval] at hW5
          obtain ⟨b0, b1, b2⟩ := blk3 hT5.box
          have hwr : IntKind.i64.wrap ((r : Int) + (lo : Int)) = (r : Int) + (lo : Int) := IntWalk.i64_in _ (by omega)
          clear hval hMl
          go_wp2_with fail
          refine (unhide hW5).mono ?_
          rintro e w6 ⟨rfl, hb6⟩
          have hT6 := hT5.below hb6
          have hmc6 := cell_kept hmc5 hb6
          clear hW5 hT5 hN5 hb6 hmc5 b0 b1 b2
          have hmc5 := hmc6
          clear hmc6
          have hL2 := hLO L g c1 w6.drew HLY.out (hT6.below (Below.refl _ _).drew) q hqc 2 ⟨by omega, by omega⟩
          rw [if_pos HFR.out] at hL2
          have hon := opN_lay hR HLL.out (by decide) HFR.out
          obtain ⟨b0, b1, b2⟩ := blk3 hT6.box
          go_upto_region 12 with fail
          go_region_with
            (first
              | (go_at_call 53; (with_reducible refine (unhide hL2).mono ?_); rintro e w7 ⟨g7, c7, c7', rfl, ho7, hb7⟩))
          all_goals
            have hB7 := hT6.bel.drew
            have hT7 : TW w w7 R A c g7 c7 (lyV R L q 2) := ⟨hB7.trans (hb7.mono hB7.size), hT6.box.drew.below hb7 hT6.box.drew.lt, some ⟨g7, 0, none⟩, c7, c7', by rw [hA2.lay.len], by rw [hA2.lay.len]; exact own_mono ho7 hB7.size⟩
            clear hT6 hb7 ho7 hL2 b0 b1 b2 hmc5 hB7
            obtain ⟨b0, b1, b2⟩ := blk3 hT7.box
            have hF7 := hFI _ _ _ _ hA2.lay.len hT7
            go_wp2_with fail
            refine (unhide hF7).mono ?_
            rintro e w8 ⟨rfl, hb8⟩
            have hT8 := hT7.below hb8
            clear hT7 hb8 b0 b1 b2 hF7
            go_wp2_with fail
            go_roundg (opN R (lyV R L q 2))
            case measure => have := HQ.out; omega
            case rel => exact ⟨_, g7, c7, r + lo, rfl, by congr 1, rfl, rfl, hT8, hA2⟩
        | false =>
          have hval : lo = 0 := by
            have := HWT.out
            rw [if_neg (by simp)] at this
            exact this.symm
          subst hval
          clear hN5
          have hL2 := hLO L g c1 w5.drew HLY.out (hT5.below (Below.refl _ _).drew) q hqc 2 ⟨by omega, by omega⟩
          rw [if_pos HFR.out] at hL2
          have hon := opN_lay hR HLL.out (by decide) HFR.out
          obtain ⟨b0, b1, b2⟩ := blk3 hT5.box
          go_upto_region 12 with fail
          go_region_with
            (first
              | (go_at_call 53; (with_reducible refine (unhide hL2).mono ?_); rintro e w7 ⟨g7, c7, c7', rfl, ho7, hb7⟩))
          all_goals
            have hB7 := hT5.bel.drew
            have hT7 : TW w w7 R A c g7 c7 (lyV R L q 2) := ⟨hB7.trans (hb7.mono hB7.size), hT5.box.drew.below hb7 hT5.box.drew.lt, some ⟨g7, 0, none⟩, c7, c7', by rw [hA2.lay.len], by rw [hA2.lay.len]; exact own_mono ho7 hB7.size⟩
            clear hT5 hb7 ho7 hL2 b0 b1 b2 hmc5 hB7
            obtain ⟨b0, b1, b2⟩ := blk3 hT7.box
            have hF7 := hFI _ _ _ _ hA2.lay.len hT7
            go_wp2_with fail
            refine (unhide hF7).mono ?_
            rintro e w8 ⟨rfl, hb8⟩
            have hT8 := hT7.below hb8
            clear hT7 hb8 b0 b1 b2 hF7
            go_wp2_with fail
            go_roundg (opN R (lyV R L q 2))
            case measure => have := HQ.out; omega
            case rel => exact ⟨_, g7, c7, r + 0, rfl, rfl, rfl, rfl, hT8, hA2⟩

end Go.Proofs.YthepfpiphlfgnaaGreat

/-
  YthepfpiphlfgnaaGreatPm: PushedMany of the program.
-/
namespace Go.Proofs.YthepfpiphlfgnaaGreat
open Go.RowKit

/-- What pushes leave of the first tilings, each once. -/
noncomputable def pmT (R : Reg) (ps : List (Int × Bool)) (k : Nat) : List (List Int) := onceU (((tilT R).take k).map fun M => ruV R M ps)
theorem pmT_succ {R : Reg} {ps : List (Int × Bool)} {k : Nat} {M : List Int} (h : (tilT R)[k]? = some M) : pmT R ps (k + 1) = addU (pmT R ps k) (ruV R M ps) := by
  unfold pmT onceU
  rw [List.take_add_one, h, List.map_append, List.foldl_append]; rfl
theorem pmT_all (R : Reg) (ps : List (Int × Bool)) : pmT R ps (tilT R).length = pmL R ps := by unfold pmT pmL; rw [List.take_length]
theorem pmT_le (R : Reg) (ps : List (Int × Bool)) (k : Nat) : (pmT R ps k).length ≤ k := by
  have := onceU_le (((tilT R).take k).map fun M => ruV R M ps)
  rw [List.length_map, List.length_take] at this
  unfold pmT; omega
theorem pmT_len {R : Reg} (hR : R.ok) {ps : List (Int × Bool)} {k : Nat} : ∀ N ∈ pmT R ps k, N.length = R.C.length := fun N hN => by
  unfold pmT at hN
  rw [mem_onceU] at hN
  obtain ⟨M, hM, rfl⟩ := List.mem_map.1 hN
  exact (tile_ruV hR ((tilT_iff hR).1 (List.mem_of_mem_take hM))).1.len
theorem pushes_k9 {R : Reg} (hR : R.ok) {ps : List (Int × Bool)} (h : pushesB R.W R.T R.C ps = true) : ∀ p ∈ ps, p.1 ≤ 9223372036854775807 := fun p hp => by
  unfold pushesB at h
  simp only [Bool.and_eq_true, List.all_eq_true] at h
  have := h.2.2 p hp
  rw [cornersB_cn hR] at this
  have := (cn_bd hR).2
  simp only [inB, decide_eq_true_eq] at *
  omega

set_option maxHeartbeats 4000000 in
set_option maxRecDepth 20000 in
theorem pushedManyI_ok (R : Reg) (hR : R.ok) (hS : SimpleP R) (A : Option Addr) (c B : Nat) (P : Option Addr) (m pc' E : Nat) (ps : List (Int × Bool)) (hps : pushesB R.W R.T R.C ps = true) (w : World)
    (hr : Reads w B 1 A R.C.length (R.C.map Value.bool)) (hB : B ≤ w.heap.size) (hm : ps.length = m) (hp : Reads w E 2 P m (pc ps)) (hE : E ≤ w.heap.size) (hmm : m ≤ 9223372036854775807) :
    Calls Tryz.prog 5 #[.agg #[.int .i64 R.W, .int .i64 R.T, .slice A R.C.length c], .slice P m pc'] w fun e w' => e = .returned (.int .i64 ((pmL R ps).length : Nat)) ∧ Below w.heap.size w w' := by
  have hl36 := (len_bd hR).2
  have hl1 := (len_bd hR).1
  have hmf : ∀ (fn : Fn) (first cap : Array Value) (w : World), (Instr.makeFunc fn first cap).run Tryz.prog w = .ok (.func fn first cap) w := fun _ _ _ _ => rfl
  have hPV := fun w' (h : Below w.heap.size w w') => hide (PushesValidI_any R.W R.T A R.C.length c B R.C P m pc' E ps w' rfl (hr.below (h.mono hB)) (Nat.le_trans hB h.size) (by omega) hm (hp.below (h.mono hE)) (Nat.le_trans hE h.size) hmm)
  simp only [hps] at hPV
  have hk9 := pushes_k9 hR hps
  have hTI := fun w' (h : Below w.heap.size w w') => hide (tilings_any R hR A c B w' (hr.below (h.mono hB)) (Nat.le_trans hB h.size))
  have hRU : ∀ (M : List Int) (g d : Nat) w', Tile R M → Below w.heap.size w w' → Reads w' w'.heap.size 1 (some ⟨g, 0, none⟩) R.C.length (M.map (Value.int .i64)) → Hid (Calls Tryz.prog 15 #[.agg #[.int .i64 R.W, .int .i64 R.T, .slice A R.C.length c], .slice (some ⟨g, 0, none⟩) R.C.length d, .slice P m pc'] w' (RetInts w' (ruV R M ps))) := fun M g d w' hM h ha =>
    hide (run_any R hR hS A c w'.heap.size M (some ⟨g, 0, none⟩) d P m pc' w'.heap.size ps hk9 (.inr ⟨g, 0, rfl⟩) hM w' ((hr.below (h.mono hB)).more (Nat.le_trans hB h.size)) ha (Nat.le_refl _) hm ((hp.below (h.mono hE)).more (Nat.le_trans hE h.size)) (Nat.le_refl _) hmm)
  have hTl : ∀ (k : Nat) (M : List Int), (tilT R)[k]? = some M → Tile R M := fun k M h => (tilT_iff hR).1 (List.mem_of_getElem? h)
  have HTL := Lib.hid hTl
  have hln : ∀ (M : List Int), Tile R M → (ruV R M ps).length = R.C.length := fun M h => (tile_ruV hR h).1.len
  have HLN := Lib.hid hln
  have hsu := fun n M h => pmT_succ (R := R) (ps := ps) (k := n) (M := M) h
  have HSU := Lib.hid hsu
  have hbd := fun n => pmT_le R ps n
  have HBD := Lib.hid hbd
  have hpl := fun n => pmT_len hR (ps := ps) (k := n)
  have HPL := Lib.hid hpl
  have hnl := tilT_len R
  have HNL := Lib.hid hnl
  have hal := pmT_all R ps
  have HAL := Lib.hid hal
  have hb0 : Below w.heap.size w (w.alloc (boxR R.W R.T A R.C.length c)) := (Below.refl _ _).alloc (Nat.le_refl _) _
  have k0 : Blk (w.alloc (boxR R.W R.T A R.C.length c)) w.heap.size 25 #[.int .i64 R.W, .int .i64 R.T, .slice A R.C.length c] := Blk.new _ _ _
  clear hTl hsu hbd hnl hr hp hps hk9 hpl hln hal
  generalize tilT R = TT at *
  generalize pmL R ps = PM at *
  go_enter Tryz.func5, Tryz.ntmps5
  go_wp2_with fail
  refine (unhide (hPV _ hb0)).mono ?_
  rintro e w1 ⟨rfl, hb1⟩
  have hB1 := hb0.trans (hb1.mono hb0.size)
  have k1 := k0.below hb1 k0.lt
  obtain ⟨b0, b1, b2⟩ := blk3 k1
  clear k0 hb0 hb1 hPV
  go_wp2_with fail
  refine (unhide (hTI _ hB1)).mono ?_
  rintro e w3 ⟨A3, c3, c3', xs, rfl, hR3, hb3⟩
  have hB3 := hB1.trans (hb3.mono hB1.size)
  have k3 := k1.below hb3 k1.lt
  clear b0 b1 b2 k1 hb3 hB1 hTI
  have hR3' := hR3.mono (b' := 0) (by omega)
  clear hR3
  have hstart : RowsOf w3 w3.heap.size R.C.length (.slice none 0 0) [] (pmT R ps 0) := RowsOf.nil _ _ _
  go_wp2_with fail
  go_loopg [5, 16] TT.length (fun r s5 s16 wr => ∃ (k : Nat) (Pm : Option Addr) (cm : Nat) (ys : List Value), k + r = TT.length ∧ s16 = .int .i64 (k : Nat) ∧ s5 = .slice Pm (pmT R ps k).length cm ∧ Below w3.heap.size w3 wr ∧ RowsOf wr w3.heap.size R.C.length (.slice Pm (pmT R ps k).length cm) ys (pmT R ps k))
  case atStart => exact ⟨0, none, 0, [], by omega, rfl, rfl, Below.refl _ _, hstart⟩
  case round =>
    clear hstart
    obtain ⟨k, Pm, cm, ys, hk, rfl, rfl, hbW, hmet⟩ := hrel
    have HK := Lib.hid hk
    clear hk
    by_cases hlt : k < TT.length
    · have hrow := hR3'.below hbW
      have hbk := k3.below hbW k3.lt
      have hBw := hB3.trans (hbW.mono hB3.size)
      obtain ⟨x, M, hx, hM, hin⟩ := hrow.at_ hlt
      obtain ⟨gx, cx, rfl, hrx⟩ := hin.reads
      have hTM := HTL.out k M hM
      have hown := hrow.own
      rw [hrow.len] at hown
      obtain ⟨g3, cg3, hsh3, _, _, _⟩ := own_shape hown (by omega)
      simp only [Value.slice.injEq, true_and] at hsh3
      obtain ⟨rfl, rfl⟩ := hsh3
      have hxc : wr.cell? ⟨g3, k, none⟩ = some (.slice (some ⟨gx, 0, none⟩) R.C.length cx) := by rw [hown.cellAt k (by omega)]; exact hx
      have hHk := hRU M gx cx wr hTM hBw hrx
      have hs1 := HSU.out k M hM
      have HS1 := Lib.hid hs1
      have hNl := HLN.out M hTM
      have hbdk := HBD.out k
      have hnl := HNL.out
      have hplk := HPL.out k
      have HPLK := Lib.hid hplk
      generalize ruV R M ps = N at *
      generalize hst : pmT R ps k = st at *
      have HST := Lib.hid hst
      obtain ⟨b0, b1, b2⟩ := blk3 hbk
      clear hs1 hM hx hown hin hrx hTM hrow hst hplk
      go_wp2_with fail
      refine (unhide hHk).mono ?_
      rintro e w4 ⟨A4, c4, c4', he, ho4, hb4⟩
      rw [hNl] at he ho4
      subst he
      obtain ⟨g4, cg4, hsh4, _, _, _⟩ := own_shape ho4 (by omega)
      simp only [Value.slice.injEq] at hsh4
      obtain ⟨rfl, _, rfl⟩ := hsh4
      have hbW4 := hbW.trans (hb4.mono hbW.size)
      have hmet4 := hmet.below hb4
      have ho4' := own_mono ho4 hbW.size
      clear hHk b0 b1 b2 hxc hb4 hmet ho4 hbk hBw hbW
      go_upto_region 8 with fail
      have hq5 := Blk.new w4 42 #[.slice (some ⟨g4, 0, none⟩) R.C.length c4']
      have hb5 : Below w4.heap.size w4 (w4.alloc (.cells #[.slice (some ⟨g4, 0, none⟩) R.C.length c4'] 42)) := (Below.refl _ _).alloc (Nat.le_refl _) _
      have hbW5 := hbW4.trans (hb5.mono hbW4.size)
      have hmet5 := hmet4.below hb5
      have ho5 := ho4'.alloc (.cells #[.slice (some ⟨g4, 0, none⟩) R.C.length c4'] 42)
      clear hbW4 hmet4 ho4' hb5
      generalize w4.alloc (.cells #[.slice (some ⟨g4, 0, none⟩) R.C.length c4'] 42) = w5 at *
      generalize w4.heap.size = q at *
      have hCO := hide (pmContains_any q R.C.length w3.heap.size g4 c4' st.length cm cm Pm N ys st w5 hq5 hNl (by omega) (Reads.of_own ho5) hmet5 rfl (by omega) HPLK.out)
      by_cases hin : N ∈ st
      · rw [decide_eq_true hin] at hCO
        have HA := Lib.hid (addU_in hin)
        clear hin
        go_wp2_with fail
        refine (unhide hCO).mono ?_
        rintro e w6 ⟨rfl, hb6⟩
        have hbW6 := hbW5.trans (hb6.mono hbW5.size)
        have hmet6 := hmet5.below hb6
        clear hbW5 hmet5 ho5 hb6 hq5 hCO
        go_wp2_with fail
        go_roundg (TT.length - (k + 1))
        case measure => have := HK.out; omega
        case rel =>
          have e : pmT R ps (k + 1) = st := HS1.out.trans HA.out
          exact ⟨k + 1, Pm, cm, ys, by have := HK.out; omega, by go_num, by rw [e], hbW6, by rw [e]; exact hmet6⟩
      · rw [decide_eq_false hin] at hCO
        have HA := Lib.hid (addU_out hin)
        clear hin
        go_wp2_with fail
        refine (unhide hCO).mono ?_
        rintro e w6 ⟨rfl, hb6⟩
        have hbW6 := hbW5.trans (hb6.mono hbW5.size)
        have hmet6 := hmet5.below hb6
        have ho6 := own_below ho5 hb6 (Nat.le_refl _)
        have hq6 := (hq5.below hb6 hq5.lt).cell 0
        simp at hq6
        have hyl := hmet6.len
        have HYL := Lib.hid hyl
        have hsz := hbW6.size
        clear hbW5 hmet5 ho5 hb6 hq5 hCO hyl
        go_wp2_with (at_builtin; refine wpList_app rfl _ _ _ rfl w3.heap.size 42 _ 24 Tryz.underlying40 info_ints rfl (by omega) (.slice Pm st.length cm) ys.length ys rfl (hmet6.own.alloc _) w6.heap.size (.slice (some ⟨g4, 0, none⟩) R.C.length c4') rfl ?c1 rfl (by have := HYL.out; omega) ?c2 ?_)
        case c1 => simp
        case c2 => simp; omega
        rintro g' c' w7 hown hgr _ _ _
        have hmet7 := hmet6.app (x := .slice (some ⟨g4, 0, none⟩) R.C.length c4') (L := N) ⟨g4, _, _, rfl, ho6⟩ hown hgr
        have hbW7 := (hbW6.alloc hbW6.size _).grown hgr (by simp; omega) (fun j hj => (own_in hmet6.own hj).1)
        clear hbW6 hmet6 ho6 hq6 hown hgr
        rw [HYL.out] at hmet7 ⊢
        go_wp2_with fail
        go_roundg (TT.length - (k + 1))
        case measure => have := HK.out; omega
        case rel =>
          have e : pmT R ps (k + 1) = st ++ [N] := HS1.out.trans HA.out
          have el : (pmT R ps (k + 1)).length = st.length + 1 := by rw [e, List.length_append]; rfl
          exact ⟨k + 1, _, c', _, by have := HK.out; omega, by go_num, by rw [el], hbW7, by rw [el, e]; exact hmet7⟩
    · obtain rfl : k = TT.length := by have := HK.out; omega
      have hBw := hB3.trans (hbW.mono hB3.size)
      rw [HAL.out]
      clear hmet hbW hR3' k3 hB3
      go_wp2_with fail
      go_ret
      exact ⟨rfl, hBw⟩

end Go.Proofs.YthepfpiphlfgnaaGreat

/-
  YthepfpiphlfgnaaGreatPn: PushedMany of the reference.
-/
namespace Go.Proofs.YthepfpiphlfgnaaGreat
open Go.RowKit

theorem pmT_tile {R : Reg} (hR : R.ok) {ps : List (Int × Bool)} {k : Nat} : ∀ N ∈ pmT R ps k, Tile R N := fun N hN => by
  unfold pmT at hN
  rw [mem_onceU] at hN
  obtain ⟨M, hM, rfl⟩ := List.mem_map.1 hN
  exact tile_ruV hR ((tilT_iff hR).1 (List.mem_of_mem_take hM))

set_option maxHeartbeats 4000000 in
set_option maxRecDepth 20000 in
theorem pushedManyS_ok (R : Reg) (hR : R.ok) (hS : SimpleP R) (A : Option Addr) (c B : Nat) (P : Option Addr) (m pc' E : Nat) (ps : List (Int × Bool)) (hps : pushesB R.W R.T R.C ps = true) (w : World)
    (hr : Reads w B 1 A R.C.length (R.C.map Value.bool)) (hB : B ≤ w.heap.size) (hm : ps.length = m) (hp : Reads w E 2 P m (pc ps)) (hE : E ≤ w.heap.size) (hmm : m ≤ 9223372036854775807) :
    Calls Tryz.prog 6 #[.agg #[.int .i64 R.W, .int .i64 R.T, .slice A R.C.length c], .slice P m pc'] w fun e w' => e = .returned (.int .i64 ((pmL R ps).length : Nat)) ∧ Below w.heap.size w w' := by
  have hl36 := (len_bd hR).2
  have hl1 := (len_bd hR).1
  have hnT : (tilT R).length ≤ 262144 := nT_le R
  have hrd : ∀ w', Below w.heap.size w w' → Reads w' w'.heap.size 1 A R.C.length (R.C.map Value.bool) := fun w' h => (hr.below (h.mono hB)).more (Nat.le_trans hB h.size)
  have hPV := fun w' (h : Below w.heap.size w w') => hide (PushesValidS_any R.W R.T A R.C.length c w'.heap.size R.C P m pc' E ps w' rfl (hrd w' h) (Nat.le_refl _) (by omega) hm (hp.below (h.mono hE)) (Nat.le_trans hE h.size) hmm)
  simp only [hps] at hPV
  have hTI := fun w' (h : Below w.heap.size w w') => hide (tilingsAllS_ok R hR A c w'.heap.size w' (hrd w' h) (Nat.le_refl _))
  have hRU : ∀ (M : List Int) (g d : Nat) w', Tile R M → Below w.heap.size w w' → Reads w' w'.heap.size 1 (some ⟨g, 0, none⟩) R.C.length (M.map (Value.int .i64)) → Hid (Calls Tryz.prog 22 #[.agg #[.int .i64 R.W, .int .i64 R.T, .slice A R.C.length c], .slice (some ⟨g, 0, none⟩) R.C.length d, .slice P m pc'] w' (RetInts w' (ruV R M ps))) := fun M g d w' hM h ha => by
    have := pushRunS_any R.W R.T A R.C.length c w'.heap.size R.C M (some ⟨g, 0, none⟩) R.C.length d P m pc' E ps w' rfl hM.1.len (hrd w' h) ha (Nat.le_refl _) (by omega) (by omega) hm (hp.below (h.mono hE)) (Nat.le_trans hE h.size) hmm
    rw [prV_yes ((tiled_ok hR).2 ⟨hS, hM.1, hM.2⟩) hps] at this
    exact hide this
  have hRK : ∀ (X : List Int) (gd d : Nat) w', Tile R X → Below w.heap.size w w' → Reads w' w'.heap.size 1 (some ⟨gd, 0, none⟩) R.C.length (X.map (Value.int .i64)) → Hid (Calls Tryz.prog 21 #[.agg #[.int .i64 R.W, .int .i64 R.T, .slice A R.C.length c], .slice (some ⟨gd, 0, none⟩) R.C.length d] w' fun e w'' => e = .returned (.int .i64 (rkI R X)) ∧ Below w'.heap.size w' w'') := fun X gd d w' hX h ha =>
    hide (rankOfS_ok R hR A c w'.heap.size X hX gd d w' (hrd w' h) ha (Nat.le_refl _))
  have hTl : ∀ (k : Nat) (M : List Int), (tilT R)[k]? = some M → Tile R M := fun k M h => (tilT_iff hR).1 (List.mem_of_getElem? h)
  have HTL := Lib.hid hTl
  have hTN : ∀ (M : List Int), Tile R M → Tile R (ruV R M ps) := fun M h => tile_ruV hR h
  have HTN := Lib.hid hTN
  have hsu : ∀ k M, (tilT R)[k]? = some M → (pmT R ps (k + 1)).map (rkI R) = if rkI R (ruV R M ps) ∈ (pmT R ps k).map (rkI R) then (pmT R ps k).map (rkI R) else (pmT R ps k).map (rkI R) ++ [rkI R (ruV R M ps)] := fun k M h => by
    rw [pmT_succ h]
    exact rkI_add hR (pmT_tile hR) (tile_ruV hR (hTl k M h))
  have HSU := Lib.hid hsu
  have hbd : ∀ k, ((pmT R ps k).map (rkI R)).length ≤ k := fun k => by rw [List.length_map]; exact pmT_le R ps k
  have HBD := Lib.hid hbd
  have hal : ((pmT R ps (tilT R).length).map (rkI R)).length = (pmL R ps).length := by rw [List.length_map, pmT_all]
  have HAL := Lib.hid hal
  have h0 : (pmT R ps 0).map (rkI R) = [] := by simp [pmT, onceU]
  have H0 := Lib.hid h0
  have hb0 : Below w.heap.size w (w.alloc (boxR R.W R.T A R.C.length c)) := (Below.refl _ _).alloc (Nat.le_refl _) _
  have k0 : Blk (w.alloc (boxR R.W R.T A R.C.length c)) w.heap.size 25 #[.int .i64 R.W, .int .i64 R.T, .slice A R.C.length c] := Blk.new _ _ _
  clear hTl hTN hsu hbd hr hp hps hal h0
  generalize tilT R = TT at *
  generalize pmL R ps = PM at *
  go_enter Tryz.func6, Tryz.ntmps6
  go_wp2_with fail
  refine (unhide (hPV _ hb0)).mono ?_
  rintro e w1 ⟨rfl, hb1⟩
  have hB1 := hb0.trans (hb1.mono hb0.size)
  have k1 := k0.below hb1 k0.lt
  clear k0 hb0 hb1 hPV
  go_upto_region 4 with fail
  have hA2 : AW w (w1.alloc (.cells #[] 3)) R.W R.T A R.C.length c w1.heap.size 0 [] := by
    have hk := k1.lt
    refine ⟨hB1.alloc hB1.size _, k1.alloc _, ?_⟩
    have := World.ownsRow_made (base := w.heap.size + 1) (e := 3) (size := 1) w1 #[] 0 (by omega) (by simp [maxLen]) (by simp)
    simpa using this
  clear k1 hB1
  have hgl : w1.heap.size < (w1.alloc (.cells #[] 3)).heap.size := by simp
  generalize w1.alloc (.cells #[] 3) = w2 at *
  generalize w1.heap.size = g0 at *
  obtain ⟨b0, b1, b2⟩ := hA2.cells
  go_wp2_with fail
  refine (unhide (hTI _ hA2.bel)).mono ?_
  rintro e w3 ⟨A3, c3, xs, rfl, hR3, hb3, _⟩
  have hG3 := GrW.start (b := w2.heap.size) (hA2.below hb3) hgl
  clear b0 b1 b2 hA2 hb3 hTI hgl
  go_wp2_with fail
  go_loopg [5, 7] TT.length (fun r s5 s7 wr => ∃ (k g cc : Nat) (L : List Int), k + r = TT.length ∧ (pmT R ps k).map (rkI R) = L ∧ s7 = .int .i64 (k : Nat) ∧ s5 = .slice (some ⟨g, 0, none⟩) L.length cc ∧ GrW w w3 wr R.W R.T A R.C.length c w2.heap.size g cc L)
  case atStart => exact ⟨0, g0, 0, [], by omega, H0.out, rfl, rfl, hG3⟩
  case round =>
    clear hG3
    obtain ⟨k, g, cc, L, hk, hL, rfl, rfl, hG⟩ := hrel
    have HK := Lib.hid hk
    have HL := Lib.hid hL
    have hLl : L.length ≤ k := by rw [← hL]; exact HBD.out k
    clear hk hL
    by_cases hlt : k < TT.length
    · obtain ⟨x, M, hx, hM, hin⟩ := (hR3.keep hG.kp).at_ hlt
      obtain ⟨gx, cx, rfl, hrx⟩ := hin.reads
      have hTM := HTL.out k M hM
      have hown := (hR3.keep hG.kp).own
      rw [hR3.len] at hown
      obtain ⟨g3, cg3, hsh3, _, _, _⟩ := own_shape hown (by omega)
      simp only [Value.slice.injEq, true_and] at hsh3
      obtain ⟨rfl, rfl⟩ := hsh3
      have hxc : wr.cell? ⟨g3, k, none⟩ = some (.slice (some ⟨gx, 0, none⟩) R.C.length cx) := by rw [hown.cellAt k (by omega)]; exact hx
      have hd0 := (Below.refl wr.heap.size wr).drew
      have hHk := hRU M gx cx wr.drew hTM hG.aw.bel.drew hrx
      have hs1 := HSU.out k M hM
      rw [HL.out] at hs1
      have HS1 := Lib.hid hs1
      have hTNk := HTN.out M hTM
      have HTNK := Lib.hid hTNk
      have hNl := hTNk.1.len
      generalize ruV R M ps = N at *
      have hRKN := fun gd d w' h ha => hRK N gd d w' HTNK.out h ha
      have hG4 := hG.below hd0
      have hxcd := cell_kept hxc hd0
      clear hs1 hM hx hown hin hrx hTM hTNk hRK
      go_upto_region 8 with fail
      refine wp_region_held_drew (S := (fun w' => (w'.cell? ⟨w.heap.size, 0, none⟩ = some (.int .i64 R.W) ∧ w'.cell? ⟨w.heap.size, 1, none⟩ = some (.int .i64 R.T) ∧ w'.cell? ⟨w.heap.size, 2, none⟩ = some (.slice A R.C.length c)) ∧ w'.cell? ⟨g3, k, none⟩ = some (.slice (some ⟨gx, 0, none⟩) R.C.length cx))) (by kernel_rfl) ⟨hG4.aw.cells, hxcd⟩ ?_
      intro hHeld
      refine wpAnyH_take (i := 0) (v := ?_) rfl (by kernel_rfl) (by kernel_rfl) (by kernel_rfl) (fun _ _ _ h => h) (Or.inl ⟨by kernel_rfl, ?_⟩) hHeld ?_
      rotate_left
      · intro w' hS'
        obtain ⟨⟨x0, x1, x2⟩, x3⟩ := hS'
        go_simp
        try with_reducible rfl
      refine wpAnyH_take (i := 1) (v := ?_) rfl (by kernel_rfl) (by kernel_rfl) (by kernel_rfl) (fun _ _ _ h => h) (Or.inl ⟨by kernel_rfl, ?_⟩) hHeld ?_
      rotate_left
      · intro w' hS'
        obtain ⟨⟨x0, x1, x2⟩, x3⟩ := hS'
        go_simp
        try with_reducible rfl
      refine wpAnyH_take (i := 2) (v := ?_) rfl (by kernel_rfl) (by kernel_rfl) (by kernel_rfl) (fun _ _ _ h => h) (Or.inl ⟨by kernel_rfl, ?_⟩) hHeld ?_
      rotate_left
      · intro w' hS'
        clear hS'
        go_simp
        try with_reducible rfl
      refine wpAnyH_take (i := 3) (v := ?_) rfl (by kernel_rfl) (by kernel_rfl) (by kernel_rfl) (fun _ _ _ h => h) (Or.inl ⟨by kernel_rfl, ?_⟩) hHeld ?_
      rotate_left
      · intro w' hS'
        clear hS'
        go_simp
        try with_reducible rfl
      refine wpAnyH_take (i := 4) (v := ?_) rfl (by kernel_rfl) (by kernel_rfl) (by kernel_rfl) (fun _ _ _ h => h) (Or.inl ⟨by kernel_rfl, ?_⟩) hHeld ?_
      rotate_left
      · intro w' hS'
        clear hS'
        go_simp
        try with_reducible rfl
      refine wpAnyH_take (i := 5) (v := ?_) rfl (by kernel_rfl) (by kernel_rfl) (by kernel_rfl) (fun _ _ _ h => h) (Or.inl ⟨by kernel_rfl, ?_⟩) hHeld ?_
      rotate_left
      · intro w' hS'
        obtain ⟨⟨x0, x1, x2⟩, x3⟩ := hS'
        go_simp
        try with_reducible rfl
      refine wpAnyH_take (i := 6) (v := ?_) rfl (by kernel_rfl) (by kernel_rfl) (by kernel_rfl) (fun _ _ _ h => h) (Or.inl ⟨by kernel_rfl, ?_⟩) hHeld ?_
      rotate_left
      · intro w' hS'
        clear hS'
        go_simp
        try with_reducible rfl
      refine wpAnyH_ready (rs := [7]) (by kernel_rfl) (by simp) ?_
      refine AllReadyH.cons rfl (fun K hK => ?_) AllReadyH.nil
      go_simp
      go_at_call 22
      (with_reducible refine (unhide hHk).mono ?_)
      rintro e w5 ⟨A5, c5, c5', he, ho5, hb5⟩
      rw [hNl] at he ho5
      subst he
      obtain ⟨g5, cg5, hsh5, _, _, _⟩ := own_shape ho5 (by omega)
      simp only [Value.slice.injEq] at hsh5
      obtain ⟨rfl, _, rfl⟩ := hsh5
      have hG5 := hG4.below hb5
      have hxc5 := cell_kept hxcd hb5
      have hRN := hRKN g5 c5' w5 hG5.aw.bel (Reads.of_own ho5)
      refine hK.out _ _ ?_ ?_
      · exact ⟨hG5.aw.cells, hxc5⟩
      clear hHeld
      intro hHeld
      clear hK K
      refine wpAnyH_ready (rs := [8]) (by kernel_rfl) (by simp) ?_
      refine AllReadyH.cons rfl (fun K hK => ?_) AllReadyH.nil
      go_simp
      go_at_call 21
      (with_reducible refine (unhide hRN).mono ?_)
      rintro e w6 ⟨rfl, hb6⟩
      have hG6 := hG5.below hb6
      have hxc6 := cell_kept hxc5 hb6
      refine hK.out _ _ ?_ ?_
      · exact ⟨hG6.aw.cells, hxc6⟩
      clear hHeld
      intro hHeld
      clear hK K
      refine wpAnyH_take (i := 9) (v := ?_) rfl (by kernel_rfl) (by kernel_rfl) (by kernel_rfl) (fun _ _ _ h => h) (Or.inl ⟨by kernel_rfl, ?_⟩) hHeld ?_
      rotate_left
      · intro w' hS'
        clear hS'
        go_simp
        try with_reducible rfl
      refine wpAnyH_done (by kernel_rfl) ?_ _
      clear hHeld hG hG4 hG5 hxc hxcd hxc5 hxc6 hb5 hb6 hd0 hHk hRKN hRN ho5
      generalize rkI R N = zN at *
      have hHS := hide (hasS_any L (some ⟨g, 0, none⟩) L.length cc w6.heap.size zN w6 rfl (Reads.of_own hG6.aw.own) (by omega))
      go_simp
      by_cases hin : zN ∈ L
      · rw [decide_eq_true hin] at hHS
        have hs2 := HS1.out
        rw [if_pos hin] at hs2
        have HS2 := Lib.hid hs2
        clear hin hs2
        go_wp2_with fail
        refine (unhide hHS).mono ?_
        rintro e w7 ⟨rfl, hb7⟩
        have hG7 := hG6.below hb7
        clear hG6 hb7 hHS
        go_wp2_with fail
        go_roundg (TT.length - (k + 1))
        case measure => have := HK.out; omega
        case rel => exact ⟨k + 1, g, cc, L, by have := HK.out; omega, HS2.out, by go_num, rfl, hG7⟩
      · rw [decide_eq_false hin] at hHS
        have hs2 := HS1.out
        rw [if_neg hin] at hs2
        have HS2 := Lib.hid hs2
        clear hin hs2
        go_wp2_with fail
        refine (unhide hHS).mono ?_
        rintro e w7 ⟨rfl, hb7⟩
        have hG7 := hG6.below hb7
        clear hG6 hb7 hHS
        go_wp2_with (at_builtin; refine wpList_app rfl _ _ _ rfl (w.heap.size + 1) 3 _ 8 Tryz.underlying42 info_int rfl (by omega) _ _ _ rfl (hG7.aw.own.alloc _) w7.heap.size (.int .i64 zN) rfl ?c1 rfl (by omega) ?c2 ?_)
        case c1 => simp
        case c2 => have := hG7.aw.bel.size; have := hG7.aw.lt; simp; omega
        rintro g' c' w8 hown hgr hgg _ _
        have hG8 := hG7.app (x := zN) hown hgr hgg
        clear hown hgr hgg hG7
        go_wp2_with fail
        go_roundg (TT.length - (k + 1))
        case measure => have := HK.out; omega
        case rel => exact ⟨k + 1, g', c', L ++ [zN], by have := HK.out; omega, HS2.out, by go_num, by rw [List.length_append]; rfl, hG8⟩
    · obtain rfl : k = TT.length := by have := HK.out; omega
      have hfin : L.length = PM.length := by rw [← HL.out]; exact HAL.out
      have HF := Lib.hid hfin
      have hbel := hG.aw.bel
      clear hG hfin
      go_wp2_with fail
      go_ret
      exact ⟨ret_int (by rw [HF.out]), hbel⟩

end Go.Proofs.YthepfpiphlfgnaaGreat

/-
  YthepfpiphlfgnaaGreatPy: PushedMany of both sides, for any arguments.
-/
namespace Go.Proofs.YthepfpiphlfgnaaGreat
open Go.RowKit

theorem pushedManyI_any (W T : Int) (A : Option Addr) (n c B : Nat) (bs : List Bool) (P : Option Addr) (m d D : Nat) (ps : List (Int × Bool)) (w : World)
    (hl : bs.length = n) (hr : Reads w B 1 A n (bs.map Value.bool)) (hB : B ≤ w.heap.size) (hn : n ≤ 9223372036854775807)
    (hm : ps.length = m) (hp : Reads w D 2 P m (pc ps)) (hD : D ≤ w.heap.size) (hmm : m ≤ 9223372036854775807) :
    Calls Tryz.prog 5 #[.agg #[.int .i64 W, .int .i64 T, .slice A n c], .slice P m d] w fun e w' => e = .returned (.int .i64 (pmV W T bs ps)) ∧ Below w.heap.size w w' := by
  cases h : pushesB W T bs ps with
  | true =>
    obtain ⟨R, hR, rfl, rfl, rfl, hS⟩ := simple_cases (simple_of_pushes h)
    rw [pmV_yes h]
    subst hl
    exact pushedManyI_ok R hR hS A c B P m d D ps h w hr hB hm hp hD hmm
  | false =>
    rw [pmV_no h]
    have hb0 : Below w.heap.size w (w.alloc (boxR W T A n c)) := (Below.refl _ _).alloc (Nat.le_refl _) _
    have hPV := hide (PushesValidI_any W T A n c B bs P m d D ps _ hl (hr.below (hb0.mono hB)) (Nat.le_trans hB hb0.size) hn hm (hp.below (hb0.mono hD)) (Nat.le_trans hD hb0.size) hmm)
    rw [h] at hPV
    clear h hr hp
    go_enter Tryz.func5, Tryz.ntmps5
    go_wp2_with fail
    refine (unhide hPV).mono ?_
    rintro e w1 ⟨rfl, hb1⟩
    go_wp2_with fail
    go_ret
    exact ⟨rfl, hb0.trans (hb1.mono hb0.size)⟩

theorem pushedManyS_any (W T : Int) (A : Option Addr) (n c B : Nat) (bs : List Bool) (P : Option Addr) (m d D : Nat) (ps : List (Int × Bool)) (w : World)
    (hl : bs.length = n) (hr : Reads w B 1 A n (bs.map Value.bool)) (hB : B ≤ w.heap.size) (hn : n ≤ 9223372036854775807)
    (hm : ps.length = m) (hp : Reads w D 2 P m (pc ps)) (hD : D ≤ w.heap.size) (hmm : m ≤ 9223372036854775807) :
    Calls Tryz.prog 6 #[.agg #[.int .i64 W, .int .i64 T, .slice A n c], .slice P m d] w fun e w' => e = .returned (.int .i64 (pmV W T bs ps)) ∧ Below w.heap.size w w' := by
  cases h : pushesB W T bs ps with
  | true =>
    obtain ⟨R, hR, rfl, rfl, rfl, hS⟩ := simple_cases (simple_of_pushes h)
    rw [pmV_yes h]
    subst hl
    exact pushedManyS_ok R hR hS A c B P m d D ps h w hr hB hm hp hD hmm
  | false =>
    rw [pmV_no h]
    have hb0 : Below w.heap.size w (w.alloc (boxR W T A n c)) := (Below.refl _ _).alloc (Nat.le_refl _) _
    have hPV := hide (PushesValidS_any W T A n c B bs P m d D ps _ hl (hr.below (hb0.mono hB)) (Nat.le_trans hB hb0.size) hn hm (hp.below (hb0.mono hD)) (Nat.le_trans hD hb0.size) hmm)
    rw [h] at hPV
    clear h hr hp
    go_enter Tryz.func6, Tryz.ntmps6
    go_wp2_with fail
    refine (unhide hPV).mono ?_
    rintro e w1 ⟨rfl, hb1⟩
    go_wp2_with fail
    go_ret
    exact ⟨rfl, hb0.trans (hb1.mono hb0.size)⟩

end Go.Proofs.YthepfpiphlfgnaaGreat
