/-
  YthepfpiphlfgnaaR5: RankOf of the reference: a tiling's place among all.
-/
import Derived.Test.YthepfpiphlfgnaaR4
namespace Go.Proofs.Ythepfpiphlfgnaa
open Go.RowKit

theorem addr_at5 (g j : Nat) : (⟨g, 0, none⟩ : Addr).add j = ⟨g, j, none⟩ := by
  unfold Addr.add
  split
  · rename_i h; rw [h]
  · simp

set_option maxHeartbeats 4000000 in
set_option maxRecDepth 100000 in
theorem rankOfS_ok (R : Reg) (hR : R.ok) (A : Option Addr) (c B : Nat) (M : List Int) (hM : Tile R M) (gd d : Nat) (w : World) (hr : Reads w B 1 A R.C.length (R.C.map Value.bool)) (hd : Reads w B 1 (some ⟨gd, 0, none⟩) R.C.length (M.map (Value.int .i64))) (hB : B ≤ w.heap.size) :
    Calls Try.prog 107 #[.agg #[.int .i64 R.W, .int .i64 R.T, .slice A R.C.length c], .slice (some ⟨gd, 0, none⟩) R.C.length d] w fun e w' => e = .returned (.int .i64 (rkV R M : Nat)) ∧ Below w.heap.size w w' := by
  have hl36 := (len_bd hR).2
  have hl1 := (len_bd hR).1
  have hnT := nT_le R
  have hb0 : Below w.heap.size w (w.alloc (boxR R.W R.T A R.C.length c)) := (Below.refl _ _).alloc (Nat.le_refl _) _
  have k0 : Blk (w.alloc (boxR R.W R.T A R.C.length c)) w.heap.size 25 #[.int .i64 R.W, .int .i64 R.T, .slice A R.C.length c] := Blk.new _ _ _
  have hrd : ∀ w', Below w.heap.size w w' → Reads w' w'.heap.size 1 A R.C.length (R.C.map Value.bool) := fun w' h => (hr.below (h.mono hB)).more (Nat.le_trans hB h.size)
  have hTO := fun w' (h : Below w.heap.size w w') => hide (tilingOkS_any R.W R.T A R.C.length c w'.heap.size R.C M (some ⟨gd, 0, none⟩) R.C.length d w' rfl hM.1.len (hrd w' h) ((hd.below (h.mono hB)).more (Nat.le_trans hB h.size)) (Nat.le_refl _) (by omega) (by omega))
  have htb : tilingB R.W R.T R.C M = true := by rw [tilingB_ok hR, (laysB_iff hR).2 hM.1, (fullB_iff hR).2 hM.2]; rfl
  rw [htb] at hTO
  have hLB := fun w' (h : Below w.heap.size w w') => hide (laidBareS_ok R hR A c w'.heap.size w' (hrd w' h) (Nat.le_refl _))
  have hFI := fun (L : List Int) (g c1 : Nat) (w' : World) (hl : L.length = R.C.length) (h : TW w w' R A c g c1 L) => hide (firstS_any R hR A c w'.heap.size L (some ⟨g, 0, none⟩) c1 hl w' (hrd w' h.bel) h.li.reads.2 (Nat.le_refl _))
  have hLO := fun (L : List Int) (g c1 : Nat) (w' : World) (hl : Lay R L) (h : TW w w' R A c g c1 L) (q : Nat) (hq : q < R.C.length) (way : Int) (hw : 1 ≤ way ∧ way ≤ 4) => hide (layOneS_any R hR A c w'.heap.size L (some ⟨g, 0, none⟩) c1 q hq way hw hl w' (hrd w' h.bel) h.li.reads.2 (Nat.le_refl _))
  have hWI := fun (L : List Int) (g c1 : Nat) (w' : World) (hl : L.length = R.C.length) (hb : Below w.heap.size w w') (h : LiAt w' w.heap.size (.slice (some ⟨g, 0, none⟩) R.C.length c1) L) => hide (l3WithS_any R hR A c w'.heap.size L (some ⟨g, 0, none⟩) c1 hl w' (hrd w' hb) h.reads.2 (Nat.le_refl _))
  have hML : ∀ w', Below w.heap.size w w' → ∀ q, q < R.C.length → w'.cell? ⟨gd, q, none⟩ = some (.int .i64 (M.getD q 0)) := fun w' h q hq => by
    obtain ⟨ad, e, _, hc⟩ := (hd.below (h.mono hB)).getI hq
    injection e with e
    subst e
    rw [← addr_at5]; exact hc
  have hAT := AtM.start hR M
  have hnx := fun (L : List Int) (r q : Nat) (h : AtM R M L r) (hf : fiV R L = some q) => h.next hR hM hf
  have HNX := Lib.hid hnx
  have hdn := fun (L : List Int) (r : Nat) (h : AtM R M L r) (hf : fiV R L = none) => h.done hR hM hf
  have HDN := Lib.hid hdn
  clear hr hB hd htb hnx hdn
  go_enter Try.func107, Try.ntmps107
  go_wp2_with fail
  refine (unhide (hTO _ hb0)).mono ?_
  rintro e w1 ⟨rfl, hb1⟩
  have k2 := k0.below hb1 k0.lt
  have hB2 := hb0.trans (hb1.mono hb0.size)
  obtain ⟨b0, b1, b2⟩ := blk3 k2
  clear hTO hb1 k0 hb0
  go_wp2_with fail
  refine (unhide (hLB _ hB2)).mono ?_
  rintro e w3 ⟨g3, rfl, ho3, hb3⟩
  have hT3 : TW w w3 R A c g3 R.C.length (bare R) := ⟨hB2.trans (hb3.mono hB2.size), k2.below hb3 k2.lt, some ⟨g3, 0, none⟩, R.C.length, R.C.length, by simp [bare], by
    have := own_mono ho3 hB2.size
    simpa [bare] using this⟩
  clear hLB hb3 k2 hB2 ho3 b0 b1 b2
  obtain ⟨b0, b1, b2⟩ := blk3 hT3.box
  have hF3 := hFI _ _ _ _ (lay_bare hR).len hT3
  go_wp2_with fail
  refine (unhide hF3).mono ?_
  rintro e w4 ⟨rfl, hb4⟩
  have hT4 := hT3.below hb4
  clear hT3 hb4 b0 b1 b2 hF3
  go_wp2_with fail
  go_loopg [5, 6, 7] (opN R (bare R)) (fun q s5 s6 s7 wr => ∃ (L : List Int) (g c1 r : Nat), opN R L = q ∧ s5 = .int .i64 (r : Nat) ∧ s6 = .slice (some ⟨g, 0, none⟩) R.C.length c1 ∧ s7 = .int .i64 (fiZ R L) ∧ TW w wr R A c g c1 L ∧ AtM R M L r)
  case atStart => exact ⟨bare R, _, _, 0, rfl, rfl, rfl, rfl, hT4, hAT⟩
  case round =>
    clear hT4 hAT
    obtain ⟨L, g, c1, r, hq, rfl, rfl, rfl, hT, hA⟩ := hrel
    have HQ := Lib.hid hq
    clear hq
    have hrl : r ≤ nT R := by have := hA.le; omega
    cases hf : fiV R L with
    | none =>
      rw [fiZ_none hf]
      have hfin := HDN.out L r hA hf
      have HFIN := Lib.hid hfin
      have hbel := hT.bel
      clear hT hA hFI hLO hWI hfin
      go_wp2_with fail
      go_ret
      exact ⟨ret_int (by rw [HFIN.out]), hbel⟩
    | some q =>
      rw [fiZ_some hf]
      have hqc := (fiV_some.1 hf).1
      have hmc := hML wr hT.bel q hqc
      obtain ⟨hfr, hnx⟩ := HNX.out L r q hA hf
      have hLl := hA.lay.len
      have hLy := hA.lay
      have hWT := nT_with hR hLl (c := q)
      have hlol := lowN_le R L q
      obtain ⟨lo, hlo⟩ : ∃ lo, lowN R L q = lo := ⟨_, rfl⟩
      rw [hlo] at hWT hlol hnx
      have HWT := Lib.hid hWT
      have HLY := Lib.hid hLy
      have HLL := Lib.hid hLl
      obtain ⟨z, hz⟩ : ∃ z, M.getD q 0 = z := ⟨_, rfl⟩
      rw [hz] at hmc hfr hnx
      obtain ⟨b0, b1, b2⟩ := blk3 hT.box
      have HZ := Lib.hid hz
      clear hlo hWT hLl hLy hA hz
      rcases hnx with ⟨rfl, hA2⟩ | ⟨rfl, hA2⟩
      · have hL2 := hLO L g c1 wr.drew HLY.out (hT.below (Below.refl _ _).drew) q hqc 1 ⟨by omega, by omega⟩
        rw [if_pos hfr] at hL2
        have hon := opN_lay hR HLL.out (by decide) hfr
        have HFR := Lib.hid hfr
        clear hfr
        go_upto_region 12 with fail
        go_region_with
          (first
            | (go_at_call 157; (with_reducible refine (unhide hL2).mono ?_); rintro e w7 ⟨g7, c7, c7', rfl, ho7, hb7⟩))
        all_goals
          have hB7 := hT.bel.drew
          have hT7 : TW w w7 R A c g7 c7 (lyV R L q 1) := ⟨hB7.trans (hb7.mono hB7.size), hT.box.drew.below hb7 hT.box.drew.lt, some ⟨g7, 0, none⟩, c7, c7', by rw [hA2.lay.len], by rw [hA2.lay.len]; exact own_mono ho7 hB7.size⟩
          clear hT hb7 ho7 hL2 b0 b1 b2 hmc hB7
          obtain ⟨b0, b1, b2⟩ := blk3 hT7.box
          have hF7 := hFI _ _ _ _ hA2.lay.len hT7
          go_wp2_with fail
          refine (unhide hF7).mono ?_
          rintro e w8 ⟨rfl, hb8⟩
          have hT8 := hT7.below hb8
          clear hT7 hb8 b0 b1 b2 hF7
          go_wp2_with fail
          go_roundg (opN R (lyV R L q 1))
          case measure => have := HQ.out; omega
          case rel => exact ⟨_, g7, c7, r, rfl, rfl, rfl, rfl, hT8, hA2⟩
      · have hL1 := hLO L g c1 wr HLY.out hT q hqc 1 ⟨by omega, by omega⟩
        have HFR := Lib.hid hfr
        have hbdr : r + lo ≤ nT R := by have := hA2.le; omega
        obtain ⟨fb, hfb⟩ : ∃ fb, frB R L q 1 = fb := ⟨_, rfl⟩
        have hM5 : (if frB R L q 1 = true then lyV R L q 1 else L).length = R.C.length := by
          split
          · rw [lyV_len]; exact HLL.out
          · exact HLL.out
        clear hfr
        go_wp2_with fail
        refine (unhide hL1).mono ?_
        rintro e w5 ⟨g5, c5, c5', rfl, ho5, hb5⟩
        have hT5 := hT.below hb5
        have hN5 : LiAt w5 w.heap.size (.slice (some ⟨g5, 0, none⟩) R.C.length c5) (if frB R L q 1 = true then lyV R L q 1 else L) := ⟨some ⟨g5, 0, none⟩, c5, c5', by rw [hM5], by rw [hM5]; exact own_mono ho5 hT.bel.size⟩
        clear hb5 b0 b1 b2 hL1 ho5 hM5
        obtain ⟨M5, hM5⟩ : ∃ M5, M5 = (if frB R L q 1 = true then lyV R L q 1 else L) := ⟨_, rfl⟩
        rw [← hM5] at hN5
        have HM5 := Lib.hid hM5
        have HW2 := HWT.out
        clear hM5 HWT
        rw [hfb] at HM5 HW2 ⊢
        have HFB1 := Lib.hid hfb
        have HWT := Lib.hid HW2
        have hmc5 := hML w5 hT5.bel q hqc
        clear hfb HW2 hT hmc
        rw [HZ.out] at hmc5
        cases fb with
        | true =>
          have hMl : M5.length = R.C.length := by rw [HM5.out, if_pos rfl, lyV_len]; exact HLL.out
          have hW5 := hWI M5 g5 c5 w5 hMl hT5.bel hN5
          have hval : nT (less R M5) = lo := by
            have := HWT.out
            rw [if_pos rfl] at this
            rw [HM5.out, if_pos rfl]; exact this
          rw [hval] at hW5
          obtain ⟨b0, b1, b2⟩ := blk3 hT5.box
          have hwr : IntKind.i64.wrap ((r : Int) + (lo : Int)) = (r : Int) + (lo : Int) := IntWalk.i64_in _ (by omega)
          clear hval hMl
          go_wp2_with fail
          refine (unhide hW5).mono ?_
          rintro e w6 ⟨rfl, hb6⟩
          have hT6 := hT5.below hb6
          have hmc6 := cell_kept hmc5 hb6
          clear hW5 hT5 hN5 hb6 hmc5 b0 b1 b2
          have hmc5 := hmc6
          clear hmc6
          have hL2 := hLO L g c1 w6.drew HLY.out (hT6.below (Below.refl _ _).drew) q hqc 2 ⟨by omega, by omega⟩
          rw [if_pos HFR.out] at hL2
          have hon := opN_lay hR HLL.out (by decide) HFR.out
          obtain ⟨b0, b1, b2⟩ := blk3 hT6.box
          go_upto_region 12 with fail
          go_region_with
            (first
              | (go_at_call 157; (with_reducible refine (unhide hL2).mono ?_); rintro e w7 ⟨g7, c7, c7', rfl, ho7, hb7⟩))
          all_goals
            have hB7 := hT6.bel.drew
            have hT7 : TW w w7 R A c g7 c7 (lyV R L q 2) := ⟨hB7.trans (hb7.mono hB7.size), hT6.box.drew.below hb7 hT6.box.drew.lt, some ⟨g7, 0, none⟩, c7, c7', by rw [hA2.lay.len], by rw [hA2.lay.len]; exact own_mono ho7 hB7.size⟩
            clear hT6 hb7 ho7 hL2 b0 b1 b2 hmc5 hB7
            obtain ⟨b0, b1, b2⟩ := blk3 hT7.box
            have hF7 := hFI _ _ _ _ hA2.lay.len hT7
            go_wp2_with fail
            refine (unhide hF7).mono ?_
            rintro e w8 ⟨rfl, hb8⟩
            have hT8 := hT7.below hb8
            clear hT7 hb8 b0 b1 b2 hF7
            go_wp2_with fail
            go_roundg (opN R (lyV R L q 2))
            case measure => have := HQ.out; omega
            case rel => exact ⟨_, g7, c7, r + lo, rfl, by congr 1, rfl, rfl, hT8, hA2⟩
        | false =>
          have hval : lo = 0 := by
            have := HWT.out
            rw [if_neg (by simp)] at this
            exact this.symm
          subst hval
          clear hN5
          have hL2 := hLO L g c1 w5.drew HLY.out (hT5.below (Below.refl _ _).drew) q hqc 2 ⟨by omega, by omega⟩
          rw [if_pos HFR.out] at hL2
          have hon := opN_lay hR HLL.out (by decide) HFR.out
          obtain ⟨b0, b1, b2⟩ := blk3 hT5.box
          go_upto_region 12 with fail
          go_region_with
            (first
              | (go_at_call 157; (with_reducible refine (unhide hL2).mono ?_); rintro e w7 ⟨g7, c7, c7', rfl, ho7, hb7⟩))
          all_goals
            have hB7 := hT5.bel.drew
            have hT7 : TW w w7 R A c g7 c7 (lyV R L q 2) := ⟨hB7.trans (hb7.mono hB7.size), hT5.box.drew.below hb7 hT5.box.drew.lt, some ⟨g7, 0, none⟩, c7, c7', by rw [hA2.lay.len], by rw [hA2.lay.len]; exact own_mono ho7 hB7.size⟩
            clear hT5 hb7 ho7 hL2 b0 b1 b2 hmc5 hB7
            obtain ⟨b0, b1, b2⟩ := blk3 hT7.box
            have hF7 := hFI _ _ _ _ hA2.lay.len hT7
            go_wp2_with fail
            refine (unhide hF7).mono ?_
            rintro e w8 ⟨rfl, hb8⟩
            have hT8 := hT7.below hb8
            clear hT7 hb8 b0 b1 b2 hF7
            go_wp2_with fail
            go_roundg (opN R (lyV R L q 2))
            case measure => have := HQ.out; omega
            case rel => exact ⟨_, g7, c7, r + 0, rfl, rfl, rfl, rfl, hT8, hA2⟩

end Go.Proofs.Ythepfpiphlfgnaa
