/-
  YthepfpiphlfgnaaRlz: the texts R5, Rl, Rn, Ds in one file.
-/
import Derived.Deep.RegionHeld
import Derived.Test.YthepfpiphlfgnaaR4
import Derived.Test.YthepfpiphlfgnaaCz
import Derived.Test.YthepfpiphlfgnaaFs
import Derived.Test.YthepfpiphlfgnaaRmz
import Derived.Test.YthepfpiphlfgnaaLz
import Derived.Test.YthepfpiphlfgnaaDp
import Derived.Test.YthepfpiphlfgnaaDv
import Derived.Test.YthepfpiphlfgnaaFq

/-
  YthepfpiphlfgnaaR5: RankOf of the reference: a tiling's place among all.
-/
namespace Go.Proofs.Ythepfpiphlfgnaa
open Go.RowKit

theorem addr_at5 (g j : Nat) : (⟨g, 0, none⟩ : Addr).add j = ⟨g, j, none⟩ := by
  unfold Addr.add
  split
  · rename_i h; rw [h]
  · simp

set_option maxHeartbeats 4000000 in
set_option maxRecDepth 100000 in
theorem rankOfS_ok (R : Reg) (hR : R.ok) (A : Option Addr) (c B : Nat) (M : List Int) (hM : Tile R M) (gd d : Nat) (w : World) (hr : Reads w B 1 A R.C.length (R.C.map Value.bool)) (hd : Reads w B 1 (some ⟨gd, 0, none⟩) R.C.length (M.map (Value.int .i64))) (hB : B ≤ w.heap.size) :
    Calls Try.prog 107 #[.agg #[.int .i64 R.W, .int .i64 R.T, .slice A R.C.length c], .slice (some ⟨gd, 0, none⟩) R.C.length d] w fun e w' => e = .returned (.int .i64 (rkV R M : Nat)) ∧ Below w.heap.size w w' := by
  have hl36 := (len_bd hR).2
  have hl1 := (len_bd hR).1
  have hnT := nT_le R
  have hb0 : Below w.heap.size w (w.alloc (boxR R.W R.T A R.C.length c)) := (Below.refl _ _).alloc (Nat.le_refl _) _
  have k0 : Blk (w.alloc (boxR R.W R.T A R.C.length c)) w.heap.size 25 #[.int .i64 R.W, .int .i64 R.T, .slice A R.C.length c] := Blk.new _ _ _
  have hrd : ∀ w', Below w.heap.size w w' → Reads w' w'.heap.size 1 A R.C.length (R.C.map Value.bool) := fun w' h => (hr.below (h.mono hB)).more (Nat.le_trans hB h.size)
  have hTO := fun w' (h : Below w.heap.size w w') => hide (tilingOkS_any R.W R.T A R.C.length c w'.heap.size R.C M (some ⟨gd, 0, none⟩) R.C.length d w' rfl hM.1.len (hrd w' h) ((hd.below (h.mono hB)).more (Nat.le_trans hB h.size)) (Nat.le_refl _) (by omega) (by omega))
  have htb : tilingB R.W R.T R.C M = true := by rw [tilingB_ok hR, (laysB_iff hR).2 hM.1, (fullB_iff hR).2 hM.2]; rfl
  rw [htb] at hTO
  have hLB := fun w' (h : Below w.heap.size w w') => hide (laidBareS_ok R hR A c w'.heap.size w' (hrd w' h) (Nat.le_refl _))
  have hFI := fun (L : List Int) (g c1 : Nat) (w' : World) (hl : L.length = R.C.length) (h : TW w w' R A c g c1 L) => hide (firstS_any R hR A c w'.heap.size L (some ⟨g, 0, none⟩) c1 hl w' (hrd w' h.bel) h.li.reads.2 (Nat.le_refl _))
  have hLO := fun (L : List Int) (g c1 : Nat) (w' : World) (hl : Lay R L) (h : TW w w' R A c g c1 L) (q : Nat) (hq : q < R.C.length) (way : Int) (hw : 1 ≤ way ∧ way ≤ 4) => hide (layOneS_any R hR A c w'.heap.size L (some ⟨g, 0, none⟩) c1 q hq way hw hl w' (hrd w' h.bel) h.li.reads.2 (Nat.le_refl _))
  have hWI := fun (L : List Int) (g c1 : Nat) (w' : World) (hl : L.length = R.C.length) (hb : Below w.heap.size w w') (h : LiAt w' w.heap.size (.slice (some ⟨g, 0, none⟩) R.C.length c1) L) => hide (l3WithS_any R hR A c w'.heap.size L (some ⟨g, 0, none⟩) c1 hl w' (hrd w' hb) h.reads.2 (Nat.le_refl _))
  have hML : ∀ w', Below w.heap.size w w' → ∀ q, q < R.C.length → w'.cell? ⟨gd, q, none⟩ = some (.int .i64 (M.getD q 0)) := fun w' h q hq => by
    obtain ⟨ad, e, _, hc⟩ := (hd.below (h.mono hB)).getI hq
    injection e with e
    subst e
    rw [← addr_at5]; exact hc
  have hAT := AtM.start hR M
  have hnx := fun (L : List Int) (r q : Nat) (h : AtM R M L r) (hf : fiV R L = some q) => h.next hR hM hf
  have HNX := Lib.hid hnx
  have hdn := fun (L : List Int) (r : Nat) (h : AtM R M L r) (hf : fiV R L = none) => h.done hR hM hf
  have HDN := Lib.hid hdn
  clear hr hB hd htb hnx hdn
  go_enter Try.func107, Try.ntmps107
  go_wp2_with fail
  refine (unhide (hTO _ hb0)).mono ?_
  rintro e w1 ⟨rfl, hb1⟩
  have k2 := k0.below hb1 k0.lt
  have hB2 := hb0.trans (hb1.mono hb0.size)
  obtain ⟨b0, b1, b2⟩ := blk3 k2
  clear hTO hb1 k0 hb0
  go_wp2_with fail
  refine (unhide (hLB _ hB2)).mono ?_
  rintro e w3 ⟨g3, rfl, ho3, hb3⟩
  have hT3 : TW w w3 R A c g3 R.C.length (bare R) := ⟨hB2.trans (hb3.mono hB2.size), k2.below hb3 k2.lt, some ⟨g3, 0, none⟩, R.C.length, R.C.length, by simp [bare], by
    have := own_mono ho3 hB2.size
    simpa [bare] using this⟩
  clear hLB hb3 k2 hB2 ho3 b0 b1 b2
  obtain ⟨b0, b1, b2⟩ := blk3 hT3.box
  have hF3 := hFI _ _ _ _ (lay_bare hR).len hT3
  go_wp2_with fail
  refine (unhide hF3).mono ?_
  rintro e w4 ⟨rfl, hb4⟩
  have hT4 := hT3.below hb4
  clear hT3 hb4 b0 b1 b2 hF3
  go_wp2_with fail
  go_loopg [5, 6, 7] (opN R (bare R)) (fun q s5 s6 s7 wr => ∃ (L : List Int) (g c1 r : Nat), opN R L = q ∧ s5 = .int .i64 (r : Nat) ∧ s6 = .slice (some ⟨g, 0, none⟩) R.C.length c1 ∧ s7 = .int .i64 (fiZ R L) ∧ TW w wr R A c g c1 L ∧ AtM R M L r)
  case atStart => exact ⟨bare R, _, _, 0, rfl, rfl, rfl, rfl, hT4, hAT⟩
  case round =>
    clear hT4 hAT
    obtain ⟨L, g, c1, r, hq, rfl, rfl, rfl, hT, hA⟩ := hrel
    have HQ := Lib.hid hq
    clear hq
    have hrl : r ≤ nT R := by have := hA.le; omega
    cases hf : fiV R L with
    | none =>
      rw [fiZ_none hf]
      have hfin := HDN.out L r hA hf
      have HFIN := Lib.hid hfin
      have hbel := hT.bel
      clear hT hA hFI hLO hWI hfin
      go_wp2_with fail
      go_ret
      exact ⟨ret_int (by rw [HFIN.out]), hbel⟩
    | some q =>
      rw [fiZ_some hf]
      have hqc := (fiV_some.1 hf).1
      have hmc := hML wr hT.bel q hqc
      obtain ⟨hfr, hnx⟩ := HNX.out L r q hA hf
      have hLl := hA.lay.len
      have hLy := hA.lay
      have hWT := nT_with hR hLl (c := q)
      have hlol := lowN_le R L q
      obtain ⟨lo, hlo⟩ : ∃ lo, lowN R L q = lo := ⟨_, rfl⟩
      rw [hlo] at hWT hlol hnx
      have HWT := Lib.hid hWT
      have HLY := Lib.hid hLy
      have HLL := Lib.hid hLl
      obtain ⟨z, hz⟩ : ∃ z, M.getD q 0 = z := ⟨_, rfl⟩
      rw [hz] at hmc hfr hnx
      obtain ⟨b0, b1, b2⟩ := blk3 hT.box
      have HZ := Lib.hid hz
      clear hlo hWT hLl hLy hA hz
      rcases hnx with ⟨rfl, hA2⟩ | ⟨rfl, hA2⟩
      · have hL2 := hLO L g c1 wr.drew HLY.out (hT.below (Below.refl _ _).drew) q hqc 1 ⟨by omega, by omega⟩
        rw [if_pos hfr] at hL2
        have hon := opN_lay hR HLL.out (by decide) hfr
        have HFR := Lib.hid hfr
        clear hfr
        go_upto_region 12 with fail
        go_region_with
          (first
            | (go_at_call 157; (with_reducible refine (unhide hL2).mono ?_); rintro e w7 ⟨g7, c7, c7', rfl, ho7, hb7⟩))
        all_goals
          have hB7 := hT.bel.drew
          have hT7 : TW w w7 R A c g7 c7 (lyV R L q 1) := ⟨hB7.trans (hb7.mono hB7.size), hT.box.drew.below hb7 hT.box.drew.lt, some ⟨g7, 0, none⟩, c7, c7', by rw [hA2.lay.len], by rw [hA2.lay.len]; exact own_mono ho7 hB7.size⟩
          clear hT hb7 ho7 hL2 b0 b1 b2 hmc hB7
          obtain ⟨b0, b1, b2⟩ := blk3 hT7.box
          have hF7 := hFI _ _ _ _ hA2.lay.len hT7
          go_wp2_with fail
          refine (unhide hF7).mono ?_
          rintro e w8 ⟨rfl, hb8⟩
          have hT8 := hT7.below hb8
          clear hT7 hb8 b0 b1 b2 hF7
          go_wp2_with fail
          go_roundg (opN R (lyV R L q 1))
          case measure => have := HQ.out; omega
          case rel => exact ⟨_, g7, c7, r, rfl, rfl, rfl, rfl, hT8, hA2⟩
      · have hL1 := hLO L g c1 wr HLY.out hT q hqc 1 ⟨by omega, by omega⟩
        have HFR := Lib.hid hfr
        have hbdr : r + lo ≤ nT R := by have := hA2.le; omega
        obtain ⟨fb, hfb⟩ : ∃ fb, frB R L q 1 = fb := ⟨_, rfl⟩
        have hM5 : (if frB R L q 1 = true then lyV R L q 1 else L).length = R.C.length := by
          split
          · rw [lyV_len]; exact HLL.out
          · exact HLL.out
        clear hfr
        go_wp2_with fail
        refine (unhide hL1).mono ?_
        rintro e w5 ⟨g5, c5, c5', rfl, ho5, hb5⟩
        have hT5 := hT.below hb5
        have hN5 : LiAt w5 w.heap.size (.slice (some ⟨g5, 0, none⟩) R.C.length c5) (if frB R L q 1 = true then lyV R L q 1 else L) := ⟨some ⟨g5, 0, none⟩, c5, c5', by rw [hM5], by rw [hM5]; exact own_mono ho5 hT.bel.size⟩
        clear hb5 b0 b1 b2 hL1 ho5 hM5
        obtain ⟨M5, hM5⟩ : ∃ M5, M5 = (if frB R L q 1 = true then lyV R L q 1 else L) := ⟨_, rfl⟩
        rw [← hM5] at hN5
        have HM5 := Lib.hid hM5
        have HW2 := HWT.out
        clear hM5 HWT
        rw [hfb] at HM5 HW2 ⊢
        have HFB1 := Lib.hid hfb
        have HWT := Lib.hid HW2
        have hmc5 := hML w5 hT5.bel q hqc
        clear hfb HW2 hT hmc
        rw [HZ.out] at hmc5
        cases fb with
        | true =>
          have hMl : M5.length = R.C.length := by rw [HM5.out, if_pos rfl, lyV_len]; exact HLL.out
          have hW5 := hWI M5 g5 c5 w5 hMl hT5.bel hN5
          have hval : nT (less R M5) = lo := by
            have := HWT.out
            rw [if_pos rfl] at this
            rw [HM5.out, if_pos rfl]; exact this
          rw [hval] at hW5
          obtain ⟨b0, b1, b2⟩ := blk3 hT5.box
          have hwr : IntKind.i64.wrap ((r : Int) + (lo : Int)) = (r : Int) + (lo : Int) := IntWalk.i64_in _ (by omega)
          clear hval hMl
          go_wp2_with fail
          refine (unhide hW5).mono ?_
          rintro e w6 ⟨rfl, hb6⟩
          have hT6 := hT5.below hb6
          have hmc6 := cell_kept hmc5 hb6
          clear hW5 hT5 hN5 hb6 hmc5 b0 b1 b2
          have hmc5 := hmc6
          clear hmc6
          have hL2 := hLO L g c1 w6.drew HLY.out (hT6.below (Below.refl _ _).drew) q hqc 2 ⟨by omega, by omega⟩
          rw [if_pos HFR.out] at hL2
          have hon := opN_lay hR HLL.out (by decide) HFR.out
          obtain ⟨b0, b1, b2⟩ := blk3 hT6.box
          go_upto_region 12 with fail
          go_region_with
            (first
              | (go_at_call 157; (with_reducible refine (unhide hL2).mono ?_); rintro e w7 ⟨g7, c7, c7', rfl, ho7, hb7⟩))
          all_goals
            have hB7 := hT6.bel.drew
            have hT7 : TW w w7 R A c g7 c7 (lyV R L q 2) := ⟨hB7.trans (hb7.mono hB7.size), hT6.box.drew.below hb7 hT6.box.drew.lt, some ⟨g7, 0, none⟩, c7, c7', by rw [hA2.lay.len], by rw [hA2.lay.len]; exact own_mono ho7 hB7.size⟩
            clear hT6 hb7 ho7 hL2 b0 b1 b2 hmc5 hB7
            obtain ⟨b0, b1, b2⟩ := blk3 hT7.box
            have hF7 := hFI _ _ _ _ hA2.lay.len hT7
            go_wp2_with fail
            refine (unhide hF7).mono ?_
            rintro e w8 ⟨rfl, hb8⟩
            have hT8 := hT7.below hb8
            clear hT7 hb8 b0 b1 b2 hF7
            go_wp2_with fail
            go_roundg (opN R (lyV R L q 2))
            case measure => have := HQ.out; omega
            case rel => exact ⟨_, g7, c7, r + lo, rfl, by congr 1, rfl, rfl, hT8, hA2⟩
        | false =>
          have hval : lo = 0 := by
            have := HWT.out
            rw [if_neg (by simp)] at this
            exact this.symm
          subst hval
          clear hN5
          have hL2 := hLO L g c1 w5.drew HLY.out (hT5.below (Below.refl _ _).drew) q hqc 2 ⟨by omega, by omega⟩
          rw [if_pos HFR.out] at hL2
          have hon := opN_lay hR HLL.out (by decide) HFR.out
          obtain ⟨b0, b1, b2⟩ := blk3 hT5.box
          go_upto_region 12 with fail
          go_region_with
            (first
              | (go_at_call 157; (with_reducible refine (unhide hL2).mono ?_); rintro e w7 ⟨g7, c7, c7', rfl, ho7, hb7⟩))
          all_goals
            have hB7 := hT5.bel.drew
            have hT7 : TW w w7 R A c g7 c7 (lyV R L q 2) := ⟨hB7.trans (hb7.mono hB7.size), hT5.box.drew.below hb7 hT5.box.drew.lt, some ⟨g7, 0, none⟩, c7, c7', by rw [hA2.lay.len], by rw [hA2.lay.len]; exact own_mono ho7 hB7.size⟩
            clear hT5 hb7 ho7 hL2 b0 b1 b2 hmc5 hB7
            obtain ⟨b0, b1, b2⟩ := blk3 hT7.box
            have hF7 := hFI _ _ _ _ hA2.lay.len hT7
            go_wp2_with fail
            refine (unhide hF7).mono ?_
            rintro e w8 ⟨rfl, hb8⟩
            have hT8 := hT7.below hb8
            clear hT7 hb8 b0 b1 b2 hF7
            go_wp2_with fail
            go_roundg (opN R (lyV R L q 2))
            case measure => have := HQ.out; omega
            case rel => exact ⟨_, g7, c7, r + 0, rfl, rfl, rfl, rfl, hT8, hA2⟩

end Go.Proofs.Ythepfpiphlfgnaa

/-
  YthepfpiphlfgnaaRl: l5Reach of the reference: the ranks that flips reach.
-/
namespace Go.Proofs.Ythepfpiphlfgnaa
open Go.RowKit

/-- As many as the search meets. -/
def ReachRet (R : Reg) (M : List Int) (w : World) (e : Ending) (w' : World) : Prop :=
  ∃ g cc, e = .returned (.slice (some ⟨g, 0, none⟩) (runR (fnR R) M (tilT R).length).length cc) ∧ Below w.heap.size w w'

set_option maxHeartbeats 4000000 in
set_option maxRecDepth 20000 in
theorem l5ReachS_ok (R : Reg) (hR : R.ok) (A : Option Addr) (c B : Nat) (M : List Int) (hM : Tile R M) (w : World) (hr : Reads w B 1 A R.C.length (R.C.map Value.bool)) (hB : B ≤ w.heap.size) :
    Calls Try.prog 106 #[.agg #[.int .i64 R.W, .int .i64 R.T, .slice A R.C.length c], .int .i64 (rkI R M)] w (ReachRet R M w) := by
  have hl36 := (len_bd hR).2
  have hl1 := (len_bd hR).1
  have hnT : (tilT R).length ≤ 262144 := nT_le R
  have hrd : ∀ w', Below w.heap.size w w' → Reads w' w'.heap.size 1 A R.C.length (R.C.map Value.bool) := fun w' h => (hr.below (h.mono hB)).more (Nat.le_trans hB h.size)
  have hTO : ∀ (X : List Int) w', Tile R X → Below w.heap.size w w' → Hid (Calls Try.prog 98 #[.agg #[.int .i64 R.W, .int .i64 R.T, .slice A R.C.length c], .int .i64 (rkI R X)] w' fun e w'' => ∃ v, e = .returned (.tuple #[v, .bool true]) ∧ LiAt w'' w'.heap.size v X ∧ Below w'.heap.size w' w'') := fun X w' hX h => by
    have := tilingOfS_ok R hR A c w'.heap.size (rkV R X) (rkV_at hR hX).2 w' (hrd w' h) (Nat.le_refl _)
    rw [tlV_rkV hR hX] at this
    unfold rkI
    exact hide this
  have hFS : ∀ (X : List Int) (D : Option Addr) (d : Nat) w', Tile R X → Below w.heap.size w w' → Reads w' w'.heap.size 1 D R.C.length (X.map (Value.int .i64)) → Hid (Calls Try.prog 42 #[.agg #[.int .i64 R.W, .int .i64 R.T, .slice A R.C.length c], .slice D R.C.length d] w' (RetInts w' (flL R X fun _ => true))) := fun X D d w' hX h ha =>
    hide (flipsOfS_ok R hR A c w'.heap.size X D d hX.1 w' (hrd w' h) ha (Nat.le_refl _))
  have hFO : ∀ (X : List Int) (D : Option Addr) (d : Nat) (z : Int) w', Tile R X → Below w.heap.size w w' → Reads w' w'.heap.size 1 D R.C.length (X.map (Value.int .i64)) → Hid (Calls Try.prog 163 #[.agg #[.int .i64 R.W, .int .i64 R.T, .slice A R.C.length c], .slice D R.C.length d, .int .i64 z] w' (RetIB w' (flV R X z) (flB R X z))) := fun X D d z w' hX h ha =>
    hide (flipOneS_ok R hR A c w'.heap.size X D d z hX.1 w' (hrd w' h) ha (Nat.le_refl _))
  have hRK : ∀ (X : List Int) (gd d : Nat) w', Tile R X → Below w.heap.size w w' → Reads w' w'.heap.size 1 (some ⟨gd, 0, none⟩) R.C.length (X.map (Value.int .i64)) → Hid (Calls Try.prog 107 #[.agg #[.int .i64 R.W, .int .i64 R.T, .slice A R.C.length c], .slice (some ⟨gd, 0, none⟩) R.C.length d] w' fun e w'' => e = .returned (.int .i64 (rkI R X)) ∧ Below w'.heap.size w' w'') := fun X gd d w' hX h ha =>
    hide (rankOfS_ok R hR A c w'.heap.size X hX gd d w' (hrd w' h) ha (Nat.le_refl _))
  have hA0 := AW.one w R.W R.T A R.C.length c (rkI R M)
  have HM := Lib.hid hM
  clear hr hM
  go_enter Try.func106, Try.ntmps106
  go_wp2_with fail
  go_loopg [5, 6] (tilT R).length (fun r s5 s6 wr => ∃ (i g cc : Nat) (L : List Int), i + r = (tilT R).length ∧ (runR (fnR R) M i).map (rkI R) = L ∧ s6 = .int .i64 (i : Nat) ∧ s5 = .slice (some ⟨g, 0, none⟩) L.length cc ∧ AW w wr R.W R.T A R.C.length c g cc L)
  case atStart => exact ⟨0, _, _, [rkI R M], by omega, rfl, rfl, rfl, hA0⟩
  case round =>
    clear hA0
    obtain ⟨i, g, cc, L, hi, hL, rfl, rfl, hA⟩ := hrel
    have HI := Lib.hid hi
    have HL := Lib.hid hL
    have hLl : L.length = (runR (fnR R) M i).length := by rw [← hL, List.length_map]
    have HLL := Lib.hid hLl
    have hle : L.length ≤ 262144 := by rw [hLl]; exact Nat.le_trans (runR_le hR HM.out i) hnT
    clear hi hL hLl
    obtain ⟨w0, hw0⟩ : ∃ w0, w0 = wr := ⟨_, rfl⟩
    subst hw0
    by_cases hlt : i < L.length
    · obtain ⟨X, hX⟩ := runR_at (R := R) (M := M) (i := i) (by rw [← HLL.out]; exact hlt)
      have hTX : Tile R X := runR_in (P := Tile R) HM.out (fun _ h => fnR_tile hR h) i X (List.mem_of_getElem? hX)
      have hXl := hTX.1.len
      have hxc : w0.cell? ⟨g, i, none⟩ = some (.int .i64 (rkI R X)) := by
        rw [hA.own.cellAt i (by omega), List.getElem?_map, ← HL.out, List.getElem?_map, hX]; rfl
      have hT5 := hTO X w0.drew hTX hA.bel.drew
      have HX := Lib.hid hX
      have HTX := Lib.hid hTX
      obtain ⟨b0, b1, b2⟩ := hA.cells
      have hgl := hA.lt.2
      clear hX hTX
      generalize rkI R X = zx at *
      go_upto_region 5 with fail
      go_region_with
        (first
          | (go_at_call 98; (with_reducible refine (unhide hT5).mono ?_); rintro e w5 ⟨v5, rfl, hl5, hb5⟩))
      all_goals
        have hA5 := (hA.below (Below.refl w0.heap.size w0).drew).below hb5
        have hl5' := hl5.mono (b' := w0.heap.size) (Nat.le_refl _)
        obtain ⟨A5, c5, c5', rfl, _⟩ := id hl5'
        rw [hXl] at hl5' ⊢
        have hF5 := hFS X A5 c5 w5 HTX.out hA5.bel hl5'.reads.2
        have hsz5 : w0.heap.size ≤ w5.heap.size := hb5.size
        clear hA hl5 hb5 hT5 hxc b0 b1 b2
        obtain ⟨b0, b1, b2⟩ := hA5.cells
        go_wp2_with fail
        refine (unhide hF5).mono ?_
        rintro e w6 ⟨A6, c6, c6', rfl, ho6, hb6⟩
        have hA6 := hA5.below hb6
        have hl6 := hl5'.below hb6
        have ho6' := own_mono ho6 hsz5
        have hG6 := GrW.start (b := w0.heap.size) hA6 hgl
        clear hA5 hl5' hb6 ho6 hA6 hF5 b0 b1 b2 hsz5
        obtain ⟨V, hV⟩ : ∃ V, (flL R X fun _ => true) = V := ⟨_, rfl⟩
        have hVl : V.length ≤ 49 := by rw [← hV]; have := flTo_len R X (fun _ => true) R.cn; have := (cn_bd hR).2; show (flTo R X (fun _ => true) R.cn).length ≤ 49; omega
        rw [hV] at ho6' ⊢
        have HV := Lib.hid hV
        clear hV
        go_simp
        go_wp2_with fail
        go_loopg [5, 10] V.length (fun r s5 s10 wq => ∃ (j g cc : Nat) (L : List Int), j + r = V.length ∧ (mdR R M i j).map (rkI R) = L ∧ s10 = .int .i64 (j : Nat) ∧ s5 = .slice (some ⟨g, 0, none⟩) L.length cc ∧ GrW w w6 wq R.W R.T A R.C.length c w0.heap.size g cc L)
        case atStart => exact ⟨0, g, cc, L, by omega, by rw [mdR_zero]; exact HL.out, rfl, rfl, hG6⟩
        case round =>
          clear hG6
          obtain ⟨j, gq, cq, Lq, hj, hLq, rfl, rfl, hG⟩ := hrel
          have HJ := Lib.hid hj
          have HLQ := Lib.hid hLq
          have hil : i < (runR (fnR R) M i).length := (List.getElem?_eq_some_iff.1 HX.out).1
          have hlq : Lq.length ≤ 262144 := by rw [← hLq, List.length_map]; exact Nat.le_trans (mdR_le hR HM.out hil j) hnT
          clear hj hLq
          by_cases hlt2 : j < V.length
          · have hoV := own_keep ho6' hG.kp
            obtain ⟨g6, cg6, hsh6, _, _, _⟩ := own_shape hoV (by omega)
            simp only [Value.slice.injEq, true_and] at hsh6
            obtain ⟨rfl, rfl⟩ := hsh6
            obtain ⟨z, hz⟩ : ∃ z, V[j]? = some z := ⟨_, List.getElem?_eq_getElem hlt2⟩
            have hzc : wr.cell? ⟨g6, j, none⟩ = some (.int .i64 z) := by rw [hoV.cellAt j (by omega), List.getElem?_map, hz]; rfl
            have hlX := hl6.keep hG.kp
            have hFO5 := hFO X A5 c5 z wr.drew HTX.out hG.aw.bel.drew hlX.reads.2
            have hTN : Tile R (flV R X z) := tile_flV hR HTX.out z
            have hNl := hTN.1.len
            have hs1 : (mdR R M i (j + 1)).map (rkI R) = if rkI R (flV R X z) ∈ Lq then Lq else Lq ++ [rkI R (flV R X z)] := by
              rw [mdR_succ HX.out (by rw [HV.out]; exact hz), rkI_add hR (mdR_tile hR HM.out hil j) hTN, HLQ.out]
            have HS1 := Lib.hid hs1
            have HTN := Lib.hid hTN
            have hG' := hG.below (Below.refl wr.heap.size wr).drew
            obtain ⟨b0, b1, b2⟩ := hG.aw.cells
            clear hs1 hTN hoV hlX hz hG hil
            generalize flV R X z = N at *
            generalize flB R X z = fb at *
            go_upto_region 10 with fail
            go_region_with
              (first
                | (go_at_call 163; (with_reducible refine (unhide hFO5).mono ?_); rintro e w7 ⟨A7, c7, c7', he, ho7, hb7⟩; rw [hNl] at he ho7; subst he))
            all_goals
              have hG7 := hG'.below hb7
              obtain ⟨g7, cg7, hsh7, _, _, _⟩ := own_shape ho7 (by omega)
              simp only [Value.slice.injEq, true_and] at hsh7
              obtain ⟨rfl, rfl⟩ := hsh7
              have hRK7 := hRK N g7 c7' w7 HTN.out hG7.aw.bel (Reads.of_own ho7)
              clear hG' hb7 hFO5 hzc b0 b1 b2 ho7
              obtain ⟨b0, b1, b2⟩ := hG7.aw.cells
              generalize rkI R N = zN at *
              go_simp
              go_wp2_with fail
              refine (unhide hRK7).mono ?_
              rintro e w8 ⟨rfl, hb8⟩
              have hG8 := hG7.below hb8
              clear hG7 hb8 hRK7 b0 b1 b2
              have hHS := hide (hasS_any Lq (some ⟨gq, 0, none⟩) Lq.length cq w8.heap.size zN w8 rfl (Reads.of_own hG8.aw.own) (by omega))
              by_cases hin : zN ∈ Lq
              · rw [decide_eq_true hin] at hHS
                have hs2 := HS1.out
                rw [if_pos hin] at hs2
                have HS2 := Lib.hid hs2
                clear hin hs2
                go_wp2_with fail
                refine (unhide hHS).mono ?_
                rintro e w9 ⟨rfl, hb9⟩
                have hG9 := hG8.below hb9
                clear hG8 hb9 hHS
                go_wp2_with fail
                go_roundg (V.length - (j + 1))
                case measure => have := HJ.out; omega
                case rel => exact ⟨j + 1, gq, cq, Lq, by have := HJ.out; omega, HS2.out, by go_num, rfl, hG9⟩
              · rw [decide_eq_false hin] at hHS
                have hs2 := HS1.out
                rw [if_neg hin] at hs2
                have HS2 := Lib.hid hs2
                clear hin hs2
                go_wp2_with fail
                refine (unhide hHS).mono ?_
                rintro e w9 ⟨rfl, hb9⟩
                have hG9 := hG8.below hb9
                clear hG8 hb9 hHS
                go_wp2_with (at_builtin; refine wpList_app rfl _ _ _ rfl (w.heap.size + 1) 3 _ 8 Try.underlying26 info_int rfl (by omega) _ _ _ rfl (hG9.aw.own.alloc _) w9.heap.size (.int .i64 zN) rfl ?c1 rfl (by omega) ?c2 ?_)
                case c1 => simp
                case c2 => have := hG9.aw.bel.size; have := hG9.aw.lt; simp; omega
                rintro g' c' w10 hown hgr hgg _ _
                have hG10 := hG9.app (x := zN) hown hgr hgg
                clear hown hgr hgg hG9
                go_wp2_with fail
                go_roundg (V.length - (j + 1))
                case measure => have := HJ.out; omega
                case rel => exact ⟨j + 1, g', c', Lq ++ [zN], by have := HJ.out; omega, HS2.out, by go_num, by rw [List.length_append]; rfl, hG10⟩
          · obtain rfl : j = V.length := by have := HJ.out; omega
            have hnx : (runR (fnR R) M (i + 1)).map (rkI R) = Lq := by
              rw [← HLQ.out, ← HV.out, mdR_all HX.out]
            have HNX := Lib.hid hnx
            have hni : i < (tilT R).length := by
              have := runR_le hR HM.out i
              omega
            have hAq := hG.aw
            clear hnx hG hil
            go_wp2_with fail
            go_roundg ((tilT R).length - (i + 1))
            case measure => have := HI.out; omega
            case rel => exact ⟨i + 1, gq, cq, Lq, by have := HI.out; omega, HNX.out, by go_num, rfl, hAq⟩
    · have hfin : L.length = (runR (fnR R) M (tilT R).length).length := by
        have h1 := runR_le hR HM.out i
        have h2 := HI.out
        rw [HLL.out] at hlt ⊢
        by_cases he : (runR (fnR R) M i).length = i
        · rw [runR_end hR HM.out he, he]
        · have := runR_fix (f := fnR R) (M := M) (i := i) (by omega) ((tilT R).length - i)
          rw [show i + ((tilT R).length - i) = (tilT R).length by omega] at this
          rw [this]
      have HF := Lib.hid hfin
      have hbel := hA.bel
      clear hA hfin
      go_wp2_with fail
      go_ret
      exact ⟨g, cc, by show Ending.returned (.slice (some ⟨g, 0, none⟩) L.length cc) = _; rw [HF.out], hbel⟩

end Go.Proofs.Ythepfpiphlfgnaa

/-
  YthepfpiphlfgnaaRn: ReachMany of both sides, for any arguments.
-/
namespace Go.Proofs.Ythepfpiphlfgnaa
open Go.RowKit

theorem LI.some0 {w wr : World} {D : Option Addr} {d : Nat} {L : List Int} (h : LI w wr D d L) : L ≠ [] → ∃ g, D = some ⟨g, 0, none⟩ := fun hne => by
  have hl : 0 < L.length := List.length_pos_iff.2 hne
  obtain ⟨g, e, _⟩ := h.cell hl
  exact ⟨g, e⟩

theorem reachManyI_any (W T : Int) (A : Option Addr) (n c B : Nat) (bs : List Bool) (L2 : List Int) (D2 : Option Addr) (m2 d2 : Nat) (w : World) (hbl : bs.length = n) (hL2 : L2.length = m2) (hF : L2 ≠ [] → ∃ gb, D2 = some ⟨gb, 0, none⟩)
    (hr : Reads w B 1 A n (bs.map Value.bool)) (h2 : Reads w B 1 D2 m2 (L2.map (Value.int .i64))) (hB : B ≤ w.heap.size) (hn : n ≤ 9223372036854775807) (hm2 : m2 ≤ 9223372036854775807) :
    Calls Try.prog 39 #[.agg #[.int .i64 W, .int .i64 T, .slice A n c], .slice D2 m2 d2] w fun e w' => e = .returned (.int .i64 (rmV W T bs L2)) ∧ Below w.heap.size w w' := by
  by_cases h : tilingB W T bs L2 = true ∧ cnt bs ≤ 16
  · obtain ⟨R, hR, rfl, rfl, rfl, hT⟩ := tile_of_tiling h.1
    rw [rmV_yes h.1 h.2]
    subst hbl
    obtain rfl : m2 = R.C.length := by rw [← hL2]; exact hT.1.len
    obtain ⟨gb, rfl⟩ := hF (by rintro rfl; have := (len_bd hR).1; have := hT.1.len; simp at this; omega)
    exact reachManyI_ok R hR h.2 A c B L2 gb d2 hT w hr h2 hB
  · rw [rmV_no h]
    have hb0 : Below w.heap.size w (w.alloc (boxR W T A n c)) := (Below.refl _ _).alloc (Nat.le_refl _) _
    have k0 : Blk (w.alloc (boxR W T A n c)) w.heap.size 25 #[.int .i64 W, .int .i64 T, .slice A n c] := Blk.new _ _ _
    have hSM := hide (small_any W T A n c B bs _ (hr.below (hb0.mono hB)) (Nat.le_trans hB hb0.size) hn)
    have hT2 := fun w' (h : Below w.heap.size w w') => hide (tilingOkI_any W T A n c B bs L2 D2 m2 d2 w' hbl hL2 (hr.below (h.mono hB)) (h2.below (h.mono hB)) (Nat.le_trans hB h.size) hn hm2)
    cases hsm : (validB W T bs && decide (cnt bs ≤ 16)) with
    | false =>
      rw [hsm] at hSM
      clear hsm h hT2 hF hr h2 k0
      go_enter Try.func39, Try.ntmps39
      go_wp2_with fail
      refine (unhide hSM).mono ?_
      rintro e w1 ⟨rfl, hb1⟩
      go_wp2_with fail
      go_ret
      exact ⟨rfl, hb0.trans (hb1.mono hb0.size)⟩
    | true =>
      rw [hsm] at hSM
      have ht : tilingB W T bs L2 = false := by
        cases ht : tilingB W T bs L2 with
        | false => rfl
        | true => rw [Bool.and_eq_true, decide_eq_true_eq] at hsm; exact absurd ⟨ht, hsm.2⟩ h
      simp only [ht] at hT2
      clear hsm h ht hF hr h2
      go_enter Try.func39, Try.ntmps39
      go_wp2_with fail
      refine (unhide hSM).mono ?_
      rintro e w1 ⟨rfl, hb1⟩
      have hB1 := hb0.trans (hb1.mono hb0.size)
      obtain ⟨b0, b1, b2⟩ := blk3 (k0.below hb1 k0.lt)
      have hT3 := hT2 _ hB1
      clear hb1 hb0 k0 hSM hT2
      go_wp2_with fail
      refine (unhide hT3).mono ?_
      rintro e w2 ⟨rfl, hb2⟩
      go_wp2_with fail
      go_ret
      exact ⟨rfl, hB1.trans (hb2.mono hB1.size)⟩

set_option maxHeartbeats 1000000 in
theorem reachManyS_any (W T : Int) (A : Option Addr) (n c B : Nat) (bs : List Bool) (L2 : List Int) (D2 : Option Addr) (m2 d2 : Nat) (w : World) (hbl : bs.length = n) (hL2 : L2.length = m2) (hF : L2 ≠ [] → ∃ gb, D2 = some ⟨gb, 0, none⟩)
    (hr : Reads w B 1 A n (bs.map Value.bool)) (h2 : Reads w B 1 D2 m2 (L2.map (Value.int .i64))) (hB : B ≤ w.heap.size) (hn : n ≤ 9223372036854775807) (hm2 : m2 ≤ 9223372036854775807) :
    Calls Try.prog 40 #[.agg #[.int .i64 W, .int .i64 T, .slice A n c], .slice D2 m2 d2] w fun e w' => e = .returned (.int .i64 (rmV W T bs L2)) ∧ Below w.heap.size w w' := by
  have hb0 : Below w.heap.size w (w.alloc (boxR W T A n c)) := (Below.refl _ _).alloc (Nat.le_refl _) _
  have k0 : Blk (w.alloc (boxR W T A n c)) w.heap.size 25 #[.int .i64 W, .int .i64 T, .slice A n c] := Blk.new _ _ _
  have hT2 := hide (tilingOkS_any W T A n c B bs L2 D2 m2 d2 _ hbl hL2 (hr.below (hb0.mono hB)) (h2.below (hb0.mono hB)) (Nat.le_trans hB hb0.size) hn hm2)
  cases ht : tilingB W T bs L2 with
  | false =>
    rw [rmV_no (by rw [ht]; simp)]
    rw [ht] at hT2
    clear ht hF hr h2 k0
    go_enter Try.func40, Try.ntmps40
    go_wp2_with fail
    refine (unhide hT2).mono ?_
    rintro e w1 ⟨rfl, hb1⟩
    go_wp2_with fail
    go_ret
    exact ⟨rfl, hb0.trans (hb1.mono hb0.size)⟩
  | true =>
    obtain ⟨R, hR, rfl, rfl, rfl, hT⟩ := tile_of_tiling ht
    subst hbl
    obtain rfl : m2 = R.C.length := by rw [← hL2]; exact hT.1.len
    obtain ⟨gb, rfl⟩ := hF (by rintro rfl; have := (len_bd hR).1; have := hT.1.len; simp at this; omega)
    rw [ht] at hT2
    have hCM := fun w' (h : Below w.heap.size w w') => hide (cellsManyS_ok R hR A c B w' (hr.below (h.mono hB)) (Nat.le_trans hB h.size))
    by_cases hc : cnt R.C ≤ 16
    · rw [rmV_yes ht hc]
      have hgt : decide ((16 : Int) < cnt R.C) = false := decide_eq_false (by omega)
      have hRK := fun w' (h : Below w.heap.size w w') => hide (rankOfS_ok R hR A c B L2 hT gb d2 w' (hr.below (h.mono hB)) (h2.below (h.mono hB)) (Nat.le_trans hB h.size))
      have hRE := fun w' (h : Below w.heap.size w w') => hide (l5ReachS_ok R hR A c B L2 hT w' (hr.below (h.mono hB)) (Nat.le_trans hB h.size))
      have e1 : rkI R L2 = ((rkV R L2 : Nat) : Int) := rfl
      rw [e1] at hRE
      clear ht hF hr h2 hc e1
      generalize rkV R L2 = k2 at *
      go_enter Try.func40, Try.ntmps40
      go_wp2_with fail
      refine (unhide hT2).mono ?_
      rintro e w1 ⟨rfl, hb1⟩
      have hB1 := hb0.trans (hb1.mono hb0.size)
      have k1 := k0.below hb1 k0.lt
      obtain ⟨b0, b1, b2⟩ := blk3 k1
      have hC1 := hCM _ hB1
      clear hb0 k0 hb1 hT2 hCM
      go_wp2_with fail
      refine (unhide hC1).mono ?_
      rintro e w2 ⟨rfl, hb2⟩
      have hB2 := hB1.trans (hb2.mono hB1.size)
      have k2' := k1.below hb2 k1.lt
      clear b0 b1 b2 k1 hb2 hB1 hC1
      obtain ⟨b0, b1, b2⟩ := blk3 k2'
      have hd0 := hB2.drew
      have hR2 := hRK w2.drew hd0
      go_upto_region 3 with fail
      go_region_with
        (first
          | (go_at_call 107; (with_reducible refine (unhide hR2).mono ?_); rintro e w3 ⟨rfl, hb3⟩; have hB3 := hd0.trans (hb3.mono hd0.size); have d0 := cell_kept (w := w2.drew) b0 hb3; have d1 := cell_kept (w := w2.drew) b1 hb3; have d2 := cell_kept (w := w2.drew) b2 hb3; have hE3 := hRE w3 hB3)
          | (go_at_call 106; (with_reducible refine (unhide hE3).mono ?_); rintro e w4 ⟨g4, c4, rfl, hb4⟩))
      all_goals
        have hB4 := hB3.trans (hb4.mono hB3.size)
        clear hRK hRE hR2 hE3 d0 d1 d2 b0 b1 b2 hb3 hb4 hB3 hd0
        go_wp2_with fail
        go_ret
        exact ⟨rfl, hB4⟩
    · rw [rmV_no fun h => hc h.2]
      have hgt : decide ((16 : Int) < cnt R.C) = true := decide_eq_true (by omega)
      clear ht hF hr h2 hc
      go_enter Try.func40, Try.ntmps40
      go_wp2_with fail
      refine (unhide hT2).mono ?_
      rintro e w1 ⟨rfl, hb1⟩
      have hB1 := hb0.trans (hb1.mono hb0.size)
      obtain ⟨b0, b1, b2⟩ := blk3 (k0.below hb1 k0.lt)
      have hC1 := hCM _ hB1
      clear hb0 k0 hb1 hT2 hCM
      go_wp2_with fail
      refine (unhide hC1).mono ?_
      rintro e w2 ⟨rfl, hb2⟩
      go_wp2_with fail
      go_ret
      exact ⟨rfl, hB1.trans (hb2.mono hB1.size)⟩

end Go.Proofs.Ythepfpiphlfgnaa

/-
  YthepfpiphlfgnaaDs: drawing: what FnReachMany draws.
-/
namespace Go.Proofs.Ythepfpiphlfgnaa
open Go.RowKit
attribute [local go_sem ↓] Go.wp_at_zero Go.wp_at_succ


set_option maxHeartbeats 4000000 in
set_option maxRecDepth 20000 in
theorem drawReachMany_any (A : Option Addr) (n c : Nat) (zs : List Int) (w : World) (hr : Reads w w.heap.size 1 A n (zs.map (Value.int .u8))) (hnc : n ≤ c) (hn : n ≤ 1048576) (hwz : ∀ z ∈ zs, (Lit.int .u8 z).wf = true) :
    Calls Try.prog 38 #[.slice A n c] w (Drawn1 w) := by
  have hb0 : Below w.heap.size w (w.alloc (boxR 0 0 none 0 0)) := (Below.refl _ _).alloc (Nat.le_refl _) _
  have k0 : Blk (w.alloc (boxR 0 0 none 0 0)) w.heap.size 25 #[.int .i64 0, .int .i64 0, .slice none 0 0] := Blk.new _ _ _
  have hOP := hide (open_any A n c zs (w.alloc (boxR 0 0 none 0 0)) ((hr.alloc (Nat.le_refl _) _).more (by simp)) hnc hn hwz)
  go_enter Try.func38, Try.ntmps38
  go_wp2_with fail
  refine (unhide hOP).mono ?_
  rintro e w1 ⟨g, n', zs', rfl, h1, b1⟩
  have hgB := h1.out
  have hb01 : w.heap.size ≤ w1.heap.size := (hb0.trans (b1.mono (by simp))).size
  have hglt := h1.lt
  simp at hgB
  have k1 := k0.below b1 k0.lt
  have hB1 := hb0.trans (b1.mono (by simp))
  clear hOP k0 hb0 b1
  go_wp2_with fail
  refine (drawSmall_any g _ A n' c 0 zs' 12 _ h1 (by omega)).mono ?_
  rintro e w2 ⟨W, T, v, bs, rfl, hreg, p2, hp1, hp2, h2, g2⟩
  obtain ⟨A2, c2, rfl, _, _⟩ := own_form hreg.1
  have k2 := k1.grown g2 (by simp; omega)
  have hB2 := hB1.grown g2 hB1.size (fun k hk => by injection hk with hk; omega)
  have hbs := hreg.2
  have hsz12 := g2.size
  clear h1 k1 hB1 g2
  go_upto_region 3 with fail
  have hxw : w1.heap.size ≤ w2.heap.size := hsz12
  have h3 := h2.alloc (.cells #[.int .i64 W, .int .i64 T, .slice A2 bs.length c2] 25)
  have kx := Blk.new w2 25 #[.int .i64 W, .int .i64 T, .slice A2 bs.length c2]
  have hB3 := hB2.alloc hB2.size (.cells #[.int .i64 W, .int .i64 T, .slice A2 bs.length c2] 25)
  have k3 := k2.alloc (.cells #[.int .i64 W, .int .i64 T, .slice A2 bs.length c2] 25)
  have hal : Below w2.heap.size w2 (w2.alloc (.cells #[.int .i64 W, .int .i64 T, .slice A2 bs.length c2] 25)) := (Below.refl _ _).alloc (Nat.le_refl _) _
  have hreg3 := hreg.below hal
  have hxg : w2.heap.size ≠ g := by have := h2.lt; omega
  have hxr : w2.heap.size ≠ w.heap.size := by omega
  clear hsz12 hreg h2 k2 hB2 hal
  generalize w2.alloc (.cells #[.int .i64 W, .int .i64 T, .slice A2 bs.length c2] 25) = w3 at *
  generalize w2.heap.size = x at *
  have kx3 := kx
  clear kx
  have hd3 := (Below.refl w3.heap.size w3).drew
  have hk3 := k3.below hd3 k3.lt
  have k4 := k3.below hd3 k3.lt
  have kx4 := kx3.below hd3 kx3.lt
  have hreg4 := hreg3.below hd3
  have hB4 := hB3.trans (hd3.mono hB3.size)
  have h4 := h3.below hd3 h3.lt
  refine wp_region_held_drew (S := (fun w' => w'.cell? ⟨x, 0, none⟩ = some (.int .i64 W) ∧ w'.cell? ⟨x, 1, none⟩ = some (.int .i64 T) ∧ w'.cell? ⟨x, 2, none⟩ = some (.slice A2 bs.length c2))) (by kernel_rfl) (blk3 kx4) ?_
  intro hHeld
  refine wpAnyH_take (i := 0) (v := ?_) rfl (by kernel_rfl) (by kernel_rfl) (by kernel_rfl) (fun _ _ _ h => h) (Or.inl ⟨by kernel_rfl, ?_⟩) hHeld ?_
  rotate_left
  · intro w' hS'
    obtain ⟨x0, x1, x2⟩ := hS'
    go_simp
    try with_reducible rfl
  refine wpAnyH_take (i := 1) (v := ?_) rfl (by kernel_rfl) (by kernel_rfl) (by kernel_rfl) (fun _ _ _ h => h) (Or.inl ⟨by kernel_rfl, ?_⟩) hHeld ?_
  rotate_left
  · intro w' hS'
    clear hS'
    go_simp
    try with_reducible rfl
  refine wpAnyH_take (i := 3) (v := ?_) rfl (by kernel_rfl) (by kernel_rfl) (by kernel_rfl) (fun _ _ _ h => h) (Or.inl ⟨by kernel_rfl, ?_⟩) hHeld ?_
  rotate_left
  · intro w' hS'
    obtain ⟨x0, x1, x2⟩ := hS'
    go_simp
    try with_reducible rfl
  refine wpAnyH_ready (rs := [2]) (by kernel_rfl) (by simp) ?_
  refine AllReadyH.cons rfl (fun K hK => ?_) AllReadyH.nil
  go_simp
  go_at_call 88
  (with_reducible refine (pick_any g _ A n' c p2 zs' 256 _ h4 (by omega)).mono ?_)
  rintro e w5 ⟨y5, rfl, ya5, yb5, _, h5, g5⟩
  have k5 := k4.grown g5 (by simp; omega)
  have kx5 := kx4.grown g5 (by simpa using hxg)
  have hreg5 := hreg4.step g5 hglt
  have hB5 := hB4.grown g5 hB4.size (fun k hk => by injection hk with hk; omega)
  have hTM := tilingsManyS_any W T A2 bs.length c2 w5.heap.size bs w5 rfl (Reads.of_own hreg5.1) (Nat.le_refl _) (by omega)
  have htb := tmV_bd W T bs
  generalize tmV W T bs = tm at *
  have hmx : ¬ max tm 1 = 0 := by omega
  refine hK.out _ _ ?_ ?_
  · exact blk3 kx5
  clear hHeld
  intro hHeld
  clear hK K
  refine wpAnyH_ready (rs := [4]) (by kernel_rfl) (by simp) ?_
  refine AllReadyH.cons rfl (fun K hK => ?_) AllReadyH.nil
  go_simp
  go_at_call 99
  (with_reducible refine hTM.mono ?_)
  rintro e w6 ⟨rfl, hb6⟩
  have k6 := k5.below hb6 k5.lt
  have kx6 := kx5.below hb6 kx5.lt
  have hreg6 := hreg5.below hb6
  have hB6 := hB5.trans (hb6.mono hB5.size)
  have h6 := h5.below hb6 h5.lt
  have hTO := fun rank => hide (tilingOfS_any W T A2 bs.length c2 w6.heap.size bs rank w6 rfl (Reads.of_own hreg6.1) (Nat.le_refl _) (by omega))
  refine hK.out _ _ ?_ ?_
  · exact blk3 kx6
  clear hHeld
  intro hHeld
  clear hK K
  refine wpAnyH_take (i := 5) (v := ?_) rfl (by kernel_rfl) (by kernel_rfl) (by kernel_rfl) (fun _ _ _ h => h) (Or.inl ⟨by kernel_rfl, ?_⟩) hHeld ?_
  rotate_left
  · intro w' hS'
    clear hS'
    go_simp
    try with_reducible rfl
  refine wpAnyH_take (i := 6) (v := ?_) rfl (by kernel_rfl) (by kernel_rfl) (by kernel_rfl) (fun _ _ _ h => h) (Or.inl ⟨by kernel_rfl, ?_⟩) hHeld ?_
  rotate_left
  · intro w' hS'
    clear hS'
    go_simp
    try with_reducible rfl
  refine wpAnyH_ready (rs := [7]) (by kernel_rfl) (by simp) ?_
  refine AllReadyH.cons rfl (fun K hK => ?_) AllReadyH.nil
  go_simp
  go_at_call 98
  (with_reducible refine (unhide (hTO _)).mono ?_)
  rintro e w7 ⟨va, oka, La, rfl, hla7, hlla, hb7⟩
  have k7 := k6.below hb7 k6.lt
  have kx7 := kx6.below hb7 kx6.lt
  have hreg7 := hreg6.below hb7
  have hB7 := hB6.trans (hb7.mono hB6.size)
  have h7 := h6.below hb7 h6.lt
  have hla7 := hla7.mono (b' := w1.heap.size) (by have := hB6.size; have hq := kx6.lt; have := hxw; omega)
  refine hK.out _ _ ?_ ?_
  · exact blk3 kx7
  clear hHeld
  intro hHeld
  clear hK K
  refine wpAnyH_take (i := 8) (v := ?_) rfl (by kernel_rfl) (by kernel_rfl) (by kernel_rfl) (fun _ _ _ h => h) (Or.inl ⟨by kernel_rfl, ?_⟩) hHeld ?_
  rotate_left
  · intro w' hS'
    clear hS'
    go_simp
    try with_reducible rfl
  refine wpAnyH_take (i := 9) (v := ?_) rfl (by kernel_rfl) (by kernel_rfl) (by kernel_rfl) (fun _ _ _ h => h) (Or.inl ⟨by kernel_rfl, ?_⟩) hHeld ?_
  rotate_left
  · intro w' hS'
    clear hS'
    go_simp
    try with_reducible rfl
  refine wpAnyH_take (i := 10) (v := ?_) rfl (by kernel_rfl) (by kernel_rfl) (by kernel_rfl) (fun _ _ _ h => h) (Or.inl ⟨by kernel_rfl, ?_⟩) hHeld ?_
  rotate_left
  · intro w' hS'
    clear hS'
    go_simp
    try with_reducible rfl
  refine wpAnyH_take (i := 11) (v := ?_) rfl (by kernel_rfl) (by kernel_rfl) (by kernel_rfl) (fun _ _ _ h => h) (Or.inl ⟨by kernel_rfl, ?_⟩) hHeld ?_
  rotate_left
  · intro w' hS'
    clear hS'
    go_simp
    try with_reducible rfl
  refine wpAnyH_take (i := 12) (v := ?_) rfl (by kernel_rfl) (by kernel_rfl) (by kernel_rfl) (fun _ _ _ h => h) (Or.inl ⟨by kernel_rfl, ?_⟩) hHeld ?_
  rotate_left
  · intro w' hS'
    clear hS'
    go_simp
    try with_reducible rfl
  refine wpAnyH_done (by kernel_rfl) ?_ _
  clear hTM hTO hd3 hk3 hHeld h4 k4 kx4 hreg4 hB4 h5 k5 kx5 hreg5 hB5 h6 k6 kx6 hreg6 hB6 
  go_simp
  obtain ⟨Da, da, dax, rfl, _⟩ := id hla7
  obtain ⟨x0, x1, x2⟩ := blk3 kx7
  obtain ⟨r0, r1, r2⟩ := blk3 k7
  have f0 := k7.frozen 0
  have f1 := k7.frozen 1
  have f2 := k7.frozen 2
  have o1 := ((hreg7.mono hb01).far3' (u0 := .int .i64 W) (u1 := .int .i64 T) (u2 := .slice A2 bs.length c2) k7)
  have q0' := ((hla7.mono hb01).far3' (u0 := .int .i64 W) (u1 := .int .i64 T) (u2 := .slice A2 bs.length c2) k7)
  have o4 := below3' (v0 := .int .i64 W) (v1 := .int .i64 T) (v2 := .slice A2 bs.length c2) hB7 (Nat.le_refl _)
  obtain ⟨q0, q1, q2⟩ := blk3 (set3' (v0 := .int .i64 W) (v1 := .int .i64 T) (v2 := .slice A2 bs.length c2) k7)
  clear hreg7 hB7 k7 kx7 hla7
  go_wp2_with fail
  exact bodyPost_ret (v := .tuple #[.agg #[.int .i64 W, .int .i64 T, .slice A2 bs.length c2], .slice Da La.length da]) (by simp [results, Try.results38, go_sem, q0, q1, q2]) rfl ⟨W, T, A2, c2, _, da, bs, La, rfl, o1, q0', by omega, o4⟩

end Go.Proofs.Ythepfpiphlfgnaa
