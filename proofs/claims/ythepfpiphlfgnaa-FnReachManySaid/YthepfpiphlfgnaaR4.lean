/-
  YthepfpiphlfgnaaR4: TilingOf of the reference: the tiling of a rank.
-/
import Derived.Test.YthepfpiphlfgnaaRk
import Derived.Test.YthepfpiphlfgnaaD6
namespace Go.Proofs.Ythepfpiphlfgnaa
open Go.RowKit

/-- Where the search stands: the region's box, and the list so far. -/
structure TW (w wr : World) (R : Reg) (A : Option Addr) (c g c1 : Nat) (L : List Int) : Prop where
  bel : Below w.heap.size w wr
  box : Blk wr w.heap.size 25 #[.int .i64 R.W, .int .i64 R.T, .slice A R.C.length c]
  li : LiAt wr w.heap.size (.slice (some ⟨g, 0, none⟩) R.C.length c1) L
theorem TW.below {w wr w2 : World} {R : Reg} {A : Option Addr} {c g c1 : Nat} {L : List Int} (h : TW w wr R A c g c1 L) (hb : Below wr.heap.size wr w2) : TW w w2 R A c g c1 L :=
  ⟨h.bel.trans (hb.mono h.bel.size), h.box.below hb h.box.lt, h.li.below hb⟩
theorem nT_with {R : Reg} (hR : R.ok) {L : List Int} (hL : L.length = R.C.length) {c : Nat} : (if frB R L c 1 = true then nT (less R (lyV R L c 1)) else 0) = lowN R L c := by
  unfold lowN
  split
  · rw [nT_less hR (by rw [lyV_len]; exact hL)]
  · rfl

set_option maxHeartbeats 4000000 in
set_option maxRecDepth 100000 in
theorem tilingOfS_ok (R : Reg) (hR : R.ok) (A : Option Addr) (c B : Nat) (n : Nat) (hn : n < nT R) (w : World) (hr : Reads w B 1 A R.C.length (R.C.map Value.bool)) (hB : B ≤ w.heap.size) :
    Calls Try.prog 98 #[.agg #[.int .i64 R.W, .int .i64 R.T, .slice A R.C.length c], .int .i64 (n : Nat)] w fun e w' => ∃ v, e = .returned (.tuple #[v, .bool true]) ∧ LiAt w' w.heap.size v (tlV R n) ∧ Below w.heap.size w w' := by
  have hl36 := (len_bd hR).2
  have hl1 := (len_bd hR).1
  have hnT := nT_le R
  have hb0 : Below w.heap.size w (w.alloc (boxR R.W R.T A R.C.length c)) := (Below.refl _ _).alloc (Nat.le_refl _) _
  have k0 : Blk (w.alloc (boxR R.W R.T A R.C.length c)) w.heap.size 25 #[.int .i64 R.W, .int .i64 R.T, .slice A R.C.length c] := Blk.new _ _ _
  have hrd : ∀ w', Below w.heap.size w w' → Reads w' w'.heap.size 1 A R.C.length (R.C.map Value.bool) := fun w' h => (hr.below (h.mono hB)).more (Nat.le_trans hB h.size)
  have hVS := fun w' (h : Below w.heap.size w w') => hide (validS_any R.W R.T A R.C.length c w'.heap.size R.C w' (hrd w' h) (Nat.le_refl _) (by omega))
  rw [valid_of_ok hR] at hVS
  have hTM := fun w' (h : Below w.heap.size w w') => hide (tilingsManyS_ok R hR A c w'.heap.size w' (hrd w' h) (Nat.le_refl _))
  have hLB := fun w' (h : Below w.heap.size w w') => hide (laidBareS_ok R hR A c w'.heap.size w' (hrd w' h) (Nat.le_refl _))
  have hFI := fun (L : List Int) (g c1 : Nat) (w' : World) (hl : L.length = R.C.length) (h : TW w w' R A c g c1 L) => hide (firstS_any R hR A c w'.heap.size L (some ⟨g, 0, none⟩) c1 hl w' (hrd w' h.bel) h.li.reads.2 (Nat.le_refl _))
  have hLO := fun (L : List Int) (g c1 : Nat) (w' : World) (hl : Lay R L) (h : TW w w' R A c g c1 L) (q : Nat) (hq : q < R.C.length) (way : Int) (hw : 1 ≤ way ∧ way ≤ 4) => hide (layOneS_any R hR A c w'.heap.size L (some ⟨g, 0, none⟩) c1 q hq way hw hl w' (hrd w' h.bel) h.li.reads.2 (Nat.le_refl _))
  have hWI := fun (L : List Int) (g c1 : Nat) (w' : World) (hl : L.length = R.C.length) (hb : Below w.heap.size w w') (h : LiAt w' w.heap.size (.slice (some ⟨g, 0, none⟩) R.C.length c1) L) => hide (l3WithS_any R hR A c w'.heap.size L (some ⟨g, 0, none⟩) c1 hl w' (hrd w' hb) h.reads.2 (Nat.le_refl _))
  have hIN : inB (n : Int) 0 (((nT R : Nat) : Int) - 1) = true := by unfold inB; simp; omega
  have hAT := AtL.start hR hn
  have HN := Lib.hid hn
  clear hn
  obtain ⟨N, hN⟩ : ∃ N, nT R = N := ⟨_, rfl⟩
  rw [hN] at hIN hTM hnT
  clear hN hr hB
  have hwr : IntKind.i64.wrap ((N : Int) - 1) = (N : Int) - 1 := IntWalk.i64_in _ (by omega)
  go_enter Try.func98, Try.ntmps98
  go_wp2_with fail
  refine (unhide (hVS _ hb0)).mono ?_
  rintro e w1 ⟨rfl, hb1⟩
  have k1 := k0.below hb1 k0.lt
  have hB1 := hb0.trans (hb1.mono hb0.size)
  obtain ⟨b0, b1, b2⟩ := blk3 k1
  clear hVS hb1 k0 hb0
  go_wp2_with fail
  refine (unhide (hTM _ hB1)).mono ?_
  rintro e w2 ⟨rfl, hb2⟩
  have k2 := k1.below hb2 k1.lt
  have hB2 := hB1.trans (hb2.mono hB1.size)
  clear hTM hb2 k1 hB1 b0 b1 b2
  go_wp2_with fail
  refine (l1In_any _ _ _ _).mono ?_
  rintro e w' ⟨rfl, rfl⟩
  rw [hIN]
  obtain ⟨b0, b1, b2⟩ := blk3 k2
  clear hIN hwr
  go_wp2_with fail
  refine (unhide (hLB _ hB2)).mono ?_
  rintro e w3 ⟨g3, rfl, ho3, hb3⟩
  have hT3 : TW w w3 R A c g3 R.C.length (bare R) := ⟨hB2.trans (hb3.mono hB2.size), k2.below hb3 k2.lt, some ⟨g3, 0, none⟩, R.C.length, R.C.length, by simp [bare], by
    have := own_mono ho3 hB2.size
    simpa [bare] using this⟩
  clear hLB hb3 k2 hB2 ho3 b0 b1 b2
  obtain ⟨b0, b1, b2⟩ := blk3 hT3.box
  have hF3 := hFI _ _ _ _ (lay_bare hR).len hT3
  go_wp2_with fail
  refine (unhide hF3).mono ?_
  rintro e w4 ⟨rfl, hb4⟩
  have hT4 := hT3.below hb4
  clear hT3 hb4 b0 b1 b2 hF3
  go_wp2_with fail
  go_loopg [1, 6, 7] (opN R (bare R)) (fun q s1 s6 s7 wr => ∃ (L : List Int) (g c1 r : Nat), opN R L = q ∧ s1 = .int .i64 (r : Nat) ∧ s6 = .slice (some ⟨g, 0, none⟩) R.C.length c1 ∧ s7 = .int .i64 (fiZ R L) ∧ TW w wr R A c g c1 L ∧ AtL R n L r)
  case atStart => exact ⟨bare R, _, _, n, rfl, rfl, rfl, rfl, hT4, hAT⟩
  case round =>
    clear hT4 hAT
    obtain ⟨L, g, c1, r, hq, rfl, rfl, rfl, hT, hA⟩ := hrel
    have HQ := Lib.hid hq
    clear hq
    have hrl := Nat.lt_of_lt_of_le hA.lt (allT_len R 18 L)
    cases hf : fiV R L with
    | none =>
      rw [fiZ_none hf]
      have hfin := hA.done hf HN.out
      have HFIN := Lib.hid hfin
      have hli := hT.li
      have hbel := hT.bel
      clear hT hA hrl hFI hLO hWI hfin
      go_wp2_with fail
      go_ret2
      exact ⟨_, rfl, by rw [← HFIN.out]; exact hli, hbel⟩
    | some q =>
      rw [fiZ_some hf]
      have hqc := (fiV_some.1 hf).1
      obtain ⟨b0, b1, b2⟩ := blk3 hT.box
      have hL1 := hLO L g c1 wr hA.lay hT q hqc 1 ⟨by omega, by omega⟩
      obtain ⟨lo, hlo⟩ : ∃ lo, lowN R L q = lo := ⟨_, rfl⟩
      have hWT := nT_with hR hA.lay.len (c := q)
      have hlol := lowN_le R L q
      have hlowA := fun h => hA.low hR hf (r := r) h
      have hhighA := fun h => hA.high hR hf (r := r) h
      rw [hlo] at hWT hlol hlowA hhighA
      have HLA := Lib.hid hlowA
      have HHA := Lib.hid hhighA
      have HWT := Lib.hid hWT
      have hLl := hA.lay.len
      have hLy := hA.lay
      have HLY := Lib.hid hLy
      have HLL := Lib.hid hLl
      clear hlo hlowA hhighA hWT hA hLl hLy
      go_wp2_with fail
      refine (unhide hL1).mono ?_
      rintro e w5 ⟨g5, c5, c5', rfl, ho5, hb5⟩
      have hT5 := hT.below hb5
      have hM5 : (if frB R L q 1 = true then lyV R L q 1 else L).length = R.C.length := by
        split
        · rw [lyV_len]; exact HLL.out
        · exact HLL.out
      have hN5 : LiAt w5 w.heap.size (.slice (some ⟨g5, 0, none⟩) R.C.length c5) (if frB R L q 1 = true then lyV R L q 1 else L) := ⟨some ⟨g5, 0, none⟩, c5, c5', by rw [hM5], by rw [hM5]; exact own_mono ho5 hT.bel.size⟩
      clear hT hb5 b0 b1 b2 hL1 ho5 hM5
      obtain ⟨M5, hM5⟩ : ∃ M5, M5 = (if frB R L q 1 = true then lyV R L q 1 else L) := ⟨_, rfl⟩
      rw [← hM5] at hN5
      have HM5 := Lib.hid hM5
      have HW2 := HWT.out
      clear hM5 HWT
      obtain ⟨fb, hfb⟩ : ∃ fb, frB R L q 1 = fb := ⟨_, rfl⟩
      rw [hfb] at HM5 HW2 ⊢
      have HFB1 := Lib.hid hfb
      have HWT := Lib.hid HW2
      clear hfb HW2
      go_upto_if 42 with fail
      go_cut [10] (fun s10 wx => s10 = .int .i64 (lo : Nat) ∧ TW w wx R A c g c1 L ∧ LiAt wx w.heap.size (.slice (some ⟨g5, 0, none⟩) R.C.length c5) M5)
      case first =>
        obtain ⟨b0, b1, b2⟩ := blk3 hT5.box
        cases fb with
        | true =>
          have hMl : M5.length = R.C.length := by rw [HM5.out, if_pos rfl, lyV_len]; exact HLL.out
          have hW5 := hWI M5 g5 c5 w5 hMl hT5.bel hN5
          have hval : nT (less R M5) = lo := by
            have := HWT.out
            rw [if_pos rfl] at this
            rw [HM5.out, if_pos rfl]; exact this
          rw [hval] at hW5
          clear hval hMl
          go_wp2_with fail
          refine (unhide hW5).mono ?_
          rintro e w6 ⟨rfl, hb6⟩
          clear hW5
          go_wp2_with fail
          go_meet
          exact ⟨rfl, hT5.below hb6, hN5.below hb6⟩
        | false =>
          have hval : lo = 0 := by
            have := HWT.out
            rw [if_neg (by simp)] at this
            exact this.symm
          subst hval
          go_wp2_with fail
          go_meet
          exact ⟨rfl, hT5, hN5⟩
      case rest =>
        clear hT5 hN5
        obtain ⟨rfl, hT6, hN6⟩ := hcut
        obtain ⟨b0, b1, b2⟩ := blk3 hT6.box
        by_cases hge : lo ≤ r
        · obtain ⟨hfb2, hA2⟩ := HHA.out hge
          have hL2 := hLO L g c1 wc HLY.out hT6 q hqc 2 ⟨by omega, by omega⟩
          have hwr2 : IntKind.i64.wrap ((r : Int) - (lo : Int)) = (r : Int) - (lo : Int) := IntWalk.i64_in _ (by omega)
          have hon := opN_lay hR HLL.out (by decide) hfb2
          rw [if_pos hfb2] at hL2
          have HFB := Lib.hid hfb2
          clear hfb2 HHA HLA HWT
          go_wp2_with fail
          refine (unhide hL2).mono ?_
          rintro e w7 ⟨g7, c7, c7', rfl, ho7, hb7⟩
          have hT7 : TW w w7 R A c g7 c7 (lyV R L q 2) := ⟨hT6.bel.trans (hb7.mono hT6.bel.size), hT6.box.below hb7 hT6.box.lt, some ⟨g7, 0, none⟩, c7, c7', by rw [hA2.lay.len], by rw [hA2.lay.len]; exact own_mono ho7 hT6.bel.size⟩
          clear hT6 hN6 hb7 ho7 hL2 b0 b1 b2
          obtain ⟨b0, b1, b2⟩ := blk3 hT7.box
          have hF7 := hFI _ _ _ _ hA2.lay.len hT7
          go_wp2_with fail
          refine (unhide hF7).mono ?_
          rintro e w8 ⟨rfl, hb8⟩
          have hT8 := hT7.below hb8
          clear hT7 hb8 b0 b1 b2 hF7
          go_wp2_with fail
          go_roundg (opN R (lyV R L q 2))
          case measure => have := HQ.out; omega
          case rel => exact ⟨_, g7, c7, r - lo, rfl, by congr 1; omega, rfl, rfl, hT8, hA2⟩
        · obtain ⟨hfb1, hA2⟩ := HLA.out (by omega)
          have hMe : M5 = lyV R L q 1 := by rw [HM5.out, if_pos (by rw [← HFB1.out]; exact hfb1)]
          have hon := opN_lay hR HLL.out (by decide) hfb1
          clear HHA HLA HWT
          subst hMe
          have hT7 : TW w wc R A c g5 c5 (lyV R L q 1) := ⟨hT6.bel, hT6.box, hN6⟩
          have hF7 := hFI _ _ _ _ hA2.lay.len hT7
          have HFB := Lib.hid hfb1
          clear hT6 hN6 hfb1
          go_wp2_with fail
          refine (unhide hF7).mono ?_
          rintro e w8 ⟨rfl, hb8⟩
          have hT8 := hT7.below hb8
          clear hT7 hb8 b0 b1 b2 hF7
          go_wp2_with fail
          go_roundg (opN R (lyV R L q 1))
          case measure => have := HQ.out; omega
          case rel => exact ⟨_, g5, c5, r, rfl, rfl, rfl, rfl, hT8, hA2⟩

/-- TilingOf in a drawing, of any region and any rank: some list. -/
def SomeL (w : World) (e : Ending) (w' : World) : Prop := ∃ v ok L, e = .returned (.tuple #[v, .bool ok]) ∧ LiAt w' w.heap.size v L ∧ L.length ≤ 36 ∧ Below w.heap.size w w'

set_option maxHeartbeats 1000000 in
theorem tilingOfS_no1 (W T : Int) (A : Option Addr) (n c B : Nat) (bs : List Bool) (rank : Int) (w : World) (hr : Reads w B 1 A n (bs.map Value.bool)) (hB : B ≤ w.heap.size) (hn : n ≤ 9223372036854775807) (hv : validB W T bs = false) :
    Calls Try.prog 98 #[.agg #[.int .i64 W, .int .i64 T, .slice A n c], .int .i64 rank] w (SomeL w) := by
  have HV := hide (validS_any W T A n c B bs (w.alloc (boxR W T A n c)) (hr.alloc hB _) (by simp; omega) hn)
  rw [hv] at HV
  clear hv
  go_enter Try.func98, Try.ntmps98
  go_wp2_with fail
  refine (unhide HV).mono ?_
  rintro e w1 ⟨rfl, hb1⟩
  obtain ⟨hB1, hk1, b0, b1, b2⟩ := box_keep hb1
  go_wp2_with fail
  go_ret2
  have ho := World.ownsRow_made (base := w.heap.size) (e := 3) (size := 1) w1 #[] 0 hB1.size (by simp [maxLen]) (by simp)
  exact ⟨.slice (some ⟨w1.heap.size, 0, none⟩) 0 0, false, [], rfl, ⟨some ⟨w1.heap.size, 0, none⟩, 0, 0, rfl, by simpa using ho⟩, by simp, hB1.alloc hB1.size _⟩

set_option maxHeartbeats 1000000 in
theorem tilingOfS_no2 (R : Reg) (hR : R.ok) (A : Option Addr) (c B : Nat) (rank : Int) (hk : inB rank 0 (((nT R : Nat) : Int) - 1) = false) (w : World) (hr : Reads w B 1 A R.C.length (R.C.map Value.bool)) (hB : B ≤ w.heap.size) :
    Calls Try.prog 98 #[.agg #[.int .i64 R.W, .int .i64 R.T, .slice A R.C.length c], .int .i64 rank] w (SomeL w) := by
  have hl36 := (len_bd hR).2
  have hnT := nT_le R
  have hb0 : Below w.heap.size w (w.alloc (boxR R.W R.T A R.C.length c)) := (Below.refl _ _).alloc (Nat.le_refl _) _
  have k0 : Blk (w.alloc (boxR R.W R.T A R.C.length c)) w.heap.size 25 #[.int .i64 R.W, .int .i64 R.T, .slice A R.C.length c] := Blk.new _ _ _
  have hrd : ∀ w', Below w.heap.size w w' → Reads w' w'.heap.size 1 A R.C.length (R.C.map Value.bool) := fun w' h => (hr.below (h.mono hB)).more (Nat.le_trans hB h.size)
  have hVS := fun w' (h : Below w.heap.size w w') => hide (validS_any R.W R.T A R.C.length c w'.heap.size R.C w' (hrd w' h) (Nat.le_refl _) (by omega))
  rw [valid_of_ok hR] at hVS
  have hTM := fun w' (h : Below w.heap.size w w') => hide (tilingsManyS_ok R hR A c w'.heap.size w' (hrd w' h) (Nat.le_refl _))
  obtain ⟨N, hN⟩ : ∃ N, nT R = N := ⟨_, rfl⟩
  rw [hN] at hk hTM hnT
  clear hN hr hB
  have hwr : IntKind.i64.wrap ((N : Int) - 1) = (N : Int) - 1 := IntWalk.i64_in _ (by omega)
  go_enter Try.func98, Try.ntmps98
  go_wp2_with fail
  refine (unhide (hVS _ hb0)).mono ?_
  rintro e w1 ⟨rfl, hb1⟩
  have k1 := k0.below hb1 k0.lt
  have hB1 := hb0.trans (hb1.mono hb0.size)
  obtain ⟨b0, b1, b2⟩ := blk3 k1
  clear hVS hb1 k0 hb0
  go_wp2_with fail
  refine (unhide (hTM _ hB1)).mono ?_
  rintro e w2 ⟨rfl, hb2⟩
  have hB2 := hB1.trans (hb2.mono hB1.size)
  clear hTM hb2 k1 hB1 b0 b1 b2
  go_wp2_with fail
  refine (l1In_any _ _ _ _).mono ?_
  rintro e w' ⟨rfl, rfl⟩
  rw [hk]
  clear hk hwr
  go_wp2_with fail
  go_ret2
  have ho := World.ownsRow_made (base := w.heap.size) (e := 3) (size := 1) w2 #[] 0 hB2.size (by simp [maxLen]) (by simp)
  exact ⟨.slice (some ⟨w2.heap.size, 0, none⟩) 0 0, false, [], rfl, ⟨some ⟨w2.heap.size, 0, none⟩, 0, 0, rfl, by simpa using ho⟩, by simp, hB2.alloc hB2.size _⟩

theorem tlV_len {R : Reg} (hR : R.ok) {n : Nat} (hn : n < nT R) : (tlV R n).length ≤ 36 := by
  rw [(tlV_tile hR hn).1.len]; exact (len_bd hR).2
theorem tilingOfS_any (W T : Int) (A : Option Addr) (n c B : Nat) (bs : List Bool) (rank : Int) (w : World) (hbl : bs.length = n) (hr : Reads w B 1 A n (bs.map Value.bool)) (hB : B ≤ w.heap.size) (hn : n ≤ 9223372036854775807) :
    Calls Try.prog 98 #[.agg #[.int .i64 W, .int .i64 T, .slice A n c], .int .i64 rank] w (SomeL w) := by
  cases hv : validB W T bs with
  | false => exact tilingOfS_no1 W T A n c B bs rank w hr hB hn hv
  | true =>
    obtain ⟨R, hR, rfl, rfl, rfl⟩ := reg_of_valid hv
    subst hbl
    cases hk : inB rank 0 (((nT R : Nat) : Int) - 1) with
    | false => exact tilingOfS_no2 R hR A c B rank hk w hr hB
    | true =>
      unfold inB at hk
      simp at hk
      obtain ⟨k, rfl⟩ := Int.eq_ofNat_of_zero_le hk.1
      refine (tilingOfS_ok R hR A c B k (by omega) w hr hB).mono ?_
      rintro e w' ⟨v, rfl, h1, h2⟩
      exact ⟨v, true, _, rfl, h1, tlV_len hR (by omega), h2⟩

/-- TilingsMany of the reference, of any region. -/
def tmV (W T : Int) (bs : List Bool) : Int := if validB W T bs = true then ((nT ⟨W.toNat, T.toNat, bs⟩ : Nat) : Int) else -1
theorem tmV_ok {R : Reg} (hR : R.ok) : tmV R.W R.T R.C = ((nT R : Nat) : Int) := by unfold tmV; rw [if_pos (valid_of_ok hR)]; rfl
theorem tmV_no {W T : Int} {bs : List Bool} (h : validB W T bs = false) : tmV W T bs = -1 := by unfold tmV; rw [if_neg (by rw [h]; simp)]
theorem tmV_bd (W T : Int) (bs : List Bool) : -1 ≤ tmV W T bs ∧ tmV W T bs ≤ 262144 := by
  unfold tmV
  split
  · have := nT_le ⟨W.toNat, T.toNat, bs⟩; omega
  · omega

set_option maxHeartbeats 1000000 in
set_option maxRecDepth 100000 in
theorem tilingsManyS_no (W T : Int) (A : Option Addr) (n c B : Nat) (bs : List Bool) (w : World) (hr : Reads w B 1 A n (bs.map Value.bool)) (hB : B ≤ w.heap.size) (hn : n ≤ 9223372036854775807) (hv : validB W T bs = false) :
    Calls Try.prog 99 #[.agg #[.int .i64 W, .int .i64 T, .slice A n c]] w fun e w' => e = .returned (.int .i64 (-1)) ∧ Below w.heap.size w w' := by
  have HV := hide (validS_any W T A n c B bs (w.alloc (boxR W T A n c)) (hr.alloc hB _) (by simp; omega) hn)
  rw [hv] at HV
  clear hv
  go_enter Try.func99, Try.ntmps99
  go_wp2_with fail
  refine (unhide HV).mono ?_
  rintro e w1 ⟨rfl, hb1⟩
  obtain ⟨hB1, hk1, b0, b1, b2⟩ := box_keep hb1
  go_wp2_with fail
  go_ret
  exact ⟨rfl, hB1⟩
theorem tilingsManyS_any (W T : Int) (A : Option Addr) (n c B : Nat) (bs : List Bool) (w : World) (hbl : bs.length = n) (hr : Reads w B 1 A n (bs.map Value.bool)) (hB : B ≤ w.heap.size) (hn : n ≤ 9223372036854775807) :
    Calls Try.prog 99 #[.agg #[.int .i64 W, .int .i64 T, .slice A n c]] w fun e w' => e = .returned (.int .i64 (tmV W T bs)) ∧ Below w.heap.size w w' := by
  cases hv : validB W T bs with
  | false => rw [tmV_no hv]; exact tilingsManyS_no W T A n c B bs w hr hB hn hv
  | true =>
    obtain ⟨R, hR, rfl, rfl, rfl⟩ := reg_of_valid hv
    subst hbl
    rw [tmV_ok hR]
    exact tilingsManyS_ok R hR A c B w hr hB

end Go.Proofs.Ythepfpiphlfgnaa
