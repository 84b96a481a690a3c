/-
  YtbonmnfmlobpbaaFd: DownAll of the program and of the reference.
-/
import Derived.Test.YtbonmnfmlobpbaaQ5
import Derived.Test.YtbonmnfmlobpbaaFk
namespace Go.Proofs.Ytbonmnfmlobpbaa
open Go.RowKit

/-- A fresh row of numbers, and a number. -/
def RetII (w : World) (L : List Int) (b : Int) (e : Ending) (w' : World) : Prop :=
  ∃ A c c', e = .returned (.tuple #[.slice A L.length c', .int .i64 b]) ∧ w'.ownsRow w.heap.size 3 1 (.slice A L.length c) L.length (L.map (Value.int .i64)) ∧ Below w.heap.size w w'
theorem daV_len {W T : Int} {bs : List Bool} {L : List Int} : (daV W T bs L).length ≤ 36 := by
  cases h : tiledB W T bs L with
  | false => rw [(da_no h).1]; simp
  | true =>
    obtain ⟨R, hR, rfl, rfl, rfl, _, hL, hF⟩ := tiled_cases h
    rw [(da_yes h).1, (tile_dnIt hR ⟨hL, hF⟩ _).1.len]
    exact (len_bd hR).2

/-- A box and the list that is gone on with. -/
structure DA (w wr : World) (R : Reg) (A : Option Addr) (c g c' : Nat) (M : List Int) : Prop where
  bel : Below w.heap.size w wr
  box : Blk wr w.heap.size 29 #[.int .i64 R.W, .int .i64 R.T, .slice A R.C.length c]
  own : wr.ownsRow w.heap.size 3 1 (.slice (some ⟨g, 0, none⟩) R.C.length c') R.C.length (M.map (Value.int .i64))
theorem DA.below {w wr w2 : World} {R : Reg} {A : Option Addr} {c g c' : Nat} {M : List Int} (H : DA w wr R A c g c' M) (hb : Below wr.heap.size wr w2) : DA w w2 R A c g c' M :=
  ⟨H.bel.trans (hb.mono H.bel.size), H.box.below hb H.box.lt, own_below H.own hb (Nat.le_refl _)⟩

set_option maxHeartbeats 1000000 in
set_option maxRecDepth 20000 in
theorem downAllI_any (W T : Int) (A : Option Addr) (n c B : Nat) (bs : List Bool) (L : List Int) (D : Option Addr) (m d : Nat) (hP : Plain D) (w : World) (hbl : bs.length = n) (hL : L.length = m)
    (hr : Reads w B 1 A n (bs.map Value.bool)) (hd : Reads w B 1 D m (L.map (Value.int .i64))) (hB : B ≤ w.heap.size) (hn : n ≤ 9223372036854775807) (hm : m ≤ 9223372036854775807) :
    Calls Try.prog 36 #[.agg #[.int .i64 W, .int .i64 T, .slice A n c], .slice D m d] w (RetII w (daV W T bs L) (daN W T bs L)) := by
  have hTI := hide (tiled_any W T A n c B bs L D m d (w.alloc (boxR W T A n c)) hbl hL (hr.alloc hB _) (hd.alloc hB _) (by simp; omega) hn hm)
  cases ht : tiledB W T bs L with
  | false =>
    rw [ht] at hTI
    rw [(da_no ht).1, (da_no ht).2]
    clear ht
    go_enter Try.func36, Try.ntmps36
    go_wp2_with fail
    refine (unhide hTI).mono ?_
    rintro e w0 ⟨rfl, hb0⟩
    go_wp2_with fail
    go_ret2
    exact ⟨none, 0, 0, rfl, ⟨rfl, .inl ⟨rfl, rfl⟩⟩, (box_keep hb0).1⟩
  | true =>
    rw [ht] at hTI
    obtain ⟨R, hR, rfl, rfl, rfl, hS, hLy, hF⟩ := tiled_cases ht
    rw [(da_yes ht).1, (da_yes ht).2]
    subst hbl
    obtain rfl : m = R.C.length := by rw [← hL]; exact hLy.len
    have hT : Tile R L := ⟨hLy, hF⟩
    have hN := dnN_spec hR hS hT
    have hTn := fun k => tile_dnIt hR hT k
    have hl36 := (len_bd hR).2
    have hl1 := (len_bd hR).1
    have hCL := fun w' (h : Below w.heap.size w w') => hide (clone_any D d B L w' hP (by rw [hL]; exact hd.below (h.mono hB)) (by omega))
    simp only [hL] at hCL
    have hRI : ∀ (k : Nat) (w' : World) (g e1 : Nat), Below w.heap.size w w' → Reads w' w'.heap.size 1 (some ⟨g, 0, none⟩) R.C.length ((dnIt R L k).map (Value.int .i64)) → Hid (Calls Try.prog 68 #[.agg #[.int .i64 R.W, .int .i64 R.T, .slice A R.C.length c], .slice (some ⟨g, 0, none⟩) R.C.length e1, .int .i64 (-4)] w' (ClipInts w' (dnL R (dnIt R L k)))) :=
      fun k w' g e1 h ha => hide (rising_any R hR hS A c w'.heap.size (dnIt R L k) (some ⟨g, 0, none⟩) e1 (-4) (.inr ⟨_, _, rfl⟩) (hTn k).1 (hTn k).2 w' ((hr.below (h.mono hB)).more (Nat.le_trans hB h.size)) ha (Nat.le_refl _))
    have hFL : ∀ (k : Nat) (q : Nat) (w' : World) (g e1 : Nat), q < R.cn → Below w.heap.size w w' → Reads w' w'.heap.size 1 (some ⟨g, 0, none⟩) R.C.length ((dnIt R L k).map (Value.int .i64)) → Hid (Calls Try.prog 72 #[.agg #[.int .i64 R.W, .int .i64 R.T, .slice A R.C.length c], .slice (some ⟨g, 0, none⟩) R.C.length e1, .int .i64 (q : Nat)] w' (RetIB w' (flV R (dnIt R L k) (q : Int)) (flB R (dnIt R L k) (q : Int)))) :=
      fun k q w' g e1 hq h ha => hide (flip_any R hR A R.C.length c w'.heap.size (dnIt R L k) (some ⟨g, 0, none⟩) e1 (q : Int) (by have := cn_bd hR; omega) (.inr ⟨_, _, rfl⟩) (hTn k).1.len w' ha (Nat.le_refl _))
    have hstep : ∀ k, dnIt R L (k + 1) = dnStep R (dnIt R L k) := fun _ => rfl
    have hlenI : ∀ k, (dnIt R L k).length = R.C.length := fun k => (hTn k).1.len
    generalize dnN R L = N at *
    obtain ⟨hN1, hN2, hN3⟩ := hN
    clear ht hT hTn hLy hF hd
    go_enter Try.func36, Try.ntmps36
    go_wp2_with fail
    refine (unhide hTI).mono ?_
    rintro e w0 ⟨rfl, hb0⟩
    obtain ⟨hB0, hk0, b0, b1, b2⟩ := box_keep hb0
    clear hb0 hTI
    go_wp2_with fail
    refine (unhide (hCL _ hB0)).mono ?_
    rintro e w1 ⟨A1, c1, rfl, ho1, hb1⟩
    rw [hL] at ho1 ⊢
    obtain ⟨g, cg, hsh, _, _, _⟩ := own_shape ho1 hl1
    simp only [Value.slice.injEq, true_and] at hsh
    obtain ⟨rfl, rfl⟩ := hsh
    have hW1 : DA w w1 R A c g c1 (dnIt R L 0) := ⟨hB0.trans (hb1.mono hB0.size), hk0.below hb1 hk0.lt, own_mono ho1 hB0.size⟩
    clear hb1 ho1 hB0 hk0 b0 b1 b2 hCL
    have HN2 := Lib.hid hN2
    have HN3 := Lib.hid hN3
    have HST := Lib.hid hstep
    have HLI := Lib.hid hlenI
    clear hN2 hN3 hstep hlenI
    go_wp2_with fail
    go_loopg [6, 7] N (fun r s6 s7 wr => ∃ (k g c' c2 : Nat), k + r = N ∧ s7 = .int .i64 (k : Nat) ∧ s6 = .slice (some ⟨g, 0, none⟩) R.C.length c2 ∧ DA w wr R A c g c' (dnIt R L k))
    case atStart => exact ⟨0, _, _, _, by omega, rfl, rfl, hW1⟩
    case round =>
      clear hW1
      obtain ⟨k, g, c', c2, hk, rfl, rfl, hW⟩ := hrel
      have HK := Lib.hid hk
      have hk9 : k ≤ 1838 := by omega
      clear hk
      have HRI := hRI k wr g c2 hW.bel (Reads.of_own hW.own)
      obtain ⟨b0, b1, b2⟩ := blk3 hW.box
      by_cases hlt : k < N
      · have hne := HN3.out k hlt
        cases hd : dnL R (dnIt R L k) with
        | nil => exact absurd hd hne
        | cons z l =>
          obtain ⟨q, rfl, hq, hfb, hrs, hst⟩ := dn_head hd
          have HS1 : Hid (dnIt R L (k + 1) = flV R (dnIt R L k) (q : Int)) := Lib.hid (by rw [HST.out, hst])
          rw [hd] at HRI
          have hFLq := fun w' g e1 => hFL k q w' g e1 hq
          rw [hfb] at hFLq
          have HL1 : Hid ((flV R (dnIt R L k) (q : Int)).length = R.C.length) := Lib.hid (by rw [flV_len]; exact HLI.out k)
          clear hd hne hfb hrs hst hRI hFL
          generalize flV R (dnIt R L k) (q : Int) = M2 at *
          generalize dnIt R L k = M at *
          go_wp2_with fail
          refine (unhide HRI).mono ?_
          rintro e w2 ⟨A2, c2', rfl, ho2, hb2⟩
          have hW2 := hW.below hb2
          clear hW hb2 b0 b1 b2 HRI
          have hlc : (((((q : Nat) : Int) :: l).length : Int) == 0) = false := by simp only [beq_eq_false_iff_ne, List.length_cons]; omega
          have hlp : 0 < (((q : Nat) : Int) :: l).length := by simp
          obtain ⟨gv, cv, hsv, _, _, _⟩ := own_shape ho2 hlp
          simp only [Value.slice.injEq, true_and] at hsv
          obtain ⟨rfl, rfl⟩ := hsv
          have hx : w2.cell? ⟨gv, 0, none⟩ = some (.int .i64 (q : Nat)) := by rw [ho2.cellAt 0 (by omega)]; rfl
          generalize (((q : Nat) : Int) :: l).length = ln at *
          obtain ⟨b0, b1, b2⟩ := blk3 hW2.box
          go_upto_region 9 with fail
          go_region_held3 (fun w' => w'.cell? ⟨w.heap.size, 0, none⟩ = some (.int .i64 R.W) ∧ w'.cell? ⟨w.heap.size, 1, none⟩ = some (.int .i64 R.T) ∧ w'.cell? ⟨w.heap.size, 2, none⟩ = some (.slice A R.C.length c) ∧ w'.cell? ⟨gv, 0, none⟩ = some (.int .i64 (q : Nat)))
            (first
              | exact ⟨b0, b1, b2, hx⟩
              | exact ⟨cell_kept (w := w2.drew) b0 hb3, cell_kept (w := w2.drew) b1 hb3, cell_kept (w := w2.drew) b2 hb3, cell_kept (w := w2.drew) hx hb3⟩)
            (first
              | (go_at_call 72; (with_reducible refine (unhide (hFLq _ g c2 hW2.bel.drew (Reads.of_own (own_drew hW2.own)))).mono ?_); rintro e w3 ⟨A3, c3, c3', rfl, ho3, hb3⟩))
          rw [HL1.out] at ho3
          obtain ⟨g3, cg3, hsh3, _, _, _⟩ := own_shape ho3 hl1
          simp only [Value.slice.injEq, true_and] at hsh3
          obtain ⟨rfl, rfl⟩ := hsh3
          have hW4 : DA w w3 R A c g3 c3 M2 := ⟨hW2.bel.drew.trans (hb3.mono hW2.bel.drew.size), hW2.box.drew.below hb3 hW2.box.lt, own_mono ho3 hW2.bel.drew.size⟩
          clear hb3 ho3 hW2 b0 b1 b2 hx
          rw [HL1.out]
          go_wp2_with fail
          go_roundg (N - (k + 1))
          case measure => have := HK.out; omega
          case rel => exact ⟨k + 1, g3, c3, c3', by have := HK.out; omega, by go_num, rfl, by rw [HS1.out]; exact hW4⟩
      · obtain rfl : k = N := by have := HK.out; omega
        rw [HN2.out] at HRI
        go_wp2_with fail
        refine (unhide HRI).mono ?_
        rintro e w2 ⟨A2, c2', rfl, ho2, hb2⟩
        have hW2 := hW.below hb2
        go_wp2_with fail
        go_ret2
        exact ⟨_, c', c2, by rw [HLI.out]; rfl, by rw [HLI.out]; exact hW2.own, hW2.bel⟩

set_option maxHeartbeats 1000000 in
set_option maxRecDepth 20000 in
theorem downAllS_any (W T : Int) (A : Option Addr) (n c B : Nat) (bs : List Bool) (L : List Int) (D : Option Addr) (m d : Nat) (w : World) (hbl : bs.length = n) (hL : L.length = m)
    (hr : Reads w B 1 A n (bs.map Value.bool)) (hd : Reads w B 1 D m (L.map (Value.int .i64))) (hB : B ≤ w.heap.size) (hn : n ≤ 9223372036854775807) (hm : m ≤ 9223372036854775807) :
    Calls Try.prog 35 #[.agg #[.int .i64 W, .int .i64 T, .slice A n c], .slice D m d] w (RetII w (daV W T bs L) (daN W T bs L)) := by
  have hSI := hide (SimpleS_any W T A n c B bs (w.alloc (boxR W T A n c)) (hr.alloc hB _) (by simp; omega) hn)
  have hTO := fun w' (h : Below w.heap.size w w') => hide (tilingOkS_any W T A n c B bs L D m d w' hbl hL (hr.below (h.mono hB)) (hd.below (h.mono hB)) (Nat.le_trans hB h.size) hn hm)
  cases ht : tiledB W T bs L with
  | false =>
    rw [(da_no ht).1, (da_no ht).2]
    have hcase : simpleB W T bs = false ∨ (simpleB W T bs = true ∧ tilingB W T bs L = false) := by
      unfold tiledB at ht
      cases hs : simpleB W T bs with
      | false => exact .inl rfl
      | true => rw [hs, Bool.true_and] at ht; exact .inr ⟨rfl, ht⟩
    clear ht
    rcases hcase with hs | ⟨hs, hti⟩
    · rw [hs] at hSI
      clear hTO hs
      go_enter Try.func35, Try.ntmps35
      go_wp2_with fail
      refine (unhide hSI).mono ?_
      rintro e w1 ⟨rfl, hb1⟩
      obtain ⟨hB1, hk1, b0, b1, b2⟩ := box_keep hb1
      go_wp2_with fail
      go_ret2
      have ho := World.ownsRow_made (base := w.heap.size) (e := 3) (size := 1) w1 #[] 0 hB1.size (by simp [maxLen]) (by simp)
      exact ⟨_, 0, 0, rfl, by simpa using ho, hB1.alloc hB1.size _⟩
    · rw [hs] at hSI
      simp only [hti] at hTO
      clear hs hti
      go_enter Try.func35, Try.ntmps35
      go_wp2_with fail
      refine (unhide hSI).mono ?_
      rintro e w1 ⟨rfl, hb1⟩
      obtain ⟨hB1, hk1, b0, b1, b2⟩ := box_keep hb1
      go_wp2_with fail
      refine (unhide (hTO _ hB1)).mono ?_
      rintro e w2 ⟨rfl, hb2⟩
      have hB2 := hB1.trans (hb2.mono hB1.size)
      go_wp2_with fail
      go_ret2
      have ho := World.ownsRow_made (base := w.heap.size) (e := 3) (size := 1) w2 #[] 0 hB2.size (by simp [maxLen]) (by simp)
      exact ⟨_, 0, 0, rfl, by simpa using ho, hB2.alloc hB2.size _⟩
  | true =>
    obtain ⟨R, hR, rfl, rfl, rfl, hS, hLy, hF⟩ := tiled_cases ht
    rw [(da_yes ht).1, (da_yes ht).2]
    have hs : simpleB R.W R.T R.C = true ∧ tilingB R.W R.T R.C L = true := by unfold tiledB at ht; rw [Bool.and_eq_true] at ht; exact ht
    rw [hs.1] at hSI
    simp only [hs.2] at hTO
    subst hbl
    obtain rfl : m = R.C.length := by rw [← hL]; exact hLy.len
    have hT : Tile R L := ⟨hLy, hF⟩
    have hN := dnN_spec hR hS hT
    have hTn := fun k => tile_dnIt hR hT k
    have hl36 := (len_bd hR).2
    have hl1 := (len_bd hR).1
    have hcn := cn_bd hR
    have hONE := ints_one (L := L)
    have hDO : ∀ (k : Nat) (w' : World) (g e1 : Nat), Below w.heap.size w w' → Reads w' w'.heap.size 1 (some ⟨g, 0, none⟩) R.C.length ((dnIt R L k).map (Value.int .i64)) → Hid (Calls Try.prog 31 #[.agg #[.int .i64 R.W, .int .i64 R.T, .slice A R.C.length c], .slice (some ⟨g, 0, none⟩) R.C.length e1] w' (RetInts w' (dnL R (dnIt R L k)))) :=
      fun k w' g e1 h ha => by
        have := downOfS_any R.W R.T A R.C.length c w'.heap.size R.C (dnIt R L k) (some ⟨g, 0, none⟩) R.C.length e1 w' rfl (hTn k).1.len ((hr.below (h.mono hB)).more (Nat.le_trans hB h.size)) ha (Nat.le_refl _) hn hm
        rw [rgV_yes ((tiled_ok hR).2 ⟨hS, (hTn k).1, (hTn k).2⟩)] at this
        exact hide this
    have hFL : ∀ (k : Nat) (q : Nat) (w' : World) (g e1 : Nat), Below w.heap.size w w' → Reads w' w'.heap.size 1 (some ⟨g, 0, none⟩) R.C.length ((dnIt R L k).map (Value.int .i64)) → Hid (Calls Try.prog 64 #[.agg #[.int .i64 R.W, .int .i64 R.T, .slice A R.C.length c], .slice (some ⟨g, 0, none⟩) R.C.length e1, .int .i64 (q : Nat)] w' (RetIB w' (flV R (dnIt R L k) (q : Int)) (flB R (dnIt R L k) (q : Int)))) :=
      fun k q w' g e1 h ha => hide (flipOneS_ok R hR A c w'.heap.size (dnIt R L k) (some ⟨g, 0, none⟩) e1 (q : Int) (hTn k).1 w' ((hr.below (h.mono hB)).more (Nat.le_trans hB h.size)) ha (Nat.le_refl _))
    have hstep : ∀ k, dnIt R L (k + 1) = dnStep R (dnIt R L k) := fun _ => rfl
    have hlenI : ∀ k, (dnIt R L k).length = R.C.length := fun k => (hTn k).1.len
    generalize dnN R L = N at *
    obtain ⟨hN1, hN2, hN3⟩ := hN
    have HN2 := Lib.hid hN2
    have HN3 := Lib.hid hN3
    have HST := Lib.hid hstep
    have HLI := Lib.hid hlenI
    clear hN2 hN3 hstep hlenI ht hT hTn hLy hF hs
    go_enter Try.func35, Try.ntmps35
    go_wp2_with fail
    refine (unhide hSI).mono ?_
    rintro e w0 ⟨rfl, hb0⟩
    obtain ⟨hB0, hk0, b0, b1, b2⟩ := box_keep hb0
    clear hb0 hSI
    go_wp2_with fail
    refine (unhide (hTO _ hB0)).mono ?_
    rintro e w1 ⟨rfl, hb1⟩
    have hB1 := hB0.trans (hb1.mono hB0.size)
    have hk1 := hk0.below hb1 hk0.lt
    clear b0 b1 b2 hb1 hB0 hk0
    have ho1 : (w1.alloc (.cells #[] 3)).ownsRow (w.heap.size + 1) 3 1 (.slice (some ⟨w1.heap.size, 0, none⟩) 0 0) 0 [] := by simpa using World.ownsRow_made (base := w.heap.size + 1) (e := 3) (size := 1) w1 #[] 0 hk1.lt (by simp [maxLen]) (by simp)
    have hk2 := hk1.alloc (.cells #[] 3)
    have hB2 := hB1.alloc hB1.size (.cells #[] 3)
    have hd2 := hd.below (hB2.mono hB)
    go_wp2_with (at_builtin; refine wpList_appN rfl _ _ _ rfl (w.heap.size + 1) 3 _ 8 Try.underlying25 info_int rfl (by omega) (.slice (some ⟨w1.heap.size, 0, none⟩) 0 0) 0 [] rfl ho1 B D R.C.length d (L.map (Value.int .i64)) rfl hd2 hONE (by omega) (by have := hk2.lt; omega) ?_; rintro v' w3 ho3 hg3 _; obtain ⟨g, c', rfl, hP3⟩ := pg_copy hB1 hk1 ho3 hg3 hL hl1; have hW1 : DA w w3 R A c g c' (dnIt R L 0) := ⟨hP3.bel, hP3.box, by have := own_mono hP3.own (base' := w.heap.size) (by omega); rw [hL] at this; exact this⟩; clear ho3 hg3 hP3)
    clear ho1 hk2 hB2 hd2 hB1 hk1
    go_loopg [6, 7] N (fun r s6 s7 wr => ∃ (k g c' c2 : Nat), k + r = N ∧ s7 = .int .i64 (k : Nat) ∧ s6 = .slice (some ⟨g, 0, none⟩) R.C.length c2 ∧ DA w wr R A c g c' (dnIt R L k))
    case atStart => exact ⟨0, _, _, _, by omega, rfl, rfl, hW1⟩
    case round =>
      clear hW1
      obtain ⟨k, g, c', c2, hk, rfl, rfl, hW⟩ := hrel
      have HK := Lib.hid hk
      have hk9 : k ≤ 1838 := by omega
      clear hk
      have HDO := fun w' h ha => hDO k w' g c2 h ha
      have HD1 := HDO wr hW.bel (Reads.of_own hW.own)
      obtain ⟨b0, b1, b2⟩ := blk3 hW.box
      by_cases hlt : k < N
      · have hne := HN3.out k hlt
        cases hdd : dnL R (dnIt R L k) with
        | nil => exact absurd hdd hne
        | cons z l =>
          obtain ⟨q, rfl, hq, hfb, hrs, hst⟩ := dn_head hdd
          have HS1 : Hid (dnIt R L (k + 1) = flV R (dnIt R L k) (q : Int)) := Lib.hid (by rw [HST.out, hst])
          rw [hdd] at HD1
          simp only [hdd] at HDO
          have hFLq := fun w' g e1 => hFL k q w' g e1
          rw [hfb] at hFLq
          have HL1 : Hid ((flV R (dnIt R L k) (q : Int)).length = R.C.length) := Lib.hid (by rw [flV_len]; exact HLI.out k)
          clear hdd hne hfb hrs hst hDO hFL
          generalize flV R (dnIt R L k) (q : Int) = M2 at *
          generalize dnIt R L k = M at *
          go_wp2_with fail
          refine (unhide HD1).mono ?_
          rintro e w2 ⟨A2, c2', c2'', rfl, ho2, hb2⟩
          have hW2 := hW.below hb2
          clear hW hb2 b0 b1 b2 HD1 ho2
          have hlc : decide ((0 : Int) < ((((q : Nat) : Int) :: l).length : Int)) = true := decide_eq_true (by simp only [List.length_cons]; omega)
          have hlp : 0 < (((q : Nat) : Int) :: l).length := by simp
          obtain ⟨b0, b1, b2⟩ := blk3 hW2.box
          go_upto_region 6 with fail
          go_cut [8] (fun s8 wx => ∃ (g c' c2 : Nat), s8 = .slice (some ⟨g, 0, none⟩) R.C.length c2 ∧ DA w wx R A c g c' M2)
          case first =>
            go_region_with
              (first
                | (go_at_call 31; (with_reducible refine (unhide (HDO _ hW2.bel.drew (Reads.of_own (own_drew hW2.own)))).mono ?_); rintro e w3 ⟨A3, c3, c3', rfl, ho3, hb3⟩; obtain ⟨gv, cv, hsv, _, _, _⟩ := own_shape ho3 hlp; simp only [Value.slice.injEq, true_and] at hsv; obtain ⟨rfl, rfl⟩ := hsv; have hx : w3.cell? ⟨gv, 0, none⟩ = some (.int .i64 (q : Nat)) := (by rw [ho3.cellAt 0 (by omega)]; rfl); have d0 := cell_kept (w := w2.drew) b0 hb3; have d1 := cell_kept (w := w2.drew) b1 hb3; have d2 := cell_kept (w := w2.drew) b2 hb3; have hW3 : DA w w3 R A c g c' M := DA.below (wr := w2.drew) ⟨hW2.bel.drew, hW2.box.drew, own_drew hW2.own⟩ hb3)
                | (go_at_call 64; (with_reducible refine (unhide (hFLq _ g c2 hW3.bel (Reads.of_own hW3.own))).mono ?_); rintro e w4 ⟨A4, c4, c4', rfl, ho4, hb4⟩))
            all_goals
              rw [HL1.out] at ho4 ⊢
              go_wp2_with fail
              go_meet
              obtain ⟨g4, cg4, hsh4, _, _, _⟩ := own_shape ho4 hl1
              simp only [Value.slice.injEq, true_and] at hsh4
              obtain ⟨rfl, rfl⟩ := hsh4
              exact ⟨_, _, _, rfl, hW3.bel.trans (hb4.mono hW3.bel.size), hW3.box.below hb4 hW3.box.lt, own_mono ho4 hW3.bel.size⟩
          case rest =>
            obtain ⟨g3, c4, c5, rfl, hW4⟩ := hcut
            clear hW2 b0 b1 b2 HDO hFLq
            go_wp2_with fail
            go_roundg (N - (k + 1))
            case measure => have := HK.out; omega
            case rel => exact ⟨k + 1, g3, c4, c5, by have := HK.out; omega, by go_num, rfl, by rw [HS1.out]; exact hW4⟩
      · obtain rfl : k = N := by have := HK.out; omega
        rw [HN2.out] at HD1
        go_wp2_with fail
        refine (unhide HD1).mono ?_
        rintro e w2 ⟨A2, c2', c2'', rfl, ho2, hb2⟩
        have hW2 := hW.below hb2
        go_wp2_with fail
        go_ret2
        exact ⟨_, c', c2, by rw [HLI.out]; rfl, by rw [HLI.out]; exact hW2.own, hW2.bel⟩

end Go.Proofs.Ytbonmnfmlobpbaa
