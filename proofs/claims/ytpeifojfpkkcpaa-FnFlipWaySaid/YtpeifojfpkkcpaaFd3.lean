/-
  YtpeifojfpkkcpaaFd3: the texts Fd, Fw, Fx in one file.
-/
import Derived.Test.YtpeifojfpkkcpaaFm
import Derived.Test.YtpeifojfpkkcpaaFk

/-
  YtpeifojfpkkcpaaFd: DownAll of the program and of the reference.
-/
namespace Go.Proofs.Ytpeifojfpkkcpaa
open Go.RowKit

/-- A fresh row of numbers, and a number. -/
def RetII (w : World) (L : List Int) (b : Int) (e : Ending) (w' : World) : Prop :=
  ∃ A c c', e = .returned (.tuple #[.slice A L.length c', .int .i64 b]) ∧ w'.ownsRow w.heap.size 3 1 (.slice A L.length c) L.length (L.map (Value.int .i64)) ∧ Below w.heap.size w w'
theorem daV_len {W T : Int} {bs : List Bool} {L : List Int} : (daV W T bs L).length ≤ 36 := by
  cases h : tiledB W T bs L with
  | false => rw [(da_no h).1]; simp
  | true =>
    obtain ⟨R, hR, rfl, rfl, rfl, _, hL, hF⟩ := tiled_cases h
    rw [(da_yes h).1, (tile_dnIt hR ⟨hL, hF⟩ _).1.len]
    exact (len_bd hR).2

/-- A box and the list that is gone on with. -/
structure DA (w wr : World) (R : Reg) (A : Option Addr) (c g c' : Nat) (M : List Int) : Prop where
  bel : Below w.heap.size w wr
  box : Blk wr w.heap.size 25 #[.int .i64 R.W, .int .i64 R.T, .slice A R.C.length c]
  own : wr.ownsRow w.heap.size 3 1 (.slice (some ⟨g, 0, none⟩) R.C.length c') R.C.length (M.map (Value.int .i64))
theorem DA.below {w wr w2 : World} {R : Reg} {A : Option Addr} {c g c' : Nat} {M : List Int} (H : DA w wr R A c g c' M) (hb : Below wr.heap.size wr w2) : DA w w2 R A c g c' M :=
  ⟨H.bel.trans (hb.mono H.bel.size), H.box.below hb H.box.lt, own_below H.own hb (Nat.le_refl _)⟩

set_option maxHeartbeats 1000000 in
set_option maxRecDepth 20000 in
theorem downAllI_any (W T : Int) (A : Option Addr) (n c B : Nat) (bs : List Bool) (L : List Int) (D : Option Addr) (m d : Nat) (hP : Plain D) (w : World) (hbl : bs.length = n) (hL : L.length = m)
    (hr : Reads w B 1 A n (bs.map Value.bool)) (hd : Reads w B 1 D m (L.map (Value.int .i64))) (hB : B ≤ w.heap.size) (hn : n ≤ 9223372036854775807) (hm : m ≤ 9223372036854775807) :
    Calls Try.prog 53 #[.agg #[.int .i64 W, .int .i64 T, .slice A n c], .slice D m d] w (RetII w (daV W T bs L) (daN W T bs L)) := by
  have hTI := hide (tiled_any W T A n c B bs L D m d (w.alloc (boxR W T A n c)) hbl hL (hr.alloc hB _) (hd.alloc hB _) (by simp; omega) hn hm)
  cases ht : tiledB W T bs L with
  | false =>
    rw [ht] at hTI
    rw [(da_no ht).1, (da_no ht).2]
    clear ht
    go_enter Try.func53, Try.ntmps53
    go_wp2_with fail
    refine (unhide hTI).mono ?_
    rintro e w0 ⟨rfl, hb0⟩
    go_wp2_with fail
    go_ret2
    exact ⟨none, 0, 0, rfl, ⟨rfl, .inl ⟨rfl, rfl⟩⟩, (box_keep hb0).1⟩
  | true =>
    rw [ht] at hTI
    obtain ⟨R, hR, rfl, rfl, rfl, hS, hLy, hF⟩ := tiled_cases ht
    rw [(da_yes ht).1, (da_yes ht).2]
    subst hbl
    obtain rfl : m = R.C.length := by rw [← hL]; exact hLy.len
    have hT : Tile R L := ⟨hLy, hF⟩
    have hN := dnN_spec hR hS hT
    have hTn := fun k => tile_dnIt hR hT k
    have hl36 := (len_bd hR).2
    have hl1 := (len_bd hR).1
    have hCL := fun w' (h : Below w.heap.size w w') => hide (clone_any D d B L w' hP (by rw [hL]; exact hd.below (h.mono hB)) (by omega))
    simp only [hL] at hCL
    have hRI : ∀ (k : Nat) (w' : World) (g e1 : Nat), Below w.heap.size w w' → Reads w' w'.heap.size 1 (some ⟨g, 0, none⟩) R.C.length ((dnIt R L k).map (Value.int .i64)) → Hid (Calls Try.prog 112 #[.agg #[.int .i64 R.W, .int .i64 R.T, .slice A R.C.length c], .slice (some ⟨g, 0, none⟩) R.C.length e1, .int .i64 (-4)] w' (ClipInts w' (dnL R (dnIt R L k)))) :=
      fun k w' g e1 h ha => hide (rising_any R hR hS A c w'.heap.size (dnIt R L k) (some ⟨g, 0, none⟩) e1 (-4) (.inr ⟨_, _, rfl⟩) (hTn k).1 (hTn k).2 w' ((hr.below (h.mono hB)).more (Nat.le_trans hB h.size)) ha (Nat.le_refl _))
    have hFL : ∀ (k : Nat) (q : Nat) (w' : World) (g e1 : Nat), q < R.cn → Below w.heap.size w w' → Reads w' w'.heap.size 1 (some ⟨g, 0, none⟩) R.C.length ((dnIt R L k).map (Value.int .i64)) → Hid (Calls Try.prog 73 #[.agg #[.int .i64 R.W, .int .i64 R.T, .slice A R.C.length c], .slice (some ⟨g, 0, none⟩) R.C.length e1, .int .i64 (q : Nat)] w' (RetIB w' (flV R (dnIt R L k) (q : Int)) (flB R (dnIt R L k) (q : Int)))) :=
      fun k q w' g e1 hq h ha => hide (flip_any R hR A R.C.length c w'.heap.size (dnIt R L k) (some ⟨g, 0, none⟩) e1 (q : Int) (by have := cn_bd hR; omega) (.inr ⟨_, _, rfl⟩) (hTn k).1.len w' ha (Nat.le_refl _))
    have hstep : ∀ k, dnIt R L (k + 1) = dnStep R (dnIt R L k) := fun _ => rfl
    have hlenI : ∀ k, (dnIt R L k).length = R.C.length := fun k => (hTn k).1.len
    generalize dnN R L = N at *
    obtain ⟨hN1, hN2, hN3⟩ := hN
    clear ht hT hTn hLy hF hd
    go_enter Try.func53, Try.ntmps53
    go_wp2_with fail
    refine (unhide hTI).mono ?_
    rintro e w0 ⟨rfl, hb0⟩
    obtain ⟨hB0, hk0, b0, b1, b2⟩ := box_keep hb0
    clear hb0 hTI
    go_wp2_with fail
    refine (unhide (hCL _ hB0)).mono ?_
    rintro e w1 ⟨A1, c1, rfl, ho1, hb1⟩
    rw [hL] at ho1 ⊢
    obtain ⟨g, cg, hsh, _, _, _⟩ := own_shape ho1 hl1
    simp only [Value.slice.injEq, true_and] at hsh
    obtain ⟨rfl, rfl⟩ := hsh
    have hW1 : DA w w1 R A c g c1 (dnIt R L 0) := ⟨hB0.trans (hb1.mono hB0.size), hk0.below hb1 hk0.lt, own_mono ho1 hB0.size⟩
    clear hb1 ho1 hB0 hk0 b0 b1 b2 hCL
    have HN2 := Lib.hid hN2
    have HN3 := Lib.hid hN3
    have HST := Lib.hid hstep
    have HLI := Lib.hid hlenI
    clear hN2 hN3 hstep hlenI
    go_wp2_with fail
    go_loopg [6, 7] N (fun r s6 s7 wr => ∃ (k g c' c2 : Nat), k + r = N ∧ s7 = .int .i64 (k : Nat) ∧ s6 = .slice (some ⟨g, 0, none⟩) R.C.length c2 ∧ DA w wr R A c g c' (dnIt R L k))
    case atStart => exact ⟨0, _, _, _, by omega, rfl, rfl, hW1⟩
    case round =>
      clear hW1
      obtain ⟨k, g, c', c2, hk, rfl, rfl, hW⟩ := hrel
      have HK := Lib.hid hk
      have hk9 : k ≤ 1838 := by omega
      clear hk
      have HRI := hRI k wr g c2 hW.bel (Reads.of_own hW.own)
      obtain ⟨b0, b1, b2⟩ := blk3 hW.box
      by_cases hlt : k < N
      · have hne := HN3.out k hlt
        cases hd : dnL R (dnIt R L k) with
        | nil => exact absurd hd hne
        | cons z l =>
          obtain ⟨q, rfl, hq, hfb, hrs, hst⟩ := dn_head hd
          have HS1 : Hid (dnIt R L (k + 1) = flV R (dnIt R L k) (q : Int)) := Lib.hid (by rw [HST.out, hst])
          rw [hd] at HRI
          have hFLq := fun w' g e1 => hFL k q w' g e1 hq
          rw [hfb] at hFLq
          have HL1 : Hid ((flV R (dnIt R L k) (q : Int)).length = R.C.length) := Lib.hid (by rw [flV_len]; exact HLI.out k)
          clear hd hne hfb hrs hst hRI hFL
          generalize flV R (dnIt R L k) (q : Int) = M2 at *
          generalize dnIt R L k = M at *
          go_wp2_with fail
          refine (unhide HRI).mono ?_
          rintro e w2 ⟨A2, c2', rfl, ho2, hb2⟩
          have hW2 := hW.below hb2
          clear hW hb2 b0 b1 b2 HRI
          have hlc : (((((q : Nat) : Int) :: l).length : Int) == 0) = false := by simp only [beq_eq_false_iff_ne, List.length_cons]; omega
          have hlp : 0 < (((q : Nat) : Int) :: l).length := by simp
          obtain ⟨gv, cv, hsv, _, _, _⟩ := own_shape ho2 hlp
          simp only [Value.slice.injEq, true_and] at hsv
          obtain ⟨rfl, rfl⟩ := hsv
          have hx : w2.cell? ⟨gv, 0, none⟩ = some (.int .i64 (q : Nat)) := by rw [ho2.cellAt 0 (by omega)]; rfl
          generalize (((q : Nat) : Int) :: l).length = ln at *
          obtain ⟨b0, b1, b2⟩ := blk3 hW2.box
          go_upto_region 9 with fail
          go_region_held3 (fun w' => w'.cell? ⟨w.heap.size, 0, none⟩ = some (.int .i64 R.W) ∧ w'.cell? ⟨w.heap.size, 1, none⟩ = some (.int .i64 R.T) ∧ w'.cell? ⟨w.heap.size, 2, none⟩ = some (.slice A R.C.length c) ∧ w'.cell? ⟨gv, 0, none⟩ = some (.int .i64 (q : Nat)))
            (first
              | exact ⟨b0, b1, b2, hx⟩
              | exact ⟨cell_kept (w := w2.drew) b0 hb3, cell_kept (w := w2.drew) b1 hb3, cell_kept (w := w2.drew) b2 hb3, cell_kept (w := w2.drew) hx hb3⟩)
            (first
              | (go_at_call 73; (with_reducible refine (unhide (hFLq _ g c2 hW2.bel.drew (Reads.of_own (own_drew hW2.own)))).mono ?_); rintro e w3 ⟨A3, c3, c3', rfl, ho3, hb3⟩))
          rw [HL1.out] at ho3
          obtain ⟨g3, cg3, hsh3, _, _, _⟩ := own_shape ho3 hl1
          simp only [Value.slice.injEq, true_and] at hsh3
          obtain ⟨rfl, rfl⟩ := hsh3
          have hW4 : DA w w3 R A c g3 c3 M2 := ⟨hW2.bel.drew.trans (hb3.mono hW2.bel.drew.size), hW2.box.drew.below hb3 hW2.box.lt, own_mono ho3 hW2.bel.drew.size⟩
          clear hb3 ho3 hW2 b0 b1 b2 hx
          rw [HL1.out]
          go_wp2_with fail
          go_roundg (N - (k + 1))
          case measure => have := HK.out; omega
          case rel => exact ⟨k + 1, g3, c3, c3', by have := HK.out; omega, by go_num, rfl, by rw [HS1.out]; exact hW4⟩
      · obtain rfl : k = N := by have := HK.out; omega
        rw [HN2.out] at HRI
        go_wp2_with fail
        refine (unhide HRI).mono ?_
        rintro e w2 ⟨A2, c2', rfl, ho2, hb2⟩
        have hW2 := hW.below hb2
        go_wp2_with fail
        go_ret2
        exact ⟨_, c', c2, by rw [HLI.out]; rfl, by rw [HLI.out]; exact hW2.own, hW2.bel⟩

set_option maxHeartbeats 1000000 in
set_option maxRecDepth 20000 in
theorem downAllS_any (W T : Int) (A : Option Addr) (n c B : Nat) (bs : List Bool) (L : List Int) (D : Option Addr) (m d : Nat) (w : World) (hbl : bs.length = n) (hL : L.length = m)
    (hr : Reads w B 1 A n (bs.map Value.bool)) (hd : Reads w B 1 D m (L.map (Value.int .i64))) (hB : B ≤ w.heap.size) (hn : n ≤ 9223372036854775807) (hm : m ≤ 9223372036854775807) :
    Calls Try.prog 54 #[.agg #[.int .i64 W, .int .i64 T, .slice A n c], .slice D m d] w (RetII w (daV W T bs L) (daN W T bs L)) := by
  have hSI := hide (SimpleS_any W T A n c B bs (w.alloc (boxR W T A n c)) (hr.alloc hB _) (by simp; omega) hn)
  have hTO := fun w' (h : Below w.heap.size w w') => hide (tilingOkS_any W T A n c B bs L D m d w' hbl hL (hr.below (h.mono hB)) (hd.below (h.mono hB)) (Nat.le_trans hB h.size) hn hm)
  cases ht : tiledB W T bs L with
  | false =>
    rw [(da_no ht).1, (da_no ht).2]
    have hcase : simpleB W T bs = false ∨ (simpleB W T bs = true ∧ tilingB W T bs L = false) := by
      unfold tiledB at ht
      cases hs : simpleB W T bs with
      | false => exact .inl rfl
      | true => rw [hs, Bool.true_and] at ht; exact .inr ⟨rfl, ht⟩
    clear ht
    rcases hcase with hs | ⟨hs, hti⟩
    · rw [hs] at hSI
      clear hTO hs
      go_enter Try.func54, Try.ntmps54
      go_wp2_with fail
      refine (unhide hSI).mono ?_
      rintro e w1 ⟨rfl, hb1⟩
      obtain ⟨hB1, hk1, b0, b1, b2⟩ := box_keep hb1
      go_wp2_with fail
      go_ret2
      have ho := World.ownsRow_made (base := w.heap.size) (e := 3) (size := 1) w1 #[] 0 hB1.size (by simp [maxLen]) (by simp)
      exact ⟨_, 0, 0, rfl, by simpa using ho, hB1.alloc hB1.size _⟩
    · rw [hs] at hSI
      simp only [hti] at hTO
      clear hs hti
      go_enter Try.func54, Try.ntmps54
      go_wp2_with fail
      refine (unhide hSI).mono ?_
      rintro e w1 ⟨rfl, hb1⟩
      obtain ⟨hB1, hk1, b0, b1, b2⟩ := box_keep hb1
      go_wp2_with fail
      refine (unhide (hTO _ hB1)).mono ?_
      rintro e w2 ⟨rfl, hb2⟩
      have hB2 := hB1.trans (hb2.mono hB1.size)
      go_wp2_with fail
      go_ret2
      have ho := World.ownsRow_made (base := w.heap.size) (e := 3) (size := 1) w2 #[] 0 hB2.size (by simp [maxLen]) (by simp)
      exact ⟨_, 0, 0, rfl, by simpa using ho, hB2.alloc hB2.size _⟩
  | true =>
    obtain ⟨R, hR, rfl, rfl, rfl, hS, hLy, hF⟩ := tiled_cases ht
    rw [(da_yes ht).1, (da_yes ht).2]
    have hs : simpleB R.W R.T R.C = true ∧ tilingB R.W R.T R.C L = true := by unfold tiledB at ht; rw [Bool.and_eq_true] at ht; exact ht
    rw [hs.1] at hSI
    simp only [hs.2] at hTO
    subst hbl
    obtain rfl : m = R.C.length := by rw [← hL]; exact hLy.len
    have hT : Tile R L := ⟨hLy, hF⟩
    have hN := dnN_spec hR hS hT
    have hTn := fun k => tile_dnIt hR hT k
    have hl36 := (len_bd hR).2
    have hl1 := (len_bd hR).1
    have hcn := cn_bd hR
    have hONE := ints_one (L := L)
    have hDO : ∀ (k : Nat) (w' : World) (g e1 : Nat), Below w.heap.size w w' → Reads w' w'.heap.size 1 (some ⟨g, 0, none⟩) R.C.length ((dnIt R L k).map (Value.int .i64)) → Hid (Calls Try.prog 48 #[.agg #[.int .i64 R.W, .int .i64 R.T, .slice A R.C.length c], .slice (some ⟨g, 0, none⟩) R.C.length e1] w' (RetInts w' (dnL R (dnIt R L k)))) :=
      fun k w' g e1 h ha => by
        have := downOfS_any R.W R.T A R.C.length c w'.heap.size R.C (dnIt R L k) (some ⟨g, 0, none⟩) R.C.length e1 w' rfl (hTn k).1.len ((hr.below (h.mono hB)).more (Nat.le_trans hB h.size)) ha (Nat.le_refl _) hn hm
        rw [rgV_yes ((tiled_ok hR).2 ⟨hS, (hTn k).1, (hTn k).2⟩)] at this
        exact hide this
    have hFL : ∀ (k : Nat) (q : Nat) (w' : World) (g e1 : Nat), Below w.heap.size w w' → Reads w' w'.heap.size 1 (some ⟨g, 0, none⟩) R.C.length ((dnIt R L k).map (Value.int .i64)) → Hid (Calls Try.prog 74 #[.agg #[.int .i64 R.W, .int .i64 R.T, .slice A R.C.length c], .slice (some ⟨g, 0, none⟩) R.C.length e1, .int .i64 (q : Nat)] w' (RetIB w' (flV R (dnIt R L k) (q : Int)) (flB R (dnIt R L k) (q : Int)))) :=
      fun k q w' g e1 h ha => hide (flipOneS_ok R hR A c w'.heap.size (dnIt R L k) (some ⟨g, 0, none⟩) e1 (q : Int) (hTn k).1 w' ((hr.below (h.mono hB)).more (Nat.le_trans hB h.size)) ha (Nat.le_refl _))
    have hstep : ∀ k, dnIt R L (k + 1) = dnStep R (dnIt R L k) := fun _ => rfl
    have hlenI : ∀ k, (dnIt R L k).length = R.C.length := fun k => (hTn k).1.len
    generalize dnN R L = N at *
    obtain ⟨hN1, hN2, hN3⟩ := hN
    have HN2 := Lib.hid hN2
    have HN3 := Lib.hid hN3
    have HST := Lib.hid hstep
    have HLI := Lib.hid hlenI
    clear hN2 hN3 hstep hlenI ht hT hTn hLy hF hs
    go_enter Try.func54, Try.ntmps54
    go_wp2_with fail
    refine (unhide hSI).mono ?_
    rintro e w0 ⟨rfl, hb0⟩
    obtain ⟨hB0, hk0, b0, b1, b2⟩ := box_keep hb0
    clear hb0 hSI
    go_wp2_with fail
    refine (unhide (hTO _ hB0)).mono ?_
    rintro e w1 ⟨rfl, hb1⟩
    have hB1 := hB0.trans (hb1.mono hB0.size)
    have hk1 := hk0.below hb1 hk0.lt
    clear b0 b1 b2 hb1 hB0 hk0
    have ho1 : (w1.alloc (.cells #[] 3)).ownsRow (w.heap.size + 1) 3 1 (.slice (some ⟨w1.heap.size, 0, none⟩) 0 0) 0 [] := by simpa using World.ownsRow_made (base := w.heap.size + 1) (e := 3) (size := 1) w1 #[] 0 hk1.lt (by simp [maxLen]) (by simp)
    have hk2 := hk1.alloc (.cells #[] 3)
    have hB2 := hB1.alloc hB1.size (.cells #[] 3)
    have hd2 := hd.below (hB2.mono hB)
    go_wp2_with (at_builtin; refine wpList_appN rfl _ _ _ rfl (w.heap.size + 1) 3 _ 8 Try.underlying26 info_int rfl (by omega) (.slice (some ⟨w1.heap.size, 0, none⟩) 0 0) 0 [] rfl ho1 B D R.C.length d (L.map (Value.int .i64)) rfl hd2 hONE (by omega) (by have := hk2.lt; omega) ?_; rintro v' w3 ho3 hg3 _; obtain ⟨g, c', rfl, hP3⟩ := pg_copy hB1 hk1 ho3 hg3 hL hl1; have hW1 : DA w w3 R A c g c' (dnIt R L 0) := ⟨hP3.bel, hP3.box, by have := own_mono hP3.own (base' := w.heap.size) (by omega); rw [hL] at this; exact this⟩; clear ho3 hg3 hP3)
    clear ho1 hk2 hB2 hd2 hB1 hk1
    go_loopg [6, 7] N (fun r s6 s7 wr => ∃ (k g c' c2 : Nat), k + r = N ∧ s7 = .int .i64 (k : Nat) ∧ s6 = .slice (some ⟨g, 0, none⟩) R.C.length c2 ∧ DA w wr R A c g c' (dnIt R L k))
    case atStart => exact ⟨0, _, _, _, by omega, rfl, rfl, hW1⟩
    case round =>
      clear hW1
      obtain ⟨k, g, c', c2, hk, rfl, rfl, hW⟩ := hrel
      have HK := Lib.hid hk
      have hk9 : k ≤ 1838 := by omega
      clear hk
      have HDO := fun w' h ha => hDO k w' g c2 h ha
      have HD1 := HDO wr hW.bel (Reads.of_own hW.own)
      obtain ⟨b0, b1, b2⟩ := blk3 hW.box
      by_cases hlt : k < N
      · have hne := HN3.out k hlt
        cases hdd : dnL R (dnIt R L k) with
        | nil => exact absurd hdd hne
        | cons z l =>
          obtain ⟨q, rfl, hq, hfb, hrs, hst⟩ := dn_head hdd
          have HS1 : Hid (dnIt R L (k + 1) = flV R (dnIt R L k) (q : Int)) := Lib.hid (by rw [HST.out, hst])
          rw [hdd] at HD1
          simp only [hdd] at HDO
          have hFLq := fun w' g e1 => hFL k q w' g e1
          rw [hfb] at hFLq
          have HL1 : Hid ((flV R (dnIt R L k) (q : Int)).length = R.C.length) := Lib.hid (by rw [flV_len]; exact HLI.out k)
          clear hdd hne hfb hrs hst hDO hFL
          generalize flV R (dnIt R L k) (q : Int) = M2 at *
          generalize dnIt R L k = M at *
          go_wp2_with fail
          refine (unhide HD1).mono ?_
          rintro e w2 ⟨A2, c2', c2'', rfl, ho2, hb2⟩
          have hW2 := hW.below hb2
          clear hW hb2 b0 b1 b2 HD1 ho2
          have hlc : decide ((0 : Int) < ((((q : Nat) : Int) :: l).length : Int)) = true := decide_eq_true (by simp only [List.length_cons]; omega)
          have hlp : 0 < (((q : Nat) : Int) :: l).length := by simp
          obtain ⟨b0, b1, b2⟩ := blk3 hW2.box
          go_upto_region 6 with fail
          go_cut [8] (fun s8 wx => ∃ (g c' c2 : Nat), s8 = .slice (some ⟨g, 0, none⟩) R.C.length c2 ∧ DA w wx R A c g c' M2)
          case first =>
            go_region_with
              (first
                | (go_at_call 48; (with_reducible refine (unhide (HDO _ hW2.bel.drew (Reads.of_own (own_drew hW2.own)))).mono ?_); rintro e w3 ⟨A3, c3, c3', rfl, ho3, hb3⟩; obtain ⟨gv, cv, hsv, _, _, _⟩ := own_shape ho3 hlp; simp only [Value.slice.injEq, true_and] at hsv; obtain ⟨rfl, rfl⟩ := hsv; have hx : w3.cell? ⟨gv, 0, none⟩ = some (.int .i64 (q : Nat)) := (by rw [ho3.cellAt 0 (by omega)]; rfl); have d0 := cell_kept (w := w2.drew) b0 hb3; have d1 := cell_kept (w := w2.drew) b1 hb3; have d2 := cell_kept (w := w2.drew) b2 hb3; have hW3 : DA w w3 R A c g c' M := DA.below (wr := w2.drew) ⟨hW2.bel.drew, hW2.box.drew, own_drew hW2.own⟩ hb3)
                | (go_at_call 74; (with_reducible refine (unhide (hFLq _ g c2 hW3.bel (Reads.of_own hW3.own))).mono ?_); rintro e w4 ⟨A4, c4, c4', rfl, ho4, hb4⟩))
            all_goals
              rw [HL1.out] at ho4 ⊢
              go_wp2_with fail
              go_meet
              obtain ⟨g4, cg4, hsh4, _, _, _⟩ := own_shape ho4 hl1
              simp only [Value.slice.injEq, true_and] at hsh4
              obtain ⟨rfl, rfl⟩ := hsh4
              exact ⟨_, _, _, rfl, hW3.bel.trans (hb4.mono hW3.bel.size), hW3.box.below hb4 hW3.box.lt, own_mono ho4 hW3.bel.size⟩
          case rest =>
            obtain ⟨g3, c4, c5, rfl, hW4⟩ := hcut
            clear hW2 b0 b1 b2 HDO hFLq
            go_wp2_with fail
            go_roundg (N - (k + 1))
            case measure => have := HK.out; omega
            case rel => exact ⟨k + 1, g3, c4, c5, by have := HK.out; omega, by go_num, rfl, by rw [HS1.out]; exact hW4⟩
      · obtain rfl : k = N := by have := HK.out; omega
        rw [HN2.out] at HD1
        go_wp2_with fail
        refine (unhide HD1).mono ?_
        rintro e w2 ⟨A2, c2', c2'', rfl, ho2, hb2⟩
        have hW2 := hW.below hb2
        go_wp2_with fail
        go_ret2
        exact ⟨_, c', c2, by rw [HLI.out]; rfl, by rw [HLI.out]; exact hW2.own, hW2.bel⟩

end Go.Proofs.Ytpeifojfpkkcpaa

/-
  YtpeifojfpkkcpaaFw: FlipWay of the program.
-/
namespace Go.Proofs.Ytpeifojfpkkcpaa
open Go.RowKit

set_option maxRecDepth 20000 in
theorem wayClos_any (R : Reg) (hR : R.ok) (hS : SimpleP R) (A : Option Addr) (c B : Nat) (N M : List Int) (D : Option Addr) (d : Nat) (k : Nat) (hk : k < R.cn) (q1 q2 q3 q4 gh ch gg cg : Nat) (hP : Plain D) (hM : Tile R M) (w : World)
    (hr : Reads w B 1 A R.C.length (R.C.map Value.bool)) (hd : Reads w B 1 D R.C.length (M.map (Value.int .i64))) (hB : B ≤ w.heap.size)
    (h1 : Blk w q1 25 #[.int .i64 R.W, .int .i64 R.T, .slice A R.C.length c]) (h2 : w.cell? ⟨q2, 0, none⟩ = some (.slice D R.C.length d)) (h3 : w.cell? ⟨q3, 0, none⟩ = some (.slice (some ⟨gh, 0, none⟩) R.cn ch)) (h4 : w.cell? ⟨q4, 0, none⟩ = some (.slice (some ⟨gg, 0, none⟩) R.cn cg))
    (h5 : w.cell? ⟨gh, k, none⟩ = some (.int .i64 ((htsOf R.W R.T R.C M).getD k 0))) (h6 : w.cell? ⟨gg, k, none⟩ = some (.int .i64 ((htsOf R.W R.T R.C N).getD k 0))) :
    Calls Try.prog 121 #[.int .i64 (k : Nat), .pointer (some ⟨q1, 0, none⟩), .pointer (some ⟨q2, 0, none⟩), .pointer (some ⟨q3, 0, none⟩), .pointer (some ⟨q4, 0, none⟩)] w fun e w' => e = .returned (.bool (wyP R N M k)) ∧ Below w.heap.size w w' := by
  have hcn := cn_bd hR
  have HR := fun w' (h : Below w.heap.size w w') => hide (rise_ok R hR hS A c B M D d (k : Int) (by omega) hP hM.1 hM.2 w' (hr.below (h.mono hB)) (hd.below (h.mono hB)) (Nat.le_trans hB h.size))
  obtain ⟨b0, b1, b2⟩ := blk3 h1
  have hb0 := Below.refl w.heap.size w
  have HW : Hid (wyP R N M k = ((decide (0 < rsZ R M (k : Int)) && decide ((htsOf R.W R.T R.C M).getD k 0 < (htsOf R.W R.T R.C N).getD k 0)) || (decide (rsZ R M (k : Int) < 0) && decide ((htsOf R.W R.T R.C N).getD k 0 < (htsOf R.W R.T R.C M).getD k 0)))) := Lib.hid rfl
  generalize wyP R N M k = wp at *
  generalize rsZ R M (k : Int) = z at *
  generalize (htsOf R.W R.T R.C M).getD k 0 = x at *
  generalize (htsOf R.W R.T R.C N).getD k 0 = y at *
  go_enter Try.func121, Try.ntmps121
  go_wp2_with fail
  refine (unhide (HR _ hb0)).mono ?_
  rintro e w3 ⟨rfl, hb3⟩
  have d3 := cell_kept h3 hb3
  have d4 := cell_kept h4 hb3
  have d5 := cell_kept h5 hb3
  have d6 := cell_kept h6 hb3
  clear h2 h3 h4 h5 h6 b0 b1 b2 HR h1 hr hd
  go_upto_region 2 with fail
  have fin : ∀ b nq, wp = b → (Ending.returned (Value.bool b) = Ending.returned (Value.bool wp) ∧ Below w.heap.size w (w3.drewN nq)) := fun b nq h => ⟨by rw [h], below_drewN hb3 _⟩
  cases z1 : decide (0 < z) with
  | true =>
    have z2 : decide (z < 0) = false := decide_eq_false (by have := of_decide_eq_true z1; omega)
    cases z3 : decide (x < y) with
    | true =>
      go_quiet (fail)
      go_wp2_with fail
      go_ret
      exact ⟨ret_bool (by rw [HW.out, z1, z3]; rfl), below_drewN hb3 _⟩
    | false =>
      go_quiet (fail)
      go_wp2_with fail
      go_ret
      exact ⟨ret_bool (by rw [HW.out, z1, z2, z3]; rfl), below_drewN hb3 _⟩
  | false =>
    cases z2 : decide (z < 0) with
    | true =>
      cases z3 : decide (y < x) with
      | true =>
        go_quiet (fail)
        go_wp2_with fail
        go_ret
        exact ⟨ret_bool (by rw [HW.out, z1, z2, z3]; rfl), below_drewN hb3 _⟩
      | false =>
        go_quiet (fail)
        go_wp2_with fail
        go_ret
        exact ⟨ret_bool (by rw [HW.out, z1, z2, z3]; rfl), below_drewN hb3 _⟩
    | false =>
      go_quiet (fail)
      go_wp2_with fail
      go_ret
      exact ⟨ret_bool (by rw [HW.out, z1, z2]; rfl), below_drewN hb3 _⟩
theorem enters_way : Enters Try.prog 121 := enters_of Try.func121 (by kernel_rfl) rfl

end Go.Proofs.Ytpeifojfpkkcpaa

/-
  YtpeifojfpkkcpaaFx: FlipWay of the program: the walk.
-/
namespace Go.Proofs.Ytpeifojfpkkcpaa
open Go.RowKit

/-- Where the program stands: boxes of the region, of the goal's heights and of the tiling now; the rows; the flips so far. -/
structure WY (w wr : World) (R : Reg) (A : Option Addr) (c qg gg cg cg' q g c' c2 : Nat) (G M : List Int) (v : Value) (l : List Int) : Prop where
  bel : Below w.heap.size w wr
  box : Blk wr w.heap.size 25 #[.int .i64 R.W, .int .i64 R.T, .slice A R.C.length c]
  gbx : Blk wr qg 26 #[.slice (some ⟨gg, 0, none⟩) R.cn cg]
  gow : wr.ownsRow w.heap.size 3 1 (.slice (some ⟨gg, 0, none⟩) R.cn cg') R.cn (G.map (Value.int .i64))
  nbx : Blk wr q 26 #[.slice (some ⟨g, 0, none⟩) R.C.length c2]
  now : wr.ownsRow w.heap.size 3 1 (.slice (some ⟨g, 0, none⟩) R.C.length c') R.C.length (M.map (Value.int .i64))
  out : wr.ownsRow w.heap.size 3 1 v l.length (l.map (Value.int .i64))
  n1 : v.ownBlock ≠ some gg
  n2 : v.ownBlock ≠ some g
  hq : qg ≠ q
  hqw : w.heap.size < q
theorem WY.below {w wr w2 : World} {R : Reg} {A : Option Addr} {c qg gg cg cg' q g c' c2 : Nat} {G M : List Int} {v : Value} {l : List Int} (H : WY w wr R A c qg gg cg cg' q g c' c2 G M v l) (hb : Below wr.heap.size wr w2) : WY w w2 R A c qg gg cg cg' q g c' c2 G M v l :=
  ⟨H.bel.trans (hb.mono H.bel.size), H.box.below hb H.box.lt, H.gbx.below hb H.gbx.lt, own_below H.gow hb (Nat.le_refl _), H.nbx.below hb H.nbx.lt, own_below H.now hb (Nat.le_refl _), own_below H.out hb (Nat.le_refl _), H.n1, H.n2, H.hq, H.hqw⟩
/-- Behind an append to the flips. -/
theorem WY.app {w wr w2 : World} {R : Reg} {A : Option Addr} {c qg gg cg cg' q g c' c2 : Nat} {G M : List Int} {v v' : Value} {l : List Int} {x : Int} {o : Obj} (H : WY w wr R A c qg gg cg cg' q g c' c2 G M v l)
    (ho : w2.ownsRow w.heap.size 3 1 v' (l.length + 1) (l.map (Value.int .i64) ++ [.int .i64 x])) (hg : (wr.alloc o).grownBy w2 v.ownBlock) (hv : v'.ownBlock = v.ownBlock ∨ v'.ownBlock = some (wr.alloc o).heap.size) : WY w w2 R A c qg gg cg cg' q g c' c2 G M v' (l ++ [x]) := by
  have hge : ∀ j, v.ownBlock = some j → w.heap.size ≤ j := fun j h => own_block_ge H.out h
  have hgg := H.gow.lt gg rfl
  have hgn := H.now.lt g rfl
  have hvt : ∀ (j : Nat) (cs : Array Value) (t : TypeId), t ≠ 3 → Blk wr j t cs → some j ≠ v.ownBlock := fun j cs t hne hb h => own_blk_ne H.out hb (Ne.symm hne) h.symm
  refine ⟨(H.bel.alloc H.bel.size o).grown hg (by have := H.bel.size; simp; omega) hge, (H.box.alloc o).grown hg (hvt _ _ _ (by decide) H.box), (H.gbx.alloc o).grown hg (hvt _ _ _ (by decide) H.gbx), own_grown (H.gow.alloc o) hg (.inr (Ne.symm H.n1)), (H.nbx.alloc o).grown hg (hvt _ _ _ (by decide) H.nbx), own_grown (H.now.alloc o) hg (.inr (Ne.symm H.n2)), by rw [List.length_append, List.map_append]; exact ho, ?_, ?_, H.hq, H.hqw⟩
  · rcases hv with h | h
    · rw [h]; exact H.n1
    · rw [h]; simp; omega
  · rcases hv with h | h
    · rw [h]; exact H.n2
    · rw [h]; simp; omega

noncomputable def fwV (W T : Int) (bs : List Bool) (M N : List Int) : List Int := if tiledB W T bs M = true ∧ tiledB W T bs N = true then wyOut ⟨W.toNat, T.toNat, bs⟩ N M (wyN ⟨W.toNat, T.toNat, bs⟩ N M) else []
theorem fwV_yes {R : Reg} {M N : List Int} (h : tiledB R.W R.T R.C M = true) (g : tiledB R.W R.T R.C N = true) : fwV R.W R.T R.C M N = wyOut R N M (wyN R N M) := by unfold fwV; rw [if_pos ⟨h, g⟩]; rfl
theorem fwV_no {W T : Int} {bs : List Bool} {M N : List Int} (h : ¬ (tiledB W T bs M = true ∧ tiledB W T bs N = true)) : fwV W T bs M N = [] := by unfold fwV; exact if_neg h

set_option maxHeartbeats 2000000 in
set_option maxRecDepth 20000 in
theorem flipWayI_ok (R : Reg) (hR : R.ok) (hS : SimpleP R) (A : Option Addr) (c B : Nat) (M N : List Int) (D : Option Addr) (d : Nat) (gb d2 : Nat) (hP : Plain D) (hM : Tile R M) (hN : Tile R N) (w : World)
    (hr : Reads w B 1 A R.C.length (R.C.map Value.bool)) (h1 : Reads w B 1 D R.C.length (M.map (Value.int .i64))) (h2 : Reads w B 1 (some ⟨gb, 0, none⟩) R.C.length (N.map (Value.int .i64))) (hB : B ≤ w.heap.size) :
    Calls Try.prog 56 #[.agg #[.int .i64 R.W, .int .i64 R.T, .slice A R.C.length c], .slice D R.C.length d, .slice (some ⟨gb, 0, none⟩) R.C.length d2] w (RetIB w (wyOut R N M (wyN R N M)) true) := by
  have hl36 := (len_bd hR).2
  have hl1 := (len_bd hR).1
  have hcn := cn_bd hR
  have hT1 := hide (tiled_any R.W R.T A R.C.length c B R.C M D R.C.length d (w.alloc (boxR R.W R.T A R.C.length c)) rfl hM.1.len (hr.alloc hB _) (h1.alloc hB _) (by simp; omega) (by omega) (by omega))
  have hT2 := fun w' (h : Below w.heap.size w w') => hide (tiled_any R.W R.T A R.C.length c B R.C N (some ⟨gb, 0, none⟩) R.C.length d2 w' rfl hN.1.len (hr.below (h.mono hB)) (h2.below (h.mono hB)) (Nat.le_trans hB h.size) (by omega) (by omega))
  rw [(tiled_ok hR).2 ⟨hS, hM.1, hM.2⟩] at hT1
  simp only [(tiled_ok hR).2 ⟨hS, hN.1, hN.2⟩] at hT2
  have hG := hts_of_tile hR hS hN
  have hHT2 := fun w' (h : Below w.heap.size w w') => hide (heights_any R hR hS A c B N (some ⟨gb, 0, none⟩) d2 hN.1 hN.2 _ hG w' (hr.below (h.mono hB)) (by rw [hN.1.len]; exact h2.below (h.mono hB)) (Nat.le_trans hB h.size))
  simp only [hN.1.len] at hHT2
  have hCL := fun w' (h : Below w.heap.size w w') => hide (clone_any D d B M w' hP (by rw [hM.1.len]; exact h1.below (h.mono hB)) (by rw [hM.1.len]; omega))
  simp only [hM.1.len] at hCL
  have hTn := fun k => tile_wyIt (N := N) hR hM k
  have hEQ : ∀ (k : Nat) (w' : World) (g e1 : Nat), Below w.heap.size w w' → Reads w' w'.heap.size 1 (some ⟨g, 0, none⟩) R.C.length ((wyIt R N M k).map (Value.int .i64)) → Hid (Calls Try.prog 119 #[.slice (some ⟨g, 0, none⟩) R.C.length e1, .slice (some ⟨gb, 0, none⟩) R.C.length d2] w' fun e w'' => e = .returned (.bool (wyIt R N M k == N)) ∧ Below w'.heap.size w' w'') := fun k w' g e1 h ha => by
    have := equal_any g gb e1 d2 w'.heap.size B (wyIt R N M k) N w' (by rw [(hTn k).1.len]; exact ha) (by rw [hN.1.len]; exact h2.below (h.mono hB)) (by rw [(hTn k).1.len]; omega) (by rw [hN.1.len]; omega)
    rw [(hTn k).1.len, hN.1.len] at this
    exact hide this
  have hNs := wyN_spec hR hS hM hN
  have hGl := hG.len
  generalize wyN R N M = n at *
  obtain ⟨hn1, hn2, hn3⟩ := hNs
  have HN2 := Lib.hid hn2
  have HN3 := Lib.hid hn3
  have HTN := Lib.hid hTn
  clear hn2 hn3 hTn h1
  go_enter Try.func56, Try.ntmps56
  go_wp2_with fail
  refine (unhide hT1).mono ?_
  rintro e w0 ⟨rfl, hb0⟩
  obtain ⟨hB0, hk0, b0, b1, b2⟩ := box_keep hb0
  clear hb0 hT1
  go_wp2_with fail
  refine (unhide (hT2 _ hB0)).mono ?_
  rintro e w1 ⟨rfl, hb1⟩
  have hB1 := hB0.trans (hb1.mono hB0.size)
  clear b0 b1 b2
  obtain ⟨hk1, b0, b1, b2⟩ := blk_keep hk0 hb1
  clear hb1 hB0 hk0 hT2
  go_wp2_with fail
  refine (unhide (hHT2 _ hB1)).mono ?_
  rintro e w2 ⟨gg, rfl, hog, hb2⟩
  rw [hGl] at hog ⊢
  have hB2 := hB1.trans (hb2.mono hB1.size)
  have hk2 := hk1.below hb2 hk1.lt
  have hog2 := own_mono hog hB1.size
  clear b0 b1 b2 hb2 hk1 hHT2 hog hB1
  have hgx := Blk.new w2 26 #[.slice (some ⟨gg, 0, none⟩) R.cn R.cn]
  have hB3 := hB2.alloc hB2.size (.cells #[.slice (some ⟨gg, 0, none⟩) R.cn R.cn] 26)
  go_wp2_with fail
  refine (unhide (hCL _ hB3)).mono ?_
  rintro e w4 ⟨A1, c1, rfl, ho4, hb4⟩
  rw [hM.1.len] at ho4 ⊢
  obtain ⟨g, cg1, hsh, _, hgg1, hgg2⟩ := own_shape ho4 hl1
  simp only [Value.slice.injEq, true_and] at hsh
  obtain ⟨rfl, rfl⟩ := hsh
  have hggl := hog2.lt gg rfl
  have hW5 : WY w (w4.alloc (.cells #[.slice (some ⟨g, 0, none⟩) R.C.length R.C.length] 26)) R A c w2.heap.size gg R.cn R.cn w4.heap.size g c1 R.C.length (htsOf R.W R.T R.C N) (wyIt R N M 0) (.slice none 0 0) (wyOut R N M 0) := by
    have hsz := hb4.size
    simp at hsz hgg1
    have hks := hk2.lt
    exact ⟨(hB3.trans (hb4.mono hB3.size)).alloc (Nat.le_trans hB3.size hb4.size) _, ((hk2.alloc _).below hb4 (by simp; omega)).alloc _, (hgx.below hb4 hgx.lt).alloc _, ((own_below (hog2.alloc _) hb4 (Nat.le_refl _)).alloc _), Blk.new _ _ _, (own_mono ho4 hB3.size).alloc _, ⟨rfl, .inl ⟨rfl, rfl⟩⟩, by simp [Value.ownBlock], by simp [Value.ownBlock], by omega, by omega⟩
  have hne0 : w2.heap.size < w4.heap.size := by have := hb4.size; simp at this; omega
  clear hb4 ho4 hgg1 hgg2 hggl hgx hog2 hk2 hB2 hB3 hCL
  generalize w2.heap.size = qg at *
  go_wp2_with fail
  go_loopg [9, 10] n (fun r s9 s10 wr => ∃ (k q g c' c2 : Nat), k + r = n ∧ s10 = .pointer (some ⟨q, 0, none⟩) ∧ WY w wr R A c qg gg R.cn R.cn q g c' c2 (htsOf R.W R.T R.C N) (wyIt R N M k) s9 (wyOut R N M k))
  case atStart => exact ⟨0, _, _, _, _, by omega, rfl, hW5⟩
  case round =>
    clear hW5 hne0
    obtain ⟨k, q, g, c', c2, hk, rfl, hW⟩ := hrel
    have HK := Lib.hid hk
    clear hk
    have hE := hEQ k wr g c2 hW.bel (Reads.of_own hW.now)
    have nb := hW.nbx.cell 0
    simp at nb
    by_cases hlt : k < n
    · have hne := HN3.out k hlt
      have heq : (wyIt R N M k == N) = false := by simpa using hne
      rw [heq] at hE
      have hTk := HTN.out k
      have hsome := wy_some hR hS hTk hN hne
      have hHk := hts_of_tile hR hS hTk
      have hHT := hide (heights_any R hR hS A c wr.heap.size (wyIt R N M k) (some ⟨g, 0, none⟩) c2 hTk.1 hTk.2 _ hHk)
      go_wp2_with fail
      refine (unhide hE).mono ?_
      rintro e w2 ⟨rfl, hb2⟩
      have hW2 := hW.below hb2
      clear hW hb2 nb hE hne heq
      have hHl := hHk.len
      have hHT2 := hide (heights_any R hR hS A c w2.heap.size (wyIt R N M k) (some ⟨g, 0, none⟩) c2 hTk.1 hTk.2 _ hHk w2 ((hr.below (hW2.bel.mono hB)).more (Nat.le_trans hB hW2.bel.size)) (by rw [hTk.1.len]; exact Reads.of_own hW2.now) (Nat.le_refl _))
      rw [hTk.1.len] at hHT2
      clear hHT
      obtain ⟨b0, b1, b2⟩ := blk3 hW2.box
      have nb := hW2.nbx.cell 0
      simp at nb
      go_wp2_with fail
      refine (unhide hHT2).mono ?_
      rintro e w3 ⟨gh, rfl, hoh, hb3⟩
      rw [hHl] at hoh ⊢
      have hW3 := (hW2.below hb3).below (w2 := w3.alloc (.cells #[.slice (some ⟨gh, 0, none⟩) R.cn R.cn] 26)) ((Below.refl _ _).alloc (Nat.le_refl _) _)
      have hhx := Blk.new w3 26 #[.slice (some ⟨gh, 0, none⟩) R.cn R.cn]
      have hoh3 := hoh.alloc (.cells #[.slice (some ⟨gh, 0, none⟩) R.cn R.cn] 26)
      clear hW2 hb3 b0 b1 b2 nb hHT2 hoh
      go_upto_region 8 with fail
      obtain ⟨qh, hqh⟩ : ∃ qh, qh = w3.heap.size := ⟨_, rfl⟩
      rw [← hqh] at hhx ⊢
      generalize w3.alloc (.cells #[.slice (some ⟨gh, 0, none⟩) R.cn R.cn] 26) = w4 at *
      clear hqh
      have hFLP := hide (flips_any 121 #[.pointer (some ⟨w.heap.size, 0, none⟩), .pointer (some ⟨q, 0, none⟩), .pointer (some ⟨qh, 0, none⟩), .pointer (some ⟨qg, 0, none⟩)] (wyP R N (wyIt R N M k)) R hR A c w4.heap.size (wyIt R N M k) (some ⟨g, 0, none⟩) c2 w4 enters_way
        (fun k' w' hk' _ hb => by
          have j2 := (hW3.nbx.below hb hW3.nbx.lt).cell 0
          have j3 := (hhx.below hb hhx.lt).cell 0
          have j4 := (hW3.gbx.below hb hW3.gbx.lt).cell 0
          simp at j2 j3 j4
          have o1 := own_below hoh3 hb (Nat.le_refl _)
          have o2 := own_below hW3.gow hb (Nat.le_refl _)
          have c5 : w'.cell? ⟨gh, k', none⟩ = some (.int .i64 ((htsOf R.W R.T R.C (wyIt R N M k)).getD k' 0)) := by
            rw [o1.cellAt k' (by omega), List.getElem?_map, List.getD_eq_getElem?_getD, List.getElem?_eq_getElem (by omega)]; rfl
          have c6 : w'.cell? ⟨gg, k', none⟩ = some (.int .i64 ((htsOf R.W R.T R.C N).getD k' 0)) := by
            rw [o2.cellAt k' (by omega), List.getElem?_map, List.getD_eq_getElem?_getD, List.getElem?_eq_getElem (by omega)]; rfl
          have hB' := hW3.bel.trans (hb.mono hW3.bel.size)
          exact wayClos_any R hR hS A c w'.heap.size N (wyIt R N M k) (some ⟨g, 0, none⟩) c2 k' hk' _ _ _ _ gh R.cn gg R.cn (.inr ⟨_, _, rfl⟩) hTk w' ((hr.below (hB'.mono hB)).more (Nat.le_trans hB hB'.size)) (Reads.of_own (own_below hW3.now hb (Nat.le_refl _))) (Nat.le_refl _) (hW3.box.below hb hW3.box.lt) j2 j3 j4 c5 c6)
        (Reads.of_own hW3.now) (Nat.le_refl _))
      have hwl : (flL R (wyIt R N M k) (wyP R N (wyIt R N M k))) = wyL R N (wyIt R N M k) := rfl
      rw [hwl] at hFLP
      cases hd : wyL R N (wyIt R N M k) with
      | nil => exact absurd hd hsome
      | cons z l =>
        obtain ⟨j, rfl, hj, hfb, _, hst, hhd⟩ := wy_head hd
        rw [hd] at hFLP
        have HS1 : Hid (wyIt R N M (k + 1) = flV R (wyIt R N M k) (j : Int) ∧ wyOut R N M (k + 1) = wyOut R N M k ++ [(j : Int)]) := Lib.hid ⟨hst, by rw [wyOut_succ, hhd]⟩
        have HOL := Lib.hid (wyOut_len R N M k)
        have hV2l : (flV R (wyIt R N M k) (j : Int)).length = R.C.length := by rw [flV_len]; exact hTk.1.len
        have hFL := fun w' (h : Below w.heap.size w w') (hnow : Reads w' w'.heap.size 1 (some ⟨g, 0, none⟩) R.C.length ((wyIt R N M k).map (Value.int .i64))) => hide (flip_any R hR A R.C.length c w'.heap.size (wyIt R N M k) (some ⟨g, 0, none⟩) c2 (j : Int) (by omega) (.inr ⟨_, _, rfl⟩) hTk.1.len w' hnow (Nat.le_refl _))
        rw [hfb] at hFL
        clear hd hst hhd hfb hsome hHk hHl hwl
        have hk9 : k ≤ 1838 := by omega
        clear hTk hhx hoh3
        generalize flV R (wyIt R N M k) (j : Int) = M2 at *
        generalize wyIt R N M k = M1 at *
        generalize wyOut R N M k = l1 at *
        obtain ⟨b0, b1, b2⟩ := blk3 hW3.box
        have nb := hW3.nbx.cell 0
        simp at nb
        go_wp2_with fail
        refine (unhide hFLP).mono ?_
        rintro e w5 ⟨A6, c6, rfl, ho6, hb5⟩
        have hW5 := hW3.below hb5
        have hvlt : ∀ jj, u9.ownBlock = some jj → jj < w4.heap.size := fun jj h => (own_lt hW3.out h).2
        clear hFLP hW3 hb5 b0 b1 b2 nb
        have hlp : 0 < (((j : Nat) : Int) :: l).length := by simp
        have hlz : (((((j : Nat) : Int) :: l).length : Int) == 0) = false := by simp only [beq_eq_false_iff_ne, List.length_cons]; omega
        obtain ⟨gv, cv, hsv, _, hgv1, _⟩ := own_shape ho6 hlp
        simp only [Value.slice.injEq, true_and] at hsv
        obtain ⟨rfl, rfl⟩ := hsv
        have hx : w5.cell? ⟨gv, 0, none⟩ = some (.int .i64 (j : Nat)) := by rw [ho6.cellAt 0 (by omega)]; rfl
        generalize (((j : Nat) : Int) :: l).length = ln at *
        go_wp2_with (at_builtin; refine wpList_app rfl _ _ _ rfl w.heap.size 3 _ 8 Try.underlying26 info_int rfl (by omega) _ _ _ rfl (hW5.out.alloc _) w5.heap.size (.int .i64 (j : Nat)) rfl (by simp) rfl (by have := HOL.out; omega) (by have := hW5.bel.size; simp; omega) ?_)
        rintro g' cc' w6 hown hgr hgg _ _
        have hW6 : WY w w6 R A c qg gg R.cn R.cn q g c' c2 (htsOf R.W R.T R.C N) M1 (.slice (some ⟨g', 0, none⟩) (l1.length + 1) cc') (l1 ++ [((j : Nat) : Int)]) := hW5.app hown hgr (by
          rcases hgg with h | h
          · exact .inl (by rw [← h]; rfl)
          · exact .inr (by rw [h]; simp [Value.ownBlock]))
        have ho7 := own_grown (ho6.alloc (.cells #[.int .i64 (j : Nat)] 3)) hgr (.inr (by
          intro h
          have := hvlt gv h.symm
          omega))
        have hx6 : w6.cell? ⟨gv, 0, none⟩ = some (.int .i64 (j : Nat)) := by rw [ho7.cellAt 0 (by omega)]; rfl
        have hg6 := hW6.out.lt g' rfl
        clear hown hgr hgg hW5 ho6 ho7 hx hvlt hgv1
        obtain ⟨b0, b1, b2⟩ := blk3 hW6.box
        have nb := hW6.nbx.cell 0
        simp at nb
        go_upto_region 12 with fail
        have hW6d : WY w w6.drew R A c qg gg R.cn R.cn q g c' c2 (htsOf R.W R.T R.C N) M1 (.slice (some ⟨g', 0, none⟩) (l1.length + 1) cc') (l1 ++ [((j : Nat) : Int)]) := hW6.below (Below.refl _ _).drew
        have HFLc := hFL _ hW6d.bel (Reads.of_own hW6d.now)
        go_region_with
          (first
            | (go_at_call 73; (with_reducible refine (unhide HFLc).mono ?_); rintro e w7 ⟨A7, c7, c7', rfl, ho7, hb7⟩; have nb7 := (hW6d.nbx.below hb7 hW6d.nbx.lt).cell 0; have nf7 := (hW6d.nbx.below hb7 hW6d.nbx.lt).frozen 0; simp at nb7))
        all_goals
          rw [hV2l] at ho7
          obtain ⟨g7, cg7, hs7, _, hg7, hg7l⟩ := own_shape ho7 hl1
          simp only [Value.slice.injEq, true_and] at hs7
          obtain ⟨rfl, rfl⟩ := hs7
          have hsz6 := hW6d.bel.size
          have hW8 : ∀ w9 : World, w9 = (w7.setCell ⟨q, 0, none⟩ (.slice (some ⟨g7, 0, none⟩) R.C.length c7')).alloc (.cells #[.slice (some ⟨g7, 0, none⟩) R.C.length c7'] 26) →
              WY w w9 R A c qg gg R.cn R.cn w7.heap.size g7 c7 c7' (htsOf R.W R.T R.C N) M2 (.slice (some ⟨g', 0, none⟩) (l1.length + 1) cc') (l1 ++ [((j : Nat) : Int)]) := by
            rintro w9 rfl
            have H7 := hW6d.below hb7
            have hqn : ∀ {base n : Nat} {v : Value} {xs : List Value}, w7.ownsRow base 3 1 v n xs → v.ownBlock ≠ some (⟨q, 0, none⟩ : Addr).block := fun h => own_blk_ne h H7.nbx (by decide)
            have hs8 : (w7.setCell ⟨q, 0, none⟩ (.slice (some ⟨g7, 0, none⟩) R.C.length c7')).heap.size = w7.heap.size := by simp
            have hnb := Blk.new (w7.setCell ⟨q, 0, none⟩ (.slice (some ⟨g7, 0, none⟩) R.C.length c7')) 26 #[.slice (some ⟨g7, 0, none⟩) R.C.length c7']
            rw [hs8] at hnb
            have hqw := H7.hqw
            refine ⟨(H7.bel.setCell (by simp; omega) _).alloc (by rw [hs8]; exact H7.bel.size) _, (H7.box.far (by simp; omega) _).alloc _, (H7.gbx.far (by simp; exact H7.hq) _).alloc _, (ownsRow_setCell_other H7.gow (hqn H7.gow) _).alloc _, hnb, (ownsRow_setCell_other (own_mono ho7 hsz6) (hqn (own_mono ho7 hsz6)) _).alloc _, (ownsRow_setCell_other H7.out (hqn H7.out) _).alloc _, H7.n1, ?_, ?_, ?_⟩
            · simp only [Value.ownBlock, ne_eq, Option.some.injEq]
              simp at hg7
              omega
            · have := H7.gbx.lt; omega
            · have := H7.box.lt; omega
          have hs8 : (w7.setCell ⟨q, 0, none⟩ (.slice (some ⟨g7, 0, none⟩) R.C.length c7')).heap.size = w7.heap.size := by simp
          clear HFLc hW6d hFL hb7 b0 b1 b2 nb hx6 ho7 hg7 hg7l hsz6 hg6 hW6
          go_wp2_with fail
          go_roundg (n - (k + 1))
          case measure => have := HK.out; omega
          case rel =>
            refine ⟨k + 1, w7.heap.size, g7, c7, c7', by have := HK.out; omega, ?_, ?_⟩
            · simp
            · rw [HS1.out.1, HS1.out.2]; exact hW8 _ rfl
    · obtain rfl : k = n := by have := HK.out; omega
      have heq : (wyIt R N M k == N) = true := by rw [HN2.out]; simp
      rw [heq] at hE
      go_wp2_with fail
      refine (unhide hE).mono ?_
      rintro e w2 ⟨rfl, hb2⟩
      have hW2 := hW.below hb2
      obtain ⟨A', c'', rfl, hc', _⟩ := own_form hW2.out
      have hle := own_cap2 hW2.out
      go_wp2_with (go_at_call 123; refine (clip_any _ _ _ hc' hle _).mono ?_; rintro e w' ⟨rfl, rfl⟩)
      go_ret2
      exact ⟨_, _, _, rfl, hW2.out, hW2.bel⟩

end Go.Proofs.Ytpeifojfpkkcpaa
