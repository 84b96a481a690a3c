/-
  YtldnccdlpagodaaPt: PushRun of the reference.
-/
import Derived.Test.YtldnccdlpagodaaPs
namespace Go.Proofs.Ytldnccdlpagodaa
open Go.RowKit

theorem pushes_one {W T : Int} {bs : List Bool} {ps : List (Int × Bool)} (h : pushesB W T bs ps = true) {k : Nat} {p : Int × Bool} (hk : ps[k]? = some p) : pushesB W T bs [p] = true := by
  unfold pushesB at h ⊢
  rw [Bool.and_eq_true, Bool.and_eq_true, List.all_eq_true] at h
  rw [h.1]
  have := h.2.2 p (List.mem_of_getElem? hk)
  simp [this]

set_option maxHeartbeats 2000000 in
set_option maxRecDepth 20000 in
theorem pushRunS_any (W T : Int) (A : Option Addr) (n c B : Nat) (bs : List Bool) (L : List Int) (D : Option Addr) (m d : Nat) (P : Option Addr) (pm pd E : Nat) (ps : List (Int × Bool)) (w : World) (hbl : bs.length = n) (hL : L.length = m)
    (hr : Reads w B 1 A n (bs.map Value.bool)) (hd : Reads w B 1 D m (L.map (Value.int .i64))) (hB : B ≤ w.heap.size) (hn : n ≤ 9223372036854775807) (hm : m ≤ 9223372036854775807) (hpl : ps.length = pm) (hp : Reads w E 2 P pm (pc ps)) (hE : E ≤ w.heap.size) (hpm : pm ≤ 9223372036854775807) :
    Calls Try.prog 35 #[.agg #[.int .i64 W, .int .i64 T, .slice A n c], .slice D m d, .slice P pm pd] w (RetInts w (prV W T bs L ps)) := by
  have hTO := fun w' (h : Below w.heap.size w w') => hide (tilingOkS_any W T A n c B bs L D m d w' hbl hL (hr.below (h.mono hB)) (hd.below (h.mono hB)) (Nat.le_trans hB h.size) hn hm)
  have hPV := fun w' (h : Below w.heap.size w w') => hide (PushesValidS_any W T A n c B bs P pm pd E ps w' hbl (hr.below (h.mono hB)) (Nat.le_trans hB h.size) hn hpl (hp.below (h.mono hE)) (Nat.le_trans hE h.size) hpm)
  have hb0 : Below w.heap.size w (w.alloc (boxR W T A n c)) := (Below.refl _ _).alloc (Nat.le_refl _) _
  have k0 : Blk (w.alloc (boxR W T A n c)) w.heap.size 29 #[.int .i64 W, .int .i64 T, .slice A n c] := Blk.new _ _ _
  cases ht : tilingB W T bs L with
  | false =>
    have hno : prV W T bs L ps = [] := prV_no (by unfold tiledB; rw [ht]; simp)
    rw [hno]
    simp only [ht] at hTO
    clear hPV hno
    go_enter Try.func35, Try.ntmps35
    go_wp2_with fail
    refine (unhide (hTO _ hb0)).mono ?_
    rintro e w2 ⟨rfl, hb2⟩
    have hB2 := hb0.trans (hb2.mono hb0.size)
    go_wp2_with fail
    go_ret
    have ho := World.ownsRow_made (base := w.heap.size) (e := 3) (size := 1) w2 #[] 0 hB2.size (by simp [maxLen]) (by simp)
    exact ⟨_, 0, 0, rfl, by simpa using ho, hB2.alloc hB2.size _⟩
  | true =>
    cases hv : pushesB W T bs ps with
    | false =>
      have hno : prV W T bs L ps = [] := prV_no (by rw [hv]; simp)
      rw [hno]
      simp only [ht] at hTO
      simp only [hv] at hPV
      clear hno
      go_enter Try.func35, Try.ntmps35
      go_wp2_with fail
      refine (unhide (hTO _ hb0)).mono ?_
      rintro e w2 ⟨rfl, hb2⟩
      have hB2 := hb0.trans (hb2.mono hb0.size)
      obtain ⟨b0, b1, b2⟩ := blk3 (k0.below hb2 k0.lt)
      clear hb2
      go_wp2_with fail
      refine (unhide (hPV _ hB2)).mono ?_
      rintro e w3 ⟨rfl, hb3⟩
      have hB4 := hB2.trans (hb3.mono hB2.size)
      go_wp2_with fail
      go_ret
      have ho := World.ownsRow_made (base := w.heap.size) (e := 3) (size := 1) w3 #[] 0 hB4.size (by simp [maxLen]) (by simp)
      exact ⟨_, 0, 0, rfl, by simpa using ho, hB4.alloc hB4.size _⟩
    | true =>
      have ht' : tiledB W T bs L = true := by unfold tiledB; rw [ht, pushes_simple hv]; rfl
      obtain ⟨R, hR, rfl, rfl, rfl, hS, hLy, hF⟩ := tiled_cases ht'
      rw [prV_yes ht' hv]
      subst hbl
      obtain rfl : m = R.C.length := by rw [← hL]; exact hLy.len
      have hl36 := (len_bd hR).2
      have hl1 := (len_bd hR).1
      have hTn := fun k => tile_ruV hR (ps := ps.take k) (L := L) ⟨hLy, hF⟩
      have hPO : ∀ (k : Nat) (p : Int × Bool) (w' : World) (g e1 : Nat), ps[k]? = some p → Below w.heap.size w w' → Reads w' w'.heap.size 1 (some ⟨g, 0, none⟩) R.C.length ((ruV R L (ps.take k)).map (Value.int .i64)) → Hid (Calls Try.prog 31 #[.agg #[.int .i64 R.W, .int .i64 R.T, .slice A R.C.length c], .slice (some ⟨g, 0, none⟩) R.C.length e1, .agg #[.int .i64 p.1, .bool p.2]] w' (RetInts w' (puV R (ruV R L (ps.take k)) p))) :=
        fun k p w' g e1 hkp h ha => by
          have := pushOneS_any R.W R.T A R.C.length c w'.heap.size R.C (ruV R L (ps.take k)) (some ⟨g, 0, none⟩) R.C.length e1 p.1 p.2 w' rfl (hTn k).1.len ((hr.below (h.mono hB)).more (Nat.le_trans hB h.size)) ha (Nat.le_refl _) hn hm
          rw [prV_one (p := p) ((tiled_ok hR).2 ⟨hS, (hTn k).1, (hTn k).2⟩) (pushes_one hv hkp)] at this
          exact hide this
      have hlT := fun k => (hTn k).1.len
      have hlP : ∀ k p, (puV R (ruV R L (ps.take k)) p).length = R.C.length := fun k p => (tile_puV hR (hTn k) p).1.len
      have hsucc := fun k p h => ruV_succ (R := R) (L := L) (ps := ps) (k := k) (p := p) h
      have hfin : ruV R L (ps.take pm) = ruV R L ps := by rw [← hpl, List.take_length]
      have h0T : ruV R L (ps.take 0) = L := by simp [ruV]
      have hlf : (ruV R L ps).length = R.C.length := (tile_ruV hR ⟨hLy, hF⟩).1.len
      simp only [ht] at hTO
      simp only [hv] at hPV
      have HSU := Lib.hid hsucc
      have HFI := Lib.hid hfin
      have HLP := Lib.hid hlP
      have HLF := Lib.hid hlf
      have HM := Lib.hid hpl
      have HLN := Lib.hid hL
      have hONE := ints_one (L := L)
      clear hlT hsucc hfin hTn hlf ht hv ht' hLy hF hpl hlP hL
      go_enter Try.func35, Try.ntmps35
      go_wp2_with fail
      refine (unhide (hTO _ hb0)).mono ?_
      rintro e w2 ⟨rfl, hb2⟩
      have hB2 := hb0.trans (hb2.mono hb0.size)
      have k2 := k0.below hb2 k0.lt
      obtain ⟨b0, b1, b2⟩ := blk3 k2
      clear hb2 k0 hTO
      go_wp2_with fail
      refine (unhide (hPV _ hB2)).mono ?_
      rintro e w3 ⟨rfl, hb3⟩
      have hB3 := hB2.trans (hb3.mono hB2.size)
      have hk1 := k2.below hb3 k2.lt
      clear b0 b1 b2 k2 hb3 hPV hB2 hb0
      have ho1 : (w3.alloc (.cells #[] 3)).ownsRow (w.heap.size + 1) 3 1 (.slice (some ⟨w3.heap.size, 0, none⟩) 0 0) 0 [] := by simpa using World.ownsRow_made (base := w.heap.size + 1) (e := 3) (size := 1) w3 #[] 0 hk1.lt (by simp [maxLen]) (by simp)
      have hk2 := hk1.alloc (.cells #[] 3)
      have hBa := hB3.alloc hB3.size (.cells #[] 3)
      have hd2 := hd.below (hBa.mono hB)
      go_wp2_with (at_builtin; refine wpList_appN rfl _ _ _ rfl (w.heap.size + 1) 3 _ 8 Try.underlying25 info_int rfl (by omega) (.slice (some ⟨w3.heap.size, 0, none⟩) 0 0) 0 [] rfl ho1 B D R.C.length d (L.map (Value.int .i64)) rfl hd2 hONE (by omega) (by have := hk2.lt; omega) ?_; rintro v' w5 ho3 hg3 _; obtain ⟨g, c', rfl, hP3⟩ := pg_copy hB3 hk1 ho3 hg3 HLN.out hl1; have hW1 : DA w w5 R A c g c' (ruV R L (ps.take 0)) := ⟨hP3.bel, hP3.box, by have := own_mono hP3.own (base' := w.heap.size) (by omega); rw [HLN.out] at this; rw [h0T]; exact this⟩; clear ho3 hg3 hP3)
      clear ho1 hk2 hBa hd2 hB3 hk1 h0T
      go_loopg [7, 8] pm (fun r s7 s8 wr => ∃ (k g c' c2 : Nat), k + r = pm ∧ s8 = .int .i64 (k : Nat) ∧ s7 = .slice (some ⟨g, 0, none⟩) R.C.length c2 ∧ DA w wr R A c g c' (ruV R L (ps.take k)))
      case atStart => exact ⟨0, _, _, _, by omega, rfl, rfl, hW1⟩
      case round =>
        clear hW1
        obtain ⟨k, g, c', c2, hk, rfl, rfl, hW⟩ := hrel
        have HK := Lib.hid hk
        clear hk
        by_cases hlt : k < pm
        · obtain ⟨ad, p, rfl, hab, hpk, hcell, hcell2⟩ := (hp.below (hW.bel.mono hE)).push HM.out hlt
          have HS1 := Lib.hid (HSU.out k p hpk)
          have hWd := DA.below hW (Below.refl wr.heap.size wr).drew
          have hPk := hPO k p _ g c2 hpk hWd.bel (Reads.of_own hWd.own)
          have hlk := Lib.hid (HLP.out k p)
          clear hPO hpk
          generalize puV R (ruV R L (ps.take k)) p = M2 at *
          generalize ruV R L (ps.take k) = M1 at *
          obtain ⟨b0, b1, b2⟩ := blk3 hW.box
          go_upto_region 7 with fail
          go_region_with
            (first
              | (go_at_call 31; (with_reducible refine (unhide hPk).mono ?_); rintro e w4 ⟨A4, c4, c4', rfl, ho4, hb4⟩))
          all_goals
            rw [hlk.out] at ho4
            obtain ⟨g4, cg4, hsh4, _, _, _⟩ := own_shape ho4 hl1
            simp only [Value.slice.injEq, true_and] at hsh4
            obtain ⟨rfl, rfl⟩ := hsh4
            have hW4 : DA w w4 R A c g4 c4 M2 := ⟨hWd.bel.trans (hb4.mono hWd.bel.size), hWd.box.below hb4 hWd.box.lt, own_mono ho4 hWd.bel.size⟩
            clear hW hWd b0 b1 b2 hcell hcell2 hPk hb4 ho4
            go_wp2_with fail
            go_roundg (pm - (k + 1))
            case measure => have := HK.out; omega
            case rel => exact ⟨k + 1, g4, c4, c4', by have := HK.out; omega, by go_num, by rw [hlk.out], by rw [HS1.out]; exact hW4⟩
        · obtain rfl : k = pm := by have := HK.out; omega
          rw [HFI.out] at hW
          go_wp2_with fail
          go_ret
          exact ⟨_, c', c2, by rw [HLF.out]; rfl, by rw [HLF.out]; exact hW.own, hW.bel⟩

end Go.Proofs.Ytldnccdlpagodaa
