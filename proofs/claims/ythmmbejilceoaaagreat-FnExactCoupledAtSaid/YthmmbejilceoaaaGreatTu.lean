/-
  YthmmbejilceoaaaGreatTu: the texts Tg, Th in one file.
-/
import Derived.Test.YthmmbejilceoaaaGreatTt
import Derived.Test.YthmmbejilceoaaaGreatTl

/-
  YthmmbejilceoaaaGreatTg: Lowest and Highest: the program.
-/
namespace Go.Proofs.YthmmbejilceoaaaGreat
open Go.RowKit

/-- Heights picked of those of the first tilings. -/
noncomputable def exH (f : Int → Int → Int) (R : Reg) (H : List Int) (Ts : List (List Int)) : List Int := Ts.foldl (fun H M => List.zipWith f H (htsOf R.W R.T R.C M)) H
theorem exH_succ {f : Int → Int → Int} {R : Reg} {H : List Int} {Ts : List (List Int)} {n : Nat} {M : List Int} (h : Ts[n]? = some M) : exH f R H (Ts.take (n + 1)) = List.zipWith f (exH f R H (Ts.take n)) (htsOf R.W R.T R.C M) := by
  unfold exH
  rw [List.take_add_one, h, List.foldl_append]
  rfl
theorem exH_hp {f : Int → Int → Int} (hf : Keeps f) {R : Reg} (hR : R.ok) (hS : SimpleP R) : ∀ {Ts : List (List Int)} {H : List Int}, HP R H → (∀ M ∈ Ts, Tile R M) → HP R (exH f R H Ts)
  | [], _, h, _ => h
  | M :: Ts, H, h, hT => exH_hp (Ts := Ts) hf hR hS (hf hR hS.1 h (hp_of_tile hR hS (hT M (by simp)))) (fun N hN => hT N (by simp [hN]))
noncomputable def exV (f : Int → Int → Int) (W T : Int) (bs : List Bool) : List Int :=
  if simpleB W T bs = true ∧ tilT ⟨W.toNat, T.toNat, bs⟩ ≠ [] then tilH ⟨W.toNat, T.toNat, bs⟩ (exH f ⟨W.toNat, T.toNat, bs⟩ (htsOf W T bs ((tilT ⟨W.toNat, T.toNat, bs⟩).headD [])) (tilT ⟨W.toNat, T.toNat, bs⟩)) else []
noncomputable def exB (W T : Int) (bs : List Bool) : Bool := simpleB W T bs && !(tilT ⟨W.toNat, T.toNat, bs⟩).isEmpty
theorem exV_no {f : Int → Int → Int} {W T : Int} {bs : List Bool} (h : ¬ (simpleB W T bs = true ∧ tilT ⟨W.toNat, T.toNat, bs⟩ ≠ [])) : exV f W T bs = [] ∧ exB W T bs = false := by
  refine ⟨by unfold exV; exact if_neg h, ?_⟩
  unfold exB
  cases hs : simpleB W T bs with
  | false => rfl
  | true =>
    have : tilT ⟨W.toNat, T.toNat, bs⟩ = [] := Classical.byContradiction fun hx => h ⟨hs, hx⟩
    rw [this]; rfl
theorem exV_yes {f : Int → Int → Int} {R : Reg} (h : simpleB R.W R.T R.C = true) (g : tilT R ≠ []) : exV f R.W R.T R.C = tilH R (exH f R (htsOf R.W R.T R.C ((tilT R).headD [])) (tilT R)) ∧ exB R.W R.T R.C = true := by
  refine ⟨by unfold exV; rw [if_pos ⟨h, g⟩]; rfl, ?_⟩
  have e : (tilT ⟨(R.W : Int).toNat, (R.T : Int).toNat, R.C⟩).isEmpty = false := by
    have : tilT ⟨(R.W : Int).toNat, (R.T : Int).toNat, R.C⟩ = tilT R := rfl
    rw [this]
    cases hx : tilT R with
    | nil => exact absurd hx g
    | cons => rfl
  unfold exB
  rw [h, e]
  rfl

set_option maxHeartbeats 4000000 in
set_option maxRecDepth 20000 in
theorem extreme_ok (fv : Value) (f : Int → Int → Int) (hpk0 : PickAny fv f) (hf : Keeps f) (R : Reg) (hR : R.ok) (hS : SimpleP R) (hs : simpleB R.W R.T R.C = true) (hne : tilT R ≠ []) (A : Option Addr) (c B : Nat) (w : World) (hr : Reads w B 1 A R.C.length (R.C.map Value.bool)) (hB : B ≤ w.heap.size) :
    Calls Tryz.prog 48 #[.agg #[.int .i64 R.W, .int .i64 R.T, .slice A R.C.length c], fv] w (RetIB w (tilH R (exH f R (htsOf R.W R.T R.C ((tilT R).headD [])) (tilT R))) true) := by
  have hl36 := (len_bd hR).2
  have hl1 := (len_bd hR).1
  have hcn := cn_bd hR
  have HPK := Lib.hid hpk0
  clear hpk0
  have hSI := fun w' (h : Below w.heap.size w w') => hide (SimpleI_any R.W R.T A R.C.length c B R.C w' (hr.below (h.mono hB)) (Nat.le_trans hB h.size) (by omega))
  simp only [hs] at hSI
  have hTI := fun w' (h : Below w.heap.size w w') => hide (tilings_any R hR A c B w' (hr.below (h.mono hB)) (Nat.le_trans hB h.size))
  have hHT : ∀ (M : List Int) (g d : Nat) w', Tile R M → Below w.heap.size w w' → Reads w' w'.heap.size 1 (some ⟨g, 0, none⟩) R.C.length (M.map (Value.int .i64)) → Hid (Calls Tryz.prog 69 #[.agg #[.int .i64 R.W, .int .i64 R.T, .slice A R.C.length c], .slice (some ⟨g, 0, none⟩) R.C.length d] w' fun e w'' => ∃ g2, e = .returned (.slice (some ⟨g2, 0, none⟩) R.cn R.cn) ∧ Reads w'' w''.heap.size 1 (some ⟨g2, 0, none⟩) R.cn ((htsOf R.W R.T R.C M).map (Value.int .i64)) ∧ Below w'.heap.size w' w'') := fun M g d w' hM h ha => by
    have hH := hts_of_tile hR hS hM
    have := heights_any R hR hS A c w'.heap.size M (some ⟨g, 0, none⟩) d hM.1 hM.2 _ hH w' ((hr.below (h.mono hB)).more (Nat.le_trans hB h.size)) (by rw [hM.1.len]; exact ha) (Nat.le_refl _)
    rw [hM.1.len] at this
    refine hide (this.mono ?_)
    rintro e w'' ⟨g2, rfl, ho, hb⟩
    rw [hH.len] at ho ⊢
    exact ⟨g2, rfl, Reads.of_own ho, hb⟩
  have hBY : ∀ (H : List Int) (g d : Nat) w', HP R H → Below w.heap.size w w' → Reads w' w'.heap.size 1 (some ⟨g, 0, none⟩) R.cn (H.map (Value.int .i64)) → Hid (Calls Tryz.prog 71 #[.agg #[.int .i64 R.W, .int .i64 R.T, .slice A R.C.length c], .slice (some ⟨g, 0, none⟩) R.cn d] w' (IntsRet w' (tilH R H))) := fun H g d w' hH h ha => by
    have := by_any R hR A c w'.heap.size H ⟨g, 0, none⟩ d ((hok_iff hR hS).2 hH) w' ((hr.below (h.mono hB)).more (Nat.le_trans hB h.size)) ha (Nat.le_refl _)
    rw [byTo_til hR hS hH] at this
    exact hide this
  have hTl : ∀ (k : Nat) (M : List Int), (tilT R)[k]? = some M → Tile R M := fun k M h => (tilT_iff hR).1 (List.mem_of_getElem? h)
  have HTL := Lib.hid hTl
  have hhl : ∀ M, Tile R M → (htsOf R.W R.T R.C M).length = R.cn := fun M hM => (hts_of_tile hR hS hM).len
  have HHL := Lib.hid hhl
  obtain ⟨M0, hM0⟩ : ∃ M0, (tilT R)[0]? = some M0 := by
    cases hx : tilT R with
    | nil => exact absurd hx hne
    | cons a l => exact ⟨a, rfl⟩
  have hhd : (tilT R).headD [] = M0 := by
    cases hx : tilT R with
    | nil => exact absurd hx hne
    | cons a l => rw [hx] at hM0; simp at hM0; simpa using hM0
  rw [hhd]
  have hT0 := hTl 0 M0 hM0
  have hsu := fun n M h => exH_succ (f := f) (R := R) (H := htsOf R.W R.T R.C M0) (Ts := tilT R) (n := n) (M := M) h
  have HSU := Lib.hid hsu
  have hhp : ∀ n, HP R (exH f R (htsOf R.W R.T R.C M0) ((tilT R).take n)) := fun n => exH_hp hf hR hS (hp_of_tile hR hS hT0) fun M hM => (tilT_iff hR).1 (List.mem_of_mem_take hM)
  have HHP := Lib.hid hhp
  have hfin : exH f R (htsOf R.W R.T R.C M0) ((tilT R).take (tilT R).length) = exH f R (htsOf R.W R.T R.C M0) (tilT R) := by rw [List.take_length]
  have HFI := Lib.hid hfin
  have hnl := tilT_len R
  have HNL := Lib.hid hnl
  have htl : ∀ H, (tilH R H).length = R.C.length := fun H => tilH_len R H
  have HTH := Lib.hid htl
  have hpos : 0 < (tilT R).length := (List.getElem?_eq_some_iff.1 hM0).1
  have HM0 := Lib.hid hM0
  have hb0 : Below w.heap.size w (w.alloc (boxR R.W R.T A R.C.length c)) := (Below.refl _ _).alloc (Nat.le_refl _) _
  have k0 : Blk (w.alloc (boxR R.W R.T A R.C.length c)) w.heap.size 29 #[.int .i64 R.W, .int .i64 R.T, .slice A R.C.length c] := Blk.new _ _ _
  clear hTl hsu hnl hr hs hne hhd hhp hfin htl hM0 hhl
  generalize hTT : tilT R = TT at *
  clear hTT
  have hz0 : ((TT.length : Int) == 0) = false := by rw [beq_eq_false_iff_ne]; omega
  go_enter Tryz.func48, Tryz.ntmps48
  go_wp2_with fail
  refine (unhide (hSI _ hb0)).mono ?_
  rintro e w1 ⟨rfl, hb1⟩
  have hB1 := hb0.trans (hb1.mono hb0.size)
  have k1 := k0.below hb1 k0.lt
  obtain ⟨b0, b1, b2⟩ := blk3 k1
  clear k0 hb0 hb1 hSI
  go_wp2_with fail
  refine (unhide (hTI _ hB1)).mono ?_
  rintro e w3 ⟨A3, c3, c3', xs, rfl, hR3, hb3⟩
  have hB3 := hB1.trans (hb3.mono hB1.size)
  have k3 := k1.below hb3 k1.lt
  have hrow := hR3.mono (b' := 0) (by omega)
  clear b0 b1 b2 k1 hb3 hB1 hTI hR3
  obtain ⟨x, M, hx, hM, hin⟩ := hrow.at_ hpos
  obtain rfl : M = M0 := by have := HM0.out; rw [hM] at this; injection this
  obtain ⟨gx, cx, rfl, hrx⟩ := hin.reads
  have hown := hrow.own
  rw [hrow.len] at hown
  obtain ⟨g3, cg3, hsh3, _, _, _⟩ := own_shape hown hpos
  simp only [Value.slice.injEq, true_and] at hsh3
  obtain ⟨rfl, rfl⟩ := hsh3
  have hxc : w3.cell? ⟨g3, 0, none⟩ = some (.slice (some ⟨gx, 0, none⟩) R.C.length cx) := by rw [hown.cellAt 0 (by omega)]; exact hx
  have hHk := hHT M gx cx w3.drew hT0 hB3.drew hrx
  clear hown hin hrx hx hM
  obtain ⟨b0, b1, b2⟩ := blk3 k3
  go_upto_region 6 with fail
  go_region_with
    (first
      | (go_at_call 69; (with_reducible refine (unhide hHk).mono ?_); rintro e w4 ⟨g4, rfl, hh4, hb4⟩))
  all_goals
    have hB4 := hB3.drew.trans (hb4.mono hB3.drew.size)
    have k4 := k3.drew.below hb4 k3.drew.lt
    have hrow4 := (hrow.below (Below.refl w3.heap.size w3).drew).below hb4
    clear b0 b1 b2 hB3 k3 hrow hb4 hxc hHk
    go_wp2_with fail
    go_loopg [7, 25] TT.length (fun r s7 s25 wr => ∃ (k g d : Nat), k + r = TT.length ∧ s25 = .int .i64 (k : Nat) ∧ s7 = .slice (some ⟨g, 0, none⟩) R.cn d ∧ Reads wr wr.heap.size 1 (some ⟨g, 0, none⟩) R.cn ((exH f R (htsOf R.W R.T R.C M) (TT.take k)).map (Value.int .i64)) ∧ Below w.heap.size w wr ∧ Blk wr w.heap.size 29 #[.int .i64 R.W, .int .i64 R.T, .slice A R.C.length c] ∧ RowsOf wr 0 R.C.length (.slice (some ⟨g3, 0, none⟩) TT.length c3) xs TT)
    case atStart => exact ⟨0, g4, R.cn, by omega, rfl, rfl, by simpa [exH] using hh4, hB4, k4, hrow4⟩
    case round =>
      clear hh4 hB4 k4 hrow4
      obtain ⟨k, g, d, hk, rfl, rfl, hg, hBw, hbk, hrow⟩ := hrel
      have HK := Lib.hid hk
      clear hk
      by_cases hlt : k < TT.length
      · obtain ⟨x, N, hx, hN, hin⟩ := hrow.at_ hlt
        obtain ⟨gy, cy, rfl, hry⟩ := hin.reads
        have hTN := HTL.out k N hN
        have hown := hrow.own
        rw [hrow.len] at hown
        have hyc : wr.cell? ⟨g3, k, none⟩ = some (.slice (some ⟨gy, 0, none⟩) R.C.length cy) := by rw [hown.cellAt k (by omega)]; exact hx
        have hHN := hHT N gy cy wr hTN hBw hry
        have hs1 := HSU.out k N hN
        have hl1' := (HHP.out (k + 1)).len
        have hlk := (HHP.out k).len
        have hlN := HHL.out N hTN
        have HP1 := Lib.hid (HHP.out (k + 1))
        have hnl := HNL.out
        rw [hs1] at hl1'
        have HS1 := Lib.hid hs1
        obtain ⟨b0, b1, b2⟩ := blk3 hbk
        clear hs1 hN hx hown hin hry hTN
        obtain ⟨Z, hZ⟩ : ∃ Z, Z = List.zipWith f (exH f R (htsOf R.W R.T R.C M) (TT.take k)) (htsOf R.W R.T R.C N) := ⟨_, rfl⟩
        rw [← hZ] at HS1 hl1'
        have HZ := Lib.hid hZ
        clear hZ
        generalize exH f R (htsOf R.W R.T R.C M) (TT.take k) = Hk at *
        generalize htsOf R.W R.T R.C N = Hn at *
        go_wp2_with fail
        refine (unhide hHN).mono ?_
        rintro e w5 ⟨g5, rfl, hh5, hb5⟩
        have hB5 := hBw.trans (hb5.mono hBw.size)
        have k5 := hbk.below hb5 hbk.lt
        have hrow5 := hrow.below hb5
        have hPK := hide (HPK.out (some ⟨g, 0, none⟩) (some ⟨g5, 0, none⟩) d R.cn w5.heap.size Hk Hn R.cn hlk hlN (by omega) w5 ((hg.below hb5).more hb5.size) hh5 (Nat.le_refl _))
        rw [← HZ.out] at hPK
        have HLK := Lib.hid hl1'
        clear b0 b1 b2 hBw hbk hrow hb5 hHN hh5 hg hlk hlN hyc hl1'
        go_wp2_with fail
        refine (unhide hPK).mono ?_
        rintro e w6 ⟨g6, rfl, ho6, hb6⟩
        rw [HLK.out] at ho6 ⊢
        have hB6 := hB5.trans (hb6.mono hB5.size)
        have k6 := k5.below hb6 k5.lt
        have hrow6 := hrow5.below hb6
        have hr6 := Reads.of_own ho6
        clear hB5 k5 hrow5 hb6 ho6 hPK
        go_wp2_with fail
        go_roundg (TT.length - (k + 1))
        case measure => have := HK.out; omega
        case rel => exact ⟨k + 1, g6, R.cn, by have := HK.out; omega, by go_num, rfl, by rw [HS1.out]; exact hr6, hB6, k6, hrow6⟩
      · obtain rfl : k = TT.length := by have := HK.out; omega
        have hBYk := hBY _ g d wr (HHP.out TT.length) hBw hg
        rw [HFI.out] at hBYk
        obtain ⟨b0, b1, b2⟩ := blk3 hbk
        clear hg hBY hHT
        generalize tilH R (exH f R (htsOf R.W R.T R.C M) TT) = X at *
        go_wp2_with fail
        refine (unhide hBYk).mono ?_
        rintro e w5 ⟨g5, rfl, ho5, hb5⟩
        go_wp2_with fail
        go_ret2
        exact ⟨some ⟨g5, 0, none⟩, X.length, X.length, rfl, own_mono ho5 hBw.size, hBw.trans (hb5.mono hBw.size)⟩

set_option maxHeartbeats 1000000 in
theorem extreme_any (fv : Value) (f : Int → Int → Int) (hpk0 : PickAny fv f) (hf : Keeps f) (W T : Int) (A : Option Addr) (n c B : Nat) (bs : List Bool) (w : World) (hbl : bs.length = n) (hr : Reads w B 1 A n (bs.map Value.bool)) (hB : B ≤ w.heap.size) (hn : n ≤ 9223372036854775807) :
    Calls Tryz.prog 48 #[.agg #[.int .i64 W, .int .i64 T, .slice A n c], fv] w (RetIB w (exV f W T bs) (exB W T bs)) := by
  have hb0 : Below w.heap.size w (w.alloc (boxR W T A n c)) := (Below.refl _ _).alloc (Nat.le_refl _) _
  have k0 : Blk (w.alloc (boxR W T A n c)) w.heap.size 29 #[.int .i64 W, .int .i64 T, .slice A n c] := Blk.new _ _ _
  have hSI := hide (SimpleI_any W T A n c B bs _ (hr.below (hb0.mono hB)) (Nat.le_trans hB hb0.size) hn)
  cases hs : simpleB W T bs with
  | false =>
    obtain ⟨e1, e2⟩ := exV_no (f := f) (W := W) (T := T) (bs := bs) (by rw [hs]; simp)
    rw [e1, e2]
    rw [hs] at hSI
    clear hs k0 hpk0 hf e1 e2
    go_enter Tryz.func48, Tryz.ntmps48
    go_wp2_with fail
    refine (unhide hSI).mono ?_
    rintro e w1 ⟨rfl, hb1⟩
    go_wp2_with fail
    go_ret2
    exact ⟨none, 0, 0, rfl, ⟨rfl, .inl ⟨rfl, rfl⟩⟩, hb0.trans (hb1.mono hb0.size)⟩
  | true =>
    obtain ⟨R, hR, rfl, rfl, rfl, hS⟩ := simple_cases hs
    subst hbl
    by_cases hne : tilT R = []
    · obtain ⟨e1, e2⟩ := exV_no (f := f) (W := R.W) (T := R.T) (bs := R.C) (fun h => h.2 hne)
      rw [e1, e2]
      rw [hs] at hSI
      have hTI := fun w' (h : Below w.heap.size w w') => hide (tilings_any R hR A c B w' (hr.below (h.mono hB)) (Nat.le_trans hB h.size))
      rw [hne] at hTI
      clear hs hpk0 hf e1 e2 hr
      go_enter Tryz.func48, Tryz.ntmps48
      go_wp2_with fail
      refine (unhide hSI).mono ?_
      rintro e w1 ⟨rfl, hb1⟩
      have hB1 := hb0.trans (hb1.mono hb0.size)
      obtain ⟨b0, b1, b2⟩ := blk3 (k0.below hb1 k0.lt)
      clear k0 hb0 hb1 hSI
      go_wp2_with fail
      refine (unhide (hTI _ hB1)).mono ?_
      rintro e w3 ⟨A3, c3, c3', xs, rfl, hR3, hb3⟩
      go_wp2_with fail
      go_ret2
      exact ⟨none, 0, 0, rfl, ⟨rfl, .inl ⟨rfl, rfl⟩⟩, hB1.trans (hb3.mono hB1.size)⟩
    · obtain ⟨e1, e2⟩ := exV_yes (f := f) hs hne
      rw [e1, e2]
      exact extreme_ok fv f hpk0 hf R hR hS hs hne A c B w hr hB

theorem lowestI_any (W T : Int) (A : Option Addr) (n c B : Nat) (bs : List Bool) (w : World) (hbl : bs.length = n) (hr : Reads w B 1 A n (bs.map Value.bool)) (hB : B ≤ w.heap.size) (hn : n ≤ 9223372036854775807) :
    Calls Tryz.prog 28 #[.agg #[.int .i64 W, .int .i64 T, .slice A n c]] w (RetIB w (exV min W T bs) (exB W T bs)) := by
  have hb0 : Below w.heap.size w (w.alloc (boxR W T A n c)) := (Below.refl _ _).alloc (Nat.le_refl _) _
  have hEX := hide (extreme_any (.func (.func 49) #[] #[]) min pickLesser keeps_min W T A n c B bs _ hbl (hr.below (hb0.mono hB)) (Nat.le_trans hB hb0.size) hn)
  generalize exV min W T bs = X at *
  generalize exB W T bs = Y at *
  go_enter Tryz.func28, Tryz.ntmps28
  go_wp2_with fail
  refine (unhide hEX).mono ?_
  rintro e w1 ⟨A1, c1, c1', rfl, ho1, hb1⟩
  go_wp2_with fail
  go_ret2
  exact ⟨_, _, _, rfl, own_mono ho1 hb0.size, hb0.trans (hb1.mono hb0.size)⟩

theorem highestI_any (W T : Int) (A : Option Addr) (n c B : Nat) (bs : List Bool) (w : World) (hbl : bs.length = n) (hr : Reads w B 1 A n (bs.map Value.bool)) (hB : B ≤ w.heap.size) (hn : n ≤ 9223372036854775807) :
    Calls Tryz.prog 29 #[.agg #[.int .i64 W, .int .i64 T, .slice A n c]] w (RetIB w (exV max W T bs) (exB W T bs)) := by
  have hb0 : Below w.heap.size w (w.alloc (boxR W T A n c)) := (Below.refl _ _).alloc (Nat.le_refl _) _
  have hEX := hide (extreme_any (.func (.func 50) #[] #[]) max pickGreater keeps_max W T A n c B bs _ hbl (hr.below (hb0.mono hB)) (Nat.le_trans hB hb0.size) hn)
  generalize exV max W T bs = X at *
  generalize exB W T bs = Y at *
  go_enter Tryz.func29, Tryz.ntmps29
  go_wp2_with fail
  refine (unhide hEX).mono ?_
  rintro e w1 ⟨A1, c1, c1', rfl, ho1, hb1⟩
  go_wp2_with fail
  go_ret2
  exact ⟨_, _, _, rfl, own_mono ho1 hb0.size, hb0.trans (hb1.mono hb0.size)⟩

end Go.Proofs.YthmmbejilceoaaaGreat

/-
  YthmmbejilceoaaaGreatTh: Lowest and Highest: the reference.
-/
namespace Go.Proofs.YthmmbejilceoaaaGreat
open Go.RowKit

theorem tilingsAllS_no (W T : Int) (A : Option Addr) (n c B : Nat) (bs : List Bool) (hv : validB W T bs = false) (w : World) (hr : Reads w B 1 A n (bs.map Value.bool)) (hB : B ≤ w.heap.size) (hn : n ≤ 9223372036854775807) :
    Calls Tryz.prog 32 #[.agg #[.int .i64 W, .int .i64 T, .slice A n c]] w fun e w' => ∃ g, e = .returned (.slice (some ⟨g, 0, none⟩) 0 0) ∧ Below w.heap.size w w' := by
  have HV := hide (validS_any W T A n c B bs (w.alloc (boxR W T A n c)) (hr.alloc hB _) (by simp; omega) hn)
  rw [hv] at HV
  clear hr
  go_enter Tryz.func32, Tryz.ntmps32
  go_wp2_with fail
  refine (unhide HV).mono ?_
  rintro e w1 ⟨rfl, hb1⟩
  obtain ⟨hB1, hk1, b0, b1, b2⟩ := box_keep hb1
  go_wp2_with fail
  go_ret
  exact ⟨_, rfl, hB1.alloc hB1.size _⟩

theorem exH_one {f : Int → Int → Int} (hid : ∀ x, f x x = x) {R : Reg} {M : List Int} : List.zipWith f (htsOf R.W R.T R.C M) (htsOf R.W R.T R.C M) = htsOf R.W R.T R.C M := by
  generalize htsOf R.W R.T R.C M = H
  induction H with
  | nil => rfl
  | cons a l ih => rw [List.zipWith_cons_cons, ih, hid]
theorem min_self' (x : Int) : min x x = x := by omega
theorem max_self' (x : Int) : max x x = x := by omega

set_option maxHeartbeats 4000000 in
set_option maxRecDepth 20000 in
theorem lowestS_ok (R : Reg) (hR : R.ok) (hS : SimpleP R) (hs : simpleB R.W R.T R.C = true) (hne : tilT R ≠ []) (A : Option Addr) (c B : Nat) (w : World) (hr : Reads w B 1 A R.C.length (R.C.map Value.bool)) (hB : B ≤ w.heap.size) :
    Calls Tryz.prog 16 #[.agg #[.int .i64 R.W, .int .i64 R.T, .slice A R.C.length c]] w (RetIB w (tilH R (exH min R (htsOf R.W R.T R.C ((tilT R).headD [])) (tilT R))) true) := by
  have hl36 := (len_bd hR).2
  have hl1 := (len_bd hR).1
  have hTA := fun w' (h : Below w.heap.size w w') => hide (tilingsAllS_ok R hR A c B w' (hr.below (h.mono hB)) (Nat.le_trans hB h.size))
  have hSI := fun w' (h : Below w.heap.size w w') => hide (SimpleS_any R.W R.T A R.C.length c B R.C w' (hr.below (h.mono hB)) (Nat.le_trans hB h.size) (by omega))
  simp only [hs] at hSI
  have hTl : ∀ (k : Nat) (M : List Int), (tilT R)[k]? = some M → Tile R M := fun k M h => (tilT_iff hR).1 (List.mem_of_getElem? h)
  obtain ⟨M0, hM0⟩ : ∃ M0, (tilT R)[0]? = some M0 := by
    cases hx : tilT R with
    | nil => exact absurd hx hne
    | cons a l => exact ⟨a, rfl⟩
  have hhd : (tilT R).headD [] = M0 := by
    cases hx : tilT R with
    | nil => exact absurd hx hne
    | cons a l => rw [hx] at hM0; simp at hM0; simpa using hM0
  rw [hhd]
  have hT0 := hTl 0 M0 hM0
  have hhp : ∀ n, HP R (exH min R (htsOf R.W R.T R.C M0) ((tilT R).take n)) := fun n => exH_hp keeps_min hR hS (hp_of_tile hR hS hT0) fun M hM => (tilT_iff hR).1 (List.mem_of_mem_take hM)
  have hlow : ∀ n, Tile R (tilH R (exH min R (htsOf R.W R.T R.C M0) ((tilT R).take n))) := fun n => ⟨lay_tilH hR (hhp n), full_tilH hR (hhp n)⟩
  have h1st : tilH R (exH min R (htsOf R.W R.T R.C M0) ((tilT R).take 1)) = M0 := by
    rw [exH_succ (n := 0) hM0]
    show tilH R (List.zipWith min (htsOf R.W R.T R.C M0) (htsOf R.W R.T R.C M0)) = M0
    rw [exH_one min_self', tilH_hts hR ((tiled_ok hR).2 ⟨hS, hT0.1, hT0.2⟩)]
  have hTL : ∀ (k : Nat) (N : List Int) (g1 d1 g2 d2 : Nat) w', (tilT R)[k]? = some N → Below w.heap.size w w' → Reads w' w'.heap.size 1 (some ⟨g1, 0, none⟩) R.C.length ((tilH R (exH min R (htsOf R.W R.T R.C M0) ((tilT R).take k))).map (Value.int .i64)) → Reads w' w'.heap.size 1 (some ⟨g2, 0, none⟩) R.C.length (N.map (Value.int .i64)) →
      Hid (Calls Tryz.prog 34 #[.agg #[.int .i64 R.W, .int .i64 R.T, .slice A R.C.length c], .slice (some ⟨g1, 0, none⟩) R.C.length d1, .slice (some ⟨g2, 0, none⟩) R.C.length d2] w' (RetIB w' (tilH R (exH min R (htsOf R.W R.T R.C M0) ((tilT R).take (k + 1)))) true)) := fun k N g1 d1 g2 d2 w' hN h ha hb' => by
    have hTN := hTl k N hN
    have hlo := hlow k
    have t1 := (tiled_ok hR).2 ⟨hS, hlo.1, hlo.2⟩
    have t2 := (tiled_ok hR).2 ⟨hS, hTN.1, hTN.2⟩
    have := tilingLowS_any R.W R.T A R.C.length c w'.heap.size R.C _ (some ⟨g1, 0, none⟩) R.C.length d1 N (some ⟨g2, 0, none⟩) R.C.length d2 w' rfl hlo.1.len hTN.1.len ((hr.below (h.mono hB)).more (Nat.le_trans hB h.size)) ha hb' (Nat.le_refl _) (by omega) (by omega) (by omega)
    rw [twoV_yes t1 t2, htsOf_til hR hS (hhp k), ← exH_succ hN] at this
    have e : twoB R.W R.T R.C (tilH R (exH min R (htsOf R.W R.T R.C M0) ((tilT R).take k))) N = true := by unfold twoB; rw [t1, t2]; rfl
    rw [e] at this
    exact hide this
  have hfin : exH min R (htsOf R.W R.T R.C M0) ((tilT R).take (tilT R).length) = exH min R (htsOf R.W R.T R.C M0) (tilT R) := by rw [List.take_length]
  have hpos : 0 < (tilT R).length := (List.getElem?_eq_some_iff.1 hM0).1
  have hll : ∀ n, (tilH R (exH min R (htsOf R.W R.T R.C M0) ((tilT R).take n))).length = R.C.length := fun n => tilH_len R _
  have HLL := Lib.hid hll
  have HFI := Lib.hid hfin
  have HM0 := Lib.hid hM0
  have H1ST := Lib.hid h1st
  have hnl := tilT_len R
  have HNL := Lib.hid hnl
  have hb0 : Below w.heap.size w (w.alloc (boxR R.W R.T A R.C.length c)) := (Below.refl _ _).alloc (Nat.le_refl _) _
  have k0 : Blk (w.alloc (boxR R.W R.T A R.C.length c)) w.heap.size 29 #[.int .i64 R.W, .int .i64 R.T, .slice A R.C.length c] := Blk.new _ _ _
  clear hTl hhp hlow h1st hfin hM0 hhd hne hs hr hll hnl hT0
  generalize hTT : tilT R = TT at *
  clear hTT
  have hz0 : ((TT.length : Int) == 0) = false := by rw [beq_eq_false_iff_ne]; omega
  go_enter Tryz.func16, Tryz.ntmps16
  go_wp2_with fail
  refine (unhide (hTA _ hb0)).mono ?_
  rintro e w1 ⟨A3, c3, xs, rfl, hR3, hb1, _⟩
  have hR3b := hR3.mono (b' := w.heap.size) hb0.size
  have hB1 := hb0.trans (hb1.mono hb0.size)
  have k1 := k0.below hb1 k0.lt
  obtain ⟨b0, b1, b2⟩ := blk3 k1
  clear k0 hb0 hb1 hTA hR3
  go_wp2_with fail
  refine (unhide (hSI _ hB1)).mono ?_
  rintro e w3 ⟨rfl, hb3⟩
  have hB3 := hB1.trans (hb3.mono hB1.size)
  have k3 := k1.below hb3 k1.lt
  have hrow := hR3b.below hb3
  clear b0 b1 b2 k1 hb3 hB1 hSI hR3b
  obtain ⟨x, M, hx, hM, g0, d0, d0', rfl, hown0⟩ := hrow.at_ hpos
  obtain rfl : M = M0 := by have := HM0.out; rw [hM] at this; injection this
  have hown := hrow.own
  rw [hrow.len] at hown
  obtain ⟨g3, cg3, hsh3, _, _, _⟩ := own_shape hown hpos
  simp only [Value.slice.injEq, true_and] at hsh3
  obtain ⟨rfl, rfl⟩ := hsh3
  have hxc : w3.cell? ⟨g3, 0, none⟩ = some (.slice (some ⟨g0, 0, none⟩) R.C.length d0') := by rw [hown.cellAt 0 (by omega)]; exact hx
  have hlow1 : w3.ownsRow w.heap.size 3 1 (.slice (some ⟨g0, 0, none⟩) R.C.length d0) R.C.length ((tilH R (exH min R (htsOf R.W R.T R.C M) (TT.take 1))).map (Value.int .i64)) := by rw [H1ST.out]; exact hown0
  clear hown hown0 hx hM
  go_wp2_with fail
  go_loopg [5, 6] (TT.length - 1) (fun r s5 s6 wr => ∃ (k g d d' : Nat), k + r = TT.length ∧ 1 ≤ k ∧ s6 = .int .i64 (k : Nat) ∧ s5 = .slice (some ⟨g, 0, none⟩) R.C.length d' ∧ wr.ownsRow w.heap.size 3 1 (.slice (some ⟨g, 0, none⟩) R.C.length d) R.C.length ((tilH R (exH min R (htsOf R.W R.T R.C M) (TT.take k))).map (Value.int .i64)) ∧ Below w.heap.size w wr ∧ Blk wr w.heap.size 29 #[.int .i64 R.W, .int .i64 R.T, .slice A R.C.length c] ∧ RowsOf wr w.heap.size R.C.length (.slice (some ⟨g3, 0, none⟩) TT.length c3) xs TT)
  case atStart => exact ⟨1, g0, d0, d0', by omega, by omega, rfl, rfl, hlow1, hB3, k3, hrow⟩
  case round =>
    clear hlow1 hB3 k3 hrow hxc
    obtain ⟨k, g, d, d', hk, hk1, rfl, rfl, hlo, hBw, hbk, hrow⟩ := hrel
    have HK := Lib.hid hk
    clear hk
    by_cases hlt : k < TT.length
    · obtain ⟨x, N, hx, hN, hin⟩ := hrow.at_ hlt
      obtain ⟨gy, cy, rfl, hry⟩ := hin.reads
      have hown := hrow.own
      rw [hrow.len] at hown
      have hyc : wr.cell? ⟨g3, k, none⟩ = some (.slice (some ⟨gy, 0, none⟩) R.C.length cy) := by rw [hown.cellAt k (by omega)]; exact hx
      have hTk := hTL k N g d' gy cy wr.drew hN hBw.drew (Reads.of_own hlo) hry
      have hl2 := Lib.hid (HLL.out (k + 1))
      have hnl := HNL.out
      obtain ⟨b0, b1, b2⟩ := blk3 hbk
      clear hN hx hown hin hry hTL hlo
      generalize hL2e : tilH R (exH min R (htsOf R.W R.T R.C M) (TT.take (k + 1))) = L2 at *
      have HE2 := Lib.hid hL2e
      clear hL2e
      go_upto_region 8 with fail
      go_region_with
        (first
          | (go_at_call 34; (with_reducible refine (unhide hTk).mono ?_); rintro e w4 ⟨A4, c4, c4', rfl, ho4, hb4⟩))
      all_goals
        rw [hl2.out] at ho4
        obtain ⟨g4, cg4, hsh4, _, _, _⟩ := own_shape ho4 hl1
        simp only [Value.slice.injEq, true_and] at hsh4
        obtain ⟨rfl, rfl⟩ := hsh4
        have hB4 := hBw.drew.trans (hb4.mono hBw.drew.size)
        have k4 := hbk.drew.below hb4 hbk.drew.lt
        have hrow4 := (hrow.below (Below.refl wr.heap.size wr).drew).below hb4
        have ho5 := own_mono ho4 hBw.drew.size
        clear b0 b1 b2 hyc hBw hbk hrow hb4 hTk ho4
        go_wp2_with fail
        go_roundg (TT.length - (k + 1))
        case measure => have := HK.out; omega
        case rel => exact ⟨k + 1, g4, c4, c4', by have := HK.out; omega, by omega, by go_num, by rw [hl2.out], by rw [HE2.out]; exact ho5, hB4, k4, hrow4⟩
    · obtain rfl : k = TT.length := by have := HK.out; omega
      have hl2 := Lib.hid (HLL.out TT.length)
      rw [HFI.out] at hlo hl2
      go_wp2_with fail
      go_ret2
      exact ⟨some ⟨g, 0, none⟩, d, d', by rw [hl2.out]; rfl, by rw [hl2.out]; exact hlo, hBw⟩

set_option maxHeartbeats 1000000 in
theorem lowestS_any (W T : Int) (A : Option Addr) (n c B : Nat) (bs : List Bool) (w : World) (hbl : bs.length = n) (hr : Reads w B 1 A n (bs.map Value.bool)) (hB : B ≤ w.heap.size) (hn : n ≤ 9223372036854775807) :
    Calls Tryz.prog 16 #[.agg #[.int .i64 W, .int .i64 T, .slice A n c]] w (RetIB w (exV min W T bs) (exB W T bs)) := by
  have hb0 : Below w.heap.size w (w.alloc (boxR W T A n c)) := (Below.refl _ _).alloc (Nat.le_refl _) _
  have k0 : Blk (w.alloc (boxR W T A n c)) w.heap.size 29 #[.int .i64 W, .int .i64 T, .slice A n c] := Blk.new _ _ _
  have hSI := fun w' (h : Below w.heap.size w w') => hide (SimpleS_any W T A n c B bs w' (hr.below (h.mono hB)) (Nat.le_trans hB h.size) hn)
  by_cases hyes : simpleB W T bs = true ∧ tilT ⟨W.toNat, T.toNat, bs⟩ ≠ []
  · obtain ⟨R, hR, rfl, rfl, rfl, hS⟩ := simple_cases hyes.1
    subst hbl
    have hne : tilT R ≠ [] := hyes.2
    obtain ⟨e1, e2⟩ := exV_yes (f := min) hyes.1 hne
    rw [e1, e2]
    exact lowestS_ok R hR hS hyes.1 hne A c B w hr hB
  · obtain ⟨e1, e2⟩ := exV_no (f := min) hyes
    rw [e1, e2]
    have hTA : ∀ w', Below w.heap.size w w' → Hid (Calls Tryz.prog 32 #[.agg #[.int .i64 W, .int .i64 T, .slice A n c]] w' fun e w'' => ∃ (A1 : Option Addr) (m c1 : Nat), e = .returned (.slice A1 m c1) ∧ (simpleB W T bs = true → m = 0) ∧ Below w'.heap.size w' w'') := fun w' h => by
      cases hv : validB W T bs with
      | false =>
        refine hide ((tilingsAllS_no W T A n c B bs hv w' (hr.below (h.mono hB)) (Nat.le_trans hB h.size) hn).mono ?_)
        rintro e w'' ⟨g, rfl, hb⟩
        exact ⟨_, 0, 0, rfl, fun _ => rfl, hb⟩
      | true =>
        obtain ⟨R, hR, rfl, rfl, rfl⟩ := reg_of_valid hv
        subst hbl
        refine hide ((tilingsAllS_ok R hR A c B w' (hr.below (h.mono hB)) (Nat.le_trans hB h.size)).mono ?_)
        rintro e w'' ⟨A3, c3, xs, rfl, _, hb, _⟩
        refine ⟨A3, _, c3, rfl, fun hs => ?_, hb⟩
        have : tilT R = [] := Classical.byContradiction fun hx => hyes ⟨hs, hx⟩
        rw [this]; rfl
    clear e1 e2 hyes hr
    go_enter Tryz.func16, Tryz.ntmps16
    go_wp2_with fail
    refine (unhide (hTA _ hb0)).mono ?_
    rintro e w1 ⟨A1, m, c1, rfl, hm, hb1⟩
    have hB1 := hb0.trans (hb1.mono hb0.size)
    obtain ⟨b0, b1, b2⟩ := blk3 (k0.below hb1 k0.lt)
    have hS1 := hSI _ hB1
    clear k0 hb0 hb1 hTA hSI
    cases hs : simpleB W T bs with
    | false =>
      rw [hs] at hS1
      clear hm hs
      go_wp2_with fail
      refine (unhide hS1).mono ?_
      rintro e w3 ⟨rfl, hb3⟩
      have hB3 := hB1.trans (hb3.mono hB1.size)
      go_wp2_with fail
      go_ret2
      have ho := World.ownsRow_made (base := w.heap.size) (e := 3) (size := 1) w3 #[] 0 hB3.size (by simp [maxLen]) (by simp)
      exact ⟨_, 0, 0, rfl, by simpa using ho, hB3.alloc hB3.size _⟩
    | true =>
      rw [hs] at hS1
      obtain rfl := hm hs
      clear hm hs
      go_wp2_with fail
      refine (unhide hS1).mono ?_
      rintro e w3 ⟨rfl, hb3⟩
      have hB3 := hB1.trans (hb3.mono hB1.size)
      go_wp2_with fail
      go_ret2
      have ho := World.ownsRow_made (base := w.heap.size) (e := 3) (size := 1) w3 #[] 0 hB3.size (by simp [maxLen]) (by simp)
      exact ⟨_, 0, 0, rfl, by simpa using ho, hB3.alloc hB3.size _⟩

set_option maxHeartbeats 4000000 in
set_option maxRecDepth 20000 in
theorem highestS_ok (R : Reg) (hR : R.ok) (hS : SimpleP R) (hs : simpleB R.W R.T R.C = true) (hne : tilT R ≠ []) (A : Option Addr) (c B : Nat) (w : World) (hr : Reads w B 1 A R.C.length (R.C.map Value.bool)) (hB : B ≤ w.heap.size) :
    Calls Tryz.prog 17 #[.agg #[.int .i64 R.W, .int .i64 R.T, .slice A R.C.length c]] w (RetIB w (tilH R (exH max R (htsOf R.W R.T R.C ((tilT R).headD [])) (tilT R))) true) := by
  have hl36 := (len_bd hR).2
  have hl1 := (len_bd hR).1
  have hTA := fun w' (h : Below w.heap.size w w') => hide (tilingsAllS_ok R hR A c B w' (hr.below (h.mono hB)) (Nat.le_trans hB h.size))
  have hSI := fun w' (h : Below w.heap.size w w') => hide (SimpleS_any R.W R.T A R.C.length c B R.C w' (hr.below (h.mono hB)) (Nat.le_trans hB h.size) (by omega))
  simp only [hs] at hSI
  have hTl : ∀ (k : Nat) (M : List Int), (tilT R)[k]? = some M → Tile R M := fun k M h => (tilT_iff hR).1 (List.mem_of_getElem? h)
  obtain ⟨M0, hM0⟩ : ∃ M0, (tilT R)[0]? = some M0 := by
    cases hx : tilT R with
    | nil => exact absurd hx hne
    | cons a l => exact ⟨a, rfl⟩
  have hhd : (tilT R).headD [] = M0 := by
    cases hx : tilT R with
    | nil => exact absurd hx hne
    | cons a l => rw [hx] at hM0; simp at hM0; simpa using hM0
  rw [hhd]
  have hT0 := hTl 0 M0 hM0
  have hhp : ∀ n, HP R (exH max R (htsOf R.W R.T R.C M0) ((tilT R).take n)) := fun n => exH_hp keeps_max hR hS (hp_of_tile hR hS hT0) fun M hM => (tilT_iff hR).1 (List.mem_of_mem_take hM)
  have hlow : ∀ n, Tile R (tilH R (exH max R (htsOf R.W R.T R.C M0) ((tilT R).take n))) := fun n => ⟨lay_tilH hR (hhp n), full_tilH hR (hhp n)⟩
  have h1st : tilH R (exH max R (htsOf R.W R.T R.C M0) ((tilT R).take 1)) = M0 := by
    rw [exH_succ (n := 0) hM0]
    show tilH R (List.zipWith max (htsOf R.W R.T R.C M0) (htsOf R.W R.T R.C M0)) = M0
    rw [exH_one max_self', tilH_hts hR ((tiled_ok hR).2 ⟨hS, hT0.1, hT0.2⟩)]
  have hTL : ∀ (k : Nat) (N : List Int) (g1 d1 g2 d2 : Nat) w', (tilT R)[k]? = some N → Below w.heap.size w w' → Reads w' w'.heap.size 1 (some ⟨g1, 0, none⟩) R.C.length ((tilH R (exH max R (htsOf R.W R.T R.C M0) ((tilT R).take k))).map (Value.int .i64)) → Reads w' w'.heap.size 1 (some ⟨g2, 0, none⟩) R.C.length (N.map (Value.int .i64)) →
      Hid (Calls Tryz.prog 35 #[.agg #[.int .i64 R.W, .int .i64 R.T, .slice A R.C.length c], .slice (some ⟨g1, 0, none⟩) R.C.length d1, .slice (some ⟨g2, 0, none⟩) R.C.length d2] w' (RetIB w' (tilH R (exH max R (htsOf R.W R.T R.C M0) ((tilT R).take (k + 1)))) true)) := fun k N g1 d1 g2 d2 w' hN h ha hb' => by
    have hTN := hTl k N hN
    have hlo := hlow k
    have t1 := (tiled_ok hR).2 ⟨hS, hlo.1, hlo.2⟩
    have t2 := (tiled_ok hR).2 ⟨hS, hTN.1, hTN.2⟩
    have := tilingHighS_any R.W R.T A R.C.length c w'.heap.size R.C _ (some ⟨g1, 0, none⟩) R.C.length d1 N (some ⟨g2, 0, none⟩) R.C.length d2 w' rfl hlo.1.len hTN.1.len ((hr.below (h.mono hB)).more (Nat.le_trans hB h.size)) ha hb' (Nat.le_refl _) (by omega) (by omega) (by omega)
    rw [twoV_yes t1 t2, htsOf_til hR hS (hhp k), ← exH_succ hN] at this
    have e : twoB R.W R.T R.C (tilH R (exH max R (htsOf R.W R.T R.C M0) ((tilT R).take k))) N = true := by unfold twoB; rw [t1, t2]; rfl
    rw [e] at this
    exact hide this
  have hfin : exH max R (htsOf R.W R.T R.C M0) ((tilT R).take (tilT R).length) = exH max R (htsOf R.W R.T R.C M0) (tilT R) := by rw [List.take_length]
  have hpos : 0 < (tilT R).length := (List.getElem?_eq_some_iff.1 hM0).1
  have hll : ∀ n, (tilH R (exH max R (htsOf R.W R.T R.C M0) ((tilT R).take n))).length = R.C.length := fun n => tilH_len R _
  have HLL := Lib.hid hll
  have HFI := Lib.hid hfin
  have HM0 := Lib.hid hM0
  have H1ST := Lib.hid h1st
  have hnl := tilT_len R
  have HNL := Lib.hid hnl
  have hb0 : Below w.heap.size w (w.alloc (boxR R.W R.T A R.C.length c)) := (Below.refl _ _).alloc (Nat.le_refl _) _
  have k0 : Blk (w.alloc (boxR R.W R.T A R.C.length c)) w.heap.size 29 #[.int .i64 R.W, .int .i64 R.T, .slice A R.C.length c] := Blk.new _ _ _
  clear hTl hhp hlow h1st hfin hM0 hhd hne hs hr hll hnl hT0
  generalize hTT : tilT R = TT at *
  clear hTT
  have hz0 : ((TT.length : Int) == 0) = false := by rw [beq_eq_false_iff_ne]; omega
  go_enter Tryz.func17, Tryz.ntmps17
  go_wp2_with fail
  refine (unhide (hTA _ hb0)).mono ?_
  rintro e w1 ⟨A3, c3, xs, rfl, hR3, hb1, _⟩
  have hR3b := hR3.mono (b' := w.heap.size) hb0.size
  have hB1 := hb0.trans (hb1.mono hb0.size)
  have k1 := k0.below hb1 k0.lt
  obtain ⟨b0, b1, b2⟩ := blk3 k1
  clear k0 hb0 hb1 hTA hR3
  go_wp2_with fail
  refine (unhide (hSI _ hB1)).mono ?_
  rintro e w3 ⟨rfl, hb3⟩
  have hB3 := hB1.trans (hb3.mono hB1.size)
  have k3 := k1.below hb3 k1.lt
  have hrow := hR3b.below hb3
  clear b0 b1 b2 k1 hb3 hB1 hSI hR3b
  obtain ⟨x, M, hx, hM, g0, d0, d0', rfl, hown0⟩ := hrow.at_ hpos
  obtain rfl : M = M0 := by have := HM0.out; rw [hM] at this; injection this
  have hown := hrow.own
  rw [hrow.len] at hown
  obtain ⟨g3, cg3, hsh3, _, _, _⟩ := own_shape hown hpos
  simp only [Value.slice.injEq, true_and] at hsh3
  obtain ⟨rfl, rfl⟩ := hsh3
  have hxc : w3.cell? ⟨g3, 0, none⟩ = some (.slice (some ⟨g0, 0, none⟩) R.C.length d0') := by rw [hown.cellAt 0 (by omega)]; exact hx
  have hlow1 : w3.ownsRow w.heap.size 3 1 (.slice (some ⟨g0, 0, none⟩) R.C.length d0) R.C.length ((tilH R (exH max R (htsOf R.W R.T R.C M) (TT.take 1))).map (Value.int .i64)) := by rw [H1ST.out]; exact hown0
  clear hown hown0 hx hM
  go_wp2_with fail
  go_loopg [5, 6] (TT.length - 1) (fun r s5 s6 wr => ∃ (k g d d' : Nat), k + r = TT.length ∧ 1 ≤ k ∧ s6 = .int .i64 (k : Nat) ∧ s5 = .slice (some ⟨g, 0, none⟩) R.C.length d' ∧ wr.ownsRow w.heap.size 3 1 (.slice (some ⟨g, 0, none⟩) R.C.length d) R.C.length ((tilH R (exH max R (htsOf R.W R.T R.C M) (TT.take k))).map (Value.int .i64)) ∧ Below w.heap.size w wr ∧ Blk wr w.heap.size 29 #[.int .i64 R.W, .int .i64 R.T, .slice A R.C.length c] ∧ RowsOf wr w.heap.size R.C.length (.slice (some ⟨g3, 0, none⟩) TT.length c3) xs TT)
  case atStart => exact ⟨1, g0, d0, d0', by omega, by omega, rfl, rfl, hlow1, hB3, k3, hrow⟩
  case round =>
    clear hlow1 hB3 k3 hrow hxc
    obtain ⟨k, g, d, d', hk, hk1, rfl, rfl, hlo, hBw, hbk, hrow⟩ := hrel
    have HK := Lib.hid hk
    clear hk
    by_cases hlt : k < TT.length
    · obtain ⟨x, N, hx, hN, hin⟩ := hrow.at_ hlt
      obtain ⟨gy, cy, rfl, hry⟩ := hin.reads
      have hown := hrow.own
      rw [hrow.len] at hown
      have hyc : wr.cell? ⟨g3, k, none⟩ = some (.slice (some ⟨gy, 0, none⟩) R.C.length cy) := by rw [hown.cellAt k (by omega)]; exact hx
      have hTk := hTL k N g d' gy cy wr.drew hN hBw.drew (Reads.of_own hlo) hry
      have hl2 := Lib.hid (HLL.out (k + 1))
      have hnl := HNL.out
      obtain ⟨b0, b1, b2⟩ := blk3 hbk
      clear hN hx hown hin hry hTL hlo
      generalize hL2e : tilH R (exH max R (htsOf R.W R.T R.C M) (TT.take (k + 1))) = L2 at *
      have HE2 := Lib.hid hL2e
      clear hL2e
      go_upto_region 8 with fail
      go_region_with
        (first
          | (go_at_call 35; (with_reducible refine (unhide hTk).mono ?_); rintro e w4 ⟨A4, c4, c4', rfl, ho4, hb4⟩))
      all_goals
        rw [hl2.out] at ho4
        obtain ⟨g4, cg4, hsh4, _, _, _⟩ := own_shape ho4 hl1
        simp only [Value.slice.injEq, true_and] at hsh4
        obtain ⟨rfl, rfl⟩ := hsh4
        have hB4 := hBw.drew.trans (hb4.mono hBw.drew.size)
        have k4 := hbk.drew.below hb4 hbk.drew.lt
        have hrow4 := (hrow.below (Below.refl wr.heap.size wr).drew).below hb4
        have ho5 := own_mono ho4 hBw.drew.size
        clear b0 b1 b2 hyc hBw hbk hrow hb4 hTk ho4
        go_wp2_with fail
        go_roundg (TT.length - (k + 1))
        case measure => have := HK.out; omega
        case rel => exact ⟨k + 1, g4, c4, c4', by have := HK.out; omega, by omega, by go_num, by rw [hl2.out], by rw [HE2.out]; exact ho5, hB4, k4, hrow4⟩
    · obtain rfl : k = TT.length := by have := HK.out; omega
      have hl2 := Lib.hid (HLL.out TT.length)
      rw [HFI.out] at hlo hl2
      go_wp2_with fail
      go_ret2
      exact ⟨some ⟨g, 0, none⟩, d, d', by rw [hl2.out]; rfl, by rw [hl2.out]; exact hlo, hBw⟩

set_option maxHeartbeats 1000000 in
theorem highestS_any (W T : Int) (A : Option Addr) (n c B : Nat) (bs : List Bool) (w : World) (hbl : bs.length = n) (hr : Reads w B 1 A n (bs.map Value.bool)) (hB : B ≤ w.heap.size) (hn : n ≤ 9223372036854775807) :
    Calls Tryz.prog 17 #[.agg #[.int .i64 W, .int .i64 T, .slice A n c]] w (RetIB w (exV max W T bs) (exB W T bs)) := by
  have hb0 : Below w.heap.size w (w.alloc (boxR W T A n c)) := (Below.refl _ _).alloc (Nat.le_refl _) _
  have k0 : Blk (w.alloc (boxR W T A n c)) w.heap.size 29 #[.int .i64 W, .int .i64 T, .slice A n c] := Blk.new _ _ _
  have hSI := fun w' (h : Below w.heap.size w w') => hide (SimpleS_any W T A n c B bs w' (hr.below (h.mono hB)) (Nat.le_trans hB h.size) hn)
  by_cases hyes : simpleB W T bs = true ∧ tilT ⟨W.toNat, T.toNat, bs⟩ ≠ []
  · obtain ⟨R, hR, rfl, rfl, rfl, hS⟩ := simple_cases hyes.1
    subst hbl
    have hne : tilT R ≠ [] := hyes.2
    obtain ⟨e1, e2⟩ := exV_yes (f := max) hyes.1 hne
    rw [e1, e2]
    exact highestS_ok R hR hS hyes.1 hne A c B w hr hB
  · obtain ⟨e1, e2⟩ := exV_no (f := max) hyes
    rw [e1, e2]
    have hTA : ∀ w', Below w.heap.size w w' → Hid (Calls Tryz.prog 32 #[.agg #[.int .i64 W, .int .i64 T, .slice A n c]] w' fun e w'' => ∃ (A1 : Option Addr) (m c1 : Nat), e = .returned (.slice A1 m c1) ∧ (simpleB W T bs = true → m = 0) ∧ Below w'.heap.size w' w'') := fun w' h => by
      cases hv : validB W T bs with
      | false =>
        refine hide ((tilingsAllS_no W T A n c B bs hv w' (hr.below (h.mono hB)) (Nat.le_trans hB h.size) hn).mono ?_)
        rintro e w'' ⟨g, rfl, hb⟩
        exact ⟨_, 0, 0, rfl, fun _ => rfl, hb⟩
      | true =>
        obtain ⟨R, hR, rfl, rfl, rfl⟩ := reg_of_valid hv
        subst hbl
        refine hide ((tilingsAllS_ok R hR A c B w' (hr.below (h.mono hB)) (Nat.le_trans hB h.size)).mono ?_)
        rintro e w'' ⟨A3, c3, xs, rfl, _, hb, _⟩
        refine ⟨A3, _, c3, rfl, fun hs => ?_, hb⟩
        have : tilT R = [] := Classical.byContradiction fun hx => hyes ⟨hs, hx⟩
        rw [this]; rfl
    clear e1 e2 hyes hr
    go_enter Tryz.func17, Tryz.ntmps17
    go_wp2_with fail
    refine (unhide (hTA _ hb0)).mono ?_
    rintro e w1 ⟨A1, m, c1, rfl, hm, hb1⟩
    have hB1 := hb0.trans (hb1.mono hb0.size)
    obtain ⟨b0, b1, b2⟩ := blk3 (k0.below hb1 k0.lt)
    have hS1 := hSI _ hB1
    clear k0 hb0 hb1 hTA hSI
    cases hs : simpleB W T bs with
    | false =>
      rw [hs] at hS1
      clear hm hs
      go_wp2_with fail
      refine (unhide hS1).mono ?_
      rintro e w3 ⟨rfl, hb3⟩
      have hB3 := hB1.trans (hb3.mono hB1.size)
      go_wp2_with fail
      go_ret2
      have ho := World.ownsRow_made (base := w.heap.size) (e := 3) (size := 1) w3 #[] 0 hB3.size (by simp [maxLen]) (by simp)
      exact ⟨_, 0, 0, rfl, by simpa using ho, hB3.alloc hB3.size _⟩
    | true =>
      rw [hs] at hS1
      obtain rfl := hm hs
      clear hm hs
      go_wp2_with fail
      refine (unhide hS1).mono ?_
      rintro e w3 ⟨rfl, hb3⟩
      have hB3 := hB1.trans (hb3.mono hB1.size)
      go_wp2_with fail
      go_ret2
      have ho := World.ownsRow_made (base := w.heap.size) (e := 3) (size := 1) w3 #[] 0 hB3.size (by simp [maxLen]) (by simp)
      exact ⟨_, 0, 0, rfl, by simpa using ho, hB3.alloc hB3.size _⟩

theorem exV_len {f : Int → Int → Int} {W T : Int} {bs : List Bool} : (exV f W T bs).length ≤ 36 := by
  by_cases h : simpleB W T bs = true ∧ tilT ⟨W.toNat, T.toNat, bs⟩ ≠ []
  · obtain ⟨R, hR, rfl, rfl, rfl, _⟩ := simple_cases h.1
    rw [(exV_yes h.1 h.2).1, tilH_len]
    exact (len_bd hR).2
  · rw [(exV_no h).1]; simp

end Go.Proofs.YthmmbejilceoaaaGreat
