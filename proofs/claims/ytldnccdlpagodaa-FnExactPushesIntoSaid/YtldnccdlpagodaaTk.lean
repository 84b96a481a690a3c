/-
  YtldnccdlpagodaaTk: PushesInto of the program and of the reference.
-/
import Derived.Test.YtldnccdlpagodaaPq
import Derived.Test.YtldnccdlpagodaaTt
namespace Go.Proofs.Ytldnccdlpagodaa
open Go.RowKit

/-- How many pushes lead from the first tilings to one. -/
noncomputable def piTo (R : Reg) (b : List Int) (n : Nat) : Nat := (((tilT R).take n).map fun M => pfTo R M b R.cn).sum
theorem piTo_succ {R : Reg} {b : List Int} {n : Nat} {M : List Int} (h : (tilT R)[n]? = some M) : piTo R b (n + 1) = piTo R b n + pfTo R M b R.cn := by
  unfold piTo
  rw [List.take_add_one, h, List.map_append, List.sum_append]
  simp
theorem piTo_le {R : Reg} (hR : R.ok) (b : List Int) : ∀ n : Nat, piTo R b n ≤ 98 * n
  | 0 => by simp [piTo]
  | n + 1 => by
    have ih := piTo_le hR b n
    cases h : (tilT R)[n]? with
    | none =>
      have : piTo R b (n + 1) = piTo R b n := by unfold piTo; rw [List.take_add_one, h]; simp
      omega
    | some M =>
      rw [piTo_succ h]
      have := pfTo_le R M b R.cn
      have := (cn_bd hR).2
      omega
noncomputable def piV (W T : Int) (bs : List Bool) (b : List Int) : Int := if tiledB W T bs b = true ∧ cnt bs ≤ 16 then (piTo ⟨W.toNat, T.toNat, bs⟩ b (tilT ⟨W.toNat, T.toNat, bs⟩).length : Int) else -1
theorem piV_yes {R : Reg} {b : List Int} (h : tiledB R.W R.T R.C b = true) (g : cnt R.C ≤ 16) : piV R.W R.T R.C b = (piTo R b (tilT R).length : Int) := by unfold piV; rw [if_pos ⟨h, g⟩]; rfl
theorem piV_no {W T : Int} {bs : List Bool} {b : List Int} (h : ¬ (tiledB W T bs b = true ∧ cnt bs ≤ 16)) : piV W T bs b = -1 := by unfold piV; exact if_neg h

theorem small_any (W T : Int) (A : Option Addr) (n c B : Nat) (bs : List Bool) (w : World) (hr : Reads w B 1 A n (bs.map Value.bool)) (hB : B ≤ w.heap.size) (hn : n ≤ 9223372036854775807) :
    Calls Try.prog 76 #[.agg #[.int .i64 W, .int .i64 T, .slice A n c]] w fun e w' => e = .returned (.bool (validB W T bs && decide (cnt bs ≤ 16))) ∧ Below w.heap.size w w' := by
  have hb0 : Below w.heap.size w (w.alloc (boxR W T A n c)) := (Below.refl _ _).alloc (Nat.le_refl _) _
  have k0 : Blk (w.alloc (boxR W T A n c)) w.heap.size 29 #[.int .i64 W, .int .i64 T, .slice A n c] := Blk.new _ _ _
  have HV := hide (valid_any W T A n c B bs _ (hr.below (hb0.mono hB)) (Nat.le_trans hB hb0.size) hn)
  have HM := fun w' (h : Below w.heap.size w w') => hide (many_any A n c B bs w' (hr.below (h.mono hB)) hn)
  generalize cnt bs = cb at *
  clear hr
  cases hv : validB W T bs with
  | false =>
    rw [hv] at HV
    go_enter Try.func76, Try.ntmps76
    go_wp2_with fail
    refine (unhide HV).mono ?_
    rintro e w1 ⟨rfl, hb1⟩
    go_wp2_with fail
    go_ret
    exact ⟨rfl, hb0.trans (hb1.mono hb0.size)⟩
  | true =>
    rw [hv] at HV
    go_enter Try.func76, Try.ntmps76
    go_wp2_with fail
    refine (unhide HV).mono ?_
    rintro e w1 ⟨rfl, hb1⟩
    have hB1 := hb0.trans (hb1.mono hb0.size)
    obtain ⟨b0, b1, b2⟩ := blk3 (k0.below hb1 k0.lt)
    have hM1 := HM _ hB1
    clear hb1 hb0 k0 HM HV
    go_wp2_with fail
    refine (unhide hM1).mono ?_
    rintro e w2 ⟨rfl, rfl⟩
    go_wp2_with fail
    go_ret
    exact ⟨ret_bool (by have h16 : ((cb : Int) ≤ 16) ↔ cb ≤ 16 := (by omega); simp [h16]), hB1⟩

set_option maxHeartbeats 2000000 in
set_option maxRecDepth 20000 in
theorem pushesIntoI_ok (R : Reg) (hR : R.ok) (hS : SimpleP R) (hcnt : cnt R.C ≤ 16) (A : Option Addr) (c B : Nat) (b : List Int) (gb db : Nat) (hb : Tile R b) (w : World) (hr : Reads w B 1 A R.C.length (R.C.map Value.bool)) (h2 : Reads w B 1 (some ⟨gb, 0, none⟩) R.C.length (b.map (Value.int .i64))) (hB : B ≤ w.heap.size) :
    Calls Try.prog 43 #[.agg #[.int .i64 R.W, .int .i64 R.T, .slice A R.C.length c], .slice (some ⟨gb, 0, none⟩) R.C.length db] w fun e w' => e = .returned (.int .i64 (piTo R b (tilT R).length : Nat)) ∧ Below w.heap.size w w' := by
  have hl36 := (len_bd hR).2
  have hl1 := (len_bd hR).1
  have hSM := fun w' (h : Below w.heap.size w w') => hide (small_any R.W R.T A R.C.length c B R.C w' (hr.below (h.mono hB)) (Nat.le_trans hB h.size) (by omega))
  have hsm : (validB R.W R.T R.C && decide (cnt R.C ≤ 16)) = true := by rw [valid_of_ok hR, decide_eq_true hcnt]; rfl
  simp only [hsm] at hSM
  have hT2 := fun w' (h : Below w.heap.size w w') => hide (tiled_any R.W R.T A R.C.length c B R.C b (some ⟨gb, 0, none⟩) R.C.length db w' rfl hb.1.len (hr.below (h.mono hB)) (h2.below (h.mono hB)) (Nat.le_trans hB h.size) (by omega) (by omega))
  have htb := (tiled_ok hR).2 ⟨hS, hb.1, hb.2⟩
  simp only [htb] at hT2
  have hTI := fun w' (h : Below w.heap.size w w') => hide (tilings_any R hR A c B w' (hr.below (h.mono hB)) (Nat.le_trans hB h.size))
  have hPF : ∀ (M : List Int) (g d : Nat) w', Tile R M → Below w.heap.size w w' → Reads w' w'.heap.size 1 (some ⟨g, 0, none⟩) R.C.length (M.map (Value.int .i64)) → Hid (Calls Try.prog 92 #[.agg #[.int .i64 R.W, .int .i64 R.T, .slice A R.C.length c], .slice (some ⟨g, 0, none⟩) R.C.length d, .slice (some ⟨gb, 0, none⟩) R.C.length db] w' fun e w'' => e = .returned (.int .i64 (pfTo R M b R.cn : Nat)) ∧ Below w'.heap.size w' w'') := fun M g d w' hM h ha =>
    hide (pushesFrom_any R hR hS A c w'.heap.size M b g d gb db hM hb w' ((hr.below (h.mono hB)).more (Nat.le_trans hB h.size)) ha ((h2.below (h.mono hB)).more (Nat.le_trans hB h.size)) (Nat.le_refl _))
  have hTl : ∀ (k : Nat) (M : List Int), (tilT R)[k]? = some M → Tile R M := fun k M h => (tilT_iff hR).1 (List.mem_of_getElem? h)
  have HTL := Lib.hid hTl
  have hsu := fun n M h => piTo_succ (R := R) (b := b) (n := n) (M := M) h
  have HSU := Lib.hid hsu
  have hbd := fun n => piTo_le hR b n
  have HBD := Lib.hid hbd
  have hnl := tilT_len R
  have HNL := Lib.hid hnl
  have hb0 : Below w.heap.size w (w.alloc (boxR R.W R.T A R.C.length c)) := (Below.refl _ _).alloc (Nat.le_refl _) _
  have k0 : Blk (w.alloc (boxR R.W R.T A R.C.length c)) w.heap.size 29 #[.int .i64 R.W, .int .i64 R.T, .slice A R.C.length c] := Blk.new _ _ _
  clear hTl hsu hbd hnl hr h2 hsm htb hcnt
  generalize tilT R = TT at *
  go_enter Try.func43, Try.ntmps43
  go_wp2_with fail
  refine (unhide (hSM _ hb0)).mono ?_
  rintro e w1 ⟨rfl, hb1⟩
  have hB1 := hb0.trans (hb1.mono hb0.size)
  have k1 := k0.below hb1 k0.lt
  obtain ⟨b0, b1, b2⟩ := blk3 k1
  clear k0 hb0 hb1 hSM
  go_wp2_with fail
  refine (unhide (hT2 _ hB1)).mono ?_
  rintro e w2 ⟨rfl, hb2⟩
  have hB2 := hB1.trans (hb2.mono hB1.size)
  have k2 := k1.below hb2 k1.lt
  clear b0 b1 b2 k1 hb2 hB1 hT2
  obtain ⟨b0, b1, b2⟩ := blk3 k2
  go_wp2_with fail
  refine (unhide (hTI _ hB2)).mono ?_
  rintro e w3 ⟨A3, c3, c3', xs, rfl, hR3, hb3⟩
  have hB3 := hB2.trans (hb3.mono hB2.size)
  have k3 := k2.below hb3 k2.lt
  have hR3' := hR3.mono (b' := 0) (by omega)
  clear b0 b1 b2 k2 hb3 hB2 hTI hR3
  go_wp2_with fail
  go_loopg [5, 20] TT.length (fun r s5 s20 wr => ∃ k : Nat, k + r = TT.length ∧ s20 = .int .i64 (k : Nat) ∧ s5 = .int .i64 (piTo R b k : Nat) ∧ Below w.heap.size w wr ∧ Blk wr w.heap.size 29 #[.int .i64 R.W, .int .i64 R.T, .slice A R.C.length c] ∧ RowsOf wr 0 R.C.length (.slice A3 TT.length c3) xs TT)
  case atStart => exact ⟨0, by omega, rfl, by simp [piTo], hB3, k3, hR3'⟩
  case round =>
    clear hR3' k3 hB3
    obtain ⟨k, hk, rfl, rfl, hBw, hbk, hrow⟩ := hrel
    have HK := Lib.hid hk
    clear hk
    have hbdk := HBD.out k
    by_cases hlt : k < TT.length
    · obtain ⟨x, M, hx, hM, hin⟩ := hrow.at_ hlt
      obtain ⟨gx, cx, rfl, hrx⟩ := hin.reads
      have hTM := HTL.out k M hM
      have hown := hrow.own
      rw [hrow.len] at hown
      obtain ⟨g3, cg3, hsh3, _, _, _⟩ := own_shape hown (by omega)
      simp only [Value.slice.injEq, true_and] at hsh3
      obtain ⟨rfl, rfl⟩ := hsh3
      have hxc : wr.cell? ⟨g3, k, none⟩ = some (.slice (some ⟨gx, 0, none⟩) R.C.length cx) := by rw [hown.cellAt k (by omega)]; exact hx
      have hHk := hPF M gx cx wr hTM hBw hrx
      have hs1 := HSU.out k M hM
      have hbdk1 := HBD.out (k + 1)
      rw [hs1] at hbdk1
      have HS1 := Lib.hid hs1
      have hnl := HNL.out
      generalize pfTo R M b R.cn = p at *
      generalize piTo R b k = sN at *
      obtain ⟨b0, b1, b2⟩ := blk3 hbk
      have hw := IntWalk.wrap64_in ((sN : Int) + (p : Int)) (by omega)
      clear hs1 hM hx hown hin hrx hTM hbdk hbdk1
      generalize hsI : (sN : Int) = sI at *
      generalize hpI : (p : Int) = pI at *
      have HSI := Lib.hid hsI
      have HPI := Lib.hid hpI
      clear hsI hpI
      go_wp2_with fail
      refine (unhide hHk).mono ?_
      rintro e w4 ⟨rfl, hb4⟩
      have hrow4 := hrow.below hb4
      have k4 := hbk.below hb4 hbk.lt
      have hB4 := hBw.trans (hb4.mono hBw.size)
      clear b0 b1 b2 hxc hBw hbk hrow hb4 hHk
      go_wp2_with fail
      go_roundg (TT.length - (k + 1))
      case measure => have := HK.out; omega
      case rel => exact ⟨k + 1, by have := HK.out; omega, by go_num, congrArg (Value.int .i64) (by have e1 := HSI.out; have e2 := HPI.out; rw [HS1.out]; omega), hB4, k4, hrow4⟩
    · obtain rfl : k = TT.length := by have := HK.out; omega
      go_wp2_with fail
      go_ret
      exact ⟨rfl, hBw⟩

theorem cellsManyS_ok (R : Reg) (hR : R.ok) (A : Option Addr) (c B : Nat) (w : World) (hr : Reads w B 1 A R.C.length (R.C.map Value.bool)) (hB : B ≤ w.heap.size) :
    Calls Try.prog 73 #[.agg #[.int .i64 R.W, .int .i64 R.T, .slice A R.C.length c]] w fun e w' => e = .returned (.int .i64 (cnt R.C)) ∧ Below w.heap.size w w' := by
  have hl36 := (len_bd hR).2
  have hb0 : Below w.heap.size w (w.alloc (boxR R.W R.T A R.C.length c)) := (Below.refl _ _).alloc (Nat.le_refl _) _
  have k0 : Blk (w.alloc (boxR R.W R.T A R.C.length c)) w.heap.size 29 #[.int .i64 R.W, .int .i64 R.T, .slice A R.C.length c] := Blk.new _ _ _
  have HV := hide (validS_any R.W R.T A R.C.length c B R.C _ (hr.below (hb0.mono hB)) (Nat.le_trans hB hb0.size) (by omega))
  rw [valid_of_ok hR] at HV
  have HM := fun w' (h : Below w.heap.size w w') => hide (countS_any A R.C.length c B R.C w' (hr.below (h.mono hB)) (by omega))
  generalize cnt R.C = cb at *
  clear hr
  go_enter Try.func73, Try.ntmps73
  go_wp2_with fail
  refine (unhide HV).mono ?_
  rintro e w1 ⟨rfl, hb1⟩
  have hB1 := hb0.trans (hb1.mono hb0.size)
  obtain ⟨b0, b1, b2⟩ := blk3 (k0.below hb1 k0.lt)
  have hM1 := HM _ hB1
  clear hb1 hb0 k0 HM HV
  go_wp2_with fail
  refine (unhide hM1).mono ?_
  rintro e w2 ⟨rfl, rfl⟩
  go_wp2_with fail
  go_ret
  exact ⟨rfl, hB1⟩

set_option maxHeartbeats 2000000 in
set_option maxRecDepth 20000 in
theorem pushesIntoS_ok (R : Reg) (hR : R.ok) (hS : SimpleP R) (hcnt : cnt R.C ≤ 16) (A : Option Addr) (c B : Nat) (b : List Int) (D2 : Option Addr) (db : Nat) (hb : Tile R b) (w : World) (hr : Reads w B 1 A R.C.length (R.C.map Value.bool)) (h2 : Reads w B 1 D2 R.C.length (b.map (Value.int .i64))) (hB : B ≤ w.heap.size) :
    Calls Try.prog 42 #[.agg #[.int .i64 R.W, .int .i64 R.T, .slice A R.C.length c], .slice D2 R.C.length db] w fun e w' => e = .returned (.int .i64 (piTo R b (tilT R).length : Nat)) ∧ Below w.heap.size w w' := by
  have hl36 := (len_bd hR).2
  have hl1 := (len_bd hR).1
  have hSM := fun w' (h : Below w.heap.size w w') => hide (SimpleS_any R.W R.T A R.C.length c B R.C w' (hr.below (h.mono hB)) (Nat.le_trans hB h.size) (by omega))
  have hsm := simple_of_tiled ((tiled_ok hR).2 ⟨hS, hb.1, hb.2⟩)
  simp only [hsm] at hSM
  have hCM := fun w' (h : Below w.heap.size w w') => hide (cellsManyS_ok R hR A c B w' (hr.below (h.mono hB)) (Nat.le_trans hB h.size))
  have hgt : decide ((16 : Int) < cnt R.C) = false := decide_eq_false (by omega)
  have hT2 := fun w' (h : Below w.heap.size w w') => hide (tilingOkS_any R.W R.T A R.C.length c B R.C b D2 R.C.length db w' rfl hb.1.len (hr.below (h.mono hB)) (h2.below (h.mono hB)) (Nat.le_trans hB h.size) (by omega) (by omega))
  have htb : tilingB R.W R.T R.C b = true := by rw [tilingB_ok hR, (laysB_iff hR).2 hb.1, (fullB_iff hR).2 hb.2]; rfl
  simp only [htb] at hT2
  have hTI := fun w' (h : Below w.heap.size w w') => hide (tilingsAllS_ok R hR A c B w' (hr.below (h.mono hB)) (Nat.le_trans hB h.size))
  have hPF : ∀ (M : List Int) (g d : Nat) w', Tile R M → Below w.heap.size w w' → Reads w' w'.heap.size 1 (some ⟨g, 0, none⟩) R.C.length (M.map (Value.int .i64)) → Hid (Calls Try.prog 40 #[.agg #[.int .i64 R.W, .int .i64 R.T, .slice A R.C.length c], .slice (some ⟨g, 0, none⟩) R.C.length d, .slice D2 R.C.length db] w' fun e w'' => e = .returned (.int .i64 (pfTo R M b R.cn : Nat)) ∧ Below w'.heap.size w' w'') := fun M g d w' hM h ha =>
    hide (pushesFromS_ok R hR hS A c w'.heap.size M b (some ⟨g, 0, none⟩) d D2 db hM hb w' ((hr.below (h.mono hB)).more (Nat.le_trans hB h.size)) ha ((h2.below (h.mono hB)).more (Nat.le_trans hB h.size)) (Nat.le_refl _))
  have hTl : ∀ (k : Nat) (M : List Int), (tilT R)[k]? = some M → Tile R M := fun k M h => (tilT_iff hR).1 (List.mem_of_getElem? h)
  have HTL := Lib.hid hTl
  have hsu := fun n M h => piTo_succ (R := R) (b := b) (n := n) (M := M) h
  have HSU := Lib.hid hsu
  have hbd := fun n => piTo_le hR b n
  have HBD := Lib.hid hbd
  have hnl := tilT_len R
  have HNL := Lib.hid hnl
  have hb0 : Below w.heap.size w (w.alloc (boxR R.W R.T A R.C.length c)) := (Below.refl _ _).alloc (Nat.le_refl _) _
  have k0 : Blk (w.alloc (boxR R.W R.T A R.C.length c)) w.heap.size 29 #[.int .i64 R.W, .int .i64 R.T, .slice A R.C.length c] := Blk.new _ _ _
  clear hTl hsu hbd hnl hr h2 hsm htb
  generalize tilT R = TT at *
  go_enter Try.func42, Try.ntmps42
  go_wp2_with fail
  refine (unhide (hSM _ hb0)).mono ?_
  rintro e w1 ⟨rfl, hb1⟩
  have hB1 := hb0.trans (hb1.mono hb0.size)
  have k1 := k0.below hb1 k0.lt
  obtain ⟨b0, b1, b2⟩ := blk3 k1
  clear k0 hb0 hb1 hSM
  go_wp2_with fail
  refine (unhide (hT2 _ hB1)).mono ?_
  rintro e w2 ⟨rfl, hb2⟩
  have hB2 := hB1.trans (hb2.mono hB1.size)
  have k2 := k1.below hb2 k1.lt
  clear b0 b1 b2 k1 hb2 hB1 hT2
  obtain ⟨b0, b1, b2⟩ := blk3 k2
  go_wp2_with fail
  refine (unhide (hCM _ hB2)).mono ?_
  rintro e w22 ⟨rfl, hb22⟩
  have hB22 := hB2.trans (hb22.mono hB2.size)
  have k22 := k2.below hb22 k2.lt
  clear b0 b1 b2 k2 hb22 hB2 hCM
  obtain ⟨b0, b1, b2⟩ := blk3 k22
  go_wp2_with fail
  refine (unhide (hTI _ hB22)).mono ?_
  rintro e w3 ⟨A3, c3, xs, rfl, hR3, hb3, _⟩
  have hB3 := hB22.trans (hb3.mono hB22.size)
  have k3 := k22.below hb3 k22.lt
  have hR3' := hR3.mono (b' := 0) (by omega)
  clear b0 b1 b2 k22 hb3 hB22 hTI hR3
  go_wp2_with fail
  go_loopg [5, 7] TT.length (fun r s5 s7 wr => ∃ k : Nat, k + r = TT.length ∧ s7 = .int .i64 (k : Nat) ∧ s5 = .int .i64 (piTo R b k : Nat) ∧ Below w.heap.size w wr ∧ Blk wr w.heap.size 29 #[.int .i64 R.W, .int .i64 R.T, .slice A R.C.length c] ∧ RowsOf wr 0 R.C.length (.slice A3 TT.length c3) xs TT)
  case atStart => exact ⟨0, by omega, rfl, by simp [piTo], hB3, k3, hR3'⟩
  case round =>
    clear hR3' k3 hB3
    obtain ⟨k, hk, rfl, rfl, hBw, hbk, hrow⟩ := hrel
    have HK := Lib.hid hk
    clear hk
    have hbdk := HBD.out k
    by_cases hlt : k < TT.length
    · obtain ⟨x, M, hx, hM, hin⟩ := hrow.at_ hlt
      obtain ⟨gx, cx, rfl, hrx⟩ := hin.reads
      have hTM := HTL.out k M hM
      have hown := hrow.own
      rw [hrow.len] at hown
      obtain ⟨g3, cg3, hsh3, _, _, _⟩ := own_shape hown (by omega)
      simp only [Value.slice.injEq, true_and] at hsh3
      obtain ⟨rfl, rfl⟩ := hsh3
      have hxc : wr.cell? ⟨g3, k, none⟩ = some (.slice (some ⟨gx, 0, none⟩) R.C.length cx) := by rw [hown.cellAt k (by omega)]; exact hx
      have hHk := hPF M gx cx wr.drew hTM hBw.drew hrx
      have hs1 := HSU.out k M hM
      have hbdk1 := HBD.out (k + 1)
      rw [hs1] at hbdk1
      have HS1 := Lib.hid hs1
      have hnl := HNL.out
      generalize pfTo R M b R.cn = p at *
      generalize piTo R b k = sN at *
      obtain ⟨b0, b1, b2⟩ := blk3 hbk
      have hw := IntWalk.wrap64_in ((sN : Int) + (p : Int)) (by omega)
      clear hs1 hM hx hown hin hrx hTM hbdk hbdk1
      generalize hsI : (sN : Int) = sI at *
      generalize hpI : (p : Int) = pI at *
      have HSI := Lib.hid hsI
      have HPI := Lib.hid hpI
      clear hsI hpI
      go_upto_region 8 with fail
      go_region_with
        (first
          | (go_at_call 40; (with_reducible refine (unhide hHk).mono ?_); rintro e w4 ⟨rfl, hb4⟩))
      all_goals
        have hrow4 := (hrow.below (Below.refl wr.heap.size wr).drew).below hb4
        have k4 := hbk.drew.below hb4 hbk.drew.lt
        have hB4 := hBw.drew.trans (hb4.mono hBw.drew.size)
        clear b0 b1 b2 hxc hBw hbk hrow hb4 hHk
        go_wp2_with fail
        go_roundg (TT.length - (k + 1))
        case measure => have := HK.out; omega
        case rel => exact ⟨k + 1, by have := HK.out; omega, by go_num, congrArg (Value.int .i64) (by have e1 := HSI.out; have e2 := HPI.out; rw [HS1.out]; omega), hB4, k4, hrow4⟩
    · obtain rfl : k = TT.length := by have := HK.out; omega
      go_wp2_with fail
      go_ret
      exact ⟨rfl, hBw⟩

theorem pushesIntoI_any (W T : Int) (A : Option Addr) (n c B : Nat) (bs : List Bool) (L2 : List Int) (D2 : Option Addr) (m2 d2 : Nat) (w : World) (hbl : bs.length = n) (hL2 : L2.length = m2) (hF : L2 ≠ [] → ∃ gb, D2 = some ⟨gb, 0, none⟩)
    (hr : Reads w B 1 A n (bs.map Value.bool)) (h2 : Reads w B 1 D2 m2 (L2.map (Value.int .i64))) (hB : B ≤ w.heap.size) (hn : n ≤ 9223372036854775807) (hm2 : m2 ≤ 9223372036854775807) :
    Calls Try.prog 43 #[.agg #[.int .i64 W, .int .i64 T, .slice A n c], .slice D2 m2 d2] w fun e w' => e = .returned (.int .i64 (piV W T bs L2)) ∧ Below w.heap.size w w' := by
  by_cases h : tiledB W T bs L2 = true ∧ cnt bs ≤ 16
  · obtain ⟨R, hR, rfl, rfl, rfl, hS, hLy, hFu⟩ := tiled_cases h.1
    rw [piV_yes h.1 h.2]
    subst hbl
    obtain rfl : m2 = R.C.length := by rw [← hL2]; exact hLy.len
    obtain ⟨gb, rfl⟩ := hF (by rintro rfl; have := (len_bd hR).1; have := hLy.len; simp at this; omega)
    exact pushesIntoI_ok R hR hS h.2 A c B L2 gb d2 ⟨hLy, hFu⟩ w hr h2 hB
  · rw [piV_no h]
    have hb0 : Below w.heap.size w (w.alloc (boxR W T A n c)) := (Below.refl _ _).alloc (Nat.le_refl _) _
    have k0 : Blk (w.alloc (boxR W T A n c)) w.heap.size 29 #[.int .i64 W, .int .i64 T, .slice A n c] := Blk.new _ _ _
    have hSM := hide (small_any W T A n c B bs _ (hr.below (hb0.mono hB)) (Nat.le_trans hB hb0.size) hn)
    have hT2 := fun w' (h : Below w.heap.size w w') => hide (tiled_any W T A n c B bs L2 D2 m2 d2 w' hbl hL2 (hr.below (h.mono hB)) (h2.below (h.mono hB)) (Nat.le_trans hB h.size) hn hm2)
    cases hsm : (validB W T bs && decide (cnt bs ≤ 16)) with
    | false =>
      rw [hsm] at hSM
      clear hsm h hT2 hF hr h2 k0
      go_enter Try.func43, Try.ntmps43
      go_wp2_with fail
      refine (unhide hSM).mono ?_
      rintro e w1 ⟨rfl, hb1⟩
      go_wp2_with fail
      go_ret
      exact ⟨rfl, hb0.trans (hb1.mono hb0.size)⟩
    | true =>
      rw [hsm] at hSM
      have ht : tiledB W T bs L2 = false := by
        cases ht : tiledB W T bs L2 with
        | false => rfl
        | true => rw [Bool.and_eq_true, decide_eq_true_eq] at hsm; exact absurd ⟨ht, hsm.2⟩ h
      simp only [ht] at hT2
      clear hsm h ht hF hr h2
      go_enter Try.func43, Try.ntmps43
      go_wp2_with fail
      refine (unhide hSM).mono ?_
      rintro e w1 ⟨rfl, hb1⟩
      have hB1 := hb0.trans (hb1.mono hb0.size)
      obtain ⟨b0, b1, b2⟩ := blk3 (k0.below hb1 k0.lt)
      have hT3 := hT2 _ hB1
      clear hb1 hb0 k0 hSM hT2
      go_wp2_with fail
      refine (unhide hT3).mono ?_
      rintro e w2 ⟨rfl, hb2⟩
      go_wp2_with fail
      go_ret
      exact ⟨rfl, hB1.trans (hb2.mono hB1.size)⟩

theorem pushesIntoS_any (W T : Int) (A : Option Addr) (n c B : Nat) (bs : List Bool) (L2 : List Int) (D2 : Option Addr) (m2 d2 : Nat) (w : World) (hbl : bs.length = n) (hL2 : L2.length = m2)
    (hr : Reads w B 1 A n (bs.map Value.bool)) (h2 : Reads w B 1 D2 m2 (L2.map (Value.int .i64))) (hB : B ≤ w.heap.size) (hn : n ≤ 9223372036854775807) (hm2 : m2 ≤ 9223372036854775807) :
    Calls Try.prog 42 #[.agg #[.int .i64 W, .int .i64 T, .slice A n c], .slice D2 m2 d2] w fun e w' => e = .returned (.int .i64 (piV W T bs L2)) ∧ Below w.heap.size w w' := by
  by_cases h : tiledB W T bs L2 = true ∧ cnt bs ≤ 16
  · obtain ⟨R, hR, rfl, rfl, rfl, hS, hLy, hFu⟩ := tiled_cases h.1
    rw [piV_yes h.1 h.2]
    subst hbl
    obtain rfl : m2 = R.C.length := by rw [← hL2]; exact hLy.len
    exact pushesIntoS_ok R hR hS h.2 A c B L2 D2 d2 ⟨hLy, hFu⟩ w hr h2 hB
  · rw [piV_no h]
    have hb0 : Below w.heap.size w (w.alloc (boxR W T A n c)) := (Below.refl _ _).alloc (Nat.le_refl _) _
    have k0 : Blk (w.alloc (boxR W T A n c)) w.heap.size 29 #[.int .i64 W, .int .i64 T, .slice A n c] := Blk.new _ _ _
    have hSI := hide (SimpleS_any W T A n c B bs _ (hr.below (hb0.mono hB)) (Nat.le_trans hB hb0.size) hn)
    have hT2 := fun w' (h : Below w.heap.size w w') => hide (tilingOkS_any W T A n c B bs L2 D2 m2 d2 w' hbl hL2 (hr.below (h.mono hB)) (h2.below (h.mono hB)) (Nat.le_trans hB h.size) hn hm2)
    cases hs : simpleB W T bs with
    | false =>
      rw [hs] at hSI
      clear hs h hT2 hr h2 k0
      go_enter Try.func42, Try.ntmps42
      go_wp2_with fail
      refine (unhide hSI).mono ?_
      rintro e w1 ⟨rfl, hb1⟩
      go_wp2_with fail
      go_ret
      exact ⟨rfl, hb0.trans (hb1.mono hb0.size)⟩
    | true =>
      obtain ⟨R, hR, rfl, rfl, rfl, hS⟩ := simple_cases hs
      subst hbl
      rw [hs] at hSI
      have hCM := fun w' (h : Below w.heap.size w w') => hide (cellsManyS_ok R hR A c B w' (hr.below (h.mono hB)) (Nat.le_trans hB h.size))
      cases ht : tilingB R.W R.T R.C L2 with
      | false =>
        simp only [ht] at hT2
        clear hs h ht hr h2 hCM
        go_enter Try.func42, Try.ntmps42
        go_wp2_with fail
        refine (unhide hSI).mono ?_
        rintro e w1 ⟨rfl, hb1⟩
        have hB1 := hb0.trans (hb1.mono hb0.size)
        obtain ⟨b0, b1, b2⟩ := blk3 (k0.below hb1 k0.lt)
        have hT3 := hT2 _ hB1
        clear hb1 hb0 k0 hSI hT2
        go_wp2_with fail
        refine (unhide hT3).mono ?_
        rintro e w2 ⟨rfl, hb2⟩
        go_wp2_with fail
        go_ret
        exact ⟨rfl, hB1.trans (hb2.mono hB1.size)⟩
      | true =>
        simp only [ht] at hT2
        have hgt : ¬ cnt R.C ≤ 16 := fun hc => h ⟨by unfold tiledB; rw [hs, ht]; rfl, hc⟩
        generalize cnt R.C = cb at *
        have hg2 : decide ((16 : Int) < (cb : Int)) = true := decide_eq_true (by omega)
        clear hs h ht hr h2
        go_enter Try.func42, Try.ntmps42
        go_wp2_with fail
        refine (unhide hSI).mono ?_
        rintro e w1 ⟨rfl, hb1⟩
        have hB1 := hb0.trans (hb1.mono hb0.size)
        have k1 := k0.below hb1 k0.lt
        obtain ⟨b0, b1, b2⟩ := blk3 k1
        have hT3 := hT2 _ hB1
        clear hb1 hb0 k0 hSI hT2
        go_wp2_with fail
        refine (unhide hT3).mono ?_
        rintro e w2 ⟨rfl, hb2⟩
        have hB2 := hB1.trans (hb2.mono hB1.size)
        clear b0 b1 b2
        obtain ⟨b0, b1, b2⟩ := blk3 (k1.below hb2 k1.lt)
        have hC3 := hCM _ hB2
        clear k1 hB1 hb2 hT3 hCM
        go_wp2_with fail
        refine (unhide hC3).mono ?_
        rintro e w3 ⟨rfl, hb3⟩
        go_wp2_with fail
        go_ret
        exact ⟨rfl, hB2.trans (hb3.mono hB2.size)⟩

end Go.Proofs.Ytldnccdlpagodaa
