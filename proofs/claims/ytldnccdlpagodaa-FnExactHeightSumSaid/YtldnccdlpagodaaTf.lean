/-
  YtldnccdlpagodaaTf: TilingsAll of the reference; HeightSum.
-/
import Derived.Test.YtldnccdlpagodaaTe
import Derived.Test.YtldnccdlpagodaaPVI
namespace Go.Proofs.Ytldnccdlpagodaa
open Go.RowKit

set_option maxHeartbeats 1000000 in
set_option maxRecDepth 20000 in
theorem tilingsAllS_ok (R : Reg) (hR : R.ok) (A : Option Addr) (c B : Nat) (w : World) (hr : Reads w B 1 A R.C.length (R.C.map Value.bool)) (hB : B ≤ w.heap.size) :
    Calls Try.prog 67 #[.agg #[.int .i64 R.W, .int .i64 R.T, .slice A R.C.length c]] w (RowsAt w.heap.size w R.C.length (tilT R)) := by
  have hl36 := (len_bd hR).2
  have HV := hide (validS_any R.W R.T A R.C.length c B R.C (w.alloc (boxR R.W R.T A R.C.length c)) (hr.alloc hB _) (by simp; omega) (by omega))
  rw [valid_of_ok hR] at HV
  have hLB := fun w' (h : Below w.heap.size w w') => hide (laidBareS_ok R hR A c B w' (hr.below (h.mono hB)) (Nat.le_trans hB h.size))
  have hAL : ∀ w' (g d : Nat), Below w.heap.size w w' → w'.ownsRow w.heap.size 3 1 (.slice (some ⟨g, 0, none⟩) R.C.length R.C.length) R.C.length ((List.replicate R.C.length (0 : Int)).map (Value.int .i64)) → Hid (Calls Try.prog 112 #[.agg #[.int .i64 R.W, .int .i64 R.T, .slice A R.C.length c], .slice (some ⟨g, 0, none⟩) R.C.length d] w' (RowsAt w.heap.size w' R.C.length (tilT R))) := fun w' g d h ho =>
    hide (allS_any R hR A c B w.heap.size hB 18 (bare R) g R.C.length d w' (Nat.le_refl _) (lay_bare hR) (opN_bare hR) (hr.below (h.mono hB)) h.size ho)
  clear hr
  generalize tilT R = TT at *
  go_enter Try.func67, Try.ntmps67
  go_wp2_with fail
  refine (unhide HV).mono ?_
  rintro e w1 ⟨rfl, hb1⟩
  obtain ⟨hB1, hk1, b0, b1, b2⟩ := box_keep hb1
  clear hb1 HV
  have hLB1 := hLB _ hB1.drew
  go_upto_region 3 with fail
  go_region_with
    (first
      | (go_at_call 113; (with_reducible refine (unhide hLB1).mono ?_); rintro e w2 ⟨g2, rfl, ho2, hb2⟩; have d0 := cell_kept (w := w1.drew) b0 hb2; have d1 := cell_kept (w := w1.drew) b1 hb2; have d2 := cell_kept (w := w1.drew) b2 hb2; have hB2 := hB1.drew.trans (hb2.mono hB1.drew.size); have ho3 := own_mono ho2 hB1.drew.size; have hA2 := hAL w2 g2 R.C.length hB2 ho3)
      | (go_at_call 112; (with_reducible refine (unhide hA2).mono ?_); rintro e w3 ⟨A3, c3, xs3, rfl, hR3, hb3, hn3⟩))
  all_goals
    have hB3 := hB2.trans (hb3.mono hB2.size)
    clear hLB hAL hLB1 hA2 d0 d1 d2 b0 b1 b2 ho2 ho3 hb2 hB1
    go_wp2_with fail
    go_ret
    exact ⟨A3, c3, xs3, rfl, hR3, hB3, fun k hk => Nat.le_trans hB2.size (hn3 k hk)⟩

/-- The sum of a corner's heights over tilings. -/
noncomputable def hAt (R : Reg) (k : Nat) (M : List Int) : Int := if (htsOf R.W R.T R.C M).getD k 0 = 99 then 0 else (htsOf R.W R.T R.C M).getD k 0
noncomputable def hsTo (R : Reg) (k n : Nat) : Int := (((tilT R).take n).map (hAt R k)).sum
theorem hsTo_succ {R : Reg} {k n : Nat} {M : List Int} (h : (tilT R)[n]? = some M) : hsTo R k (n + 1) = hsTo R k n + hAt R k M := by
  unfold hsTo
  rw [List.take_add_one, h, List.map_append, List.sum_append]
  simp
theorem hAt_bd (R : Reg) (k : Nat) (M : List Int) : -51 ≤ hAt R k M ∧ hAt R k M ≤ 99 := by
  unfold hAt
  split
  · omega
  · by_cases hk : k < (htsOf R.W R.T R.C M).length
    · exact htsOf_bd _ (by rw [List.getD_eq_getElem?_getD, List.getElem?_eq_getElem hk]; exact List.getElem_mem hk)
    · rw [List.getD_eq_getElem?_getD, List.getElem?_eq_none (by omega)]; simp
theorem hsTo_bd (R : Reg) (k : Nat) : ∀ n : Nat, -51 * (n : Int) ≤ hsTo R k n ∧ hsTo R k n ≤ 99 * (n : Int)
  | 0 => by simp [hsTo]
  | n + 1 => by
    have ih := hsTo_bd R k n
    cases h : (tilT R)[n]? with
    | none =>
      have : hsTo R k (n + 1) = hsTo R k n := by unfold hsTo; rw [List.take_add_one, h]; simp
      omega
    | some M =>
      rw [hsTo_succ h]
      have := hAt_bd R k M
      omega
noncomputable def hsmV (W T : Int) (bs : List Bool) (k : Int) : Int := if simpleB W T bs = true ∧ inB k 0 (cornersB W T bs - 1) = true then hsTo ⟨W.toNat, T.toNat, bs⟩ k.toNat (tilT ⟨W.toNat, T.toNat, bs⟩).length else -1000000

set_option maxHeartbeats 2000000 in
set_option maxRecDepth 20000 in
theorem heightSumI_ok (R : Reg) (hR : R.ok) (hS : SimpleP R) (hs : simpleB R.W R.T R.C = true) (A : Option Addr) (c B : Nat) (q : Nat) (hq : q < R.cn) (w : World) (hr : Reads w B 1 A R.C.length (R.C.map Value.bool)) (hB : B ≤ w.heap.size) :
    Calls Try.prog 24 #[.agg #[.int .i64 R.W, .int .i64 R.T, .slice A R.C.length c], .int .i64 (q : Nat)] w fun e w' => e = .returned (.int .i64 (hsTo R q (tilT R).length)) ∧ Below w.heap.size w w' := by
  have hl36 := (len_bd hR).2
  have hl1 := (len_bd hR).1
  have hcn := cn_bd hR
  have hSI := fun w' (h : Below w.heap.size w w') => hide (SimpleI_any R.W R.T A R.C.length c B R.C w' (hr.below (h.mono hB)) (Nat.le_trans hB h.size) (by omega))
  simp only [hs] at hSI
  have hCO := fun w' => hide (cornersN_any R hR A R.C.length c w')
  have I1 : inB (q : Int) 0 ((R.cn : Int) - 1) = true := inB_t (by omega)
  have hTI := fun w' (h : Below w.heap.size w w') => hide (tilings_any R hR A c B w' (hr.below (h.mono hB)) (Nat.le_trans hB h.size))
  have hHT : ∀ (M : List Int) (g d : Nat) w', Tile R M → Below w.heap.size w w' → Reads w' w'.heap.size 1 (some ⟨g, 0, none⟩) R.C.length (M.map (Value.int .i64)) → Hid (Calls Try.prog 54 #[.agg #[.int .i64 R.W, .int .i64 R.T, .slice A R.C.length c], .slice (some ⟨g, 0, none⟩) R.C.length d] w' fun e w'' => ∃ g2, e = .returned (.slice (some ⟨g2, 0, none⟩) R.cn R.cn) ∧ w''.cell? ⟨g2, q, none⟩ = some (.int .i64 ((htsOf R.W R.T R.C M).getD q 0)) ∧ Below w'.heap.size w' w'') := fun M g d w' hM h ha => by
    have hH := hts_of_tile hR hS hM
    have := heights_any R hR hS A c w'.heap.size M (some ⟨g, 0, none⟩) d hM.1 hM.2 _ hH w' ((hr.below (h.mono hB)).more (Nat.le_trans hB h.size)) (by rw [hM.1.len]; exact ha) (Nat.le_refl _)
    rw [hM.1.len] at this
    refine hide (this.mono ?_)
    rintro e w'' ⟨g2, rfl, ho, hb⟩
    rw [hH.len] at ho ⊢
    exact ⟨g2, rfl, by rw [ho.cellAt q (by omega), List.getElem?_map, List.getD_eq_getElem?_getD, List.getElem?_eq_getElem (by rw [hH.len]; exact hq)]; rfl, hb⟩
  have hTl : ∀ (k : Nat) (M : List Int), (tilT R)[k]? = some M → Tile R M := fun k M h => (tilT_iff hR).1 (List.mem_of_getElem? h)
  have HTL := Lib.hid hTl
  have hsu := fun n M h => hsTo_succ (R := R) (k := q) (n := n) (M := M) h
  have HSU := Lib.hid hsu
  have hbd := fun n => hsTo_bd R q n
  have HBD := Lib.hid hbd
  have hat : ∀ M, hAt R q M = if (htsOf R.W R.T R.C M).getD q 0 = 99 then 0 else (htsOf R.W R.T R.C M).getD q 0 := fun _ => rfl
  have HAT := Lib.hid hat
  have hbA := fun M => hAt_bd R q M
  have HBA := Lib.hid hbA
  have hnl := tilT_len R
  have HNL := Lib.hid hnl
  have hb0 : Below w.heap.size w (w.alloc (boxR R.W R.T A R.C.length c)) := (Below.refl _ _).alloc (Nat.le_refl _) _
  have k0 : Blk (w.alloc (boxR R.W R.T A R.C.length c)) w.heap.size 29 #[.int .i64 R.W, .int .i64 R.T, .slice A R.C.length c] := Blk.new _ _ _
  clear hTl hsu hbd hat hnl hbA hr hs
  generalize tilT R = TT at *
  go_enter Try.func24, Try.ntmps24
  go_wp2_with fail
  refine (unhide (hSI _ hb0)).mono ?_
  rintro e w1 ⟨rfl, hb1⟩
  have hB1 := hb0.trans (hb1.mono hb0.size)
  have k1 := k0.below hb1 k0.lt
  obtain ⟨b0, b1, b2⟩ := blk3 k1
  clear k0 hb0 hb1 hSI
  go_wp2_with fail
  refine (unhide (hCO _)).mono ?_
  rintro e w2 ⟨rfl, hb2⟩
  have hB2 := hB1.trans (hb2.mono hB1.size)
  have k2 := k1.below hb2 k1.lt
  clear b0 b1 b2 k1 hb2 hB1 hCO
  obtain ⟨b0, b1, b2⟩ := blk3 k2
  go_wp2_with (go_at_call 69; refine (in_any _ _ _ _).mono ?_; rintro e w' ⟨rfl, rfl⟩; rw [I1])
  refine (unhide (hTI _ hB2)).mono ?_
  rintro e w3 ⟨A3, c3, c3', xs, rfl, hR3, hb3⟩
  have hB3 := hB2.trans (hb3.mono hB2.size)
  have k3 := k2.below hb3 k2.lt
  have hR3' := hR3.mono (b' := 0) (by omega)
  clear b0 b1 b2 k2 hb3 hB2 hTI hR3
  go_wp2_with fail
  go_loopg [5, 23] TT.length (fun r s5 s23 wr => ∃ k : Nat, k + r = TT.length ∧ s23 = .int .i64 (k : Nat) ∧ s5 = .int .i64 (hsTo R q k) ∧ Below w.heap.size w wr ∧ Blk wr w.heap.size 29 #[.int .i64 R.W, .int .i64 R.T, .slice A R.C.length c] ∧ RowsOf wr 0 R.C.length (.slice A3 TT.length c3) xs TT)
  case atStart => exact ⟨0, by omega, rfl, by simp [hsTo], hB3, k3, hR3'⟩
  case round =>
    clear hR3' k3 hB3
    obtain ⟨k, hk, rfl, rfl, hB, hbk, hrow⟩ := hrel
    have HK := Lib.hid hk
    clear hk
    have hbdk := HBD.out k
    by_cases hlt : k < TT.length
    · obtain ⟨x, M, hx, hM, hin⟩ := hrow.at_ hlt
      obtain ⟨gx, cx, rfl, hrx⟩ := hin.reads
      have hTM := HTL.out k M hM
      have hown := hrow.own
      rw [hrow.len] at hown
      have hxl := (List.getElem?_eq_some_iff.1 hx).1
      obtain ⟨g3, cg3, hsh3, _, _, _⟩ := own_shape hown (by omega)
      simp only [Value.slice.injEq, true_and] at hsh3
      obtain ⟨rfl, rfl⟩ := hsh3
      have hxc : wr.cell? ⟨g3, k, none⟩ = some (.slice (some ⟨gx, 0, none⟩) R.C.length cx) := by rw [hown.cellAt k (by omega)]; exact hx
      have hHk := hHT M gx cx wr hTM hB hrx
      have hs1 := HSU.out k M hM
      have hat1 := HAT.out M
      have hba1 := HBA.out M
      rw [hat1] at hs1 hba1
      have hbdk1 := HBD.out (k + 1)
      have HS1 := Lib.hid hs1
      have hnl := HNL.out
      generalize (htsOf R.W R.T R.C M).getD q 0 = h at *
      obtain ⟨b0, b1, b2⟩ := blk3 hbk
      clear hat1 hs1 hM hx hown hxl hin hrx hTM
      go_wp2_with fail
      refine (unhide hHk).mono ?_
      rintro e w4 ⟨g4, rfl, hc4, hb4⟩
      have hB4 := hB.trans (hb4.mono hB.size)
      have k4 := hbk.below hb4 hbk.lt
      have hrow4 := hrow.below hb4
      clear b0 b1 b2 hxc hB hbk hrow hb4 hHk
      by_cases h99 : h = 99
      · subst h99
        have HE : Hid (hsTo R q (k + 1) = hsTo R q k) := Lib.hid (by have e := HS1.out; rw [if_pos rfl] at e; omega)
        clear HS1 hba1
        go_wp2_with fail
        go_roundg (TT.length - (k + 1))
        case measure => have := HK.out; omega
        case rel => exact ⟨k + 1, by have := HK.out; omega, by go_num, by rw [HE.out], hB4, k4, hrow4⟩
      · have hne : (h != 99) = true := by simpa using h99
        have HE : Hid (hsTo R q (k + 1) = hsTo R q k + h) := Lib.hid (by rw [HS1.out, if_neg h99])
        rw [if_neg h99] at hba1
        have hw := IntWalk.wrap64_in (hsTo R q k + h) (by omega)
        clear HS1 h99
        go_wp2_with fail
        go_roundg (TT.length - (k + 1))
        case measure => have := HK.out; omega
        case rel => exact ⟨k + 1, by have := HK.out; omega, by go_num, congrArg (Value.int .i64) (by rw [HE.out]), hB4, k4, hrow4⟩
    · obtain rfl : k = TT.length := by have := HK.out; omega
      go_wp2_with fail
      go_ret
      exact ⟨rfl, hB⟩


set_option maxHeartbeats 2000000 in
set_option maxRecDepth 20000 in
theorem heightSumS_ok (R : Reg) (hR : R.ok) (hS : SimpleP R) (hs : simpleB R.W R.T R.C = true) (A : Option Addr) (c B : Nat) (q : Nat) (hq : q < R.cn) (w : World) (hr : Reads w B 1 A R.C.length (R.C.map Value.bool)) (hB : B ≤ w.heap.size) :
    Calls Try.prog 23 #[.agg #[.int .i64 R.W, .int .i64 R.T, .slice A R.C.length c], .int .i64 (q : Nat)] w fun e w' => e = .returned (.int .i64 (hsTo R q (tilT R).length)) ∧ Below w.heap.size w w' := by
  have hl36 := (len_bd hR).2
  have hl1 := (len_bd hR).1
  have hcn := cn_bd hR
  have hSI := fun w' (h : Below w.heap.size w w') => hide (SimpleS_any R.W R.T A R.C.length c B R.C w' (hr.below (h.mono hB)) (Nat.le_trans hB h.size) (by omega))
  simp only [hs] at hSI
  have hCO := fun w' (h : Below w.heap.size w w') => hide (cornerManySN_ok R hR A c B w' (hr.below (h.mono hB)) (Nat.le_trans hB h.size))
  have I1 : inB (q : Int) 0 ((R.cn : Int) - 1) = true := inB_t (by omega)
  have hTI := fun w' (h : Below w.heap.size w w') => hide (tilingsAllS_ok R hR A c B w' (hr.below (h.mono hB)) (Nat.le_trans hB h.size))
  have hHT : ∀ (M : List Int) (g d : Nat) w', Tile R M → Below w.heap.size w w' → Reads w' w'.heap.size 1 (some ⟨g, 0, none⟩) R.C.length (M.map (Value.int .i64)) → Hid (Calls Try.prog 48 #[.agg #[.int .i64 R.W, .int .i64 R.T, .slice A R.C.length c], .slice (some ⟨g, 0, none⟩) R.C.length d] w' fun e w'' => ∃ g2 c2, e = .returned (.slice (some ⟨g2, 0, none⟩) R.cn c2) ∧ w''.cell? ⟨g2, q, none⟩ = some (.int .i64 ((htsOf R.W R.T R.C M).getD q 0)) ∧ Below w'.heap.size w' w'') := fun M g d w' hM h ha => by
    have hH := hts_of_tile hR hS hM
    refine hide ((heightsOfS_any R.W R.T A R.C.length c w'.heap.size R.C M (some ⟨g, 0, none⟩) R.C.length d w' rfl hM.1.len ((hr.below (h.mono hB)).more (Nat.le_trans hB h.size)) ha (Nat.le_refl _) (by omega) (by omega)).mono ?_)
    rintro e w'' h'
    obtain ⟨A1, c1, c2, rfl, ho, hb⟩ := ret_own h'
    rw [hH.len] at ho ⊢
    obtain ⟨g2, cg, hsh, _, _, _⟩ := own_shape ho (by omega)
    simp only [Value.slice.injEq, true_and] at hsh
    obtain ⟨rfl, rfl⟩ := hsh
    exact ⟨g2, _, rfl, by rw [ho.cellAt q (by omega), List.getElem?_map, List.getD_eq_getElem?_getD, List.getElem?_eq_getElem (by rw [hH.len]; exact hq)]; rfl, hb⟩
  have hTl : ∀ (k : Nat) (M : List Int), (tilT R)[k]? = some M → Tile R M := fun k M h => (tilT_iff hR).1 (List.mem_of_getElem? h)
  have HTL := Lib.hid hTl
  have hsu := fun n M h => hsTo_succ (R := R) (k := q) (n := n) (M := M) h
  have HSU := Lib.hid hsu
  have hbd := fun n => hsTo_bd R q n
  have HBD := Lib.hid hbd
  have hat : ∀ M, hAt R q M = if (htsOf R.W R.T R.C M).getD q 0 = 99 then 0 else (htsOf R.W R.T R.C M).getD q 0 := fun _ => rfl
  have HAT := Lib.hid hat
  have hbA := fun M => hAt_bd R q M
  have HBA := Lib.hid hbA
  have hnl := tilT_len R
  have HNL := Lib.hid hnl
  have hb0 : Below w.heap.size w (w.alloc (boxR R.W R.T A R.C.length c)) := (Below.refl _ _).alloc (Nat.le_refl _) _
  have k0 : Blk (w.alloc (boxR R.W R.T A R.C.length c)) w.heap.size 29 #[.int .i64 R.W, .int .i64 R.T, .slice A R.C.length c] := Blk.new _ _ _
  clear hTl hsu hbd hat hnl hbA hr hs
  generalize tilT R = TT at *
  go_enter Try.func23, Try.ntmps23
  go_wp2_with fail
  refine (unhide (hSI _ hb0)).mono ?_
  rintro e w1 ⟨rfl, hb1⟩
  have hB1 := hb0.trans (hb1.mono hb0.size)
  have k1 := k0.below hb1 k0.lt
  obtain ⟨b0, b1, b2⟩ := blk3 k1
  clear k0 hb0 hb1 hSI
  go_wp2_with fail
  refine (unhide (hCO _ hB1)).mono ?_
  rintro e w2 ⟨rfl, hb2⟩
  have hB2 := hB1.trans (hb2.mono hB1.size)
  have k2 := k1.below hb2 k1.lt
  clear b0 b1 b2 k1 hb2 hB1 hCO
  obtain ⟨b0, b1, b2⟩ := blk3 k2
  go_wp2_with (go_at_call 65; refine (l1In_any _ _ _ _).mono ?_; rintro e w' ⟨rfl, rfl⟩; rw [I1])
  refine (unhide (hTI _ hB2)).mono ?_
  rintro e w3 ⟨A3, c3, xs, rfl, hR3, hb3, _⟩
  have hB3 := hB2.trans (hb3.mono hB2.size)
  have k3 := k2.below hb3 k2.lt
  have hR3' := hR3.mono (b' := 0) (by omega)
  clear b0 b1 b2 k2 hb3 hB2 hTI hR3
  go_wp2_with fail
  go_loopg [5, 7] TT.length (fun r s5 s7 wr => ∃ k : Nat, k + r = TT.length ∧ s7 = .int .i64 (k : Nat) ∧ s5 = .int .i64 (hsTo R q k) ∧ Below w.heap.size w wr ∧ Blk wr w.heap.size 29 #[.int .i64 R.W, .int .i64 R.T, .slice A R.C.length c] ∧ RowsOf wr 0 R.C.length (.slice A3 TT.length c3) xs TT)
  case atStart => exact ⟨0, by omega, rfl, by simp [hsTo], hB3, k3, hR3'⟩
  case round =>
    clear hR3' k3 hB3
    obtain ⟨k, hk, rfl, rfl, hB, hbk, hrow⟩ := hrel
    have HK := Lib.hid hk
    clear hk
    have hbdk := HBD.out k
    by_cases hlt : k < TT.length
    · obtain ⟨x, M, hx, hM, hin⟩ := hrow.at_ hlt
      obtain ⟨gx, cx, rfl, hrx⟩ := hin.reads
      have hTM := HTL.out k M hM
      have hown := hrow.own
      rw [hrow.len] at hown
      have hxl := (List.getElem?_eq_some_iff.1 hx).1
      obtain ⟨g3, cg3, hsh3, _, _, _⟩ := own_shape hown (by omega)
      simp only [Value.slice.injEq, true_and] at hsh3
      obtain ⟨rfl, rfl⟩ := hsh3
      have hxc : wr.cell? ⟨g3, k, none⟩ = some (.slice (some ⟨gx, 0, none⟩) R.C.length cx) := by rw [hown.cellAt k (by omega)]; exact hx
      have hHk := hHT M gx cx wr.drew hTM hB.drew hrx
      have hs1 := HSU.out k M hM
      have hat1 := HAT.out M
      have hba1 := HBA.out M
      rw [hat1] at hs1 hba1
      have hbdk1 := HBD.out (k + 1)
      have HS1 := Lib.hid hs1
      have hnl := HNL.out
      generalize (htsOf R.W R.T R.C M).getD q 0 = h at *
      obtain ⟨b0, b1, b2⟩ := blk3 hbk
      clear hat1 hs1 hM hx hown hxl hin hrx hTM
      go_upto_region 8 with fail
      go_region_with
        (first
          | (go_at_call 48; (with_reducible refine (unhide hHk).mono ?_); rintro e w4 ⟨g4, c4, rfl, hc4, hb4⟩))
      all_goals
        have hB4 := hB.drew.trans (hb4.mono hB.drew.size)
        have k4 := hbk.drew.below hb4 hbk.drew.lt
        have hrow4 := (hrow.below (Below.refl wr.heap.size wr).drew).below hb4
        clear b0 b1 b2 hxc hB hbk hrow hb4 hHk
        by_cases h99 : h = 99
        · subst h99
          have HE : Hid (hsTo R q (k + 1) = hsTo R q k) := Lib.hid (by have e := HS1.out; rw [if_pos rfl] at e; omega)
          clear HS1 hba1
          go_wp2_with fail
          go_roundg (TT.length - (k + 1))
          case measure => have := HK.out; omega
          case rel => exact ⟨k + 1, by have := HK.out; omega, by go_num, by rw [HE.out], hB4, k4, hrow4⟩
        · have hne : (h != 99) = true := by simpa using h99
          have HE : Hid (hsTo R q (k + 1) = hsTo R q k + h) := Lib.hid (by rw [HS1.out, if_neg h99])
          rw [if_neg h99] at hba1
          have hw := IntWalk.wrap64_in (hsTo R q k + h) (by omega)
          clear HS1 h99
          go_wp2_with fail
          go_roundg (TT.length - (k + 1))
          case measure => have := HK.out; omega
          case rel => exact ⟨k + 1, by have := HK.out; omega, by go_num, congrArg (Value.int .i64) (by rw [HE.out]), hB4, k4, hrow4⟩
    · obtain rfl : k = TT.length := by have := HK.out; omega
      go_wp2_with fail
      go_ret
      exact ⟨rfl, hB⟩

theorem simple_cases {W T : Int} {bs : List Bool} (h : simpleB W T bs = true) : ∃ R : Reg, R.ok ∧ W = (R.W : Int) ∧ T = (R.T : Int) ∧ bs = R.C ∧ SimpleP R := by
  have hv : validB W T bs = true := by
    cases hv : validB W T bs with
    | true => rfl
    | false => rw [simpleB_no hv] at h; cases h
  obtain ⟨R, hR, rfl, rfl, rfl⟩ := reg_of_valid hv
  exact ⟨R, hR, rfl, rfl, rfl, (simple_of hR).1 h⟩
theorem hsmV_no {W T : Int} {bs : List Bool} {k : Int} (h : ¬ (simpleB W T bs = true ∧ inB k 0 (cornersB W T bs - 1) = true)) : hsmV W T bs k = -1000000 := by unfold hsmV; exact if_neg h
theorem hsmV_yes {R : Reg} {k : Int} (h : simpleB R.W R.T R.C = true) (g : inB k 0 (cornersB R.W R.T R.C - 1) = true) : hsmV R.W R.T R.C k = hsTo R k.toNat (tilT R).length := by unfold hsmV; rw [if_pos ⟨h, g⟩]; rfl

theorem heightSumI_any (W T : Int) (A : Option Addr) (n c B : Nat) (bs : List Bool) (k : Int) (w : World) (hbl : bs.length = n) (hr : Reads w B 1 A n (bs.map Value.bool)) (hB : B ≤ w.heap.size) (hn : n ≤ 9223372036854775807) :
    Calls Try.prog 24 #[.agg #[.int .i64 W, .int .i64 T, .slice A n c], .int .i64 k] w fun e w' => e = .returned (.int .i64 (hsmV W T bs k)) ∧ Below w.heap.size w w' := by
  have hb0 : Below w.heap.size w (w.alloc (boxR W T A n c)) := (Below.refl _ _).alloc (Nat.le_refl _) _
  have k0 : Blk (w.alloc (boxR W T A n c)) w.heap.size 29 #[.int .i64 W, .int .i64 T, .slice A n c] := Blk.new _ _ _
  have hSI := hide (SimpleI_any W T A n c B bs _ (hr.below (hb0.mono hB)) (Nat.le_trans hB hb0.size) hn)
  cases hs : simpleB W T bs with
  | false =>
    rw [hs] at hSI
    rw [hsmV_no (by rw [hs]; simp)]
    clear hs k0
    go_enter Try.func24, Try.ntmps24
    go_wp2_with fail
    refine (unhide hSI).mono ?_
    rintro e w1 ⟨rfl, hb1⟩
    go_wp2_with fail
    go_ret
    exact ⟨rfl, hb0.trans (hb1.mono hb0.size)⟩
  | true =>
    obtain ⟨R, hR, rfl, rfl, rfl, hS⟩ := simple_cases hs
    subst hbl
    have hcn := cn_bd hR
    cases hin : inB k 0 (cornersB R.W R.T R.C - 1) with
    | true =>
      rw [hsmV_yes hs hin]
      rw [cornersB_ok hR, show R.corners = R.cn from rfl] at hin
      unfold inB at hin
      rw [decide_eq_true_eq] at hin
      obtain ⟨q, rfl⟩ := Int.eq_ofNat_of_zero_le hin.1
      exact heightSumI_ok R hR hS hs A c B q (by omega) w hr hB
    | false =>
      rw [hsmV_no (by rw [hin]; simp)]
      rw [hs] at hSI
      rw [cornersB_ok hR, show R.corners = R.cn from rfl] at hin
      have HIN := Lib.hid hin
      have hCO := fun w' => hide (cornersN_any R hR A R.C.length c w')
      clear hs hin hS
      go_enter Try.func24, Try.ntmps24
      go_wp2_with fail
      refine (unhide hSI).mono ?_
      rintro e w1 ⟨rfl, hb1⟩
      have hB1 := hb0.trans (hb1.mono hb0.size)
      obtain ⟨b0, b1, b2⟩ := blk3 (k0.below hb1 k0.lt)
      clear k0 hb0 hb1 hSI
      go_wp2_with fail
      refine (unhide (hCO _)).mono ?_
      rintro e w2 ⟨rfl, hb2⟩
      go_wp2_with (go_at_call 69; refine (in_any _ _ _ _).mono ?_; rintro e w' ⟨rfl, rfl⟩; rw [HIN.out])
      go_ret
      exact ⟨rfl, hB1.trans (hb2.mono hB1.size)⟩

theorem heightSumS_any (W T : Int) (A : Option Addr) (n c B : Nat) (bs : List Bool) (k : Int) (w : World) (hbl : bs.length = n) (hr : Reads w B 1 A n (bs.map Value.bool)) (hB : B ≤ w.heap.size) (hn : n ≤ 9223372036854775807) :
    Calls Try.prog 23 #[.agg #[.int .i64 W, .int .i64 T, .slice A n c], .int .i64 k] w fun e w' => e = .returned (.int .i64 (hsmV W T bs k)) ∧ Below w.heap.size w w' := by
  have hb0 : Below w.heap.size w (w.alloc (boxR W T A n c)) := (Below.refl _ _).alloc (Nat.le_refl _) _
  have k0 : Blk (w.alloc (boxR W T A n c)) w.heap.size 29 #[.int .i64 W, .int .i64 T, .slice A n c] := Blk.new _ _ _
  have hSI := hide (SimpleS_any W T A n c B bs _ (hr.below (hb0.mono hB)) (Nat.le_trans hB hb0.size) hn)
  cases hs : simpleB W T bs with
  | false =>
    rw [hs] at hSI
    rw [hsmV_no (by rw [hs]; simp)]
    clear hs k0
    go_enter Try.func23, Try.ntmps23
    go_wp2_with fail
    refine (unhide hSI).mono ?_
    rintro e w1 ⟨rfl, hb1⟩
    go_wp2_with fail
    go_ret
    exact ⟨rfl, hb0.trans (hb1.mono hb0.size)⟩
  | true =>
    obtain ⟨R, hR, rfl, rfl, rfl, hS⟩ := simple_cases hs
    subst hbl
    have hcn := cn_bd hR
    cases hin : inB k 0 (cornersB R.W R.T R.C - 1) with
    | true =>
      rw [hsmV_yes hs hin]
      rw [cornersB_ok hR, show R.corners = R.cn from rfl] at hin
      unfold inB at hin
      rw [decide_eq_true_eq] at hin
      obtain ⟨q, rfl⟩ := Int.eq_ofNat_of_zero_le hin.1
      exact heightSumS_ok R hR hS hs A c B q (by omega) w hr hB
    | false =>
      rw [hsmV_no (by rw [hin]; simp)]
      rw [hs] at hSI
      rw [cornersB_ok hR, show R.corners = R.cn from rfl] at hin
      have HIN := Lib.hid hin
      have hCO := fun w' (h : Below w.heap.size w w') => hide (cornerManySN_ok R hR A c B w' (hr.below (h.mono hB)) (Nat.le_trans hB h.size))
      clear hs hin hS
      go_enter Try.func23, Try.ntmps23
      go_wp2_with fail
      refine (unhide hSI).mono ?_
      rintro e w1 ⟨rfl, hb1⟩
      have hB1 := hb0.trans (hb1.mono hb0.size)
      obtain ⟨b0, b1, b2⟩ := blk3 (k0.below hb1 k0.lt)
      clear k0 hb0 hb1 hSI
      go_wp2_with fail
      refine (unhide (hCO _ hB1)).mono ?_
      rintro e w2 ⟨rfl, hb2⟩
      go_wp2_with (go_at_call 65; refine (l1In_any _ _ _ _).mono ?_; rintro e w' ⟨rfl, rfl⟩; rw [HIN.out])
      go_ret
      exact ⟨rfl, hB1.trans (hb2.mono hB1.size)⟩

end Go.Proofs.Ytldnccdlpagodaa
