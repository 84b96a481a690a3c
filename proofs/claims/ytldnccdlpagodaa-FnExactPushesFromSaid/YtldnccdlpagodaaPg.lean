/-
  YtldnccdlpagodaaPg: PushesFrom of the program and of the reference, any input.
-/
import Derived.Test.YtldnccdlpagodaaPf
namespace Go.Proofs.Ytldnccdlpagodaa
open Go.RowKit

theorem pushesFromI_any (W T : Int) (A : Option Addr) (n c B : Nat) (bs : List Bool) (L1 : List Int) (D1 : Option Addr) (m1 d1 : Nat) (L2 : List Int) (D2 : Option Addr) (m2 d2 : Nat) (w : World) (hbl : bs.length = n) (hL1 : L1.length = m1) (hL2 : L2.length = m2)
    (hF1 : L1 ≠ [] → ∃ ga, D1 = some ⟨ga, 0, none⟩) (hF : L2 ≠ [] → ∃ gb, D2 = some ⟨gb, 0, none⟩)
    (hr : Reads w B 1 A n (bs.map Value.bool)) (h1 : Reads w B 1 D1 m1 (L1.map (Value.int .i64))) (h2 : Reads w B 1 D2 m2 (L2.map (Value.int .i64))) (hB : B ≤ w.heap.size) (hn : n ≤ 9223372036854775807) (hm1 : m1 ≤ 9223372036854775807) (hm2 : m2 ≤ 9223372036854775807) :
    Calls Try.prog 41 #[.agg #[.int .i64 W, .int .i64 T, .slice A n c], .slice D1 m1 d1, .slice D2 m2 d2] w fun e w' => e = .returned (.int .i64 (pfV W T bs L1 L2)) ∧ Below w.heap.size w w' := by
  have hT1 := hide (tiled_any W T A n c B bs L1 D1 m1 d1 (w.alloc (boxR W T A n c)) hbl hL1 (hr.alloc hB _) (h1.alloc hB _) (by simp; omega) hn hm1)
  have hT2 := fun w' (h : Below w.heap.size w w') => hide (tiled_any W T A n c B bs L2 D2 m2 d2 w' hbl hL2 (hr.below (h.mono hB)) (h2.below (h.mono hB)) (Nat.le_trans hB h.size) hn hm2)
  cases ht1 : tiledB W T bs L1 with
  | false =>
    simp only [ht1] at hT1
    rw [pfV_no (by rw [ht1]; simp)]
    clear ht1 hT2
    go_enter Try.func41, Try.ntmps41
    go_wp2_with fail
    refine (unhide hT1).mono ?_
    rintro e w0 ⟨rfl, hb0⟩
    obtain ⟨hB0, hk0, b0, b1, b2⟩ := box_keep hb0
    go_wp2_with fail
    go_ret
    exact ⟨rfl, hB0⟩
  | true =>
    cases ht2 : tiledB W T bs L2 with
    | false =>
      simp only [ht1] at hT1
      simp only [ht2] at hT2
      rw [pfV_no (by rw [ht2]; simp)]
      clear ht1 ht2
      go_enter Try.func41, Try.ntmps41
      go_wp2_with fail
      refine (unhide hT1).mono ?_
      rintro e w0 ⟨rfl, hb0⟩
      obtain ⟨hB0, hk0, b0, b1, b2⟩ := box_keep hb0
      clear hb0 hT1
      go_wp2_with fail
      refine (unhide (hT2 _ hB0)).mono ?_
      rintro e w1 ⟨rfl, hb1⟩
      go_wp2_with fail
      go_ret
      exact ⟨rfl, hB0.trans (hb1.mono hB0.size)⟩
    | true =>
      obtain ⟨R, hR, rfl, rfl, rfl, hS, hLy, hFl⟩ := tiled_cases ht1
      obtain ⟨_, hLy2, hFl2⟩ := (tiled_ok hR).1 ht2
      rw [pfV_yes ht1 ht2]
      simp only [ht1] at hT1
      simp only [ht2] at hT2
      subst hbl
      obtain rfl : m1 = R.C.length := by rw [← hL1]; exact hLy.len
      obtain rfl : m2 = R.C.length := by rw [← hL2]; exact hLy2.len
      have hl1 := (len_bd hR).1
      obtain ⟨gb, rfl⟩ := hF (by rintro rfl; have := hLy2.len; simp at this; omega)
      obtain ⟨ga, rfl⟩ := hF1 (by rintro rfl; have := hLy.len; simp at this; omega)
      have hPF := fun w' (h : Below w.heap.size w w') => hide (pushesFrom_any R hR hS A c B L1 L2 ga d1 gb d2 ⟨hLy, hFl⟩ ⟨hLy2, hFl2⟩ w' (hr.below (h.mono hB)) (h1.below (h.mono hB)) (h2.below (h.mono hB)) (Nat.le_trans hB h.size))
      clear ht1 ht2 hF hF1
      go_enter Try.func41, Try.ntmps41
      go_wp2_with fail
      refine (unhide hT1).mono ?_
      rintro e w0 ⟨rfl, hb0⟩
      obtain ⟨hB0, hk0, b0, b1, b2⟩ := box_keep hb0
      clear hb0 hT1
      go_wp2_with fail
      refine (unhide (hT2 _ hB0)).mono ?_
      rintro e w1 ⟨rfl, hb1⟩
      have hB1 := hB0.trans (hb1.mono hB0.size)
      clear b0 b1 b2
      obtain ⟨hk1, b0, b1, b2⟩ := blk_keep hk0 hb1
      go_wp2_with fail
      refine (unhide (hPF _ hB1)).mono ?_
      rintro e w2 ⟨rfl, hb2⟩
      go_wp2_with fail
      go_ret
      exact ⟨rfl, hB1.trans (hb2.mono hB1.size)⟩

theorem list_ext {a b : List Int} (hl : a.length = b.length) (h : ∀ j, j < a.length → a.getD j 0 = b.getD j 0) : a = b := by
  apply List.ext_getElem hl
  intro j h1 h2
  have := h j h1
  rw [List.getD_eq_getElem?_getD, List.getD_eq_getElem?_getD, List.getElem?_eq_getElem h1, List.getElem?_eq_getElem h2] at this
  exact this

set_option maxHeartbeats 1000000 in
theorem sameS_any (a b : List Int) (D1 D2 : Option Addr) (m1 d1 m2 d2 B : Nat) (w : World) (hL1 : a.length = m1) (hL2 : b.length = m2) (h1 : Reads w B 1 D1 m1 (a.map (Value.int .i64))) (h2 : Reads w B 1 D2 m2 (b.map (Value.int .i64))) (hm1 : m1 ≤ 1048576) (hm2 : m2 ≤ 1048576) :
    Calls Try.prog 91 #[.slice D1 m1 d1, .slice D2 m2 d2] w fun e w' => e = .returned (.bool (a == b)) ∧ Below w.heap.size w w' := by
  have HL1 := Lib.hid hL1
  have HL2 := Lib.hid hL2
  clear hL1 hL2
  obtain ⟨v, hv⟩ : ∃ v, v = (a == b) := ⟨_, rfl⟩
  rw [← hv]
  have HV := Lib.hid hv
  clear hv
  have HLG := fun k (hk : k < m1) => h1.getI hk
  have HLH := fun k (hk : k < m2) => h2.getI hk
  go_enter Try.func91, Try.ntmps91
  go_wp2_with fail
  go_loopg [5] m1 (fun r s5 wr => ∃ k q : Nat, k + r = m1 ∧ k ≤ m2 ∧ s5 = .int .i64 (k : Nat) ∧ (∀ j, j < k → a.getD j 0 = b.getD j 0) ∧ wr = w.drewN q)
  case atStart => exact ⟨0, 0, by omega, by omega, rfl, fun j hj => by omega, rfl⟩
  case round =>
    obtain ⟨k, q, hk, hk2, rfl, hall, rfl⟩ := hrel
    have HK := Lib.hid hk
    have HALL := Lib.hid hall
    clear hk hall
    by_cases hlt : k < m1
    · by_cases hlt2 : k < m2
      · obtain ⟨ad, rfl, _, hc1⟩ := HLG k hlt
        obtain ⟨ad2, rfl, _, hc2⟩ := HLH k hlt2
        have x1 := (cell_kept hc1 (below_drewN (Below.refl w.heap.size w) q))
        have x2 := (cell_kept hc2 (below_drewN (Below.refl w.heap.size w) q))
        have hbq := below_drewN (Below.refl w.heap.size w) q
        cases hne : (a.getD k 0 != b.getD k 0) with
        | true =>
          have hres : (a == b) = false := by
            simp only [beq_eq_false_iff_ne]
            rintro rfl
            simp at hne
          have HRES : Hid (v = false) := Lib.hid (by rw [HV.out, hres])
          clear hres HLG HLH
          generalize a.getD k 0 = x at *
          generalize b.getD k 0 = y at *
          go_upto_region 4 with fail
          go_quiet (fail)
          go_wp2_with fail
          go_ret
          exact ⟨ret_bool (by rw [HRES.out]), below_drewN (below_drewN (Below.refl _ _) _) _⟩
        | false =>
          have hxy : a.getD k 0 = b.getD k 0 := by simpa using hne
          have HXY := Lib.hid hxy
          clear hxy HLG HLH
          generalize hx : a.getD k 0 = x at *
          generalize hy : b.getD k 0 = y at *
          have HX := Lib.hid hx
          have HY := Lib.hid hy
          clear hx hy
          go_upto_region 4 with fail
          go_quiet (fail)
          go_wp2_with fail
          go_roundg (m1 - (k + 1))
          case measure => have := HK.out; omega
          case rel =>
            refine ⟨k + 1, _, by have := HK.out; omega, by omega, by go_num, fun j hj => ?_, rfl⟩
            by_cases hjk : j = k
            · subst hjk; rw [HX.out, HY.out]; exact HXY.out
            · exact HALL.out j (by omega)
      · have hres : (a == b) = false := by
          simp only [beq_eq_false_iff_ne]
          rintro rfl
          have := HL1.out
          have := HL2.out
          omega
        have hne : ((m1 : Int) == (m2 : Int)) = false := by simp; omega
        have HRES : Hid (v = false) := Lib.hid (by rw [HV.out, hres])
        clear HLG HLH hres
        go_wp2_with fail
        go_ret
        exact ⟨ret_bool (by rw [HRES.out]), below_drewN (Below.refl _ _) _⟩
    · have hkm : k = m1 := by have := HK.out; omega
      have hres : (a == b) = ((m1 : Int) == (m2 : Int)) := by
        by_cases hm : m1 = m2
        · have := list_ext (a := a) (b := b) (by rw [HL1.out, HL2.out]; exact hm) (fun j hj => HALL.out j (by have := HL1.out; omega))
          rw [this, hm]; simp
        · have h1 : ((m1 : Int) == (m2 : Int)) = false := by simp; omega
          rw [h1]
          simp only [beq_eq_false_iff_ne]
          rintro rfl
          have := HL1.out
          have := HL2.out
          omega
      have HRES : Hid (v = ((m1 : Int) == (m2 : Int))) := Lib.hid (by rw [HV.out, hres])
      clear hres HLG HLH
      go_wp2_with fail
      go_ret
      exact ⟨ret_bool (by rw [HRES.out]), below_drewN (Below.refl _ _) _⟩

theorem simple_of_tiled {W T : Int} {bs : List Bool} {L : List Int} (h : tiledB W T bs L = true) : simpleB W T bs = true := by
  unfold tiledB at h
  rw [Bool.and_eq_true] at h
  exact h.1
theorem pushes_corner {R : Reg} (hR : R.ok) (hs : simpleB R.W R.T R.C = true) {k : Nat} (hk : k < R.cn) (up : Bool) : pushesB R.W R.T R.C [((k : Int), up)] = true := by
  unfold pushesB
  rw [hs, cornersB_ok hR]
  have : R.corners = R.cn := rfl
  simp [inB]
  omega

set_option maxHeartbeats 2000000 in
set_option maxRecDepth 20000 in
theorem pushesFromS_ok (R : Reg) (hR : R.ok) (hS : SimpleP R) (A : Option Addr) (c B : Nat) (a b : List Int) (D1 : Option Addr) (d1 : Nat) (D2 : Option Addr) (d2 : Nat) (ha : Tile R a) (hb : Tile R b) (w : World)
    (hr : Reads w B 1 A R.C.length (R.C.map Value.bool)) (h1 : Reads w B 1 D1 R.C.length (a.map (Value.int .i64))) (h2 : Reads w B 1 D2 R.C.length (b.map (Value.int .i64))) (hB : B ≤ w.heap.size) :
    Calls Try.prog 40 #[.agg #[.int .i64 R.W, .int .i64 R.T, .slice A R.C.length c], .slice D1 R.C.length d1, .slice D2 R.C.length d2] w fun e w' => e = .returned (.int .i64 (pfTo R a b R.cn : Nat)) ∧ Below w.heap.size w w' := by
  have hcn := cn_bd hR
  have hl36 := (len_bd hR).2
  have hl1 := (len_bd hR).1
  have hSI := fun w' (h : Below w.heap.size w w') => hide (SimpleS_any R.W R.T A R.C.length c B R.C w' (hr.below (h.mono hB)) (Nat.le_trans hB h.size) (by omega))
  have hs := simple_of_tiled ((tiled_ok hR).2 ⟨hS, ha.1, ha.2⟩)
  simp only [hs] at hSI
  have hT1 := fun w' (h : Below w.heap.size w w') => hide (tilingOkS_any R.W R.T A R.C.length c B R.C a D1 R.C.length d1 w' rfl ha.1.len (hr.below (h.mono hB)) (h1.below (h.mono hB)) (Nat.le_trans hB h.size) (by omega) (by omega))
  have hT2 := fun w' (h : Below w.heap.size w w') => hide (tilingOkS_any R.W R.T A R.C.length c B R.C b D2 R.C.length d2 w' rfl hb.1.len (hr.below (h.mono hB)) (h2.below (h.mono hB)) (Nat.le_trans hB h.size) (by omega) (by omega))
  have hta : tilingB R.W R.T R.C a = true := by rw [tilingB_ok hR, (laysB_iff hR).2 ha.1, (fullB_iff hR).2 ha.2]; rfl
  have htb : tilingB R.W R.T R.C b = true := by rw [tilingB_ok hR, (laysB_iff hR).2 hb.1, (fullB_iff hR).2 hb.2]; rfl
  simp only [hta] at hT1
  simp only [htb] at hT2
  have hCM := fun w' (h : Below w.heap.size w w') => hide (cornerManySN_ok R hR A c B w' (hr.below (h.mono hB)) (Nat.le_trans hB h.size))
  have hta' := (tiled_ok hR).2 ⟨hS, ha.1, ha.2⟩
  have hPO : ∀ (k : Nat) (up : Bool) (w' : World), k < R.cn → Below w.heap.size w w' → Hid (Calls Try.prog 31 #[.agg #[.int .i64 R.W, .int .i64 R.T, .slice A R.C.length c], .slice D1 R.C.length d1, .agg #[.int .i64 (k : Nat), .bool up]] w' fun e w'' => ∃ g c2, e = .returned (.slice (some ⟨g, 0, none⟩) R.C.length c2) ∧ Reads w'' w''.heap.size 1 (some ⟨g, 0, none⟩) R.C.length ((puV R a ((k : Int), up)).map (Value.int .i64)) ∧ Below w'.heap.size w' w'') := fun k up w' hk h => by
    have := pushOneS_any R.W R.T A R.C.length c B R.C a D1 R.C.length d1 (k : Int) up w' rfl ha.1.len (hr.below (h.mono hB)) (h1.below (h.mono hB)) (Nat.le_trans hB h.size) (by omega) (by omega)
    rw [prV_one hta' (pushes_corner hR hs hk up)] at this
    refine hide (this.mono ?_)
    rintro e w'' ⟨A2, c2, c2', rfl, ho, hb2⟩
    have hl := (tile_puV hR ha ((k : Int), up)).1.len
    rw [hl] at ho ⊢
    obtain ⟨g, cg, hsh, _, _, _⟩ := own_shape ho hl1
    simp only [Value.slice.injEq, true_and] at hsh
    obtain ⟨rfl, rfl⟩ := hsh
    exact ⟨g, c2', rfl, Reads.of_own ho, hb2⟩
  have hSA : ∀ (k : Nat) (up : Bool) (w' : World) (g e1 : Nat), Below w.heap.size w w' → Reads w' w'.heap.size 1 (some ⟨g, 0, none⟩) R.C.length ((puV R a ((k : Int), up)).map (Value.int .i64)) → Hid (Calls Try.prog 91 #[.slice (some ⟨g, 0, none⟩) R.C.length e1, .slice D2 R.C.length d2] w' fun e w'' => e = .returned (.bool (puV R a ((k : Int), up) == b)) ∧ Below w'.heap.size w' w'') := fun k up w' g e1 h hg =>
    hide (sameS_any (puV R a ((k : Int), up)) b (some ⟨g, 0, none⟩) D2 R.C.length e1 R.C.length d2 w'.heap.size w' (tile_puV hR ha ((k : Int), up)).1.len hb.1.len hg ((h2.below (h.mono hB)).more (Nat.le_trans hB h.size)) (by omega) (by omega))
  have hle := fun k => pfTo_le R a b k
  have hsu := fun k => pfTo_succ R a b k
  have hat : ∀ k, pfAt R a b k = (if puV R a ((k : Int), true) == b then 1 else 0) + (if puV R a ((k : Int), false) == b then 1 else 0) := fun _ => rfl
  have HSU := Lib.hid hsu
  have HAT := Lib.hid hat
  have HLE := Lib.hid hle
  have hb0 : Below w.heap.size w (w.alloc (boxR R.W R.T A R.C.length c)) := (Below.refl _ _).alloc (Nat.le_refl _) _
  have k0 : Blk (w.alloc (boxR R.W R.T A R.C.length c)) w.heap.size 29 #[.int .i64 R.W, .int .i64 R.T, .slice A R.C.length c] := Blk.new _ _ _
  obtain ⟨NN, hNN⟩ : ∃ NN, NN = R.cn := ⟨_, rfl⟩
  clear hsu hat hle hta htb hta' hr h1 h2 hs
  go_enter Try.func40, Try.ntmps40
  go_wp2_with fail
  refine (unhide (hSI _ hb0)).mono ?_
  rintro e w1 ⟨rfl, hb1⟩
  have hB1 := hb0.trans (hb1.mono hb0.size)
  have k1 := k0.below hb1 k0.lt
  obtain ⟨b0, b1, b2⟩ := blk3 k1
  clear k0 hb0 hb1 hSI
  go_wp2_with fail
  refine (unhide (hT1 _ hB1)).mono ?_
  rintro e w2 ⟨rfl, hb2⟩
  have hB2 := hB1.trans (hb2.mono hB1.size)
  have k2 := k1.below hb2 k1.lt
  clear b0 b1 b2
  obtain ⟨b0, b1, b2⟩ := blk3 k2
  clear k1 hB1 hb2 hT1
  go_wp2_with fail
  refine (unhide (hT2 _ hB2)).mono ?_
  rintro e w3 ⟨rfl, hb3⟩
  have hB3 := hB2.trans (hb3.mono hB2.size)
  have k3 := k2.below hb3 k2.lt
  clear b0 b1 b2 k2 hB2 hb3 hT2
  go_wp2_with fail
  go_loopg [7, 8] R.cn (fun r s7 s8 wr => ∃ k : Nat, k + r = R.cn ∧ s8 = .int .i64 (k : Nat) ∧ s7 = .int .i64 (pfTo R a b k : Nat) ∧ Below w.heap.size w wr ∧ Blk wr w.heap.size 29 #[.int .i64 R.W, .int .i64 R.T, .slice A R.C.length c])
  case atStart => exact ⟨0, by omega, rfl, rfl, hB3, k3⟩
  case round =>
    clear k3 hB3
    obtain ⟨k, hk, rfl, rfl, hbw, hbk⟩ := hrel
    have HK := Lib.hid hk
    clear hk
    obtain ⟨b0, b1, b2⟩ := blk3 hbk
    go_wp2_with fail
    refine (unhide (hCM _ hbw)).mono ?_
    rintro e w4 ⟨rfl, hb4⟩
    have hB4 := hbw.trans (hb4.mono hbw.size)
    have k4 := hbk.below hb4 hbk.lt
    clear b0 b1 b2 hbw hbk hb4
    by_cases hlt : k < R.cn
    · have hq := HLE.out k
      have hPO1 := hPO k true _ hlt hB4
      obtain ⟨b0, b1, b2⟩ := blk3 k4
      go_wp2_with fail
      refine (unhide hPO1).mono ?_
      rintro e w5 ⟨g5, c5, rfl, hg5, hb5⟩
      have hB5 := hB4.trans (hb5.mono hB4.size)
      have k5 := k4.below hb5 k4.lt
      have hS1 := hSA k true w5 g5 c5 hB5 hg5
      clear b0 b1 b2 hB4 k4 hb5 hPO1 hg5
      go_wp2_with fail
      refine (unhide hS1).mono ?_
      rintro e w6 ⟨rfl, hb6⟩
      have hB6 := hB5.trans (hb6.mono hB5.size)
      have k6 := k5.below hb6 k5.lt
      have hPO2 := hPO k false _ hlt hB6
      clear hS1 hB5 k5 hb6
      obtain ⟨b0, b1, b2⟩ := blk3 k6
      have hpre : pfPre R a b k 1 = (if (puV R a ((k : Int), true) == b) = true then 1 else 0) := by simp [pfPre]
      have hpa : pfAt R a b k = pfPre R a b k 1 + (if (puV R a ((k : Int), false) == b) = true then 1 else 0) := by rw [hpre]; exact HAT.out k
      have hp2 := pfPre_le R a b k 1
      have HPA := Lib.hid hpa
      clear hpa
      have hmid : ∀ s7 : Value, s7 = .int .i64 ((pfTo R a b k + pfPre R a b k 1 : Nat) : Int) → s7 = .int .i64 ((pfTo R a b k + pfPre R a b k 1 : Nat) : Int) := fun _ h => h
      clear hmid
      cases hb1 : (puV R a ((k : Int), true) == b) with
      | true =>
        have e1 : pfPre R a b k 1 = 1 := by rw [hpre, hb1]; rfl
        have HE1 := Lib.hid e1
        clear hpre e1 hb1 hp2
        go_wp2_with fail
        refine (unhide hPO2).mono ?_
        rintro e w7 ⟨g7, c7, rfl, hg7, hb7⟩
        have hB7 := hB6.trans (hb7.mono hB6.size)
        have k7 := k6.below hb7 k6.lt
        have hS2 := hSA k false w7 g7 c7 hB7 hg7
        clear b0 b1 b2 hB6 k6 hb7 hPO2 hg7
        go_wp2_with fail
        refine (unhide hS2).mono ?_
        rintro e w8 ⟨rfl, hb8⟩
        have hB8 := hB7.trans (hb8.mono hB7.size)
        have k8 := k7.below hb8 k7.lt
        cases hb2 : (puV R a ((k : Int), false) == b) with
        | true =>
          have hn1 : pfTo R a b (k + 1) = pfTo R a b k + 2 := by rw [HSU.out, HPA.out, HE1.out, hb2]; rfl
          go_wp2_with fail
          go_roundg (R.cn - (k + 1))
          case measure => have := HK.out; omega
          case rel => exact ⟨k + 1, by have := HK.out; omega, by go_num, congrArg (Value.int .i64) (by have hw := IntWalk.wrap64_in ((pfTo R a b k : Int) + 1) (by omega); have hw2 := IntWalk.wrap64_in ((pfTo R a b k : Int) + 1 + 1) (by omega); rw [hn1]; simp; omega), hB8, k8⟩
        | false =>
          have hn1 : pfTo R a b (k + 1) = pfTo R a b k + 1 := by rw [HSU.out, HPA.out, HE1.out, hb2]; rfl
          go_wp2_with fail
          go_roundg (R.cn - (k + 1))
          case measure => have := HK.out; omega
          case rel => exact ⟨k + 1, by have := HK.out; omega, by go_num, congrArg (Value.int .i64) (by have hw := IntWalk.wrap64_in ((pfTo R a b k : Int) + 1) (by omega); rw [hn1]; omega), hB8, k8⟩
      | false =>
        have e1 : pfPre R a b k 1 = 0 := by rw [hpre, hb1]; rfl
        have HE1 := Lib.hid e1
        clear hpre e1 hb1 hp2
        go_wp2_with fail
        refine (unhide hPO2).mono ?_
        rintro e w7 ⟨g7, c7, rfl, hg7, hb7⟩
        have hB7 := hB6.trans (hb7.mono hB6.size)
        have k7 := k6.below hb7 k6.lt
        have hS2 := hSA k false w7 g7 c7 hB7 hg7
        clear b0 b1 b2 hB6 k6 hb7 hPO2 hg7
        go_wp2_with fail
        refine (unhide hS2).mono ?_
        rintro e w8 ⟨rfl, hb8⟩
        have hB8 := hB7.trans (hb8.mono hB7.size)
        have k8 := k7.below hb8 k7.lt
        cases hb2 : (puV R a ((k : Int), false) == b) with
        | true =>
          have hn1 : pfTo R a b (k + 1) = pfTo R a b k + 1 := by rw [HSU.out, HPA.out, HE1.out, hb2]; rfl
          go_wp2_with fail
          go_roundg (R.cn - (k + 1))
          case measure => have := HK.out; omega
          case rel => exact ⟨k + 1, by have := HK.out; omega, by go_num, congrArg (Value.int .i64) (by have hw := IntWalk.wrap64_in ((pfTo R a b k : Int) + 1) (by omega); rw [hn1]; omega), hB8, k8⟩
        | false =>
          have hn1 : pfTo R a b (k + 1) = pfTo R a b k := by rw [HSU.out, HPA.out, HE1.out, hb2]; rfl
          go_wp2_with fail
          go_roundg (R.cn - (k + 1))
          case measure => have := HK.out; omega
          case rel => exact ⟨k + 1, by have := HK.out; omega, by go_num, congrArg (Value.int .i64) (by rw [hn1]), hB8, k8⟩
    · obtain rfl : k = R.cn := by have := HK.out; omega
      go_wp2_with fail
      go_ret
      exact ⟨rfl, hB4⟩

theorem pushesFromS_any (W T : Int) (A : Option Addr) (n c B : Nat) (bs : List Bool) (L1 : List Int) (D1 : Option Addr) (m1 d1 : Nat) (L2 : List Int) (D2 : Option Addr) (m2 d2 : Nat) (w : World) (hbl : bs.length = n) (hL1 : L1.length = m1) (hL2 : L2.length = m2)
    (hr : Reads w B 1 A n (bs.map Value.bool)) (h1 : Reads w B 1 D1 m1 (L1.map (Value.int .i64))) (h2 : Reads w B 1 D2 m2 (L2.map (Value.int .i64))) (hB : B ≤ w.heap.size) (hn : n ≤ 9223372036854775807) (hm1 : m1 ≤ 9223372036854775807) (hm2 : m2 ≤ 9223372036854775807) :
    Calls Try.prog 40 #[.agg #[.int .i64 W, .int .i64 T, .slice A n c], .slice D1 m1 d1, .slice D2 m2 d2] w fun e w' => e = .returned (.int .i64 (pfV W T bs L1 L2)) ∧ Below w.heap.size w w' := by
  by_cases h : tiledB W T bs L1 = true ∧ tiledB W T bs L2 = true
  · obtain ⟨R, hR, rfl, rfl, rfl, hS, hLy, hF⟩ := tiled_cases h.1
    obtain ⟨hS2, hLy2, hF2⟩ := (tiled_ok hR).1 h.2
    rw [pfV_yes h.1 h.2]
    subst hbl
    obtain rfl : m1 = R.C.length := by rw [← hL1]; exact hLy.len
    obtain rfl : m2 = R.C.length := by rw [← hL2]; exact hLy2.len
    exact pushesFromS_ok R hR hS A c B L1 L2 D1 d1 D2 d2 ⟨hLy, hF⟩ ⟨hLy2, hF2⟩ w hr h1 h2 hB
  · rw [pfV_no h]
    have hb0 : Below w.heap.size w (w.alloc (boxR W T A n c)) := (Below.refl _ _).alloc (Nat.le_refl _) _
    have k0 : Blk (w.alloc (boxR W T A n c)) w.heap.size 29 #[.int .i64 W, .int .i64 T, .slice A n c] := Blk.new _ _ _
    have hSI := fun w' (h : Below w.heap.size w w') => hide (SimpleS_any W T A n c B bs w' (hr.below (h.mono hB)) (Nat.le_trans hB h.size) hn)
    have hT1 := fun w' (h : Below w.heap.size w w') => hide (tilingOkS_any W T A n c B bs L1 D1 m1 d1 w' hbl hL1 (hr.below (h.mono hB)) (h1.below (h.mono hB)) (Nat.le_trans hB h.size) hn hm1)
    have hT2 := fun w' (h : Below w.heap.size w w') => hide (tilingOkS_any W T A n c B bs L2 D2 m2 d2 w' hbl hL2 (hr.below (h.mono hB)) (h2.below (h.mono hB)) (Nat.le_trans hB h.size) hn hm2)
    have hcase : simpleB W T bs = false ∨ (simpleB W T bs = true ∧ tilingB W T bs L1 = false) ∨ (simpleB W T bs = true ∧ tilingB W T bs L1 = true ∧ tilingB W T bs L2 = false) := by
      unfold tiledB at h
      cases hs : simpleB W T bs with
      | false => exact .inl rfl
      | true =>
        cases ht1 : tilingB W T bs L1 with
        | false => exact .inr (.inl ⟨rfl, rfl⟩)
        | true =>
          cases ht2 : tilingB W T bs L2 with
          | false => exact .inr (.inr ⟨rfl, rfl, rfl⟩)
          | true => rw [hs, ht1, ht2] at h; exact absurd ⟨rfl, rfl⟩ h
    clear h
    rcases hcase with hs | ⟨hs, ht1⟩ | ⟨hs, ht1, ht2⟩
    · simp only [hs] at hSI
      clear hs hT1 hT2 k0
      go_enter Try.func40, Try.ntmps40
      go_wp2_with fail
      refine (unhide (hSI _ hb0)).mono ?_
      rintro e w1 ⟨rfl, hx1⟩
      have hB1 := hb0.trans (hx1.mono hb0.size)
      go_wp2_with fail
      go_ret
      exact ⟨rfl, hB1⟩
    · simp only [hs] at hSI
      simp only [ht1] at hT1
      clear hs ht1 hT2
      go_enter Try.func40, Try.ntmps40
      go_wp2_with fail
      refine (unhide (hSI _ hb0)).mono ?_
      rintro e w1 ⟨rfl, hx1⟩
      have hB1 := hb0.trans (hx1.mono hb0.size)
      have k1 := k0.below hx1 k0.lt
      obtain ⟨b0, b1, b2⟩ := blk3 k1
      go_wp2_with fail
      refine (unhide (hT1 _ hB1)).mono ?_
      rintro e w2 ⟨rfl, hx2⟩
      have hB2 := hB1.trans (hx2.mono hB1.size)
      go_wp2_with fail
      go_ret
      exact ⟨rfl, hB2⟩
    · simp only [hs] at hSI
      simp only [ht1] at hT1
      simp only [ht2] at hT2
      clear hs ht1 ht2
      go_enter Try.func40, Try.ntmps40
      go_wp2_with fail
      refine (unhide (hSI _ hb0)).mono ?_
      rintro e w1 ⟨rfl, hx1⟩
      have hB1 := hb0.trans (hx1.mono hb0.size)
      have k1 := k0.below hx1 k0.lt
      obtain ⟨b0, b1, b2⟩ := blk3 k1
      go_wp2_with fail
      refine (unhide (hT1 _ hB1)).mono ?_
      rintro e w2 ⟨rfl, hx2⟩
      have hB2 := hB1.trans (hx2.mono hB1.size)
      have k2 := k1.below hx2 k1.lt
      clear b0 b1 b2
      obtain ⟨b0, b1, b2⟩ := blk3 k2
      go_wp2_with fail
      refine (unhide (hT2 _ hB2)).mono ?_
      rintro e w3 ⟨rfl, hx3⟩
      have hB3 := hB2.trans (hx3.mono hB2.size)
      go_wp2_with fail
      go_ret
      exact ⟨rfl, hB3⟩

end Go.Proofs.Ytldnccdlpagodaa
