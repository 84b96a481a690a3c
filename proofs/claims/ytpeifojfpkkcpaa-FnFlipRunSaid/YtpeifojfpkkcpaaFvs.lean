/-
  YtpeifojfpkkcpaaFvs: FlipRun of the reference.
-/
import Derived.Test.YtpeifojfpkkcpaaFv
import Derived.Test.YtpeifojfpkkcpaaFk
namespace Go.Proofs.Ytpeifojfpkkcpaa
open Go.RowKit

set_option maxHeartbeats 4000000 in
set_option maxRecDepth 20000 in
theorem flipRunS_ok (R : Reg) (hR : R.ok) (A : Option Addr) (c B : Nat) (L cs : List Int) (D E : Option Addr) (d m2 e2 : Nat) (hL : Lay R L) (hc : cs.length ≤ 60) (hm2 : cs.length = m2) (_hcb : ∀ z ∈ cs, z ≤ 1000000) (_hP : Plain D) (w : World)
    (hr : Reads w B 1 A R.C.length (R.C.map Value.bool)) (hd : Reads w B 1 D R.C.length (L.map (Value.int .i64))) (he : Reads w B 1 E m2 (cs.map (Value.int .i64))) (hB : B ≤ w.heap.size) :
    Calls Try.prog 16 #[.agg #[.int .i64 R.W, .int .i64 R.T, .slice A R.C.length c], .slice D R.C.length d, .slice E m2 e2] w (RetIN w (runL R L cs) (runN R L cs)) := by
  have hl36 := (len_bd hR).2
  have hl1 := (len_bd hR).1
  have hLn := hL.len
  have hLO := hide (laidOkS_any R.W R.T A R.C.length c B R.C L D R.C.length d (w.alloc (boxR R.W R.T A R.C.length c)) rfl hLn (hr.alloc hB _) (hd.alloc hB _) (by simp; omega) (by omega) (by omega))
  have hlb : laidB R.W R.T R.C L = true := by rw [laidB_ok hR]; exact (laysB_iff hR).2 hL
  rw [hlb] at hLO
  have hFL := fun (M : List Int) (hM : Lay R M) (D2 : Option Addr) (d2 : Nat) (k : Int) (w' : World) (h : LiAt w' w.heap.size (.slice D2 R.C.length d2) M) (hb : Below w.heap.size w w') => hide (flipOneS_any R.W R.T A R.C.length c w'.heap.size R.C M D2 R.C.length d2 k w' rfl hM.len ((hr.below (hb.mono hB)).more (Nat.le_trans hB hb.size)) (li_reads h) (Nat.le_refl _) (by omega) (by omega))
  have hdec : decide ((60 : Int) < (m2 : Int)) = false := decide_eq_false (by omega)
  have hONE := ints_one (L := L)
  have HM2 := Lib.hid hm2
  have HL := Lib.hid hL
  obtain ⟨ad, rfl, _, r0⟩ := hd.getI (k := 0) (by omega)
  clear hlb hm2 hr hL
  go_enter Try.func16, Try.ntmps16
  go_wp2_with fail
  refine (unhide hLO).mono ?_
  rintro e w1 ⟨rfl, hb1⟩
  obtain ⟨hB1, hk1, b0, b1, b2⟩ := box_keep hb1
  clear hb1
  have ho1 : (w1.alloc (.cells #[] 3)).ownsRow (w.heap.size + 1) 3 1 (.slice (some ⟨w1.heap.size, 0, none⟩) 0 0) 0 [] := by simpa using World.ownsRow_made (base := w.heap.size + 1) (e := 3) (size := 1) w1 #[] 0 hk1.lt (by simp [maxLen]) (by simp)
  have hk2 := hk1.alloc (.cells #[] 3)
  have hB2 := hB1.alloc hB1.size (.cells #[] 3)
  have hd2 := hd.below (hB2.mono hB)
  clear b0 b1 b2
  go_upto_region 4 with (at_builtin; refine wpList_appN rfl _ _ _ rfl (w.heap.size + 1) 3 _ 8 Try.underlying26 info_int rfl (by omega) (.slice (some ⟨w1.heap.size, 0, none⟩) 0 0) 0 [] rfl ho1 B (some ad) R.C.length d (L.map (Value.int .i64)) rfl hd2 hONE (by omega) (by have := hk2.lt; omega) ?_; rintro v' w3 ho3 hg3 _; obtain ⟨g, c', rfl, hP3⟩ := pg_copy hB1 hk1 ho3 hg3 hLn hl1; clear ho3 hg3)
  have hB3 := hP3.bel
  have k3 := hP3.box
  have hl3 : LiAt w3 w.heap.size (.slice (some ⟨g, 0, none⟩) R.C.length c') L := ⟨some ⟨g, 0, none⟩, c', c', by rw [hLn], own_mono hP3.own (by omega)⟩
  clear ho1 hk2 hB2 hd2 hk1 hB1 hLO hP3 hd r0
  go_wp2_with fail
  go_loopg [8, 9, 10] m2 (fun r s8 s9 s10 wr => ∃ (j x d2 : Nat) (D2 : Option Addr) (M : List Int), j + r = m2 ∧ s10 = .int .i64 (j : Nat) ∧ s8 = .slice D2 R.C.length d2 ∧ s9 = .int .i64 (x : Nat) ∧ Hid (x = runN R L (cs.take j)) ∧ Hid (M = runL R L (cs.take j)) ∧ Below w.heap.size w wr ∧ Blk wr w.heap.size 25 #[.int .i64 R.W, .int .i64 R.T, .slice A R.C.length c] ∧ LiAt wr w.heap.size (.slice D2 R.C.length d2) M)
  case atStart => exact ⟨0, 0, _, _, L, by omega, rfl, rfl, rfl, Lib.hid (by simp [runN]), Lib.hid (by simp [runL]), hB3, k3, hl3⟩
  case round =>
    clear hB3 k3 hl3
    obtain ⟨j, x, d2, D2, M, hj, rfl, rfl, rfl, HX, HM, hBr, kr, hli⟩ := hrel
    have HJ := Lib.hid hj
    clear hj
    by_cases hlt : j < m2
    · have hjc : j < cs.length := by rw [HM2.out]; exact hlt
      obtain ⟨ae, rfl, _, hc1⟩ := he.getI hlt
      have hd := (Below.refl wr.heap.size wr).drew
      have hBd := hBr.trans (hd.mono hBr.size)
      have hc2 := (hBr.cell (p := ae.add j) (World.block_lt_of_cell? w _ hc1)).trans hc1
      obtain ⟨t1, t2⟩ := runL_succ (R := R) (L := L) hjc
      have hxl := runN_le R (cs.take j) L
      rw [← HX.out, List.length_take] at hxl
      rw [← HM.out] at t1 t2
      rw [← HX.out] at t2
      have hMy : Lay R M := by rw [HM.out]; exact (lay_run hR _ L HL.out).1
      have HT1 := Lib.hid t1
      have HT2 := Lib.hid t2
      generalize cs.getD j 0 = z at *
      have hF := hFL M hMy D2 d2 z wr.drew (hli.below hd) hBd
      have hlM : laidB R.W R.T R.C M = true := by rw [laidB_ok hR]; exact (laysB_iff hR).2 hMy
      rw [(foV_yes (k := z) hlM).1, (foV_yes (k := z) hlM).2] at hF
      have hMf := (lay_flV hR hMy z).len
      have hno := fun h => flV_no (R := R) (L := M) (k := z) h
      obtain ⟨fb, hfb⟩ : ∃ fb, flB R M z = fb := ⟨_, rfl⟩
      rw [hfb] at hF hno HT2
      obtain ⟨b0, b1, b2⟩ := blk3 kr
      have hwr : IntKind.i64.wrap ((x : Int) + 1) = (x : Int) + 1 := IntWalk.i64_in _ (by omega)
      have HNO := Lib.hid hno
      clear t1 t2 hFL hc1 hlM hfb hno
      go_upto_region 8 with fail
      go_region_held3 (fun w' => w'.cell? ⟨w.heap.size, 0, none⟩ = some (.int .i64 R.W) ∧ w'.cell? ⟨w.heap.size, 1, none⟩ = some (.int .i64 R.T) ∧ w'.cell? ⟨w.heap.size, 2, none⟩ = some (.slice A R.C.length c) ∧ w'.cell? (ae.add j) = some (.int .i64 z))
        (first
          | exact ⟨b0, b1, b2, hc2⟩
          | exact ⟨cell_kept (w := wr.drew) b0 hb5, cell_kept (w := wr.drew) b1 hb5, cell_kept (w := wr.drew) b2 hb5, cell_kept (w := wr.drew) hc2 hb5⟩)
        ((go_at_call 74; (with_reducible refine (unhide hF).mono ?_); rintro e w5 ⟨A5, c5, c5', rfl, ho5, hb5⟩))
      all_goals
        have hB5 := hBd.trans (hb5.mono hBd.size)
        have k5 := kr.drew.below hb5 kr.drew.lt
        have hl5 : LiAt w5 w.heap.size (.slice A5 R.C.length c5') (flV R M z) := ⟨A5, c5', c5, by rw [hMf], own_mono ho5 hBd.size⟩
        have hli5 := (hli.below hd).below hb5
        try rw [hMf]
        clear hF hBr kr hli hb5 ho5 b0 b1 b2 hc2 hMf hd hBd
        cases fb with
        | true =>
          rw [if_pos rfl] at HT2
          go_wp2_with fail
          go_roundg (m2 - (j + 1))
          case measure => have := HJ.out; omega
          case rel => exact ⟨j + 1, x + 1, c5', A5, _, by have := HJ.out; omega, by go_num, rfl, by go_num, Lib.hid HT2.out.symm, Lib.hid HT1.out.symm, hB5, k5, hl5⟩
        | false =>
          rw [if_neg (by simp), Nat.add_zero] at HT2
          have hsame := HNO.out rfl
          rw [hsame] at HT1
          go_wp2_with fail
          go_roundg (m2 - (j + 1))
          case measure => have := HJ.out; omega
          case rel => exact ⟨j + 1, x, d2, D2, M, by have := HJ.out; omega, by go_num, rfl, rfl, Lib.hid HT2.out.symm, Lib.hid HT1.out.symm, hB5, k5, hli5⟩
    · obtain rfl : j = m2 := by have := HJ.out; omega
      have hall : cs.take j = cs := List.take_of_length_le (by rw [HM2.out]; exact Nat.le_refl _)
      have HX2 := HX.out
      have HM3 := HM.out
      rw [hall] at HX2 HM3
      have HE1 := Lib.hid HX2
      have HE2 := Lib.hid HM3
      clear HX2 HM3 hall hFL
      go_wp2_with fail
      go_ret2
      obtain ⟨A9, c9, c8, e9, ho9⟩ := hli
      simp only [Value.slice.injEq] at e9
      obtain ⟨rfl, e10, rfl⟩ := e9
      exact ⟨D2, c8, _, by rw [← HE1.out, ← HE2.out, ← e10]; rfl, by rw [← HE2.out]; exact ho9, hBr⟩

set_option maxHeartbeats 2000000 in
set_option maxRecDepth 20000 in
theorem flipRunS_any (W T : Int) (A : Option Addr) (n c B : Nat) (bs : List Bool) (L cs : List Int) (D E : Option Addr) (m d m2 e2 : Nat) (hcb : ∀ z ∈ cs, z ≤ 1000000) (hP : Plain D) (w : World) (hbl : bs.length = n) (hLm : L.length = m) (hm2 : cs.length = m2)
    (hr : Reads w B 1 A n (bs.map Value.bool)) (hd : Reads w B 1 D m (L.map (Value.int .i64))) (he : Reads w B 1 E m2 (cs.map (Value.int .i64))) (hB : B ≤ w.heap.size) (hn : n ≤ 9223372036854775807) (hm : m ≤ 9223372036854775807) :
    Calls Try.prog 16 #[.agg #[.int .i64 W, .int .i64 T, .slice A n c], .slice D m d, .slice E m2 e2] w (RetIN w (fqL W T bs L cs) (fqN W T bs L cs)) := by
  have hLO := hide (laidOkS_any W T A n c B bs L D m d (w.alloc (boxR W T A n c)) hbl hLm (hr.alloc hB _) (hd.alloc hB _) (by simp; omega) hn hm)
  by_cases hgo : laidB W T bs L = true ∧ cs.length ≤ 60
  · obtain ⟨h1, h2⟩ := hgo
    obtain ⟨R, hR, rfl, rfl, rfl, hLy⟩ := laid_cases h1
    subst hbl
    obtain rfl : m = R.C.length := by rw [← hLm]; exact hLy.len
    obtain ⟨_, e1, e2'⟩ := fqL_yes hR hLy h2
    rw [e1, e2']
    exact flipRunS_ok R hR A c B L cs D E d m2 e2 hLy h2 hm2 hcb hP w hr hd he hB
  · have hno : fqB W T bs L cs = false := by
      unfold fqB
      cases hl : laidB W T bs L with
      | false => rfl
      | true => rw [decide_eq_false (fun h => hgo ⟨hl, h⟩)]; rfl
    rw [(fqL_no hno).1, (fqL_no hno).2]
    have hgo2 : laidB W T bs L = false ∨ (laidB W T bs L = true ∧ decide ((60 : Int) < (m2 : Int)) = true) := by
      cases hl : laidB W T bs L with
      | false => exact .inl rfl
      | true => exact .inr ⟨rfl, decide_eq_true (by have : ¬ cs.length ≤ 60 := fun h => hgo ⟨hl, h⟩; omega)⟩
    clear hgo hno hcb hr hd he
    rcases hgo2 with h1 | ⟨h1, h2⟩
    all_goals
      rw [h1] at hLO
      clear h1
      go_enter Try.func16, Try.ntmps16
      go_wp2_with fail
      refine (unhide hLO).mono ?_
      rintro e w1 ⟨rfl, hb1⟩
      obtain ⟨hB1, hk1, b0, b1, b2⟩ := box_keep hb1
      go_wp2_with fail
      go_ret2
      have ho := World.ownsRow_made (base := w.heap.size) (e := 3) (size := 1) w1 #[] 0 hB1.size (by simp [maxLen]) (by simp)
      exact ⟨some ⟨w1.heap.size, 0, none⟩, 0, 0, rfl, by simpa using ho, hB1.alloc hB1.size _⟩

end Go.Proofs.Ytpeifojfpkkcpaa
