/-
  YtpeifojfpkkcpaaFv: FlipRun: the values, and the program's.
-/
import Derived.Test.YtpeifojfpkkcpaaFo
import Derived.Test.YtpeifojfpkkcpaaLw
namespace Go.Proofs.Ytpeifojfpkkcpaa
open Go.RowKit

/-- The list behind flips, and how many were done. -/
def runL (R : Reg) (L : List Int) (cs : List Int) : List Int := cs.foldl (fun M k => flV R M k) L
def runN (R : Reg) : List Int → List Int → Nat
  | _, [] => 0
  | L, k :: cs => (if flB R L k = true then 1 else 0) + runN R (flV R L k) cs
theorem runL_app (R : Reg) (L a b : List Int) : runL R L (a ++ b) = runL R (runL R L a) b := by unfold runL; rw [List.foldl_append]
theorem runN_app (R : Reg) : ∀ (a L b : List Int), runN R L (a ++ b) = runN R L a + runN R (runL R L a) b
  | [], L, b => by simp [runN, runL]
  | k :: a, L, b => by
    have ih := runN_app R a (flV R L k) b
    simp only [List.cons_append, runN, ih]
    have : runL R L (k :: a) = runL R (flV R L k) a := rfl
    rw [this]
    omega
theorem runN_le (R : Reg) : ∀ (cs L : List Int), runN R L cs ≤ cs.length
  | [], L => by simp [runN]
  | k :: cs, L => by
    have := runN_le R cs (flV R L k)
    simp only [runN, List.length_cons]
    split <;> omega
theorem runL_succ {R : Reg} {L cs : List Int} {j : Nat} (h : j < cs.length) : runL R L (cs.take (j + 1)) = flV R (runL R L (cs.take j)) (cs.getD j 0) ∧ runN R L (cs.take (j + 1)) = runN R L (cs.take j) + (if flB R (runL R L (cs.take j)) (cs.getD j 0) = true then 1 else 0) := by
  have e : cs.take (j + 1) = cs.take j ++ [cs.getD j 0] := by rw [List.take_succ_eq_append_getElem h, List.getD_eq_getElem?_getD, List.getElem?_eq_getElem h]; rfl
  rw [e, runL_app, runN_app]
  refine ⟨rfl, ?_⟩
  simp [runN]
theorem lay_run {R : Reg} (hR : R.ok) : ∀ (cs L : List Int), Lay R L → Lay R (runL R L cs) ∧ (Full R (runL R L cs) ↔ Full R L)
  | [], L, h => ⟨h, Iff.rfl⟩
  | k :: cs, L, h => by
    obtain ⟨h1, h2⟩ := lay_run hR cs (flV R L k) (lay_flV hR h k)
    exact ⟨h1, h2.trans (full_flV hR h k)⟩
/-- FlipRun. -/
def fqB (W T : Int) (bs : List Bool) (L cs : List Int) : Bool := laidB W T bs L && decide (cs.length ≤ 60)
def fqL (W T : Int) (bs : List Bool) (L cs : List Int) : List Int := if fqB W T bs L cs = true then runL ⟨W.toNat, T.toNat, bs⟩ L cs else []
def fqN (W T : Int) (bs : List Bool) (L cs : List Int) : Nat := if fqB W T bs L cs = true then runN ⟨W.toNat, T.toNat, bs⟩ L cs else 0
theorem fqL_yes {R : Reg} (hR : R.ok) {L cs : List Int} (hL : Lay R L) (hc : cs.length ≤ 60) : fqB R.W R.T R.C L cs = true ∧ fqL R.W R.T R.C L cs = runL R L cs ∧ fqN R.W R.T R.C L cs = runN R L cs := by
  have h : fqB R.W R.T R.C L cs = true := by unfold fqB; rw [laidB_ok hR, (laysB_iff hR).2 hL, decide_eq_true hc]; rfl
  exact ⟨h, by unfold fqL; rw [if_pos h]; rfl, by unfold fqN; rw [if_pos h]; rfl⟩
theorem fqL_no {W T : Int} {bs : List Bool} {L cs : List Int} (h : fqB W T bs L cs = false) : fqL W T bs L cs = [] ∧ fqN W T bs L cs = 0 := by
  constructor
  · unfold fqL; rw [h]; rfl
  · unfold fqN; rw [h]; rfl
theorem li_reads {w : World} {b m d : Nat} {D : Option Addr} {L : List Int} (h : LiAt w b (.slice D m d) L) : Reads w w.heap.size 1 D m (L.map (Value.int .i64)) := by
  obtain ⟨A, c1, c2, e, ho⟩ := h
  simp only [Value.slice.injEq] at e
  obtain ⟨rfl, rfl, rfl⟩ := e
  exact Reads.of_own ho
theorem li_plain {w : World} {b m d : Nat} {D : Option Addr} {L : List Int} (h : LiAt w b (.slice D m d) L) : Plain D := by
  obtain ⟨A, c1, c3, e, ho⟩ := h
  simp only [Value.slice.injEq] at e
  obtain ⟨rfl, _, rfl⟩ := e
  rcases ho.2 with ⟨e, _⟩ | ⟨g, cap, cur, e, _⟩
  · simp only [Value.slice.injEq] at e
    exact .inl e.1
  · simp only [Value.slice.injEq] at e
    exact .inr ⟨g, 0, e.1⟩
/-- A row and a number. -/
def RetIN (w : World) (L : List Int) (k : Nat) (e : Ending) (w' : World) : Prop :=
  ∃ A c c', e = .returned (.tuple #[.slice A L.length c', .int .i64 (k : Nat)]) ∧ w'.ownsRow w.heap.size 3 1 (.slice A L.length c) L.length (L.map (Value.int .i64)) ∧ Below w.heap.size w w'

set_option maxHeartbeats 2000000 in
set_option maxRecDepth 20000 in
theorem flipRunI_ok (R : Reg) (hR : R.ok) (A : Option Addr) (c B : Nat) (L cs : List Int) (D E : Option Addr) (d m2 e2 : Nat) (hL : Lay R L) (hc : cs.length ≤ 60) (hm2 : cs.length = m2) (hcb : ∀ z ∈ cs, z ≤ 1000000) (hP : Plain D) (w : World)
    (hr : Reads w B 1 A R.C.length (R.C.map Value.bool)) (hd : Reads w B 1 D R.C.length (L.map (Value.int .i64))) (he : Reads w B 1 E m2 (cs.map (Value.int .i64))) (hB : B ≤ w.heap.size) :
    Calls Try.prog 15 #[.agg #[.int .i64 R.W, .int .i64 R.T, .slice A R.C.length c], .slice D R.C.length d, .slice E m2 e2] w (RetIN w (runL R L cs) (runN R L cs)) := by
  have hl36 := (len_bd hR).2
  have hLn := hL.len
  have hb0 : Below w.heap.size w (w.alloc (boxR R.W R.T A R.C.length c)) := (Below.refl _ _).alloc (Nat.le_refl _) _
  have k0 : Blk (w.alloc (boxR R.W R.T A R.C.length c)) w.heap.size 25 #[.int .i64 R.W, .int .i64 R.T, .slice A R.C.length c] := Blk.new _ _ _
  have hLO := hide (laidOkI_any R.W R.T A R.C.length c B R.C L D R.C.length d (w.alloc (boxR R.W R.T A R.C.length c)) rfl hLn (hr.alloc hB _) (hd.alloc hB _) (by simp; omega) (by omega) (by omega))
  have hlb : laidB R.W R.T R.C L = true := by rw [laidB_ok hR]; exact (laysB_iff hR).2 hL
  rw [hlb] at hLO
  have hCL := fun w' (h : Below w.heap.size w w') => hide (by simpa [hLn] using clone_any D d w'.heap.size L w' hP (by rw [hLn]; exact (hd.below (h.mono hB)).more (Nat.le_trans hB h.size)) (by omega))
  have hFL := fun (M : List Int) (hM : Lay R M) (D2 : Option Addr) (d2 : Nat) (k : Int) (hk : k ≤ 1000000) (w' : World) (h : LiAt w' w.heap.size (.slice D2 R.C.length d2) M) (hp : Plain D2) => hide (flip_any R hR A R.C.length c w'.heap.size M D2 d2 k (by omega) hp hM.len w' (li_reads h) (Nat.le_refl _))
  have hdec : decide ((60 : Int) < (m2 : Int)) = false := decide_eq_false (by omega)
  have HM2 := Lib.hid hm2
  have HCB := Lib.hid hcb
  have HL := Lib.hid hL
  clear hlb hm2 hcb hr hd hL
  go_enter Try.func15, Try.ntmps15
  go_wp2_with fail
  refine (unhide hLO).mono ?_
  rintro e w1 ⟨rfl, hb1⟩
  have hB1 := hb0.trans (hb1.mono hb0.size)
  have k1 := k0.below hb1 k0.lt
  clear hLO hb1 k0 hb0
  go_wp2_with fail
  refine (unhide (hCL w1 hB1)).mono ?_
  rintro e w2 ⟨A2, c2, rfl, ho2, hb2⟩
  have hB2 := hB1.trans (hb2.mono hB1.size)
  have k2 := k1.below hb2 k1.lt
  have hl2 : LiAt w2 w.heap.size (.slice A2 R.C.length R.C.length) L := ⟨A2, R.C.length, c2, by rw [hLn], own_mono ho2 hB1.size⟩
  clear hCL hb2 k1 hB1 ho2
  rw [hLn]
  go_wp2_with fail
  go_loopg [8, 9, 27] m2 (fun r s8 s9 s27 wr => ∃ (j x d2 : Nat) (D2 : Option Addr) (M : List Int), j + r = m2 ∧ s27 = .int .i64 (j : Nat) ∧ s8 = .slice D2 R.C.length d2 ∧ s9 = .int .i64 (x : Nat) ∧ Hid (x = runN R L (cs.take j)) ∧ Hid (M = runL R L (cs.take j)) ∧ Below w.heap.size w wr ∧ Blk wr w.heap.size 25 #[.int .i64 R.W, .int .i64 R.T, .slice A R.C.length c] ∧ LiAt wr w.heap.size (.slice D2 R.C.length d2) M)
  case atStart => exact ⟨0, 0, _, _, L, by omega, rfl, rfl, rfl, Lib.hid (by simp [runN]), Lib.hid (by simp [runL]), hB2, k2, hl2⟩
  case round =>
    clear hB2 k2 hl2
    obtain ⟨j, x, d2, D2, M, hj, rfl, rfl, rfl, HX, HM, hBr, kr, hli⟩ := hrel
    have HJ := Lib.hid hj
    clear hj
    by_cases hlt : j < m2
    · have hjc : j < cs.length := by rw [HM2.out]; exact hlt
      obtain ⟨ad, rfl, _, hc1⟩ := he.getI hlt
      have hc2 := (hBr.cell (p := ad.add j) (World.block_lt_of_cell? w _ hc1)).trans hc1
      obtain ⟨t1, t2⟩ := runL_succ (R := R) (L := L) hjc
      have hz := HCB.out (cs.getD j 0) (by rw [List.getD_eq_getElem?_getD, List.getElem?_eq_getElem hjc]; exact List.getElem_mem hjc)
      have hxl := runN_le R (cs.take j) L
      rw [← HX.out, List.length_take] at hxl
      rw [← HM.out] at t1 t2
      rw [← HX.out] at t2
      have hMy : Lay R M := by rw [HM.out]; exact (lay_run hR _ L HL.out).1
      have HT1 := Lib.hid t1
      have HT2 := Lib.hid t2
      generalize cs.getD j 0 = z at *
      have hF := hFL M hMy D2 d2 z hz wr hli (li_plain hli)
      have hMf := lay_flV hR hMy z
      obtain ⟨b0, b1, b2⟩ := blk3 kr
      have hwr : IntKind.i64.wrap ((x : Int) + 1) = (x : Int) + 1 := IntWalk.i64_in _ (by omega)
      clear t1 t2 hz hFL hc1
      go_wp2_with fail
      refine (unhide hF).mono ?_
      rintro e w3 ⟨A3, c3, c3', rfl, ho3, hb3⟩
      have hB3 := hBr.trans (hb3.mono hBr.size)
      have k3 := kr.below hb3 kr.lt
      have hFll := hMf.len
      have hl3 : LiAt w3 w.heap.size (.slice A3 R.C.length c3') (flV R M z) := ⟨A3, c3', c3, by rw [hFll], own_mono ho3 hBr.size⟩
      rw [hFll]
      clear hF hBr kr hli hb3 ho3 b0 b1 b2 hc2 hFll
      cases hfb : flB R M z with
      | true =>
        rw [hfb, if_pos rfl] at HT2
        go_wp2_with fail
        go_roundg (m2 - (j + 1))
        case measure => have := HJ.out; omega
        case rel => exact ⟨j + 1, x + 1, c3', A3, _, by have := HJ.out; omega, by go_num, rfl, by go_num, Lib.hid HT2.out.symm, Lib.hid HT1.out.symm, hB3, k3, hl3⟩
      | false =>
        rw [hfb, if_neg (by simp), Nat.add_zero] at HT2
        go_wp2_with fail
        go_roundg (m2 - (j + 1))
        case measure => have := HJ.out; omega
        case rel => exact ⟨j + 1, x, c3', A3, _, by have := HJ.out; omega, by go_num, rfl, rfl, Lib.hid HT2.out.symm, Lib.hid HT1.out.symm, hB3, k3, hl3⟩
    · obtain rfl : j = m2 := by have := HJ.out; omega
      have hall : cs.take j = cs := List.take_of_length_le (by rw [HM2.out]; exact Nat.le_refl _)
      have HX2 := HX.out
      have HM3 := HM.out
      rw [hall] at HX2 HM3
      have hMl : (runL R L cs).length = R.C.length := (lay_run hR cs L HL.out).1.len
      have HE1 := Lib.hid HX2
      have HE2 := Lib.hid HM3
      clear HX2 HM3 hall hFL
      go_wp2_with fail
      go_ret2
      obtain ⟨A9, c9, c8, e9, ho9⟩ := hli
      simp only [Value.slice.injEq] at e9
      obtain ⟨rfl, e10, rfl⟩ := e9
      exact ⟨D2, c8, _, by rw [← HE1.out, ← HE2.out, ← e10]; rfl, by rw [← HE2.out]; exact ho9, hBr⟩

set_option maxHeartbeats 2000000 in
set_option maxRecDepth 20000 in
theorem flipRunI_any (W T : Int) (A : Option Addr) (n c B : Nat) (bs : List Bool) (L cs : List Int) (D E : Option Addr) (m d m2 e2 : Nat) (hcb : ∀ z ∈ cs, z ≤ 1000000) (hP : Plain D) (w : World) (hbl : bs.length = n) (hLm : L.length = m) (hm2 : cs.length = m2)
    (hr : Reads w B 1 A n (bs.map Value.bool)) (hd : Reads w B 1 D m (L.map (Value.int .i64))) (he : Reads w B 1 E m2 (cs.map (Value.int .i64))) (hB : B ≤ w.heap.size) (hn : n ≤ 9223372036854775807) (hm : m ≤ 9223372036854775807) :
    Calls Try.prog 15 #[.agg #[.int .i64 W, .int .i64 T, .slice A n c], .slice D m d, .slice E m2 e2] w (RetIN w (fqL W T bs L cs) (fqN W T bs L cs)) := by
  have hLO := hide (laidOkI_any W T A n c B bs L D m d (w.alloc (boxR W T A n c)) hbl hLm (hr.alloc hB _) (hd.alloc hB _) (by simp; omega) hn hm)
  by_cases hgo : laidB W T bs L = true ∧ cs.length ≤ 60
  · obtain ⟨h1, h2⟩ := hgo
    obtain ⟨R, hR, rfl, rfl, rfl, hLy⟩ := laid_cases h1
    subst hbl
    obtain rfl : m = R.C.length := by rw [← hLm]; exact hLy.len
    obtain ⟨_, e1, e2'⟩ := fqL_yes hR hLy h2
    rw [e1, e2']
    exact flipRunI_ok R hR A c B L cs D E d m2 e2 hLy h2 hm2 hcb hP w hr hd he hB
  · have hno : fqB W T bs L cs = false := by
      unfold fqB
      cases hl : laidB W T bs L with
      | false => rfl
      | true => rw [decide_eq_false (fun h => hgo ⟨hl, h⟩)]; rfl
    rw [(fqL_no hno).1, (fqL_no hno).2]
    have hgo2 : laidB W T bs L = false ∨ (laidB W T bs L = true ∧ decide ((60 : Int) < (m2 : Int)) = true) := by
      cases hl : laidB W T bs L with
      | false => exact .inl rfl
      | true => exact .inr ⟨rfl, decide_eq_true (by have : ¬ cs.length ≤ 60 := fun h => hgo ⟨hl, h⟩; omega)⟩
    clear hgo hno hcb hr hd he
    rcases hgo2 with h1 | ⟨h1, h2⟩
    all_goals
      rw [h1] at hLO
      clear h1
      go_enter Try.func15, Try.ntmps15
      go_wp2_with fail
      refine (unhide hLO).mono ?_
      rintro e w1 ⟨rfl, hb1⟩
      obtain ⟨hB1, hk1, b0, b1, b2⟩ := box_keep hb1
      go_wp2_with fail
      go_ret2
      exact ⟨none, 0, 0, rfl, ⟨rfl, .inl ⟨rfl, rfl⟩⟩, hB1⟩

end Go.Proofs.Ytpeifojfpkkcpaa
