/-
  YtpeifojfpkkcpaaFz4: the texts Fy, Fz, Fzb, Fzc in one file.
-/
import Derived.Test.YtpeifojfpkkcpaaFd3

/-
  YtpeifojfpkkcpaaFy: FlipWay of the program: any input.
-/
namespace Go.Proofs.Ytpeifojfpkkcpaa
open Go.RowKit

theorem flipWayI_any (W T : Int) (A : Option Addr) (n c B : Nat) (bs : List Bool) (L1 : List Int) (D1 : Option Addr) (m1 d1 : Nat) (L2 : List Int) (D2 : Option Addr) (m2 d2 : Nat) (w : World) (hbl : bs.length = n) (hL1 : L1.length = m1) (hL2 : L2.length = m2)
    (hP : Plain D1) (hF : L2 ≠ [] → ∃ gb, D2 = some ⟨gb, 0, none⟩)
    (hr : Reads w B 1 A n (bs.map Value.bool)) (h1 : Reads w B 1 D1 m1 (L1.map (Value.int .i64))) (h2 : Reads w B 1 D2 m2 (L2.map (Value.int .i64))) (hB : B ≤ w.heap.size) (hn : n ≤ 9223372036854775807) (hm1 : m1 ≤ 9223372036854775807) (hm2 : m2 ≤ 9223372036854775807) :
    Calls Try.prog 56 #[.agg #[.int .i64 W, .int .i64 T, .slice A n c], .slice D1 m1 d1, .slice D2 m2 d2] w (RetIB w (fwV W T bs L1 L2) (tiledB W T bs L1 && tiledB W T bs L2)) := by
  have hT1 := hide (tiled_any W T A n c B bs L1 D1 m1 d1 (w.alloc (boxR W T A n c)) hbl hL1 (hr.alloc hB _) (h1.alloc hB _) (by simp; omega) hn hm1)
  have hT2 := fun w' (h : Below w.heap.size w w') => hide (tiled_any W T A n c B bs L2 D2 m2 d2 w' hbl hL2 (hr.below (h.mono hB)) (h2.below (h.mono hB)) (Nat.le_trans hB h.size) hn hm2)
  cases ht1 : tiledB W T bs L1 with
  | false =>
    simp only [ht1] at hT1
    rw [fwV_no (by rw [ht1]; simp), Bool.false_and]
    clear ht1 hT2
    go_enter Try.func56, Try.ntmps56
    go_wp2_with fail
    refine (unhide hT1).mono ?_
    rintro e w0 ⟨rfl, hb0⟩
    obtain ⟨hB0, hk0, b0, b1, b2⟩ := box_keep hb0
    go_wp2_with fail
    go_ret2
    exact ⟨none, 0, 0, rfl, ⟨rfl, .inl ⟨rfl, rfl⟩⟩, hB0⟩
  | true =>
    cases ht2 : tiledB W T bs L2 with
    | false =>
      simp only [ht1] at hT1
      simp only [ht2] at hT2
      rw [fwV_no (by rw [ht2]; simp), Bool.and_false]
      clear ht1 ht2
      go_enter Try.func56, Try.ntmps56
      go_wp2_with fail
      refine (unhide hT1).mono ?_
      rintro e w0 ⟨rfl, hb0⟩
      obtain ⟨hB0, hk0, b0, b1, b2⟩ := box_keep hb0
      clear hb0 hT1
      go_wp2_with fail
      refine (unhide (hT2 _ hB0)).mono ?_
      rintro e w1 ⟨rfl, hb1⟩
      go_wp2_with fail
      go_ret2
      exact ⟨none, 0, 0, rfl, ⟨rfl, .inl ⟨rfl, rfl⟩⟩, hB0.trans (hb1.mono hB0.size)⟩
    | true =>
      obtain ⟨R, hR, rfl, rfl, rfl, hS, hLy, hFl⟩ := tiled_cases ht1
      obtain ⟨_, hLy2, hFl2⟩ := (tiled_ok hR).1 ht2
      rw [fwV_yes ht1 ht2]
      clear hT1 hT2
      subst hbl
      obtain rfl : m1 = R.C.length := by rw [← hL1]; exact hLy.len
      obtain rfl : m2 = R.C.length := by rw [← hL2]; exact hLy2.len
      obtain ⟨gb, rfl⟩ := hF (by rintro rfl; have := (len_bd hR).1; have := hLy2.len; simp at this; omega)
      exact flipWayI_ok R hR hS A c B L1 L2 D1 d1 gb d2 hP ⟨hLy, hFl⟩ ⟨hLy2, hFl2⟩ w hr h1 h2 hB

end Go.Proofs.Ytpeifojfpkkcpaa

/-
  YtpeifojfpkkcpaaFz: FlipWay of the reference: inputs that are no two tilings.
-/
namespace Go.Proofs.Ytpeifojfpkkcpaa
open Go.RowKit

theorem apartV_nil {W T : Int} {bs : List Bool} {a b : List Int} (h : ¬ (tiledB W T bs a = true ∧ tiledB W T bs b = true)) : apartV W T bs a b = -1 := by
  unfold apartV
  rw [if_neg (by simpa using h)]

theorem flipWayS_no (W T : Int) (A : Option Addr) (n c B : Nat) (bs : List Bool) (L1 : List Int) (D1 : Option Addr) (m1 d1 : Nat) (L2 : List Int) (D2 : Option Addr) (m2 d2 : Nat) (w : World) (hbl : bs.length = n) (hL1 : L1.length = m1) (hL2 : L2.length = m2)
    (hno : ¬ (tiledB W T bs L1 = true ∧ tiledB W T bs L2 = true))
    (hr : Reads w B 1 A n (bs.map Value.bool)) (h1 : Reads w B 1 D1 m1 (L1.map (Value.int .i64))) (h2 : Reads w B 1 D2 m2 (L2.map (Value.int .i64))) (hB : B ≤ w.heap.size) (hn : n ≤ 9223372036854775807) (hm1 : m1 ≤ 9223372036854775807) (hm2 : m2 ≤ 9223372036854775807) :
    Calls Try.prog 57 #[.agg #[.int .i64 W, .int .i64 T, .slice A n c], .slice D1 m1 d1, .slice D2 m2 d2] w (RetIB w [] false) := by
  have hAP := fun w' (h : Below w.heap.size w w') => hide (apartS_any W T A n c B bs L1 D1 m1 d1 L2 D2 m2 d2 w' hbl hL1 hL2 (hr.below (h.mono hB)) (h1.below (h.mono hB)) (h2.below (h.mono hB)) (Nat.le_trans hB h.size) hn hm1 hm2)
  simp only [apartV_nil hno] at hAP
  have h00 := AW.start w W T A n c
  clear hr h1 h2 hno
  go_enter Try.func57, Try.ntmps57
  go_wp2_with fail
  refine (unhide (hAP _ h00.bel)).mono ?_
  rintro e w1 ⟨rfl, hb1⟩
  have hP1 := h00.below hb1
  clear hb1 h00
  go_wp2_with fail
  go_ret2
  exact ⟨_, _, _, rfl, own_mono hP1.own (by omega), hP1.bel⟩

end Go.Proofs.Ytpeifojfpkkcpaa

/-
  YtpeifojfpkkcpaaFzb: FlipWay of the reference: two tilings.
-/
namespace Go.Proofs.Ytpeifojfpkkcpaa
open Go.RowKit

/-- Where the reference stands: the region's box, the goal's heights, the tiling now, the flips so far. -/
structure SY (w wr : World) (R : Reg) (A : Option Addr) (c gg cg g c' : Nat) (G M : List Int) (v : Value) (l : List Int) : Prop where
  bel : Below w.heap.size w wr
  box : Blk wr w.heap.size 25 #[.int .i64 R.W, .int .i64 R.T, .slice A R.C.length c]
  gow : wr.ownsRow w.heap.size 3 1 (.slice (some ⟨gg, 0, none⟩) R.cn cg) R.cn (G.map (Value.int .i64))
  now : wr.ownsRow w.heap.size 3 1 (.slice (some ⟨g, 0, none⟩) R.C.length c') R.C.length (M.map (Value.int .i64))
  out : wr.ownsRow w.heap.size 3 1 v l.length (l.map (Value.int .i64))
  n1 : v.ownBlock ≠ some gg
  n2 : v.ownBlock ≠ some g
section
variable {w wr w2 : World} {R : Reg} {A : Option Addr} {c gg cg g c' : Nat} {G M : List Int} {v v' : Value} {l : List Int}
theorem SY.below (H : SY w wr R A c gg cg g c' G M v l) (hb : Below wr.heap.size wr w2) : SY w w2 R A c gg cg g c' G M v l :=
  ⟨H.bel.trans (hb.mono H.bel.size), H.box.below hb H.box.lt, own_below H.gow hb (Nat.le_refl _), own_below H.now hb (Nat.le_refl _), own_below H.out hb (Nat.le_refl _), H.n1, H.n2⟩
theorem SY.app {x : Int} {o : Obj} (H : SY w wr R A c gg cg g c' G M v l) (ho : w2.ownsRow w.heap.size 3 1 v' (l.length + 1) (l.map (Value.int .i64) ++ [.int .i64 x])) (hg : (wr.alloc o).grownBy w2 v.ownBlock) (hv : v'.ownBlock = v.ownBlock ∨ v'.ownBlock = some (wr.alloc o).heap.size) : SY w w2 R A c gg cg g c' G M v' (l ++ [x]) := by
  have hge : ∀ j, v.ownBlock = some j → w.heap.size ≤ j := fun j h => own_block_ge H.out h
  have hgg := H.gow.lt gg rfl
  have hgn := H.now.lt g rfl
  have hvt : ∀ (j : Nat) (cs : Array Value) (t : TypeId), t ≠ 3 → Blk wr j t cs → some j ≠ v.ownBlock := fun j cs t hne hb h => own_blk_ne H.out hb (Ne.symm hne) h.symm
  refine ⟨(H.bel.alloc H.bel.size o).grown hg (by have := H.bel.size; simp; omega) hge, (H.box.alloc o).grown hg (hvt _ _ _ (by decide) H.box), own_grown (H.gow.alloc o) hg (.inr (Ne.symm H.n1)), own_grown (H.now.alloc o) hg (.inr (Ne.symm H.n2)), by rw [List.length_append, List.map_append]; exact ho, ?_, ?_⟩
  · rcases hv with h | h
    · rw [h]; exact H.n1
    · rw [h]; simp; omega
  · rcases hv with h | h
    · rw [h]; exact H.n2
    · rw [h]; simp; omega
/-- Behind a flip: another tiling now. -/
theorem SY.turn {g2 c2 : Nat} {M2 : List Int} (H : SY w wr R A c gg cg g c' G M v l) (hb : Below wr.heap.size wr w2) (ho : w2.ownsRow wr.heap.size 3 1 (.slice (some ⟨g2, 0, none⟩) R.C.length c2) R.C.length (M2.map (Value.int .i64))) : SY w w2 R A c gg cg g2 c2 G M2 v l := by
  have H2 := H.below hb
  refine ⟨H2.bel, H2.box, H2.gow, own_mono ho H.bel.size, H2.out, H.n1, fun h => ?_⟩
  have h1 := (H.out.lt g2 h).2
  have h2 := (ho.lt g2 rfl).1
  omega
end
theorem SY.start {w w2 w3 : World} {R : Reg} {A : Option Addr} {c gg cg : Nat} {G M : List Int} {v' : Value} (hP : AW w w2 R.W R.T A R.C.length c (w.heap.size + 1) 0 []) (hog : w2.ownsRow w.heap.size 3 1 (.slice (some ⟨gg, 0, none⟩) R.cn cg) R.cn (G.map (Value.int .i64))) (hgg : w.heap.size + 1 < gg)
    (ho : w3.ownsRow w2.heap.size 3 1 v' (0 + R.C.length) ([] ++ M.map (Value.int .i64))) (hg : (w2.alloc (.cells #[] 3)).grownBy w3 (Value.slice (some ⟨w2.heap.size, 0, none⟩) 0 0).ownBlock) (h1 : 1 ≤ R.C.length) :
    ∃ g c', v' = .slice (some ⟨g, 0, none⟩) R.C.length c' ∧ SY w w3 R A c gg cg g c' G M (.slice (some ⟨w.heap.size + 1, 0, none⟩) 0 0) [] := by
  rw [Nat.zero_add, List.nil_append] at ho
  have hlt := hP.lt
  have hg2 := hog.lt gg rfl
  obtain ⟨g, c', rfl, _, hg1, _⟩ := own_shape ho h1
  refine ⟨g, c', rfl, (hP.bel.alloc hP.bel.size _).grown hg (by have := hP.bel.size; simp; omega) (fun j hj => by simp [Value.ownBlock] at hj; omega), (hP.box.alloc _).grown hg (by simp [Value.ownBlock]; omega), own_grown (hog.alloc _) hg (.inr (by simp [Value.ownBlock]; omega)), own_mono ho (by omega), own_mono (own_grown (hP.own.alloc _) hg (.inr (by simp [Value.ownBlock]; omega))) (by omega), by simp [Value.ownBlock]; omega, by simp [Value.ownBlock]; omega⟩
theorem apartV_yes {R : Reg} {M N : List Int} (h : tiledB R.W R.T R.C M = true) (g : tiledB R.W R.T R.C N = true) : apartV R.W R.T R.C M N = dsum R N M / 4 := by
  unfold apartV dsum
  rw [h, g]
  rfl

set_option maxHeartbeats 4000000 in
set_option maxRecDepth 20000 in
theorem flipWayS_ok (R : Reg) (hR : R.ok) (hS : SimpleP R) (A : Option Addr) (c B : Nat) (M N : List Int) (D : Option Addr) (d : Nat) (E : Option Addr) (d2 : Nat) (hM : Tile R M) (hN : Tile R N) (w : World)
    (hr : Reads w B 1 A R.C.length (R.C.map Value.bool)) (h1 : Reads w B 1 D R.C.length (M.map (Value.int .i64))) (h2 : Reads w B 1 E R.C.length (N.map (Value.int .i64))) (hB : B ≤ w.heap.size) :
    Calls Try.prog 57 #[.agg #[.int .i64 R.W, .int .i64 R.T, .slice A R.C.length c], .slice D R.C.length d, .slice E R.C.length d2] w (RetIB w (wyOut R N M (wyN R N M)) true) := by
  have hl36 := (len_bd hR).2
  have hl1 := (len_bd hR).1
  have hcn := cn_bd hR
  have hMb := (tiled_ok hR).2 ⟨hS, hM.1, hM.2⟩
  have hNb := (tiled_ok hR).2 ⟨hS, hN.1, hN.2⟩
  have hAP : ∀ (L : List Int) (g1 : Option Addr) (e1 : Nat) w', Tile R L → Below w.heap.size w w' → Reads w' w'.heap.size 1 g1 R.C.length (L.map (Value.int .i64)) → Hid (Calls Try.prog 65 #[.agg #[.int .i64 R.W, .int .i64 R.T, .slice A R.C.length c], .slice g1 R.C.length e1, .slice E R.C.length d2] w' fun e w'' => e = .returned (.int .i64 (dsum R N L / 4)) ∧ Below w'.heap.size w' w'') := fun L g1 e1 w' hL h ha => by
    have := apartS_any R.W R.T A R.C.length c w'.heap.size R.C L g1 R.C.length e1 N E R.C.length d2 w' rfl hL.1.len hN.1.len ((hr.below (h.mono hB)).more (Nat.le_trans hB h.size)) ha ((h2.below (h.mono hB)).more (Nat.le_trans hB h.size)) (Nat.le_refl _) (by omega) (by omega) (by omega)
    rw [apartV_yes ((tiled_ok hR).2 ⟨hS, hL.1, hL.2⟩) hNb] at this
    exact hide this
  have hHT : ∀ (L : List Int) (g1 : Option Addr) (e1 : Nat) w', Tile R L → Below w.heap.size w w' → Reads w' w'.heap.size 1 g1 R.C.length (L.map (Value.int .i64)) → Hid (Calls Try.prog 60 #[.agg #[.int .i64 R.W, .int .i64 R.T, .slice A R.C.length c], .slice g1 R.C.length e1] w' fun e w'' => ∃ g c1 c2, e = .returned (.slice (some ⟨g, 0, none⟩) R.cn c1) ∧ w''.ownsRow w'.heap.size 3 1 (.slice (some ⟨g, 0, none⟩) R.cn c2) R.cn ((htsOf R.W R.T R.C L).map (Value.int .i64)) ∧ Below w'.heap.size w' w'') := fun L g1 e1 w' hL h ha => by
    have hlen := (hts_of_tile hR hS hL).len
    refine hide ((heightsOfS_any R.W R.T A R.C.length c w'.heap.size R.C L g1 R.C.length e1 w' rfl hL.1.len ((hr.below (h.mono hB)).more (Nat.le_trans hB h.size)) ha (Nat.le_refl _) (by omega) (by omega)).mono ?_)
    rintro e w'' h'
    obtain ⟨A1, c1, c2, rfl, ho, hb⟩ := ret_own h'
    rw [hlen] at ho ⊢
    obtain ⟨g, cg, hsh, _, _, _⟩ := own_shape ho (by omega)
    simp only [Value.slice.injEq, true_and] at hsh
    obtain ⟨rfl, rfl⟩ := hsh
    exact ⟨g, _, _, rfl, ho, hb⟩
  have hFS : ∀ (L : List Int) (g1 : Option Addr) (e1 : Nat) w', Tile R L → Below w.heap.size w w' → Reads w' w'.heap.size 1 g1 R.C.length (L.map (Value.int .i64)) → Hid (Calls Try.prog 113 #[.agg #[.int .i64 R.W, .int .i64 R.T, .slice A R.C.length c], .slice g1 R.C.length e1] w' (RetInts w' (flL R L fun _ => true))) := fun L g1 e1 w' hL h ha => by
    have := flipsOfS_any R.W R.T A R.C.length c w'.heap.size R.C L g1 R.C.length e1 w' rfl hL.1.len ((hr.below (h.mono hB)).more (Nat.le_trans hB h.size)) ha (Nat.le_refl _) (by omega) (by omega)
    rw [fsV_yes (by rw [laidB_ok hR]; exact (laysB_iff hR).2 hL.1)] at this
    exact hide this
  have hRI : ∀ (L : List Int) (q : Nat) (g1 : Option Addr) (e1 : Nat) w', Tile R L → Below w.heap.size w w' → Reads w' w'.heap.size 1 g1 R.C.length (L.map (Value.int .i64)) → Hid (Calls Try.prog 114 #[.agg #[.int .i64 R.W, .int .i64 R.T, .slice A R.C.length c], .slice g1 R.C.length e1, .int .i64 (q : Int)] w' fun e w'' => e = .returned (.int .i64 (rsV R L q)) ∧ Below w'.heap.size w' w'') := fun L q g1 e1 w' hL h ha => by
    have := flipRiseS_any R.W R.T A R.C.length c w'.heap.size R.C L g1 R.C.length e1 (q : Int) w' rfl hL.1.len ((hr.below (h.mono hB)).more (Nat.le_trans hB h.size)) ha (Nat.le_refl _) (by omega) (by omega)
    rw [frV_yes ((tiled_ok hR).2 ⟨hS, hL.1, hL.2⟩), rsZ_nat] at this
    exact hide this
  have hFO : ∀ (L : List Int) (q : Nat) (g1 : Option Addr) (e1 : Nat) w', Tile R L → Below w.heap.size w w' → Reads w' w'.heap.size 1 g1 R.C.length (L.map (Value.int .i64)) → Hid (Calls Try.prog 74 #[.agg #[.int .i64 R.W, .int .i64 R.T, .slice A R.C.length c], .slice g1 R.C.length e1, .int .i64 (q : Int)] w' (RetIB w' (flV R L (q : Int)) (flB R L (q : Int)))) := fun L q g1 e1 w' hL h ha =>
    hide (flipOneS_ok R hR A c w'.heap.size L g1 e1 (q : Int) hL.1 w' ((hr.below (h.mono hB)).more (Nat.le_trans hB h.size)) ha (Nat.le_refl _))
  have hap : 0 ≤ dsum R N M / 4 := by have := dsum_bd hR hS hM hN; omega
  have hTn := fun k => tile_wyIt (N := N) hR hM k
  have hNs := wyN_spec hR hS hM hN
  generalize wyN R N M = n at *
  obtain ⟨hn1, hn2, hn3⟩ := hNs
  have HN2 := Lib.hid hn2
  have HN3 := Lib.hid hn3
  have HTN := Lib.hid hTn
  have h00 := AW.start w R.W R.T A R.C.length c
  have hAP1 := hAP M D d _ hM h00.bel ((h1.below (h00.bel.mono hB)).more (Nat.le_trans hB h00.bel.size))
  have hdl : decide (dsum R N M / 4 < 0) = false := decide_eq_false (by omega)
  clear hn2 hn3 hTn
  generalize dsum R N M / 4 = z0 at *
  go_enter Try.func57, Try.ntmps57
  go_wp2_with fail
  refine (unhide hAP1).mono ?_
  rintro e w1 ⟨rfl, hb1⟩
  have hP1 := h00.below hb1
  clear hb1 h00 hAP1
  have hHT1 := hHT N E d2 w1 hN hP1.bel ((h2.below (hP1.bel.mono hB)).more (Nat.le_trans hB hP1.bel.size))
  obtain ⟨b0, b1, b2⟩ := hP1.cells
  go_wp2_with fail
  refine (unhide hHT1).mono ?_
  rintro e w2 ⟨gg, cgv, cg, rfl, hog, hb2⟩
  have hP2 := hP1.below hb2
  have h1' := h1.below (hP2.bel.mono hB)
  have hgg1 := hog.lt gg rfl
  have hP1l := hP1.lt
  clear b0 b1 b2 hb2 hHT1
  obtain ⟨b0, b1, b2⟩ := hP2.cells
  have ho1 : (w2.alloc (.cells #[] 3)).ownsRow w2.heap.size 3 1 (.slice (some ⟨w2.heap.size, 0, none⟩) 0 0) 0 [] := by simpa using World.ownsRow_made (base := w2.heap.size) (e := 3) (size := 1) w2 #[] 0 (by omega) (by simp [maxLen]) (by simp)
  have h1'' := h1'.alloc (Nat.le_trans hB hP2.bel.size) (.cells #[] 3)
  have hone := ints_one (L := M)
  have hog' := own_mono hog hP1.bel.size
  clear hog hP1
  go_wp2_with (at_builtin; refine wpList_appN rfl _ _ _ rfl w2.heap.size 3 _ 8 Try.underlying26 info_int rfl (by omega) (.slice (some ⟨w2.heap.size, 0, none⟩) 0 0) 0 [] rfl ho1 B D R.C.length d (M.map (Value.int .i64)) rfl h1'' hone (by omega) (by simp) ?_; rintro v' w3 ho3 hg3 _; obtain ⟨g, c', rfl, hS0⟩ := SY.start hP2 hog' (by omega) ho3 hg3 hl1; clear ho3 hg3)
  have hS0' : SY w w3 R A c gg cg g c' (htsOf R.W R.T R.C N) (wyIt R N M 0) (.slice (some ⟨w.heap.size + 1, 0, none⟩) 0 0) (wyOut R N M 0) := hS0
  clear hS0 ho1 h1'' hone hog' hP2 b0 b1 b2 hgg1 hP1l h1' h1
  have hdk : ∀ k, 0 < dsum R N (wyIt R N M k) / 4 ↔ wyIt R N M k ≠ N := fun k => dsum_pos hR hS (HTN.out k) hN
  have HDK := Lib.hid hdk
  clear hdk
  go_loopg [8, 10] n (fun r s8 s10 wr => ∃ (k g c' c2 : Nat), k + r = n ∧ s10 = .slice (some ⟨g, 0, none⟩) R.C.length c2 ∧ SY w wr R A c gg cg g c' (htsOf R.W R.T R.C N) (wyIt R N M k) s8 (wyOut R N M k))
  case atStart => exact ⟨0, _, _, _, by omega, rfl, hS0'⟩
  case round =>
    clear hS0'
    obtain ⟨k, g, c', c2, hk, rfl, hW⟩ := hrel
    have HK := Lib.hid hk
    clear hk
    have hTk := HTN.out k
    have hE := hAP _ (some ⟨g, 0, none⟩) c2 wr hTk hW.bel (Reads.of_own hW.now)
    obtain ⟨b0, b1, b2⟩ := blk3 hW.box
    by_cases hlt : k < n
    · have hne := HN3.out k hlt
      have hpos : decide (0 < dsum R N (wyIt R N M k) / 4) = true := decide_eq_true ((HDK.out k).2 hne)
      have hsome := wy_some hR hS hTk hN hne
      generalize dsum R N (wyIt R N M k) / 4 = z1 at *
      go_wp2_with fail
      refine (unhide hE).mono ?_
      rintro e w4 ⟨rfl, hb4⟩
      have hW4 := hW.below hb4
      have hHTk := hHT _ (some ⟨g, 0, none⟩) c2 w4 hTk hW4.bel (Reads.of_own hW4.now)
      clear hW hb4 b0 b1 b2 hE hne
      obtain ⟨b0, b1, b2⟩ := blk3 hW4.box
      go_wp2_with fail
      refine (unhide hHTk).mono ?_
      rintro e w5 ⟨gh, chv, ch, rfl, hoh, hb5⟩
      have hW5 := hW4.below hb5
      have hFSk := hFS _ (some ⟨g, 0, none⟩) c2 w5 hTk hW5.bel (Reads.of_own hW5.now)
      clear hW4 hb5 b0 b1 b2 hHTk hpos
      obtain ⟨b0, b1, b2⟩ := blk3 hW5.box
      go_wp2_with fail
      refine (unhide hFSk).mono ?_
      rintro e w6 ⟨A6, c6, c6', rfl, hof, hb6⟩
      have hW6 := hW5.below hb6
      have hoh6 := own_mono (base' := 0) (own_below hoh hb6 (Nat.le_refl _)) (by omega)
      have hof6 := own_mono (base' := 0) hof (by omega)
      clear hW5 hb6 b0 b1 b2 hFSk hoh hof
      cases hd : wyL R N (wyIt R N M k) with
      | nil => exact absurd hd hsome
      | cons z l =>
        obtain ⟨i0, hi0, hFi, hno⟩ := wy_first hd
        obtain ⟨j, rfl, hj, hfb, hpj, hst, hhd⟩ := wy_head hd
        have hfa := fun i (h : i < (flL R (wyIt R N M k) fun _ => true).length) => fl_at h
        have HS1 : Hid (wyIt R N M (k + 1) = flV R (wyIt R N M k) (j : Int) ∧ wyOut R N M (k + 1) = wyOut R N M k ++ [(j : Int)]) := Lib.hid ⟨hst, by rw [wyOut_succ, hhd]⟩
        clear hd hst hhd hsome
        have hF49 : (flL R (wyIt R N M k) fun _ => true).length ≤ 49 := by
          have := fsV_len (W := R.W) (T := R.T) (bs := R.C) (L := wyIt R N M k)
          rwa [fsV_yes (by rw [laidB_ok hR]; exact (laysB_iff hR).2 hTk.1)] at this
        generalize hFF : (flL R (wyIt R N M k) fun _ => true) = F at *
        clear hFF
        obtain ⟨gf, cf, hsf, _, _, _⟩ := own_shape hof6 (by omega)
        simp only [Value.slice.injEq, true_and] at hsf
        obtain ⟨rfl, rfl⟩ := hsf
        go_wp2_with fail
        go_loopg [8, 10, 13] (i0 + 1) (fun r s8 s10 s13 wr => ∃ i : Nat, i + r = i0 + 1 ∧ i ≤ i0 ∧ s13 = .int .i64 (i : Nat) ∧ s10 = .slice (some ⟨g, 0, none⟩) R.C.length c2 ∧ SY w wr R A c gg cg g c' (htsOf R.W R.T R.C N) (wyIt R N M k) s8 (wyOut R N M k) ∧ wr.ownsRow 0 3 1 (.slice (some ⟨gh, 0, none⟩) R.cn ch) R.cn ((htsOf R.W R.T R.C (wyIt R N M k)).map (Value.int .i64)) ∧ wr.ownsRow 0 3 1 (.slice (some ⟨gf, 0, none⟩) F.length c6) F.length (F.map (Value.int .i64)))
        case atStart => exact ⟨0, by omega, by omega, rfl, rfl, hW6, hoh6, hof6⟩
        case round =>
          clear hW6 hoh6 hof6
          obtain ⟨i, hi, hii, rfl, rfl, hW, hoh, hof⟩ := hrel
          have HI := Lib.hid hi
          clear hi
          obtain ⟨q, hFq, hqc, hqf⟩ := hfa i (by omega)
          have hltF : decide ((i : Int) < (F.length : Int)) = true := decide_eq_true (by omega)
          have hxq : ∀ {w' : World}, w'.ownsRow 0 3 1 (.slice (some ⟨gf, 0, none⟩) F.length c6) F.length (F.map (Value.int .i64)) → w'.cell? ⟨gf, i, none⟩ = some (.int .i64 (q : Nat)) := fun h => by
            rw [h.cellAt i (by omega), List.getElem?_map, ← hFq, List.getD_eq_getElem?_getD, List.getElem?_eq_getElem (by omega)]; rfl
          have hGq : ∀ {w' : World} {cg : Nat}, w'.ownsRow w.heap.size 3 1 (.slice (some ⟨gg, 0, none⟩) R.cn cg) R.cn ((htsOf R.W R.T R.C N).map (Value.int .i64)) → w'.cell? ⟨gg, q, none⟩ = some (.int .i64 ((htsOf R.W R.T R.C N).getD q 0)) := fun h => by
            rw [h.cellAt q (by omega), List.getElem?_map, List.getD_eq_getElem?_getD, List.getElem?_eq_getElem (by rw [(hts_of_tile hR hS hN).len]; exact hqc)]; rfl
          have hHq : ∀ {w' : World} {cg : Nat}, w'.ownsRow 0 3 1 (.slice (some ⟨gh, 0, none⟩) R.cn cg) R.cn ((htsOf R.W R.T R.C (wyIt R N M k)).map (Value.int .i64)) → w'.cell? ⟨gh, q, none⟩ = some (.int .i64 ((htsOf R.W R.T R.C (wyIt R N M k)).getD q 0)) := fun h => by
            rw [h.cellAt q (by omega), List.getElem?_map, List.getD_eq_getElem?_getD, List.getElem?_eq_getElem (by rw [(hts_of_tile hR hS hTk).len]; exact hqc)]; rfl
          have hWd := hW.below (Below.refl wr.heap.size wr).drew
          have hRIq := hRI _ q (some ⟨g, 0, none⟩) c2 _ hTk hWd.bel (Reads.of_own hWd.now)
          have hx := hxq hof
          obtain ⟨b0, b1, b2⟩ := blk3 hW.box
          have hup := wyP_up (N := N) (R := R) (M := wyIt R N M k) (k := q)
          have hdn := wyP_down (N := N) (R := R) (M := wyIt R N M k) (k := q)
          have hor := rsV_or hqf
          have hnoq : i < i0 → wyP R N (wyIt R N M k) q = false := fun h => by have := hno i h; rwa [hFq, Int.toNat_natCast] at this
          have hyeq : i = i0 → q = j := fun h => by rw [h, hFi] at hFq; omega
          have hyesq : i = i0 → wyP R N (wyIt R N M k) q = true := fun h => by rw [hyeq h]; exact hpj
          have HOL := Lib.hid (wyOut_len R N M k)
          have hoh' := own_below hoh (Below.refl wr.heap.size wr).drew (Nat.le_refl _)
          have hof' := own_below hof (Below.refl wr.heap.size wr).drew (Nat.le_refl _)
          have hFOq := fun w' h ha => hFO _ q (some ⟨g, 0, none⟩) c2 w' hTk h ha
          rw [hqf] at hFOq
          have hV2l : (flV R (wyIt R N M k) (q : Int)).length = R.C.length := by rw [flV_len]; exact hTk.1.len
          clear hW hoh hof hRI hFO hHT hFS hAP hr h2 hno hfa hM hN hTk hqf hpj hfb
          generalize rsV R (wyIt R N M k) q = rv at *
          go_upto_region 12 with fail
          go_region_with
            (first
              | (go_at_call 114; (with_reducible refine (unhide hRIq).mono ?_); rintro e w7 ⟨rfl, hb7⟩))
          all_goals
            have hW7 := hWd.below hb7
            have hoh7 := own_below hoh' hb7 (Nat.le_refl _)
            have hof7 := own_below hof' hb7 (Nat.le_refl _)
            have x1 := hxq hof7
            have x2 := hGq hW7.gow
            have x3 := hHq hoh7
            obtain ⟨d0, d1, d2⟩ := blk3 hW7.box
            clear hb7 hRIq hWd hoh' hof' hx b0 b1 b2 hGq hHq
            generalize (htsOf R.W R.T R.C N).getD q 0 = y at *
            generalize (htsOf R.W R.T R.C (wyIt R N M k)).getD q 0 = x at *
            have hstop : (i < i0 ∧ ((rv = 4 ∧ decide (x < y) = false) ∨ (rv = -4 ∧ decide (y < x) = false))) ∨ (i = i0 ∧ ((rv = 4 ∧ decide (x < y) = true) ∨ (rv = -4 ∧ decide (y < x) = true))) := by
              have hb : (i < i0 ∧ wyP R N (wyIt R N M k) q = false) ∨ (i = i0 ∧ wyP R N (wyIt R N M k) q = true) := by
                rcases Nat.lt_or_ge i i0 with h | h
                · exact .inl ⟨h, hnoq h⟩
                · exact .inr ⟨by omega, hyesq (by omega)⟩
              rcases hor with h | h
              · rw [hup h] at hb
                exact hb.elim (fun a => .inl ⟨a.1, .inl ⟨h, a.2⟩⟩) (fun a => .inr ⟨a.1, .inl ⟨h, a.2⟩⟩)
              · rw [hdn h] at hb
                exact hb.elim (fun a => .inl ⟨a.1, .inr ⟨h, a.2⟩⟩) (fun a => .inr ⟨a.1, .inr ⟨h, a.2⟩⟩)
            clear hup hdn hor hnoq hyesq
            rcases hstop with ⟨hlt0, hcase⟩ | ⟨hie, hcase⟩
            · rcases hcase with ⟨rfl, hc⟩ | ⟨rfl, hc⟩
              · go_simp
                go_upto_region 13 with fail
                go_big_quiet (fail)
                go_wp2_with fail
                go_roundg (i0 + 1 - (i + 1))
                case measure => have := HI.out; omega
                case rel => exact ⟨i + 1, by have := HI.out; omega, by omega, by go_num, rfl, hW7.below (below_drewN (Below.refl _ _) _), own_below hoh7 (below_drewN (Below.refl _ _) _) (Nat.le_refl _), own_below hof7 (below_drewN (Below.refl _ _) _) (Nat.le_refl _)⟩
              · go_simp
                go_upto_region 13 with fail
                go_big_quiet (fail)
                go_wp2_with fail
                go_roundg (i0 + 1 - (i + 1))
                case measure => have := HI.out; omega
                case rel => exact ⟨i + 1, by have := HI.out; omega, by omega, by go_num, rfl, hW7.below (below_drewN (Below.refl _ _) _), own_below hoh7 (below_drewN (Below.refl _ _) _) (Nat.le_refl _), own_below hof7 (below_drewN (Below.refl _ _) _) (Nat.le_refl _)⟩
            · have hqj := hyeq hie
              subst hqj
              clear hyeq hFi hFq
              subst hie
              rcases hcase with ⟨rfl, hc⟩ | ⟨rfl, hc⟩
              · have hc' : x < y := of_decide_eq_true hc
                go_simp
                go_upto_region 13 with fail
                go_big_quiet (fail)
                go_upto_region 14 with fail
                have hW8 := hW7.below (below_drewN (Below.refl w7.heap.size w7) nq)
                have hof8 := own_below hof7 (below_drewN (Below.refl w7.heap.size w7) nq) (Nat.le_refl _)
                clear x1 x2 x3 d0 d1 d2 hW7 hoh7 hof7 hc hc'
                generalize w7.drewN nq = w8 at *
                obtain ⟨d0, d1, d2⟩ := blk3 hW8.box
                have x1 := hxq hof8
                have hW8d := hW8.below (Below.refl w8.heap.size w8).drew
                have hof8d := own_below hof8 (Below.refl w8.heap.size w8).drew (Nat.le_refl _)
                have HF := hFOq _ hW8d.bel (Reads.of_own hW8d.now)
                clear hW8 hof8
                go_region_with
                  (first
                    | (go_at_call 74; (with_reducible refine (unhide HF).mono ?_); rintro e w9 ⟨A9, c9, c9', rfl, ho9, hb9⟩))
                all_goals
                  rw [hV2l] at ho9
                  obtain ⟨g9, cg9, hs9, _, _, _⟩ := own_shape ho9 hl1
                  simp only [Value.slice.injEq, true_and] at hs9
                  obtain ⟨rfl, rfl⟩ := hs9
                  have hW9 := hW8d.turn hb9 ho9
                  have hof9 := own_below hof8d hb9 (Nat.le_refl _)
                  have x9 := hxq hof9
                  clear x1 d0 d1 d2 hW8d hof8d HF hb9 ho9 hof9
                  go_simp
                  go_wp2_with (at_builtin; refine wpList_app rfl _ _ _ rfl w.heap.size 3 _ 8 Try.underlying26 info_int rfl (by omega) _ _ _ rfl (hW9.out.alloc _) w9.heap.size (.int .i64 (q : Nat)) rfl (by simp) rfl (by have := HOL.out; omega) (by have := hW9.bel.size; simp; omega) ?_; rintro g' cc' w10 hown hgr hgg _ _)
                  have hW10 := hW9.app hown hgr (by
                    rcases hgg with h | h
                    · exact .inl h
                    · exact .inr (by rw [h]; simp [Value.ownBlock]))
                  clear hown hgr hgg hW9 x9
                  go_wp2_with fail
                  go_roundg (n - (k + 1))
                  case measure => have := HK.out; omega
                  case rel => exact ⟨k + 1, g9, c9, c9', by have := HK.out; omega, by first | rfl | rw [hV2l], by rw [HS1.out.1, HS1.out.2]; exact hW10⟩
              · have hc' : y < x := of_decide_eq_true hc
                go_simp
                go_upto_region 13 with fail
                go_big_quiet (fail)
                go_upto_region 14 with fail
                have hW8 := hW7.below (below_drewN (Below.refl w7.heap.size w7) nq)
                have hof8 := own_below hof7 (below_drewN (Below.refl w7.heap.size w7) nq) (Nat.le_refl _)
                clear x1 x2 x3 d0 d1 d2 hW7 hoh7 hof7 hc hc'
                generalize w7.drewN nq = w8 at *
                obtain ⟨d0, d1, d2⟩ := blk3 hW8.box
                have x1 := hxq hof8
                have hW8d := hW8.below (Below.refl w8.heap.size w8).drew
                have hof8d := own_below hof8 (Below.refl w8.heap.size w8).drew (Nat.le_refl _)
                have HF := hFOq _ hW8d.bel (Reads.of_own hW8d.now)
                clear hW8 hof8
                go_region_with
                  (first
                    | (go_at_call 74; (with_reducible refine (unhide HF).mono ?_); rintro e w9 ⟨A9, c9, c9', rfl, ho9, hb9⟩))
                all_goals
                  rw [hV2l] at ho9
                  obtain ⟨g9, cg9, hs9, _, _, _⟩ := own_shape ho9 hl1
                  simp only [Value.slice.injEq, true_and] at hs9
                  obtain ⟨rfl, rfl⟩ := hs9
                  have hW9 := hW8d.turn hb9 ho9
                  have hof9 := own_below hof8d hb9 (Nat.le_refl _)
                  have x9 := hxq hof9
                  clear x1 d0 d1 d2 hW8d hof8d HF hb9 ho9 hof9
                  go_simp
                  go_wp2_with (at_builtin; refine wpList_app rfl _ _ _ rfl w.heap.size 3 _ 8 Try.underlying26 info_int rfl (by omega) _ _ _ rfl (hW9.out.alloc _) w9.heap.size (.int .i64 (q : Nat)) rfl (by simp) rfl (by have := HOL.out; omega) (by have := hW9.bel.size; simp; omega) ?_; rintro g' cc' w10 hown hgr hgg _ _)
                  have hW10 := hW9.app hown hgr (by
                    rcases hgg with h | h
                    · exact .inl h
                    · exact .inr (by rw [h]; simp [Value.ownBlock]))
                  clear hown hgr hgg hW9 x9
                  go_wp2_with fail
                  go_roundg (n - (k + 1))
                  case measure => have := HK.out; omega
                  case rel => exact ⟨k + 1, g9, c9, c9', by have := HK.out; omega, by first | rfl | rw [hV2l], by rw [HS1.out.1, HS1.out.2]; exact hW10⟩
    · obtain rfl : k = n := by have := HK.out; omega
      have hneg : decide (0 < dsum R N (wyIt R N M k) / 4) = false := decide_eq_false (by rw [(HDK.out k), HN2.out]; simp)
      generalize dsum R N (wyIt R N M k) / 4 = z1 at *
      go_wp2_with fail
      refine (unhide hE).mono ?_
      rintro e w4 ⟨rfl, hb4⟩
      have hW4 := hW.below hb4
      go_wp2_with fail
      obtain ⟨A', c'', rfl, hc', _⟩ := own_form hW4.out
      go_ret2
      exact ⟨_, _, _, rfl, hW4.out, hW4.bel⟩

end Go.Proofs.Ytpeifojfpkkcpaa

/-
  YtpeifojfpkkcpaaFzc: FlipWay of the reference: any input.
-/
namespace Go.Proofs.Ytpeifojfpkkcpaa
open Go.RowKit

theorem flipWayS_any (W T : Int) (A : Option Addr) (n c B : Nat) (bs : List Bool) (L1 : List Int) (D1 : Option Addr) (m1 d1 : Nat) (L2 : List Int) (D2 : Option Addr) (m2 d2 : Nat) (w : World) (hbl : bs.length = n) (hL1 : L1.length = m1) (hL2 : L2.length = m2)
    (hr : Reads w B 1 A n (bs.map Value.bool)) (h1 : Reads w B 1 D1 m1 (L1.map (Value.int .i64))) (h2 : Reads w B 1 D2 m2 (L2.map (Value.int .i64))) (hB : B ≤ w.heap.size) (hn : n ≤ 9223372036854775807) (hm1 : m1 ≤ 9223372036854775807) (hm2 : m2 ≤ 9223372036854775807) :
    Calls Try.prog 57 #[.agg #[.int .i64 W, .int .i64 T, .slice A n c], .slice D1 m1 d1, .slice D2 m2 d2] w (RetIB w (fwV W T bs L1 L2) (tiledB W T bs L1 && tiledB W T bs L2)) := by
  by_cases h : tiledB W T bs L1 = true ∧ tiledB W T bs L2 = true
  · obtain ⟨R, hR, rfl, rfl, rfl, hS, hLy, hF⟩ := tiled_cases h.1
    obtain ⟨hS2, hLy2, hF2⟩ := (tiled_ok hR).1 h.2
    rw [fwV_yes h.1 h.2, h.1, h.2]
    subst hbl
    obtain rfl : m1 = R.C.length := by rw [← hL1]; exact hLy.len
    obtain rfl : m2 = R.C.length := by rw [← hL2]; exact hLy2.len
    exact flipWayS_ok R hR hS A c B L1 L2 D1 d1 D2 d2 ⟨hLy, hF⟩ ⟨hLy2, hF2⟩ w hr h1 h2 hB
  · have hb : (tiledB W T bs L1 && tiledB W T bs L2) = false := by
      cases g1 : tiledB W T bs L1 with
      | false => rfl
      | true =>
        cases g2 : tiledB W T bs L2 with
        | false => rfl
        | true => exact absurd ⟨g1, g2⟩ h
    rw [fwV_no h, hb]
    exact flipWayS_no W T A n c B bs L1 D1 m1 d1 L2 D2 m2 d2 w hbl hL1 hL2 h hr h1 h2 hB hn hm1 hm2

theorem fwV_len {W T : Int} {bs : List Bool} {M N : List Int} : (fwV W T bs M N).length ≤ 1838 := by
  by_cases h : tiledB W T bs M = true ∧ tiledB W T bs N = true
  · obtain ⟨R, hR, rfl, rfl, rfl, hS, hLy, hF⟩ := tiled_cases h.1
    obtain ⟨_, hLy2, hF2⟩ := (tiled_ok hR).1 h.2
    rw [fwV_yes h.1 h.2, wyOut_len]
    exact (wyN_spec hR hS ⟨hLy, hF⟩ ⟨hLy2, hF2⟩).1
  · rw [fwV_no h]; simp

end Go.Proofs.Ytpeifojfpkkcpaa
