/-
  YthepfpiphlfgnaaGreatPq: the texts Pu, Pr, Ps, Pt, Pf, Pg in one file.
-/
import Derived.Test.YthepfpiphlfgnaaGreatFm
import Derived.Test.YthepfpiphlfgnaaGreatFd3
import Derived.Test.YthepfpiphlfgnaaGreatPv

/-
  YthepfpiphlfgnaaGreatPu: pushes: what they do, and the program's push, run, PushRun, PushOne.
-/
namespace Go.Proofs.YthepfpiphlfgnaaGreat
open Go.RowKit

/-- Does a push flip? -/
def puB (R : Reg) (L : List Int) (p : Int × Bool) : Bool := (decide (0 < rsZ R L p.1) && p.2) || (decide (rsZ R L p.1 < 0) && !p.2)
/-- The list behind a push, and behind several. -/
def puV (R : Reg) (L : List Int) (p : Int × Bool) : List Int := if puB R L p = true then flV R L p.1 else L
def ruV (R : Reg) (L : List Int) (ps : List (Int × Bool)) : List Int := ps.foldl (puV R) L
theorem puV_yes {R : Reg} {L : List Int} {p : Int × Bool} (h : puB R L p = true) : puV R L p = flV R L p.1 := by unfold puV; rw [if_pos h]
theorem puV_no {R : Reg} {L : List Int} {p : Int × Bool} (h : puB R L p = false) : puV R L p = L := by unfold puV; rw [if_neg (by rw [h]; decide)]
theorem tile_puV {R : Reg} (hR : R.ok) {L : List Int} (h : Tile R L) (p : Int × Bool) : Tile R (puV R L p) := by
  unfold puV
  split
  · exact tile_flV hR h _
  · exact h
theorem tile_ruV {R : Reg} (hR : R.ok) : ∀ {ps : List (Int × Bool)} {L : List Int}, Tile R L → Tile R (ruV R L ps)
  | [], _, h => h
  | p :: ps, _, h => tile_ruV (ps := ps) hR (tile_puV hR h p)
theorem ruV_succ {R : Reg} {L : List Int} {ps : List (Int × Bool)} {k : Nat} {p : Int × Bool} (h : ps[k]? = some p) : ruV R L (ps.take (k + 1)) = puV R (ruV R L (ps.take k)) p := by
  unfold ruV
  rw [List.take_add_one, h, List.foldl_append]
  rfl

/-- A fresh row, or the row that came in. -/
def PushRet (w : World) (D : Option Addr) (n d : Nat) (b : Bool) (L : List Int) (e : Ending) (w' : World) : Prop :=
  (b = true ∧ ∃ A c c', e = .returned (.slice A L.length c') ∧ w'.ownsRow w.heap.size 3 1 (.slice A L.length c) L.length (L.map (Value.int .i64)) ∧ Below w.heap.size w w') ∨ (b = false ∧ e = .returned (.slice D n d) ∧ Below w.heap.size w w')
/-- Behind a push of a row of one's own. -/
theorem push_own {w wr w' : World} {R : Reg} {M : List Int} {p : Int × Bool} {g c c' : Nat} {e : Ending} (h : PushRet wr (some ⟨g, 0, none⟩) R.C.length c' (puB R M p) (flV R M p.1) e w') (hl1 : 0 < R.C.length) (hM : M.length = R.C.length) (hs : w.heap.size ≤ wr.heap.size)
    (ho : wr.ownsRow w.heap.size 3 1 (.slice (some ⟨g, 0, none⟩) R.C.length c) R.C.length (M.map (Value.int .i64))) :
    ∃ g2 c2 c2', e = .returned (.slice (some ⟨g2, 0, none⟩) R.C.length c2') ∧ w'.ownsRow w.heap.size 3 1 (.slice (some ⟨g2, 0, none⟩) R.C.length c2) R.C.length ((puV R M p).map (Value.int .i64)) ∧ Below wr.heap.size wr w' := by
  rcases h with ⟨hb, A, c2, c2', rfl, h1, h2⟩ | ⟨hb, rfl, h2⟩
  · rw [puV_yes hb]
    have hl : (flV R M p.1).length = R.C.length := by rw [flV_len]; exact hM
    rw [hl] at h1 ⊢
    obtain ⟨g2, cg, hsh, _, _, _⟩ := own_shape h1 hl1
    simp only [Value.slice.injEq, true_and] at hsh
    obtain ⟨rfl, rfl⟩ := hsh
    exact ⟨g2, _, c2', rfl, own_mono h1 hs, h2⟩
  · rw [puV_no hb]
    exact ⟨g, c, c', rfl, own_below ho h2 (Nat.le_refl _), h2⟩

set_option maxHeartbeats 1000000 in
theorem push_any (R : Reg) (hR : R.ok) (hS : SimpleP R) (A : Option Addr) (c B : Nat) (L : List Int) (D : Option Addr) (d : Nat) (p : Int × Bool) (hk9 : p.1 ≤ 9223372036854775807) (hP : Plain D) (hL : Tile R L) (w : World)
    (hr : Reads w B 1 A R.C.length (R.C.map Value.bool)) (hd : Reads w B 1 D R.C.length (L.map (Value.int .i64))) (hB : B ≤ w.heap.size) :
    Calls Tryz.prog 45 #[.agg #[.int .i64 R.W, .int .i64 R.T, .slice A R.C.length c], .slice D R.C.length d, .agg #[.int .i64 p.1, .bool p.2]] w (PushRet w D R.C.length d (puB R L p) (flV R L p.1)) := by
  obtain ⟨k, up⟩ := p
  have HRI := fun w' (h : Below w.heap.size w w') => hide (rise_ok R hR hS A c B L D d k hk9 hP hL.1 hL.2 w' (hr.below (h.mono hB)) (hd.below (h.mono hB)) (Nat.le_trans hB h.size))
  have HFL := fun w' (h : Below w.heap.size w w') => hide (flip_any R hR A R.C.length c B L D d k hk9 hP hL.1.len w' (hd.below (h.mono hB)) (Nat.le_trans hB h.size))
  have HPB : Hid (puB R L (k, up) = ((decide (0 < rsZ R L k) && up) || (decide (rsZ R L k < 0) && !up))) := Lib.hid rfl
  generalize puB R L (k, up) = b at *
  generalize rsZ R L k = z at *
  go_enter Tryz.func45, Tryz.ntmps45
  have hb0 : Below w.heap.size w ((w.alloc (boxR R.W R.T A R.C.length c)).alloc (.cells #[.int .i64 k, .bool up] 33)) := ((Below.refl _ _).alloc (Nat.le_refl _) _).alloc (by simp) _
  have k0 : Blk ((w.alloc (boxR R.W R.T A R.C.length c)).alloc (.cells #[.int .i64 k, .bool up] 33)) w.heap.size 25 #[.int .i64 R.W, .int .i64 R.T, .slice A R.C.length c] := (Blk.new _ _ _).alloc _
  have k1 : Blk ((w.alloc (boxR R.W R.T A R.C.length c)).alloc (.cells #[.int .i64 k, .bool up] 33)) (w.heap.size + 1) 33 #[.int .i64 k, .bool up] := by
    have := Blk.new (w.alloc (boxR R.W R.T A R.C.length c)) 33 #[.int .i64 k, .bool up]
    simpa using this
  go_wp2_with fail
  refine (unhide (HRI _ hb0)).mono ?_
  rintro e w1 ⟨rfl, hb1⟩
  have hB1 := hb0.trans (hb1.mono hb0.size)
  have h0 := k0.below hb1 k0.lt
  have h1 := k1.below hb1 k1.lt
  obtain ⟨b0, b1, b2⟩ := blk3 h0
  have p0 := h1.cell 0
  have p1 := h1.cell 1
  simp at p0 p1
  clear k0 k1 h0 h1 hb1 hb0 HRI
  have HF := HFL w1 hB1
  clear HFL
  have hno : b = false → PushRet w D R.C.length d b (flV R L k) (.returned (.slice D R.C.length d)) w1 := fun h => .inr ⟨h, rfl, hB1⟩
  have hyes : ∀ (A1 : Option Addr) (c1 c1' : Nat) (w2 : World), b = true → w2.ownsRow w1.heap.size 3 1 (.slice A1 (flV R L k).length c1) (flV R L k).length ((flV R L k).map (Value.int .i64)) → Below w1.heap.size w1 w2 → PushRet w D R.C.length d b (flV R L k) (.returned (.slice A1 (flV R L k).length c1')) w2 :=
    fun A1 c1 c1' w2 h ho hb => .inl ⟨h, A1, c1, c1', rfl, own_mono ho hB1.size, hB1.trans (hb.mono hB1.size)⟩
  generalize flV R L k = X at *
  cases up <;> cases z1 : decide (0 < z) <;> cases z2 : decide (z < 0)
  all_goals
    first
      | (have hb' : b = false := by rw [HPB.out, z1, z2]; rfl
         go_wp2_with fail
         go_ret
         exact hno hb')
      | (have hb' : b = true := by rw [HPB.out, z1, z2]; rfl
         go_wp2_with fail
         refine (unhide HF).mono ?_
         rintro e w2 ⟨A1, c1, c1', rfl, ho, hb2⟩
         go_wp2_with fail
         go_ret
         exact hyes _ _ _ _ hb' ho hb2)

set_option maxHeartbeats 1000000 in
theorem run_any (R : Reg) (hR : R.ok) (hS : SimpleP R) (A : Option Addr) (c B : Nat) (L : List Int) (D : Option Addr) (d : Nat) (P : Option Addr) (m pc' E : Nat) (ps : List (Int × Bool)) (hk9 : ∀ p ∈ ps, p.1 ≤ 9223372036854775807) (hP : Plain D) (hL : Tile R L) (w : World)
    (hr : Reads w B 1 A R.C.length (R.C.map Value.bool)) (hd : Reads w B 1 D R.C.length (L.map (Value.int .i64))) (hB : B ≤ w.heap.size) (hm : ps.length = m) (hp : Reads w E 2 P m (pc ps)) (hE : E ≤ w.heap.size) (hmm : m ≤ 9223372036854775807) :
    Calls Tryz.prog 15 #[.agg #[.int .i64 R.W, .int .i64 R.T, .slice A R.C.length c], .slice D R.C.length d, .slice P m pc'] w (RetInts w (ruV R L ps)) := by
  have hl36 := (len_bd hR).2
  have hl1 := (len_bd hR).1
  have hCL := fun w' (h : Below w.heap.size w w') => hide (clone_any D d B L w' hP (by rw [hL.1.len]; exact hd.below (h.mono hB)) (by rw [hL.1.len]; omega))
  simp only [hL.1.len] at hCL
  have hTn := fun k => tile_ruV hR hL (ps := ps.take k)
  have hPU : ∀ (k : Nat) (p : Int × Bool) (w' : World) (g e1 : Nat), ps[k]? = some p → Below w.heap.size w w' → Reads w' w'.heap.size 1 (some ⟨g, 0, none⟩) R.C.length ((ruV R L (ps.take k)).map (Value.int .i64)) → Hid (Calls Tryz.prog 45 #[.agg #[.int .i64 R.W, .int .i64 R.T, .slice A R.C.length c], .slice (some ⟨g, 0, none⟩) R.C.length e1, .agg #[.int .i64 p.1, .bool p.2]] w' (PushRet w' (some ⟨g, 0, none⟩) R.C.length e1 (puB R (ruV R L (ps.take k)) p) (flV R (ruV R L (ps.take k)) p.1))) :=
    fun k p w' g e1 hkp h ha => hide (push_any R hR hS A c w'.heap.size _ (some ⟨g, 0, none⟩) e1 p (hk9 p (List.mem_of_getElem? hkp)) (.inr ⟨_, _, rfl⟩) (hTn k) w' ((hr.below (h.mono hB)).more (Nat.le_trans hB h.size)) ha (Nat.le_refl _))
  have hlT := fun k => (hTn k).1.len
  have hsucc := fun k p h => ruV_succ (R := R) (L := L) (ps := ps) (k := k) (p := p) h
  have hfin : ruV R L (ps.take m) = ruV R L ps := by rw [← hm, List.take_length]
  have h0T : ruV R L (ps.take 0) = L := by simp [ruV]
  have HLT := Lib.hid hlT
  have HSU := Lib.hid hsucc
  have HFI := Lib.hid hfin
  have hlf : (ruV R L ps).length = R.C.length := (tile_ruV hR hL).1.len
  have HLF := Lib.hid hlf
  have HM := Lib.hid hm
  clear hlT hsucc hfin hTn hlf hk9
  have hb0 : Below w.heap.size w (w.alloc (boxR R.W R.T A R.C.length c)) := (Below.refl _ _).alloc (Nat.le_refl _) _
  have k0 : Blk (w.alloc (boxR R.W R.T A R.C.length c)) w.heap.size 25 #[.int .i64 R.W, .int .i64 R.T, .slice A R.C.length c] := Blk.new _ _ _
  go_enter Tryz.func15, Tryz.ntmps15
  go_wp2_with fail
  refine (unhide (hCL _ hb0)).mono ?_
  rintro e w1 ⟨A1, c1, rfl, ho1, hb1⟩
  rw [hL.1.len] at ho1 ⊢
  obtain ⟨g, cg, hsh, _, _, _⟩ := own_shape ho1 hl1
  simp only [Value.slice.injEq, true_and] at hsh
  obtain ⟨rfl, rfl⟩ := hsh
  have hW1 : DA w w1 R A c g c1 (ruV R L (ps.take 0)) := by rw [h0T]; exact ⟨hb0.trans (hb1.mono hb0.size), k0.below hb1 k0.lt, own_mono ho1 hb0.size⟩
  clear hb1 ho1 hb0 k0 hCL h0T hm hL
  go_wp2_with fail
  go_loopg [7, 14] m (fun r s7 s14 wr => ∃ (k g c' c2 : Nat), k + r = m ∧ s14 = .int .i64 (k : Nat) ∧ s7 = .slice (some ⟨g, 0, none⟩) R.C.length c2 ∧ DA w wr R A c g c' (ruV R L (ps.take k)))
  case atStart => exact ⟨0, _, _, _, by omega, rfl, rfl, hW1⟩
  case round =>
    clear hW1
    obtain ⟨k, g, c', c2, hk, rfl, rfl, hW⟩ := hrel
    have HK := Lib.hid hk
    clear hk
    by_cases hlt : k < m
    · obtain ⟨ad, p, rfl, hab, hpk, hcell, hcell2⟩ := (hp.below (hW.bel.mono hE)).push HM.out hlt
      have HS1 := Lib.hid (HSU.out k p hpk)
      have hPk := fun w' g e1 => hPU k p w' g e1 hpk
      have hlk := Lib.hid (HLT.out k)
      clear hPU hpk
      generalize ruV R L (ps.take k) = M1 at *
      have hW2 : DA w (wr.alloc (.cells #[.int .i64 p.1, .bool p.2] 33)) R A c g c' M1 := hW.below ((Below.refl _ _).alloc (Nat.le_refl _) _)
      have hlt0 := hW.box.lt
      have hPk2 := hPk _ g c2 hW2.bel (Reads.of_own hW2.own)
      obtain ⟨b0, b1, b2⟩ := blk3 hW.box
      go_wp2_with fail
      refine (unhide hPk2).mono ?_
      intro e w2 hret
      obtain ⟨g2, c3, c3', rfl, ho2, hb2⟩ := push_own hret hl1 hlk.out hW2.bel.size hW2.own
      have hW3 : DA w w2 R A c g2 c3 (puV R M1 p) := ⟨hW2.bel.trans (hb2.mono hW2.bel.size), hW2.box.below hb2 hW2.box.lt, ho2⟩
      clear b0 b1 b2 hret hb2 ho2 hW2 hW hcell hcell2 hPk2
      go_wp2_with fail
      go_roundg (m - (k + 1))
      case measure => have := HK.out; omega
      case rel => exact ⟨k + 1, g2, c3, c3', by have := HK.out; omega, by go_num, rfl, by rw [HS1.out]; exact hW3⟩
    · obtain rfl : k = m := by have := HK.out; omega
      rw [HFI.out] at hW
      go_wp2_with fail
      go_ret
      exact ⟨_, c', c2, by rw [HLF.out]; rfl, by rw [HLF.out]; exact hW.own, hW.bel⟩

end Go.Proofs.YthepfpiphlfgnaaGreat

/-
  YthepfpiphlfgnaaGreatPr: PushRun and PushOne of the program, PushOne of the reference.
-/
namespace Go.Proofs.YthepfpiphlfgnaaGreat
open Go.RowKit

noncomputable def prV (W T : Int) (bs : List Bool) (L : List Int) (ps : List (Int × Bool)) : List Int := if tiledB W T bs L = true ∧ pushesB W T bs ps = true then ruV ⟨W.toNat, T.toNat, bs⟩ L ps else []
theorem prV_yes {R : Reg} {L : List Int} {ps : List (Int × Bool)} (h : tiledB R.W R.T R.C L = true) (g : pushesB R.W R.T R.C ps = true) : prV R.W R.T R.C L ps = ruV R L ps := by unfold prV; rw [if_pos ⟨h, g⟩]; rfl
theorem prV_no {W T : Int} {bs : List Bool} {L : List Int} {ps : List (Int × Bool)} (h : ¬ (tiledB W T bs L = true ∧ pushesB W T bs ps = true)) : prV W T bs L ps = [] := by unfold prV; exact if_neg h
theorem pushes_bd {W T : Int} {bs : List Bool} {ps : List (Int × Bool)} (h : pushesB W T bs ps = true) : ∀ p ∈ ps, 0 ≤ p.1 ∧ p.1 ≤ 48 := by
  intro p hp
  unfold pushesB at h
  rw [Bool.and_eq_true, Bool.and_eq_true, List.all_eq_true] at h
  have h1 := h.2.2 p hp
  have h2 := (cornersB_bd W T bs).2
  unfold inB at h1
  rw [decide_eq_true_eq] at h1
  omega
theorem pushes_simple {W T : Int} {bs : List Bool} {ps : List (Int × Bool)} (h : pushesB W T bs ps = true) : simpleB W T bs = true := by
  unfold pushesB at h
  rw [Bool.and_eq_true] at h
  exact h.1
theorem pc_one (k : Int) (up : Bool) : pc [(k, up)] = [.int .i64 k, .bool up] := rfl
/-- A push, built. -/
theorem reads_push (w : World) (k : Int) (up : Bool) : Reads (w.alloc (.cells #[.int .i64 k, .bool up] 33)) (w.heap.size + 1) 2 (some ⟨w.heap.size, 0, none⟩) 1 (pc [(k, up)]) := by
  have h := Blk.new w 33 #[.int .i64 k, .bool up]
  refine ⟨rfl, fun _ => ⟨_, rfl, Nat.lt_succ_self _, fun j u hu => ?_⟩⟩
  rw [pc_one] at hu
  match j, hu with
  | 0, hu =>
    injection hu with hu
    subst hu
    exact h.cell 0
  | 1, hu =>
    injection hu with hu
    subst hu
    rw [show (⟨w.heap.size, 0, none⟩ : Addr).add 1 = ⟨w.heap.size, 1, none⟩ by simp [Addr.add]]
    exact h.cell 1
  | j + 2, hu => simp at hu



end Go.Proofs.YthepfpiphlfgnaaGreat

/-
  YthepfpiphlfgnaaGreatPs: PushOne of the reference.
-/
namespace Go.Proofs.YthepfpiphlfgnaaGreat
open Go.RowKit

theorem prV_one {R : Reg} {L : List Int} {p : Int × Bool} (h : tiledB R.W R.T R.C L = true) (g : pushesB R.W R.T R.C [p] = true) : prV R.W R.T R.C L [p] = puV R L p := prV_yes h g
/-- A push flips exactly if .. -/
theorem puB_up {R : Reg} {L : List Int} {k : Nat} (h : flB R L (k : Int) = true) (up : Bool) : puB R L ((k : Int), up) = ((up && (rsV R L k == 4)) || (!up && (rsV R L k == -4))) := by
  unfold puB
  rw [show rsZ R L (k : Int) = rsV R L k from rsZ_nat R L k]
  rcases rsV_or h with e | e <;> rw [e] <;> cases up <;> rfl
theorem puB_fl {R : Reg} {L : List Int} {k : Int} (h : flB R L k = false) (up : Bool) : puB R L (k, up) = false := by
  unfold puB
  rw [rsZ_no h]
  cases up <;> rfl

set_option maxHeartbeats 2000000 in
set_option maxRecDepth 20000 in
theorem pushOneS_any (W T : Int) (A : Option Addr) (n c B : Nat) (bs : List Bool) (L : List Int) (D : Option Addr) (m d : Nat) (k : Int) (up : Bool) (w : World) (hbl : bs.length = n) (hL : L.length = m)
    (hr : Reads w B 1 A n (bs.map Value.bool)) (hd : Reads w B 1 D m (L.map (Value.int .i64))) (hB : B ≤ w.heap.size) (hn : n ≤ 9223372036854775807) (hm : m ≤ 9223372036854775807) :
    Calls Tryz.prog 55 #[.agg #[.int .i64 W, .int .i64 T, .slice A n c], .slice D m d, .agg #[.int .i64 k, .bool up]] w (RetInts w (prV W T bs L [(k, up)])) := by
  have hb0 : Below w.heap.size w ((w.alloc (boxR W T A n c)).alloc (.cells #[.int .i64 k, .bool up] 33)) := ((Below.refl _ _).alloc (Nat.le_refl _) _).alloc (by simp) _
  have k0 : Blk ((w.alloc (boxR W T A n c)).alloc (.cells #[.int .i64 k, .bool up] 33)) w.heap.size 25 #[.int .i64 W, .int .i64 T, .slice A n c] := (Blk.new _ _ _).alloc _
  have k1 : Blk ((w.alloc (boxR W T A n c)).alloc (.cells #[.int .i64 k, .bool up] 33)) (w.heap.size + 1) 33 #[.int .i64 k, .bool up] := by
    have := Blk.new (w.alloc (boxR W T A n c)) 33 #[.int .i64 k, .bool up]
    simpa using this
  have hTO := fun w' (h : Below w.heap.size w w') => hide (tilingOkS_any W T A n c B bs L D m d w' hbl hL (hr.below (h.mono hB)) (hd.below (h.mono hB)) (Nat.le_trans hB h.size) hn hm)
  have hPV := fun w' (h : Below w.heap.size w w') => hide (PushesValidS_any W T A n c B bs (some ⟨w'.heap.size, 0, none⟩) 1 1 (w'.heap.size + 1) [(k, up)] _ hbl (hr.below ((h.alloc h.size (.cells #[.int .i64 k, .bool up] 33)).mono hB)) (Nat.le_trans hB (h.alloc h.size (.cells #[.int .i64 k, .bool up] 33)).size) hn rfl (reads_push w' k up) (by simp) (by omega))
  cases ht : tilingB W T bs L with
  | false =>
    have hno : prV W T bs L [(k, up)] = [] := prV_no (by unfold tiledB; rw [ht]; simp)
    rw [hno]
    simp only [ht] at hTO
    clear hPV hno
    go_enter Tryz.func55, Tryz.ntmps55
    go_upto_region 1 with fail
    generalize (w.alloc (boxR W T A n c)).alloc (.cells #[.int .i64 k, .bool up] 33) = w1 at *
    obtain ⟨b0, b1, b2⟩ := blk3 k0
    clear k0 k1
    go_wp2_with fail
    refine (unhide (hTO _ hb0)).mono ?_
    rintro e w2 ⟨rfl, hb2⟩
    have hB2 := hb0.trans (hb2.mono hb0.size)
    go_wp2_with fail
    go_ret
    have ho := World.ownsRow_made (base := w.heap.size) (e := 3) (size := 1) w2 #[] 0 hB2.size (by simp [maxLen]) (by simp)
    exact ⟨_, 0, 0, rfl, by simpa using ho, hB2.alloc hB2.size _⟩
  | true =>
    cases hv : pushesB W T bs [(k, up)] with
    | false =>
      have hno : prV W T bs L [(k, up)] = [] := prV_no (by rw [hv]; simp)
      rw [hno]
      simp only [ht] at hTO
      simp only [hv] at hPV
      clear hno
      go_enter Tryz.func55, Tryz.ntmps55
      go_upto_region 1 with fail
      generalize (w.alloc (boxR W T A n c)).alloc (.cells #[.int .i64 k, .bool up] 33) = w1 at *
      obtain ⟨b0, b1, b2⟩ := blk3 k0
      go_wp2_with fail
      refine (unhide (hTO _ hb0)).mono ?_
      rintro e w2 ⟨rfl, hb2⟩
      have hB2 := hb0.trans (hb2.mono hb0.size)
      clear b0 b1 b2
      obtain ⟨b0, b1, b2⟩ := blk3 (k0.below hb2 k0.lt)
      have k2 := k1.below hb2 k1.lt
      have p0 := k2.cell 0
      have p1 := k2.cell 1
      simp at p0 p1
      clear k0 k1 k2 hb2
      go_wp2_with fail
      refine (unhide (hPV _ hB2)).mono ?_
      rintro e w3 ⟨rfl, hb3⟩
      have hB3 := (hB2.alloc hB2.size (.cells #[.int .i64 k, .bool up] 33))
      have hB4 := hB3.trans (hb3.mono hB3.size)
      go_wp2_with fail
      go_ret
      have ho := World.ownsRow_made (base := w.heap.size) (e := 3) (size := 1) w3 #[] 0 hB4.size (by simp [maxLen]) (by simp)
      exact ⟨_, 0, 0, rfl, by simpa using ho, hB4.alloc hB4.size _⟩
    | true =>
      have ht' : tiledB W T bs L = true := by unfold tiledB; rw [ht, pushes_simple hv]; rfl
      obtain ⟨R, hR, rfl, rfl, rfl, hS, hLy, hF⟩ := tiled_cases ht'
      have hbd := pushes_bd hv _ (List.mem_singleton.2 rfl)
      dsimp only at hbd
      obtain ⟨q, rfl⟩ := Int.eq_ofNat_of_zero_le hbd.1
      rw [prV_one ht' hv]
      subst hbl
      obtain rfl : m = R.C.length := by rw [← hL]; exact hLy.len
      have hl36 := (len_bd hR).2
      have hl1 := (len_bd hR).1
      have hFM := fun w' (h : Below w.heap.size w w') => hide (flipMayS_ok R hR A c B L D d (q : Int) hLy w' (hr.below (h.mono hB)) (hd.below (h.mono hB)) (Nat.le_trans hB h.size))
      have hFO := fun w' (h : Below w.heap.size w w') => hide (flipOneS_ok R hR A c B L D d (q : Int) hLy w' (hr.below (h.mono hB)) (hd.below (h.mono hB)) (Nat.le_trans hB h.size))
      have hRI := fun w' (h : Below w.heap.size w w') => hide (flipRiseS_any R.W R.T A R.C.length c B R.C L D R.C.length d (q : Int) w' rfl hL (hr.below (h.mono hB)) (hd.below (h.mono hB)) (Nat.le_trans hB h.size) hn hm)
      simp only [frV_yes ht', rsZ_nat] at hRI
      simp only [ht] at hTO
      simp only [hv] at hPV
      have hVl : (flV R L (q : Int)).length = R.C.length := by rw [flV_len]; exact hL
      have hup := fun h => puB_up (R := R) (L := L) (k := q) h up
      have hpf := fun h => puB_fl (R := R) (L := L) (k := (q : Int)) h up
      have hyes := puV_yes (R := R) (L := L) (p := ((q : Int), up))
      have hnoo := puV_no (R := R) (L := L) (p := ((q : Int), up))
      have hor := fun h => rsV_or (R := R) (L := L) (k := q) h
      generalize puB R L ((q : Int), up) = b at *
      generalize puV R L ((q : Int), up) = X at *
      generalize rsV R L q = rv at *
      generalize flB R L (q : Int) = fb at *
      clear ht hv ht' hS hLy hF hbd
      go_enter Tryz.func55, Tryz.ntmps55
      go_upto_region 1 with fail
      generalize (w.alloc (boxR R.W R.T A R.C.length c)).alloc (.cells #[.int .i64 q, .bool up] 33) = w1 at *
      obtain ⟨b0, b1, b2⟩ := blk3 k0
      go_wp2_with fail
      refine (unhide (hTO _ hb0)).mono ?_
      rintro e w2 ⟨rfl, hb2⟩
      have hB2 := hb0.trans (hb2.mono hb0.size)
      clear b0 b1 b2
      have k0' := k0.below hb2 k0.lt
      have k2 := k1.below hb2 k1.lt
      obtain ⟨b0, b1, b2⟩ := blk3 k0'
      have p0 := k2.cell 0
      have p1 := k2.cell 1
      simp at p0 p1
      clear k0 k1 hb2 hTO
      go_wp2_with fail
      refine (unhide (hPV _ hB2)).mono ?_
      rintro e w3 ⟨rfl, hb3⟩
      have hB3' := (hB2.alloc hB2.size (.cells #[.int .i64 q, .bool up] 33))
      have hB3 := hB3'.trans (hb3.mono hB3'.size)
      have k3 := (k0'.alloc (.cells #[.int .i64 q, .bool up] 33)).below hb3 (k0'.alloc _).lt
      have k4 := (k2.alloc (.cells #[.int .i64 q, .bool up] 33)).below hb3 (k2.alloc _).lt
      clear b0 b1 b2 p0 p1 k0' k2 hb3 hPV hB3' hB2
      obtain ⟨b0, b1, b2⟩ := blk3 k3
      have p0 := k4.cell 0
      have p1 := k4.cell 1
      simp at p0 p1
      go_wp2_with fail
      refine (unhide (hFM _ hB3)).mono ?_
      rintro e w4 ⟨rfl, hb4⟩
      have hB4 := hB3.trans (hb4.mono hB3.size)
      have k5 := k3.below hb4 k3.lt
      have k6 := k4.below hb4 k4.lt
      clear b0 b1 b2 p0 p1 k3 k4 hb4 hFM hB3
      obtain ⟨b0, b1, b2⟩ := blk3 k5
      have p0 := k6.cell 0
      have p1 := k6.cell 1
      simp at p0 p1
      cases fb with
      | false =>
        have hX := hnoo (hpf rfl)
        subst hX
        have hONE := ints_one (L := X)
        clear hyes hnoo hpf hor hup hRI hFO
        cases up
        all_goals
          have ho1 : (w4.alloc (.cells #[] 3)).ownsRow w4.heap.size 3 1 (.slice (some ⟨w4.heap.size, 0, none⟩) 0 0) 0 [] := by simpa using World.ownsRow_made (base := w4.heap.size) (e := 3) (size := 1) w4 #[] 0 (by omega) (by simp [maxLen]) (by simp)
          have hBa := hB4.alloc hB4.size (.cells #[] 3)
          have hda := hd.below (hBa.mono hB)
          go_wp2_with (at_builtin; refine wpList_appN rfl _ _ _ rfl w4.heap.size 3 _ 8 Tryz.underlying42 info_int rfl (by omega) (.slice (some ⟨w4.heap.size, 0, none⟩) 0 0) 0 [] rfl ho1 B D R.C.length d (X.map (Value.int .i64)) rfl hda hONE (by omega) (by simp) ?_; rintro v' w9 ho9 hg9 _; rw [Nat.zero_add, List.nil_append] at ho9; obtain ⟨g9, c9, rfl, _, _, _⟩ := own_shape ho9 hl1)
          go_ret
          exact ⟨some ⟨g9, 0, none⟩, c9, c9, by rw [hL]; rfl, by rw [hL]; exact own_mono ho9 hB4.size, hBa.grown hg9 hBa.size (fun j hj => by have := hB4.size; simp [Value.ownBlock] at hj; omega)⟩
      | true =>
        have hbb := hup rfl
        have hrv := hor rfl
        clear hup hor hpf
        go_wp2_with fail
        refine (unhide (hRI _ hB4)).mono ?_
        rintro e w5 ⟨rfl, hb5⟩
        have hB5 := hB4.trans (hb5.mono hB4.size)
        have k7 := k5.below hb5 k5.lt
        have k8 := k6.below hb5 k6.lt
        clear b0 b1 b2 p0 p1 k5 k6 hb5 hRI hB4
        obtain ⟨b0, b1, b2⟩ := blk3 k7
        have p0 := k8.cell 0
        have p1 := k8.cell 1
        simp at p0 p1
        have hHF := hFO _ hB5
        have hflip : (up = true ∧ rv = 4) ∨ (up = false ∧ rv = -4) ∨ (b = false ∧ ((up = true ∧ rv = -4) ∨ (up = false ∧ rv = 4))) := by
          rcases hrv with rfl | rfl <;> cases up
          · exact .inr (.inr ⟨by rw [hbb]; rfl, .inr ⟨rfl, rfl⟩⟩)
          · exact .inl ⟨rfl, rfl⟩
          · exact .inr (.inl ⟨rfl, rfl⟩)
          · exact .inr (.inr ⟨by rw [hbb]; rfl, .inl ⟨rfl, rfl⟩⟩)
        rcases hflip with ⟨rfl, rfl⟩ | ⟨rfl, rfl⟩ | ⟨hb0', hc⟩
        · have hX := hyes (by rw [hbb]; rfl)
          subst hX
          clear hyes hnoo hbb hrv
          go_wp2_with fail
          refine (unhide hHF).mono ?_
          rintro e w6 ⟨A6, c6, c6', rfl, ho6, hb6⟩
          go_wp2_with fail
          go_ret
          exact ⟨_, _, _, by rw [hVl]; rfl, own_mono ho6 hB5.size, hB5.trans (hb6.mono hB5.size)⟩
        · have hX := hyes (by rw [hbb]; rfl)
          subst hX
          clear hyes hnoo hbb hrv
          go_wp2_with fail
          refine (unhide hHF).mono ?_
          rintro e w6 ⟨A6, c6, c6', rfl, ho6, hb6⟩
          go_wp2_with fail
          go_ret
          exact ⟨_, _, _, by rw [hVl]; rfl, own_mono ho6 hB5.size, hB5.trans (hb6.mono hB5.size)⟩
        · have hX := hnoo hb0'
          subst hX
          have hONE := ints_one (L := X)
          clear hyes hnoo hbb hrv hb0' hHF hFO
          rcases hc with ⟨rfl, rfl⟩ | ⟨rfl, rfl⟩
          all_goals
            have ho1 : (w5.alloc (.cells #[] 3)).ownsRow w5.heap.size 3 1 (.slice (some ⟨w5.heap.size, 0, none⟩) 0 0) 0 [] := by simpa using World.ownsRow_made (base := w5.heap.size) (e := 3) (size := 1) w5 #[] 0 (by omega) (by simp [maxLen]) (by simp)
            have hBa := hB5.alloc hB5.size (.cells #[] 3)
            have hda := hd.below (hBa.mono hB)
            go_wp2_with (at_builtin; refine wpList_appN rfl _ _ _ rfl w5.heap.size 3 _ 8 Tryz.underlying42 info_int rfl (by omega) (.slice (some ⟨w5.heap.size, 0, none⟩) 0 0) 0 [] rfl ho1 B D R.C.length d (X.map (Value.int .i64)) rfl hda hONE (by omega) (by simp) ?_; rintro v' w9 ho9 hg9 _; rw [Nat.zero_add, List.nil_append] at ho9; obtain ⟨g9, c9, rfl, _, _, _⟩ := own_shape ho9 hl1)
            go_ret
            exact ⟨some ⟨g9, 0, none⟩, c9, c9, by rw [hL]; rfl, by rw [hL]; exact own_mono ho9 hB5.size, hBa.grown hg9 hBa.size (fun j hj => by have := hB5.size; simp [Value.ownBlock] at hj; omega)⟩

end Go.Proofs.YthepfpiphlfgnaaGreat

/-
  YthepfpiphlfgnaaGreatPt: PushRun of the reference.
-/
namespace Go.Proofs.YthepfpiphlfgnaaGreat
open Go.RowKit

theorem pushes_one {W T : Int} {bs : List Bool} {ps : List (Int × Bool)} (h : pushesB W T bs ps = true) {k : Nat} {p : Int × Bool} (hk : ps[k]? = some p) : pushesB W T bs [p] = true := by
  unfold pushesB at h ⊢
  rw [Bool.and_eq_true, Bool.and_eq_true, List.all_eq_true] at h
  rw [h.1]
  have := h.2.2 p (List.mem_of_getElem? hk)
  simp [this]

set_option maxHeartbeats 2000000 in
set_option maxRecDepth 20000 in
theorem pushRunS_any (W T : Int) (A : Option Addr) (n c B : Nat) (bs : List Bool) (L : List Int) (D : Option Addr) (m d : Nat) (P : Option Addr) (pm pd E : Nat) (ps : List (Int × Bool)) (w : World) (hbl : bs.length = n) (hL : L.length = m)
    (hr : Reads w B 1 A n (bs.map Value.bool)) (hd : Reads w B 1 D m (L.map (Value.int .i64))) (hB : B ≤ w.heap.size) (hn : n ≤ 9223372036854775807) (hm : m ≤ 9223372036854775807) (hpl : ps.length = pm) (hp : Reads w E 2 P pm (pc ps)) (hE : E ≤ w.heap.size) (hpm : pm ≤ 9223372036854775807) :
    Calls Tryz.prog 22 #[.agg #[.int .i64 W, .int .i64 T, .slice A n c], .slice D m d, .slice P pm pd] w (RetInts w (prV W T bs L ps)) := by
  have hTO := fun w' (h : Below w.heap.size w w') => hide (tilingOkS_any W T A n c B bs L D m d w' hbl hL (hr.below (h.mono hB)) (hd.below (h.mono hB)) (Nat.le_trans hB h.size) hn hm)
  have hPV := fun w' (h : Below w.heap.size w w') => hide (PushesValidS_any W T A n c B bs P pm pd E ps w' hbl (hr.below (h.mono hB)) (Nat.le_trans hB h.size) hn hpl (hp.below (h.mono hE)) (Nat.le_trans hE h.size) hpm)
  have hb0 : Below w.heap.size w (w.alloc (boxR W T A n c)) := (Below.refl _ _).alloc (Nat.le_refl _) _
  have k0 : Blk (w.alloc (boxR W T A n c)) w.heap.size 25 #[.int .i64 W, .int .i64 T, .slice A n c] := Blk.new _ _ _
  cases ht : tilingB W T bs L with
  | false =>
    have hno : prV W T bs L ps = [] := prV_no (by unfold tiledB; rw [ht]; simp)
    rw [hno]
    simp only [ht] at hTO
    clear hPV hno
    go_enter Tryz.func22, Tryz.ntmps22
    go_wp2_with fail
    refine (unhide (hTO _ hb0)).mono ?_
    rintro e w2 ⟨rfl, hb2⟩
    have hB2 := hb0.trans (hb2.mono hb0.size)
    go_wp2_with fail
    go_ret
    have ho := World.ownsRow_made (base := w.heap.size) (e := 3) (size := 1) w2 #[] 0 hB2.size (by simp [maxLen]) (by simp)
    exact ⟨_, 0, 0, rfl, by simpa using ho, hB2.alloc hB2.size _⟩
  | true =>
    cases hv : pushesB W T bs ps with
    | false =>
      have hno : prV W T bs L ps = [] := prV_no (by rw [hv]; simp)
      rw [hno]
      simp only [ht] at hTO
      simp only [hv] at hPV
      clear hno
      go_enter Tryz.func22, Tryz.ntmps22
      go_wp2_with fail
      refine (unhide (hTO _ hb0)).mono ?_
      rintro e w2 ⟨rfl, hb2⟩
      have hB2 := hb0.trans (hb2.mono hb0.size)
      obtain ⟨b0, b1, b2⟩ := blk3 (k0.below hb2 k0.lt)
      clear hb2
      go_wp2_with fail
      refine (unhide (hPV _ hB2)).mono ?_
      rintro e w3 ⟨rfl, hb3⟩
      have hB4 := hB2.trans (hb3.mono hB2.size)
      go_wp2_with fail
      go_ret
      have ho := World.ownsRow_made (base := w.heap.size) (e := 3) (size := 1) w3 #[] 0 hB4.size (by simp [maxLen]) (by simp)
      exact ⟨_, 0, 0, rfl, by simpa using ho, hB4.alloc hB4.size _⟩
    | true =>
      have ht' : tiledB W T bs L = true := by unfold tiledB; rw [ht, pushes_simple hv]; rfl
      obtain ⟨R, hR, rfl, rfl, rfl, hS, hLy, hF⟩ := tiled_cases ht'
      rw [prV_yes ht' hv]
      subst hbl
      obtain rfl : m = R.C.length := by rw [← hL]; exact hLy.len
      have hl36 := (len_bd hR).2
      have hl1 := (len_bd hR).1
      have hTn := fun k => tile_ruV hR (ps := ps.take k) (L := L) ⟨hLy, hF⟩
      have hPO : ∀ (k : Nat) (p : Int × Bool) (w' : World) (g e1 : Nat), ps[k]? = some p → Below w.heap.size w w' → Reads w' w'.heap.size 1 (some ⟨g, 0, none⟩) R.C.length ((ruV R L (ps.take k)).map (Value.int .i64)) → Hid (Calls Tryz.prog 55 #[.agg #[.int .i64 R.W, .int .i64 R.T, .slice A R.C.length c], .slice (some ⟨g, 0, none⟩) R.C.length e1, .agg #[.int .i64 p.1, .bool p.2]] w' (RetInts w' (puV R (ruV R L (ps.take k)) p))) :=
        fun k p w' g e1 hkp h ha => by
          have := pushOneS_any R.W R.T A R.C.length c w'.heap.size R.C (ruV R L (ps.take k)) (some ⟨g, 0, none⟩) R.C.length e1 p.1 p.2 w' rfl (hTn k).1.len ((hr.below (h.mono hB)).more (Nat.le_trans hB h.size)) ha (Nat.le_refl _) hn hm
          rw [prV_one (p := p) ((tiled_ok hR).2 ⟨hS, (hTn k).1, (hTn k).2⟩) (pushes_one hv hkp)] at this
          exact hide this
      have hlT := fun k => (hTn k).1.len
      have hlP : ∀ k p, (puV R (ruV R L (ps.take k)) p).length = R.C.length := fun k p => (tile_puV hR (hTn k) p).1.len
      have hsucc := fun k p h => ruV_succ (R := R) (L := L) (ps := ps) (k := k) (p := p) h
      have hfin : ruV R L (ps.take pm) = ruV R L ps := by rw [← hpl, List.take_length]
      have h0T : ruV R L (ps.take 0) = L := by simp [ruV]
      have hlf : (ruV R L ps).length = R.C.length := (tile_ruV hR ⟨hLy, hF⟩).1.len
      simp only [ht] at hTO
      simp only [hv] at hPV
      have HSU := Lib.hid hsucc
      have HFI := Lib.hid hfin
      have HLP := Lib.hid hlP
      have HLF := Lib.hid hlf
      have HM := Lib.hid hpl
      have HLN := Lib.hid hL
      have hONE := ints_one (L := L)
      clear hlT hsucc hfin hTn hlf ht hv ht' hLy hF hpl hlP hL
      go_enter Tryz.func22, Tryz.ntmps22
      go_wp2_with fail
      refine (unhide (hTO _ hb0)).mono ?_
      rintro e w2 ⟨rfl, hb2⟩
      have hB2 := hb0.trans (hb2.mono hb0.size)
      have k2 := k0.below hb2 k0.lt
      obtain ⟨b0, b1, b2⟩ := blk3 k2
      clear hb2 k0 hTO
      go_wp2_with fail
      refine (unhide (hPV _ hB2)).mono ?_
      rintro e w3 ⟨rfl, hb3⟩
      have hB3 := hB2.trans (hb3.mono hB2.size)
      have hk1 := k2.below hb3 k2.lt
      clear b0 b1 b2 k2 hb3 hPV hB2 hb0
      have ho1 : (w3.alloc (.cells #[] 3)).ownsRow (w.heap.size + 1) 3 1 (.slice (some ⟨w3.heap.size, 0, none⟩) 0 0) 0 [] := by simpa using World.ownsRow_made (base := w.heap.size + 1) (e := 3) (size := 1) w3 #[] 0 hk1.lt (by simp [maxLen]) (by simp)
      have hk2 := hk1.alloc (.cells #[] 3)
      have hBa := hB3.alloc hB3.size (.cells #[] 3)
      have hd2 := hd.below (hBa.mono hB)
      go_wp2_with (at_builtin; refine wpList_appN rfl _ _ _ rfl (w.heap.size + 1) 3 _ 8 Tryz.underlying42 info_int rfl (by omega) (.slice (some ⟨w3.heap.size, 0, none⟩) 0 0) 0 [] rfl ho1 B D R.C.length d (L.map (Value.int .i64)) rfl hd2 hONE (by omega) (by have := hk2.lt; omega) ?_; rintro v' w5 ho3 hg3 _; obtain ⟨g, c', rfl, hP3⟩ := pg_copy hB3 hk1 ho3 hg3 HLN.out hl1; have hW1 : DA w w5 R A c g c' (ruV R L (ps.take 0)) := ⟨hP3.bel, hP3.box, by have := own_mono hP3.own (base' := w.heap.size) (by omega); rw [HLN.out] at this; rw [h0T]; exact this⟩; clear ho3 hg3 hP3)
      clear ho1 hk2 hBa hd2 hB3 hk1 h0T
      go_loopg [7, 8] pm (fun r s7 s8 wr => ∃ (k g c' c2 : Nat), k + r = pm ∧ s8 = .int .i64 (k : Nat) ∧ s7 = .slice (some ⟨g, 0, none⟩) R.C.length c2 ∧ DA w wr R A c g c' (ruV R L (ps.take k)))
      case atStart => exact ⟨0, _, _, _, by omega, rfl, rfl, hW1⟩
      case round =>
        clear hW1
        obtain ⟨k, g, c', c2, hk, rfl, rfl, hW⟩ := hrel
        have HK := Lib.hid hk
        clear hk
        by_cases hlt : k < pm
        · obtain ⟨ad, p, rfl, hab, hpk, hcell, hcell2⟩ := (hp.below (hW.bel.mono hE)).push HM.out hlt
          have HS1 := Lib.hid (HSU.out k p hpk)
          have hWd := DA.below hW (Below.refl wr.heap.size wr).drew
          have hPk := hPO k p _ g c2 hpk hWd.bel (Reads.of_own hWd.own)
          have hlk := Lib.hid (HLP.out k p)
          clear hPO hpk
          generalize puV R (ruV R L (ps.take k)) p = M2 at *
          generalize ruV R L (ps.take k) = M1 at *
          obtain ⟨b0, b1, b2⟩ := blk3 hW.box
          go_upto_region 7 with fail
          go_region_with
            (first
              | (go_at_call 55; (with_reducible refine (unhide hPk).mono ?_); rintro e w4 ⟨A4, c4, c4', rfl, ho4, hb4⟩))
          all_goals
            rw [hlk.out] at ho4
            obtain ⟨g4, cg4, hsh4, _, _, _⟩ := own_shape ho4 hl1
            simp only [Value.slice.injEq, true_and] at hsh4
            obtain ⟨rfl, rfl⟩ := hsh4
            have hW4 : DA w w4 R A c g4 c4 M2 := ⟨hWd.bel.trans (hb4.mono hWd.bel.size), hWd.box.below hb4 hWd.box.lt, own_mono ho4 hWd.bel.size⟩
            clear hW hWd b0 b1 b2 hcell hcell2 hPk hb4 ho4
            go_wp2_with fail
            go_roundg (pm - (k + 1))
            case measure => have := HK.out; omega
            case rel => exact ⟨k + 1, g4, c4, c4', by have := HK.out; omega, by go_num, by rw [hlk.out], by rw [HS1.out]; exact hW4⟩
        · obtain rfl : k = pm := by have := HK.out; omega
          rw [HFI.out] at hW
          go_wp2_with fail
          go_ret
          exact ⟨_, c', c2, by rw [HLF.out]; rfl, by rw [HLF.out]; exact hW.own, hW.bel⟩

end Go.Proofs.YthepfpiphlfgnaaGreat

/-
  YthepfpiphlfgnaaGreatPf: PushesFrom of the program.
-/
namespace Go.Proofs.YthepfpiphlfgnaaGreat
open Go.RowKit




end Go.Proofs.YthepfpiphlfgnaaGreat

/-
  YthepfpiphlfgnaaGreatPg: PushesFrom of the program and of the reference, any input.
-/
namespace Go.Proofs.YthepfpiphlfgnaaGreat
open Go.RowKit







end Go.Proofs.YthepfpiphlfgnaaGreat
