/-
  YtldnccdlpagodaaPu: pushes: what they do, and the program's push, run, PushRun, PushOne.
-/
import Derived.Test.YtldnccdlpagodaaQ6
import Derived.Test.YtldnccdlpagodaaFd
import Derived.Test.YtldnccdlpagodaaPVI
namespace Go.Proofs.Ytldnccdlpagodaa
open Go.RowKit

/-- Does a push flip? -/
def puB (R : Reg) (L : List Int) (p : Int × Bool) : Bool := (decide (0 < rsZ R L p.1) && p.2) || (decide (rsZ R L p.1 < 0) && !p.2)
/-- The list behind a push, and behind several. -/
def puV (R : Reg) (L : List Int) (p : Int × Bool) : List Int := if puB R L p = true then flV R L p.1 else L
def ruV (R : Reg) (L : List Int) (ps : List (Int × Bool)) : List Int := ps.foldl (puV R) L
theorem puV_yes {R : Reg} {L : List Int} {p : Int × Bool} (h : puB R L p = true) : puV R L p = flV R L p.1 := by unfold puV; rw [if_pos h]
theorem puV_no {R : Reg} {L : List Int} {p : Int × Bool} (h : puB R L p = false) : puV R L p = L := by unfold puV; rw [if_neg (by rw [h]; decide)]
theorem tile_puV {R : Reg} (hR : R.ok) {L : List Int} (h : Tile R L) (p : Int × Bool) : Tile R (puV R L p) := by
  unfold puV
  split
  · exact tile_flV hR h _
  · exact h
theorem tile_ruV {R : Reg} (hR : R.ok) : ∀ {ps : List (Int × Bool)} {L : List Int}, Tile R L → Tile R (ruV R L ps)
  | [], _, h => h
  | p :: ps, _, h => tile_ruV (ps := ps) hR (tile_puV hR h p)
theorem ruV_succ {R : Reg} {L : List Int} {ps : List (Int × Bool)} {k : Nat} {p : Int × Bool} (h : ps[k]? = some p) : ruV R L (ps.take (k + 1)) = puV R (ruV R L (ps.take k)) p := by
  unfold ruV
  rw [List.take_add_one, h, List.foldl_append]
  rfl

/-- A fresh row, or the row that came in. -/
def PushRet (w : World) (D : Option Addr) (n d : Nat) (b : Bool) (L : List Int) (e : Ending) (w' : World) : Prop :=
  (b = true ∧ ∃ A c c', e = .returned (.slice A L.length c') ∧ w'.ownsRow w.heap.size 3 1 (.slice A L.length c) L.length (L.map (Value.int .i64)) ∧ Below w.heap.size w w') ∨ (b = false ∧ e = .returned (.slice D n d) ∧ Below w.heap.size w w')
/-- Behind a push of a row of one's own. -/
theorem push_own {w wr w' : World} {R : Reg} {M : List Int} {p : Int × Bool} {g c c' : Nat} {e : Ending} (h : PushRet wr (some ⟨g, 0, none⟩) R.C.length c' (puB R M p) (flV R M p.1) e w') (hl1 : 0 < R.C.length) (hM : M.length = R.C.length) (hs : w.heap.size ≤ wr.heap.size)
    (ho : wr.ownsRow w.heap.size 3 1 (.slice (some ⟨g, 0, none⟩) R.C.length c) R.C.length (M.map (Value.int .i64))) :
    ∃ g2 c2 c2', e = .returned (.slice (some ⟨g2, 0, none⟩) R.C.length c2') ∧ w'.ownsRow w.heap.size 3 1 (.slice (some ⟨g2, 0, none⟩) R.C.length c2) R.C.length ((puV R M p).map (Value.int .i64)) ∧ Below wr.heap.size wr w' := by
  rcases h with ⟨hb, A, c2, c2', rfl, h1, h2⟩ | ⟨hb, rfl, h2⟩
  · rw [puV_yes hb]
    have hl : (flV R M p.1).length = R.C.length := by rw [flV_len]; exact hM
    rw [hl] at h1 ⊢
    obtain ⟨g2, cg, hsh, _, _, _⟩ := own_shape h1 hl1
    simp only [Value.slice.injEq, true_and] at hsh
    obtain ⟨rfl, rfl⟩ := hsh
    exact ⟨g2, _, c2', rfl, own_mono h1 hs, h2⟩
  · rw [puV_no hb]
    exact ⟨g, c, c', rfl, own_below ho h2 (Nat.le_refl _), h2⟩

set_option maxHeartbeats 1000000 in
theorem push_any (R : Reg) (hR : R.ok) (hS : SimpleP R) (A : Option Addr) (c B : Nat) (L : List Int) (D : Option Addr) (d : Nat) (p : Int × Bool) (hk9 : p.1 ≤ 9223372036854775807) (hP : Plain D) (hL : Tile R L) (w : World)
    (hr : Reads w B 1 A R.C.length (R.C.map Value.bool)) (hd : Reads w B 1 D R.C.length (L.map (Value.int .i64))) (hB : B ≤ w.heap.size) :
    Calls Try.prog 134 #[.agg #[.int .i64 R.W, .int .i64 R.T, .slice A R.C.length c], .slice D R.C.length d, .agg #[.int .i64 p.1, .bool p.2]] w (PushRet w D R.C.length d (puB R L p) (flV R L p.1)) := by
  obtain ⟨k, up⟩ := p
  have HRI := fun w' (h : Below w.heap.size w w') => hide (rise_ok R hR hS A c B L D d k hk9 hP hL.1 hL.2 w' (hr.below (h.mono hB)) (hd.below (h.mono hB)) (Nat.le_trans hB h.size))
  have HFL := fun w' (h : Below w.heap.size w w') => hide (flip_any R hR A R.C.length c B L D d k hk9 hP hL.1.len w' (hd.below (h.mono hB)) (Nat.le_trans hB h.size))
  have HPB : Hid (puB R L (k, up) = ((decide (0 < rsZ R L k) && up) || (decide (rsZ R L k < 0) && !up))) := Lib.hid rfl
  generalize puB R L (k, up) = b at *
  generalize rsZ R L k = z at *
  go_enter Try.func134, Try.ntmps134
  have hb0 : Below w.heap.size w ((w.alloc (boxR R.W R.T A R.C.length c)).alloc (.cells #[.int .i64 k, .bool up] 45)) := ((Below.refl _ _).alloc (Nat.le_refl _) _).alloc (by simp) _
  have k0 : Blk ((w.alloc (boxR R.W R.T A R.C.length c)).alloc (.cells #[.int .i64 k, .bool up] 45)) w.heap.size 29 #[.int .i64 R.W, .int .i64 R.T, .slice A R.C.length c] := (Blk.new _ _ _).alloc _
  have k1 : Blk ((w.alloc (boxR R.W R.T A R.C.length c)).alloc (.cells #[.int .i64 k, .bool up] 45)) (w.heap.size + 1) 45 #[.int .i64 k, .bool up] := by
    have := Blk.new (w.alloc (boxR R.W R.T A R.C.length c)) 45 #[.int .i64 k, .bool up]
    simpa using this
  go_wp2_with fail
  refine (unhide (HRI _ hb0)).mono ?_
  rintro e w1 ⟨rfl, hb1⟩
  have hB1 := hb0.trans (hb1.mono hb0.size)
  have h0 := k0.below hb1 k0.lt
  have h1 := k1.below hb1 k1.lt
  obtain ⟨b0, b1, b2⟩ := blk3 h0
  have p0 := h1.cell 0
  have p1 := h1.cell 1
  simp at p0 p1
  clear k0 k1 h0 h1 hb1 hb0 HRI
  have HF := HFL w1 hB1
  clear HFL
  have hno : b = false → PushRet w D R.C.length d b (flV R L k) (.returned (.slice D R.C.length d)) w1 := fun h => .inr ⟨h, rfl, hB1⟩
  have hyes : ∀ (A1 : Option Addr) (c1 c1' : Nat) (w2 : World), b = true → w2.ownsRow w1.heap.size 3 1 (.slice A1 (flV R L k).length c1) (flV R L k).length ((flV R L k).map (Value.int .i64)) → Below w1.heap.size w1 w2 → PushRet w D R.C.length d b (flV R L k) (.returned (.slice A1 (flV R L k).length c1')) w2 :=
    fun A1 c1 c1' w2 h ho hb => .inl ⟨h, A1, c1, c1', rfl, own_mono ho hB1.size, hB1.trans (hb.mono hB1.size)⟩
  generalize flV R L k = X at *
  cases up <;> cases z1 : decide (0 < z) <;> cases z2 : decide (z < 0)
  all_goals
    first
      | (have hb' : b = false := by rw [HPB.out, z1, z2]; rfl
         go_wp2_with fail
         go_ret
         exact hno hb')
      | (have hb' : b = true := by rw [HPB.out, z1, z2]; rfl
         go_wp2_with fail
         refine (unhide HF).mono ?_
         rintro e w2 ⟨A1, c1, c1', rfl, ho, hb2⟩
         go_wp2_with fail
         go_ret
         exact hyes _ _ _ _ hb' ho hb2)

set_option maxHeartbeats 1000000 in
theorem run_any (R : Reg) (hR : R.ok) (hS : SimpleP R) (A : Option Addr) (c B : Nat) (L : List Int) (D : Option Addr) (d : Nat) (P : Option Addr) (m pc' E : Nat) (ps : List (Int × Bool)) (hk9 : ∀ p ∈ ps, p.1 ≤ 9223372036854775807) (hP : Plain D) (hL : Tile R L) (w : World)
    (hr : Reads w B 1 A R.C.length (R.C.map Value.bool)) (hd : Reads w B 1 D R.C.length (L.map (Value.int .i64))) (hB : B ≤ w.heap.size) (hm : ps.length = m) (hp : Reads w E 2 P m (pc ps)) (hE : E ≤ w.heap.size) (hmm : m ≤ 9223372036854775807) :
    Calls Try.prog 89 #[.agg #[.int .i64 R.W, .int .i64 R.T, .slice A R.C.length c], .slice D R.C.length d, .slice P m pc'] w (RetInts w (ruV R L ps)) := by
  have hl36 := (len_bd hR).2
  have hl1 := (len_bd hR).1
  have hCL := fun w' (h : Below w.heap.size w w') => hide (clone_any D d B L w' hP (by rw [hL.1.len]; exact hd.below (h.mono hB)) (by rw [hL.1.len]; omega))
  simp only [hL.1.len] at hCL
  have hTn := fun k => tile_ruV hR hL (ps := ps.take k)
  have hPU : ∀ (k : Nat) (p : Int × Bool) (w' : World) (g e1 : Nat), ps[k]? = some p → Below w.heap.size w w' → Reads w' w'.heap.size 1 (some ⟨g, 0, none⟩) R.C.length ((ruV R L (ps.take k)).map (Value.int .i64)) → Hid (Calls Try.prog 134 #[.agg #[.int .i64 R.W, .int .i64 R.T, .slice A R.C.length c], .slice (some ⟨g, 0, none⟩) R.C.length e1, .agg #[.int .i64 p.1, .bool p.2]] w' (PushRet w' (some ⟨g, 0, none⟩) R.C.length e1 (puB R (ruV R L (ps.take k)) p) (flV R (ruV R L (ps.take k)) p.1))) :=
    fun k p w' g e1 hkp h ha => hide (push_any R hR hS A c w'.heap.size _ (some ⟨g, 0, none⟩) e1 p (hk9 p (List.mem_of_getElem? hkp)) (.inr ⟨_, _, rfl⟩) (hTn k) w' ((hr.below (h.mono hB)).more (Nat.le_trans hB h.size)) ha (Nat.le_refl _))
  have hlT := fun k => (hTn k).1.len
  have hsucc := fun k p h => ruV_succ (R := R) (L := L) (ps := ps) (k := k) (p := p) h
  have hfin : ruV R L (ps.take m) = ruV R L ps := by rw [← hm, List.take_length]
  have h0T : ruV R L (ps.take 0) = L := by simp [ruV]
  have HLT := Lib.hid hlT
  have HSU := Lib.hid hsucc
  have HFI := Lib.hid hfin
  have hlf : (ruV R L ps).length = R.C.length := (tile_ruV hR hL).1.len
  have HLF := Lib.hid hlf
  have HM := Lib.hid hm
  clear hlT hsucc hfin hTn hlf hk9
  have hb0 : Below w.heap.size w (w.alloc (boxR R.W R.T A R.C.length c)) := (Below.refl _ _).alloc (Nat.le_refl _) _
  have k0 : Blk (w.alloc (boxR R.W R.T A R.C.length c)) w.heap.size 29 #[.int .i64 R.W, .int .i64 R.T, .slice A R.C.length c] := Blk.new _ _ _
  go_enter Try.func89, Try.ntmps89
  go_wp2_with fail
  refine (unhide (hCL _ hb0)).mono ?_
  rintro e w1 ⟨A1, c1, rfl, ho1, hb1⟩
  rw [hL.1.len] at ho1 ⊢
  obtain ⟨g, cg, hsh, _, _, _⟩ := own_shape ho1 hl1
  simp only [Value.slice.injEq, true_and] at hsh
  obtain ⟨rfl, rfl⟩ := hsh
  have hW1 : DA w w1 R A c g c1 (ruV R L (ps.take 0)) := by rw [h0T]; exact ⟨hb0.trans (hb1.mono hb0.size), k0.below hb1 k0.lt, own_mono ho1 hb0.size⟩
  clear hb1 ho1 hb0 k0 hCL h0T hm hL
  go_wp2_with fail
  go_loopg [7, 14] m (fun r s7 s14 wr => ∃ (k g c' c2 : Nat), k + r = m ∧ s14 = .int .i64 (k : Nat) ∧ s7 = .slice (some ⟨g, 0, none⟩) R.C.length c2 ∧ DA w wr R A c g c' (ruV R L (ps.take k)))
  case atStart => exact ⟨0, _, _, _, by omega, rfl, rfl, hW1⟩
  case round =>
    clear hW1
    obtain ⟨k, g, c', c2, hk, rfl, rfl, hW⟩ := hrel
    have HK := Lib.hid hk
    clear hk
    by_cases hlt : k < m
    · obtain ⟨ad, p, rfl, hab, hpk, hcell, hcell2⟩ := (hp.below (hW.bel.mono hE)).push HM.out hlt
      have HS1 := Lib.hid (HSU.out k p hpk)
      have hPk := fun w' g e1 => hPU k p w' g e1 hpk
      have hlk := Lib.hid (HLT.out k)
      clear hPU hpk
      generalize ruV R L (ps.take k) = M1 at *
      have hW2 : DA w (wr.alloc (.cells #[.int .i64 p.1, .bool p.2] 45)) R A c g c' M1 := hW.below ((Below.refl _ _).alloc (Nat.le_refl _) _)
      have hlt0 := hW.box.lt
      have hPk2 := hPk _ g c2 hW2.bel (Reads.of_own hW2.own)
      obtain ⟨b0, b1, b2⟩ := blk3 hW.box
      go_wp2_with fail
      refine (unhide hPk2).mono ?_
      intro e w2 hret
      obtain ⟨g2, c3, c3', rfl, ho2, hb2⟩ := push_own hret hl1 hlk.out hW2.bel.size hW2.own
      have hW3 : DA w w2 R A c g2 c3 (puV R M1 p) := ⟨hW2.bel.trans (hb2.mono hW2.bel.size), hW2.box.below hb2 hW2.box.lt, ho2⟩
      clear b0 b1 b2 hret hb2 ho2 hW2 hW hcell hcell2 hPk2
      go_wp2_with fail
      go_roundg (m - (k + 1))
      case measure => have := HK.out; omega
      case rel => exact ⟨k + 1, g2, c3, c3', by have := HK.out; omega, by go_num, rfl, by rw [HS1.out]; exact hW3⟩
    · obtain rfl : k = m := by have := HK.out; omega
      rw [HFI.out] at hW
      go_wp2_with fail
      go_ret
      exact ⟨_, c', c2, by rw [HLF.out]; rfl, by rw [HLF.out]; exact hW.own, hW.bel⟩

end Go.Proofs.Ytldnccdlpagodaa
