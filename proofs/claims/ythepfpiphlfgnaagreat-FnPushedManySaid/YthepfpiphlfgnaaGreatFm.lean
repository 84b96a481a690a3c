/-
  YthepfpiphlfgnaaGreatFm: the texts Fi, Fj, Q5, Q6, Q7 in one file.
-/
import Derived.Laws.EntriesVeiled
import Derived.Shelf.Abstract
import Derived.Test.YthepfpiphlfgnaaGreatFrz

/-
  YthepfpiphlfgnaaGreatFi: the corners that can be flipped and for which something holds, in the program.
-/
namespace Go.Proofs.YthepfpiphlfgnaaGreat
open Go.RowKit

structure FW (w wr : World) (R : Reg) (A : Option Addr) (c : Nat) (v : Value) (l : List Int) : Prop where
  own : wr.ownsRow (w.heap.size + 1) 3 1 v l.length (l.map (Value.int .i64))
  box : Blk wr w.heap.size 25 #[.int .i64 R.W, .int .i64 R.T, .slice A R.C.length c]
  bel : Below w.heap.size w wr
section
variable {w wr w2 : World} {R : Reg} {A : Option Addr} {c : Nat} {v : Value} {l : List Int}
theorem FW.below (H : FW w wr R A c v l) (hb : Below wr.heap.size wr w2) : FW w w2 R A c v l :=
  ⟨own_below H.own hb (Nat.le_refl _), H.box.below hb H.box.lt, H.bel.trans (hb.mono H.bel.size)⟩
theorem FW.app {o : Obj} {v' : Value} {x : Int} (H : FW w wr R A c v l) (ho : w2.ownsRow (w.heap.size + 1) 3 1 v' (l.length + 1) (l.map (Value.int .i64) ++ [.int .i64 x])) (hg : (wr.alloc o).grownBy w2 v.ownBlock) : FW w w2 R A c v' (l ++ [x]) := by
  have hge : ∀ g, v.ownBlock = some g → w.heap.size + 1 ≤ g := fun g h => own_block_ge H.own h
  refine ⟨by rw [List.length_append, List.map_append]; exact ho, (H.box.alloc o).grown hg ?_, (H.bel.alloc H.bel.size o).grown hg (by have := H.bel.size; simp; omega) (fun g h => by have := hge g h; omega)⟩
  intro h
  have := hge _ h.symm
  omega
theorem FW.cells (H : FW w wr R A c v l) : wr.cell? ⟨w.heap.size, 0, none⟩ = some (.int .i64 R.W) ∧ wr.cell? ⟨w.heap.size, 1, none⟩ = some (.int .i64 R.T) ∧ wr.cell? ⟨w.heap.size, 2, none⟩ = some (.slice A R.C.length c) := by
  have r0 := H.box.cell 0
  have r1 := H.box.cell 1
  have r2 := H.box.cell 2
  simp at r0 r1 r2
  exact ⟨r0, r1, r2⟩
end

theorem own_cap2 {w : World} {base : Nat} {e : TypeId} {size : Nat} {A : Option Addr} {n c : Nat} {xs : List Value} (h : w.ownsRow base e size (.slice A n c) n xs) : c ≤ 9223372036854775807 := by
  rcases h.2 with ⟨h0, _⟩ | ⟨g, cap, cur, hv, _, _, _, h4, _⟩
  · injection h0; omega
  · simp only [Value.slice.injEq] at hv
    obtain ⟨_, _, rfl⟩ := hv
    simpa only [maxLen] using h4


/-- A function that answers for corners. -/
def May (fid : FuncId) (caps : Array Value) (p : Nat → Bool) (R : Reg) (L : List Int) (w : World) : Prop :=
  ∀ (k : Nat) (w' : World), k < R.cn → flB R L (k : Int) = true → Below w.heap.size w w' → Calls Tryz.prog fid (#[.int .i64 (k : Nat)] ++ caps) w' fun e w'' => e = .returned (.bool (p k)) ∧ Below w'.heap.size w' w''


/-! ### Flips that let the height fall, or grow -/


end Go.Proofs.YthepfpiphlfgnaaGreat

/-
  YthepfpiphlfgnaaGreatFj: rising, DownOf and UpOf of the program.
-/
namespace Go.Proofs.YthepfpiphlfgnaaGreat
open Go.RowKit





end Go.Proofs.YthepfpiphlfgnaaGreat

/-
  YthepfpiphlfgnaaGreatQ5: whoever goes down again and again comes to an end. Plain Lean.
-/
namespace Go.Proofs.YthepfpiphlfgnaaGreat


def Tile (R : Reg) (L : List Int) : Prop := Lay R L ∧ Full R L
theorem tile_flV {R : Reg} (hR : R.ok) {L : List Int} (h : Tile R L) (k : Int) : Tile R (flV R L k) := ⟨lay_flV hR h.1 k, (full_flV hR h.1 k).2 h.2⟩



end Go.Proofs.YthepfpiphlfgnaaGreat

/-
  YthepfpiphlfgnaaGreatQ6: the way of flips from a tiling to another one. Plain Lean.
-/
namespace Go.Proofs.YthepfpiphlfgnaaGreat




theorem rsZ_nat (R : Reg) (L : List Int) (k : Nat) : rsZ R L (k : Int) = rsV R L k := by unfold rsZ; rw [if_pos (by omega), Int.toNat_natCast]




end Go.Proofs.YthepfpiphlfgnaaGreat

/-
  YthepfpiphlfgnaaGreatQ7: all tilings of a region, in order. Plain Lean.
-/
namespace Go.Proofs.YthepfpiphlfgnaaGreat

/-- Does a cell of the region want a domino? May a domino be laid from a cell in a direction? The list behind it. -/
def opB (R : Reg) (L : List Int) (c : Nat) : Bool := R.C.getD c false && decide (L.getD c 0 = 0)
def frB (R : Reg) (L : List Int) (c : Nat) (way : Int) : Bool := decide (0 ≤ R.step c way) && (opB R L c && opB R L (R.step c way).toNat)
def lyV (R : Reg) (L : List Int) (c : Nat) (way : Int) : List Int := (L.set c way).set (R.step c way).toNat (back way)
/-- The first cell that wants a domino. -/
def fiV (R : Reg) (L : List Int) : Option Nat := (List.range R.C.length).find? (opB R L)
theorem fiV_some {R : Reg} {L : List Int} {c : Nat} : fiV R L = some c ↔ c < R.C.length ∧ opB R L c = true ∧ ∀ j, j < c → opB R L j = false := by
  unfold fiV
  rw [List.find?_range_eq_some]
  simp only [List.mem_range, Bool.not_eq_true']
  constructor
  · rintro ⟨h1, h2, h3⟩; exact ⟨h2, h1, h3⟩
  · rintro ⟨h1, h2, h3⟩; exact ⟨h2, h1, h3⟩
theorem fiV_none {R : Reg} {L : List Int} : fiV R L = none ↔ ∀ j, j < R.C.length → opB R L j = false := by
  unfold fiV
  rw [List.find?_range_eq_none]
  simp only [Bool.not_eq_true']
/-- All tilings with the dominoes of a list. -/
def allT (R : Reg) : Nat → List Int → List (List Int)
  | 0, L => [L]
  | f + 1, L => match fiV R L with
    | none => [L]
    | some c => (if frB R L c 1 = true then allT R f (lyV R L c 1) else []) ++ (if frB R L c 2 = true then allT R f (lyV R L c 2) else [])
theorem allT_len (R : Reg) : ∀ (f : Nat) (L : List Int), (allT R f L).length ≤ 2 ^ f
  | 0, L => by simp [allT]
  | f + 1, L => by
    have h1 := allT_len R f
    have h0 : 0 < 2 ^ f := Nat.two_pow_pos f
    rw [Nat.pow_succ]
    unfold allT
    split
    · simp; omega
    · rename_i c _
      rw [List.length_append]
      have := h1 (lyV R L c 1)
      have := h1 (lyV R L c 2)
      split <;> split <;> simp <;> omega
theorem allT_none {R : Reg} {f : Nat} {L : List Int} (h : fiV R L = none) : allT R f L = [L] := by
  cases f with
  | zero => rfl
  | succ f => unfold allT; rw [h]
theorem allT_some {R : Reg} {f c : Nat} {L : List Int} (h : fiV R L = some c) : allT R (f + 1) L = (if frB R L c 1 = true then allT R f (lyV R L c 1) else []) ++ (if frB R L c 2 = true then allT R f (lyV R L c 2) else []) := by
  conv => lhs; unfold allT
  rw [h]

/-- How many cells want a domino. -/
def opN (R : Reg) (L : List Int) : Nat := (List.range R.C.length).countP (opB R L)
theorem countP_same {p q : Nat → Bool} : ∀ {n : Nat}, (∀ j, j < n → p j = q j) → (List.range n).countP p = (List.range n).countP q := fun {n} h => by
  apply List.countP_congr
  intro j hj
  rw [h j (List.mem_range.1 hj)]
theorem countP_off {p q : Nat → Bool} {c : Nat} (h1 : p c = true) (h2 : q c = false) (h3 : ∀ j, j ≠ c → q j = p j) : ∀ {n : Nat}, c < n → (List.range n).countP q + 1 = (List.range n).countP p
  | 0, h => by omega
  | n + 1, h => by
    rw [List.range_succ, List.countP_append, List.countP_append]
    by_cases hc : c = n
    · subst hc
      rw [countP_same (p := q) (q := p) fun j hj => h3 j (by omega)]
      simp [h1, h2]
    · have := countP_off h1 h2 h3 (n := n) (by omega)
      have e := h3 n (Ne.symm hc)
      simp only [List.countP_cons, List.countP_nil, e]
      omega
theorem opB_cell {R : Reg} {L : List Int} {c : Nat} : opB R L c = true ↔ R.cell c ∧ L.getD c 0 = 0 := by
  unfold opB
  rw [Bool.and_eq_true, getD_cell, decide_eq_true_eq]
/-- A domino that may be laid: its other cell. -/
theorem frB_iff {R : Reg} {L : List Int} {c : Nat} {way : Int} : frB R L c way = true ↔ ∃ e : Nat, R.step c way = (e : Int) ∧ R.cell c ∧ L.getD c 0 = 0 ∧ R.cell e ∧ L.getD e 0 = 0 := by
  unfold frB
  rw [Bool.and_eq_true, Bool.and_eq_true, decide_eq_true_eq, opB_cell, opB_cell]
  constructor
  · rintro ⟨h1, ⟨h2, h3⟩, h4, h5⟩
    obtain ⟨e, he⟩ := Int.eq_ofNat_of_zero_le h1
    rw [he] at h4 h5
    exact ⟨e, he, h2, h3, h4, h5⟩
  · rintro ⟨e, he, h2, h3, h4, h5⟩
    rw [he]
    exact ⟨by omega, ⟨h2, h3⟩, h4, h5⟩
theorem back_pos (way : Int) : 1 ≤ back way ∧ back way ≤ 4 := by unfold back; omega
theorem step_ne {R : Reg} (hR : R.ok) {c e : Nat} {way : Int} (hc : c < R.C.length) (h : R.step c way = (e : Int)) : c ≠ e := by
  rintro rfl
  have hP := place_of hR hc
  have hW := hR.1
  by_cases hw : 1 ≤ way ∧ way ≤ 4
  · rcases (show way = 1 ∨ way = 2 ∨ way = 3 ∨ way = 4 by omega) with rfl | rfl | rfl | rfl
    · rw [step_1 hP] at h; split at h <;> omega
    · rw [step_2 hP] at h; split at h <;> omega
    · rw [step_3 hP] at h; split at h <;> omega
    · rw [step_4 hP] at h; split at h <;> omega
  · rw [step_no hw] at h; omega
theorem lyV_at {R : Reg} {L : List Int} {c e : Nat} {way : Int} (he : R.step c way = (e : Int)) (hl : L.length = R.C.length) (hc : c < R.C.length) (hel : e < R.C.length) (hne : c ≠ e) (k : Nat) :
    (lyV R L c way).getD k 0 = if k = e then back way else if k = c then way else L.getD k 0 := by
  unfold lyV
  rw [he, Int.toNat_natCast, List.getD_eq_getElem?_getD, List.getD_eq_getElem?_getD, List.getElem?_set, List.getElem?_set, List.length_set, hl]
  by_cases h1 : k = e
  · subst h1; simp [hel]
  · rw [if_neg (Ne.symm h1), if_neg h1]
    by_cases h2 : k = c
    · subst h2; simp [hc]
    · rw [if_neg (Ne.symm h2), if_neg h2]
theorem lyV_len (R : Reg) (L : List Int) (c : Nat) (way : Int) : (lyV R L c way).length = L.length := by simp [lyV]
theorem opN_lay {R : Reg} (hR : R.ok) {L : List Int} (hl : L.length = R.C.length) {c : Nat} {way : Int} (hw : way ≠ 0) (h : frB R L c way = true) : opN R (lyV R L c way) + 2 = opN R L := by
  obtain ⟨e, he, h1, h2, h3, h4⟩ := frB_iff.1 h
  have hc := cell_lt h1
  have hel := cell_lt h3
  have hne := step_ne hR hc he
  have hat := lyV_at he hl hc hel hne
  have hb := (back_pos way).1
  have hmid : ∃ p : Nat → Bool, (∀ j, p j = (opB R L j && decide (j ≠ c))) := ⟨_, fun _ => rfl⟩
  obtain ⟨p, hp⟩ := hmid
  have e1 : (List.range R.C.length).countP p + 1 = opN R L := countP_off (p := opB R L) (q := p) (c := c) (opB_cell.2 ⟨h1, h2⟩) (by rw [hp]; simp) (fun j hj => by rw [hp]; simp [hj]) hc
  have e2 : opN R (lyV R L c way) + 1 = (List.range R.C.length).countP p := countP_off (p := p) (q := opB R (lyV R L c way)) (c := e) (by rw [hp, opB_cell.2 ⟨h3, h4⟩]; simp [Ne.symm hne]) (by
    unfold opB
    rw [hat, if_pos rfl, decide_eq_false (by omega), Bool.and_false]) (fun j hj => by
    rw [hp]
    unfold opB
    rw [hat, if_neg hj]
    by_cases hjc : j = c
    · rw [if_pos hjc, decide_eq_false hw]
      simp [hjc]
    · rw [if_neg hjc]
      simp [hjc]) hel
  omega
theorem lay_lyV {R : Reg} (hR : R.ok) {L : List Int} (hL : Lay R L) {c : Nat} {way : Int} (hw2 : back (back way) = way) (h : frB R L c way = true) : Lay R (lyV R L c way) := by
  obtain ⟨e, he, h1, h2, h3, h4⟩ := frB_iff.1 h
  have hc := cell_lt h1
  have hel := cell_lt h3
  have hne := step_ne hR hc he
  have hat := lyV_at he hL.len hc hel hne
  refine lay_of hR (by rw [lyV_len]; exact hL.len) fun k hk => ?_
  unfold LayAt
  by_cases hke : k = e
  · subst hke
    right
    refine ⟨c, ?_, h3, h1, ?_⟩
    · rw [hat, if_pos rfl]; exact step_back hR.1 (xy_lt hR hc).2 he
    · rw [hat, hat, if_pos rfl, if_neg hne, if_pos rfl, hw2]
  · by_cases hkc : k = c
    · subst hkc
      right
      refine ⟨e, ?_, h1, h3, ?_⟩
      · rw [hat, if_neg hke, if_pos rfl]; exact he
      · rw [hat, hat, if_pos rfl, if_neg hke, if_pos rfl]
    · rw [hat, if_neg hke, if_neg hkc]
      rcases layAt_of hR hL hk with h0 | ⟨d, hd1, hd2, hd3, hd4⟩
      · exact .inl h0
      · right
        have hb := (back_pos (L.getD k 0)).1
        refine ⟨d, hd1, hd2, hd3, ?_⟩
        rw [hat, if_neg (by rintro rfl; omega), if_neg (by rintro rfl; omega)]
        exact hd4
theorem opN_zero {R : Reg} {L : List Int} (h : opN R L = 0) : fiV R L = none := by
  rw [fiV_none]
  intro j hj
  unfold opN at h
  rw [List.countP_eq_zero] at h
  simpa using h j (List.mem_range.2 hj)
theorem full_none {R : Reg} (hR : R.ok) {L : List Int} (h : fiV R L = none) : Full R L := by
  refine (fullB_iff hR).1 (fullB_yes fun k hk => ?_)
  have := fiV_none.1 h k hk
  unfold opB at this
  unfold fullAtB
  cases hc : R.C.getD k false with
  | false => rfl
  | true =>
    rw [hc, Bool.true_and, decide_eq_false_iff_not] at this
    rw [decide_eq_true this]
    rfl
theorem allT_tile {R : Reg} (hR : R.ok) : ∀ (f : Nat) (L : List Int), Lay R L → opN R L ≤ 2 * f → ∀ M ∈ allT R f L, Tile R M
  | 0, L, hL, hn, M, hM => by
    simp [allT] at hM
    subst hM
    exact ⟨hL, full_none hR (opN_zero (by omega))⟩
  | f + 1, L, hL, hn, M, hM => by
    cases hf : fiV R L with
    | none =>
      rw [allT_none hf] at hM
      simp at hM
      subst hM
      exact ⟨hL, full_none hR hf⟩
    | some c =>
      rw [allT_some hf, List.mem_append] at hM
      have key : ∀ way : Int, way = 1 ∨ way = 2 → M ∈ (if frB R L c way = true then allT R f (lyV R L c way) else []) → Tile R M := fun way hw hm => by
        by_cases hb : frB R L c way = true
        · rw [if_pos hb] at hm
          have := opN_lay hR hL.len (by omega) hb
          exact allT_tile hR f _ (lay_lyV hR hL (by rcases hw with rfl | rfl <;> rfl) hb) (by omega) M hm
        · rw [if_neg hb] at hm; cases hm
      exact hM.elim (key 1 (.inl rfl)) (key 2 (.inr rfl))
/-- Every tiling with these dominoes is among them. -/
theorem allT_has {R : Reg} (hR : R.ok) {M : List Int} (hM : Tile R M) : ∀ (f : Nat) (L : List Int), Lay R L → opN R L ≤ 2 * f → (∀ j, L.getD j 0 ≠ 0 → M.getD j 0 = L.getD j 0) → M ∈ allT R f L := by
  have hnone : ∀ {L : List Int}, Lay R L → fiV R L = none → (∀ j, L.getD j 0 ≠ 0 → M.getD j 0 = L.getD j 0) → M = L := by
    intro L hL hf hag
    apply List.ext_getElem (by rw [hM.1.len, hL.len])
    intro k h1 h2
    have e1 : M[k] = M.getD k 0 := by rw [List.getD_eq_getElem?_getD, List.getElem?_eq_getElem h1]; rfl
    have e2 : L[k] = L.getD k 0 := by rw [List.getD_eq_getElem?_getD, List.getElem?_eq_getElem h2]; rfl
    rw [e1, e2]
    by_cases h0 : L.getD k 0 = 0
    · rw [h0]
      have hk : k < R.C.length := by rw [← hL.len]; exact h2
      have hno := fiV_none.1 hf k hk
      rcases layAt_of hR hM.1 hk with hz | ⟨e, _, hc, _⟩
      · exact hz
      · rw [opB_cell.2 ⟨hc, h0⟩] at hno; cases hno
    · exact hag k h0
  intro f
  induction f with
  | zero =>
    intro L hL hn hag
    rw [hnone hL (opN_zero (by omega)) hag]
    simp [allT]
  | succ f ih =>
    intro L hL hn hag
    cases hf : fiV R L with
    | none => rw [allT_none hf, hnone hL hf hag]; simp
    | some c =>
      rw [allT_some hf, List.mem_append]
      obtain ⟨hc, ho, hfirst⟩ := fiV_some.1 hf
      obtain ⟨hcc, hc0⟩ := opB_cell.1 ho
      have hne0 : M.getD c 0 ≠ 0 := by
        have := (fullB_iff hR).2 hM.2
        unfold fullB at this
        rw [List.all_eq_true] at this
        have := this c (List.mem_range.2 hc)
        unfold fullAtB at this
        rw [getD_cell.2 hcc] at this
        simpa using this
      rcases layAt_of hR hM.1 hc with hz | ⟨e, he, _, hec, hbk⟩
      · exact absurd hz hne0
      · have hel := cell_lt hec
        have hne := step_ne hR hc he
        -- the other cell wants a domino, too
        have he0 : L.getD e 0 = 0 := Classical.byContradiction fun hx => by
          have h1 := hag e hx
          rcases layAt_of hR hL hel with hz | ⟨g, hg, _, _, hgb⟩
          · exact hx hz
          · have hP : R.step e (back (M.getD c 0)) = (c : Int) := step_back hR.1 (xy_lt hR hc).2 he
            rw [← h1, hbk, hP] at hg
            have hgc : g = c := by omega
            subst hgc
            have := (back_pos (L.getD e 0)).1
            omega
        have hway : M.getD c 0 = 1 ∨ M.getD c 0 = 2 := by
          have hP := place_of hR hc
          have hge : ¬ e < c := fun hlt => by
            have := hfirst e hlt
            rw [opB_cell.2 ⟨hec, he0⟩] at this
            cases this
          have hW := hR.1
          by_cases hw : 1 ≤ M.getD c 0 ∧ M.getD c 0 ≤ 4
          · rcases (show M.getD c 0 = 1 ∨ M.getD c 0 = 2 ∨ M.getD c 0 = 3 ∨ M.getD c 0 = 4 by omega) with h | h | h | h
            · exact .inl h
            · exact .inr h
            · rw [h, step_3 hP] at he; split at he <;> omega
            · rw [h, step_4 hP] at he; split at he <;> omega
          · rw [step_no hw] at he; omega
        have key : ∀ way : Int, way = 1 ∨ way = 2 → M.getD c 0 = way → M ∈ (if frB R L c way = true then allT R f (lyV R L c way) else []) := fun way hw hm => by
          rw [hm] at he hbk
          have hb : frB R L c way = true := frB_iff.2 ⟨e, he, hcc, hc0, hec, he0⟩
          rw [if_pos hb]
          have := opN_lay hR hL.len (by omega) hb
          refine ih _ (lay_lyV hR hL (by rcases hw with rfl | rfl <;> rfl) hb) (by omega) fun j hj => ?_
          have hat := lyV_at he hL.len hc hel hne j
          rw [hat] at hj ⊢
          by_cases h1 : j = e
          · rw [if_pos h1, h1]; exact hbk
          · rw [if_neg h1] at hj ⊢
            by_cases h2 : j = c
            · rw [if_pos h2, h2]; exact hm
            · rw [if_neg h2] at hj ⊢; exact hag j hj
        exact hway.elim (fun h => .inl (key 1 (.inl rfl) h)) (fun h => .inr (key 2 (.inr rfl) h))

/-- The list without dominoes. -/
def bare (R : Reg) : List Int := List.replicate R.C.length 0
theorem bare_at (R : Reg) (k : Nat) : (bare R).getD k 0 = 0 := by
  unfold bare
  rw [List.getD_eq_getElem?_getD, List.getElem?_replicate]
  split <;> rfl
theorem lay_bare {R : Reg} (hR : R.ok) : Lay R (bare R) := lay_of hR (by simp [bare]) fun k _ => .inl (bare_at R k)
theorem opN_bare {R : Reg} (hR : R.ok) : opN R (bare R) ≤ 2 * 18 := by
  have := (len_bd hR).2
  unfold opN
  have h := List.countP_le_length (p := opB R (bare R)) (l := List.range R.C.length)
  rw [List.length_range] at h
  omega
/-- All tilings. -/
def tilT (R : Reg) : List (List Int) := allT R 18 (bare R)
theorem tilT_len (R : Reg) : (tilT R).length ≤ 262144 := allT_len R 18 _
theorem tilT_iff {R : Reg} (hR : R.ok) {M : List Int} : M ∈ tilT R ↔ Tile R M :=
  ⟨allT_tile hR 18 _ (lay_bare hR) (opN_bare hR) M, fun h => allT_has hR h 18 _ (lay_bare hR) (opN_bare hR) fun j hj => absurd (bare_at R j) hj⟩

end Go.Proofs.YthepfpiphlfgnaaGreat
