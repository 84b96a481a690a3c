/-
  YthepfpiphlfgnaaH3: sides one by one, from a corner to the east and to the north; the heights of whatever comes in. Plain Lean.
-/
import Derived.Test.YthepfpiphlfgnaaH2
import Derived.Test.YthepfpiphlfgnaaLay
namespace Go.Proofs.Ythepfpiphlfgnaa

def sdOf (R : Reg) (x y t : Nat) : Sd :=
  if t = 0 then ⟨(R.ci x y : Nat), ((R.ci x y : Nat) : Int) + 1, x, y, x, (y : Int) - 1⟩ else ⟨(R.ci x y : Nat), ((R.ci x y : Nat) : Int) + ((R.W : Int) + 1), (x : Int) - 1, y, x, y⟩
def usedOf (R : Reg) (x y t : Nat) : Bool := R.at (sdOf R x y t).lx (sdOf R x y t).ly || R.at (sdOf R x y t).rx (sdOf R x y t).ry
def kOf (R : Reg) (x y t : Nat) : Nat := (sidesTo R (R.ci x y)).length + (if t = 0 then 0 else (sideE R x y).length)

theorem used_e (R : Reg) (x y : Nat) : usedOf R x y 0 = (R.at x y || R.at x ((y : Int) - 1)) := rfl
theorem used_n (R : Reg) (x y : Nat) : usedOf R x y 1 = (R.at ((x : Int) - 1) y || R.at x y) := rfl
theorem sdOf_f (R : Reg) (x y t : Nat) : (sdOf R x y t).f = (R.ci x y : Nat) := by unfold sdOf; split <;> rfl
theorem sideE_of (R : Reg) (x y : Nat) : sideE R x y = if usedOf R x y 0 = true then [sdOf R x y 0] else [] := rfl
theorem sideN_of (R : Reg) (x y : Nat) : sideN R x y = if usedOf R x y 1 = true then [sdOf R x y 1] else [] := by
  unfold sideN
  rw [used_n, Bool.or_comm]; rfl
theorem kOf_zero (R : Reg) : kOf R 0 0 0 = 0 := by simp [kOf, Reg.ci, sidesTo]
theorem kOf_e (R : Reg) (x y : Nat) : kOf R x y 1 = kOf R x y 0 + if usedOf R x y 0 = true then 1 else 0 := by
  unfold kOf
  rw [if_neg (by omega), if_pos rfl, sideE_of]
  split <;> simp
theorem kOf_n (R : Reg) {x : Nat} (y : Nat) (hx : x ≤ R.W) : (sidesTo R (R.ci x y + 1)).length = kOf R x y 1 + if usedOf R x y 1 = true then 1 else 0 := by
  unfold kOf
  rw [sidesTo_succ R y hx, if_neg (by omega), List.length_append, List.length_append, sideN_of]
  split <;> simp
theorem sides_prefix {R : Reg} {c : Nat} (h : c ≤ R.cn) : ∃ l, sidesOf R = sidesTo R c ++ l := by
  obtain ⟨d, hd⟩ : ∃ d, R.cn = c + d := ⟨R.cn - c, by omega⟩
  refine ⟨((List.range d).map (c + ·)).flatMap (sidesAt R), ?_⟩
  unfold sidesOf sidesTo
  rw [hd, List.range_add, List.flatMap_append]
theorem sdOf_at {R : Reg} {x y t : Nat} (hx : x ≤ R.W) (hy : y ≤ R.T) (ht : t ≤ 1) (hu : usedOf R x y t = true) : (sidesOf R)[kOf R x y t]? = some (sdOf R x y t) := by
  obtain ⟨l, hl⟩ := sides_prefix (R := R) (c := R.ci x y + 1) (by have := ci_lt hx hy; omega)
  rw [hl, sidesTo_succ R y hx, List.append_assoc, List.append_assoc]
  have ht' : t = 0 ∨ t = 1 := by omega
  rcases ht' with rfl | rfl
  · unfold kOf
    rw [if_pos rfl, Nat.add_zero, List.getElem?_append_right (Nat.le_refl _), Nat.sub_self, sideE_of, if_pos hu]
    rfl
  · unfold kOf
    rw [if_neg (by omega), List.getElem?_append_right (by omega), Nat.add_sub_cancel_left, List.getElem?_append_right (Nat.le_refl _), Nat.sub_self, sideN_of, if_pos hu]
    rfl
theorem sdOf_cu {R : Reg} {x y t : Nat} (ht : t ≤ 1) (hu : usedOf R x y t = true) : R.cu x y = true := by
  have ht' : t = 0 ∨ t = 1 := by omega
  rcases ht' with rfl | rfl
  · rw [used_e, Bool.or_eq_true] at hu
    exact (cu_e hu).1
  · rw [used_n, Bool.or_eq_true] at hu
    exact (cu_n hu.symm).1
theorem first_mem {R : Reg} (hR : R.ok) {x0 y0 : Nat} (h0 : First R x0 y0) {c : Nat} (hc : R.ci x0 y0 < c) : 0 < (sidesTo R c).length := by
  have hc0 := first_cell hR h0
  have hm : sdOf R x0 y0 0 ∈ sidesTo R c := by
    unfold sidesTo
    rw [List.mem_flatMap]
    refine ⟨R.ci x0 y0, List.mem_range.2 hc, ?_⟩
    unfold sidesAt
    rw [ci_mod y0 h0.1, ci_div y0 h0.1, List.mem_append]
    left
    rw [sideE_of, if_pos (by rw [used_e, hc0]; rfl)]
    simp
  exact List.length_pos_of_mem hm
theorem first_of {R : Reg} (hR : R.ok) (hI : InConn R) {x y t : Nat} (hx : x ≤ R.W) (hy : y ≤ R.T) (ht : t ≤ 1) (hk : kOf R x y t = 0) (hu : usedOf R x y t = true) : First R x y := by
  obtain ⟨x0, y0, h0⟩ := first_ex hR hI
  refine ⟨hx, hy, sdOf_cu ht hu, fun u v hu' hv' huv => ?_⟩
  have h1 := h0.2.2.2 u v hu' hv' huv
  rcases Nat.lt_or_ge (R.ci x0 y0) (R.ci x y) with h | h
  · have := first_mem hR h0 h
    unfold kOf at hk
    omega
  · omega
theorem sides_pos {R : Reg} (hR : R.ok) (hI : InConn R) : 0 < (sidesOf R).length := by
  obtain ⟨x0, y0, h0⟩ := first_ex hR hI
  exact first_mem hR h0 (ci_lt h0.1 h0.2.1)

/-- Where the reference stands in a round: no first corner yet, or it has been met. -/
def FS (R : Reg) (L H O0 O : List Int) (x0 y0 k : Nat) (g : Bool) (fs : Int) : Prop :=
  (fs = -1 ∧ O = List.replicate R.cn 99 ∧ O0 = O ∧ g = false ∧ k = 0) ∨ (fs = (R.ci x0 y0 : Nat) ∧ GrMid R L H O0 O k g ∧ O.getD (R.ci x0 y0) 0 ≠ 99)
/-- .. and behind the look for the first corner. -/
structure Mid2 (R : Reg) (L H O0 O : List Int) (k : Nat) (g : Bool) (f t : Nat) : Prop where
  gr : Gr H O
  le : n99 O ≤ n99 O0
  or_ : GrMid R L H O0 O k g ∨ (O.getD f 0 ≠ 99 ∧ O.getD t 0 = 99)

theorem mid2_old {R : Reg} {L H O0 O : List Int} {k f t : Nat} {g : Bool} (h : GrMid R L H O0 O k g) : Mid2 R L H O0 O k g f t := ⟨h.gr, le_of_mid h, .inl h⟩
theorem mid2_new {R : Reg} {L H : List Int} {k f t x0 y0 : Nat} {g : Bool} (hH : Hts R L H) (h0 : First R x0 y0) (hf : f = R.ci x0 y0) (hne : f ≠ t) (ht : t < R.cn) : Mid2 R L H (List.replicate R.cn 99) ((List.replicate R.cn 99).set (R.ci x0 y0) 0) k g f t := by
  have hl := ci_lt h0.1 h0.2.1
  have hg : (List.replicate R.cn (99 : Int)).getD (R.ci x0 y0) 0 = 99 := by rw [List.getD_eq_getElem?_getD, List.getElem?_replicate, if_pos hl]; rfl
  refine ⟨gr_first hH h0, Nat.le_of_lt (n99_set hg (by simpa using hl) (by decide)), .inr ⟨?_, ?_⟩⟩
  · rw [hf, getD_set (by simpa using hl), if_pos rfl]; decide
  · rw [getD_set (by simpa using hl), if_neg (by rw [← hf]; exact hne), List.getD_eq_getElem?_getD, List.getElem?_replicate, if_pos ht]; rfl
theorem mid2_t {R : Reg} {L H O0 O : List Int} {k f t : Nat} {g : Bool} (hH : H.length = R.cn) (h : Mid2 R L H O0 O k g f t) {s : Sd} (hs : SdHt R L H s f t) (h1 : O.getD f 0 ≠ 99) (h2 : O.getD t 0 = 99) :
    O.getD f 0 + sby R L s = H.getD t 0 ∧ GrMid R L H O0 (O.set t (H.getD t 0)) (k + 1) true := by
  have e : O.getD f 0 = H.getD f 0 := (h.gr.ok f).resolve_left h1
  refine ⟨by rw [e, hs.by_], gr_set h.gr (by rw [hH]; exact hs.tl), fun _ => ?_, fun h => by cases h⟩
  exact Nat.lt_of_lt_of_le (n99_set h2 (by rw [h.gr.len, hH]; exact hs.tl) (by have := hs.tb; omega)) h.le
theorem mid2_f {R : Reg} {L H O0 O : List Int} {k f t : Nat} {g : Bool} (hH : H.length = R.cn) (h : Mid2 R L H O0 O k g f t) {s : Sd} (hs : SdHt R L H s f t) (h1 : O.getD t 0 ≠ 99) (h2 : O.getD f 0 = 99) :
    O.getD t 0 - sby R L s = H.getD f 0 ∧ GrMid R L H O0 (O.set f (H.getD f 0)) (k + 1) true := by
  have e : O.getD t 0 = H.getD t 0 := (h.gr.ok t).resolve_left h1
  refine ⟨by rw [e, hs.by_]; omega, gr_set h.gr (by rw [hH]; exact hs.fl), fun _ => ?_, fun h => by cases h⟩
  exact Nat.lt_of_lt_of_le (n99_set h2 (by rw [h.gr.len, hH]; exact hs.fl) (by have := hs.fb; omega)) h.le
theorem mid2_skip {R : Reg} {L H O0 O : List Int} {k f t : Nat} {g : Bool} (h : Mid2 R L H O0 O k g f t) {s : Sd} (hk : (sidesOf R)[k]? = some s) (hs : SdHt R L H s f t) (he : O.getD f 0 = 99 ↔ O.getD t 0 = 99) : GrMid R L H O0 O (k + 1) g := by
  rcases h.or_ with h1 | ⟨h1, h2⟩
  · exact grmid_skip h1 hk hs he
  · exact absurd (he.2 h2) h1
theorem n99_rep (n : Nat) : n99 (List.replicate n 99) = n := by unfold n99; simp [List.countP_replicate]

/-! ### The heights of whatever comes in -/
noncomputable def tiledB (W T : Int) (bs : List Bool) (L : List Int) : Bool := simpleB W T bs && tilingB W T bs L
open Classical in
noncomputable def htsOf (W T : Int) (bs : List Bool) (L : List Int) : List Int :=
  if h : tiledB W T bs L = true ∧ ∃ H, Hts ⟨W.toNat, T.toNat, bs⟩ L H then Classical.choose h.2 else []
theorem htsOf_no {W T : Int} {bs : List Bool} {L : List Int} (h : tiledB W T bs L = false) : htsOf W T bs L = [] := by
  unfold htsOf
  rw [dif_neg]
  rintro ⟨h1, _⟩
  rw [h] at h1; cases h1
theorem tiled_cases {W T : Int} {bs : List Bool} {L : List Int} (h : tiledB W T bs L = true) : ∃ R : Reg, R.ok ∧ W = (R.W : Int) ∧ T = (R.T : Int) ∧ bs = R.C ∧ SimpleP R ∧ Lay R L ∧ Full R L := by
  unfold tiledB at h
  rw [Bool.and_eq_true] at h
  have hv : validB W T bs = true := by
    cases hv : validB W T bs with
    | true => rfl
    | false => rw [tilingB_no (laidB_no hv)] at h; cases h.2
  obtain ⟨R, hR, rfl, rfl, rfl⟩ := reg_of_valid hv
  rw [tilingB_ok hR, Bool.and_eq_true] at h
  exact ⟨R, hR, rfl, rfl, rfl, (simple_of hR).1 h.1, (laysB_iff hR).1 h.2.1, (fullB_iff hR).1 h.2.2⟩
theorem tiled_ok {R : Reg} (hR : R.ok) {L : List Int} : tiledB R.W R.T R.C L = true ↔ SimpleP R ∧ Lay R L ∧ Full R L := by
  unfold tiledB
  rw [Bool.and_eq_true, tilingB_ok hR, Bool.and_eq_true, simple_of hR, laysB_iff hR, fullB_iff hR]
theorem htsOf_yes {R : Reg} (hR : R.ok) (hS : SimpleP R) {L : List Int} (hL : Lay R L) (hF : Full R L) : Hts R L (htsOf R.W R.T R.C L) := by
  have h : tiledB R.W R.T R.C L = true ∧ ∃ H, Hts ⟨(R.W : Int).toNat, (R.T : Int).toNat, R.C⟩ L H := ⟨(tiled_ok hR).2 ⟨hS, hL, hF⟩, hts_exist hR hS hL hF⟩
  unfold htsOf
  rw [dif_pos h]
  exact Classical.choose_spec h.2
theorem htsOf_len {W T : Int} {bs : List Bool} {L : List Int} : (htsOf W T bs L).length ≤ 49 := by
  cases h : tiledB W T bs L with
  | false => rw [htsOf_no h]; simp
  | true =>
    obtain ⟨R, hR, rfl, rfl, rfl, hS, hL, hF⟩ := tiled_cases h
    rw [(htsOf_yes hR hS hL hF).len]
    exact (cn_bd hR).2
theorem htsOf_pos {W T : Int} {bs : List Bool} {L : List Int} : 0 < (htsOf W T bs L).length ↔ tiledB W T bs L = true := by
  constructor
  · intro h
    cases ht : tiledB W T bs L with
    | false => rw [htsOf_no ht] at h; cases h
    | true => rfl
  · intro h
    obtain ⟨R, hR, rfl, rfl, rfl, hS, hL, hF⟩ := tiled_cases h
    rw [(htsOf_yes hR hS hL hF).len]
    have := cn_bd hR; omega

end Go.Proofs.Ythepfpiphlfgnaa
