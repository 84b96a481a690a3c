/-
  YthepfpiphlfgnaaH2: how heights grow along sides, in plain Lean.
-/
import Derived.Test.YthepfpiphlfgnaaSd
namespace Go.Proofs.Ythepfpiphlfgnaa

/-- By how much heights grow along a side. -/
def sby (R : Reg) (L : List Int) (s : Sd) : Int := if crossB R L s.lx s.ly s.rx s.ry = true then -3 * sg s.lx s.ly else sg s.lx s.ly

theorem cross_e {R : Reg} (hR : R.ok) {L : List Int} (h : Lay R L) (x y : Nat) : crossB R L x y x ((y : Int) - 1) = decide (R.way L x ((y : Int) - 1) = 2) := by
  have hv := h.ver x ((y : Int) - 1)
  rw [show (y : Int) - 1 + 1 = y by omega] at hv
  rw [Bool.eq_iff_iff, decide_eq_true_eq, hv]
  unfold crossB
  simp only [Bool.and_eq_true, decide_eq_true_eq]
  constructor
  · rintro ⟨⟨h1, h2⟩, h3, h4⟩
    obtain ⟨a, b, e1, e2, ha, hb, hc⟩ := at_cell hR h1
    obtain ⟨a', b', e1', e2', ha', hb', hc'⟩ := at_cell hR h2
    obtain rfl : x = a := by omega
    obtain rfl : y = b := by omega
    obtain rfl : x = a' := by omega
    obtain rfl : y = b' + 1 := by omega
    have e : ((((b' + 1 : Nat) : Int)) * (R.W : Int) + (x : Int)).toNat = (b' + 1) * R.W + x := by
      have : (((b' + 1 : Nat) : Int)) * (R.W : Int) + (x : Int) = (((b' + 1) * R.W + x : Nat) : Int) := by simp
      rw [this]; rfl
    have e2 : ((((b' + 1 : Nat) : Int)) - 1) * (R.W : Int) + (x : Int) = ((b' * R.W + x : Nat) : Int) := by
      rw [show (((b' + 1 : Nat) : Int)) - 1 = (b' : Int) by omega]; simp
    rw [e, e2] at h4
    rcases step_cases h4 with ⟨_, _, k⟩ | ⟨_, _, k⟩ | ⟨_, k1, k⟩ | ⟨k, _⟩
    · rw [Nat.add_mul] at k; omega
    · rw [Nat.add_mul] at k; have := hR.1; omega
    · rw [mk_mod _ ha] at k1; rw [Nat.add_mul] at k; have := hR.1; omega
    · exact k
  · intro h4
    have h1 := h.at_ x y (by omega)
    have h2 := h.at_ x ((y : Int) - 1) (by omega)
    refine ⟨⟨h1, h2⟩, by omega, ?_⟩
    obtain ⟨a, b, e1, e2, ha, hb, hc⟩ := at_cell hR h1
    obtain ⟨a', b', e1', e2', ha', hb', hc'⟩ := at_cell hR h2
    obtain rfl : x = a := by omega
    obtain rfl : y = b := by omega
    obtain rfl : y = b' + 1 := by omega
    have e : ((((b' + 1 : Nat) : Int)) * (R.W : Int) + (x : Int)).toNat = (b' + 1) * R.W + x := by
      have : (((b' + 1 : Nat) : Int)) * (R.W : Int) + (x : Int) = (((b' + 1) * R.W + x : Nat) : Int) := by simp
      rw [this]; rfl
    rw [h4, e, Reg.step, if_neg (by omega), if_neg (by omega), if_neg (by omega), if_pos rfl, mk_div _ ha, if_pos (by omega)]
    rw [show (((b' + 1 : Nat) : Int)) - 1 = (b' : Int) by omega, Nat.add_mul]
    simp; omega

theorem cross_n {R : Reg} (hR : R.ok) {L : List Int} (h : Lay R L) (x y : Nat) : crossB R L ((x : Int) - 1) y x y = decide (R.way L ((x : Int) - 1) y = 1) := by
  have hv := h.hor ((x : Int) - 1) y
  rw [show (x : Int) - 1 + 1 = x by omega] at hv
  rw [Bool.eq_iff_iff, decide_eq_true_eq]
  unfold crossB
  simp only [Bool.and_eq_true, decide_eq_true_eq]
  constructor
  · rintro ⟨⟨h1, h2⟩, h3, h4⟩
    obtain ⟨a, b, e1, e2, ha, hb, hc⟩ := at_cell hR h1
    obtain ⟨a', b', e1', e2', ha', hb', hc'⟩ := at_cell hR h2
    obtain rfl : y = b := by omega
    obtain rfl : x = a + 1 := by omega
    have e : (((y : Nat) : Int) * (R.W : Int) + (((a + 1 : Nat) : Int) - 1)).toNat = y * R.W + a := by
      have : ((y : Nat) : Int) * (R.W : Int) + (((a + 1 : Nat) : Int) - 1) = ((y * R.W + a : Nat) : Int) := by (simp <;> omega)
      rw [this]; rfl
    have e2 : ((y : Nat) : Int) * (R.W : Int) + ((a + 1 : Nat) : Int) = ((y * R.W + (a + 1) : Nat) : Int) := by simp
    rw [e, e2] at h4
    rcases step_cases h4 with ⟨k, _⟩ | ⟨_, _, k⟩ | ⟨_, k1, k⟩ | ⟨_, _, k⟩
    · exact k
    · omega
    · omega
    · omega
  · intro h4
    have h1 := h.at_ ((x : Int) - 1) y (by omega)
    have h2 := h.at_ x y (by rw [hv.1 h4]; decide)
    refine ⟨⟨h1, h2⟩, by omega, ?_⟩
    obtain ⟨a, b, e1, e2, ha, hb, hc⟩ := at_cell hR h1
    obtain ⟨a', b', e1', e2', ha', hb', hc'⟩ := at_cell hR h2
    obtain rfl : y = b := by omega
    obtain rfl : x = a + 1 := by omega
    have e : (((y : Nat) : Int) * (R.W : Int) + (((a + 1 : Nat) : Int) - 1)).toNat = y * R.W + a := by
      have : ((y : Nat) : Int) * (R.W : Int) + (((a + 1 : Nat) : Int) - 1) = ((y * R.W + a : Nat) : Int) := by (simp <;> omega)
      rw [this]; rfl
    rw [h4, e, Reg.step, if_pos rfl, mk_mod _ ha, if_pos (by omega)]
    simp; omega

/-- A side's numbers. -/
structure SdAt (R : Reg) (s : Sd) (f t : Nat) : Prop where
  fe : s.f = (f : Nat)
  te : s.t = (t : Nat)
  fl : f < R.cn
  tl : t < R.cn
  bd : s.bd
  ne : f ≠ t

theorem mem_sides {R : Reg} {s : Sd} {k : Nat} (h : s ∈ sidesTo R k) (hk : k ≤ R.cn) : ∃ x y : Nat, x ≤ R.W ∧ y ≤ R.T ∧ R.ci x y < k ∧ (s ∈ sideE R x y ∨ s ∈ sideN R x y) := by
  unfold sidesTo at h
  rw [List.mem_flatMap] at h
  obtain ⟨c, hc, hs⟩ := h
  have hc' := List.mem_range.1 hc
  obtain ⟨h1, h2⟩ := ci_in (R := R) (c := c) (by omega)
  unfold sidesAt at hs
  rw [List.mem_append] at hs
  exact ⟨_, _, h1, h2, by rw [ci_of]; exact hc', hs⟩

theorem sideE_mem {R : Reg} {x y : Nat} {s : Sd} (h : s ∈ sideE R x y) : (R.at x y = true ∨ R.at x ((y : Int) - 1) = true) ∧ s = ⟨(R.ci x y : Nat), ((R.ci x y : Nat) : Int) + 1, x, y, x, (y : Int) - 1⟩ := by
  unfold sideE at h
  split at h
  · rename_i h1
    exact ⟨by simpa using h1, by simpa using h⟩
  · simp at h
theorem sideN_mem {R : Reg} {x y : Nat} {s : Sd} (h : s ∈ sideN R x y) : (R.at x y = true ∨ R.at ((x : Int) - 1) y = true) ∧ s = ⟨(R.ci x y : Nat), ((R.ci x y : Nat) : Int) + ((R.W : Int) + 1), (x : Int) - 1, y, x, y⟩ := by
  unfold sideN at h
  split at h
  · rename_i h1
    exact ⟨by simpa using h1, by simpa using h⟩
  · simp at h
theorem at_x {R : Reg} {x : Nat} {y : Int} (h : R.at x y = true) : x < R.W := by
  rcases Nat.lt_or_ge x R.W with h1 | h1
  · exact h1
  · rw [at_out (by omega)] at h; cases h
theorem at_y {R : Reg} {x : Int} {y : Nat} (h : R.at x y = true) : y < R.T := by
  rcases Nat.lt_or_ge y R.T with h1 | h1
  · exact h1
  · rw [at_out (by omega)] at h; cases h

theorem sideE_at {R : Reg} (hR : R.ok) {x y : Nat} (hy : y ≤ R.T) (h : R.at x y = true ∨ R.at x ((y : Int) - 1) = true) : x < R.W ∧ SdAt R ⟨(R.ci x y : Nat), ((R.ci x y : Nat) : Int) + 1, x, y, x, (y : Int) - 1⟩ (R.ci x y) (R.ci (x + 1) y) := by
  have hx : x < R.W := by rcases h with h | h <;> exact at_x h
  have e : R.ci (x + 1) y = R.ci x y + 1 := by unfold Reg.ci; omega
  have hW := hR.2.1
  have hT := hR.2.2.2.1
  exact ⟨hx, rfl, by rw [e]; simp, ci_lt (by omega) hy, ci_lt (by omega) hy, ⟨by (simp <;> omega), by (simp <;> omega), by (simp <;> omega), by (simp <;> omega), by (simp <;> omega), by (simp <;> omega), by (simp <;> omega), by (simp <;> omega)⟩, by omega⟩
theorem sideN_at {R : Reg} (hR : R.ok) {x y : Nat} (hx : x ≤ R.W) (h : R.at x y = true ∨ R.at ((x : Int) - 1) y = true) : y < R.T ∧ SdAt R ⟨(R.ci x y : Nat), ((R.ci x y : Nat) : Int) + ((R.W : Int) + 1), (x : Int) - 1, y, x, y⟩ (R.ci x y) (R.ci x (y + 1)) := by
  have hy : y < R.T := by rcases h with h | h <;> exact at_y h
  have e : R.ci x (y + 1) = R.ci x y + (R.W + 1) := by unfold Reg.ci; rw [Nat.add_mul]; omega
  have hW := hR.2.1
  have hT := hR.2.2.2.1
  exact ⟨hy, rfl, by rw [e]; simp, ci_lt hx (by omega), ci_lt hx (by omega), ⟨by (simp <;> omega), by (simp <;> omega), by (simp <;> omega), by (simp <;> omega), by (simp <;> omega), by (simp <;> omega), by (simp <;> omega), by (simp <;> omega)⟩, by omega⟩

/-- What holds of the heights of a tiling at a side. -/
structure SdHt (R : Reg) (L H : List Int) (s : Sd) (f t : Nat) : Prop extends SdAt R s f t where
  by_ : H.getD t 0 = H.getD f 0 + sby R L s
  fb : -51 ≤ H.getD f 0 ∧ H.getD f 0 ≤ 51
  tb : -51 ≤ H.getD t 0 ∧ H.getD t 0 ≤ 51

theorem side_ht {R : Reg} (hR : R.ok) (hI : InConn R) {L H : List Int} (hL : Lay R L) (hF : Full R L) (hH : Hts R L H) {s : Sd} (hs : s ∈ sidesOf R) : ∃ f t : Nat, SdHt R L H s f t := by
  obtain ⟨x, y, hx, hy, _, h⟩ := mem_sides hs (Nat.le_refl _)
  rcases h with h | h
  · obtain ⟨hu, rfl⟩ := sideE_mem h
    obtain ⟨hxl, ha⟩ := sideE_at hR hy hu
    refine ⟨_, _, ha, ?_, hts_bd hR hI hL hF hH (cu_e hu).1, hts_bd hR hI hL hF hH (cu_e hu).2⟩
    have := hH.e x y hxl hy hu
    unfold Reg.ht at this
    rw [this]
    unfold sby
    rw [cross_e hR hL]
    simp only [tform, decide_eq_true_eq]
  · obtain ⟨hu, rfl⟩ := sideN_mem h
    obtain ⟨hyl, ha⟩ := sideN_at hR hx hu
    refine ⟨_, _, ha, ?_, hts_bd hR hI hL hF hH (cu_n hu).1, hts_bd hR hI hL hF hH (cu_n hu).2⟩
    have := hH.n x y hx hyl hu
    unfold Reg.ht at this
    rw [this]
    unfold sby
    rw [cross_n hR hL]
    simp only [tform, decide_eq_true_eq]

/-! ### The rounds -/
/-- Every height is the right one, or not yet known. -/
structure Gr (H O : List Int) : Prop where
  len : O.length = H.length
  ok : ∀ c, O.getD c 0 = 99 ∨ O.getD c 0 = H.getD c 0
def n99 (O : List Int) : Nat := O.countP (· == 99)

theorem getD_set {O : List Int} {c d : Nat} {v : Int} (hc : c < O.length) : (O.set c v).getD d 0 = if c = d then v else O.getD d 0 := by
  rw [List.getD_eq_getElem?_getD, List.getElem?_set]
  by_cases h : c = d
  · subst h; rw [if_pos rfl, if_pos rfl, if_pos hc]; rfl
  · rw [if_neg h, if_neg h, List.getD_eq_getElem?_getD]
theorem gr_set {H O : List Int} (h : Gr H O) {c : Nat} (hc : c < H.length) : Gr H (O.set c (H.getD c 0)) := by
  refine ⟨by rw [List.length_set]; exact h.len, fun d => ?_⟩
  rw [getD_set (by rw [h.len]; exact hc)]
  by_cases hd : c = d
  · subst hd; rw [if_pos rfl]; exact .inr rfl
  · rw [if_neg hd]; exact h.ok d
theorem n99_set : ∀ {O : List Int} {c : Nat} {v : Int}, O.getD c 0 = 99 → c < O.length → v ≠ 99 → n99 (O.set c v) < n99 O
  | [], c, _, _, hc, _ => by simp at hc
  | o :: O, 0, v, h, _, hv => by
    simp at h; subst h
    simp only [n99, List.set_cons_zero, List.countP_cons]
    simp [hv]
  | o :: O, c + 1, v, h, hc, hv => by
    have h1 : O.getD c 0 = 99 := by simpa using h
    have := n99_set (O := O) (c := c) h1 (by simpa using hc) hv
    simp only [n99, List.set_cons_succ, List.countP_cons] at this ⊢
    omega

/-- In the middle of a round: something has grown since, or nothing has, and the sides so far are even. -/
structure GrMid (R : Reg) (L H O0 O : List Int) (k : Nat) (g : Bool) : Prop where
  gr : Gr H O
  yes : g = true → n99 O < n99 O0
  no : g = false → O = O0 ∧ ∀ (j : Nat) (s : Sd) (f t : Nat), j < k → (sidesOf R)[j]? = some s → SdHt R L H s f t → (O.getD f 0 = 99 ↔ O.getD t 0 = 99)

theorem grmid_start {R : Reg} {L H O : List Int} (h : Gr H O) : GrMid R L H O O 0 false := ⟨h, fun h => (by cases h), fun _ => ⟨rfl, fun j s f t hj => absurd hj (by omega)⟩⟩
theorem sdAt_one {R : Reg} {s : Sd} {f t f' t' : Nat} (h : SdAt R s f t) (h' : SdAt R s f' t') : f' = f ∧ t' = t := by
  have h1 := h.fe
  have h2 := h'.fe
  have h3 := h.te
  have h4 := h'.te
  omega
theorem grmid_skip {R : Reg} {L H O0 O : List Int} {k : Nat} {g : Bool} (h : GrMid R L H O0 O k g) {s : Sd} {f t : Nat} (hk : (sidesOf R)[k]? = some s) (hs : SdHt R L H s f t) (he : O.getD f 0 = 99 ↔ O.getD t 0 = 99) : GrMid R L H O0 O (k + 1) g := by
  refine ⟨h.gr, h.yes, fun hg => ⟨(h.no hg).1, fun j s' f' t' hj hjs hs' => ?_⟩⟩
  by_cases hjk : j = k
  · subst hjk
    rw [hk] at hjs
    injection hjs with hjs
    subst hjs
    obtain ⟨rfl, rfl⟩ := sdAt_one hs.toSdAt hs'.toSdAt
    exact he
  · exact (h.no hg).2 j s' f' t' (by omega) hjs hs'
theorem le_of_mid {R : Reg} {L H O0 O : List Int} {k : Nat} {g : Bool} (h : GrMid R L H O0 O k g) : n99 O ≤ n99 O0 := by
  cases g with
  | true => exact Nat.le_of_lt (h.yes rfl)
  | false => rw [(h.no rfl).1]; exact Nat.le_refl _
theorem grmid_t {R : Reg} {L H O0 O : List Int} {k : Nat} {g : Bool} (hH : H.length = R.cn) (h : GrMid R L H O0 O k g) {s : Sd} {f t : Nat} (hs : SdHt R L H s f t) (h1 : O.getD f 0 ≠ 99) (h2 : O.getD t 0 = 99) :
    O.getD f 0 + sby R L s = H.getD t 0 ∧ GrMid R L H O0 (O.set t (H.getD t 0)) (k + 1) true := by
  have e : O.getD f 0 = H.getD f 0 := (h.gr.ok f).resolve_left h1
  refine ⟨by rw [e, hs.by_], gr_set h.gr (by rw [hH]; exact hs.tl), fun _ => ?_, fun h => by cases h⟩
  exact Nat.lt_of_lt_of_le (n99_set h2 (by rw [h.gr.len, hH]; exact hs.tl) (by have := hs.tb; omega)) (le_of_mid h)
theorem grmid_f {R : Reg} {L H O0 O : List Int} {k : Nat} {g : Bool} (hH : H.length = R.cn) (h : GrMid R L H O0 O k g) {s : Sd} {f t : Nat} (hs : SdHt R L H s f t) (h1 : O.getD t 0 ≠ 99) (h2 : O.getD f 0 = 99) :
    O.getD t 0 - sby R L s = H.getD f 0 ∧ GrMid R L H O0 (O.set f (H.getD f 0)) (k + 1) true := by
  have e : O.getD t 0 = H.getD t 0 := (h.gr.ok t).resolve_left h1
  refine ⟨by rw [e, hs.by_]; omega, gr_set h.gr (by rw [hH]; exact hs.fl), fun _ => ?_, fun h => by cases h⟩
  exact Nat.lt_of_lt_of_le (n99_set h2 (by rw [h.gr.len, hH]; exact hs.fl) (by have := hs.fb; omega)) (le_of_mid h)

/-- All sides even: all heights are known. -/
theorem gr_end {R : Reg} (hR : R.ok) (hI : InConn R) {L H O : List Int} (hL : Lay R L) (hF : Full R L) (hH : Hts R L H) (hO : Gr H O) {x0 y0 : Nat} (h0 : First R x0 y0) (hf : O.getD (R.ci x0 y0) 0 ≠ 99)
    (hev : ∀ (s : Sd) (f t : Nat), s ∈ sidesOf R → SdHt R L H s f t → (O.getD f 0 = 99 ↔ O.getD t 0 = 99)) : O = H := by
  have mem : ∀ x y : Nat, x ≤ R.W → y ≤ R.T → ∀ s, s ∈ sideE R x y ∨ s ∈ sideN R x y → s ∈ sidesOf R := by
    intro x y hx hy s hs
    unfold sidesOf sidesTo
    rw [List.mem_flatMap]
    refine ⟨R.ci x y, List.mem_range.2 (ci_lt hx hy), ?_⟩
    unfold sidesAt
    rw [ci_mod y hx, ci_div y hx, List.mem_append]
    exact hs
  refine ht_ext (by rw [hO.len]; exact hH.len) hH.len fun x y hx hy => ?_
  show O.getD (R.ci x y) 0 = H.getD (R.ci x y) 0
  rcases hO.ok (R.ci x y) with h | h
  · cases hu : R.cu x y with
    | false => rw [h]; exact (hH.no x y hx hy hu).symm
    | true =>
      refine absurd h ?_
      refine conn_corners hR hI (fun x y => O.getD (R.ci x y) 0 ≠ 99) (fun x y hx hy hu => ?_) (fun x y hx hy hu => ?_) h0.2.2.1 hu hf
      · have hm := mem x y (by omega) hy ⟨(R.ci x y : Nat), ((R.ci x y : Nat) : Int) + 1, x, y, x, (y : Int) - 1⟩ (.inl (by unfold sideE; rw [if_pos (by simpa using hu)]; simp))
        obtain ⟨f, t, hst⟩ := side_ht hR hI hL hF hH hm
        obtain ⟨rfl, rfl⟩ := sdAt_one (sideE_at hR hy hu).2 hst.toSdAt
        exact not_congr (hev _ _ _ hm hst)
      · have hm := mem x y hx (by omega) ⟨(R.ci x y : Nat), ((R.ci x y : Nat) : Int) + ((R.W : Int) + 1), (x : Int) - 1, y, x, y⟩ (.inr (by unfold sideN; rw [if_pos (by simpa using hu)]; simp))
        obtain ⟨f, t, hst⟩ := side_ht hR hI hL hF hH hm
        obtain ⟨rfl, rfl⟩ := sdAt_one (sideN_at hR hx hu).2 hst.toSdAt
        exact not_congr (hev _ _ _ hm hst)
  · exact h
theorem grmid_end {R : Reg} (hR : R.ok) (hI : InConn R) {L H O0 O : List Int} (hL : Lay R L) (hF : Full R L) (hH : Hts R L H) {x0 y0 : Nat} (h0 : First R x0 y0) (hf : O.getD (R.ci x0 y0) 0 ≠ 99) (h : GrMid R L H O0 O (sidesOf R).length false) : O = H := by
  refine gr_end hR hI hL hF hH h.gr h0 hf fun s f t hs hst => ?_
  obtain ⟨j, hj, rfl⟩ := List.mem_iff_getElem.1 hs
  exact (h.no rfl).2 j _ f t hj (List.getElem?_eq_getElem hj) hst

/-- The start: no height known but the first one. -/
theorem gr_first {R : Reg} {L H : List Int} (hH : Hts R L H) {x0 y0 : Nat} (h0 : First R x0 y0) : Gr H ((List.replicate R.cn 99).set (R.ci x0 y0) 0) := by
  have hl := ci_lt h0.1 h0.2.1
  refine ⟨by rw [List.length_set, List.length_replicate, hH.len], fun d => ?_⟩
  rw [getD_set (by simpa using hl)]
  by_cases hd : R.ci x0 y0 = d
  · subst hd; rw [if_pos rfl]; exact .inr (hH.first _ _ h0).symm
  · rw [if_neg hd]
    by_cases hdl : d < R.cn
    · left; rw [List.getD_eq_getElem?_getD, List.getElem?_replicate, if_pos hdl]; rfl
    · right
      rw [List.getD_eq_getElem?_getD, List.getD_eq_getElem?_getD, List.getElem?_eq_none (by simp; omega), List.getElem?_eq_none (by rw [hH.len]; omega)]

/-- The least end of a side. -/
structure Least (R : Reg) (k : Nat) (m : Int) : Prop where
  low : ∀ (j : Nat) (s : Sd), j < k → (sidesOf R)[j]? = some s → m ≤ s.f ∧ m ≤ s.t
  at_ : m = R.cn ∨ ∃ s ∈ sidesOf R, m = s.f ∨ m = s.t
theorem least_start (R : Reg) : Least R 0 R.cn := ⟨fun j s hj => by omega, .inl rfl⟩
theorem least_next {R : Reg} {k : Nat} {m : Int} (h : Least R k m) {s : Sd} (hs : (sidesOf R)[k]? = some s) : Least R (k + 1) (min (min m s.f) s.t) := by
  refine ⟨fun j s' hj hjs => ?_, ?_⟩
  · by_cases hjk : j = k
    · subst hjk
      rw [hs] at hjs
      injection hjs with hjs
      subst hjs
      omega
    · have := h.low j s' (by omega) hjs
      omega
  · have hm : s ∈ sidesOf R := List.mem_of_getElem? hs
    have : min (min m s.f) s.t = m ∨ min (min m s.f) s.t = s.f ∨ min (min m s.f) s.t = s.t := by omega
    rcases this with e | e | e
    · rw [e]; exact h.at_
    · rw [e]; exact .inr ⟨s, hm, .inl rfl⟩
    · rw [e]; exact .inr ⟨s, hm, .inr rfl⟩
theorem least_end {R : Reg} (hR : R.ok) {m : Int} (h : Least R (sidesOf R).length m) {x0 y0 : Nat} (h0 : First R x0 y0) : m = (R.ci x0 y0 : Nat) := by
  have hc := first_cell hR h0
  have hm : (⟨(R.ci x0 y0 : Nat), ((R.ci x0 y0 : Nat) : Int) + 1, x0, y0, x0, (y0 : Int) - 1⟩ : Sd) ∈ sidesOf R := by
    unfold sidesOf sidesTo
    rw [List.mem_flatMap]
    refine ⟨R.ci x0 y0, List.mem_range.2 (ci_lt h0.1 h0.2.1), ?_⟩
    unfold sidesAt
    rw [ci_mod y0 h0.1, ci_div y0 h0.1, List.mem_append]
    left
    unfold sideE; rw [hc]; simp
  obtain ⟨j, hj, e⟩ := List.mem_iff_getElem.1 hm
  have h1 := (h.low j _ hj (by rw [List.getElem?_eq_getElem hj, e])).1
  simp only at h1
  have h2 : ∀ s ∈ sidesOf R, ((R.ci x0 y0 : Nat) : Int) ≤ s.f ∧ ((R.ci x0 y0 : Nat) : Int) ≤ s.t := by
    intro s hs
    obtain ⟨x, y, hx, hy, _, h⟩ := mem_sides hs (Nat.le_refl _)
    rcases h with h | h
    · obtain ⟨hu, rfl⟩ := sideE_mem h
      obtain ⟨hxl, ha⟩ := sideE_at hR hy hu
      have k1 := h0.2.2.2 x y hx hy (cu_e hu).1
      simp only
      omega
    · obtain ⟨hu, rfl⟩ := sideN_mem h
      have k1 := h0.2.2.2 x y hx hy (cu_n hu).1
      simp only
      omega
  rcases h.at_ with e | ⟨s, hs, e | e⟩
  · have := ci_lt h0.1 h0.2.1; omega
  · have := h2 s hs; omega
  · have := h2 s hs; omega

end Go.Proofs.Ythepfpiphlfgnaa
