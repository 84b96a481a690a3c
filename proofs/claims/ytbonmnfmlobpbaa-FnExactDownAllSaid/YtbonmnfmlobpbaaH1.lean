/-
  YtbonmnfmlobpbaaH1: dominoes by columns and rows; heights of a tiling: there are some, no others, and none is great. Plain Lean.
-/
import Derived.Test.YtbonmnfmlobpbaaH0
namespace Go.Proofs.Ytbonmnfmlobpbaa

/-- The direction of a cell; 0 outside of the field. -/
def Reg.way (R : Reg) (L : List Int) (x y : Int) : Int := if 0 ≤ x ∧ x < R.W ∧ 0 ≤ y ∧ y < R.T then L.getD (y * R.W + x).toNat 0 else 0
theorem way_in {R : Reg} {L : List Int} {x y : Nat} (hx : x < R.W) (hy : y < R.T) : R.way L x y = L.getD (y * R.W + x) 0 := by
  unfold Reg.way
  rw [if_pos (by omega)]
  congr 1
theorem way_out {R : Reg} {L : List Int} {x y : Int} (h : ¬ (0 ≤ x ∧ x < R.W ∧ 0 ≤ y ∧ y < R.T)) : R.way L x y = 0 := if_neg h
theorem way_ne {R : Reg} {L : List Int} {x y : Int} (h : R.way L x y ≠ 0) : ∃ a b : Nat, x = a ∧ y = b ∧ a < R.W ∧ b < R.T := by
  by_cases hc : 0 ≤ x ∧ x < R.W ∧ 0 ≤ y ∧ y < R.T
  · exact ⟨x.toNat, y.toNat, by omega, by omega, by omega, by omega⟩
  · exact absurd (way_out hc) h
theorem at_cell {R : Reg} (hR : R.ok) {x y : Int} (h : R.at x y = true) : ∃ a b : Nat, x = a ∧ y = b ∧ a < R.W ∧ b < R.T ∧ R.cell (b * R.W + a) := by
  by_cases hc : 0 ≤ x ∧ x < R.W ∧ 0 ≤ y ∧ y < R.T
  · obtain ⟨a, rfl⟩ := Int.eq_ofNat_of_zero_le hc.1
    obtain ⟨b, rfl⟩ := Int.eq_ofNat_of_zero_le hc.2.2.1
    refine ⟨a, b, rfl, rfl, by omega, by omega, ?_⟩
    rw [at_in (by omega) (by omega)] at h
    have hl := idx_lt hR (x := a) (y := b) (by omega) (by omega)
    rw [List.getD_eq_getElem?_getD, List.getElem?_eq_getElem hl] at h
    unfold Reg.cell
    rw [List.getElem?_eq_getElem hl]
    simpa using h
  · rw [at_out hc] at h; cases h
theorem cell_at {R : Reg} {a b : Nat} (ha : a < R.W) (hb : b < R.T) (h : R.cell (b * R.W + a)) : R.at a b = true := by
  rw [at_in ha hb, List.getD_eq_getElem?_getD, h]; rfl
theorem cell_at' {R : Reg} (hR : R.ok) {c : Nat} (h : R.cell c) : R.at ((c % R.W : Nat) : Int) ((c / R.W : Nat) : Int) = true :=
  cell_at (xy_lt hR (cell_lt h)).1 (xy_lt hR (cell_lt h)).2 (by rw [xy_eq]; exact h)

/-- A list lays dominoes, by columns and rows. -/
structure Lay (R : Reg) (L : List Int) : Prop where
  len : L.length = R.C.length
  at_ : ∀ x y, R.way L x y ≠ 0 → R.at x y = true
  rng : ∀ x y, 0 ≤ R.way L x y ∧ R.way L x y ≤ 4
  hor : ∀ x y, R.way L x y = 1 ↔ R.way L (x + 1) y = 3
  ver : ∀ x y, R.way L x y = 2 ↔ R.way L x (y + 1) = 4
def Full (R : Reg) (L : List Int) : Prop := ∀ x y, R.at x y = true → R.way L x y ≠ 0

/-- .. and by the indices of cells. -/
def LayAt (R : Reg) (L : List Int) (k : Nat) : Prop := L.getD k 0 = 0 ∨ ∃ e : Nat, R.step k (L.getD k 0) = (e : Int) ∧ R.cell k ∧ R.cell e ∧ L.getD e 0 = back (L.getD k 0)

theorem lay_of {R : Reg} (hR : R.ok) {L : List Int} (hl : L.length = R.C.length) (h : ∀ k, k < R.C.length → LayAt R L k) : Lay R L := by
  have key : ∀ {x y : Int}, R.way L x y ≠ 0 → ∃ a b e : Nat, x = a ∧ y = b ∧ a < R.W ∧ b < R.T ∧ R.cell (b * R.W + a) ∧ R.cell e ∧ R.step (b * R.W + a) (R.way L x y) = (e : Int) ∧ L.getD e 0 = back (R.way L x y) := by
    intro x y hw
    obtain ⟨a, b, rfl, rfl, ha, hb⟩ := way_ne hw
    rw [way_in ha hb] at hw ⊢
    rcases h _ (idx_lt hR ha hb) with h0 | ⟨e, h1, h2, h3, h4⟩
    · exact absurd h0 hw
    · exact ⟨a, b, e, rfl, rfl, ha, hb, h2, h3, h1, h4⟩
  refine ⟨hl, fun x y hw => ?_, fun x y => ?_, fun x y => ⟨fun hw => ?_, fun hw => ?_⟩, fun x y => ⟨fun hw => ?_, fun hw => ?_⟩⟩
  · obtain ⟨a, b, e, rfl, rfl, ha, hb, hc, _⟩ := key hw
    exact cell_at ha hb hc
  · by_cases hw : R.way L x y = 0
    · omega
    · obtain ⟨a, b, e, rfl, rfl, ha, hb, hc, _, hs, _⟩ := key hw
      rcases step_cases hs with ⟨h1, _⟩ | ⟨h1, _⟩ | ⟨h1, _⟩ | ⟨h1, _⟩ <;> omega
  · obtain ⟨a, b, e, rfl, rfl, ha, hb, _, _, hs, hx⟩ := key (x := x) (y := y) (by omega)
    rw [hw] at hs hx
    rcases step_cases hs with ⟨_, h1, rfl⟩ | ⟨h1, _⟩ | ⟨h1, _⟩ | ⟨h1, _⟩
    · rw [mk_mod b ha] at h1
      rw [show (a : Int) + 1 = ((a + 1 : Nat) : Int) by omega, way_in h1 hb]
      exact hx
    all_goals omega
  · obtain ⟨a, b, e, ea, rfl, ha, hb, _, _, hs, hx⟩ := key (x := x + 1) (y := y) (by omega)
    rw [hw] at hs hx
    rcases step_cases hs with ⟨h1, _⟩ | ⟨h1, _⟩ | ⟨_, h1, he⟩ | ⟨h1, _⟩
    · omega
    · omega
    · rw [mk_mod b ha] at h1
      obtain ⟨c, rfl⟩ : ∃ c, a = c + 1 := ⟨a - 1, by omega⟩
      obtain rfl : x = (c : Int) := by omega
      rw [way_in (by omega) hb]
      obtain rfl : e = b * R.W + c := by omega
      exact hx
    · omega
  · obtain ⟨a, b, e, rfl, rfl, ha, hb, _, _, hs, hx⟩ := key (x := x) (y := y) (by omega)
    rw [hw] at hs hx
    rcases step_cases hs with ⟨h1, _⟩ | ⟨_, h1, rfl⟩ | ⟨h1, _⟩ | ⟨h1, _⟩
    · omega
    · rw [mk_div b ha] at h1
      rw [show (b : Int) + 1 = ((b + 1 : Nat) : Int) by omega, way_in ha h1, show (b + 1) * R.W + a = b * R.W + a + R.W by rw [Nat.add_mul]; omega]
      exact hx
    all_goals omega
  · obtain ⟨a, b, e, rfl, eb, ha, hb, _, _, hs, hx⟩ := key (x := x) (y := y + 1) (by omega)
    rw [hw] at hs hx
    rcases step_cases hs with ⟨h1, _⟩ | ⟨h1, _⟩ | ⟨h1, _⟩ | ⟨_, h1, he⟩
    · omega
    · omega
    · omega
    · rw [mk_div b ha] at h1
      obtain ⟨c, rfl⟩ : ∃ c, b = c + 1 := ⟨b - 1, by omega⟩
      obtain rfl : y = (c : Int) := by omega
      rw [way_in ha (by omega)]
      obtain rfl : e = c * R.W + a := by rw [Nat.add_mul] at he; omega
      exact hx

theorem layAt_of {R : Reg} (hR : R.ok) {L : List Int} (h : Lay R L) {k : Nat} (hk : k < R.C.length) : LayAt R L k := by
  obtain ⟨hx, hy⟩ := xy_lt hR hk
  have he := xy_eq k R.W
  have hw : R.way L ((k % R.W : Nat) : Int) ((k / R.W : Nat) : Int) = L.getD k 0 := by rw [way_in hx hy, he]
  generalize hmx : k % R.W = x at *
  generalize hmy : k / R.W = y at *
  have hr := h.rng x y
  rw [hw] at hr
  by_cases h0 : L.getD k 0 = 0
  · exact .inl h0
  have hc : R.cell k := by
    obtain ⟨a, b, e1, e2, _, _, hc⟩ := at_cell hR (h.at_ x y (by rw [hw]; exact h0))
    obtain rfl : x = a := by omega
    obtain rfl : y = b := by omega
    rwa [he] at hc
  have other : ∀ {u v : Int} {d : Int}, R.way L u v = d → d ≠ 0 → ∃ a b : Nat, u = a ∧ v = b ∧ a < R.W ∧ b < R.T ∧ R.cell (b * R.W + a) ∧ L.getD (b * R.W + a) 0 = d := by
    intro u v d hd hne
    obtain ⟨a, b, rfl, rfl, ha, hb, hc⟩ := at_cell hR (h.at_ u v (by rw [hd]; exact hne))
    exact ⟨a, b, rfl, rfl, ha, hb, hc, by rw [← hd, way_in ha hb]⟩
  have h4 : L.getD k 0 = 1 ∨ L.getD k 0 = 2 ∨ L.getD k 0 = 3 ∨ L.getD k 0 = 4 := by omega
  rcases h4 with h4 | h4 | h4 | h4
  · obtain ⟨a, b, e1, e2, ha, hb, hc', hv⟩ := other ((h.hor x y).1 (by rw [hw, h4])) (by omega)
    obtain rfl : b = y := by omega
    obtain rfl : a = x + 1 := by omega
    refine .inr ⟨_, ?_, hc, hc', by rw [hv, h4]; rfl⟩
    rw [h4, Reg.step, if_pos rfl, hmx, if_pos (by omega)]; omega
  · obtain ⟨a, b, e1, e2, ha, hb, hc', hv⟩ := other ((h.ver x y).1 (by rw [hw, h4])) (by omega)
    obtain rfl : a = x := by omega
    obtain rfl : b = y + 1 := by omega
    refine .inr ⟨_, ?_, hc, hc', by rw [hv, h4]; rfl⟩
    rw [h4, Reg.step, if_neg (by omega), if_pos rfl, hmy, if_pos (by omega), Nat.add_mul]; omega
  · obtain ⟨a, b, e1, e2, ha, hb, hc', hv⟩ := other ((h.hor (x - 1) y).2 (by rw [show (x : Int) - 1 + 1 = x by omega, hw, h4])) (by omega)
    obtain rfl : b = y := by omega
    obtain rfl : x = a + 1 := by omega
    refine .inr ⟨_, ?_, hc, hc', by rw [hv, h4]; rfl⟩
    rw [h4, Reg.step, if_neg (by omega), if_neg (by omega), if_pos rfl, hmx, if_pos (by omega)]; omega
  · obtain ⟨a, b, e1, e2, ha, hb, hc', hv⟩ := other ((h.ver x (y - 1)).2 (by rw [show (y : Int) - 1 + 1 = y by omega, hw, h4])) (by omega)
    obtain rfl : a = x := by omega
    obtain rfl : y = b + 1 := by omega
    refine .inr ⟨_, ?_, hc, hc', by rw [hv, h4]; rfl⟩
    rw [h4, Reg.step, if_neg (by omega), if_neg (by omega), if_neg (by omega), if_pos rfl, hmy, if_pos (by omega)]
    rw [Nat.add_mul] at he; omega

/-! ### The form of a tiling -/
def sg (x y : Int) : Int := if (x + y) % 2 = 0 then 1 else -1
theorem sg_or (x y : Int) : sg x y = 1 ∨ sg x y = -1 := by unfold sg; split <;> simp
theorem sg_e (x y : Int) : sg (x + 1) y = - sg x y := by unfold sg; split <;> split <;> omega
theorem sg_n (x y : Int) : sg x (y + 1) = - sg x y := by unfold sg; split <;> split <;> omega
theorem sg_w (x y : Int) : sg (x - 1) y = - sg x y := by unfold sg; split <;> split <;> omega
theorem sg_s (x y : Int) : sg x (y - 1) = - sg x y := by unfold sg; split <;> split <;> omega
def tform (R : Reg) (L : List Int) : Form :=
  ⟨fun x y => if R.way L x (y - 1) = 2 then -3 * sg x y else sg x y, fun x y => if R.way L (x - 1) y = 1 then -3 * sg (x - 1) y else sg (x - 1) y⟩

theorem curl_tform {R : Reg} {L : List Int} (h : Lay R L) {x y : Int} (hw : R.way L x y ≠ 0) : (tform R L).curl x y = 0 := by
  have hv := h.ver x (y - 1)
  have hu := h.hor (x - 1) y
  have hr := h.rng x y
  rw [show y - 1 + 1 = y by omega] at hv
  rw [show x - 1 + 1 = x by omega] at hu
  simp only [Form.curl, tform]
  rw [show x + 1 - 1 = x by omega, show y + 1 - 1 = y by omega, sg_n, sg_w]
  have hs := sg_or x y
  split <;> split <;> split <;> split <;> omega

/-! ### Corners -/
def Reg.cu (R : Reg) (x y : Int) : Bool := R.at x y || R.at (x - 1) y || R.at x (y - 1) || R.at (x - 1) (y - 1)
def Reg.ci (R : Reg) (x y : Nat) : Nat := y * (R.W + 1) + x
def Reg.cn (R : Reg) : Nat := (R.W + 1) * (R.T + 1)
theorem ci_lt {R : Reg} {x y : Nat} (hx : x ≤ R.W) (hy : y ≤ R.T) : R.ci x y < R.cn := by
  unfold Reg.ci Reg.cn
  calc y * (R.W + 1) + x < y * (R.W + 1) + (R.W + 1) := by omega
    _ = (y + 1) * (R.W + 1) := by rw [Nat.add_mul, Nat.one_mul]
    _ ≤ (R.T + 1) * (R.W + 1) := Nat.mul_le_mul_right _ (by omega)
    _ = (R.W + 1) * (R.T + 1) := Nat.mul_comm _ _
theorem ci_mod {R : Reg} {x : Nat} (y : Nat) (hx : x ≤ R.W) : R.ci x y % (R.W + 1) = x := mk_mod y (by omega)
theorem ci_div {R : Reg} {x : Nat} (y : Nat) (hx : x ≤ R.W) : R.ci x y / (R.W + 1) = y := mk_div y (by omega)
theorem ci_of (R : Reg) (c : Nat) : R.ci (c % (R.W + 1)) (c / (R.W + 1)) = c := xy_eq c _
theorem ci_in {R : Reg} {c : Nat} (h : c < R.cn) : c % (R.W + 1) ≤ R.W ∧ c / (R.W + 1) ≤ R.T := by
  refine ⟨by have := Nat.mod_lt c (show 0 < R.W + 1 by omega); omega, ?_⟩
  have : c / (R.W + 1) < R.T + 1 := by rw [Nat.div_lt_iff_lt_mul (by omega), Nat.mul_comm]; exact h
  omega
theorem ci_inj {R : Reg} {x y x' y' : Nat} (hx : x ≤ R.W) (hx' : x' ≤ R.W) (h : R.ci x y = R.ci x' y') : x = x' ∧ y = y' := by
  have h1 := ci_mod y hx
  have h2 := ci_div y hx
  rw [h, ci_mod y' hx'] at h1
  rw [h, ci_div y' hx'] at h2
  exact ⟨h1.symm, h2.symm⟩
theorem cn_bd {R : Reg} (hR : R.ok) : 4 ≤ R.cn ∧ R.cn ≤ 49 := by
  obtain ⟨a, b, c, d, _⟩ := hR
  have h1 : R.W = 1 ∨ R.W = 2 ∨ R.W = 3 ∨ R.W = 4 ∨ R.W = 5 ∨ R.W = 6 := by omega
  unfold Reg.cn
  rcases h1 with h | h | h | h | h | h <;> rw [h] <;> omega
theorem cu_cases {R : Reg} {x y : Int} (h : R.cu x y = true) : R.at x y = true ∨ R.at (x - 1) y = true ∨ R.at x (y - 1) = true ∨ R.at (x - 1) (y - 1) = true := by
  simp only [Reg.cu, Bool.or_eq_true] at h
  rcases h with ((h | h) | h) | h <;> simp [h]
theorem cu_ne {R : Reg} {x y : Int} (h : R.at x y = true) : R.cu x y = true := by simp [Reg.cu, h]
theorem cu_nw {R : Reg} {x y : Int} (h : R.at (x - 1) y = true) : R.cu x y = true := by simp [Reg.cu, h]
theorem cu_se {R : Reg} {x y : Int} (h : R.at x (y - 1) = true) : R.cu x y = true := by simp [Reg.cu, h]
theorem cu_sw {R : Reg} {x y : Int} (h : R.at (x - 1) (y - 1) = true) : R.cu x y = true := by simp [Reg.cu, h]

theorem least {P : Nat → Prop} (h : ∃ k, P k) : ∃ k, P k ∧ ∀ j, P j → k ≤ j := by
  obtain ⟨k, hk⟩ := h
  induction k using Nat.strongRecOn with
  | _ k ih =>
    by_cases hc : ∃ j, j < k ∧ P j
    · obtain ⟨j, hj, hp⟩ := hc
      exact ih j hj hp
    · exact ⟨k, hk, fun j hj => Nat.le_of_not_lt fun hlt => hc ⟨j, hlt, hj⟩⟩

/-- What is the same at both ends of each side is the same at all corners of a region of one part. -/
theorem conn_corners {R : Reg} (hR : R.ok) (hI : InConn R) (f : Nat → Nat → Prop)
    (he : ∀ x y : Nat, x < R.W → y ≤ R.T → (R.at x y = true ∨ R.at x ((y : Int) - 1) = true) → (f x y ↔ f (x + 1) y))
    (hn : ∀ x y : Nat, x ≤ R.W → y < R.T → (R.at x y = true ∨ R.at ((x : Int) - 1) y = true) → (f x y ↔ f x (y + 1)))
    {x y x' y' : Nat} (hu : R.cu x y = true) (hu' : R.cu x' y' = true) (h : f x y) : f x' y' := by
  have base : ∀ x y : Nat, R.cu x y = true → ∃ c, R.cell c ∧ (f x y ↔ f (c % R.W) (c / R.W)) := by
    intro x y hu
    rcases cu_cases hu with h | h | h | h
    · obtain ⟨a, b, e1, e2, ha, hb, hc⟩ := at_cell hR h
      obtain rfl : x = a := by omega
      obtain rfl : y = b := by omega
      exact ⟨_, hc, by rw [mk_mod y ha, mk_div y ha]⟩
    · obtain ⟨a, b, e1, e2, ha, hb, hc⟩ := at_cell hR h
      obtain rfl : x = a + 1 := by omega
      obtain rfl : y = b := by omega
      refine ⟨_, hc, ?_⟩
      rw [mk_mod y ha, mk_div y ha]
      exact (he a y ha (by omega) (.inl (cell_at ha hb hc))).symm
    · obtain ⟨a, b, e1, e2, ha, hb, hc⟩ := at_cell hR h
      obtain rfl : x = a := by omega
      obtain rfl : y = b + 1 := by omega
      refine ⟨_, hc, ?_⟩
      rw [mk_mod b ha, mk_div b ha]
      exact (hn x b (by omega) hb (.inl (cell_at ha hb hc))).symm
    · obtain ⟨a, b, e1, e2, ha, hb, hc⟩ := at_cell hR h
      obtain rfl : x = a + 1 := by omega
      obtain rfl : y = b + 1 := by omega
      refine ⟨_, hc, ?_⟩
      rw [mk_mod b ha, mk_div b ha]
      have h1 := he a b ha (by omega) (.inl (cell_at ha hb hc))
      have h2 := hn (a + 1) b (by omega) hb (.inr (by rw [show ((a + 1 : Nat) : Int) - 1 = (a : Int) by omega]; exact cell_at ha hb hc))
      exact (h1.trans h2).symm
  have up : ∀ c e, R.cell c → R.cell e → ((c % R.W + 1 < R.W ∧ e = c + 1) ∨ (c / R.W + 1 < R.T ∧ e = c + R.W)) → (f (c % R.W) (c / R.W) ↔ f (e % R.W) (e / R.W)) := by
    intro c e hc hce hs
    obtain ⟨hx, hy⟩ := xy_lt hR (cell_lt hc)
    have hq := xy_eq c R.W
    rcases hs with ⟨h1, rfl⟩ | ⟨h1, rfl⟩
    · have e1 : c + 1 = c / R.W * R.W + (c % R.W + 1) := by omega
      rw [e1, mk_mod _ h1, mk_div _ h1]
      exact he _ _ hx (by omega) (.inl (cell_at' hR hc))
    · have e1 : c + R.W = (c / R.W + 1) * R.W + c % R.W := by rw [Nat.add_mul]; omega
      rw [e1, mk_mod _ hx, mk_div _ hx]
      exact hn _ _ (by omega) hy (.inl (cell_at' hR hc))
  have adj : ∀ c e, R.A c e → (f (c % R.W) (c / R.W) ↔ f (e % R.W) (e / R.W)) := by
    intro c e hA
    obtain ⟨hc, hce, way, _, _, hs⟩ := hA
    rcases step_cases hs with ⟨_, h1, rfl⟩ | ⟨_, h1, rfl⟩ | ⟨_, h1, h2⟩ | ⟨_, h1, h2⟩
    · exact up _ _ hc hce (.inl ⟨h1, rfl⟩)
    · exact up _ _ hc hce (.inr ⟨h1, rfl⟩)
    · subst h2
      refine (up _ _ hce hc (.inl ⟨?_, rfl⟩)).symm
      have hq := xy_eq (e + 1) R.W
      have hx := (xy_lt hR (cell_lt hc)).1
      obtain ⟨m, hm⟩ : ∃ m, (e + 1) % R.W = m + 1 := ⟨(e + 1) % R.W - 1, by omega⟩
      rw [hm] at hq hx
      have e1 : e = (e + 1) / R.W * R.W + m := by omega
      rw [e1, mk_mod _ (by omega)]; omega
    · subst h2
      refine (up _ _ hce hc (.inr ⟨?_, rfl⟩)).symm
      have hq := xy_eq (e + R.W) R.W
      obtain ⟨hx, hy⟩ := xy_lt hR (cell_lt hc)
      obtain ⟨m, hm⟩ : ∃ m, (e + R.W) / R.W = m + 1 := ⟨(e + R.W) / R.W - 1, by omega⟩
      rw [hm] at hy
      rw [hm, Nat.add_mul] at hq
      have e1 : e = m * R.W + (e + R.W) % R.W := by omega
      rw [e1, mk_div _ hx]; omega
  obtain ⟨c, hc, h1⟩ := base x y hu
  obtain ⟨d, hd, h2⟩ := base x' y' hu'
  refine h2.2 ?_
  exact linked_ind (A := R.A) (P := fun c => f (c % R.W) (c / R.W)) (fun c e hce h => (adj c e hce).2 h) (hI.2 d c hd hc) (h1.1 h)

/-! ### Heights -/
def Reg.ht (R : Reg) (H : List Int) (x y : Nat) : Int := H.getD (R.ci x y) 0
/-- Is it the first corner of a cell? -/
def First (R : Reg) (x y : Nat) : Prop := x ≤ R.W ∧ y ≤ R.T ∧ R.cu x y = true ∧ ∀ u v : Nat, u ≤ R.W → v ≤ R.T → R.cu u v = true → R.ci x y ≤ R.ci u v

/-- A list has the heights of a form. -/
structure HtsF (R : Reg) (F : Form) (H : List Int) : Prop where
  len : H.length = R.cn
  no : ∀ x y : Nat, x ≤ R.W → y ≤ R.T → R.cu x y = false → R.ht H x y = 99
  first : ∀ x y : Nat, First R x y → R.ht H x y = 0
  e : ∀ x y : Nat, x < R.W → y ≤ R.T → (R.at x y = true ∨ R.at x ((y : Int) - 1) = true) → R.ht H (x + 1) y = R.ht H x y + F.e x y
  n : ∀ x y : Nat, x ≤ R.W → y < R.T → (R.at x y = true ∨ R.at ((x : Int) - 1) y = true) → R.ht H x (y + 1) = R.ht H x y + F.n x y
def Hts (R : Reg) (L H : List Int) : Prop := HtsF R (tform R L) H

theorem first_ex {R : Reg} (hR : R.ok) (hI : InConn R) : ∃ x y, First R x y := by
  obtain ⟨c, hc⟩ := hI.1
  obtain ⟨k, ⟨x, y, hx, hy, hu, rfl⟩, hk⟩ := least (P := fun k => ∃ x y : Nat, x ≤ R.W ∧ y ≤ R.T ∧ R.cu x y = true ∧ k = R.ci x y)
    ⟨_, c % R.W, c / R.W, Nat.le_of_lt (xy_lt hR (cell_lt hc)).1, Nat.le_of_lt (xy_lt hR (cell_lt hc)).2, cu_ne (cell_at' hR hc), rfl⟩
  exact ⟨x, y, hx, hy, hu, fun u v h1 h2 h3 => hk _ ⟨u, v, h1, h2, h3, rfl⟩⟩
theorem first_one {R : Reg} {x y x' y' : Nat} (h : First R x y) (h' : First R x' y') : x = x' ∧ y = y' :=
  ci_inj h.1 h'.1 (Nat.le_antisymm (h.2.2.2 _ _ h'.1 h'.2.1 h'.2.2.1) (h'.2.2.2 _ _ h.1 h.2.1 h.2.2.1))
/-- The cell in its north-east belongs to the region. -/
theorem first_cell {R : Reg} (hR : R.ok) {x y : Nat} (h : First R x y) : R.at x y = true := by
  obtain ⟨hx, hy, hu, hm⟩ := h
  rcases cu_cases hu with h | h | h | h
  · exact h
  · obtain ⟨a, b, e1, e2, ha, hb, hc⟩ := at_cell hR h
    have := hm a b (by omega) (by omega) (cu_ne (cell_at ha hb hc))
    obtain rfl : x = a + 1 := by omega
    obtain rfl : y = b := by omega
    unfold Reg.ci at this; omega
  · obtain ⟨a, b, e1, e2, ha, hb, hc⟩ := at_cell hR h
    have := hm a b (by omega) (by omega) (cu_ne (cell_at ha hb hc))
    obtain rfl : x = a := by omega
    obtain rfl : y = b + 1 := by omega
    unfold Reg.ci at this; rw [Nat.add_mul] at this; omega
  · obtain ⟨a, b, e1, e2, ha, hb, hc⟩ := at_cell hR h
    have := hm a b (by omega) (by omega) (cu_ne (cell_at ha hb hc))
    obtain rfl : x = a + 1 := by omega
    obtain rfl : y = b + 1 := by omega
    unfold Reg.ci at this; rw [Nat.add_mul] at this; omega

theorem cu_e {R : Reg} {x y : Nat} (h : R.at x y = true ∨ R.at x ((y : Int) - 1) = true) : R.cu x y = true ∧ R.cu ((x + 1 : Nat) : Int) y = true := by
  have e1 : ((x + 1 : Nat) : Int) - 1 = (x : Int) := by omega
  rcases h with h | h
  · exact ⟨cu_ne h, cu_nw (by rw [e1]; exact h)⟩
  · exact ⟨cu_se h, cu_sw (by rw [e1]; exact h)⟩
theorem cu_n {R : Reg} {x y : Nat} (h : R.at x y = true ∨ R.at ((x : Int) - 1) y = true) : R.cu x y = true ∧ R.cu x ((y + 1 : Nat) : Int) = true := by
  have e1 : ((y + 1 : Nat) : Int) - 1 = (y : Int) := by omega
  rcases h with h | h
  · exact ⟨cu_ne h, cu_se (by rw [e1]; exact h)⟩
  · exact ⟨cu_nw h, cu_sw (by rw [e1]; exact h)⟩

theorem htsF_exist {R : Reg} (hR : R.ok) (hS : SimpleP R) (F : Form) (hF : ∀ x y, R.at x y = true → F.curl x y = 0) : ∃ H, HtsF R F H := by
  obtain ⟨p, pe, pn⟩ := potential hS.2 F hF
  obtain ⟨x0, y0, h0⟩ := first_ex hR hS.1
  refine ⟨(List.range R.cn).map fun c => if R.cu ((c % (R.W + 1) : Nat) : Int) ((c / (R.W + 1) : Nat) : Int) = true then p (c % (R.W + 1)) (c / (R.W + 1)) - p x0 y0 else 99, ?_⟩
  have val : ∀ x y : Nat, x ≤ R.W → y ≤ R.T → R.ht ((List.range R.cn).map fun c => if R.cu ((c % (R.W + 1) : Nat) : Int) ((c / (R.W + 1) : Nat) : Int) = true then p (c % (R.W + 1)) (c / (R.W + 1)) - p x0 y0 else 99) x y = if R.cu x y = true then p x y - p x0 y0 else 99 := by
    intro x y hx hy
    unfold Reg.ht
    rw [List.getD_eq_getElem?_getD, List.getElem?_map, List.getElem?_range (ci_lt hx hy)]
    simp only [Option.map_some, Option.getD_some]
    rw [ci_mod y hx, ci_div y hx]
  refine ⟨by simp, fun x y hx hy hu => ?_, fun x y hf => ?_, fun x y hx hy hu => ?_, fun x y hx hy hu => ?_⟩
  · rw [val x y hx hy, if_neg (by rw [hu]; decide)]
  · rw [val x y hf.1 hf.2.1, if_pos hf.2.2.1]
    obtain ⟨rfl, rfl⟩ := first_one hf h0
    omega
  · rw [val x y (by omega) hy, val (x + 1) y (by omega) hy, if_pos (cu_e hu).1, if_pos (cu_e hu).2, pe x y hx hy hu]; omega
  · rw [val x y hx (by omega), val x (y + 1) hx (by omega), if_pos (cu_n hu).1, if_pos (cu_n hu).2, pn x y hx hy hu]; omega

theorem ht_ext {R : Reg} {H K : List Int} (h1 : H.length = R.cn) (h2 : K.length = R.cn) (h : ∀ x y : Nat, x ≤ R.W → y ≤ R.T → R.ht H x y = R.ht K x y) : H = K := by
  apply List.ext_getElem (by omega)
  intro i hi hi'
  have := h _ _ (ci_in (R := R) (c := i) (by omega)).1 (ci_in (R := R) (c := i) (by omega)).2
  unfold Reg.ht at this
  rw [ci_of] at this
  simpa [List.getD_eq_getElem?_getD, List.getElem?_eq_getElem hi, List.getElem?_eq_getElem hi'] using this

theorem htsF_one {R : Reg} (hR : R.ok) (hI : InConn R) {F : Form} {H K : List Int} (h : HtsF R F H) (k : HtsF R F K) : H = K := by
  obtain ⟨x0, y0, h0⟩ := first_ex hR hI
  refine ht_ext h.len k.len fun x y hx hy => ?_
  cases hu : R.cu x y with
  | false => rw [h.no x y hx hy hu, k.no x y hx hy hu]
  | true =>
    refine conn_corners hR hI (fun x y => R.ht H x y = R.ht K x y) (fun x y hx hy hu => ?_) (fun x y hx hy hu => ?_) h0.2.2.1 hu (by rw [h.first _ _ h0, k.first _ _ h0])
    · rw [h.e x y hx hy hu, k.e x y hx hy hu]; omega
    · rw [h.n x y hx hy hu, k.n x y hx hy hu]; omega

theorem hts_exist {R : Reg} (hR : R.ok) (hS : SimpleP R) {L : List Int} (hL : Lay R L) (hF : Full R L) : ∃ H, Hts R L H :=
  htsF_exist hR hS _ fun x y h => curl_tform hL (hF x y h)
theorem hts_one {R : Reg} (hR : R.ok) (hI : InConn R) {L H K : List Int} (h : Hts R L H) (k : Hts R L K) : H = K := htsF_one hR hI h k

/-! ### How great they are -/
open Classical in
theorem near_boundP {A : Nat → Nat → Prop} {n m : Nat} {q : Nat → Bool} (hA : ∀ c e, A c e → c < n ∧ q c = true) (hm : (List.range n).countP q ≤ m) {d : Nat} (hd : d < n) (hq : q d = true) {c : Nat} (h : Linked A c d) : Near A m c d := by
  let f : Nat → Nat := fun k => (List.range n).countP fun x => decide (Near A k x d)
  let Cl : Nat → Prop := fun k => ∀ c e, A c e → Near A k e d → Near A k c d
  have hcl : ∀ k, Cl k → ∀ j c, Near A j c d → Near A k c d := by
    intro k hk j
    induction j with
    | zero => intro c hc; exact near_le (k := 0) hc (Nat.zero_le _)
    | succ j ih =>
      intro c hc
      rcases hc with hc | ⟨e, he, hc⟩
      · exact ih c hc
      · exact hk c e he (ih e hc)
  have hfq : ∀ k x, Near A k x d → q x = true := by
    intro k
    induction k with
    | zero => intro x hx; have : x = d := hx; rw [this]; exact hq
    | succ k ih =>
      intro x hx
      rcases hx with hx | ⟨e, he, _⟩
      · exact ih x hx
      · exact (hA x e he).2
  have key : ∀ k, Cl k ∨ k + 1 ≤ f k := by
    intro k
    induction k with
    | zero =>
      refine .inr ?_
      have : 0 < f 0 := List.countP_pos_iff.2 ⟨d, List.mem_range.2 hd, by simp [Near]⟩
      omega
    | succ k ih =>
      by_cases hk : Cl k
      · refine .inl fun c e he hn => near_mono (hk c e he (hcl k hk (k + 1) e hn))
      · rcases ih with ih | ih
        · exact absurd ih hk
        · refine .inr ?_
          have : ∃ c e, A c e ∧ Near A k e d ∧ ¬ Near A k c d := by
            refine Classical.byContradiction fun hno => hk fun c e he hn => Classical.byContradiction fun hc => hno ⟨c, e, he, hn, hc⟩
          obtain ⟨c, e, he, hn, hc⟩ := this
          have : f k < f (k + 1) := countP_lt (fun x _ hx => by simpa using near_mono (by simpa using hx)) ⟨c, List.mem_range.2 (hA c e he).1, by simpa using .inr ⟨e, he, hn⟩, by simpa using hc⟩
          omega
  have hn : Cl m := by
    rcases key m with h | h
    · exact h
    · have : f m ≤ (List.range n).countP q := List.countP_mono_left fun x _ hx => hfq m x (by simpa using hx)
      omega
  obtain ⟨k, hk⟩ := h
  exact hcl m hn k c hk
theorem near_cells {R : Reg} (hR : R.ok) {c d : Nat} (hd : R.cell d) (h : Linked R.A c d) : Near R.A 24 c d := by
  refine near_boundP (n := R.C.length) (q := fun p => R.C.getD p false) (fun c e hce => ⟨cell_lt hce.1, by rw [List.getD_eq_getElem?_getD, hce.1]; rfl⟩) ?_ (cell_lt hd) (by rw [List.getD_eq_getElem?_getD, hd]; rfl) h
  rw [← cnt_range]
  exact hR.2.2.2.2.2

/-- The heights round a cell. -/
def Rng (R : Reg) (H : List Int) (c : Nat) (m : Int) : Prop :=
  ∀ i j : Nat, i ≤ 1 → j ≤ 1 → m ≤ R.ht H (c % R.W + i) (c / R.W + j) ∧ R.ht H (c % R.W + i) (c / R.W + j) ≤ m + 3

theorem hts_round {R : Reg} {L H : List Int} (hL : Lay R L) (hH : Hts R L H) {x y : Nat} (hx : x < R.W) (hy : y < R.T) (hc : R.at x y = true) :
    ∃ s : Int, (s = 1 ∨ s = -1) ∧
      R.ht H (x + 1) y = R.ht H x y + (if R.way L x y = 4 then -3 * s else s) ∧ R.ht H (x + 1) (y + 1) = R.ht H (x + 1) y + (if R.way L x y = 1 then -3 * s else s) ∧
      R.ht H (x + 1) (y + 1) = R.ht H x (y + 1) - (if R.way L x y = 2 then -3 * s else s) ∧ R.ht H x (y + 1) = R.ht H x y - (if R.way L x y = 3 then -3 * s else s) ∧ s = sg x y := by
  refine ⟨sg x y, sg_or _ _, ?_, ?_, ?_, ?_, rfl⟩
  · rw [hH.e x y hx (by omega) (.inl hc)]
    have hv := hL.ver x ((y : Int) - 1)
    rw [show (y : Int) - 1 + 1 = y by omega] at hv
    simp only [tform]
    by_cases h4 : R.way L x y = 4
    · rw [if_pos h4, if_pos (hv.2 h4)]
    · rw [if_neg h4, if_neg fun h => h4 (hv.1 h)]
  · rw [hH.n (x + 1) y (by omega) hy (.inr (by rw [show ((x + 1 : Nat) : Int) - 1 = (x : Int) by omega]; exact hc))]
    simp only [tform]
    rw [show ((x + 1 : Nat) : Int) - 1 = (x : Int) by omega]
  · rw [hH.e x (y + 1) hx (by omega) (.inr (by rw [show ((y + 1 : Nat) : Int) - 1 = (y : Int) by omega]; exact hc))]
    simp only [tform]
    rw [show ((y + 1 : Nat) : Int) - 1 = (y : Int) by omega, show ((y + 1 : Nat) : Int) = (y : Int) + 1 by omega, sg_n]
    split <;> omega
  · rw [hH.n x y (by omega) hy (.inl hc)]
    have hu := hL.hor ((x : Int) - 1) y
    rw [show (x : Int) - 1 + 1 = x by omega] at hu
    simp only [tform]
    rw [sg_w]
    by_cases h3 : R.way L x y = 3
    · rw [if_pos h3, if_pos (hu.2 h3)]; omega
    · rw [if_neg h3, if_neg fun h => h3 (hu.1 h)]; omega

theorem rng_ex {R : Reg} (hR : R.ok) {L H : List Int} (hL : Lay R L) (hF : Full R L) (hH : Hts R L H) {c : Nat} (hc : R.cell c) : ∃ m, Rng R H c m := by
  obtain ⟨hx, hy⟩ := xy_lt hR (cell_lt hc)
  have ha := cell_at' hR hc
  unfold Rng
  generalize c % R.W = x at *
  generalize c / R.W = y at *
  obtain ⟨s, hs, h1, h2, h3, h4, _⟩ := hts_round hL hH hx hy ha
  have hr := hL.rng x y
  have hne := hF x y ha
  generalize R.way L x y = w at *
  have all : ∀ m : Int, (m ≤ R.ht H x y ∧ R.ht H x y ≤ m + 3) ∧ (m ≤ R.ht H (x + 1) y ∧ R.ht H (x + 1) y ≤ m + 3) ∧ (m ≤ R.ht H x (y + 1) ∧ R.ht H x (y + 1) ≤ m + 3) ∧ (m ≤ R.ht H (x + 1) (y + 1) ∧ R.ht H (x + 1) (y + 1) ≤ m + 3) →
      ∀ i j : Nat, i ≤ 1 → j ≤ 1 → m ≤ R.ht H (x + i) (y + j) ∧ R.ht H (x + i) (y + j) ≤ m + 3 := by
    intro m ⟨a, b, c, d⟩ i j hi hj
    have hi' : i = 0 ∨ i = 1 := by omega
    have hj' : j = 0 ∨ j = 1 := by omega
    rcases hi' with rfl | rfl <;> rcases hj' with rfl | rfl <;> assumption
  generalize R.ht H x y = p at *
  generalize R.ht H (x + 1) y = q at *
  generalize R.ht H x (y + 1) = r at *
  generalize R.ht H (x + 1) (y + 1) = t at *
  refine ⟨min (min p q) (min r t), all _ ?_⟩
  have hw : w = 1 ∨ w = 2 ∨ w = 3 ∨ w = 4 := by omega
  rcases hs with rfl | rfl <;> rcases hw with rfl | rfl | rfl | rfl <;> simp at h1 h2 h3 h4 <;> omega

theorem rng_near {R : Reg} (hR : R.ok) {L H : List Int} (hL : Lay R L) (hF : Full R L) (hH : Hts R L H) {d : Nat} {m : Int} (hd : R.cell d) (hm : Rng R H d m) :
    ∀ k c, Near R.A k c d → ∃ m', Rng R H c m' ∧ m - 2 * k ≤ m' ∧ m' ≤ m + 2 * k := by
  have adj : ∀ c e m', R.A c e → Rng R H e m' → ∃ m, Rng R H c m ∧ m' - 2 ≤ m ∧ m ≤ m' + 2 := by
    intro c e m' hA he
    obtain ⟨m, hcm⟩ := rng_ex hR hL hF hH hA.1
    refine ⟨m, hcm, ?_⟩
    obtain ⟨hc, hce, way, _, _, hs⟩ := hA
    obtain ⟨hx, hy⟩ := xy_lt hR (cell_lt hc)
    have hq := xy_eq c R.W
    have ha := cell_at' hR hc
    have hv := hts_round hL hH hx hy ha
    have key : ∀ p q : Int, p ≠ q → (m ≤ p ∧ p ≤ m + 3) → (m ≤ q ∧ q ≤ m + 3) → (m' ≤ p ∧ p ≤ m' + 3) → (m' ≤ q ∧ q ≤ m' + 3) → m' - 2 ≤ m ∧ m ≤ m' + 2 := by
      intro p q h1 h2 h3 h4 h5; omega
    obtain ⟨s, hs', h1, h2, h3, h4, _⟩ := hv
    rcases step_cases hs with ⟨_, k1, rfl⟩ | ⟨_, k1, rfl⟩ | ⟨_, k1, k2⟩ | ⟨_, k1, k2⟩
    · have e1 : c + 1 = c / R.W * R.W + (c % R.W + 1) := by omega
      have m1 := mk_mod (c / R.W) k1
      have m2 := mk_div (c / R.W) k1
      rw [← e1] at m1 m2
      unfold Rng at he
      rw [m1, m2] at he
      refine key (R.ht H (c % R.W + 1) (c / R.W)) (R.ht H (c % R.W + 1) (c / R.W + 1)) ?_ (hcm 1 0 (by omega) (by omega)) (hcm 1 1 (by omega) (by omega)) (he 0 0 (by omega) (by omega)) (he 0 1 (by omega) (by omega))
      rw [h2]; split <;> omega
    · have e1 : c + R.W = (c / R.W + 1) * R.W + c % R.W := by rw [Nat.add_mul]; omega
      have m1 := mk_mod (c / R.W + 1) hx
      have m2 := mk_div (c / R.W + 1) hx
      rw [← e1] at m1 m2
      unfold Rng at he
      rw [m1, m2] at he
      refine key (R.ht H (c % R.W) (c / R.W + 1)) (R.ht H (c % R.W + 1) (c / R.W + 1)) ?_ (hcm 0 1 (by omega) (by omega)) (hcm 1 1 (by omega) (by omega)) (he 0 0 (by omega) (by omega)) (he 1 0 (by omega) (by omega))
      rw [h3]; split <;> omega
    · obtain ⟨n, hn⟩ : ∃ n, c % R.W = n + 1 := ⟨c % R.W - 1, by omega⟩
      rw [hn] at hq hx h1 h2 h3 h4
      have e1 : e = c / R.W * R.W + n := by omega
      have m1 := mk_mod (c / R.W) (show n < R.W by omega)
      have m2 := mk_div (c / R.W) (show n < R.W by omega)
      rw [← e1] at m1 m2
      unfold Rng at he hcm
      rw [m1, m2] at he
      rw [hn] at hcm
      refine key (R.ht H (n + 1) (c / R.W)) (R.ht H (n + 1) (c / R.W + 1)) ?_ (hcm 0 0 (by omega) (by omega)) (hcm 0 1 (by omega) (by omega)) (he 1 0 (by omega) (by omega)) (he 1 1 (by omega) (by omega))
      rw [h4]; split <;> omega
    · obtain ⟨n, hn⟩ : ∃ n, c / R.W = n + 1 := ⟨c / R.W - 1, by omega⟩
      rw [hn] at hq hy h1 h2 h3 h4
      have e1 : e = n * R.W + c % R.W := by rw [Nat.add_mul] at hq; omega
      have m1 := mk_mod n hx
      have m2 := mk_div n hx
      rw [← e1] at m1 m2
      unfold Rng at he hcm
      rw [m1, m2] at he
      rw [hn] at hcm
      refine key (R.ht H (c % R.W) (n + 1)) (R.ht H (c % R.W + 1) (n + 1)) ?_ (hcm 0 0 (by omega) (by omega)) (hcm 1 0 (by omega) (by omega)) (he 0 1 (by omega) (by omega)) (he 1 1 (by omega) (by omega))
      rw [h1]; split <;> omega
  intro k
  induction k with
  | zero => intro c hc; have : c = d := hc; subst this; exact ⟨m, hm, by omega, by omega⟩
  | succ k ih =>
    intro c hc
    rcases hc with hc | ⟨e, he, hc⟩
    · obtain ⟨m', h1, h2, h3⟩ := ih c hc
      exact ⟨m', h1, by omega, by omega⟩
    · obtain ⟨m', h1, h2, h3⟩ := ih e hc
      obtain ⟨m2, k1, k2, k3⟩ := adj c e m' he h1
      exact ⟨m2, k1, by omega, by omega⟩

theorem cu_corner {R : Reg} (hR : R.ok) {x y : Nat} (h : R.cu x y = true) : ∃ c i j : Nat, R.cell c ∧ i ≤ 1 ∧ j ≤ 1 ∧ x = c % R.W + i ∧ y = c / R.W + j := by
  have mk : ∀ (a b i j : Nat), a < R.W → R.cell (b * R.W + a) → x = a + i → y = b + j → i ≤ 1 → j ≤ 1 → ∃ c i j : Nat, R.cell c ∧ i ≤ 1 ∧ j ≤ 1 ∧ x = c % R.W + i ∧ y = c / R.W + j := by
    intro a b i j ha hc hx hy hi hj
    exact ⟨_, i, j, hc, hi, hj, by rw [mk_mod b ha]; exact hx, by rw [mk_div b ha]; exact hy⟩
  rcases cu_cases h with h | h | h | h
  · obtain ⟨a, b, e1, e2, ha, hb, hc⟩ := at_cell hR h
    exact mk a b 0 0 ha hc (by omega) (by omega) (by omega) (by omega)
  · obtain ⟨a, b, e1, e2, ha, hb, hc⟩ := at_cell hR h
    exact mk a b 1 0 ha hc (by omega) (by omega) (by omega) (by omega)
  · obtain ⟨a, b, e1, e2, ha, hb, hc⟩ := at_cell hR h
    exact mk a b 0 1 ha hc (by omega) (by omega) (by omega) (by omega)
  · obtain ⟨a, b, e1, e2, ha, hb, hc⟩ := at_cell hR h
    exact mk a b 1 1 ha hc (by omega) (by omega) (by omega) (by omega)

theorem hts_bd {R : Reg} (hR : R.ok) (hI : InConn R) {L H : List Int} (hL : Lay R L) (hF : Full R L) (hH : Hts R L H) {x y : Nat} (hu : R.cu x y = true) : -51 ≤ R.ht H x y ∧ R.ht H x y ≤ 51 := by
  obtain ⟨x0, y0, h0⟩ := first_ex hR hI
  obtain ⟨d, i0, j0, hd, hi0, hj0, e1, e2⟩ := cu_corner hR h0.2.2.1
  obtain ⟨c, i, j, hc, hi, hj, rfl, rfl⟩ := cu_corner hR hu
  obtain ⟨m, hm⟩ := rng_ex hR hL hF hH hd
  obtain ⟨m', h1, h2, h3⟩ := rng_near hR hL hF hH hd hm 24 c (near_cells hR hd (hI.2 c d hc hd))
  have h4 := hm i0 j0 hi0 hj0
  rw [← e1, ← e2, hH.first _ _ h0] at h4
  have h5 := h1 i j hi hj
  omega

end Go.Proofs.Ytbonmnfmlobpbaa
