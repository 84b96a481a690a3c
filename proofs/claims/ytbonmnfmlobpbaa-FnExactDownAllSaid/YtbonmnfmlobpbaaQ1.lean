/-
  YtbonmnfmlobpbaaQ1: right heights are those of a tiling; the lesser and the greater ones of two are right. Plain Lean.
-/
import Derived.Test.YtbonmnfmlobpbaaH1
namespace Go.Proofs.Ytbonmnfmlobpbaa

/-- Right heights. -/
structure HP (R : Reg) (H : List Int) : Prop where
  len : H.length = R.cn
  no : ∀ x y : Nat, x ≤ R.W → y ≤ R.T → R.cu x y = false → R.ht H x y = 99
  first : ∀ x y : Nat, First R x y → R.ht H x y = 0
  e : ∀ x y : Nat, x < R.W → y ≤ R.T → (R.at x y = true ∨ R.at x ((y : Int) - 1) = true) →
    R.ht H (x + 1) y = R.ht H x y + sg x y ∨ (R.at x y = true ∧ R.at x ((y : Int) - 1) = true ∧ R.ht H (x + 1) y = R.ht H x y - 3 * sg x y)
  n : ∀ x y : Nat, x ≤ R.W → y < R.T → (R.at x y = true ∨ R.at ((x : Int) - 1) y = true) →
    R.ht H x (y + 1) = R.ht H x y + sg ((x : Int) - 1) y ∨ (R.at x y = true ∧ R.at ((x : Int) - 1) y = true ∧ R.ht H x (y + 1) = R.ht H x y - 3 * sg ((x : Int) - 1) y)

theorem hp_of_hts {R : Reg} {L H : List Int} (hL : Lay R L) (hH : Hts R L H) : HP R H := by
  refine ⟨hH.len, hH.no, hH.first, fun x y hx hy hu => ?_, fun x y hx hy hu => ?_⟩
  · rw [hH.e x y hx hy hu]
    simp only [tform]
    split
    · rename_i h2
      have hv := hL.ver x ((y : Int) - 1)
      rw [show (y : Int) - 1 + 1 = y by omega] at hv
      exact .inr ⟨hL.at_ x y (by rw [hv.1 h2]; decide), hL.at_ x _ (by rw [h2]; decide), by omega⟩
    · exact .inl rfl
  · rw [hH.n x y hx hy hu]
    simp only [tform]
    split
    · rename_i h2
      have hv := hL.hor ((x : Int) - 1) y
      rw [show (x : Int) - 1 + 1 = x by omega] at hv
      exact .inr ⟨hL.at_ x y (by rw [hv.1 h2]; decide), hL.at_ _ y (by rw [h2]; decide), by omega⟩
    · exact .inl rfl

theorem hp_round {R : Reg} {H : List Int} (h : HP R H) {x y : Nat} (hx : x < R.W) (hy : y < R.T) (hc : R.at x y = true) :
    (R.ht H (x + 1) y = R.ht H x y + sg x y ∨ R.ht H (x + 1) y = R.ht H x y - 3 * sg x y) ∧
    (R.ht H (x + 1) (y + 1) = R.ht H (x + 1) y + sg x y ∨ R.ht H (x + 1) (y + 1) = R.ht H (x + 1) y - 3 * sg x y) ∧
    (R.ht H (x + 1) (y + 1) = R.ht H x (y + 1) - sg x y ∨ R.ht H (x + 1) (y + 1) = R.ht H x (y + 1) + 3 * sg x y) ∧
    (R.ht H x (y + 1) = R.ht H x y - sg x y ∨ R.ht H x (y + 1) = R.ht H x y + 3 * sg x y) := by
  refine ⟨?_, ?_, ?_, ?_⟩
  · rcases h.e x y hx (by omega) (.inl hc) with h | ⟨_, _, h⟩
    · exact .inl h
    · exact .inr h
  · have := h.n (x + 1) y (by omega) hy (.inr (by rw [show ((x + 1 : Nat) : Int) - 1 = (x : Int) by omega]; exact hc))
    rw [show ((x + 1 : Nat) : Int) - 1 = (x : Int) by omega] at this
    rcases this with h | ⟨_, _, h⟩
    · exact .inl h
    · exact .inr h
  · have := h.e x (y + 1) hx (by omega) (.inr (by rw [show ((y + 1 : Nat) : Int) - 1 = (y : Int) by omega]; exact hc))
    rw [show ((y + 1 : Nat) : Int) = (y : Int) + 1 by omega, sg_n] at this
    rcases this with h | ⟨_, _, h⟩
    · exact .inl (by omega)
    · exact .inr (by omega)
  · have := h.n x y (by omega) hy (.inl hc)
    rw [sg_w] at this
    rcases this with h | ⟨_, _, h⟩
    · exact .inl (by omega)
    · exact .inr (by omega)

/-- The direction that heights tell of a cell. -/
def wayH (R : Reg) (H : List Int) (x y : Nat) : Int :=
  if R.ht H (x + 1) (y + 1) = R.ht H (x + 1) y - 3 * sg x y then 1
  else if R.ht H (x + 1) (y + 1) = R.ht H x (y + 1) + 3 * sg x y then 2
  else if R.ht H x (y + 1) = R.ht H x y + 3 * sg x y then 3 else 4

structure WayH (R : Reg) (H : List Int) (x y : Nat) : Prop where
  lo : 1 ≤ wayH R H x y
  hi : wayH R H x y ≤ 4
  e : wayH R H x y = 1 ↔ R.ht H (x + 1) (y + 1) = R.ht H (x + 1) y - 3 * sg x y
  n : wayH R H x y = 2 ↔ R.ht H (x + 1) (y + 1) = R.ht H x (y + 1) + 3 * sg x y
  w : wayH R H x y = 3 ↔ R.ht H x (y + 1) = R.ht H x y + 3 * sg x y
  s : wayH R H x y = 4 ↔ R.ht H (x + 1) y = R.ht H x y - 3 * sg x y

theorem wayH_at {R : Reg} {H : List Int} (h : HP R H) {x y : Nat} (hx : x < R.W) (hy : y < R.T) (hc : R.at x y = true) : WayH R H x y := by
  obtain ⟨h1, h2, h3, h4⟩ := hp_round h hx hy hc
  have hs := sg_or x y
  have key : ∀ a b c d s w : Int, (s = 1 ∨ s = -1) → (b = a + s ∨ b = a - 3 * s) → (d = b + s ∨ d = b - 3 * s) → (d = c - s ∨ d = c + 3 * s) → (c = a - s ∨ c = a + 3 * s) →
      w = (if d = b - 3 * s then 1 else if d = c + 3 * s then 2 else if c = a + 3 * s then 3 else 4) →
      (1 ≤ w ∧ w ≤ 4) ∧ (w = 1 ↔ d = b - 3 * s) ∧ (w = 2 ↔ d = c + 3 * s) ∧ (w = 3 ↔ c = a + 3 * s) ∧ (w = 4 ↔ b = a - 3 * s) := by
    intro a b c d s w hs h1 h2 h3 h4 hw
    rcases hs with rfl | rfl <;> (repeat' split at hw) <;> subst hw <;> refine ⟨by omega, ?_, ?_, ?_, ?_⟩ <;> constructor <;> intro h <;> omega
  obtain ⟨⟨k0, k1⟩, k2, k3, k4, k5⟩ := key _ _ _ _ _ (wayH R H x y) hs h1 h2 h3 h4 rfl
  exact ⟨k0, k1, k2, k3, k4, k5⟩

/-- The tiling that heights tell. -/
def tilH (R : Reg) (H : List Int) : List Int :=
  (List.range R.C.length).map fun c => if R.at ((c % R.W : Nat) : Int) ((c / R.W : Nat) : Int) = true then wayH R H (c % R.W) (c / R.W) else 0
theorem tilH_len (R : Reg) (H : List Int) : (tilH R H).length = R.C.length := by simp [tilH]
theorem way_tilH {R : Reg} (hR : R.ok) (H : List Int) {x y : Nat} (hx : x < R.W) (hy : y < R.T) : R.way (tilH R H) x y = if R.at x y = true then wayH R H x y else 0 := by
  rw [way_in hx hy]
  unfold tilH
  rw [List.getD_eq_getElem?_getD, List.getElem?_map, List.getElem?_range (idx_lt hR hx hy)]
  simp only [Option.map_some, Option.getD_some]
  rw [mk_mod y hx, mk_div y hx]
theorem way_tilH_ne {R : Reg} (hR : R.ok) {H : List Int} (h : HP R H) {x y : Int} (hw : R.way (tilH R H) x y ≠ 0) :
    ∃ a b : Nat, x = a ∧ y = b ∧ a < R.W ∧ b < R.T ∧ R.at a b = true ∧ R.way (tilH R H) x y = wayH R H a b ∧ WayH R H a b := by
  obtain ⟨a, b, rfl, rfl, ha, hb⟩ := way_ne hw
  rw [way_tilH hR H ha hb] at hw ⊢
  by_cases hc : R.at a b = true
  · rw [if_pos hc] at hw ⊢
    exact ⟨a, b, rfl, rfl, ha, hb, hc, rfl, wayH_at h ha hb hc⟩
  · rw [if_neg hc] at hw
    exact absurd rfl hw
theorem way_tilH_at {R : Reg} (hR : R.ok) {H : List Int} {a b : Nat} (hc : R.at a b = true) : R.way (tilH R H) a b = wayH R H a b := by
  obtain ⟨a', b', e1, e2, ha, hb, _⟩ := at_cell hR hc
  obtain rfl : a = a' := by omega
  obtain rfl : b = b' := by omega
  rw [way_tilH hR H ha hb, if_pos hc]

theorem lay_tilH {R : Reg} (hR : R.ok) {H : List Int} (h : HP R H) : Lay R (tilH R H) := by
  refine ⟨tilH_len R H, fun x y hw => ?_, fun x y => ?_, fun x y => ⟨fun hw => ?_, fun hw => ?_⟩, fun x y => ⟨fun hw => ?_, fun hw => ?_⟩⟩
  · obtain ⟨a, b, rfl, rfl, _, _, hc, _⟩ := way_tilH_ne hR h hw
    exact hc
  · by_cases hw : R.way (tilH R H) x y = 0
    · omega
    · obtain ⟨a, b, rfl, rfl, _, _, hc, e, hW⟩ := way_tilH_ne hR h hw
      rw [e]
      have := hW.lo
      have := hW.hi
      omega
  · obtain ⟨a, b, rfl, rfl, ha, hb, hc, e, hW⟩ := way_tilH_ne hR h (x := x) (y := y) (by omega)
    have h1 := hW.e.1 (by omega)
    have hs := sg_or a b
    have := h.n (a + 1) b (by omega) hb (.inr (by rw [show ((a + 1 : Nat) : Int) - 1 = (a : Int) by omega]; exact hc))
    rw [show ((a + 1 : Nat) : Int) - 1 = (a : Int) by omega] at this
    rcases this with this | ⟨hc2, _, _⟩
    · omega
    · rw [show (a : Int) + 1 = ((a + 1 : Nat) : Int) by omega, way_tilH_at hR hc2]
      obtain ⟨a', b', e1, e2, ha', hb', _⟩ := at_cell hR hc2
      refine (wayH_at h (by omega) hb hc2).w.2 ?_
      rw [show ((a + 1 : Nat) : Int) = (a : Int) + 1 by omega, sg_e]; omega
  · obtain ⟨a', b, ea, rfl, ha, hb, hc, e, hW⟩ := way_tilH_ne hR h (x := x + 1) (y := y) (by omega)
    have h1 := hW.w.1 (by omega)
    have hs := sg_or a' b
    have := h.n a' b (by omega) hb (.inl hc)
    rw [sg_w] at this
    rcases this with this | ⟨_, hc2, _⟩
    · omega
    · obtain ⟨a, b', e1, e2, ha', hb', _⟩ := at_cell hR hc2
      obtain rfl : a' = a + 1 := by omega
      obtain rfl : x = (a : Int) := by omega
      rw [show ((a + 1 : Nat) : Int) - 1 = (a : Int) by omega] at hc2
      rw [way_tilH_at hR hc2]
      refine (wayH_at h ha' hb hc2).e.2 ?_
      rw [show ((a + 1 : Nat) : Int) = (a : Int) + 1 by omega, sg_e] at h1
      omega
  · obtain ⟨a, b, rfl, rfl, ha, hb, hc, e, hW⟩ := way_tilH_ne hR h (x := x) (y := y) (by omega)
    have h1 := hW.n.1 (by omega)
    have hs := sg_or a b
    have := h.e a (b + 1) ha (by omega) (.inr (by rw [show ((b + 1 : Nat) : Int) - 1 = (b : Int) by omega]; exact hc))
    rw [show ((b + 1 : Nat) : Int) - 1 = (b : Int) by omega, show ((b + 1 : Nat) : Int) = (b : Int) + 1 by omega, sg_n] at this
    rcases this with this | ⟨hc2, _, _⟩
    · omega
    · rw [show (b : Int) + 1 = ((b + 1 : Nat) : Int) by omega] at hc2 ⊢
      rw [way_tilH_at hR hc2]
      obtain ⟨a', b', e1, e2, ha', hb', _⟩ := at_cell hR hc2
      refine (wayH_at h ha (by omega) hc2).s.2 ?_
      rw [show ((b + 1 : Nat) : Int) = (b : Int) + 1 by omega, sg_n]; omega
  · obtain ⟨a, b', rfl, eb, ha, hb, hc, e, hW⟩ := way_tilH_ne hR h (x := x) (y := y + 1) (by omega)
    have h1 := hW.s.1 (by omega)
    have hs := sg_or a b'
    have := h.e a b' ha (by omega) (.inl hc)
    rcases this with this | ⟨_, hc2, _⟩
    · omega
    · obtain ⟨a', b, e1, e2, ha', hb', _⟩ := at_cell hR hc2
      obtain rfl : b' = b + 1 := by omega
      obtain rfl : y = (b : Int) := by omega
      rw [show ((b + 1 : Nat) : Int) - 1 = (b : Int) by omega] at hc2
      rw [way_tilH_at hR hc2]
      refine (wayH_at h ha hb' hc2).n.2 ?_
      rw [show ((b + 1 : Nat) : Int) = (b : Int) + 1 by omega, sg_n] at h1
      omega
theorem full_tilH {R : Reg} (hR : R.ok) {H : List Int} (h : HP R H) : Full R (tilH R H) := by
  intro x y hc
  obtain ⟨a, b, rfl, rfl, ha, hb, _⟩ := at_cell hR hc
  rw [way_tilH_at hR hc]
  have := (wayH_at h ha hb hc).lo
  omega
theorem hts_tilH {R : Reg} (hR : R.ok) {H : List Int} (h : HP R H) : Hts R (tilH R H) H := by
  refine ⟨h.len, h.no, h.first, fun x y hx hy hu => ?_, fun x y hx hy hu => ?_⟩
  · have he := h.e x y hx hy hu
    have hs := sg_or x y
    simp only [tform]
    by_cases hc : R.at x ((y : Int) - 1) = true
    · obtain ⟨a, b, e1, e2, ha, hb, _⟩ := at_cell hR hc
      obtain rfl : x = a := by omega
      obtain rfl : y = b + 1 := by omega
      rw [show ((b + 1 : Nat) : Int) - 1 = (b : Int) by omega] at hc ⊢
      rw [way_tilH_at hR hc]
      have hn := (wayH_at h ha hb hc).n
      rw [show ((b + 1 : Nat) : Int) = (b : Int) + 1 by omega, sg_n] at he hs ⊢
      split
      · rename_i h2; have := hn.1 h2; omega
      · rename_i h2
        rcases he with he | ⟨_, _, he⟩
        · exact he
        · exact absurd (hn.2 (by omega)) h2
    · have hw : R.way (tilH R H) x ((y : Int) - 1) ≠ 2 := by
        intro hw
        obtain ⟨a, b, e1, e2, _, _, hc2, _⟩ := way_tilH_ne hR h (x := x) (y := (y : Int) - 1) (by omega)
        rw [e1, e2] at hc
        exact hc hc2
      rw [if_neg hw]
      rcases he with he | ⟨_, hc2, _⟩
      · exact he
      · exact absurd hc2 hc
  · have he := h.n x y hx hy hu
    have hs := sg_or ((x : Int) - 1) y
    simp only [tform]
    by_cases hc : R.at ((x : Int) - 1) y = true
    · obtain ⟨a, b, e1, e2, ha, hb, _⟩ := at_cell hR hc
      obtain rfl : y = b := by omega
      obtain rfl : x = a + 1 := by omega
      rw [show ((a + 1 : Nat) : Int) - 1 = (a : Int) by omega] at hc he hs ⊢
      rw [way_tilH_at hR hc]
      have hn := (wayH_at h ha hb hc).e
      split
      · rename_i h2; have := hn.1 h2; omega
      · rename_i h2
        rcases he with he | ⟨_, _, he⟩
        · exact he
        · exact absurd (hn.2 he) h2
    · have hw : R.way (tilH R H) ((x : Int) - 1) y ≠ 1 := by
        intro hw
        obtain ⟨a, b, e1, e2, _, _, hc2, _⟩ := way_tilH_ne hR h (x := (x : Int) - 1) (y := y) (by omega)
        rw [e1, e2] at hc
        exact hc hc2
      rw [if_neg hw]
      rcases he with he | ⟨_, hc2, _⟩
      · exact he
      · exact absurd hc2 hc
theorem hp_iff {R : Reg} (hR : R.ok) {H : List Int} : HP R H ↔ ∃ L, Lay R L ∧ Full R L ∧ Hts R L H :=
  ⟨fun h => ⟨_, lay_tilH hR h, full_tilH hR h, hts_tilH hR h⟩, fun ⟨_, hL, _, hH⟩ => hp_of_hts hL hH⟩

/-- A tiling is told by its heights. -/
theorem way_of_hts {R : Reg} (hR : R.ok) {L H : List Int} (hL : Lay R L) (hF : Full R L) (hH : Hts R L H) {x y : Nat} (hc : R.at x y = true) : R.way L x y = wayH R H x y := by
  obtain ⟨a, b, e1, e2, hx, hy, _⟩ := at_cell hR hc
  obtain rfl : x = a := by omega
  obtain rfl : y = b := by omega
  have hW := wayH_at (hp_of_hts hL hH) hx hy hc
  obtain ⟨s, hs, h1, h2, h3, h4, rfl⟩ := hts_round hL hH hx hy hc
  have hr := hL.rng x y
  have hne := hF x y hc
  have h5 : R.way L x y = 1 ∨ R.way L x y = 2 ∨ R.way L x y = 3 ∨ R.way L x y = 4 := by omega
  rcases h5 with h | h | h | h
  · rw [h] at h2 ⊢; exact (hW.e.2 (by simp at h2; omega)).symm
  · rw [h] at h3 ⊢; exact (hW.n.2 (by simp at h3; omega)).symm
  · rw [h] at h4 ⊢; exact (hW.w.2 (by simp at h4; omega)).symm
  · rw [h] at h1 ⊢; exact (hW.s.2 (by simp at h1; omega)).symm
theorem lay_ext {R : Reg} (hR : R.ok) {L M : List Int} (hL : Lay R L) (hM : Lay R M) (h : ∀ x y : Nat, R.at x y = true → R.way L x y = R.way M x y) : L = M := by
  apply List.ext_getElem (by rw [hL.len, hM.len])
  intro i hi hi'
  obtain ⟨hx, hy⟩ := xy_lt hR (c := i) (by rw [← hL.len]; exact hi)
  have he := xy_eq i R.W
  have key : R.way L ((i % R.W : Nat) : Int) ((i / R.W : Nat) : Int) = R.way M ((i % R.W : Nat) : Int) ((i / R.W : Nat) : Int) := by
    by_cases hc : R.at ((i % R.W : Nat) : Int) ((i / R.W : Nat) : Int) = true
    · exact h _ _ hc
    · have h1 : R.way L ((i % R.W : Nat) : Int) ((i / R.W : Nat) : Int) = 0 := Classical.byContradiction fun hh => hc (hL.at_ _ _ hh)
      have h2 : R.way M ((i % R.W : Nat) : Int) ((i / R.W : Nat) : Int) = 0 := Classical.byContradiction fun hh => hc (hM.at_ _ _ hh)
      rw [h1, h2]
  rw [way_in hx hy, way_in hx hy, he] at key
  simpa [List.getD_eq_getElem?_getD, List.getElem?_eq_getElem hi, List.getElem?_eq_getElem hi'] using key
theorem til_one {R : Reg} (hR : R.ok) {L M H : List Int} (hL : Lay R L) (hF : Full R L) (hM : Lay R M) (hG : Full R M) (h1 : Hts R L H) (h2 : Hts R M H) : L = M :=
  lay_ext hR hL hM fun x y hc => by rw [way_of_hts hR hL hF h1 hc, way_of_hts hR hM hG h2 hc]

/-! ### Two heights -/
theorem hp_mod {R : Reg} (hR : R.ok) (hI : InConn R) {H G : List Int} (h : HP R H) (g : HP R G) {x y : Nat} (hx : x ≤ R.W) (hy : y ≤ R.T) : (R.ht H x y - R.ht G x y) % 4 = 0 := by
  obtain ⟨x0, y0, h0⟩ := first_ex hR hI
  cases hu : R.cu x y with
  | false => rw [h.no x y hx hy hu, g.no x y hx hy hu]; rfl
  | true =>
    refine conn_corners hR hI (fun x y => (R.ht H x y - R.ht G x y) % 4 = 0) (fun x y hx hy hu => ?_) (fun x y hx hy hu => ?_) h0.2.2.1 hu (by rw [h.first _ _ h0, g.first _ _ h0]; rfl)
    · rcases h.e x y hx hy hu with h | ⟨_, _, h⟩ <;> rcases g.e x y hx hy hu with g | ⟨_, _, g⟩ <;> rw [h, g] <;> omega
    · rcases h.n x y hx hy hu with h | ⟨_, _, h⟩ <;> rcases g.n x y hx hy hu with g | ⟨_, _, g⟩ <;> rw [h, g] <;> omega
theorem ht_zip {R : Reg} {f : Int → Int → Int} {H G : List Int} (h : H.length = R.cn) (g : G.length = R.cn) {x y : Nat} (hx : x ≤ R.W) (hy : y ≤ R.T) : R.ht (List.zipWith f H G) x y = f (R.ht H x y) (R.ht G x y) := by
  have hl := ci_lt (R := R) hx hy
  unfold Reg.ht
  rw [List.getD_eq_getElem?_getD, List.getElem?_zipWith, List.getElem?_eq_getElem (by omega), List.getElem?_eq_getElem (by omega), List.getD_eq_getElem?_getD, List.getD_eq_getElem?_getD, List.getElem?_eq_getElem (by omega), List.getElem?_eq_getElem (by omega)]
  rfl
theorem hp_min {R : Reg} (hR : R.ok) (hI : InConn R) {H G : List Int} (h : HP R H) (g : HP R G) : HP R (List.zipWith min H G) := by
  refine ⟨by rw [List.length_zipWith, h.len, g.len, Nat.min_self], fun x y hx hy hu => ?_, fun x y h0 => ?_, fun x y hx hy hu => ?_, fun x y hx hy hu => ?_⟩
  · rw [ht_zip h.len g.len hx hy, h.no x y hx hy hu, g.no x y hx hy hu]; rfl
  · rw [ht_zip h.len g.len h0.1 h0.2.1, h.first x y h0, g.first x y h0]; rfl
  · have m1 := hp_mod hR hI h g (x := x) (y := y) (by omega) hy
    have m2 := hp_mod hR hI h g (x := x + 1) (y := y) (by omega) hy
    rw [ht_zip h.len g.len (by omega) hy, ht_zip h.len g.len (by omega) hy]
    have hs := sg_or x y
    have h1 := h.e x y hx hy hu
    have g1 := g.e x y hx hy hu
    rcases h1 with h1 | ⟨a, b, h1⟩ <;> rcases g1 with g1 | ⟨c, d, g1⟩
    · exact .inl (by omega)
    · by_cases hk : min (R.ht H (x + 1) y) (R.ht G (x + 1) y) = min (R.ht H x y) (R.ht G x y) + sg x y
      · exact .inl hk
      · exact .inr ⟨c, d, by omega⟩
    · by_cases hk : min (R.ht H (x + 1) y) (R.ht G (x + 1) y) = min (R.ht H x y) (R.ht G x y) + sg x y
      · exact .inl hk
      · exact .inr ⟨a, b, by omega⟩
    · exact .inr ⟨a, b, by omega⟩
  · have m1 := hp_mod hR hI h g (x := x) (y := y) hx (by omega)
    have m2 := hp_mod hR hI h g (x := x) (y := y + 1) hx (by omega)
    rw [ht_zip h.len g.len hx (by omega), ht_zip h.len g.len hx (by omega)]
    have hs := sg_or ((x : Int) - 1) y
    have h1 := h.n x y hx hy hu
    have g1 := g.n x y hx hy hu
    rcases h1 with h1 | ⟨a, b, h1⟩ <;> rcases g1 with g1 | ⟨c, d, g1⟩
    · exact .inl (by omega)
    · by_cases hk : min (R.ht H x (y + 1)) (R.ht G x (y + 1)) = min (R.ht H x y) (R.ht G x y) + sg ((x : Int) - 1) y
      · exact .inl hk
      · exact .inr ⟨c, d, by omega⟩
    · by_cases hk : min (R.ht H x (y + 1)) (R.ht G x (y + 1)) = min (R.ht H x y) (R.ht G x y) + sg ((x : Int) - 1) y
      · exact .inl hk
      · exact .inr ⟨a, b, by omega⟩
    · exact .inr ⟨a, b, by omega⟩
theorem hp_max {R : Reg} (hR : R.ok) (hI : InConn R) {H G : List Int} (h : HP R H) (g : HP R G) : HP R (List.zipWith max H G) := by
  refine ⟨by rw [List.length_zipWith, h.len, g.len, Nat.min_self], fun x y hx hy hu => ?_, fun x y h0 => ?_, fun x y hx hy hu => ?_, fun x y hx hy hu => ?_⟩
  · rw [ht_zip h.len g.len hx hy, h.no x y hx hy hu, g.no x y hx hy hu]; rfl
  · rw [ht_zip h.len g.len h0.1 h0.2.1, h.first x y h0, g.first x y h0]; rfl
  · have m1 := hp_mod hR hI h g (x := x) (y := y) (by omega) hy
    have m2 := hp_mod hR hI h g (x := x + 1) (y := y) (by omega) hy
    rw [ht_zip h.len g.len (by omega) hy, ht_zip h.len g.len (by omega) hy]
    have hs := sg_or x y
    have h1 := h.e x y hx hy hu
    have g1 := g.e x y hx hy hu
    rcases h1 with h1 | ⟨a, b, h1⟩ <;> rcases g1 with g1 | ⟨c, d, g1⟩
    · exact .inl (by omega)
    · by_cases hk : max (R.ht H (x + 1) y) (R.ht G (x + 1) y) = max (R.ht H x y) (R.ht G x y) + sg x y
      · exact .inl hk
      · exact .inr ⟨c, d, by omega⟩
    · by_cases hk : max (R.ht H (x + 1) y) (R.ht G (x + 1) y) = max (R.ht H x y) (R.ht G x y) + sg x y
      · exact .inl hk
      · exact .inr ⟨a, b, by omega⟩
    · exact .inr ⟨a, b, by omega⟩
  · have m1 := hp_mod hR hI h g (x := x) (y := y) hx (by omega)
    have m2 := hp_mod hR hI h g (x := x) (y := y + 1) hx (by omega)
    rw [ht_zip h.len g.len hx (by omega), ht_zip h.len g.len hx (by omega)]
    have hs := sg_or ((x : Int) - 1) y
    have h1 := h.n x y hx hy hu
    have g1 := g.n x y hx hy hu
    rcases h1 with h1 | ⟨a, b, h1⟩ <;> rcases g1 with g1 | ⟨c, d, g1⟩
    · exact .inl (by omega)
    · by_cases hk : max (R.ht H x (y + 1)) (R.ht G x (y + 1)) = max (R.ht H x y) (R.ht G x y) + sg ((x : Int) - 1) y
      · exact .inl hk
      · exact .inr ⟨c, d, by omega⟩
    · by_cases hk : max (R.ht H x (y + 1)) (R.ht G x (y + 1)) = max (R.ht H x y) (R.ht G x y) + sg ((x : Int) - 1) y
      · exact .inl hk
      · exact .inr ⟨a, b, by omega⟩
    · exact .inr ⟨a, b, by omega⟩
theorem hp_bd {R : Reg} (hR : R.ok) (hI : InConn R) {H : List Int} (h : HP R H) {x y : Nat} (hu : R.cu x y = true) : -51 ≤ R.ht H x y ∧ R.ht H x y ≤ 51 :=
  hts_bd hR hI (lay_tilH hR h) (full_tilH hR h) (hts_tilH hR h) hu
theorem hts_tilH_of {R : Reg} (hR : R.ok) {L H : List Int} (hL : Lay R L) (hF : Full R L) (hH : Hts R L H) : tilH R H = L :=
  til_one hR (lay_tilH hR (hp_of_hts hL hH)) (full_tilH hR (hp_of_hts hL hH)) hL hF (hts_tilH hR (hp_of_hts hL hH)) hH

end Go.Proofs.Ytbonmnfmlobpbaa
