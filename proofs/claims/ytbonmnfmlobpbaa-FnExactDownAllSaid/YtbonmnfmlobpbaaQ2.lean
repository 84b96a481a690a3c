/-
  YtbonmnfmlobpbaaQ2: the heights of all tilings of a simple region are the same at the corners of cells outside; a tiling that is somewhere higher than another one can be flipped down there. Plain Lean.
-/
import Derived.Test.YtbonmnfmlobpbaaQ1
namespace Go.Proofs.Ytbonmnfmlobpbaa

def Reg.inner (R : Reg) (x y : Int) : Prop := R.at x y = true ∧ R.at (x - 1) y = true ∧ R.at x (y - 1) = true ∧ R.at (x - 1) (y - 1) = true

theorem tform_e0 {R : Reg} {L : List Int} (hL : Lay R L) {x y : Int} (h : R.at x y = false ∨ R.at x (y - 1) = false) : (tform R L).e x y = sg x y := by
  simp only [tform]
  rw [if_neg]
  intro h2
  have hv := hL.ver x (y - 1)
  rw [show y - 1 + 1 = y by omega] at hv
  rcases h with h | h
  · rw [hL.at_ x y (by rw [hv.1 h2]; decide)] at h; cases h
  · rw [hL.at_ x _ (by rw [h2]; decide)] at h; cases h
theorem tform_n0 {R : Reg} {L : List Int} (hL : Lay R L) {x y : Int} (h : R.at x y = false ∨ R.at (x - 1) y = false) : (tform R L).n x y = sg (x - 1) y := by
  simp only [tform]
  rw [if_neg]
  intro h2
  have hv := hL.hor (x - 1) y
  rw [show x - 1 + 1 = x by omega] at hv
  rcases h with h | h
  · rw [hL.at_ x y (by rw [hv.1 h2]; decide)] at h; cases h
  · rw [hL.at_ _ y (by rw [h2]; decide)] at h; cases h
theorem free_mk {R : Reg} {x y : Int} (hx : 0 ≤ x ∧ x < R.W + 2) (hy : 0 ≤ y ∧ y < R.T + 2) (h : R.at (x - 1) (y - 1) = false) : R.free x y = true := by
  simp only [Reg.free, Bool.and_eq_true, decide_eq_true_eq, Bool.not_eq_true']
  exact ⟨⟨hx.1, hx.2, hy.1, hy.2⟩, h⟩

/-- A potential that is 0 at the corners of all cells outside. -/
theorem pot_zero {R : Reg} (hO : OutConn R) {p : Nat → Nat → Int} (h0 : p 0 0 = 0)
    (he : ∀ x y : Nat, (R.at x y = false ∨ R.at x ((y : Int) - 1) = false) → p (x + 1) y = p x y) (hn : ∀ x y : Nat, (R.at x y = false ∨ R.at ((x : Int) - 1) y = false) → p x (y + 1) = p x y)
    {u v x y : Nat} (hf : R.free u v = true) (hx : x = u ∨ x + 1 = u) (hy : y = v ∨ y + 1 = v) : p x y = 0 := by
  have key := linked_ind (A := R.PA) (P := fun q => ∀ u v : Nat, u < R.W + 2 → q = R.pi u v → ∀ x y : Nat, (x = u ∨ x + 1 = u) → (y = v ∨ y + 1 = v) → p x y = 0)
    (fun c e hce hP u v hu hc x y hx hy => by
      obtain ⟨x1, y1, x2, y2, h1, h2, f1, f2, hb⟩ := hce
      obtain ⟨rfl, rfl⟩ := pi_inj (free_in f1).1 hu (h1.symm.trans hc)
      have hp := hP x2 y2 (free_in f2).1 h2
      have a1 := free_at f1
      rcases hb with ⟨e1, e2⟩ | ⟨e1, e2⟩ | ⟨e1, e2⟩ | ⟨e1, e2⟩
      · subst e1 e2
        rcases hx with rfl | rfl
        · exact hp _ _ (.inr rfl) hy
        · rw [← he x y ?_]
          · exact hp _ _ (.inr rfl) hy
          · rw [show ((x + 1 : Nat) : Int) - 1 = (x : Int) by omega] at a1
            rcases hy with rfl | rfl
            · exact .inr a1
            · rw [show ((y + 1 : Nat) : Int) - 1 = (y : Int) by omega] at a1
              exact .inl a1
      · subst e1 e2
        rcases hx with rfl | hx
        · rw [he x2 y ?_]
          · exact hp _ _ (.inl rfl) hy
          · rw [show ((x2 + 1 : Nat) : Int) - 1 = (x2 : Int) by omega] at a1
            rcases hy with rfl | rfl
            · exact .inr a1
            · rw [show ((y + 1 : Nat) : Int) - 1 = (y : Int) by omega] at a1
              exact .inl a1
        · exact hp _ _ (.inl (by omega)) hy
      · subst e1 e2
        rcases hy with rfl | rfl
        · exact hp _ _ hx (.inr rfl)
        · rw [← hn x y ?_]
          · exact hp _ _ hx (.inr rfl)
          · rw [show ((y + 1 : Nat) : Int) - 1 = (y : Int) by omega] at a1
            rcases hx with rfl | rfl
            · exact .inr a1
            · rw [show ((x + 1 : Nat) : Int) - 1 = (x : Int) by omega] at a1
              exact .inl a1
      · subst e1 e2
        rcases hy with rfl | hy
        · rw [hn x y2 ?_]
          · exact hp _ _ hx (.inl rfl)
          · rw [show ((y2 + 1 : Nat) : Int) - 1 = (y2 : Int) by omega] at a1
            rcases hx with rfl | rfl
            · exact .inr a1
            · rw [show ((x + 1 : Nat) : Int) - 1 = (x : Int) by omega] at a1
              exact .inl a1
        · exact hp _ _ hx (.inl (by omega)))
    (hO u v hf)
    (fun u v hu h x y hx hy => by
      obtain ⟨rfl, rfl⟩ := pi_inj hu (by omega) (h.symm.trans (pi_zero R).symm)
      obtain rfl : x = 0 := by omega
      obtain rfl : y = 0 := by omega
      exact h0)
  exact key u v (free_in hf).1 rfl x y hx hy

theorem pot_out {R : Reg} (hO : OutConn R) {p : Nat → Nat → Int} (h0 : p 0 0 = 0)
    (he : ∀ x y : Nat, (R.at x y = false ∨ R.at x ((y : Int) - 1) = false) → p (x + 1) y = p x y) (hn : ∀ x y : Nat, (R.at x y = false ∨ R.at ((x : Int) - 1) y = false) → p x (y + 1) = p x y)
    {x y : Nat} (hx : x ≤ R.W) (hy : y ≤ R.T) (ho : ¬ R.inner x y) : p x y = 0 := by
  by_cases h1 : R.at x y = true
  · by_cases h2 : R.at ((x : Int) - 1) y = true
    · by_cases h3 : R.at x ((y : Int) - 1) = true
      · have h4 : R.at ((x : Int) - 1) ((y : Int) - 1) = false := by
          cases h4 : R.at ((x : Int) - 1) ((y : Int) - 1) with
          | false => rfl
          | true => exact absurd ⟨h1, h2, h3, h4⟩ ho
        exact pot_zero hO h0 he hn (free_mk (x := x) (y := y) (by omega) (by omega) h4) (.inl rfl) (.inl rfl)
      · refine pot_zero hO h0 he hn (u := x + 1) (v := y) (free_mk (by omega) (by omega) ?_) (.inr rfl) (.inl rfl)
        rw [show ((x + 1 : Nat) : Int) - 1 = (x : Int) by omega]
        simpa using h3
    · refine pot_zero hO h0 he hn (u := x) (v := y + 1) (free_mk (by omega) (by omega) ?_) (.inl rfl) (.inr rfl)
      rw [show ((y + 1 : Nat) : Int) - 1 = (y : Int) by omega]
      simpa using h2
  · refine pot_zero hO h0 he hn (u := x + 1) (v := y + 1) (free_mk (by omega) (by omega) ?_) (.inr rfl) (.inr rfl)
    rw [show ((x + 1 : Nat) : Int) - 1 = (x : Int) by omega, show ((y + 1 : Nat) : Int) - 1 = (y : Int) by omega]
    simpa using h1

theorem first_out {R : Reg} (hR : R.ok) {x y : Nat} (h : First R x y) : ¬ R.inner x y := by
  rintro ⟨_, _, _, h4⟩
  obtain ⟨a, b, e1, e2, ha, hb, hc⟩ := at_cell hR h4
  have := h.2.2.2 a b (by omega) (by omega) (cu_ne (cell_at ha hb hc))
  unfold Reg.ci at this
  obtain rfl : x = a + 1 := by omega
  obtain rfl : y = b + 1 := by omega
  rw [Nat.add_mul] at this
  omega

/-- At the corners of cells outside all tilings have the same heights. -/
theorem hp_outside {R : Reg} (hR : R.ok) (hS : SimpleP R) {H G : List Int} (h : HP R H) (g : HP R G) {x y : Nat} (hx : x ≤ R.W) (hy : y ≤ R.T) (ho : ¬ R.inner x y) : R.ht H x y = R.ht G x y := by
  obtain ⟨x0, y0, h0⟩ := first_ex hR hS.1
  have lH := lay_tilH hR h
  have lG := lay_tilH hR g
  have hH := hts_tilH hR h
  have hG := hts_tilH hR g
  obtain ⟨D, hD⟩ : ∃ D, D = (tform R (tilH R H)).add (Form.mul (-1) (tform R (tilH R G))) := ⟨_, rfl⟩
  have hDe : ∀ x y, D.e x y = (tform R (tilH R H)).e x y - (tform R (tilH R G)).e x y := by intro x y; rw [hD]; simp only [Form.add, Form.mul]; omega
  have hDn : ∀ x y, D.n x y = (tform R (tilH R H)).n x y - (tform R (tilH R G)).n x y := by intro x y; rw [hD]; simp only [Form.add, Form.mul]; omega
  have he0 : ∀ x y, (R.at x y = false ∨ R.at x (y - 1) = false) → D.e x y = 0 := fun x y hh => by rw [hDe, tform_e0 lH hh, tform_e0 lG hh]; omega
  have hn0 : ∀ x y, (R.at x y = false ∨ R.at (x - 1) y = false) → D.n x y = 0 := fun x y hh => by rw [hDn, tform_n0 lH hh, tform_n0 lG hh]; omega
  have hcurl : ∀ x y, D.curl x y = 0 := by
    intro x y
    cases hc : R.at x y with
    | true => rw [hD, curl_add, curl_mul, curl_tform lH (full_tilH hR h x y hc), curl_tform lG (full_tilH hR g x y hc)]; rfl
    | false =>
      unfold Form.curl
      rw [he0 x y (.inl hc), hn0 (x + 1) y (.inr (by rw [Int.add_sub_cancel]; exact hc)), he0 x (y + 1) (.inr (by rw [Int.add_sub_cancel]; exact hc)), hn0 x y (.inl hc)]; rfl
  have pe : ∀ x y : Nat, D.pot (x + 1) y = D.pot x y + D.e x y := fun x y => pot_e D x y fun j _ => hcurl x j
  have pn : ∀ x y : Nat, D.pot x (y + 1) = D.pot x y + D.n x y := fun x y => pot_n D x y
  have pz : ∀ {x y : Nat}, x ≤ R.W → y ≤ R.T → ¬ R.inner x y → D.pot x y = 0 := fun hx hy ho =>
    pot_out hS.2 (p := D.pot) (by simp [Form.pot, sumTo]) (fun x y hh => by rw [pe, he0 _ _ hh]; omega) (fun x y hh => by rw [pn, hn0 _ _ hh]; omega) hx hy ho
  cases hu : R.cu x y with
  | false => rw [h.no x y hx hy hu, g.no x y hx hy hu]
  | true =>
    have : R.ht H x y - R.ht G x y = D.pot x y := by
      refine conn_corners hR hS.1 (fun x y => R.ht H x y - R.ht G x y = D.pot x y) (fun x y hx hy hu => ?_) (fun x y hx hy hu => ?_) h0.2.2.1 hu ?_
      · rw [hH.e x y hx hy hu, hG.e x y hx hy hu, pe, hDe]; omega
      · rw [hH.n x y hx hy hu, hG.n x y hx hy hu, pn, hDn]; omega
      · show R.ht H x0 y0 - R.ht G x0 y0 = D.pot x0 y0
        rw [h.first _ _ h0, g.first _ _ h0, pz h0.1 h0.2.1 (first_out hR h0)]; rfl
    rw [pz hx hy ho] at this
    omega

/-! ### Flips -/
/-- Two flat, two upright dominoes round the corner in the north-east of a cell. -/
def FlatAt (R : Reg) (L : List Int) (a b : Nat) : Prop := R.way L a b = 1 ∧ R.way L a ((b : Int) + 1) = 1
def UprAt (R : Reg) (L : List Int) (a b : Nat) : Prop := R.way L a b = 2 ∧ R.way L ((a : Int) + 1) b = 2
def DownAt (R : Reg) (L : List Int) (a b : Nat) : Prop := (FlatAt R L a b ∧ sg a b = -1) ∨ (UprAt R L a b ∧ sg a b = 1)
def UpAt (R : Reg) (L : List Int) (a b : Nat) : Prop := (FlatAt R L a b ∧ sg a b = 1) ∨ (UprAt R L a b ∧ sg a b = -1)

theorem inner_nat {R : Reg} (hR : R.ok) {x y : Nat} (h : R.inner x y) : ∃ a b : Nat, x = a + 1 ∧ y = b + 1 ∧ a + 1 < R.W ∧ b + 1 < R.T ∧ R.at a b = true ∧ R.at ((a + 1 : Nat) : Int) b = true ∧ R.at a ((b + 1 : Nat) : Int) = true ∧ R.at ((a + 1 : Nat) : Int) ((b + 1 : Nat) : Int) = true := by
  obtain ⟨h1, h2, h3, h4⟩ := h
  obtain ⟨a, b, e1, e2, ha, hb, _⟩ := at_cell hR h4
  obtain ⟨a', b', e1', e2', ha', hb', _⟩ := at_cell hR h1
  obtain rfl : x = a + 1 := by omega
  obtain rfl : y = b + 1 := by omega
  rw [show ((a + 1 : Nat) : Int) - 1 = (a : Int) by omega] at h2 h4
  rw [show ((b + 1 : Nat) : Int) - 1 = (b : Int) by omega] at h3 h4
  exact ⟨a, b, rfl, rfl, by omega, by omega, h4, h3, h2, h1⟩

/-- The heights round an inner corner tell a flip down, if all are less. -/
theorem down_of {R : Reg} (hR : R.ok) {L H : List Int} (hL : Lay R L) (hF : Full R L) (hH : Hts R L H) {a b : Nat} (ha : a + 1 < R.W) (hb : b + 1 < R.T) (c1 : R.at a b = true) (c2 : R.at ((a + 1 : Nat) : Int) b = true) (c3 : R.at a ((b + 1 : Nat) : Int) = true)
    (h1 : R.ht H (a + 2) (b + 1) < R.ht H (a + 1) (b + 1)) (h2 : R.ht H a (b + 1) < R.ht H (a + 1) (b + 1)) (h3 : R.ht H (a + 1) (b + 2) < R.ht H (a + 1) (b + 1)) (h4 : R.ht H (a + 1) b < R.ht H (a + 1) (b + 1)) : DownAt R L a b := by
  have hP := hp_of_hts hL hH
  have w1 := wayH_at hP (by omega) (by omega) c1
  have w2 := wayH_at hP ha (by omega) c2
  have w3 := wayH_at hP (by omega) hb c3
  have v1 := way_of_hts hR hL hF hH c1
  have v2 := way_of_hts hR hL hF hH c2
  have v3 := way_of_hts hR hL hF hH c3
  obtain ⟨r1, r2, r3, r4⟩ := hp_round hP (by omega) (by omega) c1
  obtain ⟨q1, q2, q3, q4⟩ := hp_round hP ha (by omega) c2
  obtain ⟨p1, p2, p3, p4⟩ := hp_round hP (by omega) hb c3
  have s2 : sg ((a + 1 : Nat) : Int) b = - sg a b := by rw [show ((a + 1 : Nat) : Int) = (a : Int) + 1 by omega, sg_e]
  have s3 : sg a ((b + 1 : Nat) : Int) = - sg a b := by rw [show ((b + 1 : Nat) : Int) = (b : Int) + 1 by omega, sg_n]
  unfold DownAt FlatAt UprAt
  rw [show (b : Int) + 1 = ((b + 1 : Nat) : Int) by omega, show (a : Int) + 1 = ((a + 1 : Nat) : Int) by omega, v1, v2, v3]
  have e1 := w1.e
  have n1 := w1.n
  have n2 := w2.n
  have e3 := w3.e
  rw [s2] at n2 q1 q2 q3 q4
  rw [s3] at e3 p1 p2 p3 p4
  clear r1 r4 q1 q2 q4 p1 p3 p4 v1 v2 v3 w1 w2 w3 s2 s3
  simp only [Nat.add_assoc, Nat.reduceAdd] at n2 q3 e3 p2 r2 r3 e1 n1
  rcases sg_or a b with hs | hs <;> rw [hs] at e1 n1 n2 e3 r2 r3 q3 p2 ⊢
  · exact .inr ⟨⟨n1.2 (by omega), n2.2 (by omega)⟩, rfl⟩
  · exact .inl ⟨⟨e1.2 (by omega), e3.2 (by omega)⟩, rfl⟩
theorem up_of {R : Reg} (hR : R.ok) {L H : List Int} (hL : Lay R L) (hF : Full R L) (hH : Hts R L H) {a b : Nat} (ha : a + 1 < R.W) (hb : b + 1 < R.T) (c1 : R.at a b = true) (c2 : R.at ((a + 1 : Nat) : Int) b = true) (c3 : R.at a ((b + 1 : Nat) : Int) = true)
    (h1 : R.ht H (a + 1) (b + 1) < R.ht H (a + 2) (b + 1)) (h2 : R.ht H (a + 1) (b + 1) < R.ht H a (b + 1)) (h3 : R.ht H (a + 1) (b + 1) < R.ht H (a + 1) (b + 2)) (h4 : R.ht H (a + 1) (b + 1) < R.ht H (a + 1) b) : UpAt R L a b := by
  have hP := hp_of_hts hL hH
  have w1 := wayH_at hP (by omega) (by omega) c1
  have w2 := wayH_at hP ha (by omega) c2
  have w3 := wayH_at hP (by omega) hb c3
  have v1 := way_of_hts hR hL hF hH c1
  have v2 := way_of_hts hR hL hF hH c2
  have v3 := way_of_hts hR hL hF hH c3
  obtain ⟨r1, r2, r3, r4⟩ := hp_round hP (by omega) (by omega) c1
  obtain ⟨q1, q2, q3, q4⟩ := hp_round hP ha (by omega) c2
  obtain ⟨p1, p2, p3, p4⟩ := hp_round hP (by omega) hb c3
  have s2 : sg ((a + 1 : Nat) : Int) b = - sg a b := by rw [show ((a + 1 : Nat) : Int) = (a : Int) + 1 by omega, sg_e]
  have s3 : sg a ((b + 1 : Nat) : Int) = - sg a b := by rw [show ((b + 1 : Nat) : Int) = (b : Int) + 1 by omega, sg_n]
  unfold UpAt FlatAt UprAt
  rw [show (b : Int) + 1 = ((b + 1 : Nat) : Int) by omega, show (a : Int) + 1 = ((a + 1 : Nat) : Int) by omega, v1, v2, v3]
  have e1 := w1.e
  have n1 := w1.n
  have n2 := w2.n
  have e3 := w3.e
  rw [s2] at n2 q1 q2 q3 q4
  rw [s3] at e3 p1 p2 p3 p4
  clear r1 r4 q1 q2 q4 p1 p3 p4 v1 v2 v3 w1 w2 w3 s2 s3
  simp only [Nat.add_assoc, Nat.reduceAdd] at n2 q3 e3 p2 r2 r3 e1 n1
  rcases sg_or a b with hs | hs <;> rw [hs] at e1 n1 n2 e3 r2 r3 q3 p2 ⊢
  · exact .inl ⟨⟨e1.2 (by omega), e3.2 (by omega)⟩, rfl⟩
  · exact .inr ⟨⟨n1.2 (by omega), n2.2 (by omega)⟩, rfl⟩

/-- A neighbour's height. -/
theorem hp_near {R : Reg} {H : List Int} (h : HP R H) {a b : Nat} (ha : a + 1 < R.W) (hb : b + 1 < R.T) (c1 : R.at a b = true) (c2 : R.at ((a + 1 : Nat) : Int) b = true) (c3 : R.at a ((b + 1 : Nat) : Int) = true) :
    (∀ p q : Nat, (p = a + 2 ∧ q = b + 1) ∨ (p = a ∧ q = b + 1) ∨ (p = a + 1 ∧ q = b + 2) ∨ (p = a + 1 ∧ q = b) → p ≤ R.W ∧ q ≤ R.T ∧ R.ht H p q - R.ht H (a + 1) (b + 1) ≤ 3 ∧ -3 ≤ R.ht H p q - R.ht H (a + 1) (b + 1) ∧ R.ht H p q ≠ R.ht H (a + 1) (b + 1)) := by
  obtain ⟨r1, r2, r3, r4⟩ := hp_round h (by omega) (by omega) c1
  obtain ⟨q1, q2, q3, q4⟩ := hp_round h ha (by omega) c2
  obtain ⟨p1, p2, p3, p4⟩ := hp_round h (by omega) hb c3
  have hs := sg_or a b
  have hs2 := sg_or ((a + 1 : Nat) : Int) b
  have hs3 := sg_or a ((b + 1 : Nat) : Int)
  simp only [Nat.add_assoc, Nat.reduceAdd] at *
  rintro p q (⟨rfl, rfl⟩ | ⟨rfl, rfl⟩ | ⟨rfl, rfl⟩ | ⟨rfl, rfl⟩) <;> refine ⟨by omega, by omega, by omega, by omega, by omega⟩

theorem ht_le {R : Reg} (hR : R.ok) (hI : InConn R) {H : List Int} (h : HP R H) {x y : Nat} (hx : x ≤ R.W) (hy : y ≤ R.T) : R.ht H x y ≤ 99 ∧ -51 ≤ R.ht H x y := by
  cases hu : R.cu x y with
  | false => rw [h.no x y hx hy hu]; omega
  | true => have := hp_bd hR hI h hu; omega

/-- Whoever is higher somewhere can be flipped down there. -/
theorem desc {R : Reg} (hR : R.ok) (hS : SimpleP R) {L H G : List Int} (hL : Lay R L) (hF : Full R L) (hH : Hts R L H) (g : HP R G) {x y : Nat} (hx : x ≤ R.W) (hy : y ≤ R.T) (hgt : R.ht G x y < R.ht H x y) :
    ∃ a b : Nat, a + 1 < R.W ∧ b + 1 < R.T ∧ R.inner ((a + 1 : Nat) : Int) ((b + 1 : Nat) : Int) ∧ DownAt R L a b ∧ R.ht G (a + 1) (b + 1) + 4 ≤ R.ht H (a + 1) (b + 1) := by
  have h := hp_of_hts hL hH
  obtain ⟨k, ⟨x, y, hx, hy, hgt, rfl⟩, hm⟩ := least (P := fun k => ∃ x y : Nat, x ≤ R.W ∧ y ≤ R.T ∧ R.ht G x y < R.ht H x y ∧ k = (99 - R.ht H x y).toNat) ⟨_, x, y, hx, hy, hgt, rfl⟩
  have hin : R.inner x y := Classical.byContradiction fun ho => by
    have := hp_outside hR hS h g hx hy ho
    omega
  obtain ⟨a, b, rfl, rfl, ha, hb, c1, c2, c3, c4⟩ := inner_nat hR hin
  have m0 := hp_mod hR hS.1 h g hx hy
  have n1 := hp_near h ha hb c1 c2 c3
  have n2 := hp_near g ha hb c1 c2 c3
  have key : ∀ p q : Nat, (p = a + 2 ∧ q = b + 1) ∨ (p = a ∧ q = b + 1) ∨ (p = a + 1 ∧ q = b + 2) ∨ (p = a + 1 ∧ q = b) → R.ht H p q < R.ht H (a + 1) (b + 1) := by
    intro p q hpq
    obtain ⟨hp, hq, k1, k2, k3⟩ := n1 p q hpq
    obtain ⟨_, _, k4, k5, k6⟩ := n2 p q hpq
    have b1 := ht_le hR hS.1 h hx hy
    have b2 := ht_le hR hS.1 h hp hq
    by_cases hc : R.ht G p q < R.ht H p q
    · have := hm _ ⟨p, q, hp, hq, hc, rfl⟩
      omega
    · omega
  exact ⟨a, b, ha, hb, hin, down_of hR hL hF hH ha hb c1 c2 c3 (key _ _ (.inl ⟨rfl, rfl⟩)) (key _ _ (.inr (.inl ⟨rfl, rfl⟩))) (key _ _ (.inr (.inr (.inl ⟨rfl, rfl⟩)))) (key _ _ (.inr (.inr (.inr ⟨rfl, rfl⟩)))), by omega⟩
theorem asc {R : Reg} (hR : R.ok) (hS : SimpleP R) {L H G : List Int} (hL : Lay R L) (hF : Full R L) (hH : Hts R L H) (g : HP R G) {x y : Nat} (hx : x ≤ R.W) (hy : y ≤ R.T) (hgt : R.ht H x y < R.ht G x y) :
    ∃ a b : Nat, a + 1 < R.W ∧ b + 1 < R.T ∧ R.inner ((a + 1 : Nat) : Int) ((b + 1 : Nat) : Int) ∧ UpAt R L a b ∧ R.ht H (a + 1) (b + 1) + 4 ≤ R.ht G (a + 1) (b + 1) := by
  have h := hp_of_hts hL hH
  obtain ⟨k, ⟨x, y, hx, hy, hgt, rfl⟩, hm⟩ := least (P := fun k => ∃ x y : Nat, x ≤ R.W ∧ y ≤ R.T ∧ R.ht H x y < R.ht G x y ∧ k = (51 + R.ht H x y).toNat) ⟨_, x, y, hx, hy, hgt, rfl⟩
  have hin : R.inner x y := Classical.byContradiction fun ho => by
    have := hp_outside hR hS h g hx hy ho
    omega
  obtain ⟨a, b, rfl, rfl, ha, hb, c1, c2, c3, c4⟩ := inner_nat hR hin
  have m0 := hp_mod hR hS.1 h g hx hy
  have n1 := hp_near h ha hb c1 c2 c3
  have n2 := hp_near g ha hb c1 c2 c3
  have key : ∀ p q : Nat, (p = a + 2 ∧ q = b + 1) ∨ (p = a ∧ q = b + 1) ∨ (p = a + 1 ∧ q = b + 2) ∨ (p = a + 1 ∧ q = b) → R.ht H (a + 1) (b + 1) < R.ht H p q := by
    intro p q hpq
    obtain ⟨hp, hq, k1, k2, k3⟩ := n1 p q hpq
    obtain ⟨_, _, k4, k5, k6⟩ := n2 p q hpq
    have b1 := ht_le hR hS.1 h hx hy
    have b2 := ht_le hR hS.1 h hp hq
    by_cases hc : R.ht H p q < R.ht G p q
    · have := hm _ ⟨p, q, hp, hq, hc, rfl⟩
      omega
    · omega
  exact ⟨a, b, ha, hb, hin, up_of hR hL hF hH ha hb c1 c2 c3 (key _ _ (.inl ⟨rfl, rfl⟩)) (key _ _ (.inr (.inl ⟨rfl, rfl⟩))) (key _ _ (.inr (.inr (.inl ⟨rfl, rfl⟩)))) (key _ _ (.inr (.inr (.inr ⟨rfl, rfl⟩)))), by omega⟩

end Go.Proofs.Ytbonmnfmlobpbaa
