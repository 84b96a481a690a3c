/-
  YtahpipcmgcambaaLz: the texts La, Lb, Lc, Wy in one file.
-/
import Derived.Test.YtahpipcmgcambaaTl
import Derived.Test.YtahpipcmgcambaaHx
import Derived.Test.YtahpipcmgcambaaFm
import Derived.Test.YtahpipcmgcambaaShelf
import Derived.Test.YtahpipcmgcambaaLay

/-
  YtahpipcmgcambaaLa: what the property laws on heights and on the order say, of the values. Plain Lean.
-/
namespace Go.Proofs.Ytahpipcmgcambaa

theorem hokB_cases {W T : Int} {bs : List Bool} {hs : List Int} (h : hokB W T bs hs = true) : ∃ R : Reg, R.ok ∧ W = (R.W : Int) ∧ T = (R.T : Int) ∧ bs = R.C ∧ SimpleP R ∧ HP R hs := by
  obtain ⟨R, hR, hS, h1, h2, h3, h4⟩ := hokB_iff.1 h
  exact ⟨R, hR, h1, h2, h3, hS, hp_of_hok hR h4⟩
theorem tiledB_tiling {W T : Int} {bs : List Bool} {L : List Int} (h : tiledB W T bs L = true) : tilingB W T bs L = true := by
  unfold tiledB at h; rw [Bool.and_eq_true] at h; exact h.2
/-- TilingBy of right heights is a tiling, and its heights are these. -/
theorem law_by {W T : Int} {bs : List Bool} {hs : List Int} (h : hokB W T bs hs = true) : tilingB W T bs (byV W T bs hs) = true ∧ htsOf W T bs (byV W T bs hs) = hs := by
  obtain ⟨R, hR, rfl, rfl, rfl, hS, hH⟩ := hokB_cases h
  rw [byV_til hR hS hH]
  exact ⟨tiledB_tiling (tiled_tilH hR hS hH), htsOf_til hR hS hH⟩
/-- A tiling's heights are right, and TilingBy leads back. -/
theorem law_hts {W T : Int} {bs : List Bool} {L : List Int} (h : tiledB W T bs L = true) : hokB W T bs (htsOf W T bs L) = true ∧ byV W T bs (htsOf W T bs L) = L := by
  obtain ⟨R, hR, rfl, rfl, rfl, hS, _, _⟩ := tiled_cases h
  have hH := htsOf_hp hR h
  exact ⟨(hokB_hp hR hS).2 hH, by rw [byV_til hR hS hH]; exact tilH_hts hR h⟩
theorem hok_two {W T : Int} {bs : List Bool} {a b : List Int} (h : hokB W T bs a = true) (g : hokB W T bs b = true) : ∃ R : Reg, R.ok ∧ W = (R.W : Int) ∧ T = (R.T : Int) ∧ bs = R.C ∧ SimpleP R ∧ HP R a ∧ HP R b := by
  obtain ⟨R, hR, rfl, rfl, rfl, hS, hH⟩ := hokB_cases h
  exact ⟨R, hR, rfl, rfl, rfl, hS, hH, (hokB_hp hR hS).1 g⟩
theorem law_low {W T : Int} {bs : List Bool} {a b : List Int} (h : hokB W T bs a = true) (g : hokB W T bs b = true) : hokB W T bs (List.zipWith min a b) = true ∧ hokB W T bs (List.zipWith max a b) = true ∧ a.length = b.length := by
  obtain ⟨R, hR, rfl, rfl, rfl, hS, hH, hG⟩ := hok_two h g
  exact ⟨(hokB_hp hR hS).2 (hp_min hR hS.1 hH hG), (hokB_hp hR hS).2 (hp_max hR hS.1 hH hG), by rw [hH.len, hG.len]⟩
theorem zip_getD {f : Int → Int → Int} {a b : List Int} {k : Nat} (ha : k < a.length) (hb : k < b.length) : (List.zipWith f a b).getD k 0 = f (a.getD k 0) (b.getD k 0) := by
  rw [List.getD_eq_getElem?_getD, List.getD_eq_getElem?_getD, List.getD_eq_getElem?_getD, List.getElem?_zipWith, List.getElem?_eq_getElem ha, List.getElem?_eq_getElem hb]
  rfl
theorem zip_comm {f : Int → Int → Int} (hf : ∀ x y, f x y = f y x) : ∀ (a b : List Int), List.zipWith f a b = List.zipWith f b a
  | [], [] => rfl
  | [], _ :: _ => rfl
  | _ :: _, [] => rfl
  | x :: a, y :: b => by simp only [List.zipWith_cons_cons, zip_comm hf a b, hf x y]
theorem zip_self {f : Int → Int → Int} (hf : ∀ x, f x x = x) : ∀ (a : List Int), List.zipWith f a a = a
  | [] => rfl
  | x :: a => by simp only [List.zipWith_cons_cons, zip_self hf a, hf x]

/-! ### Two tilings of a simple region -/
theorem two_cases {W T : Int} {bs : List Bool} {a b : List Int} (h : tiledB W T bs a = true) (g : tiledB W T bs b = true) : ∃ R : Reg, R.ok ∧ W = (R.W : Int) ∧ T = (R.T : Int) ∧ bs = R.C ∧ SimpleP R ∧ Tile R a ∧ Tile R b := by
  obtain ⟨R, hR, rfl, rfl, rfl, hS, h1, h2⟩ := tiled_cases h
  obtain ⟨_, h3, h4⟩ := (tiled_ok hR).1 g
  exact ⟨R, hR, rfl, rfl, rfl, hS, ⟨h1, h2⟩, h3, h4⟩
theorem tiled_tile {R : Reg} (hR : R.ok) (hS : SimpleP R) {L : List Int} (h : Tile R L) : tiledB R.W R.T R.C L = true := (tiled_ok hR).2 ⟨hS, h.1, h.2⟩
/-- The low one and the high one, by their heights. -/
theorem two_hts {f : Int → Int → Int} (hf : Keeps f) {R : Reg} (hR : R.ok) (hS : SimpleP R) {a b : List Int} (ha : Tile R a) (hb : Tile R b) :
    Tile R (twoV f R.W R.T R.C a b) ∧ htsOf R.W R.T R.C (twoV f R.W R.T R.C a b) = List.zipWith f (htsOf R.W R.T R.C a) (htsOf R.W R.T R.C b) := by
  have h1 := tiled_tile hR hS ha
  have h2 := tiled_tile hR hS hb
  have hH : HP R (List.zipWith f (htsOf R.W R.T R.C a) (htsOf R.W R.T R.C b)) := hf hR hS.1 (htsOf_hp hR h1) (htsOf_hp hR h2)
  rw [twoV_yes h1 h2]
  exact ⟨⟨lay_tilH hR hH, full_tilH hR hH⟩, htsOf_til hR hS hH⟩
theorem hts_len {R : Reg} (hR : R.ok) (hS : SimpleP R) {a : List Int} (ha : Tile R a) : (htsOf R.W R.T R.C a).length = R.cn := (hp_of_tile hR hS ha).len
/-- Below, by heights. -/
theorem below_iff {R : Reg} (hR : R.ok) (hS : SimpleP R) {a b : List Int} (ha : Tile R a) (hb : Tile R b) :
    belowB R.W R.T R.C a b = true ↔ ∀ k, k < R.cn → (htsOf R.W R.T R.C a).getD k 0 ≤ (htsOf R.W R.T R.C b).getD k 0 := by
  unfold belowB
  rw [tiled_tile hR hS ha, tiled_tile hR hS hb, Bool.true_and, Bool.true_and]
  unfold leB
  rw [List.all_eq_true, hts_len hR hS ha]
  constructor
  · intro h k hk
    exact of_decide_eq_true (h k (List.mem_range.2 hk))
  · intro h k hk
    exact decide_eq_true (h k (List.mem_range.1 hk))
theorem hts_ext {R : Reg} (hR : R.ok) (hS : SimpleP R) {a b : List Int} (ha : Tile R a) (hb : Tile R b) (h : ∀ k, k < R.cn → (htsOf R.W R.T R.C a).getD k 0 = (htsOf R.W R.T R.C b).getD k 0) : a = b := by
  refine tile_ext hR hS ha hb ?_
  have l1 := hts_len hR hS ha
  have l2 := hts_len hR hS hb
  apply List.ext_getElem (by rw [l1, l2])
  intro k h1 h2
  have := h k (by omega)
  rw [List.getD_eq_getElem?_getD, List.getD_eq_getElem?_getD, List.getElem?_eq_getElem h1, List.getElem?_eq_getElem h2] at this
  exact this
theorem two_at {f : Int → Int → Int} (hf : Keeps f) {R : Reg} (hR : R.ok) (hS : SimpleP R) {a b : List Int} (ha : Tile R a) (hb : Tile R b) {k : Nat} (hk : k < R.cn) :
    (htsOf R.W R.T R.C (twoV f R.W R.T R.C a b)).getD k 0 = f ((htsOf R.W R.T R.C a).getD k 0) ((htsOf R.W R.T R.C b).getD k 0) := by
  rw [(two_hts hf hR hS ha hb).2]
  exact zip_getD (by rw [hts_len hR hS ha]; exact hk) (by rw [hts_len hR hS hb]; exact hk)
theorem twoB_iff {W T : Int} {bs : List Bool} {a b : List Int} : twoB W T bs a b = true ↔ tiledB W T bs a = true ∧ tiledB W T bs b = true := by unfold twoB; rw [Bool.and_eq_true]
theorem twoV_mty {f : Int → Int → Int} {W T : Int} {bs : List Bool} {a b : List Int} (h : twoB W T bs a b = false) : twoV f W T bs a b = [] := by
  cases h1 : tiledB W T bs a with
  | false => exact twoV_no1 h1
  | true =>
    cases h2 : tiledB W T bs b with
    | false => exact twoV_no2 h2
    | true => rw [twoB_iff.2 ⟨h1, h2⟩] at h; cases h
/-- TilingHigh. -/
theorem law_high {W T : Int} {bs : List Bool} {a b : List Int} (h : twoB W T bs a b = true) :
    tilingB W T bs (twoV max W T bs a b) = true ∧ belowB W T bs a (twoV max W T bs a b) = true ∧ belowB W T bs b (twoV max W T bs a b) = true ∧ twoV max W T bs b a = twoV max W T bs a b ∧ twoV max W T bs a a = a := by
  obtain ⟨h1, h2⟩ := twoB_iff.1 h
  obtain ⟨R, hR, rfl, rfl, rfl, hS, ha, hb⟩ := two_cases h1 h2
  obtain ⟨t1, e1⟩ := two_hts keeps_max hR hS ha hb
  refine ⟨tiledB_tiling (tiled_tile hR hS t1), (below_iff hR hS ha t1).2 fun k hk => ?_, (below_iff hR hS hb t1).2 fun k hk => ?_, ?_, ?_⟩
  · rw [two_at keeps_max hR hS ha hb hk]; omega
  · rw [two_at keeps_max hR hS ha hb hk]; omega
  · rw [twoV_yes h1 h2, twoV_yes h2 h1, zip_comm (fun x y => by omega)]
  · rw [twoV_yes h1 h1, zip_self (fun x => by omega)]
    exact tilH_hts hR h1
/-- Below: no circle; and the low one. -/
theorem law_below {W T : Int} {bs : List Bool} {a b : List Int} :
    (belowB W T bs a b = true → belowB W T bs b a = true → a = b) ∧ (twoB W T bs a b = true → belowB W T bs a b = (twoV min W T bs a b == a)) ∧ (belowB W T bs a b = true → twoB W T bs a b = true) := by
  have key : belowB W T bs a b = true → tiledB W T bs a = true ∧ tiledB W T bs b = true := fun h => by
    unfold belowB at h
    rw [Bool.and_eq_true, Bool.and_eq_true] at h
    exact h.1
  refine ⟨fun h g => ?_, fun h => ?_, fun h => twoB_iff.2 (key h)⟩
  · obtain ⟨h1, h2⟩ := key h
    obtain ⟨R, hR, rfl, rfl, rfl, hS, ha, hb⟩ := two_cases h1 h2
    have e1 := (below_iff hR hS ha hb).1 h
    have e2 := (below_iff hR hS hb ha).1 g
    exact hts_ext hR hS ha hb fun k hk => by have := e1 k hk; have := e2 k hk; omega
  · obtain ⟨h1, h2⟩ := twoB_iff.1 h
    obtain ⟨R, hR, rfl, rfl, rfl, hS, ha, hb⟩ := two_cases h1 h2
    obtain ⟨t1, _⟩ := two_hts keeps_min hR hS ha hb
    rw [Bool.eq_iff_iff, below_iff hR hS ha hb, beq_iff_eq]
    constructor
    · intro h
      refine hts_ext hR hS t1 ha fun k hk => ?_
      rw [two_at keeps_min hR hS ha hb hk]
      have := h k hk
      omega
    · intro h k hk
      have := two_at keeps_min hR hS ha hb hk
      rw [h] at this
      omega

end Go.Proofs.Ytahpipcmgcambaa

/-
  YtahpipcmgcambaaLb: what the property laws on flips and on how far tilings are apart say, of the values. Plain Lean.
-/
namespace Go.Proofs.Ytahpipcmgcambaa

/-! ### A flip and back -/
theorem upd_back {w : Int → Int → Int} {a b n0 n1 n2 n3 m0 m1 m2 m3 : Int} (h0 : w a b = m0) (h1 : w (a + 1) b = m1) (h2 : w a (b + 1) = m2) (h3 : w (a + 1) (b + 1) = m3) (x y : Int) :
    upd (fun x y => upd w a b n0 n1 n2 n3 x y) a b m0 m1 m2 m3 x y = w x y := by
  have ha : ¬ a + 1 = a := by omega
  have hb : ¬ b + 1 = b := by omega
  unfold upd
  by_cases hy : y = b
  · subst hy
    by_cases hx : x = a
    · subst hx; simp [h0]
    · by_cases hx2 : x = a + 1
      · subst hx2; rw [if_pos rfl, if_neg ha, if_pos rfl, h1]
      · simp [hx, hx2]
  · by_cases hy2 : y = b + 1
    · subst hy2
      by_cases hx : x = a
      · subst hx; rw [if_neg hb, if_pos rfl, if_pos rfl, h2]
      · by_cases hx2 : x = a + 1
        · subst hx2; rw [if_neg hb, if_pos rfl, if_neg ha, if_pos rfl, h3]
        · simp [hx, hx2]
    · simp [hy, hy2]
theorem set4_ways {R : Reg} (hR : R.ok) {L : List Int} (hL : L.length = R.C.length) {a b : Nat} (ha : a + 1 < R.W) (hb : b + 1 < R.T) (n0 n1 n2 n3 : Int) :
    R.way (set4 R L (b * R.W + a) n0 n1 n2 n3) a b = n0 ∧ R.way (set4 R L (b * R.W + a) n0 n1 n2 n3) ((a : Int) + 1) b = n1 ∧ R.way (set4 R L (b * R.W + a) n0 n1 n2 n3) a ((b : Int) + 1) = n2 := by
  refine ⟨?_, ?_, ?_⟩ <;> rw [way_set4 hR hL ha hb] <;> unfold upd <;> simp
  all_goals omega
theorem flV_back {R : Reg} (hR : R.ok) {L : List Int} (hL : Lay R L) {k : Int} (h : flB R L k = true) :
    flB R (flV R L k) k = true ∧ flV R (flV R L k) k = L ∧ fl1 R (flV R L k) k = fl2 R L k ∧ fl2 R (flV R L k) k = fl1 R L k := by
  obtain ⟨a, b, ha, hb, rfl, hc⟩ := fl_cases h
  have hLy := lay_flV hR hL (R.ci (a + 1) (b + 1) : Nat)
  have hback : ∀ m0 m1 m2 m3 n0 n1 n2 n3 : Int, R.way L a b = m0 → R.way L ((a : Int) + 1) b = m1 → R.way L a ((b : Int) + 1) = m2 → R.way L ((a : Int) + 1) ((b : Int) + 1) = m3 →
      ∀ x y, R.way (set4 R (set4 R L (b * R.W + a) n0 n1 n2 n3) (b * R.W + a) m0 m1 m2 m3) x y = R.way L x y := by
    intro m0 m1 m2 m3 n0 n1 n2 n3 h0 h1 h2 h3 x y
    rw [way_set4 hR (by rw [set4_len]; exact hL.len) ha hb]
    have e : (fun x y => R.way (set4 R L (b * R.W + a) n0 n1 n2 n3) x y) = fun x y => upd (fun x y => R.way L x y) a b n0 n1 n2 n3 x y := by
      funext x y
      exact way_set4 hR hL.len ha hb n0 n1 n2 n3 x y
    have := upd_back (w := fun x y => R.way L x y) (n0 := n0) (n1 := n1) (n2 := n2) (n3 := n3) h0 h1 h2 h3 x y
    rw [← e] at this
    exact this
  rcases hc with ⟨h1, h2⟩ | ⟨h1, h2⟩
  · obtain ⟨w0, w1, w2, w3⟩ := flat_four hL h1
    rw [h2] at hLy ⊢
    obtain ⟨v0, v1, v2⟩ := set4_ways hR hL.len ha hb 2 2 4 4
    have f2 : fl2 R (set4 R L (b * R.W + a) 2 2 4 4) (R.ci (a + 1) (b + 1) : Nat) = true := (fl2_at ha hb).2 ⟨v0, v1⟩
    have f1 : fl1 R (set4 R L (b * R.W + a) 2 2 4 4) (R.ci (a + 1) (b + 1) : Nat) = false := by
      rw [Bool.eq_false_iff]
      intro hf
      have := ((fl1_at ha hb).1 hf).1
      omega
    have g1 : fl1 R L (R.ci (a + 1) (b + 1) : Nat) = true := (fl1_at ha hb).2 h1
    have g2 := fl12 g1
    refine ⟨by unfold flB; rw [f2, Bool.or_true], ?_, by rw [f1, g2], by rw [f2, g1]⟩
    have hv : flV R (set4 R L (b * R.W + a) 2 2 4 4) (R.ci (a + 1) (b + 1) : Nat) = set4 R (set4 R L (b * R.W + a) 2 2 4 4) (b * R.W + a) 1 3 1 3 := by
      unfold flV
      rw [if_neg (by rw [f1]; decide), if_pos f2, Int.toNat_natCast, (ab_ins ha hb).2]
    have hL2 := lay_flV hR hLy (R.ci (a + 1) (b + 1) : Nat)
    rw [hv] at hL2 ⊢
    exact lay_ext hR hL2 hL fun x y _ => hback _ _ _ _ _ _ _ _ w0 w1 w2 w3 x y
  · obtain ⟨w0, w1, w2, w3⟩ := upr_four hL h1
    rw [h2] at hLy ⊢
    obtain ⟨v0, v1, v2⟩ := set4_ways hR hL.len ha hb 1 3 1 3
    have f1 : fl1 R (set4 R L (b * R.W + a) 1 3 1 3) (R.ci (a + 1) (b + 1) : Nat) = true := (fl1_at ha hb).2 ⟨v0, v2⟩
    have f2 := fl12 f1
    have g2 : fl2 R L (R.ci (a + 1) (b + 1) : Nat) = true := (fl2_at ha hb).2 h1
    have g1 : fl1 R L (R.ci (a + 1) (b + 1) : Nat) = false := by
      rw [Bool.eq_false_iff]
      intro hf
      have := ((fl1_at ha hb).1 hf).1
      omega
    refine ⟨by unfold flB; rw [f1, Bool.true_or], ?_, by rw [f1, g2], by rw [f2, g1]⟩
    have hv : flV R (set4 R L (b * R.W + a) 1 3 1 3) (R.ci (a + 1) (b + 1) : Nat) = set4 R (set4 R L (b * R.W + a) 1 3 1 3) (b * R.W + a) 2 2 4 4 := by
      unfold flV
      rw [if_pos f1, Int.toNat_natCast, (ab_ins ha hb).2]
    have hL2 := lay_flV hR hLy (R.ci (a + 1) (b + 1) : Nat)
    rw [hv] at hL2 ⊢
    exact lay_ext hR hL2 hL fun x y _ => hback _ _ _ _ _ _ _ _ w0 w1 w2 w3 x y
theorem rsV_back {R : Reg} (hR : R.ok) {L : List Int} (hL : Lay R L) {k : Nat} (h : flB R L (k : Int) = true) : rsV R (flV R L (k : Int)) k = - rsV R L k := by
  obtain ⟨_, _, e1, e2⟩ := flV_back hR hL h
  unfold rsV
  rw [e1, e2]
  cases h1 : fl1 R L (k : Int) with
  | true => rw [fl12 h1]; simp; omega
  | false =>
    unfold flB at h
    rw [h1, Bool.false_or] at h
    rw [h]
    simp only [if_true, Bool.false_eq_true, if_false]
    omega

/-! ### Sums of differences -/
theorem dif_comm (x y : Int) : dif x y = dif y x := by unfold dif; omega
theorem dif_self (x : Int) : dif x x = 0 := by unfold dif; omega
theorem sum_dif_min : ∀ (X Y : List Int), (List.zipWith dif X Y).sum = (List.zipWith dif X (List.zipWith min X Y)).sum + (List.zipWith dif (List.zipWith min X Y) Y).sum
  | [], _ => by simp
  | _ :: _, [] => by simp
  | x :: X, y :: Y => by
    have ih := sum_dif_min X Y
    simp only [List.zipWith_cons_cons, List.sum_cons]
    rw [ih]
    unfold dif
    omega
theorem sum_dif_tri : ∀ (X Y Z : List Int), X.length = Z.length → Y.length = Z.length → (List.zipWith dif X Y).sum ≤ (List.zipWith dif X Z).sum + (List.zipWith dif Z Y).sum
  | [], _, _, _, _ => by
    rename_i Y Z h g
    cases Z with
    | nil => simp
    | cons z Z => simp at h
  | _ :: _, [], Z, _, g => by
    cases Z with
    | nil => simp
    | cons z Z => simp at g
  | _ :: _, _ :: _, [], h, _ => by simp at h
  | x :: X, y :: Y, z :: Z, h, g => by
    have ih := sum_dif_tri X Y Z (by simpa using h) (by simpa using g)
    simp only [List.zipWith_cons_cons, List.sum_cons]
    have : dif x y ≤ dif x z + dif z y := by unfold dif; omega
    omega
theorem sum_mod4 : ∀ (X : List Int), (∀ k, k < X.length → X.getD k 0 % 4 = 0) → X.sum % 4 = 0
  | [], _ => rfl
  | x :: X, h => by
    have ih := sum_mod4 X fun k hk => by have := h (k + 1) (by simpa using hk); simpa using this
    have h0 := h 0 (by simp)
    simp only [List.getD_cons_zero] at h0
    rw [List.sum_cons]
    omega
theorem dsum_mod {R : Reg} (hR : R.ok) (hS : SimpleP R) {M N : List Int} (h : Tile R M) (g : Tile R N) : dsum R N M % 4 = 0 := by
  unfold dsum
  refine sum_mod4 _ fun k hk => ?_
  have l1 := hts_len hR hS h
  have l2 := hts_len hR hS g
  rw [List.length_zipWith, l1, l2, Nat.min_self] at hk
  rw [zip_getD (by rw [l1]; exact hk) (by rw [l2]; exact hk)]
  have := getD_mod hR hS h g hk
  unfold dif
  omega
theorem apartV_tile {R : Reg} (hR : R.ok) (hS : SimpleP R) {a b : List Int} (ha : Tile R a) (hb : Tile R b) : apartV R.W R.T R.C a b = dsum R b a / 4 := by
  unfold apartV
  rw [tiled_tile hR hS ha, tiled_tile hR hS hb]
  rfl
theorem apartV_no {W T : Int} {bs : List Bool} {a b : List Int} (h : twoB W T bs a b = false) : apartV W T bs a b = -1 := by
  unfold apartV
  unfold twoB at h
  rw [h]; rfl
/-- Apart: both ways; over the low one; 0 for equal ones alone; and over a third one. -/
theorem law_apart {W T : Int} {bs : List Bool} {a b : List Int} (h : twoB W T bs a b = true) :
    0 ≤ apartV W T bs a b ∧ apartV W T bs b a = apartV W T bs a b ∧ apartV W T bs a (twoV min W T bs a b) + apartV W T bs (twoV min W T bs a b) b = apartV W T bs a b ∧
    (apartV W T bs a b = 0 ↔ a = b) ∧ (∀ c, tiledB W T bs c = true → apartV W T bs a b ≤ apartV W T bs a c + apartV W T bs c b) ∧ apartV W T bs a b ≤ 1838 ∧
    (∀ c, tiledB W T bs c = true → 0 ≤ apartV W T bs a c ∧ apartV W T bs a c ≤ 1838 ∧ 0 ≤ apartV W T bs c b ∧ apartV W T bs c b ≤ 1838) := by
  obtain ⟨h1, h2⟩ := twoB_iff.1 h
  obtain ⟨R, hR, rfl, rfl, rfl, hS, ha, hb⟩ := two_cases h1 h2
  obtain ⟨t1, e1⟩ := two_hts keeps_min hR hS ha hb
  have hbd := dsum_bd hR hS ha hb
  have hm := dsum_mod hR hS ha hb
  rw [apartV_tile hR hS ha hb, apartV_tile hR hS hb ha, apartV_tile hR hS ha t1, apartV_tile hR hS t1 hb]
  refine ⟨by omega, ?_, ?_, ?_, fun c hc => ?_, by omega, fun c hc => ?_⟩
  · unfold dsum; rw [zip_comm dif_comm]
  · have hs := sum_dif_min (htsOf R.W R.T R.C a) (htsOf R.W R.T R.C b)
    rw [← e1] at hs
    have m1 := dsum_mod hR hS ha t1
    have m2 := dsum_mod hR hS t1 hb
    have hs' : dsum R b a = dsum R (twoV min R.W R.T R.C a b) a + dsum R b (twoV min R.W R.T R.C a b) := hs
    omega
  · have := dsum_pos hR hS ha hb
    constructor
    · intro h0
      exact Classical.byContradiction fun hne => by have := this.2 hne; omega
    · rintro rfl
      have hz : ¬ 0 < dsum R a a / 4 := fun h => (dsum_pos hR hS ha ha).1 h rfl
      omega
  · obtain ⟨_, hc1, hc2⟩ := (tiled_ok hR).1 hc
    have tc : Tile R c := ⟨hc1, hc2⟩
    rw [apartV_tile hR hS ha tc, apartV_tile hR hS tc hb]
    have hs : dsum R b a ≤ dsum R c a + dsum R b c := sum_dif_tri _ _ _ (by rw [hts_len hR hS ha, hts_len hR hS tc]) (by rw [hts_len hR hS hb, hts_len hR hS tc])
    have m1 := dsum_mod hR hS ha tc
    have m2 := dsum_mod hR hS tc hb
    omega
  · obtain ⟨_, hc1, hc2⟩ := (tiled_ok hR).1 hc
    have tc : Tile R c := ⟨hc1, hc2⟩
    rw [apartV_tile hR hS ha tc, apartV_tile hR hS tc hb]
    have b1 := dsum_bd hR hS ha tc
    have b2 := dsum_bd hR hS tc hb
    omega
/-- FlipRise. -/
theorem frV_tile {R : Reg} (hR : R.ok) (hS : SimpleP R) {L : List Int} (h : Tile R L) (k : Int) : frV R.W R.T R.C L k = rsZ R L k := frV_yes (tiled_tile hR hS h)
theorem law_rise {R : Reg} (hR : R.ok) (hS : SimpleP R) {L : List Int} (h : Tile R L) {k : Int} (hn : rsZ R L k ≠ 0) :
    ∃ m : Nat, k = (m : Int) ∧ m < R.cn ∧ flB R L k = true ∧ (rsZ R L k = 4 ∨ rsZ R L k = -4) ∧ Tile R (flV R L k) ∧
    htsOf R.W R.T R.C (flV R L k) = (htsOf R.W R.T R.C L).set m ((htsOf R.W R.T R.C L).getD m 0 + rsZ R L k) ∧
    frV R.W R.T R.C (flV R L k) k = - rsZ R L k ∧ apartV R.W R.T R.C L (flV R L k) = 1 := by
  have hfb : flB R L k = true := by
    cases hb : flB R L k with
    | true => rfl
    | false => exact absurd (rsZ_no hb) hn
  obtain ⟨m, rfl, hm, he⟩ := flB_nat hfb
  have ht := tile_flV hR h (m : Int)
  have hr := rsV_or hfb
  refine ⟨m, rfl, hm, hfb, by rw [he]; exact hr, ht, by rw [he]; exact hts_step hR hS h hfb, ?_, ?_⟩
  · rw [frV_tile hR hS ht, rsZ_nat, he, rsV_back hR h.1 hfb]
  · rw [apartV_tile hR hS h ht]
    have hl := hts_len hR hS h
    have hp : wyP R (flV R L (m : Int)) L m = true := by
      unfold wyP
      rw [he, hts_step hR hS h hfb]
      have hg : ((htsOf R.W R.T R.C L).set m ((htsOf R.W R.T R.C L).getD m 0 + rsV R L m)).getD m 0 = (htsOf R.W R.T R.C L).getD m 0 + rsV R L m := by
        rw [List.getD_eq_getElem?_getD, List.getElem?_set_self (by rw [hl]; exact hm)]; rfl
      rw [hg]
      rcases hr with hr | hr <;> rw [hr] <;> simp <;> omega
    have h1 := dsum_step hR hS h ht hm hfb hp
    have h2 : dsum R (flV R L (m : Int)) (flV R L (m : Int)) = 0 := by
      unfold dsum
      have : ∀ X : List Int, (List.zipWith dif X X).sum = 0 := fun X => by
        induction X with
        | nil => rfl
        | cons x X ih => simp only [List.zipWith_cons_cons, List.sum_cons, ih, dif_self]; rfl
      exact this _
    omega

end Go.Proofs.Ytahpipcmgcambaa

/-
  YtahpipcmgcambaaLc: how many cells a flip changes, and how many flat dominoes. Plain Lean.
-/
namespace Go.Proofs.Ytahpipcmgcambaa

theorem countP_range_upd {p q : Nat → Bool} {k : Nat} (h1 : ∀ j, j ≠ k → q j = p j) (hp : p k = false) (hq : q k = true) : ∀ n, k < n → (List.range n).countP q = (List.range n).countP p + 1
  | 0, h => by omega
  | n + 1, h => by
    rw [List.range_succ, List.countP_append, List.countP_append]
    by_cases hkn : k = n
    · subst hkn
      have hsame : (List.range k).countP q = (List.range k).countP p := by
        apply List.countP_congr
        intro j hj
        rw [h1 j (by have := List.mem_range.1 hj; omega)]
      rw [hsame]
      simp [hp, hq]
    · have := countP_range_upd h1 hp hq n (by omega)
      rw [this]
      simp [h1 n (by omega)]
      omega
/-- How many entries below n differ. -/
def chg (X L : List Int) (n : Nat) : Nat := (List.range n).countP fun j => X.getD j 0 != L.getD j 0
theorem chg_succ (X L : List Int) (n : Nat) : chg X L (n + 1) = chg X L n + (if (X.getD n 0 != L.getD n 0) = true then 1 else 0) := by
  unfold chg
  rw [List.range_succ, List.countP_append, List.countP_cons, List.countP_nil, Nat.zero_add]
theorem chg_le (X L : List Int) (n : Nat) : chg X L n ≤ n := by
  have := List.countP_le_length (p := fun j => X.getD j 0 != L.getD j 0) (l := List.range n)
  simpa [chg] using this
theorem chg_self (L : List Int) (n : Nat) : chg L L n = 0 := by
  unfold chg
  rw [List.countP_eq_zero]
  intro j _
  simp
theorem getD_set_ne {X : List Int} {k j : Nat} {v : Int} (h : j ≠ k) : (X.set k v).getD j 0 = X.getD j 0 := by
  rw [List.getD_eq_getElem?_getD, List.getD_eq_getElem?_getD, List.getElem?_set_ne (Ne.symm h)]
theorem getD_set_eq {X : List Int} {k : Nat} {v : Int} (h : k < X.length) : (X.set k v).getD k 0 = v := by
  rw [List.getD_eq_getElem?_getD, List.getElem?_set_self h]; rfl
theorem chg_set {X L : List Int} {n k : Nat} {v : Int} (hk : k < n) (hX : k < X.length) (h1 : X.getD k 0 = L.getD k 0) (h2 : v ≠ L.getD k 0) : chg (X.set k v) L n = chg X L n + 1 := by
  unfold chg
  refine countP_range_upd (k := k) (fun j hj => by rw [getD_set_ne hj]) (by rw [h1]; simp) ?_ n hk
  rw [getD_set_eq hX]
  simpa using h2
/-- How many of the first n entries are 1. -/
def ones (X : List Int) (n : Nat) : Nat := (List.range n).countP fun j => X.getD j 0 == 1
theorem ones_succ (X : List Int) (n : Nat) : ones X (n + 1) = ones X n + (if (X.getD n 0 == 1) = true then 1 else 0) := by
  unfold ones
  rw [List.range_succ, List.countP_append, List.countP_cons, List.countP_nil, Nat.zero_add]
theorem ones_le (X : List Int) (n : Nat) : ones X n ≤ n := by
  have := List.countP_le_length (p := fun j => X.getD j 0 == 1) (l := List.range n)
  simpa [ones] using this
theorem ones_keep {X : List Int} {n k : Nat} {v : Int} (hX : k < X.length) (h1 : X.getD k 0 ≠ 1) (h2 : v ≠ 1) : ones (X.set k v) n = ones X n := by
  unfold ones
  apply List.countP_congr
  intro j _
  by_cases hj : j = k
  · subst hj
    rw [getD_set_eq hX, beq_eq_false_iff_ne.2 h2, beq_eq_false_iff_ne.2 h1]
  · rw [getD_set_ne hj]
theorem ones_up {X : List Int} {n k : Nat} (hk : k < n) (hX : k < X.length) (h1 : X.getD k 0 ≠ 1) : ones (X.set k 1) n = ones X n + 1 := by
  unfold ones
  exact countP_range_upd (k := k) (fun j hj => by rw [getD_set_ne hj]) (by simpa using h1) (by rw [getD_set_eq hX]; rfl) n hk
theorem ones_dn {X : List Int} {n k : Nat} {v : Int} (hk : k < n) (hX : k < X.length) (h1 : X.getD k 0 = 1) (h2 : v ≠ 1) : ones X n = ones (X.set k v) n + 1 := by
  unfold ones
  exact countP_range_upd (k := k) (fun j hj => by rw [getD_set_ne hj]) (by rw [getD_set_eq hX]; simpa using h2) (by rw [h1]; rfl) n hk

theorem chg_four {L : List Int} {n s s1 s2 s3 : Nat} {n0 n1 n2 n3 : Int} (hn : L.length = n) (hs : s < s1 ∧ s1 < s2 ∧ s2 < s3 ∧ s3 < n) (h0 : n0 ≠ L.getD s 0) (h1 : n1 ≠ L.getD s1 0) (h2 : n2 ≠ L.getD s2 0) (h3 : n3 ≠ L.getD s3 0) :
    chg ((((L.set s n0).set s1 n1).set s2 n2).set s3 n3) L n = 4 := by
  rw [chg_set (by omega) (by simp; omega) (by rw [getD_set_ne (by omega), getD_set_ne (by omega), getD_set_ne (by omega)]) h3,
    chg_set (by omega) (by simp; omega) (by rw [getD_set_ne (by omega), getD_set_ne (by omega)]) h2,
    chg_set (by omega) (by simp; omega) (by rw [getD_set_ne (by omega)]) h1,
    chg_set (by omega) (by omega) rfl h0, chg_self]
/-- A flip changes four cells, and turns two dominoes. -/
theorem law_flip {R : Reg} (hR : R.ok) {L : List Int} (hL : Lay R L) {k : Int} (h : flB R L k = true) :
    chg (flV R L k) L R.C.length = 4 ∧ ((ones (flV R L k) R.C.length : Int) - ones L R.C.length = 2 ∨ (ones (flV R L k) R.C.length : Int) - ones L R.C.length = -2) := by
  obtain ⟨a, b, ha, hb, rfl, hc⟩ := fl_cases h
  have hn : L.length = R.C.length := hL.len
  have hlt : b * R.W + a + R.W + 1 < R.C.length := by
    have h5 : R.C.length = R.W * R.T := hR.2.2.2.2.1
    have h6 : R.W * (b + 2) ≤ R.W * R.T := Nat.mul_le_mul_left _ (by omega)
    have h7 : R.W * (b + 2) = b * R.W + 2 * R.W := by rw [Nat.mul_add, Nat.mul_comm, Nat.mul_comm R.W 2]
    omega
  obtain ⟨v0, v1, v2⟩ := ways4 (L := L) ha hb
  have v3 : L.getD (b * R.W + a + R.W + 1) 0 = R.way L ((a : Int) + 1) ((b : Int) + 1) := by
    rw [show (a : Int) + 1 = ((a + 1 : Nat) : Int) by omega, show (b : Int) + 1 = ((b + 1 : Nat) : Int) by omega, way_in ha hb, Nat.add_mul]
    congr 1; omega
  rcases hc with ⟨h1, h2⟩ | ⟨h1, h2⟩
  · obtain ⟨w0, w1, w2, w3⟩ := flat_four hL h1
    rw [w0] at v0
    rw [w1] at v1
    rw [w2] at v2
    rw [w3] at v3
    rw [h2]
    unfold set4
    refine ⟨chg_four hn (by omega) (by rw [v0]; decide) (by rw [v1]; decide) (by rw [v2]; decide) (by rw [v3]; decide), .inr ?_⟩
    have e1 := ones_dn (X := L) (n := R.C.length) (k := b * R.W + a) (v := 2) (by omega) (by omega) v0 (by decide)
    have e2 := ones_keep (X := L.set (b * R.W + a) 2) (n := R.C.length) (k := b * R.W + a + 1) (v := 2) (by simp; omega) (by rw [getD_set_ne (by omega), v1]; decide) (by decide)
    have e3 := ones_dn (X := (L.set (b * R.W + a) 2).set (b * R.W + a + 1) 2) (n := R.C.length) (k := b * R.W + a + R.W) (v := 4) (by omega) (by simp; omega) (by rw [getD_set_ne (by omega), getD_set_ne (by omega)]; exact v2) (by decide)
    have e4 := ones_keep (X := ((L.set (b * R.W + a) 2).set (b * R.W + a + 1) 2).set (b * R.W + a + R.W) 4) (n := R.C.length) (k := b * R.W + a + R.W + 1) (v := 4) (by simp; omega) (by rw [getD_set_ne (by omega), getD_set_ne (by omega), getD_set_ne (by omega), v3]; decide) (by decide)
    omega
  · obtain ⟨w0, w1, w2, w3⟩ := upr_four hL h1
    rw [w0] at v0
    rw [w1] at v1
    rw [w2] at v2
    rw [w3] at v3
    rw [h2]
    unfold set4
    refine ⟨chg_four hn (by omega) (by rw [v0]; decide) (by rw [v1]; decide) (by rw [v2]; decide) (by rw [v3]; decide), .inl ?_⟩
    have e1 := ones_up (X := L) (n := R.C.length) (k := b * R.W + a) (by omega) (by omega) (by rw [v0]; decide)
    have e2 := ones_keep (X := L.set (b * R.W + a) 1) (n := R.C.length) (k := b * R.W + a + 1) (v := 3) (by simp; omega) (by rw [getD_set_ne (by omega), v1]; decide) (by decide)
    have e3 := ones_up (X := (L.set (b * R.W + a) 1).set (b * R.W + a + 1) 3) (n := R.C.length) (k := b * R.W + a + R.W) (by omega) (by simp; omega) (by rw [getD_set_ne (by omega), getD_set_ne (by omega), v2]; decide)
    have e4 := ones_keep (X := ((L.set (b * R.W + a) 1).set (b * R.W + a + 1) 3).set (b * R.W + a + R.W) 1) (n := R.C.length) (k := b * R.W + a + R.W + 1) (v := 3) (by simp; omega) (by rw [getD_set_ne (by omega), getD_set_ne (by omega), getD_set_ne (by omega), v3]; decide) (by decide)
    omega

end Go.Proofs.Ytahpipcmgcambaa

/-
  YtahpipcmgcambaaWy: FlatMany of the program.
-/
namespace Go.Proofs.Ytahpipcmgcambaa
open Go.RowKit

set_option maxHeartbeats 1000000 in
theorem ways1_any (L : List Int) (D : Option Addr) (m d b cc : Nat) (w : World) (hL : L.length = m) (hd : Reads w b 1 D m (L.map (Value.int .i64))) (hb : b ≤ w.heap.size) (hm : m ≤ 1048576) (hk : w.cell? ⟨b, 0, none⟩ = some (.int .i64 1)) :
    Calls Try.prog 100 #[.slice D m d, .slice (some ⟨b, 0, none⟩) 1 cc] w fun e w' => e = .returned (.int .i64 (ones L m : Nat)) ∧ Below w.heap.size w w' := by
  have HL := Lib.hid hL
  clear hL
  have hCT := fun x => hide (slices_Contains_int b 0 1 cc [1] x w (by simp) (by omega) (fun j hj => by simp at hj; subst hj; simpa using hk))
  have HLG := fun k (hk : k < m) => hd.getI hk
  clear hd hk
  go_enter Try.func100, Try.ntmps100
  go_wp2_with fail
  go_loopg [5, 10] m (fun r s5 s10 wr => ∃ k x : Nat, k + r = m ∧ s10 = .int .i64 (k : Nat) ∧ s5 = .int .i64 (x : Nat) ∧ Hid (x = ones L k) ∧ wr = w)
  case atStart => exact ⟨0, 0, by omega, rfl, rfl, Lib.hid (by simp [ones]), rfl⟩
  case round =>
    obtain ⟨k, x, hk, rfl, rfl, HX, rfl⟩ := hrel
    have HK := Lib.hid hk
    clear hk
    by_cases hlt : k < m
    · obtain ⟨ad, rfl, _, hc⟩ := HLG k hlt
      have hxl := ones_le L k
      rw [← HX.out] at hxl
      have hs := ones_succ L k
      rw [← HX.out] at hs
      have HS := Lib.hid hs
      clear hs
      generalize L.getD k 0 = z at *
      have hwr : IntKind.i64.wrap ((x : Int) + 1) = (x : Int) + 1 := IntWalk.i64_in _ (by omega)
      go_wp2_with fail
      refine (unhide (hCT z)).mono ?_
      rintro e w2 ⟨rfl, hw2⟩
      subst hw2
      have hcn : (([1] : List Int).take 1).contains z = (z == 1) := by rw [Bool.eq_iff_iff]; simp
      rw [hcn]
      cases hz : (z == 1) with
      | true =>
        rw [hz, if_pos rfl] at HS
        clear hcn hCT
        go_wp2_with fail
        go_roundg (m - (k + 1))
        case measure => have := HK.out; omega
        case rel => exact ⟨k + 1, x + 1, by have := HK.out; omega, by go_num, by go_num, Lib.hid HS.out.symm, rfl⟩
      | false =>
        rw [hz, if_neg (by simp)] at HS
        clear hcn hCT
        go_wp2_with fail
        go_roundg (m - (k + 1))
        case measure => have := HK.out; omega
        case rel => exact ⟨k + 1, x, by have := HK.out; omega, by go_num, rfl, Lib.hid (by rw [HS.out]; rfl), rfl⟩
    · obtain rfl : k = m := by have := HK.out; omega
      clear hCT HLG
      go_wp2_with fail
      go_ret
      exact ⟨by rw [← HX.out]; rfl, Below.refl _ _⟩

/-- FlatMany of the program. -/
def fmV (W T : Int) (bs : List Bool) (L : List Int) : Int := if laidB W T bs L = true then ((ones L L.length : Nat) : Int) else -1
set_option maxHeartbeats 1000000 in
theorem flatManyI_any (W T : Int) (A : Option Addr) (n c B : Nat) (bs : List Bool) (L : List Int) (D : Option Addr) (m d : Nat) (w : World) (hbl : bs.length = n) (hL : L.length = m)
    (hr : Reads w B 1 A n (bs.map Value.bool)) (hd : Reads w B 1 D m (L.map (Value.int .i64))) (hB : B ≤ w.heap.size) (hn : n ≤ 9223372036854775807) (hm : m ≤ 1048576) :
    Calls Try.prog 47 #[.agg #[.int .i64 W, .int .i64 T, .slice A n c], .slice D m d] w fun e w' => e = .returned (.int .i64 (fmV W T bs L)) ∧ Below w.heap.size w w' := by
  have hLO := hide (laidOkI_any W T A n c B bs L D m d (w.alloc (boxR W T A n c)) hbl hL (hr.alloc hB _) (hd.alloc hB _) (by simp; omega) hn (by omega))
  have hb0 : Below w.heap.size w (w.alloc (boxR W T A n c)) := (Below.refl _ _).alloc (Nat.le_refl _) _
  have hWY := fun w' (h : Below w.heap.size w w') (cc : Nat) => hide (ways1_any L D m d w'.heap.size cc (w'.alloc (.cells #[.int .i64 1] 3)) hL (((hd.below (h.mono hB)).more (Nat.le_trans hB h.size)).alloc (Nat.le_refl _) _) (by simp) hm ((Blk.new w' 3 #[.int .i64 1]).cell 0))
  have hv : fmV W T bs L = if laidB W T bs L = true then ((ones L m : Nat) : Int) else -1 := by unfold fmV; rw [hL]
  obtain ⟨v, hv2⟩ : ∃ v, v = fmV W T bs L := ⟨_, rfl⟩
  rw [← hv2] at hv ⊢
  have HV := Lib.hid hv
  clear hv hv2 hL
  obtain ⟨o, ho⟩ : ∃ o, ones L m = o := ⟨_, rfl⟩
  rw [ho] at HV hWY
  clear ho
  cases hlb : laidB W T bs L with
  | false =>
    rw [hlb] at hLO HV
    go_enter Try.func47, Try.ntmps47
    go_wp2_with fail
    refine (unhide hLO).mono ?_
    rintro e w1 ⟨rfl, hb1⟩
    go_wp2_with fail
    go_ret
    exact ⟨by rw [HV.out]; rfl, hb0.trans (hb1.mono hb0.size)⟩
  | true =>
    rw [hlb] at hLO HV
    go_enter Try.func47, Try.ntmps47
    go_wp2_with fail
    refine (unhide hLO).mono ?_
    rintro e w1 ⟨rfl, hb1⟩
    have hB1 := hb0.trans (hb1.mono hb0.size)
    go_wp2_with fail
    refine (unhide (hWY w1 hB1 _)).mono ?_
    rintro e w2 ⟨rfl, hb2⟩
    go_wp2_with fail
    go_ret
    have hB2 := hB1.alloc hB1.size (.cells #[.int .i64 1] 3)
    exact ⟨by rw [HV.out]; rfl, hB2.trans (hb2.mono hB2.size)⟩

end Go.Proofs.Ytahpipcmgcambaa
