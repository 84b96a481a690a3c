/-
  YthepfpiphlfgnaaQ4: flips keep tilings; a flip changes one height by 4. Plain Lean.
-/
import Derived.Test.YthepfpiphlfgnaaFl
namespace Go.Proofs.Ythepfpiphlfgnaa

/-- Four values changed. -/
def upd (w : Int → Int → Int) (a b n0 n1 n2 n3 x y : Int) : Int :=
  if y = b then (if x = a then n0 else if x = a + 1 then n1 else w x y) else if y = b + 1 then (if x = a then n2 else if x = a + 1 then n3 else w x y) else w x y

theorem way_set4 {R : Reg} (hR : R.ok) {L : List Int} (hL : L.length = R.C.length) {a b : Nat} (ha : a + 1 < R.W) (hb : b + 1 < R.T) (n0 n1 n2 n3 x y : Int) :
    R.way (set4 R L (b * R.W + a) n0 n1 n2 n3) x y = upd (R.way L) a b n0 n1 n2 n3 x y := by
  by_cases hin : 0 ≤ x ∧ x < R.W ∧ 0 ≤ y ∧ y < R.T
  · obtain ⟨p, rfl⟩ := Int.eq_ofNat_of_zero_le hin.1
    obtain ⟨q, rfl⟩ := Int.eq_ofNat_of_zero_le hin.2.2.1
    have hp : p < R.W := by omega
    have hq : q < R.T := by omega
    have i0 := idx_lt hR (x := a) (y := b) (by omega) (by omega)
    have i1 := idx_lt hR (x := a + 1) (y := b) (by omega) (by omega)
    have i2 := idx_lt hR (x := a) (y := b + 1) (by omega) (by omega)
    have i3 := idx_lt hR (x := a + 1) (y := b + 1) (by omega) (by omega)
    have hm : (b + 1) * R.W = b * R.W + R.W := by rw [Nat.add_mul, Nat.one_mul]
    rw [hm] at i2 i3
    have g : (set4 R L (b * R.W + a) n0 n1 n2 n3).getD (q * R.W + p) 0 = if b * R.W + a + R.W + 1 = q * R.W + p then n3 else if b * R.W + a + R.W = q * R.W + p then n2 else if b * R.W + a + 1 = q * R.W + p then n1 else if b * R.W + a = q * R.W + p then n0 else L.getD (q * R.W + p) 0 := by
      unfold set4
      rw [getD_set (by simp; omega), getD_set (by simp; omega), getD_set (by simp; omega), getD_set (by omega)]
    rw [way_in hp hq, g]
    unfold upd
    rw [way_in hp hq]
    have d0 := mk_div q hp
    have d1 := mk_div (x := a) b (show a < R.W by omega)
    have d2 := mk_div (x := a + 1) b ha
    have d3 := mk_div (x := a) (b + 1) (show a < R.W by omega)
    have d4 := mk_div (x := a + 1) (b + 1) ha
    rw [hm] at d3 d4
    by_cases h1 : q = b
    · subst h1
      rw [if_pos rfl, if_neg (by omega), if_neg (by omega)]
      by_cases h2 : p = a
      · subst h2; rw [if_neg (by omega), if_pos rfl, if_pos rfl]
      · rw [if_neg (show ¬ ((p : Int) = (a : Int)) by omega)]
        by_cases h3 : p = a + 1
        · subst h3; rw [if_pos (by omega), if_pos (by omega)]
        · rw [if_neg (by omega), if_neg (by omega), if_neg (by omega)]
    · rw [if_neg (show ¬ ((q : Int) = (b : Int)) by omega)]
      have e1 : ¬ (b * R.W + a + 1 = q * R.W + p) := by
        intro h
        rw [← h, show b * R.W + a + 1 = b * R.W + (a + 1) by omega, d2] at d0
        exact h1 d0.symm
      have e0 : ¬ (b * R.W + a = q * R.W + p) := by
        intro h
        rw [← h, d1] at d0
        exact h1 d0.symm
      by_cases h2 : q = b + 1
      · subst h2
        have t1 : ((b + 1 : Nat) : Int) = (b : Int) + 1 := by omega
        rw [hm] at e0 e1 ⊢
        by_cases h3 : p = a
        · have t2 : ¬ (b * R.W + a + R.W + 1 = b * R.W + R.W + p) := by omega
          have t3 : b * R.W + a + R.W = b * R.W + R.W + p := by omega
          have t4 : (p : Int) = (a : Int) := by omega
          simp only [if_pos t1, if_neg t2, if_pos t3, if_pos t4]
        · have t4 : ¬ ((p : Int) = (a : Int)) := by omega
          by_cases h4 : p = a + 1
          · have t2 : b * R.W + a + R.W + 1 = b * R.W + R.W + p := by omega
            have t5 : (p : Int) = (a : Int) + 1 := by omega
            simp only [if_pos t1, if_pos t2, if_neg t4, if_pos t5]
          · have t2 : ¬ (b * R.W + a + R.W + 1 = b * R.W + R.W + p) := by omega
            have t3 : ¬ (b * R.W + a + R.W = b * R.W + R.W + p) := by omega
            have t5 : ¬ ((p : Int) = (a : Int) + 1) := by omega
            simp only [if_pos t1, if_neg t2, if_neg t3, if_neg e0, if_neg e1, if_neg t4, if_neg t5]
      · rw [if_neg (show ¬ ((q : Int) = (b : Int) + 1) by omega)]
        have e3 : ¬ (b * R.W + a + R.W + 1 = q * R.W + p) := by
          intro h
          rw [← h, show b * R.W + a + R.W + 1 = b * R.W + R.W + (a + 1) by omega, d4] at d0
          exact h2 d0.symm
        have e2 : ¬ (b * R.W + a + R.W = q * R.W + p) := by
          intro h
          rw [← h, show b * R.W + a + R.W = b * R.W + R.W + a by omega, d3] at d0
          exact h2 d0.symm
        rw [if_neg e3, if_neg e2, if_neg e1, if_neg e0]
  · rw [way_out hin]
    unfold upd
    rw [way_out hin]
    split
    · split
      · omega
      · split
        · omega
        · rfl
    · split
      · split
        · omega
        · split
          · omega
          · rfl
      · rfl

theorem upd_hor {w : Int → Int → Int} (h : ∀ x y, w x y = 1 ↔ w (x + 1) y = 3) {a b n0 n1 n2 n3 : Int} (h0 : w a b ≠ 3) (h1 : w (a + 1) b ≠ 1) (h2 : w a (b + 1) ≠ 3) (h3 : w (a + 1) (b + 1) ≠ 1)
    (k0 : n0 ≠ 3) (k1 : n1 ≠ 1) (k2 : n2 ≠ 3) (k3 : n3 ≠ 1) (e1 : n0 = 1 ↔ n1 = 3) (e2 : n2 = 1 ↔ n3 = 3) (x y : Int) : upd w a b n0 n1 n2 n3 x y = 1 ↔ upd w a b n0 n1 n2 n3 (x + 1) y = 3 := by
  have hx := h x y
  unfold upd
  by_cases hy : y = b
  · subst hy
    rw [if_pos rfl, if_pos rfl]
    by_cases c1 : x = a
    · subst c1; rw [if_pos rfl, if_neg (by omega), if_pos rfl]; exact e1
    · by_cases c2 : x + 1 = a
      · subst c2
        rw [if_neg (by omega), if_neg (by omega), if_pos rfl]
        exact ⟨fun hh => absurd (hx.1 hh) h0, fun hh => absurd hh k0⟩
      · by_cases c3 : x = a + 1
        · subst c3
          rw [if_neg (by omega), if_pos rfl, if_neg (by omega), if_neg (by omega)]
          exact ⟨fun hh => absurd hh k1, fun hh => absurd (hx.2 hh) h1⟩
        · rw [if_neg c1, if_neg c3, if_neg c2, if_neg (by omega)]; exact hx
  · rw [if_neg hy, if_neg hy]
    by_cases hy2 : y = b + 1
    · subst hy2
      rw [if_pos rfl, if_pos rfl]
      by_cases c1 : x = a
      · subst c1; rw [if_pos rfl, if_neg (by omega), if_pos rfl]; exact e2
      · by_cases c2 : x + 1 = a
        · subst c2
          rw [if_neg (by omega), if_neg (by omega), if_pos rfl]
          exact ⟨fun hh => absurd (hx.1 hh) h2, fun hh => absurd hh k2⟩
        · by_cases c3 : x = a + 1
          · subst c3
            rw [if_neg (by omega), if_pos rfl, if_neg (by omega), if_neg (by omega)]
            exact ⟨fun hh => absurd hh k3, fun hh => absurd (hx.2 hh) h3⟩
          · rw [if_neg c1, if_neg c3, if_neg c2, if_neg (by omega)]; exact hx
    · rw [if_neg hy2, if_neg hy2]; exact hx
theorem upd_ver {w : Int → Int → Int} (h : ∀ x y, w x y = 2 ↔ w x (y + 1) = 4) {a b n0 n1 n2 n3 : Int} (h0 : w a b ≠ 4) (h1 : w (a + 1) b ≠ 4) (h2 : w a (b + 1) ≠ 2) (h3 : w (a + 1) (b + 1) ≠ 2)
    (k0 : n0 ≠ 4) (k1 : n1 ≠ 4) (k2 : n2 ≠ 2) (k3 : n3 ≠ 2) (e1 : n0 = 2 ↔ n2 = 4) (e2 : n1 = 2 ↔ n3 = 4) (x y : Int) : upd w a b n0 n1 n2 n3 x y = 2 ↔ upd w a b n0 n1 n2 n3 x (y + 1) = 4 := by
  have hx := h x y
  unfold upd
  by_cases hy : y = b
  · have t1 : ¬ (y + 1 = b) := by omega
    have t2 : y + 1 = b + 1 := by omega
    by_cases c1 : x = a
    · simp only [if_pos hy, if_neg t1, if_pos t2, if_pos c1]; exact e1
    · by_cases c2 : x = a + 1
      · simp only [if_pos hy, if_neg t1, if_pos t2, if_neg c1, if_pos c2]; exact e2
      · simp only [if_pos hy, if_neg t1, if_pos t2, if_neg c1, if_neg c2]; exact hx
  · by_cases hy2 : y + 1 = b
    · have t1 : ¬ (y = b + 1) := by omega
      by_cases c1 : x = a
      · simp only [if_neg hy, if_pos hy2, if_neg t1, if_pos c1]
        subst c1 hy2
        exact ⟨fun hh => absurd (hx.1 hh) h0, fun hh => absurd hh k0⟩
      · by_cases c2 : x = a + 1
        · simp only [if_neg hy, if_pos hy2, if_neg t1, if_neg c1, if_pos c2]
          subst c2 hy2
          exact ⟨fun hh => absurd (hx.1 hh) h1, fun hh => absurd hh k1⟩
        · simp only [if_neg hy, if_pos hy2, if_neg t1, if_neg c1, if_neg c2]; exact hx
    · by_cases hy3 : y = b + 1
      · have t1 : ¬ (y + 1 = b + 1) := by omega
        by_cases c1 : x = a
        · simp only [if_neg hy, if_neg hy2, if_pos hy3, if_neg t1, if_pos c1]
          subst c1 hy3
          exact ⟨fun hh => absurd hh k2, fun hh => absurd (hx.2 hh) h2⟩
        · by_cases c2 : x = a + 1
          · simp only [if_neg hy, if_neg hy2, if_pos hy3, if_neg t1, if_neg c1, if_pos c2]
            subst c2 hy3
            exact ⟨fun hh => absurd hh k3, fun hh => absurd (hx.2 hh) h3⟩
          · simp only [if_neg hy, if_neg hy2, if_pos hy3, if_neg t1, if_neg c1, if_neg c2]; exact hx
      · have t1 : ¬ (y + 1 = b + 1) := by omega
        simp only [if_neg hy, if_neg hy2, if_neg hy3, if_neg t1]; exact hx

/-! ### A corner by its cell in the south-west -/
theorem ins_ab {R : Reg} {k : Nat} (h : insB R k = true) : ∃ a b : Nat, a + 1 < R.W ∧ b + 1 < R.T ∧ k = R.ci (a + 1) (b + 1) ∧ swc R k = b * R.W + a := by
  have h' := of_decide_eq_true (show decide _ = true from h)
  refine ⟨k % (R.W + 1) - 1, k / (R.W + 1) - 1, by omega, by omega, ?_, rfl⟩
  rw [show k % (R.W + 1) - 1 + 1 = k % (R.W + 1) by omega, show k / (R.W + 1) - 1 + 1 = k / (R.W + 1) by omega, ci_of]
theorem insZ_ab {R : Reg} {k : Int} (h : insZ R k = true) : ∃ a b : Nat, a + 1 < R.W ∧ b + 1 < R.T ∧ k = (R.ci (a + 1) (b + 1) : Nat) ∧ swc R k.toNat = b * R.W + a := by
  unfold insZ at h
  rw [Bool.and_eq_true, decide_eq_true_eq] at h
  obtain ⟨m, rfl⟩ := Int.eq_ofNat_of_zero_le h.1
  obtain ⟨a, b, h1, h2, h3, h4⟩ := ins_ab h.2
  rw [Int.toNat_natCast] at h3
  exact ⟨a, b, h1, h2, by rw [h3], h4⟩
theorem ab_ins {R : Reg} {a b : Nat} (ha : a + 1 < R.W) (hb : b + 1 < R.T) : insZ R (R.ci (a + 1) (b + 1) : Nat) = true ∧ swc R (R.ci (a + 1) (b + 1)) = b * R.W + a := by
  have h1 := ci_mod (R := R) (x := a + 1) (b + 1) (by omega)
  have h2 := ci_div (R := R) (x := a + 1) (b + 1) (by omega)
  constructor
  · unfold insZ insB
    rw [Int.toNat_natCast, h1, h2, Bool.and_eq_true]
    exact ⟨decide_eq_true (by omega), decide_eq_true (by omega)⟩
  · unfold swc
    rw [h1, h2, Nat.add_sub_cancel, Nat.add_sub_cancel]
theorem ways4 {R : Reg} {L : List Int} {a b : Nat} (ha : a + 1 < R.W) (hb : b + 1 < R.T) :
    L.getD (b * R.W + a) 0 = R.way L a b ∧ L.getD (b * R.W + a + 1) 0 = R.way L ((a : Int) + 1) b ∧ L.getD (b * R.W + a + R.W) 0 = R.way L a ((b : Int) + 1) := by
  refine ⟨(way_in (by omega) (by omega)).symm, ?_, ?_⟩
  · rw [show (a : Int) + 1 = ((a + 1 : Nat) : Int) by omega, way_in ha (by omega)]; rfl
  · rw [show (b : Int) + 1 = ((b + 1 : Nat) : Int) by omega, way_in (by omega) hb, Nat.add_mul]
    congr 1; omega
theorem fl1_at {R : Reg} {L : List Int} {a b : Nat} (ha : a + 1 < R.W) (hb : b + 1 < R.T) : fl1 R L (R.ci (a + 1) (b + 1) : Nat) = true ↔ FlatAt R L a b := by
  obtain ⟨h1, h2⟩ := ab_ins ha hb
  obtain ⟨w1, w2, w3⟩ := ways4 (L := L) ha hb
  unfold fl1 FlatAt
  rw [h1, Int.toNat_natCast, h2, w1, w3]
  simp
theorem fl2_at {R : Reg} {L : List Int} {a b : Nat} (ha : a + 1 < R.W) (hb : b + 1 < R.T) : fl2 R L (R.ci (a + 1) (b + 1) : Nat) = true ↔ UprAt R L a b := by
  obtain ⟨h1, h2⟩ := ab_ins ha hb
  obtain ⟨w1, w2, w3⟩ := ways4 (L := L) ha hb
  unfold fl2 UprAt
  rw [h1, Int.toNat_natCast, h2, w1, w2]
  simp
/-- What a flip is. -/
theorem fl_cases {R : Reg} {L : List Int} {k : Int} (h : flB R L k = true) : ∃ a b : Nat, a + 1 < R.W ∧ b + 1 < R.T ∧ k = (R.ci (a + 1) (b + 1) : Nat) ∧
    ((FlatAt R L a b ∧ flV R L k = set4 R L (b * R.W + a) 2 2 4 4) ∨ (UprAt R L a b ∧ flV R L k = set4 R L (b * R.W + a) 1 3 1 3)) := by
  unfold flB at h
  rw [Bool.or_eq_true] at h
  have hin : insZ R k = true := by
    rcases h with h | h
    · exact fl1_ins h
    · exact fl2_ins h
  obtain ⟨a, b, h1, h2, rfl, h4⟩ := insZ_ab hin
  refine ⟨a, b, h1, h2, rfl, ?_⟩
  by_cases h5 : fl1 R L (R.ci (a + 1) (b + 1) : Nat) = true
  · exact .inl ⟨(fl1_at h1 h2).1 h5, by unfold flV; rw [if_pos h5, h4]⟩
  · have h6 := h.resolve_left h5
    exact .inr ⟨(fl2_at h1 h2).1 h6, by unfold flV; rw [if_neg h5, if_pos h6, h4]⟩
theorem flV_no {R : Reg} {L : List Int} {k : Int} (h : flB R L k = false) : flV R L k = L := by
  unfold flB at h
  rw [Bool.or_eq_false_iff] at h
  unfold flV
  rw [if_neg (by rw [h.1]; decide), if_neg (by rw [h.2]; decide)]

theorem flat_four {R : Reg} {L : List Int} (hL : Lay R L) {a b : Nat} (h : FlatAt R L a b) : R.way L a b = 1 ∧ R.way L ((a : Int) + 1) b = 3 ∧ R.way L a ((b : Int) + 1) = 1 ∧ R.way L ((a : Int) + 1) ((b : Int) + 1) = 3 :=
  ⟨h.1, (hL.hor _ _).1 h.1, h.2, (hL.hor _ _).1 h.2⟩
theorem upr_four {R : Reg} {L : List Int} (hL : Lay R L) {a b : Nat} (h : UprAt R L a b) : R.way L a b = 2 ∧ R.way L ((a : Int) + 1) b = 2 ∧ R.way L a ((b : Int) + 1) = 4 ∧ R.way L ((a : Int) + 1) ((b : Int) + 1) = 4 :=
  ⟨h.1, h.2, (hL.ver _ _).1 h.1, (hL.ver _ _).1 h.2⟩
theorem inner_of_four {R : Reg} {L : List Int} (hL : Lay R L) {a b : Nat} (h0 : R.way L a b ≠ 0) (h1 : R.way L ((a : Int) + 1) b ≠ 0) (h2 : R.way L a ((b : Int) + 1) ≠ 0) (h3 : R.way L ((a : Int) + 1) ((b : Int) + 1) ≠ 0) : R.inner ((a + 1 : Nat) : Int) ((b + 1 : Nat) : Int) := by
  unfold Reg.inner
  rw [show ((a + 1 : Nat) : Int) - 1 = (a : Int) by omega, show ((b + 1 : Nat) : Int) - 1 = (b : Int) by omega, show ((a + 1 : Nat) : Int) = (a : Int) + 1 by omega, show ((b + 1 : Nat) : Int) = (b : Int) + 1 by omega]
  exact ⟨hL.at_ _ _ h3, hL.at_ _ _ h2, hL.at_ _ _ h1, hL.at_ _ _ h0⟩
theorem fl_inner {R : Reg} {L : List Int} (hL : Lay R L) {a b : Nat} (h : FlatAt R L a b ∨ UprAt R L a b) : R.inner ((a + 1 : Nat) : Int) ((b + 1 : Nat) : Int) := by
  rcases h with h | h
  · obtain ⟨h0, h1, h2, h3⟩ := flat_four hL h
    exact inner_of_four hL (by omega) (by omega) (by omega) (by omega)
  · obtain ⟨h0, h1, h2, h3⟩ := upr_four hL h
    exact inner_of_four hL (by omega) (by omega) (by omega) (by omega)

/-- Four changed cells of a region that had dominoes keep a list that lays dominoes one. -/
theorem lay_set4 {R : Reg} (hR : R.ok) {L : List Int} (hL : Lay R L) {a b : Nat} (ha : a + 1 < R.W) (hb : b + 1 < R.T) (hin : R.inner ((a + 1 : Nat) : Int) ((b + 1 : Nat) : Int)) {n0 n1 n2 n3 : Int}
    (r0 : 0 ≤ n0 ∧ n0 ≤ 4) (r1 : 0 ≤ n1 ∧ n1 ≤ 4) (r2 : 0 ≤ n2 ∧ n2 ≤ 4) (r3 : 0 ≤ n3 ∧ n3 ≤ 4)
    (hh : ∀ x y, upd (R.way L) a b n0 n1 n2 n3 x y = 1 ↔ upd (R.way L) a b n0 n1 n2 n3 (x + 1) y = 3) (hv : ∀ x y, upd (R.way L) a b n0 n1 n2 n3 x y = 2 ↔ upd (R.way L) a b n0 n1 n2 n3 x (y + 1) = 4) :
    Lay R (set4 R L (b * R.W + a) n0 n1 n2 n3) := by
  unfold Reg.inner at hin
  rw [show ((a + 1 : Nat) : Int) - 1 = (a : Int) by omega, show ((b + 1 : Nat) : Int) - 1 = (b : Int) by omega, show ((a + 1 : Nat) : Int) = (a : Int) + 1 by omega, show ((b + 1 : Nat) : Int) = (b : Int) + 1 by omega] at hin
  obtain ⟨i3, i2, i1, i0⟩ := hin
  refine ⟨by rw [set4_len]; exact hL.len, fun x y => ?_, fun x y => ?_, fun x y => ?_, fun x y => ?_⟩
  · rw [way_set4 hR hL.len ha hb]
    unfold upd
    intro h
    have hx := hL.at_ x y
    split at h
    · rename_i e; subst e
      split at h
      · rename_i e; subst e; exact i0
      · split at h
        · rename_i e; subst e; exact i1
        · exact hx h
    · split at h
      · rename_i e; subst e
        split at h
        · rename_i e; subst e; exact i2
        · split at h
          · rename_i e; subst e; exact i3
          · exact hx h
      · exact hx h
  · rw [way_set4 hR hL.len ha hb]
    have hx := hL.rng x y
    unfold upd
    split
    · split
      · exact r0
      · split
        · exact r1
        · exact hx
    · split
      · split
        · exact r2
        · split
          · exact r3
          · exact hx
      · exact hx
  · rw [way_set4 hR hL.len ha hb, way_set4 hR hL.len ha hb]; exact hh x y
  · rw [way_set4 hR hL.len ha hb, way_set4 hR hL.len ha hb]; exact hv x y
theorem lay_flV {R : Reg} (hR : R.ok) {L : List Int} (hL : Lay R L) (k : Int) : Lay R (flV R L k) := by
  cases h : flB R L k with
  | false => rw [flV_no h]; exact hL
  | true =>
    obtain ⟨a, b, ha, hb, rfl, h | h⟩ := fl_cases h
    · rw [h.2]
      obtain ⟨h0, h1, h2, h3⟩ := flat_four hL h.1
      exact lay_set4 hR hL ha hb (fl_inner hL (.inl h.1)) (by omega) (by omega) (by omega) (by omega)
        (upd_hor hL.hor (by omega) (by omega) (by omega) (by omega) (by omega) (by omega) (by omega) (by omega) (by omega) (by omega))
        (upd_ver hL.ver (by omega) (by omega) (by omega) (by omega) (by omega) (by omega) (by omega) (by omega) (by omega) (by omega))
    · rw [h.2]
      obtain ⟨h0, h1, h2, h3⟩ := upr_four hL h.1
      exact lay_set4 hR hL ha hb (fl_inner hL (.inr h.1)) (by omega) (by omega) (by omega) (by omega)
        (upd_hor hL.hor (by omega) (by omega) (by omega) (by omega) (by omega) (by omega) (by omega) (by omega) (by omega) (by omega))
        (upd_ver hL.ver (by omega) (by omega) (by omega) (by omega) (by omega) (by omega) (by omega) (by omega) (by omega) (by omega))
theorem full_set4 {R : Reg} (hR : R.ok) {L : List Int} (hL : L.length = R.C.length) {a b : Nat} (ha : a + 1 < R.W) (hb : b + 1 < R.T) {n0 n1 n2 n3 : Int} (r0 : n0 ≠ 0) (r1 : n1 ≠ 0) (r2 : n2 ≠ 0) (r3 : n3 ≠ 0)
    (h0 : R.way L a b ≠ 0) (h1 : R.way L ((a : Int) + 1) b ≠ 0) (h2 : R.way L a ((b : Int) + 1) ≠ 0) (h3 : R.way L ((a : Int) + 1) ((b : Int) + 1) ≠ 0) (x y : Int) : R.way (set4 R L (b * R.W + a) n0 n1 n2 n3) x y ≠ 0 ↔ R.way L x y ≠ 0 := by
  rw [way_set4 hR hL ha hb]
  unfold upd
  split
  · rename_i e; subst e
    split
    · rename_i e; subst e; exact ⟨fun _ => h0, fun _ => r0⟩
    · split
      · rename_i e; subst e; exact ⟨fun _ => h1, fun _ => r1⟩
      · exact Iff.rfl
  · split
    · rename_i e; subst e
      split
      · rename_i e; subst e; exact ⟨fun _ => h2, fun _ => r2⟩
      · split
        · rename_i e; subst e; exact ⟨fun _ => h3, fun _ => r3⟩
        · exact Iff.rfl
    · exact Iff.rfl
theorem way_flV_ne {R : Reg} (hR : R.ok) {L : List Int} (hL : Lay R L) (k : Int) (x y : Int) : R.way (flV R L k) x y ≠ 0 ↔ R.way L x y ≠ 0 := by
  cases h : flB R L k with
  | false => rw [flV_no h]
  | true =>
    obtain ⟨a, b, ha, hb, rfl, h | h⟩ := fl_cases h
    · rw [h.2]
      obtain ⟨h0, h1, h2, h3⟩ := flat_four hL h.1
      exact full_set4 hR hL.len ha hb (by omega) (by omega) (by omega) (by omega) (by omega) (by omega) (by omega) (by omega) x y
    · rw [h.2]
      obtain ⟨h0, h1, h2, h3⟩ := upr_four hL h.1
      exact full_set4 hR hL.len ha hb (by omega) (by omega) (by omega) (by omega) (by omega) (by omega) (by omega) (by omega) x y
theorem full_flV {R : Reg} (hR : R.ok) {L : List Int} (hL : Lay R L) (k : Int) : Full R (flV R L k) ↔ Full R L :=
  ⟨fun h x y hc => (way_flV_ne hR hL k x y).1 (h x y hc), fun h x y hc => (way_flV_ne hR hL k x y).2 (h x y hc)⟩

/-! ### Heights behind a flip -/
theorem ht_set {R : Reg} {H : List Int} (hH : H.length = R.cn) {u v : Nat} (hu : u ≤ R.W) (hv : v ≤ R.T) (z : Int) {x y : Nat} (hx : x ≤ R.W) (_hy : y ≤ R.T) :
    R.ht (H.set (R.ci u v) z) x y = if x = u ∧ y = v then z else R.ht H x y := by
  unfold Reg.ht
  rw [getD_set (by rw [hH]; exact ci_lt hu hv)]
  by_cases h : x = u ∧ y = v
  · obtain ⟨rfl, rfl⟩ := h
    rw [if_pos rfl, if_pos ⟨rfl, rfl⟩]
  · rw [if_neg h, if_neg fun e => h (by obtain ⟨e1, e2⟩ := ci_inj hu hx e; exact ⟨e1.symm, e2.symm⟩)]
theorem sg_ab (a b : Int) : sg (a + 1) (b + 1) = sg a b := by rw [sg_e, sg_n]; omega

theorem hts_set4 {R : Reg} (hR : R.ok) {L H : List Int} (hL : Lay R L) (hH : Hts R L H) {a b : Nat} (ha : a + 1 < R.W) (hb : b + 1 < R.T) (hin : R.inner ((a + 1 : Nat) : Int) ((b + 1 : Nat) : Int)) {n0 n1 n2 n3 d : Int}
    (hw : (R.way L a b = 1 ∧ R.way L ((a : Int) + 1) b = 3 ∧ R.way L a ((b : Int) + 1) = 1 ∧ R.way L ((a : Int) + 1) ((b : Int) + 1) = 3 ∧ n0 = 2 ∧ n1 = 2 ∧ n2 = 4 ∧ n3 = 4 ∧ d = 4 * sg a b) ∨
      (R.way L a b = 2 ∧ R.way L ((a : Int) + 1) b = 2 ∧ R.way L a ((b : Int) + 1) = 4 ∧ R.way L ((a : Int) + 1) ((b : Int) + 1) = 4 ∧ n0 = 1 ∧ n1 = 3 ∧ n2 = 1 ∧ n3 = 3 ∧ d = -4 * sg a b)) :
    Hts R (set4 R L (b * R.W + a) n0 n1 n2 n3) (H.set (R.ci (a + 1) (b + 1)) (R.ht H (a + 1) (b + 1) + d)) := by
  have hu : R.cu ((a + 1 : Nat) : Int) ((b + 1 : Nat) : Int) = true := cu_ne hin.1
  refine ⟨by rw [List.length_set]; exact hH.len, fun x y hx hy hc => ?_, fun x y h0 => ?_, fun x y hx hy hc => ?_, fun x y hx hy hc => ?_⟩
  · rw [ht_set hH.len (by omega) (by omega) _ hx hy, if_neg, hH.no x y hx hy hc]
    rintro ⟨rfl, rfl⟩
    rw [hu] at hc; cases hc
  · rw [ht_set hH.len (by omega) (by omega) _ h0.1 h0.2.1, if_neg, hH.first x y h0]
    rintro ⟨rfl, rfl⟩
    exact first_out hR h0 hin
  · rw [ht_set hH.len (by omega) (by omega) _ (by omega) hy, ht_set hH.len (by omega) (by omega) _ (by omega) hy]
    have he := hH.e x y hx hy hc
    simp only [tform] at he ⊢
    rw [way_set4 hR hL.len ha hb]
    unfold upd
    by_cases c1 : y = b + 1
    · subst c1
      rw [if_pos (show ((b + 1 : Nat) : Int) - 1 = (b : Int) by omega)]
      rw [show ((b + 1 : Nat) : Int) - 1 = (b : Int) by omega] at he ⊢
      by_cases c2 : x = a
      · subst c2
        have hs : sg x ((b + 1 : Nat) : Int) = - sg x b := by rw [show ((b + 1 : Nat) : Int) = (b : Int) + 1 by omega, sg_n]
        have t1 : ¬ (x = x + 1 ∧ b + 1 = b + 1) := by omega
        have t2 : x + 1 = x + 1 ∧ b + 1 = b + 1 := ⟨rfl, rfl⟩
        rw [if_neg t1, if_pos t2]
        simp only [if_true]
        rw [hs] at he ⊢
        rcases hw with ⟨w0, w1, w2, w3, rfl, rfl, rfl, rfl, rfl⟩ | ⟨w0, w1, w2, w3, rfl, rfl, rfl, rfl, rfl⟩
        · rw [w0] at he; simp at he ⊢; omega
        · rw [w0] at he; simp at he ⊢; omega
      · by_cases c3 : x = a + 1
        · subst c3
          have hs : sg ((a + 1 : Nat) : Int) ((b + 1 : Nat) : Int) = sg a b := by rw [show ((b + 1 : Nat) : Int) = (b : Int) + 1 by omega, show ((a + 1 : Nat) : Int) = (a : Int) + 1 by omega, sg_ab]
          have t1 : ¬ (a + 1 + 1 = a + 1 ∧ b + 1 = b + 1) := by omega
          have t2 : a + 1 = a + 1 ∧ b + 1 = b + 1 := ⟨rfl, rfl⟩
          have t3 : ¬ (((a + 1 : Nat) : Int) = (a : Int)) := by omega
          have t4 : ((a + 1 : Nat) : Int) = (a : Int) + 1 := by omega
          rw [if_neg t1, if_pos t2, if_neg t3, if_pos t4]
          rw [hs, show ((a + 1 : Nat) : Int) = (a : Int) + 1 by omega] at he
          rw [hs]
          rcases hw with ⟨w0, w1, w2, w3, rfl, rfl, rfl, rfl, rfl⟩ | ⟨w0, w1, w2, w3, rfl, rfl, rfl, rfl, rfl⟩
          · rw [w1] at he; simp at he ⊢; omega
          · rw [w1] at he; simp at he ⊢; omega
        · have t1 : ¬ (x + 1 = a + 1 ∧ b + 1 = b + 1) := by omega
          have t2 : ¬ (x = a + 1 ∧ b + 1 = b + 1) := by omega
          have t3 : ¬ ((x : Int) = (a : Int)) := by omega
          have t4 : ¬ ((x : Int) = (a : Int) + 1) := by omega
          rw [if_neg t1, if_neg t2, if_neg t3, if_neg t4]
          exact he
    · have u1 : ¬ (x + 1 = a + 1 ∧ y = b + 1) := by omega
      have u2 : ¬ (x = a + 1 ∧ y = b + 1) := by omega
      have u3 : ¬ ((y : Int) - 1 = (b : Int)) := by omega
      simp only [if_neg u1, if_neg u2, if_neg u3]
      by_cases c2 : y = b + 2
      · subst c2
        rw [if_pos (show ((b + 2 : Nat) : Int) - 1 = (b : Int) + 1 by omega)]
        rw [show ((b + 2 : Nat) : Int) - 1 = (b : Int) + 1 by omega] at he ⊢
        by_cases c3 : x = a
        · subst c3
          rw [if_pos rfl]
          rcases hw with ⟨w0, w1, w2, w3, rfl, rfl, rfl, rfl, rfl⟩ | ⟨w0, w1, w2, w3, rfl, rfl, rfl, rfl, rfl⟩
          · rw [w2] at he; simp at he ⊢; omega
          · rw [w2] at he; simp at he ⊢; omega
        · rw [if_neg (show ¬ ((x : Int) = (a : Int)) by omega)]
          by_cases c4 : x = a + 1
          · subst c4
            rw [if_pos (show ((a + 1 : Nat) : Int) = (a : Int) + 1 by omega)]
            rw [show ((a + 1 : Nat) : Int) = (a : Int) + 1 by omega] at he ⊢
            rcases hw with ⟨w0, w1, w2, w3, rfl, rfl, rfl, rfl, rfl⟩ | ⟨w0, w1, w2, w3, rfl, rfl, rfl, rfl, rfl⟩
            · rw [w3] at he; simp at he ⊢; omega
            · rw [w3] at he; simp at he ⊢; omega
          · rw [if_neg (show ¬ ((x : Int) = (a : Int) + 1) by omega)]
            exact he
      · rw [if_neg (show ¬ ((y : Int) - 1 = (b : Int) + 1) by omega)]
        exact he
  · rw [ht_set hH.len (by omega) (by omega) _ hx (by omega), ht_set hH.len (by omega) (by omega) _ hx (by omega)]
    have he := hH.n x y hx hy hc
    simp only [tform] at he ⊢
    rw [way_set4 hR hL.len ha hb]
    unfold upd
    by_cases c1 : x = a + 1
    · subst c1
      rw [show ((a + 1 : Nat) : Int) - 1 = (a : Int) by omega] at he ⊢
      by_cases c2 : y = b
      · subst c2
        have t1 : ¬ (a + 1 = a + 1 ∧ y = y + 1) := by omega
        have t2 : a + 1 = a + 1 ∧ y + 1 = y + 1 := ⟨rfl, rfl⟩
        rw [if_neg t1, if_pos t2]
        simp only [if_true]
        rcases hw with ⟨w0, w1, w2, w3, rfl, rfl, rfl, rfl, rfl⟩ | ⟨w0, w1, w2, w3, rfl, rfl, rfl, rfl, rfl⟩
        · rw [w0] at he; simp at he ⊢; omega
        · rw [w0] at he; simp at he ⊢; omega
      · by_cases c3 : y = b + 1
        · subst c3
          have hs : sg a ((b + 1 : Nat) : Int) = - sg a b := by rw [show ((b + 1 : Nat) : Int) = (b : Int) + 1 by omega, sg_n]
          have t1 : ¬ (a + 1 = a + 1 ∧ b + 1 + 1 = b + 1) := by omega
          have t2 : a + 1 = a + 1 ∧ b + 1 = b + 1 := ⟨rfl, rfl⟩
          have t3 : ¬ (((b + 1 : Nat) : Int) = (b : Int)) := by omega
          have t4 : ((b + 1 : Nat) : Int) = (b : Int) + 1 := by omega
          rw [if_neg t1, if_pos t2, if_neg t3, if_pos t4]
          simp only [if_true]
          rw [hs, show ((b + 1 : Nat) : Int) = (b : Int) + 1 by omega] at he
          rw [hs]
          rcases hw with ⟨w0, w1, w2, w3, rfl, rfl, rfl, rfl, rfl⟩ | ⟨w0, w1, w2, w3, rfl, rfl, rfl, rfl, rfl⟩
          · rw [w2] at he; simp at he ⊢; omega
          · rw [w2] at he; simp at he ⊢; omega
        · have t1 : ¬ (a + 1 = a + 1 ∧ y + 1 = b + 1) := by omega
          have t2 : ¬ (a + 1 = a + 1 ∧ y = b + 1) := by omega
          have t3 : ¬ ((y : Int) = (b : Int)) := by omega
          have t4 : ¬ ((y : Int) = (b : Int) + 1) := by omega
          rw [if_neg t1, if_neg t2, if_neg t3, if_neg t4]
          exact he
    · have u1 : ¬ (x = a + 1 ∧ y + 1 = b + 1) := by omega
      have u2 : ¬ (x = a + 1 ∧ y = b + 1) := by omega
      simp only [if_neg u1, if_neg u2]
      by_cases c2 : x = a + 2
      · subst c2
        rw [show ((a + 2 : Nat) : Int) - 1 = (a : Int) + 1 by omega] at he ⊢
        by_cases c3 : y = b
        · subst c3
          have t1 : ¬ ((a : Int) + 1 = (a : Int)) := by omega
          simp only [if_neg t1, if_true]
          rcases hw with ⟨w0, w1, w2, w3, rfl, rfl, rfl, rfl, rfl⟩ | ⟨w0, w1, w2, w3, rfl, rfl, rfl, rfl, rfl⟩
          · rw [w1] at he; simp at he ⊢; omega
          · rw [w1] at he; simp at he ⊢; omega
        · rw [if_neg (show ¬ ((y : Int) = (b : Int)) by omega)]
          by_cases c4 : y = b + 1
          · subst c4
            have t1 : ¬ ((a : Int) + 1 = (a : Int)) := by omega
            have t2 : ((b + 1 : Nat) : Int) = (b : Int) + 1 := by omega
            simp only [if_neg t1, if_pos t2, if_true]
            rw [show ((b + 1 : Nat) : Int) = (b : Int) + 1 by omega] at he ⊢
            rcases hw with ⟨w0, w1, w2, w3, rfl, rfl, rfl, rfl, rfl⟩ | ⟨w0, w1, w2, w3, rfl, rfl, rfl, rfl, rfl⟩
            · rw [w3] at he; simp at he ⊢; omega
            · rw [w3] at he; simp at he ⊢; omega
          · rw [if_neg (show ¬ ((y : Int) = (b : Int) + 1) by omega)]
            exact he
      · have e1 : ¬ ((x : Int) - 1 = (a : Int)) := by omega
        have e2 : ¬ ((x : Int) - 1 = (a : Int) + 1) := by omega
        simp only [if_neg e1, if_neg e2, ite_self]
        exact he

/-- By how much a flip changes the height of its corner. -/
def rsV (R : Reg) (L : List Int) (k : Nat) : Int := if fl1 R L k = true then 4 * sg ((k % (R.W + 1) : Nat) : Int) ((k / (R.W + 1) : Nat) : Int) else if fl2 R L k = true then -4 * sg ((k % (R.W + 1) : Nat) : Int) ((k / (R.W + 1) : Nat) : Int) else 0
theorem rsV_or {R : Reg} {L : List Int} {k : Nat} (h : flB R L k = true) : rsV R L k = 4 ∨ rsV R L k = -4 := by
  have hs := sg_or ((k % (R.W + 1) : Nat) : Int) ((k / (R.W + 1) : Nat) : Int)
  unfold flB at h
  rw [Bool.or_eq_true] at h
  unfold rsV
  split
  · omega
  · rename_i h1
    rw [if_pos (h.resolve_left h1)]; omega
theorem rsV_no {R : Reg} {L : List Int} {k : Nat} (h : flB R L k = false) : rsV R L k = 0 := by
  unfold flB at h
  rw [Bool.or_eq_false_iff] at h
  unfold rsV
  rw [if_neg (by rw [h.1]; decide), if_neg (by rw [h.2]; decide)]
theorem hts_flV {R : Reg} (hR : R.ok) {L H : List Int} (hL : Lay R L) (hH : Hts R L H) {k : Nat} (h : flB R L k = true) : Hts R (flV R L k) (H.set k (H.getD k 0 + rsV R L k)) := by
  obtain ⟨a, b, ha, hb, hk, hc⟩ := fl_cases h
  obtain rfl : k = R.ci (a + 1) (b + 1) := Int.ofNat.inj hk
  have hs : sg ((R.ci (a + 1) (b + 1) % (R.W + 1) : Nat) : Int) ((R.ci (a + 1) (b + 1) / (R.W + 1) : Nat) : Int) = sg a b := by
    rw [ci_mod _ (by omega), ci_div _ (by omega), show ((b + 1 : Nat) : Int) = (b : Int) + 1 by omega, show ((a + 1 : Nat) : Int) = (a : Int) + 1 by omega, sg_ab]
  rcases hc with ⟨h1, h2⟩ | ⟨h1, h2⟩
  · rw [h2]
    obtain ⟨w0, w1, w2, w3⟩ := flat_four hL h1
    have hr : rsV R L (R.ci (a + 1) (b + 1)) = 4 * sg a b := by unfold rsV; rw [if_pos ((fl1_at ha hb).2 h1), hs]
    rw [hr]
    exact hts_set4 hR hL hH ha hb (fl_inner hL (.inl h1)) (.inl ⟨w0, w1, w2, w3, rfl, rfl, rfl, rfl, rfl⟩)
  · rw [h2]
    obtain ⟨w0, w1, w2, w3⟩ := upr_four hL h1
    have hn : ¬ (fl1 R L (R.ci (a + 1) (b + 1) : Nat) = true) := by
      intro hf
      have := (fl1_at ha hb).1 hf
      have := this.1
      omega
    have hr : rsV R L (R.ci (a + 1) (b + 1)) = -4 * sg a b := by unfold rsV; rw [if_neg hn, if_pos ((fl2_at ha hb).2 h1), hs]
    rw [hr]
    exact hts_set4 hR hL hH ha hb (fl_inner hL (.inr h1)) (.inr ⟨w0, w1, w2, w3, rfl, rfl, rfl, rfl, rfl⟩)

end Go.Proofs.Ythepfpiphlfgnaa
