/-
  YtbonmnfmlobpbaaH0: forms on the edges of the grid, in plain Lean: a form that is closed at every cell of a simple region can be changed outside so that it is closed everywhere; a closed form has a potential.
-/
import Derived.Test.YtbonmnfmlobpbaaM3
namespace Go.Proofs.Ytbonmnfmlobpbaa

/-- A form on the edges of the grid: on those to the east, and on those to the north. -/
structure Form where
  e : Int → Int → Int
  n : Int → Int → Int

/-- The sum round a cell. -/
def Form.curl (F : Form) (x y : Int) : Int := F.e x y + F.n (x + 1) y - F.e x (y + 1) - F.n x y
def Form.add (F G : Form) : Form := ⟨fun x y => F.e x y + G.e x y, fun x y => F.n x y + G.n x y⟩
def Form.mul (k : Int) (F : Form) : Form := ⟨fun x y => k * F.e x y, fun x y => k * F.n x y⟩
def Form.nil : Form := ⟨fun _ _ => 0, fun _ _ => 0⟩
theorem curl_add (F G : Form) (x y : Int) : (F.add G).curl x y = F.curl x y + G.curl x y := by simp only [Form.curl, Form.add]; omega
theorem curl_mul (k : Int) (F : Form) (x y : Int) : (Form.mul k F).curl x y = k * F.curl x y := by simp only [Form.curl, Form.mul, Int.mul_sub, Int.mul_add]
theorem curl_nil (x y : Int) : Form.nil.curl x y = 0 := rfl

/-- A form that is 0 on every side of a cell of a region. -/
structure Form.Out (R : Reg) (F : Form) : Prop where
  e : ∀ x y, R.at x y = true ∨ R.at x (y - 1) = true → F.e x y = 0
  n : ∀ x y, R.at x y = true ∨ R.at (x - 1) y = true → F.n x y = 0
theorem out_nil (R : Reg) : Form.nil.Out R := ⟨fun _ _ _ => rfl, fun _ _ _ => rfl⟩
theorem Form.Out.add {R : Reg} {F G : Form} (h : F.Out R) (k : G.Out R) : (F.add G).Out R :=
  ⟨fun x y hx => by simp only [Form.add]; rw [h.e x y hx, k.e x y hx]; rfl, fun x y hx => by simp only [Form.add]; rw [h.n x y hx, k.n x y hx]; rfl⟩
theorem Form.Out.mul {R : Reg} {F : Form} (h : F.Out R) (k : Int) : (Form.mul k F).Out R :=
  ⟨fun x y hx => by simp only [Form.mul]; rw [h.e x y hx, Int.mul_zero], fun x y hx => by simp only [Form.mul]; rw [h.n x y hx, Int.mul_zero]⟩
theorem Form.Out.curl {R : Reg} {F : Form} (h : F.Out R) {x y : Int} (hx : R.at x y = true) : F.curl x y = 0 := by
  unfold Form.curl
  rw [h.e x y (.inl hx), h.n (x + 1) y (.inr (by rw [Int.add_sub_cancel]; exact hx)), h.e x (y + 1) (.inr (by rw [Int.add_sub_cancel]; exact hx)), h.n x y (.inl hx)]
  rfl

def Form.oneE (a b k : Int) : Form := ⟨fun x y => if x = a ∧ y = b then k else 0, fun _ _ => 0⟩
def Form.oneN (a b k : Int) : Form := ⟨fun _ _ => 0, fun x y => if x = a ∧ y = b then k else 0⟩
theorem ite_iff {p q : Prop} [Decidable p] [Decidable q] (h : p ↔ q) (a b : Int) : (if p then a else b) = if q then a else b := by
  by_cases hp : p
  · rw [if_pos hp, if_pos (h.1 hp)]
  · rw [if_neg hp, if_neg fun hq => hp (h.2 hq)]
/-- 1 at a place. -/
def dl (a b x y : Int) : Int := if x = a ∧ y = b then 1 else 0
theorem dl_yes (a b : Int) : dl a b a b = 1 := if_pos ⟨rfl, rfl⟩
theorem dl_no {a b x y : Int} (h : ¬ (x = a ∧ y = b)) : dl a b x y = 0 := if_neg h
theorem curl_oneE (a b k x y : Int) : (Form.oneE a b k).curl x y = k * (dl a b x y - dl a (b - 1) x y) := by
  simp only [Form.curl, Form.oneE, dl]
  rw [ite_iff (show (x = a ∧ y + 1 = b) ↔ (x = a ∧ y = b - 1) by omega)]
  by_cases h1 : x = a ∧ y = b
  · rw [if_pos h1, if_pos h1, if_neg (by omega), if_neg (by omega)]; omega
  · rw [if_neg h1, if_neg h1]
    split <;> omega
theorem curl_oneN (a b k x y : Int) : (Form.oneN a b k).curl x y = k * (dl (a - 1) b x y - dl a b x y) := by
  simp only [Form.curl, Form.oneN, dl]
  rw [ite_iff (show (x + 1 = a ∧ y = b) ↔ (x = a - 1 ∧ y = b) by omega)]
  by_cases h1 : x = a ∧ y = b
  · rw [if_pos h1, if_pos h1, if_neg (by omega), if_neg (by omega)]; omega
  · rw [if_neg h1, if_neg h1]
    split <;> omega

/-- Beside a cell that does not belong to a region. -/
theorem out_oneE {R : Reg} {a b k : Int} (h : R.at a b = false) (h' : R.at a (b - 1) = false) : (Form.oneE a b k).Out R :=
  ⟨fun x y hx => if_neg (by rintro ⟨rfl, rfl⟩; rcases hx with hx | hx <;> simp_all), fun _ _ _ => rfl⟩
theorem out_oneN {R : Reg} {a b k : Int} (h : R.at a b = false) (h' : R.at (a - 1) b = false) : (Form.oneN a b k).Out R :=
  ⟨fun _ _ _ => rfl, fun x y hx => if_neg (by rintro ⟨rfl, rfl⟩; rcases hx with hx | hx <;> simp_all)⟩

theorem free_at {R : Reg} {x y : Int} (h : R.free x y = true) : R.at (x - 1) (y - 1) = false := by
  simp only [Reg.free, Bool.and_eq_true, Bool.not_eq_true'] at h
  exact h.2

/-- From every place outside a current of 1 to the corner of the padded field. -/
theorem current {R : Reg} (hO : OutConn R) {x y : Nat} (hf : R.free x y = true) :
    ∃ F : Form, F.Out R ∧ ∀ u v : Int, F.curl u v = dl ((x : Int) - 1) ((y : Int) - 1) u v - dl (-1) (-1) u v := by
  have key : (∀ x y : Nat, x < R.W + 2 → R.pi x y = R.pi x y → R.pi x y = R.pi x y → True) := fun _ _ _ _ _ => trivial
  clear key
  have := linked_ind (A := R.PA) (P := fun p => ∀ x y : Nat, x < R.W + 2 → p = R.pi x y → ∃ F : Form, F.Out R ∧ ∀ u v : Int, F.curl u v = dl ((x : Int) - 1) ((y : Int) - 1) u v - dl (-1) (-1) u v)
    (fun c e hce hP x y hx hc => by
      obtain ⟨x1, y1, x2, y2, h1, h2, f1, f2, hb⟩ := hce
      obtain ⟨rfl, rfl⟩ := pi_inj (free_in f1).1 hx (h1.symm.trans hc)
      obtain ⟨G, g1, g2⟩ := hP x2 y2 (free_in f2).1 h2
      have a1 := free_at f1
      have a2 := free_at f2
      rcases hb with ⟨e1, e2⟩ | ⟨e1, e2⟩ | ⟨e1, e2⟩ | ⟨e1, e2⟩
      · subst e1 e2
        refine ⟨G.add (Form.oneN x1 ((y2 : Int) - 1) 1), g1.add (out_oneN (by rw [← a2]; congr 1; omega) a1), fun u v => ?_⟩
        rw [curl_add, g2, curl_oneN, show ((x1 + 1 : Nat) : Int) - 1 = (x1 : Int) by omega]; omega
      · subst e1 e2
        refine ⟨G.add (Form.oneN x2 ((y2 : Int) - 1) (-1)), g1.add (out_oneN (by rw [← a1]; congr 1; omega) a2), fun u v => ?_⟩
        rw [curl_add, g2, curl_oneN, show ((x2 + 1 : Nat) : Int) - 1 = (x2 : Int) by omega]; omega
      · subst e1 e2
        refine ⟨G.add (Form.oneE ((x2 : Int) - 1) y1 (-1)), g1.add (out_oneE (by rw [← a2]; congr 1; omega) a1), fun u v => ?_⟩
        rw [curl_add, g2, curl_oneE, show ((y1 + 1 : Nat) : Int) - 1 = (y1 : Int) by omega]; omega
      · subst e1 e2
        refine ⟨G.add (Form.oneE ((x2 : Int) - 1) y2 1), g1.add (out_oneE (by rw [← a1]; congr 1; omega) a2), fun u v => ?_⟩
        rw [curl_add, g2, curl_oneE, show ((y2 + 1 : Nat) : Int) - 1 = (y2 : Int) by omega]; omega)
    (hO x y hf)
    (fun x y hx h0 => by
      obtain ⟨rfl, rfl⟩ := pi_inj hx (by omega) (h0.symm.trans (pi_zero R).symm)
      exact ⟨Form.nil, out_nil R, fun u v => by rw [curl_nil]; simp⟩)
  exact this x y (free_in hf).1 rfl

theorem free_of {R : Reg} {x y : Nat} (hx : x < R.W) (hy : y < R.T) (h : R.at x y = false) : R.free ((x + 1 : Nat) : Int) ((y + 1 : Nat) : Int) = true := by
  simp only [Reg.free, Bool.and_eq_true, decide_eq_true_eq, Bool.not_eq_true']
  refine ⟨by omega, ?_⟩
  rw [show ((x + 1 : Nat) : Int) - 1 = (x : Int) by omega, show ((y + 1 : Nat) : Int) - 1 = (y : Int) by omega]
  exact h

/-- A form that is closed at the cells of a region is, changed outside, closed at every cell of the field. -/
theorem close_up {R : Reg} (hO : OutConn R) (F : Form) (hF : ∀ x y, R.at x y = true → F.curl x y = 0) :
    ∃ G : Form, G.Out R ∧ ∀ x y : Nat, x < R.W → y < R.T → (F.add G).curl x y = 0 := by
  have step : ∀ k, ∃ G : Form, G.Out R ∧ ∀ x y : Nat, x < R.W → y < R.T → y * R.W + x < k → (F.add G).curl x y = 0 := by
    intro k
    induction k with
    | zero => exact ⟨Form.nil, out_nil R, fun x y _ _ h => absurd h (by omega)⟩
    | succ k ih =>
      obtain ⟨G, g1, g2⟩ := ih
      by_cases hk : k % R.W < R.W ∧ k / R.W < R.T
      · obtain ⟨kx, ky⟩ := hk
        have hke := xy_eq k R.W
        cases ha : R.at ((k % R.W : Nat) : Int) ((k / R.W : Nat) : Int) with
        | true =>
          refine ⟨G, g1, fun x y hx hy h => ?_⟩
          rcases Nat.lt_or_ge (y * R.W + x) k with h | h
          · exact g2 x y hx hy h
          · have e : k = y * R.W + x := by omega
            have e1 : k % R.W = x := by rw [e]; exact mk_mod y hx
            have e2 : k / R.W = y := by rw [e]; exact mk_div y hx
            rw [e1, e2] at ha
            rw [curl_add, hF _ _ ha, g1.curl ha]; rfl
        | false =>
          obtain ⟨K, k1, k2⟩ := current hO (free_of kx ky ha)
          refine ⟨G.add (Form.mul (-(F.add G).curl ((k % R.W : Nat) : Int) ((k / R.W : Nat) : Int)) K), g1.add (k1.mul _), fun x y hx hy h => ?_⟩
          have hK := k2 x y
          rw [show ((k % R.W + 1 : Nat) : Int) - 1 = ((k % R.W : Nat) : Int) by omega, show ((k / R.W + 1 : Nat) : Int) - 1 = ((k / R.W : Nat) : Int) by omega, dl_no (a := -1) (b := -1) (by omega)] at hK
          rw [curl_add, curl_add, curl_mul, hK]
          rcases Nat.lt_or_ge (y * R.W + x) k with h | h
          · have h0 := g2 x y hx hy h
            rw [curl_add] at h0
            rw [dl_no (by
              rintro ⟨e1, e2⟩
              have e1' : x = k % R.W := by exact_mod_cast e1
              have e2' : y = k / R.W := by exact_mod_cast e2
              subst e1' e2'
              omega)]
            simp
            omega
          · have e : k = y * R.W + x := by omega
            have e1 : k % R.W = x := by rw [e]; exact mk_mod y hx
            have e2 : k / R.W = y := by rw [e]; exact mk_div y hx
            rw [e1, e2, dl_yes, curl_add]
            simp
            omega
      · refine ⟨G, g1, fun x y hx hy h => ?_⟩
        rcases Nat.lt_or_ge (y * R.W + x) k with h | h
        · exact g2 x y hx hy h
        · have e : k = y * R.W + x := by omega
          have e1 : k % R.W = x := by rw [e]; exact mk_mod y hx
          have e2 : k / R.W = y := by rw [e]; exact mk_div y hx
          exact absurd ⟨by omega, by omega⟩ hk
  obtain ⟨G, g1, g2⟩ := step (R.W * R.T)
  refine ⟨G, g1, fun x y hx hy => g2 x y hx hy ?_⟩
  calc y * R.W + x < y * R.W + R.W := by omega
    _ = (y + 1) * R.W := by rw [Nat.add_mul, Nat.one_mul]
    _ ≤ R.T * R.W := Nat.mul_le_mul_right _ hy
    _ = R.W * R.T := Nat.mul_comm _ _

/-- The sum of the first values of a function. -/
def sumTo (f : Nat → Int) : Nat → Int
  | 0 => 0
  | k + 1 => sumTo f k + f k
/-- A potential: first to the east, then to the north. -/
def Form.pot (F : Form) (x y : Nat) : Int := sumTo (fun i => F.e i 0) x + sumTo (fun j => F.n x j) y
theorem pot_n (F : Form) (x y : Nat) : F.pot x (y + 1) = F.pot x y + F.n x y := by simp only [Form.pot, sumTo]; omega
theorem pot_e (F : Form) (x : Nat) : ∀ y : Nat, (∀ j, j < y → F.curl x j = 0) → F.pot (x + 1) y = F.pot x y + F.e x y
  | 0, _ => by simp only [Form.pot, sumTo]; simp
  | y + 1, h => by
    have h1 := pot_e F x y fun j hj => h j (by omega)
    have h2 := h y (by omega)
    rw [pot_n, pot_n, h1]
    simp only [Form.curl] at h2
    rw [show ((x + 1 : Nat) : Int) = (x : Int) + 1 by omega, show ((y + 1 : Nat) : Int) = (y : Int) + 1 by omega]
    omega

/-- .. so such a form has a potential along every side of a cell of the region. -/
theorem potential {R : Reg} (hO : OutConn R) (F : Form) (hF : ∀ x y, R.at x y = true → F.curl x y = 0) :
    ∃ p : Nat → Nat → Int,
      (∀ x y : Nat, x < R.W → y ≤ R.T → (R.at x y = true ∨ R.at x ((y : Int) - 1) = true) → p (x + 1) y = p x y + F.e x y) ∧
      (∀ x y : Nat, x ≤ R.W → y < R.T → (R.at x y = true ∨ R.at ((x : Int) - 1) y = true) → p x (y + 1) = p x y + F.n x y) := by
  obtain ⟨G, g1, g2⟩ := close_up hO F hF
  refine ⟨(F.add G).pot, fun x y hx hy hu => ?_, fun x y hx hy hu => ?_⟩
  · rw [pot_e (F.add G) x y fun j hj => g2 x j hx (by omega)]
    simp only [Form.add]
    rw [g1.e _ _ hu]; omega
  · rw [pot_n]
    simp only [Form.add]
    rw [g1.n _ _ hu]; omega

end Go.Proofs.Ytbonmnfmlobpbaa
