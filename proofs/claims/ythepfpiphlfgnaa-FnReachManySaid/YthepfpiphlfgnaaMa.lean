/-
  YthepfpiphlfgnaaMa: the texts M0, M1, M2, M3, M4, H0, H1, Q1, Q2 in one file.
-/
import Derived.WalkKit

/-
  YthepfpiphlfgnaaM0: regions, tilings and their cells, in plain Lean: the definitions that all other texts share.
-/
namespace Go.Proofs.Ythepfpiphlfgnaa

def inB (n lo hi : Int) : Bool := decide (lo ≤ n ∧ n ≤ hi)
theorem inB_t {n lo hi : Int} (h : lo ≤ n ∧ n ≤ hi) : inB n lo hi = true := by simp [inB, h]
theorem inB_f {n lo hi : Int} (h : ¬ (lo ≤ n ∧ n ≤ hi)) : inB n lo hi = false := by simp only [inB, decide_eq_false_iff_not]; exact h

def cnt (bs : List Bool) : Nat := bs.countP (· == true)
theorem cnt_snoc (bs : List Bool) (b : Bool) : cnt (bs ++ [b]) = cnt bs + if b = true then 1 else 0 := by
  unfold cnt; rw [List.countP_append]; cases b <;> rfl
theorem cnt_take (bs : List Bool) (k : Nat) (h : k < bs.length) : cnt (bs.take (k + 1)) = cnt (bs.take k) + if bs[k] = true then 1 else 0 := by
  rw [List.take_succ_eq_append_getElem h, cnt_snoc]
theorem cnt_le (bs : List Bool) : cnt bs ≤ bs.length := List.countP_le_length

def validB (W T : Int) (bs : List Bool) : Bool := inB W 1 6 && inB T 1 6 && decide ((bs.length : Int) = W * T) && decide (cnt bs ≤ 24)
theorem mul_bd {a b : Int} (h1 : 1 ≤ a) (h2 : a ≤ 6) (h3 : 1 ≤ b) (h4 : b ≤ 6) : 1 ≤ a * b ∧ a * b ≤ 36 := by
  have ha : a = 1 ∨ a = 2 ∨ a = 3 ∨ a = 4 ∨ a = 5 ∨ a = 6 := by omega
  rcases ha with rfl | rfl | rfl | rfl | rfl | rfl <;> omega
theorem mul_bdN {a b : Nat} (h1 : 1 ≤ a) (h2 : a ≤ 6) (h3 : 1 ≤ b) (h4 : b ≤ 6) : 1 ≤ a * b ∧ a * b ≤ 36 := by
  have ha : a = 1 ∨ a = 2 ∨ a = 3 ∨ a = 4 ∨ a = 5 ∨ a = 6 := by omega
  rcases ha with rfl | rfl | rfl | rfl | rfl | rfl <;> omega
theorem valid_f1 {W T : Int} {bs : List Bool} (h : ¬ (1 ≤ W ∧ W ≤ 6)) : validB W T bs = false := by simp only [validB, inB_f h]; rfl
theorem valid_f2 {W T : Int} {bs : List Bool} (h : ¬ (1 ≤ T ∧ T ≤ 6)) : validB W T bs = false := by simp only [validB, inB_f h]; cases inB W 1 6 <;> rfl
theorem valid_3 {W T : Int} {bs : List Bool} (h1 : 1 ≤ W ∧ W ≤ 6) (h2 : 1 ≤ T ∧ T ≤ 6) : validB W T bs = (decide ((bs.length : Int) = W * T) && decide (cnt bs ≤ 24)) := by
  simp only [validB, inB_t h1, inB_t h2, Bool.true_and]

/-- A region: its field's sides, and for each cell whether it belongs to it. -/
structure Reg where
  W : Nat
  T : Nat
  C : List Bool

def Reg.ok (R : Reg) : Prop := 1 ≤ R.W ∧ R.W ≤ 6 ∧ 1 ≤ R.T ∧ R.T ≤ 6 ∧ R.C.length = R.W * R.T ∧ cnt R.C ≤ 24

theorem reg_of_valid {W T : Int} {bs : List Bool} (h : validB W T bs = true) : ∃ R : Reg, R.ok ∧ W = (R.W : Int) ∧ T = (R.T : Int) ∧ bs = R.C := by
  simp only [validB, inB, Bool.and_eq_true, decide_eq_true_eq] at h
  obtain ⟨⟨⟨⟨a, b⟩, c, d⟩, e⟩, f⟩ := h
  obtain ⟨W, rfl⟩ := Int.eq_ofNat_of_zero_le (show 0 ≤ W by omega)
  obtain ⟨T, rfl⟩ := Int.eq_ofNat_of_zero_le (show 0 ≤ T by omega)
  refine ⟨⟨W, T, bs⟩, ⟨by simp; omega, by simp; omega, by simp; omega, by simp; omega, by exact_mod_cast e, f⟩, rfl, rfl, rfl⟩
theorem valid_of_ok {R : Reg} (h : R.ok) : validB R.W R.T R.C = true := by
  obtain ⟨a, b, c, d, e, f⟩ := h
  simp only [validB, inB, Bool.and_eq_true, decide_eq_true_eq]
  refine ⟨⟨⟨⟨by omega, by omega⟩, by omega, by omega⟩, by rw [e]; simp⟩, f⟩

/-- Does the cell in a column and a row belong to a region? Outside of the field none does. -/
def Reg.at (R : Reg) (x y : Int) : Bool := decide (0 ≤ x ∧ x < R.W ∧ 0 ≤ y ∧ y < R.T) && R.C.getD (y * R.W + x).toNat false

/-- The cell beside a cell in a direction, -1 if there is none. -/
def Reg.step (R : Reg) (c : Nat) (way : Int) : Int :=
  if way = 1 then (if c % R.W + 1 < R.W then (c : Int) + 1 else -1)
  else if way = 2 then (if c / R.W + 1 < R.T then (c : Int) + R.W else -1)
  else if way = 3 then (if 0 < c % R.W then (c : Int) - 1 else -1)
  else if way = 4 then (if 0 < c / R.W then (c : Int) - R.W else -1)
  else -1

def back (way : Int) : Int := (way + 1) % 4 + 1

theorem at_out {R : Reg} {x y : Int} (h : ¬ (0 ≤ x ∧ x < R.W ∧ 0 ≤ y ∧ y < R.T)) : R.at x y = false := by
  simp only [Reg.at, decide_eq_false h, Bool.false_and]
theorem at_in {R : Reg} {x y : Nat} (hx : x < R.W) (hy : y < R.T) : R.at x y = R.C.getD (y * R.W + x) false := by
  simp only [Reg.at]
  rw [decide_eq_true (by omega), Bool.true_and]
  congr 1
theorem idx_lt {R : Reg} (hR : R.ok) {x y : Nat} (hx : x < R.W) (hy : y < R.T) : y * R.W + x < R.C.length := by
  rw [hR.2.2.2.2.1, Nat.mul_comm R.W R.T]
  calc y * R.W + x < y * R.W + R.W := by omega
    _ = (y + 1) * R.W := by rw [Nat.add_mul, Nat.one_mul]
    _ ≤ R.T * R.W := Nat.mul_le_mul_right _ hy
theorem len_bd {R : Reg} (hR : R.ok) : 1 ≤ R.C.length ∧ R.C.length ≤ 36 := by
  rw [hR.2.2.2.2.1]; exact mul_bdN hR.1 hR.2.1 hR.2.2.1 hR.2.2.2.1
theorem xy_lt {R : Reg} (hR : R.ok) {c : Nat} (hc : c < R.C.length) : c % R.W < R.W ∧ c / R.W < R.T := by
  have h := hR.2.2.2.2.1
  have h1 := hR.1
  refine ⟨Nat.mod_lt _ (by omega), ?_⟩
  rw [Nat.div_lt_iff_lt_mul (by omega), Nat.mul_comm]; omega
theorem xy_eq (c W : Nat) : c / W * W + c % W = c := by rw [Nat.mul_comm]; exact Nat.div_add_mod c W

end Go.Proofs.Ythepfpiphlfgnaa

/-
  YthepfpiphlfgnaaM1: what hangs together: chains of neighbours, and when a region has one part and one outside; in plain Lean.
-/
namespace Go.Proofs.Ythepfpiphlfgnaa

/-! ### Chains -/
def Near (A : Nat → Nat → Prop) : Nat → Nat → Nat → Prop
  | 0, c, d => c = d
  | k + 1, c, d => Near A k c d ∨ ∃ e, A c e ∧ Near A k e d
def Linked (A : Nat → Nat → Prop) (c d : Nat) : Prop := ∃ k, Near A k c d

theorem near_mono {A : Nat → Nat → Prop} {k : Nat} {c d : Nat} (h : Near A k c d) : Near A (k + 1) c d := .inl h
theorem near_le {A : Nat → Nat → Prop} {k j : Nat} {c d : Nat} (h : Near A k c d) (hj : k ≤ j) : Near A j c d := by
  obtain ⟨i, rfl⟩ : ∃ i, j = k + i := ⟨j - k, by omega⟩
  clear hj
  induction i with
  | zero => exact h
  | succ i ih => exact .inl ih
theorem linked_refl {A : Nat → Nat → Prop} (c : Nat) : Linked A c c := ⟨0, rfl⟩
theorem linked_step {A : Nat → Nat → Prop} {c e d : Nat} (h : A c e) (h' : Linked A e d) : Linked A c d := by
  obtain ⟨k, hk⟩ := h'
  exact ⟨k + 1, .inr ⟨e, h, hk⟩⟩
/-- What holds at one end of a chain, and is handed on from neighbour to neighbour, holds at the other. -/
theorem linked_ind {A : Nat → Nat → Prop} {P : Nat → Prop} (hs : ∀ c e, A c e → P e → P c) {c d : Nat} (h : Linked A c d) (hd : P d) : P c := by
  obtain ⟨k, hk⟩ := h
  induction k generalizing c with
  | zero => cases hk; exact hd
  | succ k ih =>
    rcases hk with hk | ⟨e, he, hk⟩
    · exact ih hk
    · exact hs _ _ he (ih hk)
theorem linked_trans {A : Nat → Nat → Prop} {c d e : Nat} (h : Linked A c d) (h' : Linked A d e) : Linked A c e :=
  linked_ind (P := fun x => Linked A x e) (fun _ _ ha hb => linked_step ha hb) h h'
theorem linked_one {A : Nat → Nat → Prop} {c e : Nat} (h : A c e) : Linked A c e := linked_step h (linked_refl e)
theorem linked_symm {A : Nat → Nat → Prop} (hA : ∀ c e, A c e → A e c) {c d : Nat} (h : Linked A c d) : Linked A d c :=
  linked_ind (P := fun x => Linked A d x) (fun _ _ ha hb => linked_trans hb (linked_one (hA _ _ ha))) h (linked_refl d)

theorem countP_lt {α : Type} {p q : α → Bool} : ∀ {l : List α}, (∀ x ∈ l, p x = true → q x = true) → (∃ x ∈ l, q x = true ∧ p x = false) → l.countP p < l.countP q
  | [], _, ⟨x, hx, _⟩ => by cases hx
  | a :: l, h, ⟨x, hx, hq, hp⟩ => by
    have hl : l.countP p ≤ l.countP q := List.countP_mono_left fun x hx => h x (List.mem_cons_of_mem _ hx)
    rw [List.countP_cons, List.countP_cons]
    rcases List.mem_cons.1 hx with rfl | hx
    · rw [hq, hp]; simp; omega
    · have := countP_lt (fun x hx => h x (List.mem_cons_of_mem _ hx)) ⟨x, hx, hq, hp⟩
      have ha := h a (List.mem_cons_self ..)
      by_cases hpa : p a = true
      · rw [hpa, ha hpa]; simp; omega
      · simp [hpa]; split <;> omega

open Classical in
/-- n places: a chain between them need not be longer than n. -/
theorem near_bound {A : Nat → Nat → Prop} {n : Nat} (hA : ∀ c e, A c e → c < n ∧ e < n) {d : Nat} (hd : d < n) {c : Nat} (h : Linked A c d) : Near A n c d := by
  let f : Nat → Nat := fun k => (List.range n).countP fun x => decide (Near A k x d)
  let Cl : Nat → Prop := fun k => ∀ c e, A c e → Near A k e d → Near A k c d
  have hcl : ∀ k, Cl k → ∀ j c, Near A j c d → Near A k c d := by
    intro k hk j
    induction j with
    | zero => intro c hc; exact near_le (k := 0) hc (Nat.zero_le _)
    | succ j ih =>
      intro c hc
      rcases hc with hc | ⟨e, he, hc⟩
      · exact ih c hc
      · exact hk c e he (ih e hc)
  have key : ∀ k, Cl k ∨ k + 1 ≤ f k := by
    intro k
    induction k with
    | zero =>
      refine .inr ?_
      have : 0 < f 0 := List.countP_pos_iff.2 ⟨d, List.mem_range.2 hd, by simp [Near]⟩
      omega
    | succ k ih =>
      by_cases hk : Cl k
      · refine .inl fun c e he hn => near_mono (hk c e he (hcl k hk (k + 1) e hn))
      · rcases ih with ih | ih
        · exact absurd ih hk
        · refine .inr ?_
          have : ∃ c e, A c e ∧ Near A k e d ∧ ¬ Near A k c d := by
            refine Classical.byContradiction fun hno => hk fun c e he hn => Classical.byContradiction fun hc => hno ⟨c, e, he, hn, hc⟩
          obtain ⟨c, e, he, hn, hc⟩ := this
          have : f k < f (k + 1) := countP_lt (fun x _ hx => by simpa using near_mono (by simpa using hx)) ⟨c, List.mem_range.2 (hA c e he).1, by simpa using .inr ⟨e, he, hn⟩, by simpa using hc⟩
          omega
  have hn : Cl n := by
    rcases key n with h | h
    · exact h
    · have : f n ≤ (List.range n).length := List.countP_le_length
      rw [List.length_range] at this
      omega
  obtain ⟨k, hk⟩ := h
  exact hcl n hn k c hk

/-! ### Columns and rows -/
theorem mk_mod {x W : Nat} (y : Nat) (h : x < W) : (y * W + x) % W = x := by rw [Nat.mul_comm, Nat.mul_add_mod]; exact Nat.mod_eq_of_lt h
theorem mk_div {x W : Nat} (y : Nat) (h : x < W) : (y * W + x) / W = y := by
  rw [Nat.mul_comm, Nat.mul_add_div (by omega), Nat.div_eq_of_lt h, Nat.add_zero]

/-! ### A region's cells and their neighbours -/
def Reg.cell (R : Reg) (c : Nat) : Prop := R.C[c]? = some true
def Reg.A (R : Reg) (c e : Nat) : Prop := R.cell c ∧ R.cell e ∧ ∃ way : Nat, 1 ≤ way ∧ way ≤ 4 ∧ R.step c way = (e : Int)

theorem cell_lt {R : Reg} {c : Nat} (h : R.cell c) : c < R.C.length := by
  unfold Reg.cell at h
  exact (List.getElem?_eq_some_iff.1 h).1

theorem step_cases {R : Reg} {c : Nat} {way : Int} {e : Nat} (h : R.step c way = (e : Int)) :
    (way = 1 ∧ c % R.W + 1 < R.W ∧ e = c + 1) ∨ (way = 2 ∧ c / R.W + 1 < R.T ∧ e = c + R.W) ∨ (way = 3 ∧ 0 < c % R.W ∧ e + 1 = c) ∨ (way = 4 ∧ 0 < c / R.W ∧ e + R.W = c) := by
  unfold Reg.step at h
  split at h
  · split at h <;> first | exact .inl ⟨by omega, by omega, by omega⟩ | omega
  split at h
  · split at h <;> first | exact .inr (.inl ⟨by omega, by omega, by omega⟩) | omega
  split at h
  · split at h <;> first | exact .inr (.inr (.inl ⟨by omega, by omega, by omega⟩)) | omega
  split at h
  · split at h <;> first | exact .inr (.inr (.inr ⟨by omega, by omega, by omega⟩)) | omega
  omega

theorem step_back {R : Reg} {c e : Nat} {way : Int} (hW : 1 ≤ R.W) (hc : c / R.W < R.T) (h : R.step c way = (e : Int)) : R.step e (back way) = (c : Int) := by
  have hxy := xy_eq c R.W
  have hx : c % R.W < R.W := Nat.mod_lt _ (by omega)
  rcases step_cases h with ⟨rfl, h1, rfl⟩ | ⟨rfl, h1, rfl⟩ | ⟨rfl, h1, he⟩ | ⟨rfl, h1, he⟩
  · have e1 : c + 1 = c / R.W * R.W + (c % R.W + 1) := by omega
    have := mk_mod (c / R.W) h1
    rw [← e1] at this
    simp [Reg.step, back, this]
  · have e1 : c + R.W = (c / R.W + 1) * R.W + c % R.W := by rw [Nat.add_mul]; omega
    have := mk_div (c / R.W + 1) hx
    rw [← e1] at this
    simp [Reg.step, back, this]
  · have e1 : e = c / R.W * R.W + (c % R.W - 1) := by omega
    have h2 : c % R.W - 1 < R.W := by omega
    have := mk_mod (c / R.W) h2
    rw [← e1] at this
    simp [Reg.step, back, this]
    omega
  · obtain ⟨q, hq⟩ : ∃ q, c / R.W = q + 1 := ⟨c / R.W - 1, by omega⟩
    have e1 : e = q * R.W + c % R.W := by rw [hq, Nat.add_mul] at hxy; omega
    have := mk_div q hx
    rw [← e1] at this
    simp [Reg.step, back, this]
    omega

theorem step_range {R : Reg} (hR : R.ok) {j : Nat} (hj : j < R.C.length) (way : Int) : R.step j way = -1 ∨ ∃ e : Nat, R.step j way = (e : Int) ∧ e < R.C.length := by
  have hp := xy_lt hR hj
  have hq := xy_eq j R.W
  unfold Reg.step
  split
  · split
    · refine .inr ⟨j + 1, by omega, ?_⟩
      have := idx_lt hR (x := j % R.W + 1) (y := j / R.W) (by omega) hp.2
      omega
    · exact .inl rfl
  split
  · split
    · refine .inr ⟨j + R.W, by omega, ?_⟩
      have := idx_lt hR (x := j % R.W) (y := j / R.W + 1) hp.1 (by omega)
      rw [Nat.add_mul] at this
      omega
    · exact .inl rfl
  split
  · split
    · exact .inr ⟨j - 1, by omega, by omega⟩
    · exact .inl rfl
  split
  · split
    · refine .inr ⟨j - R.W, ?_, by omega⟩
      have h1 : 1 * R.W ≤ j / R.W * R.W := Nat.mul_le_mul_right _ (by omega)
      omega
    · exact .inl rfl
  exact .inl rfl

theorem back_in {way : Nat} (h : 1 ≤ way ∧ way ≤ 4) : ∃ w' : Nat, 1 ≤ w' ∧ w' ≤ 4 ∧ back (way : Int) = (w' : Int) := by
  obtain ⟨h1, h2⟩ := h
  have : way = 1 ∨ way = 2 ∨ way = 3 ∨ way = 4 := by omega
  rcases this with rfl | rfl | rfl | rfl
  · exact ⟨3, by omega, by omega, by decide⟩
  · exact ⟨4, by omega, by omega, by decide⟩
  · exact ⟨1, by omega, by omega, by decide⟩
  · exact ⟨2, by omega, by omega, by decide⟩

theorem A_symm {R : Reg} (hR : R.ok) {c e : Nat} (h : R.A c e) : R.A e c := by
  obtain ⟨h1, h2, way, w1, w2, hs⟩ := h
  obtain ⟨w', v1, v2, hb⟩ := back_in ⟨w1, w2⟩
  refine ⟨h2, h1, w', v1, v2, ?_⟩
  rw [← hb]
  exact step_back hR.1 (xy_lt hR (cell_lt h1)).2 hs
theorem A_lt {R : Reg} {c e : Nat} (h : R.A c e) : c < R.C.length ∧ e < R.C.length := ⟨cell_lt h.1, cell_lt h.2.1⟩

/-- A region of one part. -/
def InConn (R : Reg) : Prop := (∃ c, R.cell c) ∧ ∀ c d, R.cell c → R.cell d → Linked R.A c d

/-! ### The numbers of parts: what the rounds keep, and what they have come to in the end -/
/-- After some rounds: every cell has the number of a cell of its own part; of all that are so near, none is less. -/
structure Parts (R : Reg) (k : Nat) (L : List Int) : Prop where
  len : L.length = R.C.length
  no : ∀ c : Nat, c < R.C.length → ¬ R.cell c → L[c]? = some (-1)
  yes : ∀ c : Nat, R.cell c → ∃ m : Nat, L[c]? = some (m : Int) ∧ R.cell m ∧ Linked R.A c m
  low : ∀ (c d : Nat) (m : Int), R.cell c → L[c]? = some m → Near R.A k c d → m ≤ d

theorem parts_same {R : Reg} (_hR : R.ok) {L : List Int} (h : Parts R R.C.length L) {c e : Nat} (ha : R.A c e) : L[c]? = L[e]? := by
  have key : ∀ c e, R.A c e → ∀ m m' : Nat, L[c]? = some (m : Int) → L[e]? = some (m' : Int) → (m : Int) ≤ m' := by
    intro c e ha m m' hm hm'
    obtain ⟨m'', h1, h2, h3⟩ := h.yes e ha.2.1
    rw [hm'] at h1
    injection h1 with h1
    obtain rfl : m' = m'' := by omega
    exact h.low c m' m ha.1 hm (near_bound (fun _ _ => A_lt) (cell_lt h2) (linked_step ha h3))
  obtain ⟨m, h1, _⟩ := h.yes c ha.1
  obtain ⟨m', h2, _⟩ := h.yes e ha.2.1
  have k1 := key c e ha m m' h1 h2
  have k2 := key e c (A_symm _hR ha) m' m h2 h1
  rw [h1, h2]
  congr 1
  omega

theorem parts_all {R : Reg} (hR : R.ok) {L : List Int} (h : Parts R R.C.length L) {c d : Nat} (hl : Linked R.A c d) : L[c]? = L[d]? :=
  linked_ind (P := fun x => L[x]? = L[d]?) (fun _ _ ha hb => (parts_same hR h ha).trans hb) hl rfl

/-- How many cells bear their own number. -/
def roots (L : List Int) : Nat := (List.range L.length).countP fun c : Nat => decide (L[c]? = some (c : Int))

theorem roots_one {R : Reg} (hR : R.ok) {L : List Int} (h : Parts R R.C.length L) : roots L = 1 ↔ InConn R := by
  have root_of : ∀ c, R.cell c → ∃ m : Nat, L[c]? = some (m : Int) ∧ R.cell m ∧ L[m]? = some (m : Int) ∧ Linked R.A c m := by
    intro c hc
    obtain ⟨m, h1, h2, h3⟩ := h.yes c hc
    exact ⟨m, h1, h2, (parts_all hR h h3).symm.trans h1, h3⟩
  have cell_of : ∀ m : Nat, L[m]? = some (m : Int) → R.cell m := by
    intro m hm
    refine Classical.byContradiction fun hno => ?_
    have hlt : m < R.C.length := by rw [← h.len]; exact (List.getElem?_eq_some_iff.1 hm).1
    have := h.no m hlt hno
    rw [hm] at this
    injection this with this
    omega
  have hsub : ∀ m : Nat, L[m]? = some (m : Int) → m ∈ List.range L.length := fun m hm => List.mem_range.2 (List.getElem?_eq_some_iff.1 hm).1
  constructor
  · intro h1
    have hpos : 0 < roots L := by omega
    obtain ⟨r, hr, hr'⟩ := List.countP_pos_iff.1 hpos
    have hr2 : L[r]? = some (r : Int) := by simpa using hr'
    have uniq : ∀ m : Nat, L[m]? = some (m : Int) → m = r := by
      intro m hm
      refine Classical.byContradiction fun hne => ?_
      have : (List.range L.length).countP (fun c => decide (c = r)) < roots L :=
        countP_lt (fun x _ hx => by have : x = r := by simpa using hx
                                    subst this; simpa using hr2) ⟨m, hsub m hm, by simpa using hm, by simpa using hne⟩
      have : 0 < (List.range L.length).countP (fun c => decide (c = r)) := List.countP_pos_iff.2 ⟨r, hr, by simp⟩
      omega
    refine ⟨⟨r, cell_of r hr2⟩, fun c d hc hd => ?_⟩
    obtain ⟨m, _, _, m3, m4⟩ := root_of c hc
    obtain ⟨m', _, _, n3, n4⟩ := root_of d hd
    rw [uniq m m3] at m4
    rw [uniq m' n3] at n4
    exact linked_trans m4 (linked_symm (fun _ _ => A_symm hR) n4)
  · rintro ⟨⟨c0, hc0⟩, hall⟩
    obtain ⟨r, _, r2, r3, _⟩ := root_of c0 hc0
    have e : roots L = (List.range L.length).countP (fun c => decide (c = r)) := by
      refine List.countP_congr fun x _ => ?_
      simp only [decide_eq_true_eq]
      constructor
      · intro hx
        have := parts_all hR h (hall x r (cell_of x hx) r2)
        rw [hx, r3] at this
        injection this with this
        omega
      · rintro rfl; exact r3
    rw [e]
    have hr : r < L.length := List.mem_range.1 (hsub r r3)
    generalize L.length = n at hr
    clear e
    induction n with
    | zero => omega
    | succ n ih =>
      rw [List.range_succ, List.countP_append]
      by_cases hrn : r = n
      · subst hrn
        have : (List.range r).countP (fun c => decide (c = r)) = 0 := by
          rw [List.countP_eq_zero]; intro a ha; have := List.mem_range.1 ha; simp; omega
        simp [this]
      · rw [ih (by omega)]
        simp; omega

end Go.Proofs.Ythepfpiphlfgnaa

/-
  YthepfpiphlfgnaaM2: the rounds in which the numbers of parts come down, step by step; in plain Lean.
-/
namespace Go.Proofs.Ythepfpiphlfgnaa

/-- What every list of numbers of parts keeps. -/
structure PBase (R : Reg) (L : List Int) : Prop where
  len : L.length = R.C.length
  no : ∀ c : Nat, c < R.C.length → ¬ R.cell c → L[c]? = some (-1)
  yes : ∀ c : Nat, R.cell c → ∃ m : Nat, L[c]? = some (m : Int) ∧ R.cell m ∧ Linked R.A c m
def Low (R : Reg) (K : Nat) (L : List Int) (c e : Nat) : Prop := ∀ (d : Nat) (m : Int), L[c]? = some m → Near R.A K e d → m ≤ d

theorem pbase_cell {R : Reg} {L : List Int} (h : PBase R L) {c : Nat} {m : Int} (hm : L[c]? = some m) (h0 : 0 ≤ m) : R.cell c := by
  refine Classical.byContradiction fun hno => ?_
  have hlt : c < R.C.length := by rw [← h.len]; exact (List.getElem?_eq_some_iff.1 hm).1
  have := h.no c hlt hno
  rw [hm] at this
  injection this with this
  omega
theorem pbase_nonneg {R : Reg} {L : List Int} (h : PBase R L) {c : Nat} {m : Int} (hm : L[c]? = some m) (hc : R.cell c) : 0 ≤ m := by
  obtain ⟨m', h1, _⟩ := h.yes c hc
  rw [hm] at h1
  injection h1 with h1
  omega
theorem pbase_bd {R : Reg} {L : List Int} (h : PBase R L) {c : Nat} {m : Int} (hm : L[c]? = some m) : -1 ≤ m ∧ m ≤ R.C.length := by
  have hlt : c < R.C.length := by rw [← h.len]; exact (List.getElem?_eq_some_iff.1 hm).1
  by_cases hc : R.cell c
  · obtain ⟨m', h1, h2, _⟩ := h.yes c hc
    rw [hm] at h1
    injection h1 with h1
    have := cell_lt h2
    omega
  · have := h.no c hlt hc
    rw [hm] at this
    injection this with this
    omega

/-- One number comes down to a neighbour's. -/
theorem pbase_set {R : Reg} {L : List Int} (h : PBase R L) {j e : Nat} {a b : Int} (ha : L[j]? = some a) (hb : L[e]? = some b) (hj : R.cell j) (he : R.cell e) (hl : Linked R.A j e) : PBase R (L.set j (min a b)) := by
  have hjl : j < L.length := by rw [h.len]; exact cell_lt hj
  refine ⟨by simpa using h.len, fun c hc hno => ?_, fun c hc => ?_⟩
  · rw [List.getElem?_set]
    by_cases hjc : j = c
    · subst hjc; exact absurd hj hno
    · rw [if_neg hjc]; exact h.no c hc hno
  · rw [List.getElem?_set]
    by_cases hjc : j = c
    · subst hjc
      rw [if_pos rfl, if_pos hjl]
      by_cases hab : a ≤ b
      · obtain ⟨m, h1, h2, h3⟩ := h.yes j hj
        rw [ha] at h1
        injection h1 with h1
        exact ⟨m, by rw [Int.min_eq_left hab, h1], h2, h3⟩
      · obtain ⟨m, h1, h2, h3⟩ := h.yes e he
        rw [hb] at h1
        injection h1 with h1
        exact ⟨m, by rw [Int.min_eq_right (by omega), h1], h2, linked_trans hl h3⟩
    · rw [if_neg hjc]; exact h.yes c hc

theorem low_set {R : Reg} {K : Nat} {L : List Int} {j c e : Nat} {a x : Int} (ha : L[j]? = some a) (hx : x ≤ a) (h : Low R K L c e) : Low R K (L.set j x) c e := by
  intro d m hm hd
  rw [List.getElem?_set] at hm
  by_cases hjc : j = c
  · subst hjc
    rw [if_pos rfl] at hm
    split at hm
    · injection hm with hm
      have := h d a ha hd
      omega
    · cases hm
  · rw [if_neg hjc] at hm
    exact h d m hm hd
theorem low_set_new {R : Reg} {K : Nat} {L : List Int} {j e : Nat} {b x : Int} (hb : L[e]? = some b) (hx : x ≤ b) (h : Low R K L e e) : Low R K (L.set j x) j e := by
  intro d m hm hd
  rw [List.getElem?_set, if_pos rfl] at hm
  split at hm
  · injection hm with hm
    have := h d b hb hd
    omega
  · cases hm

/-! ### The program's rounds -/
structure PMid (R : Reg) (K j v : Nat) (L : List Int) : Prop where
  base : PBase R L
  all : ∀ c, R.cell c → Low R K L c c
  done : ∀ c, c < j → ∀ e, R.A c e → Low R K L c e
  part : ∀ way : Nat, 1 ≤ way → way < v → ∀ e : Nat, R.step j (way : Int) = (e : Int) → R.A j e → Low R K L j e

theorem pmid_start {R : Reg} {K : Nat} {L : List Int} (h : Parts R K L) : PMid R K 0 1 L :=
  ⟨⟨h.len, h.no, h.yes⟩, fun c hc d m hm hd => h.low c d m hc hm hd, fun c hc => by omega, fun way h1 h2 => by omega⟩
theorem pmid_end {R : Reg} {K : Nat} {L : List Int} (h : PMid R K R.C.length 1 L) : Parts R (K + 1) L := by
  refine ⟨h.base.len, h.base.no, h.base.yes, fun c d m hc hm hd => ?_⟩
  rcases hd with hd | ⟨e, he, hd⟩
  · exact h.all c hc d m hm hd
  · exact h.done c (cell_lt hc) e he d m hm hd
theorem pmid_next {R : Reg} {K j : Nat} {L : List Int} (h : PMid R K j 5 L) : PMid R K (j + 1) 1 L := by
  refine ⟨h.base, h.all, fun c hc e he => ?_, fun way h1 h2 => by omega⟩
  by_cases hcj : c = j
  · subst hcj
    obtain ⟨_, _, way, w1, w2, hs⟩ := id he
    exact h.part way w1 (by omega) e hs he
  · exact h.done c (by omega) e he
theorem pmid_skip {R : Reg} {K j v : Nat} {L : List Int} (h : PMid R K j v L) (hno : ∀ e : Nat, R.step j (v : Int) = (e : Int) → ¬ R.A j e) : PMid R K j (v + 1) L := by
  refine ⟨h.base, h.all, h.done, fun way h1 h2 e hs he => ?_⟩
  by_cases hv : way = v
  · subst hv; exact absurd he (hno e hs)
  · exact h.part way h1 (by omega) e hs he
theorem pmid_set {R : Reg} {K j v : Nat} {L : List Int} (h : PMid R K j v L) {e : Nat} {a b : Int} (hv : 1 ≤ v ∧ v ≤ 4) (hs : R.step j (v : Int) = (e : Int)) (ha : L[j]? = some a) (hb : L[e]? = some b) (ha0 : 0 ≤ a) (hb0 : 0 ≤ b) :
    PMid R K j (v + 1) (L.set j (min a b)) := by
  have hj := pbase_cell h.base ha ha0
  have he := pbase_cell h.base hb hb0
  have hA : R.A j e := ⟨hj, he, v, hv.1, hv.2, hs⟩
  refine ⟨pbase_set h.base ha hb hj he (linked_one hA), fun c hc => low_set ha (Int.min_le_left _ _) (h.all c hc), fun c hc e' he' => low_set ha (Int.min_le_left _ _) (h.done c hc e' he'), fun way h1 h2 e' hs' he' => ?_⟩
  by_cases hvv : way = v
  · subst hvv
    rw [hs] at hs'
    obtain rfl : e = e' := by omega
    exact low_set_new hb (Int.min_le_right _ _) (h.all e he)
  · exact low_set ha (Int.min_le_left _ _) (h.part way h1 (by omega) e' hs' he')

/-- The first numbers: each cell its own. -/
theorem parts_first {R : Reg} {L : List Int} (hl : L.length = R.C.length) (h : ∀ c : Nat, c < R.C.length → L[c]? = some (if R.C[c]? = some true then (c : Int) else -1)) : Parts R 0 L := by
  refine ⟨hl, fun c hc hno => ?_, fun c hc => ⟨c, ?_, hc, linked_refl c⟩, fun c d m hc hm hd => ?_⟩
  · rw [h c hc, if_neg (show ¬ R.C[c]? = some true from hno)]
  · rw [h c (cell_lt hc), if_pos (show R.C[c]? = some true from hc)]
  · rw [h c (cell_lt hc), if_pos (show R.C[c]? = some true from hc)] at hm
    injection hm with hm
    cases hd
    omega

/-! ### The reference's rounds: both ends of a side come down -/
def Side (R : Reg) (a b : Nat) : Prop := (b + 1 = a ∧ 0 < a % R.W) ∨ b + R.W = a
theorem side_of {R : Reg} {a b : Nat} (h : R.A a b) : Side R a b ∨ Side R b a := by
  obtain ⟨h1, h2, way, w1, w2, hs⟩ := h
  rcases step_cases hs with ⟨_, h3, rfl⟩ | ⟨_, h3, rfl⟩ | ⟨_, h3, he⟩ | ⟨_, h3, he⟩
  · refine .inr (.inl ⟨rfl, ?_⟩)
    have e1 : a + 1 = a / R.W * R.W + (a % R.W + 1) := by have := xy_eq a R.W; omega
    rw [e1, mk_mod _ h3]; omega
  · exact .inr (.inr rfl)
  · exact .inl (.inl ⟨he, h3⟩)
  · exact .inl (.inr he)
theorem side_A {R : Reg} (hR : R.ok) {a b : Nat} (h : Side R a b) (ha : R.cell a) (hb : R.cell b) : R.A a b := by
  have hp := xy_lt hR (cell_lt ha)
  rcases h with ⟨h, h'⟩ | h
  · exact ⟨ha, hb, 3, by omega, by omega, by simp [Reg.step, h']; omega⟩
  · have h1 : 0 < a / R.W := by
      rw [← h, Nat.add_div_right _ (by have := hR.1; omega)]; exact Nat.succ_pos _
    exact ⟨ha, hb, 4, by omega, by omega, by unfold Reg.step; simp only [if_neg (show ¬ (((4 : Nat) : Int) = 1) by omega), if_neg (show ¬ (((4 : Nat) : Int) = 2) by omega), if_neg (show ¬ (((4 : Nat) : Int) = 3) by omega), if_pos h1]; simp; omega⟩

structure SMid (R : Reg) (K j v : Nat) (L : List Int) : Prop where
  base : PBase R L
  all : ∀ c, R.cell c → Low R K L c c
  done : ∀ a b, a < j → Side R a b → R.cell a → R.cell b → Low R K L a b ∧ Low R K L b a
  west : 1 ≤ v → ∀ b, b + 1 = j → 0 < j % R.W → R.cell j → R.cell b → Low R K L j b ∧ Low R K L b j
  south : 2 ≤ v → ∀ b, b + R.W = j → R.cell j → R.cell b → Low R K L j b ∧ Low R K L b j

theorem smid_start {R : Reg} {K : Nat} {L : List Int} (h : Parts R K L) : SMid R K 0 0 L :=
  ⟨⟨h.len, h.no, h.yes⟩, fun c hc d m hm hd => h.low c d m hc hm hd, fun a b ha => by omega, fun h1 => by omega, fun h1 => by omega⟩
theorem smid_end {R : Reg} {K : Nat} {L : List Int} (h : SMid R K R.C.length 0 L) : Parts R (K + 1) L := by
  refine ⟨h.base.len, h.base.no, h.base.yes, fun c d m hc hm hd => ?_⟩
  rcases hd with hd | ⟨e, he, hd⟩
  · exact h.all c hc d m hm hd
  · rcases side_of he with hs | hs
    · exact (h.done c e (cell_lt hc) hs hc he.2.1).1 d m hm hd
    · exact (h.done e c (cell_lt he.2.1) hs he.2.1 hc).2 d m hm hd
theorem smid_next {R : Reg} {K j : Nat} {L : List Int} (h : SMid R K j 2 L) : SMid R K (j + 1) 0 L := by
  refine ⟨h.base, h.all, fun a b ha hs hca hcb => ?_, fun h1 => by omega, fun h1 => by omega⟩
  by_cases haj : a = j
  · subst haj
    rcases hs with ⟨h1, h2⟩ | h1
    · exact h.west (by omega) b h1 h2 hca hcb
    · exact h.south (by omega) b h1 hca hcb
  · exact h.done a b (by omega) hs hca hcb
theorem smid_skip1 {R : Reg} {K j : Nat} {L : List Int} (h : SMid R K j 0 L) (hno : ∀ b, b + 1 = j → 0 < j % R.W → R.cell j → R.cell b → False) : SMid R K j 1 L :=
  ⟨h.base, h.all, h.done, fun _ b h1 h2 h3 h4 => (hno b h1 h2 h3 h4).elim, fun h1 => by omega⟩
theorem smid_skip2 {R : Reg} {K j : Nat} {L : List Int} (h : SMid R K j 1 L) (hno : ∀ b, b + R.W = j → R.cell j → R.cell b → False) : SMid R K j 2 L :=
  ⟨h.base, h.all, h.done, fun _ => h.west (by omega), fun _ b h1 h3 h4 => (hno b h1 h3 h4).elim⟩

theorem set_both {R : Reg} (hR : R.ok) {L : List Int} (h : PBase R L) {j e : Nat} {a b : Int} (ha : L[j]? = some a) (hb : L[e]? = some b) (hA : R.A j e) (hne : j ≠ e) :
    PBase R ((L.set j (min a b)).set e (min a b)) ∧ (∀ K c d, Low R K L c d → Low R K ((L.set j (min a b)).set e (min a b)) c d) ∧
      (∀ K, Low R K L e e → Low R K ((L.set j (min a b)).set e (min a b)) j e) ∧ (∀ K, Low R K L j j → Low R K ((L.set j (min a b)).set e (min a b)) e j) := by
  have h1 := pbase_set h ha hb hA.1 hA.2.1 (linked_one hA)
  have hjl : j < L.length := (List.getElem?_eq_some_iff.1 ha).1
  have e1 : (L.set j (min a b))[j]? = some (min a b) := by rw [List.getElem?_set, if_pos rfl, if_pos hjl]
  have e2 : (L.set j (min a b))[e]? = some b := by rw [List.getElem?_set, if_neg hne]; exact hb
  have h2 := pbase_set h1 e2 e1 hA.2.1 hA.1 (linked_one (A_symm hR hA))
  have em : min b (min a b) = min a b := by omega
  rw [em] at h2
  have hx1 : min a b ≤ a := Int.min_le_left _ _
  have hx2 : min a b ≤ b := Int.min_le_right _ _
  refine ⟨h2, fun K c d hl => low_set e2 hx2 (low_set ha hx1 hl), fun K hl => low_set e2 hx2 (low_set_new hb hx2 hl), fun K hl => ?_⟩
  refine low_set_new e1 (Int.le_refl _) ?_
  exact low_set ha hx1 hl

theorem smid_set1 {R : Reg} (hR : R.ok) {K j e : Nat} {L : List Int} (h : SMid R K j 0 L) {a b : Int} (he1 : e + 1 = j) (hm : 0 < j % R.W) (ha : L[j]? = some a) (hb : L[e]? = some b) (ha0 : 0 ≤ a) (hb0 : 0 ≤ b) :
    SMid R K j 1 ((L.set j (min a b)).set e (min a b)) := by
  have hj := pbase_cell h.base ha ha0
  have he := pbase_cell h.base hb hb0
  have hA := side_A hR (.inl ⟨he1, hm⟩) hj he
  obtain ⟨k1, k2, k3, k4⟩ := set_both hR h.base ha hb hA (by omega)
  refine ⟨k1, fun c hc => k2 K c c (h.all c hc), fun x y hx hs hcx hcy => ⟨k2 K x y (h.done x y hx hs hcx hcy).1, k2 K y x (h.done x y hx hs hcx hcy).2⟩, fun _ y hy _ _ _ => ?_, fun h1 => by omega⟩
  obtain rfl : y = e := by omega
  exact ⟨k3 K (h.all y he), k4 K (h.all j hj)⟩
theorem smid_set2 {R : Reg} (hR : R.ok) {K j e : Nat} {L : List Int} (h : SMid R K j 1 L) {a b : Int} (he1 : e + R.W = j) (ha : L[j]? = some a) (hb : L[e]? = some b) (ha0 : 0 ≤ a) (hb0 : 0 ≤ b) :
    SMid R K j 2 ((L.set j (min a b)).set e (min a b)) := by
  have hj := pbase_cell h.base ha ha0
  have he := pbase_cell h.base hb hb0
  have hA := side_A hR (.inr he1) hj he
  obtain ⟨k1, k2, k3, k4⟩ := set_both hR h.base ha hb hA (by have := hR.1; omega)
  refine ⟨k1, fun c hc => k2 K c c (h.all c hc), fun x y hx hs hcx hcy => ⟨k2 K x y (h.done x y hx hs hcx hcy).1, k2 K y x (h.done x y hx hs hcx hcy).2⟩,
    fun _ y h1 h2 h3 h4 => ⟨k2 K j y (h.west (by omega) y h1 h2 h3 h4).1, k2 K y j (h.west (by omega) y h1 h2 h3 h4).2⟩, fun _ y hy _ _ => ?_⟩
  obtain rfl : y = e := by omega
  exact ⟨k3 K (h.all y he), k4 K (h.all j hj)⟩

end Go.Proofs.Ythepfpiphlfgnaa

/-
  YthepfpiphlfgnaaM3: what is outside of a region, in the field with a margin round it: marks that spread from a corner; in plain Lean.
-/
namespace Go.Proofs.Ythepfpiphlfgnaa

/-- A place of the field with its margin that is not of the region. -/
def Reg.free (R : Reg) (x y : Int) : Bool := decide (0 ≤ x ∧ x < R.W + 2 ∧ 0 ≤ y ∧ y < R.T + 2) && !R.at (x - 1) (y - 1)
def Reg.pn (R : Reg) : Nat := (R.W + 2) * (R.T + 2)
def Reg.pi (R : Reg) (x y : Nat) : Nat := y * (R.W + 2) + x
def beside (x y x' y' : Nat) : Prop := (x' = x + 1 ∧ y' = y) ∨ (x = x' + 1 ∧ y' = y) ∨ (x' = x ∧ y' = y + 1) ∨ (x' = x ∧ y = y' + 1)
theorem beside_symm {x y x' y' : Nat} (h : beside x y x' y') : beside x' y' x y := by
  rcases h with ⟨a, b⟩ | ⟨a, b⟩ | ⟨a, b⟩ | ⟨a, b⟩
  · exact .inr (.inl ⟨a, b.symm⟩)
  · exact .inl ⟨a, b.symm⟩
  · exact .inr (.inr (.inr ⟨a.symm, b⟩))
  · exact .inr (.inr (.inl ⟨a.symm, b⟩))
def Reg.PA (R : Reg) (p q : Nat) : Prop := ∃ x y x' y' : Nat, p = R.pi x y ∧ q = R.pi x' y' ∧ R.free x y = true ∧ R.free x' y' = true ∧ beside x y x' y'
def OutConn (R : Reg) : Prop := ∀ x y : Nat, R.free x y = true → Linked R.PA (R.pi x y) 0

theorem free_in {R : Reg} {x y : Nat} (h : R.free x y = true) : x < R.W + 2 ∧ y < R.T + 2 := by
  simp only [Reg.free, Bool.and_eq_true, decide_eq_true_eq] at h
  omega
theorem pi_lt {R : Reg} {x y : Nat} (hx : x < R.W + 2) (hy : y < R.T + 2) : R.pi x y < R.pn := by
  unfold Reg.pi Reg.pn
  calc y * (R.W + 2) + x < y * (R.W + 2) + (R.W + 2) := by omega
    _ = (y + 1) * (R.W + 2) := by rw [Nat.add_mul, Nat.one_mul]
    _ ≤ (R.T + 2) * (R.W + 2) := Nat.mul_le_mul_right _ hy
    _ = _ := Nat.mul_comm _ _
theorem pi_inj {R : Reg} {x y x' y' : Nat} (hx : x < R.W + 2) (hx' : x' < R.W + 2) (h : R.pi x y = R.pi x' y') : x = x' ∧ y = y' := by
  unfold Reg.pi at h
  have h1 := mk_mod y hx
  have h2 := mk_mod y' hx'
  have h3 := mk_div y hx
  have h4 := mk_div y' hx'
  rw [h] at h1 h3
  exact ⟨h1.symm.trans h2, h3.symm.trans h4⟩
theorem pn_bd {R : Reg} (hR : R.ok) : 9 ≤ R.pn ∧ R.pn ≤ 64 := by
  obtain ⟨a, b, c, d, _, _⟩ := hR
  unfold Reg.pn
  have h1 : (R.W + 2) * (R.T + 2) ≤ 8 * 8 := Nat.mul_le_mul (by omega) (by omega)
  have h2 : 3 * 3 ≤ (R.W + 2) * (R.T + 2) := Nat.mul_le_mul (by omega) (by omega)
  omega
theorem free_zero (R : Reg) : R.free 0 0 = true := by
  simp only [Reg.free, Bool.and_eq_true, decide_eq_true_eq, Bool.not_eq_true']
  exact ⟨by omega, at_out (by omega)⟩
theorem pi_zero (R : Reg) : R.pi 0 0 = 0 := by simp [Reg.pi]

/-- Marks that are only on free places, each linked to the corner. -/
abbrev marked (M : List Bool) (p : Nat) : Prop := M[p]? = some true

/-- What a walk from a place does to the marks. -/
structure Dfs (R : Reg) (M : List Bool) (x y : Int) (M' : List Bool) : Prop where
  len : M'.length = M.length
  sub : ∀ p, marked M p → marked M' p
  new : ∀ p, marked M' p → ¬ marked M p → ∃ u v u0 v0 : Nat, p = R.pi u v ∧ R.free u v = true ∧ x = (u0 : Int) ∧ y = (v0 : Int) ∧ R.free u0 v0 = true ∧ Linked R.PA p (R.pi u0 v0)
  own : ∀ u0 v0 : Nat, x = (u0 : Int) → y = (v0 : Int) → R.free u0 v0 = true → marked M' (R.pi u0 v0)
  shut : ∀ (u v u' v' : Nat), R.free u v = true → marked M' (R.pi u v) → ¬ marked M (R.pi u v) → beside u v u' v' → R.free u' v' = true → marked M' (R.pi u' v')

theorem dfs_same {R : Reg} {M : List Bool} {x y : Int} (h : ∀ u0 v0 : Nat, x = (u0 : Int) → y = (v0 : Int) → R.free u0 v0 = true → marked M (R.pi u0 v0)) : Dfs R M x y M :=
  ⟨rfl, fun _ h => h, fun _ h1 h2 => absurd h1 h2, h, fun _ _ _ _ _ h1 h2 => absurd h1 h2⟩

theorem marked_set {M : List Bool} {p q : Nat} (hp : p < M.length) : marked (M.set p true) q ↔ q = p ∨ marked M q := by
  unfold marked
  rw [List.getElem?_set]
  by_cases h : p = q
  · subst h; simp [hp]
  · rw [if_neg h]
    constructor
    · exact .inr
    · rintro (h' | h')
      · exact absurd h'.symm h
      · exact h'

theorem dfs_four {R : Reg} {M M1 M2 M3 M4 : List Bool} {x y : Nat} (hf : R.free x y = true) (hl : M.length = R.pn)
    (h1 : Dfs R (M.set (R.pi x y) true) ((x : Int) + 1) y M1) (h2 : Dfs R M1 ((x : Int) - 1) y M2) (h3 : Dfs R M2 x ((y : Int) + 1) M3) (h4 : Dfs R M3 x ((y : Int) - 1) M4) : Dfs R M x y M4 := by
  obtain ⟨hx, hy⟩ := free_in hf
  have hp : R.pi x y < M.length := by rw [hl]; exact pi_lt hx hy
  have hset := fun q => marked_set (q := q) hp
  have s1 : ∀ p, marked M1 p → marked M4 p := fun p h => h4.sub p (h3.sub p (h2.sub p h))
  have s2 : ∀ p, marked M2 p → marked M4 p := fun p h => h4.sub p (h3.sub p h)
  have s0 : marked M4 (R.pi x y) := s1 _ (h1.sub _ ((hset _).2 (.inl rfl)))
  -- a new mark came by one of the five
  have split : ∀ p, marked M4 p → ¬ marked M p → p = R.pi x y ∨ (marked M1 p ∧ ¬ marked (M.set (R.pi x y) true) p) ∨ (marked M2 p ∧ ¬ marked M1 p) ∨ (marked M3 p ∧ ¬ marked M2 p) ∨ (marked M4 p ∧ ¬ marked M3 p) := by
    intro p hp4 hpM
    by_cases a : marked M3 p
    · by_cases b : marked M2 p
      · by_cases c : marked M1 p
        · by_cases d : marked (M.set (R.pi x y) true) p
          · rcases (hset p).1 d with e | e
            · exact .inl e
            · exact absurd e hpM
          · exact .inr (.inl ⟨c, d⟩)
        · exact .inr (.inr (.inl ⟨b, c⟩))
      · exact .inr (.inr (.inr (.inl ⟨a, b⟩)))
    · exact .inr (.inr (.inr (.inr ⟨hp4, a⟩)))
  have link : ∀ (p : Nat) (u0 v0 : Nat), beside x y u0 v0 → R.free u0 v0 = true → Linked R.PA p (R.pi u0 v0) → Linked R.PA p (R.pi x y) := fun p u0 v0 hb hf0 hl =>
    linked_trans hl (linked_one ⟨u0, v0, x, y, rfl, rfl, hf0, hf, beside_symm hb⟩)
  refine ⟨by rw [h4.len, h3.len, h2.len, h1.len, List.length_set], fun p h => s1 p (h1.sub p ((hset p).2 (.inr h))), fun p hp4 hpM => ?_, fun u0 v0 e1 e2 _ => ?_, fun u v u' v' hfu hm hn hb hfu' => ?_⟩
  · rcases split p hp4 hpM with h | ⟨a, b⟩ | ⟨a, b⟩ | ⟨a, b⟩ | ⟨a, b⟩
    · exact ⟨x, y, x, y, h, hf, rfl, rfl, hf, by rw [h]; exact linked_refl _⟩
    · obtain ⟨u, v, u0, v0, e1, e2, e3, e4, e5, e6⟩ := h1.new p a b
      exact ⟨u, v, x, y, e1, e2, rfl, rfl, hf, link p u0 v0 (.inl ⟨by omega, by omega⟩) e5 e6⟩
    · obtain ⟨u, v, u0, v0, e1, e2, e3, e4, e5, e6⟩ := h2.new p a b
      exact ⟨u, v, x, y, e1, e2, rfl, rfl, hf, link p u0 v0 (.inr (.inl ⟨by omega, by omega⟩)) e5 e6⟩
    · obtain ⟨u, v, u0, v0, e1, e2, e3, e4, e5, e6⟩ := h3.new p a b
      exact ⟨u, v, x, y, e1, e2, rfl, rfl, hf, link p u0 v0 (.inr (.inr (.inl ⟨by omega, by omega⟩))) e5 e6⟩
    · obtain ⟨u, v, u0, v0, e1, e2, e3, e4, e5, e6⟩ := h4.new p a b
      exact ⟨u, v, x, y, e1, e2, rfl, rfl, hf, link p u0 v0 (.inr (.inr (.inr ⟨by omega, by omega⟩))) e5 e6⟩
  · obtain rfl : u0 = x := by omega
    obtain rfl : v0 = y := by omega
    exact s0
  · rcases split _ hm hn with h | ⟨a, b⟩ | ⟨a, b⟩ | ⟨a, b⟩ | ⟨a, b⟩
    · obtain ⟨rfl, rfl⟩ := pi_inj (free_in hfu).1 hx h
      rcases hb with ⟨b1, b2⟩ | ⟨b1, b2⟩ | ⟨b1, b2⟩ | ⟨b1, b2⟩
      · exact s1 _ (h1.own u' v' (by omega) (by omega) hfu')
      · exact s2 _ (h2.own u' v' (by omega) (by omega) hfu')
      · exact h4.sub _ (h3.own u' v' (by omega) (by omega) hfu')
      · exact h4.own u' v' (by omega) (by omega) hfu'
    · exact s1 _ (h1.shut u v u' v' hfu a b hb hfu')
    · exact s2 _ (h2.shut u v u' v' hfu a b hb hfu')
    · exact h4.sub _ (h3.shut u v u' v' hfu a b hb hfu')
    · exact h4.shut u v u' v' hfu a b hb hfu'

/-! ### Marks that are spread whole -/
/-- Marks that hold just what is linked to the corner. -/
structure Spread (R : Reg) (M : List Bool) : Prop where
  len : M.length = R.pn
  free : ∀ p, marked M p → ∃ u v : Nat, p = R.pi u v ∧ R.free u v = true ∧ Linked R.PA p 0
  zero : marked M 0
  shut : ∀ (u v u' v' : Nat), R.free u v = true → marked M (R.pi u v) → beside u v u' v' → R.free u' v' = true → marked M (R.pi u' v')

theorem spread_of_dfs {R : Reg} {M : List Bool} (h : Dfs R (List.replicate R.pn false) 0 0 M) : Spread R M := by
  have hno : ∀ p, ¬ marked (List.replicate R.pn false) p := by
    intro p hp
    unfold marked at hp
    rw [List.getElem?_replicate] at hp
    split at hp
    · injection hp with hp; cases hp
    · cases hp
  refine ⟨by rw [h.len]; simp, fun p hp => ?_, ?_, fun u v u' v' h1 h2 h3 h4 => h.shut u v u' v' h1 h2 (hno _) h3 h4⟩
  · obtain ⟨u, v, u0, v0, e1, e2, e3, e4, _, e6⟩ := h.new p hp (hno p)
    obtain rfl : u0 = 0 := by omega
    obtain rfl : v0 = 0 := by omega
    rw [pi_zero] at e6
    exact ⟨u, v, e1, e2, e6⟩
  · have := h.own 0 0 (by simp) (by simp) (free_zero R)
    rwa [pi_zero] at this

theorem spread_all {R : Reg} {M : List Bool} (h : Spread R M) : OutConn R ↔ ∀ x y : Nat, R.free x y = true → marked M (R.pi x y) := by
  constructor
  · intro ho x y hf
    refine linked_ind (P := fun p => marked M p) (fun p q ha hq => ?_) (ho x y hf) h.zero
    obtain ⟨x, y, x', y', rfl, rfl, h1, h2, h3⟩ := ha
    exact h.shut x' y' x y h2 hq (beside_symm h3) h1
  · intro ha x y hf
    obtain ⟨_, _, _, _, h3⟩ := h.free _ (ha x y hf)
    exact h3

/-! ### How many free places there are -/
def Reg.frees (R : Reg) : List Bool := (List.range R.pn).map fun p => R.free ((p % (R.W + 2) : Nat) : Int) ((p / (R.W + 2) : Nat) : Int)
theorem frees_len (R : Reg) : R.frees.length = R.pn := by simp [Reg.frees]
theorem frees_at {R : Reg} {x y : Nat} (hx : x < R.W + 2) (hy : y < R.T + 2) : R.frees[R.pi x y]? = some (R.free x y) := by
  unfold Reg.frees
  rw [List.getElem?_map, List.getElem?_range (pi_lt hx hy)]
  simp only [Option.map_some]
  unfold Reg.pi
  rw [mk_mod y hx, mk_div y hx]

theorem countP_range_mul (f : Nat → Bool) (m : Nat) : ∀ n, (List.range (m * n)).countP f = ((List.range n).map fun y => (List.range m).countP fun x => f (y * m + x)).sum
  | 0 => by simp
  | n + 1 => by
    rw [Nat.mul_succ, List.range_add, List.countP_append, countP_range_mul f m n, List.range_succ, List.map_append, List.sum_append]
    simp only [List.map_cons, List.map_nil, List.sum_cons, List.sum_nil, Nat.add_zero, List.countP_map]
    congr 1
    refine List.countP_congr fun x _ => ?_
    simp [Function.comp, Nat.mul_comm]

theorem cnt_range (L : List Bool) : cnt L = (List.range L.length).countP fun p => L.getD p false := by
  unfold cnt
  have : L = (List.range L.length).map fun p => L.getD p false := by
    apply List.ext_getElem?
    intro i
    by_cases h : i < L.length
    · simp [h]
    · simp [h]
  conv => lhs; rw [this]
  rw [List.countP_map]
  refine List.countP_congr fun x _ => ?_
  simp

theorem countP_not (f : Nat → Bool) (n : Nat) : (List.range n).countP (fun x => !f x) + (List.range n).countP f = n := by
  induction n with
  | zero => simp
  | succ n ih =>
    rw [List.range_succ, List.countP_append, List.countP_append]
    by_cases h : f n = true <;> simp [h] <;> omega

theorem sum_shift {f : Nat → Nat} : ∀ n, ((List.range (n + 2)).map f).sum = f 0 + ((List.range n).map fun y => f (y + 1)).sum + f (n + 1) := by
  intro n
  rw [List.range_succ, List.map_append, List.sum_append]
  simp only [List.map_cons, List.map_nil, List.sum_cons, List.sum_nil, Nat.add_zero]
  congr 1
  have : List.range (n + 1) = 0 :: (List.range n).map (· + 1) := by
    rw [List.range_succ_eq_map]
  rw [this]
  simp [Function.comp_def]

theorem cnt_frees {R : Reg} (hR : R.ok) : cnt R.frees + cnt R.C = R.pn := by
  have e1 : cnt R.frees = (List.range R.pn).countP fun p => R.free ((p % (R.W + 2) : Nat) : Int) ((p / (R.W + 2) : Nat) : Int) := by
    unfold cnt Reg.frees
    rw [List.countP_map]
    refine List.countP_congr fun x _ => by simp [Function.comp]
  have e2 : cnt R.C = (List.range (R.W * R.T)).countP fun p => R.C.getD p false := by rw [cnt_range, hR.2.2.2.2.1]
  -- the cells, counted in the field with its margin
  have e3 : (List.range R.pn).countP (fun p => R.at (((p % (R.W + 2) : Nat) : Int) - 1) (((p / (R.W + 2) : Nat) : Int) - 1)) = cnt R.C := by
    rw [e2, countP_range_mul]
    unfold Reg.pn
    rw [countP_range_mul]
    have row : ∀ y, (List.range (R.W + 2)).countP (fun x => R.at ((((y * (R.W + 2) + x) % (R.W + 2) : Nat) : Int) - 1) ((((y * (R.W + 2) + x) / (R.W + 2) : Nat) : Int) - 1)) = (List.range (R.W + 2)).countP (fun x : Nat => R.at ((x : Int) - 1) ((y : Int) - 1)) := by
      intro y
      refine List.countP_congr fun x hx => ?_
      have hx := List.mem_range.1 hx
      rw [mk_mod y hx, mk_div y hx]
    simp only [row]
    rw [sum_shift]
    have z1 : (List.range (R.W + 2)).countP (fun x : Nat => R.at ((x : Int) - 1) (((0 : Nat) : Int) - 1)) = 0 := by
      rw [List.countP_eq_zero]; intro x _; rw [at_out (by omega)]; simp
    have z2 : (List.range (R.W + 2)).countP (fun x : Nat => R.at ((x : Int) - 1) (((R.T + 1 : Nat) : Int) - 1)) = 0 := by
      rw [List.countP_eq_zero]; intro x _; rw [at_out (by omega)]; simp
    rw [z1, z2, Nat.zero_add, Nat.add_zero]
    congr 1
    refine List.map_congr_left fun y hy => ?_
    have hy := List.mem_range.1 hy
    have : List.range (R.W + 2) = 0 :: ((List.range R.W).map (· + 1) ++ [R.W + 1]) := by
      rw [List.range_succ, List.range_succ_eq_map]; rfl
    rw [this, List.countP_cons, List.countP_append, List.countP_map]
    have z3 : R.at (((0 : Nat) : Int) - 1) (((y + 1 : Nat) : Int) - 1) = false := at_out (by omega)
    have z4 : R.at (((R.W + 1 : Nat) : Int) - 1) (((y + 1 : Nat) : Int) - 1) = false := at_out (by omega)
    simp only [List.countP_cons, List.countP_nil, z3, z4]
    simp only [Bool.false_eq_true, if_false, Nat.add_zero]
    refine List.countP_congr fun x hx => ?_
    have hx := List.mem_range.1 hx
    have a1 : (((x + 1 : Nat) : Int) - 1) = (x : Int) := by omega
    have a2 : (((y + 1 : Nat) : Int) - 1) = (y : Int) := by omega
    simp only [Function.comp, a1, a2]
    rw [at_in hx hy]
  rw [e1, ← e3]
  have := countP_not (fun p => R.at (((p % (R.W + 2) : Nat) : Int) - 1) (((p / (R.W + 2) : Nat) : Int) - 1)) R.pn
  have e4 : (List.range R.pn).countP (fun p => R.free ((p % (R.W + 2) : Nat) : Int) ((p / (R.W + 2) : Nat) : Int)) = (List.range R.pn).countP (fun p => !R.at (((p % (R.W + 2) : Nat) : Int) - 1) (((p / (R.W + 2) : Nat) : Int) - 1)) := by
    refine List.countP_congr fun p hp => ?_
    have hp := List.mem_range.1 hp
    have h1 : p % (R.W + 2) < R.W + 2 := Nat.mod_lt _ (by omega)
    have h2 : p / (R.W + 2) < R.T + 2 := by
      rw [Nat.div_lt_iff_lt_mul (by omega), Nat.mul_comm]; exact hp
    simp only [Reg.free]
    have h3 : (0 : Int) ≤ ((p % (R.W + 2) : Nat) : Int) ∧ ((p % (R.W + 2) : Nat) : Int) < (R.W : Int) + 2 ∧ 0 ≤ ((p / (R.W + 2) : Nat) : Int) ∧ ((p / (R.W + 2) : Nat) : Int) < (R.T : Int) + 2 := by
      generalize p % (R.W + 2) = a at h1 ⊢
      generalize p / (R.W + 2) = b at h2 ⊢
      omega
    rw [decide_eq_true h3, Bool.true_and]
  rw [e4]
  exact this

theorem cnt_eq_iff {M F : List Bool} (hl : M.length = F.length) (hs : ∀ p, marked M p → marked F p) : cnt M = cnt F ↔ ∀ p, marked F p → marked M p := by
  have cm : cnt M = (List.range F.length).countP fun p => decide (marked M p) := by
    rw [cnt_range, hl]
    refine List.countP_congr fun x hx => ?_
    unfold marked
    have : x < M.length := by rw [hl]; exact List.mem_range.1 hx
    simp [List.getD, List.getElem?_eq_getElem this]
  have cf : cnt F = (List.range F.length).countP fun p => decide (marked F p) := by
    rw [cnt_range]
    refine List.countP_congr fun x hx => ?_
    unfold marked
    have : x < F.length := List.mem_range.1 hx
    simp [List.getD, List.getElem?_eq_getElem this]
  constructor
  · intro he p hp
    refine Classical.byContradiction fun hno => ?_
    have hlt : p < F.length := by unfold marked at hp; exact (List.getElem?_eq_some_iff.1 hp).1
    have := countP_lt (l := List.range F.length) (p := fun p => decide (marked M p)) (q := fun p => decide (marked F p)) (fun x _ hx => by simpa using hs x (by simpa using hx)) ⟨p, List.mem_range.2 hlt, by simpa using hp, by simpa using hno⟩
    omega
  · intro h
    rw [cm, cf]
    exact List.countP_congr fun x _ => by simp only [decide_eq_true_eq]; exact ⟨hs x, h x⟩

/-- The marks are as many as the free places exactly if all of these hang together. -/
theorem spread_count {R : Reg} (hR : R.ok) {M : List Bool} (h : Spread R M) : cnt M + cnt R.C = R.pn ↔ OutConn R := by
  have hf := cnt_frees hR
  have hsub : ∀ p, marked M p → marked R.frees p := fun p hp => by
    obtain ⟨u, v, rfl, h2, _⟩ := h.free p hp
    unfold marked
    rw [frees_at (free_in h2).1 (free_in h2).2, h2]
  have key := cnt_eq_iff (M := M) (F := R.frees) (by rw [h.len, frees_len]) hsub
  rw [spread_all h]
  constructor
  · intro he x y hxy
    refine key.1 (by omega) _ ?_
    unfold marked
    rw [frees_at (free_in hxy).1 (free_in hxy).2, hxy]
  · intro ha
    have : cnt M = cnt R.frees := key.2 fun p hp => by
      unfold marked at hp
      have hlt : p < R.pn := by rw [← frees_len]; exact (List.getElem?_eq_some_iff.1 hp).1
      have h1 : p % (R.W + 2) < R.W + 2 := Nat.mod_lt _ (by omega)
      have h2 : p / (R.W + 2) < R.T + 2 := by
        rw [Nat.div_lt_iff_lt_mul (by omega), Nat.mul_comm]; exact hlt
      have e : p = R.pi (p % (R.W + 2)) (p / (R.W + 2)) := by unfold Reg.pi; exact (xy_eq p _).symm
      rw [e, frees_at h1 h2] at hp
      injection hp with hp
      rw [e]
      exact ha _ _ hp
    omega

/-- A simple region: one part, and one outside. -/
def SimpleP (R : Reg) : Prop := InConn R ∧ OutConn R
open Classical in
noncomputable def simpleB (W T : Int) (bs : List Bool) : Bool := validB W T bs && decide (SimpleP ⟨W.toNat, T.toNat, bs⟩)
theorem simple_of {R : Reg} (hR : R.ok) : simpleB R.W R.T R.C = true ↔ SimpleP R := by
  unfold simpleB
  rw [valid_of_ok hR]
  simp

end Go.Proofs.Ythepfpiphlfgnaa

/-
  YthepfpiphlfgnaaM4: the reference's way through what is outside: a queue; in plain Lean.
-/
namespace Go.Proofs.Ythepfpiphlfgnaa

def dxOf (v : Nat) : Int := if v = 1 then 1 else if v = 3 then -1 else 0
def dyOf (v : Nat) : Int := if v = 2 then 1 else if v = 4 then -1 else 0
theorem dirs_beside {u v u' v' : Nat} : beside u v u' v' ↔ ∃ way, 1 ≤ way ∧ way ≤ 4 ∧ (u' : Int) = u + dxOf way ∧ (v' : Int) = v + dyOf way := by
  constructor
  · rintro (⟨a, b⟩ | ⟨a, b⟩ | ⟨a, b⟩ | ⟨a, b⟩)
    · exact ⟨1, by omega, by omega, by simp [dxOf]; omega, by simp [dyOf]; omega⟩
    · exact ⟨3, by omega, by omega, by simp [dxOf]; omega, by simp [dyOf]; omega⟩
    · exact ⟨2, by omega, by omega, by simp [dxOf]; omega, by simp [dyOf]; omega⟩
    · exact ⟨4, by omega, by omega, by simp [dxOf]; omega, by simp [dyOf]; omega⟩
  · rintro ⟨way, h1, h2, h3, h4⟩
    have : way = 1 ∨ way = 2 ∨ way = 3 ∨ way = 4 := by omega
    rcases this with rfl | rfl | rfl | rfl
    · simp [dxOf, dyOf] at h3 h4; exact .inl ⟨by omega, by omega⟩
    · simp [dxOf, dyOf] at h3 h4; exact .inr (.inr (.inl ⟨by omega, by omega⟩))
    · simp [dxOf, dyOf] at h3 h4; exact .inr (.inl ⟨by omega, by omega⟩)
    · simp [dxOf, dyOf] at h3 h4; exact .inr (.inr (.inr ⟨by omega, by omega⟩))

structure Bfs (R : Reg) (M : List Bool) (Q : List Int) (k t : Nat) : Prop where
  len : M.length = R.pn
  qlen : Q.length = cnt M
  qin : ∀ p : Nat, marked M p → ∃ i : Nat, Q[i]? = some (p : Int)
  each : ∀ (i : Nat) (q : Int), Q[i]? = some q → ∃ u v : Nat, q = ((R.pi u v : Nat) : Int) ∧ R.free u v = true ∧ Linked R.PA (R.pi u v) 0 ∧ marked M (R.pi u v)
  done : ∀ i, i < k → ∀ u v : Nat, Q[i]? = some ((R.pi u v : Nat) : Int) → R.free u v = true → ∀ u' v', beside u v u' v' → R.free u' v' = true → marked M (R.pi u' v')
  part : ∀ u v : Nat, Q[k]? = some ((R.pi u v : Nat) : Int) → R.free u v = true → ∀ way u' v' : Nat, 1 ≤ way → way < t → (u' : Int) = u + dxOf way → (v' : Int) = v + dyOf way → R.free u' v' = true → marked M (R.pi u' v')

theorem bfs_start {R : Reg} (hR : R.ok) : Bfs R ((List.replicate R.pn false).set 0 true) [0] 0 1 := by
  have hp := pn_bd hR
  have hset : ∀ p, marked ((List.replicate R.pn false).set 0 true) p ↔ p = 0 := by
    intro p
    unfold marked
    rw [List.getElem?_set]
    by_cases h : 0 = p
    · subst h; simp; omega
    · rw [if_neg h, List.getElem?_replicate]
      split <;> simp <;> omega
  refine ⟨by simp, ?_, fun p hm => ⟨0, by rw [(hset p).1 hm]; rfl⟩, fun i q hq => ?_, fun i hi => by omega, fun u v _ _ way u' v' h1 h2 => by omega⟩
  · obtain ⟨m, hm⟩ : ∃ m, R.pn = m + 1 := ⟨R.pn - 1, by omega⟩
    rw [hm, List.replicate_succ]
    simp [cnt, List.countP_replicate]
  · cases i with
    | zero =>
      simp at hq
      exact ⟨0, 0, by rw [pi_zero]; omega, free_zero R, by rw [pi_zero]; exact linked_refl 0, by rw [pi_zero]; exact (hset 0).2 rfl⟩
    | succ i => simp at hq
theorem bfs_next {R : Reg} {M : List Bool} {Q : List Int} {k : Nat} (h : Bfs R M Q k 5) : Bfs R M Q (k + 1) 1 := by
  refine ⟨h.len, h.qlen, h.qin, h.each, fun i hi u v hq hf u' v' hb hf' => ?_, fun u v _ _ way u' v' h1 h2 => by omega⟩
  by_cases hik : i = k
  · subst hik
    obtain ⟨way, h1, h2, h3, h4⟩ := dirs_beside.1 hb
    exact h.part u v hq hf way u' v' h1 (by omega) h3 h4 hf'
  · exact h.done i (by omega) u v hq hf u' v' hb hf'
theorem bfs_skip {R : Reg} {M : List Bool} {Q : List Int} {k t x y : Nat} (h : Bfs R M Q k t) (hx : x < R.W + 2) (hq : Q[k]? = some ((R.pi x y : Nat) : Int))
    (hno : ∀ u' v' : Nat, (u' : Int) = x + dxOf t → (v' : Int) = y + dyOf t → R.free u' v' = true → marked M (R.pi u' v')) : Bfs R M Q k (t + 1) := by
  refine ⟨h.len, h.qlen, h.qin, h.each, h.done, fun u v hq' hf way u' v' h1 h2 h3 h4 hf' => ?_⟩
  by_cases hw : way = t
  · subst hw
    rw [hq] at hq'
    injection hq' with hq'
    obtain ⟨rfl, rfl⟩ := pi_inj hx (free_in hf).1 (show R.pi x y = R.pi u v by omega)
    exact hno u' v' h3 h4 hf'
  · exact h.part u v hq' hf way u' v' h1 (by omega) h3 h4 hf'
theorem bfs_add {R : Reg} {M : List Bool} {Q : List Int} {k t x y u0 v0 : Nat} (h : Bfs R M Q k t) (ht : 1 ≤ t ∧ t ≤ 4) (hx : x < R.W + 2) (hq : Q[k]? = some ((R.pi x y : Nat) : Int))
    (e1 : (u0 : Int) = x + dxOf t) (e2 : (v0 : Int) = y + dyOf t) (hf0 : R.free u0 v0 = true) (hm : M[R.pi u0 v0]? = some false) (hc : cnt (M.set (R.pi u0 v0) true) = cnt M + 1) :
    Bfs R (M.set (R.pi u0 v0) true) (Q ++ [((R.pi u0 v0 : Nat) : Int)]) k (t + 1) := by
  have hp : R.pi u0 v0 < M.length := (List.getElem?_eq_some_iff.1 hm).1
  have hset := fun q => marked_set (q := q) hp
  have hkl : k < Q.length := (List.getElem?_eq_some_iff.1 hq).1
  have hq' : ∀ i, i < Q.length → (Q ++ [((R.pi u0 v0 : Nat) : Int)])[i]? = Q[i]? := fun i hi => List.getElem?_append_left hi
  obtain ⟨x', y', f1, f2, f3, _⟩ := h.each k _ hq
  have hxy : R.free x y = true := by
    obtain ⟨rfl, rfl⟩ := pi_inj hx (free_in f2).1 (show R.pi x y = R.pi x' y' by omega)
    exact f2
  have hl : Linked R.PA (R.pi x y) 0 := by
    have : R.pi x y = R.pi x' y' := by omega
    rw [this]; exact f3
  refine ⟨by rw [List.length_set]; exact h.len, by rw [List.length_append, List.length_singleton, hc, h.qlen], fun p hm => ?_, fun i q hqi => ?_, fun i hi u v hqi hf u' v' hb hf' => ?_, fun u v hqk hf way u' v' h1 h2 h3 h4 hf' => ?_⟩
  · rcases (hset p).1 hm with rfl | hm
    · exact ⟨Q.length, by simp⟩
    · obtain ⟨i, hi⟩ := h.qin p hm
      exact ⟨i, by rw [hq' i (List.getElem?_eq_some_iff.1 hi).1]; exact hi⟩
  · by_cases hi : i < Q.length
    · rw [hq' i hi] at hqi
      obtain ⟨u, v, g1, g2, g3, g4⟩ := h.each i q hqi
      exact ⟨u, v, g1, g2, g3, (hset _).2 (.inr g4)⟩
    · have : i = Q.length := by
        have := (List.getElem?_eq_some_iff.1 hqi).1
        rw [List.length_append, List.length_singleton] at this
        omega
      subst this
      simp at hqi
      subst hqi
      refine ⟨u0, v0, rfl, hf0, linked_step ⟨u0, v0, x, y, rfl, rfl, hf0, hxy, beside_symm (dirs_beside.2 ⟨t, ht.1, ht.2, e1, e2⟩)⟩ hl, (hset _).2 (.inl rfl)⟩
  · rw [hq' i (by omega)] at hqi
    exact (hset _).2 (.inr (h.done i hi u v hqi hf u' v' hb hf'))
  · rw [hq' k hkl] at hqk
    by_cases hw : way = t
    · subst hw
      rw [hq] at hqk
      injection hqk with hqk
      obtain ⟨rfl, rfl⟩ := pi_inj hx (free_in hf).1 (show R.pi x y = R.pi u v by omega)
      obtain rfl : u' = u0 := by omega
      obtain rfl : v' = v0 := by omega
      exact (hset _).2 (.inl rfl)
    · exact (hset _).2 (.inr (h.part u v hqk hf way u' v' h1 (by omega) h3 h4 hf'))
theorem bfs_end {R : Reg} {M : List Bool} {Q : List Int} {k : Nat} (h : Bfs R M Q k 1) (h0 : marked M 0) (hk : Q.length ≤ k) : Spread R M := by
  refine ⟨h.len, fun p hp => ?_, h0, fun u v u' v' hf hm hb hf' => ?_⟩
  · obtain ⟨i, hi⟩ := h.qin p hp
    obtain ⟨u, v, e1, e2, e3, _⟩ := h.each i _ hi
    obtain rfl : p = R.pi u v := by omega
    exact ⟨u, v, rfl, e2, e3⟩
  · obtain ⟨i, hi⟩ := h.qin _ hm
    exact h.done i (by have := (List.getElem?_eq_some_iff.1 hi).1; omega) u v hi hf u' v' hb hf'

end Go.Proofs.Ythepfpiphlfgnaa

/-
  YthepfpiphlfgnaaH0: forms on the edges of the grid, in plain Lean: a form that is closed at every cell of a simple region can be changed outside so that it is closed everywhere; a closed form has a potential.
-/
namespace Go.Proofs.Ythepfpiphlfgnaa

/-- A form on the edges of the grid: on those to the east, and on those to the north. -/
structure Form where
  e : Int → Int → Int
  n : Int → Int → Int

/-- The sum round a cell. -/
def Form.curl (F : Form) (x y : Int) : Int := F.e x y + F.n (x + 1) y - F.e x (y + 1) - F.n x y
def Form.add (F G : Form) : Form := ⟨fun x y => F.e x y + G.e x y, fun x y => F.n x y + G.n x y⟩
def Form.mul (k : Int) (F : Form) : Form := ⟨fun x y => k * F.e x y, fun x y => k * F.n x y⟩
def Form.nil : Form := ⟨fun _ _ => 0, fun _ _ => 0⟩
theorem curl_add (F G : Form) (x y : Int) : (F.add G).curl x y = F.curl x y + G.curl x y := by simp only [Form.curl, Form.add]; omega
theorem curl_mul (k : Int) (F : Form) (x y : Int) : (Form.mul k F).curl x y = k * F.curl x y := by simp only [Form.curl, Form.mul, Int.mul_sub, Int.mul_add]
theorem curl_nil (x y : Int) : Form.nil.curl x y = 0 := rfl

/-- A form that is 0 on every side of a cell of a region. -/
structure Form.Out (R : Reg) (F : Form) : Prop where
  e : ∀ x y, R.at x y = true ∨ R.at x (y - 1) = true → F.e x y = 0
  n : ∀ x y, R.at x y = true ∨ R.at (x - 1) y = true → F.n x y = 0
theorem out_nil (R : Reg) : Form.nil.Out R := ⟨fun _ _ _ => rfl, fun _ _ _ => rfl⟩
theorem Form.Out.add {R : Reg} {F G : Form} (h : F.Out R) (k : G.Out R) : (F.add G).Out R :=
  ⟨fun x y hx => by simp only [Form.add]; rw [h.e x y hx, k.e x y hx]; rfl, fun x y hx => by simp only [Form.add]; rw [h.n x y hx, k.n x y hx]; rfl⟩
theorem Form.Out.mul {R : Reg} {F : Form} (h : F.Out R) (k : Int) : (Form.mul k F).Out R :=
  ⟨fun x y hx => by simp only [Form.mul]; rw [h.e x y hx, Int.mul_zero], fun x y hx => by simp only [Form.mul]; rw [h.n x y hx, Int.mul_zero]⟩
theorem Form.Out.curl {R : Reg} {F : Form} (h : F.Out R) {x y : Int} (hx : R.at x y = true) : F.curl x y = 0 := by
  unfold Form.curl
  rw [h.e x y (.inl hx), h.n (x + 1) y (.inr (by rw [Int.add_sub_cancel]; exact hx)), h.e x (y + 1) (.inr (by rw [Int.add_sub_cancel]; exact hx)), h.n x y (.inl hx)]
  rfl

def Form.oneE (a b k : Int) : Form := ⟨fun x y => if x = a ∧ y = b then k else 0, fun _ _ => 0⟩
def Form.oneN (a b k : Int) : Form := ⟨fun _ _ => 0, fun x y => if x = a ∧ y = b then k else 0⟩
theorem ite_iff {p q : Prop} [Decidable p] [Decidable q] (h : p ↔ q) (a b : Int) : (if p then a else b) = if q then a else b := by
  by_cases hp : p
  · rw [if_pos hp, if_pos (h.1 hp)]
  · rw [if_neg hp, if_neg fun hq => hp (h.2 hq)]
/-- 1 at a place. -/
def dl (a b x y : Int) : Int := if x = a ∧ y = b then 1 else 0
theorem dl_yes (a b : Int) : dl a b a b = 1 := if_pos ⟨rfl, rfl⟩
theorem dl_no {a b x y : Int} (h : ¬ (x = a ∧ y = b)) : dl a b x y = 0 := if_neg h
theorem curl_oneE (a b k x y : Int) : (Form.oneE a b k).curl x y = k * (dl a b x y - dl a (b - 1) x y) := by
  simp only [Form.curl, Form.oneE, dl]
  rw [ite_iff (show (x = a ∧ y + 1 = b) ↔ (x = a ∧ y = b - 1) by omega)]
  by_cases h1 : x = a ∧ y = b
  · rw [if_pos h1, if_pos h1, if_neg (by omega), if_neg (by omega)]; omega
  · rw [if_neg h1, if_neg h1]
    split <;> omega
theorem curl_oneN (a b k x y : Int) : (Form.oneN a b k).curl x y = k * (dl (a - 1) b x y - dl a b x y) := by
  simp only [Form.curl, Form.oneN, dl]
  rw [ite_iff (show (x + 1 = a ∧ y = b) ↔ (x = a - 1 ∧ y = b) by omega)]
  by_cases h1 : x = a ∧ y = b
  · rw [if_pos h1, if_pos h1, if_neg (by omega), if_neg (by omega)]; omega
  · rw [if_neg h1, if_neg h1]
    split <;> omega

/-- Beside a cell that does not belong to a region. -/
theorem out_oneE {R : Reg} {a b k : Int} (h : R.at a b = false) (h' : R.at a (b - 1) = false) : (Form.oneE a b k).Out R :=
  ⟨fun x y hx => if_neg (by rintro ⟨rfl, rfl⟩; rcases hx with hx | hx <;> simp_all), fun _ _ _ => rfl⟩
theorem out_oneN {R : Reg} {a b k : Int} (h : R.at a b = false) (h' : R.at (a - 1) b = false) : (Form.oneN a b k).Out R :=
  ⟨fun _ _ _ => rfl, fun x y hx => if_neg (by rintro ⟨rfl, rfl⟩; rcases hx with hx | hx <;> simp_all)⟩

theorem free_at {R : Reg} {x y : Int} (h : R.free x y = true) : R.at (x - 1) (y - 1) = false := by
  simp only [Reg.free, Bool.and_eq_true, Bool.not_eq_true'] at h
  exact h.2

/-- From every place outside a current of 1 to the corner of the padded field. -/
theorem current {R : Reg} (hO : OutConn R) {x y : Nat} (hf : R.free x y = true) :
    ∃ F : Form, F.Out R ∧ ∀ u v : Int, F.curl u v = dl ((x : Int) - 1) ((y : Int) - 1) u v - dl (-1) (-1) u v := by
  have key : (∀ x y : Nat, x < R.W + 2 → R.pi x y = R.pi x y → R.pi x y = R.pi x y → True) := fun _ _ _ _ _ => trivial
  clear key
  have := linked_ind (A := R.PA) (P := fun p => ∀ x y : Nat, x < R.W + 2 → p = R.pi x y → ∃ F : Form, F.Out R ∧ ∀ u v : Int, F.curl u v = dl ((x : Int) - 1) ((y : Int) - 1) u v - dl (-1) (-1) u v)
    (fun c e hce hP x y hx hc => by
      obtain ⟨x1, y1, x2, y2, h1, h2, f1, f2, hb⟩ := hce
      obtain ⟨rfl, rfl⟩ := pi_inj (free_in f1).1 hx (h1.symm.trans hc)
      obtain ⟨G, g1, g2⟩ := hP x2 y2 (free_in f2).1 h2
      have a1 := free_at f1
      have a2 := free_at f2
      rcases hb with ⟨e1, e2⟩ | ⟨e1, e2⟩ | ⟨e1, e2⟩ | ⟨e1, e2⟩
      · subst e1 e2
        refine ⟨G.add (Form.oneN x1 ((y2 : Int) - 1) 1), g1.add (out_oneN (by rw [← a2]; congr 1; omega) a1), fun u v => ?_⟩
        rw [curl_add, g2, curl_oneN, show ((x1 + 1 : Nat) : Int) - 1 = (x1 : Int) by omega]; omega
      · subst e1 e2
        refine ⟨G.add (Form.oneN x2 ((y2 : Int) - 1) (-1)), g1.add (out_oneN (by rw [← a1]; congr 1; omega) a2), fun u v => ?_⟩
        rw [curl_add, g2, curl_oneN, show ((x2 + 1 : Nat) : Int) - 1 = (x2 : Int) by omega]; omega
      · subst e1 e2
        refine ⟨G.add (Form.oneE ((x2 : Int) - 1) y1 (-1)), g1.add (out_oneE (by rw [← a2]; congr 1; omega) a1), fun u v => ?_⟩
        rw [curl_add, g2, curl_oneE, show ((y1 + 1 : Nat) : Int) - 1 = (y1 : Int) by omega]; omega
      · subst e1 e2
        refine ⟨G.add (Form.oneE ((x2 : Int) - 1) y2 1), g1.add (out_oneE (by rw [← a1]; congr 1; omega) a2), fun u v => ?_⟩
        rw [curl_add, g2, curl_oneE, show ((y2 + 1 : Nat) : Int) - 1 = (y2 : Int) by omega]; omega)
    (hO x y hf)
    (fun x y hx h0 => by
      obtain ⟨rfl, rfl⟩ := pi_inj hx (by omega) (h0.symm.trans (pi_zero R).symm)
      exact ⟨Form.nil, out_nil R, fun u v => by rw [curl_nil]; simp⟩)
  exact this x y (free_in hf).1 rfl

theorem free_of {R : Reg} {x y : Nat} (hx : x < R.W) (hy : y < R.T) (h : R.at x y = false) : R.free ((x + 1 : Nat) : Int) ((y + 1 : Nat) : Int) = true := by
  simp only [Reg.free, Bool.and_eq_true, decide_eq_true_eq, Bool.not_eq_true']
  refine ⟨by omega, ?_⟩
  rw [show ((x + 1 : Nat) : Int) - 1 = (x : Int) by omega, show ((y + 1 : Nat) : Int) - 1 = (y : Int) by omega]
  exact h

/-- A form that is closed at the cells of a region is, changed outside, closed at every cell of the field. -/
theorem close_up {R : Reg} (hO : OutConn R) (F : Form) (hF : ∀ x y, R.at x y = true → F.curl x y = 0) :
    ∃ G : Form, G.Out R ∧ ∀ x y : Nat, x < R.W → y < R.T → (F.add G).curl x y = 0 := by
  have step : ∀ k, ∃ G : Form, G.Out R ∧ ∀ x y : Nat, x < R.W → y < R.T → y * R.W + x < k → (F.add G).curl x y = 0 := by
    intro k
    induction k with
    | zero => exact ⟨Form.nil, out_nil R, fun x y _ _ h => absurd h (by omega)⟩
    | succ k ih =>
      obtain ⟨G, g1, g2⟩ := ih
      by_cases hk : k % R.W < R.W ∧ k / R.W < R.T
      · obtain ⟨kx, ky⟩ := hk
        have hke := xy_eq k R.W
        cases ha : R.at ((k % R.W : Nat) : Int) ((k / R.W : Nat) : Int) with
        | true =>
          refine ⟨G, g1, fun x y hx hy h => ?_⟩
          rcases Nat.lt_or_ge (y * R.W + x) k with h | h
          · exact g2 x y hx hy h
          · have e : k = y * R.W + x := by omega
            have e1 : k % R.W = x := by rw [e]; exact mk_mod y hx
            have e2 : k / R.W = y := by rw [e]; exact mk_div y hx
            rw [e1, e2] at ha
            rw [curl_add, hF _ _ ha, g1.curl ha]; rfl
        | false =>
          obtain ⟨K, k1, k2⟩ := current hO (free_of kx ky ha)
          refine ⟨G.add (Form.mul (-(F.add G).curl ((k % R.W : Nat) : Int) ((k / R.W : Nat) : Int)) K), g1.add (k1.mul _), fun x y hx hy h => ?_⟩
          have hK := k2 x y
          rw [show ((k % R.W + 1 : Nat) : Int) - 1 = ((k % R.W : Nat) : Int) by omega, show ((k / R.W + 1 : Nat) : Int) - 1 = ((k / R.W : Nat) : Int) by omega, dl_no (a := -1) (b := -1) (by omega)] at hK
          rw [curl_add, curl_add, curl_mul, hK]
          rcases Nat.lt_or_ge (y * R.W + x) k with h | h
          · have h0 := g2 x y hx hy h
            rw [curl_add] at h0
            rw [dl_no (by
              rintro ⟨e1, e2⟩
              have e1' : x = k % R.W := by exact_mod_cast e1
              have e2' : y = k / R.W := by exact_mod_cast e2
              subst e1' e2'
              omega)]
            simp
            omega
          · have e : k = y * R.W + x := by omega
            have e1 : k % R.W = x := by rw [e]; exact mk_mod y hx
            have e2 : k / R.W = y := by rw [e]; exact mk_div y hx
            rw [e1, e2, dl_yes, curl_add]
            simp
            omega
      · refine ⟨G, g1, fun x y hx hy h => ?_⟩
        rcases Nat.lt_or_ge (y * R.W + x) k with h | h
        · exact g2 x y hx hy h
        · have e : k = y * R.W + x := by omega
          have e1 : k % R.W = x := by rw [e]; exact mk_mod y hx
          have e2 : k / R.W = y := by rw [e]; exact mk_div y hx
          exact absurd ⟨by omega, by omega⟩ hk
  obtain ⟨G, g1, g2⟩ := step (R.W * R.T)
  refine ⟨G, g1, fun x y hx hy => g2 x y hx hy ?_⟩
  calc y * R.W + x < y * R.W + R.W := by omega
    _ = (y + 1) * R.W := by rw [Nat.add_mul, Nat.one_mul]
    _ ≤ R.T * R.W := Nat.mul_le_mul_right _ hy
    _ = R.W * R.T := Nat.mul_comm _ _

/-- The sum of the first values of a function. -/
def sumTo (f : Nat → Int) : Nat → Int
  | 0 => 0
  | k + 1 => sumTo f k + f k
/-- A potential: first to the east, then to the north. -/
def Form.pot (F : Form) (x y : Nat) : Int := sumTo (fun i => F.e i 0) x + sumTo (fun j => F.n x j) y
theorem pot_n (F : Form) (x y : Nat) : F.pot x (y + 1) = F.pot x y + F.n x y := by simp only [Form.pot, sumTo]; omega
theorem pot_e (F : Form) (x : Nat) : ∀ y : Nat, (∀ j, j < y → F.curl x j = 0) → F.pot (x + 1) y = F.pot x y + F.e x y
  | 0, _ => by simp only [Form.pot, sumTo]; simp
  | y + 1, h => by
    have h1 := pot_e F x y fun j hj => h j (by omega)
    have h2 := h y (by omega)
    rw [pot_n, pot_n, h1]
    simp only [Form.curl] at h2
    rw [show ((x + 1 : Nat) : Int) = (x : Int) + 1 by omega, show ((y + 1 : Nat) : Int) = (y : Int) + 1 by omega]
    omega

/-- .. so such a form has a potential along every side of a cell of the region. -/
theorem potential {R : Reg} (hO : OutConn R) (F : Form) (hF : ∀ x y, R.at x y = true → F.curl x y = 0) :
    ∃ p : Nat → Nat → Int,
      (∀ x y : Nat, x < R.W → y ≤ R.T → (R.at x y = true ∨ R.at x ((y : Int) - 1) = true) → p (x + 1) y = p x y + F.e x y) ∧
      (∀ x y : Nat, x ≤ R.W → y < R.T → (R.at x y = true ∨ R.at ((x : Int) - 1) y = true) → p x (y + 1) = p x y + F.n x y) := by
  obtain ⟨G, g1, g2⟩ := close_up hO F hF
  refine ⟨(F.add G).pot, fun x y hx hy hu => ?_, fun x y hx hy hu => ?_⟩
  · rw [pot_e (F.add G) x y fun j hj => g2 x j hx (by omega)]
    simp only [Form.add]
    rw [g1.e _ _ hu]; omega
  · rw [pot_n]
    simp only [Form.add]
    rw [g1.n _ _ hu]; omega

end Go.Proofs.Ythepfpiphlfgnaa

/-
  YthepfpiphlfgnaaH1: dominoes by columns and rows; heights of a tiling: there are some, no others, and none is great. Plain Lean.
-/
namespace Go.Proofs.Ythepfpiphlfgnaa

/-- The direction of a cell; 0 outside of the field. -/
def Reg.way (R : Reg) (L : List Int) (x y : Int) : Int := if 0 ≤ x ∧ x < R.W ∧ 0 ≤ y ∧ y < R.T then L.getD (y * R.W + x).toNat 0 else 0
theorem way_in {R : Reg} {L : List Int} {x y : Nat} (hx : x < R.W) (hy : y < R.T) : R.way L x y = L.getD (y * R.W + x) 0 := by
  unfold Reg.way
  rw [if_pos (by omega)]
  congr 1
theorem way_out {R : Reg} {L : List Int} {x y : Int} (h : ¬ (0 ≤ x ∧ x < R.W ∧ 0 ≤ y ∧ y < R.T)) : R.way L x y = 0 := if_neg h
theorem way_ne {R : Reg} {L : List Int} {x y : Int} (h : R.way L x y ≠ 0) : ∃ a b : Nat, x = a ∧ y = b ∧ a < R.W ∧ b < R.T := by
  by_cases hc : 0 ≤ x ∧ x < R.W ∧ 0 ≤ y ∧ y < R.T
  · exact ⟨x.toNat, y.toNat, by omega, by omega, by omega, by omega⟩
  · exact absurd (way_out hc) h
theorem at_cell {R : Reg} (hR : R.ok) {x y : Int} (h : R.at x y = true) : ∃ a b : Nat, x = a ∧ y = b ∧ a < R.W ∧ b < R.T ∧ R.cell (b * R.W + a) := by
  by_cases hc : 0 ≤ x ∧ x < R.W ∧ 0 ≤ y ∧ y < R.T
  · obtain ⟨a, rfl⟩ := Int.eq_ofNat_of_zero_le hc.1
    obtain ⟨b, rfl⟩ := Int.eq_ofNat_of_zero_le hc.2.2.1
    refine ⟨a, b, rfl, rfl, by omega, by omega, ?_⟩
    rw [at_in (by omega) (by omega)] at h
    have hl := idx_lt hR (x := a) (y := b) (by omega) (by omega)
    rw [List.getD_eq_getElem?_getD, List.getElem?_eq_getElem hl] at h
    unfold Reg.cell
    rw [List.getElem?_eq_getElem hl]
    simpa using h
  · rw [at_out hc] at h; cases h
theorem cell_at {R : Reg} {a b : Nat} (ha : a < R.W) (hb : b < R.T) (h : R.cell (b * R.W + a)) : R.at a b = true := by
  rw [at_in ha hb, List.getD_eq_getElem?_getD, h]; rfl
theorem cell_at' {R : Reg} (hR : R.ok) {c : Nat} (h : R.cell c) : R.at ((c % R.W : Nat) : Int) ((c / R.W : Nat) : Int) = true :=
  cell_at (xy_lt hR (cell_lt h)).1 (xy_lt hR (cell_lt h)).2 (by rw [xy_eq]; exact h)

/-- A list lays dominoes, by columns and rows. -/
structure Lay (R : Reg) (L : List Int) : Prop where
  len : L.length = R.C.length
  at_ : ∀ x y, R.way L x y ≠ 0 → R.at x y = true
  rng : ∀ x y, 0 ≤ R.way L x y ∧ R.way L x y ≤ 4
  hor : ∀ x y, R.way L x y = 1 ↔ R.way L (x + 1) y = 3
  ver : ∀ x y, R.way L x y = 2 ↔ R.way L x (y + 1) = 4
def Full (R : Reg) (L : List Int) : Prop := ∀ x y, R.at x y = true → R.way L x y ≠ 0

/-- .. and by the indices of cells. -/
def LayAt (R : Reg) (L : List Int) (k : Nat) : Prop := L.getD k 0 = 0 ∨ ∃ e : Nat, R.step k (L.getD k 0) = (e : Int) ∧ R.cell k ∧ R.cell e ∧ L.getD e 0 = back (L.getD k 0)

theorem lay_of {R : Reg} (hR : R.ok) {L : List Int} (hl : L.length = R.C.length) (h : ∀ k, k < R.C.length → LayAt R L k) : Lay R L := by
  have key : ∀ {x y : Int}, R.way L x y ≠ 0 → ∃ a b e : Nat, x = a ∧ y = b ∧ a < R.W ∧ b < R.T ∧ R.cell (b * R.W + a) ∧ R.cell e ∧ R.step (b * R.W + a) (R.way L x y) = (e : Int) ∧ L.getD e 0 = back (R.way L x y) := by
    intro x y hw
    obtain ⟨a, b, rfl, rfl, ha, hb⟩ := way_ne hw
    rw [way_in ha hb] at hw ⊢
    rcases h _ (idx_lt hR ha hb) with h0 | ⟨e, h1, h2, h3, h4⟩
    · exact absurd h0 hw
    · exact ⟨a, b, e, rfl, rfl, ha, hb, h2, h3, h1, h4⟩
  refine ⟨hl, fun x y hw => ?_, fun x y => ?_, fun x y => ⟨fun hw => ?_, fun hw => ?_⟩, fun x y => ⟨fun hw => ?_, fun hw => ?_⟩⟩
  · obtain ⟨a, b, e, rfl, rfl, ha, hb, hc, _⟩ := key hw
    exact cell_at ha hb hc
  · by_cases hw : R.way L x y = 0
    · omega
    · obtain ⟨a, b, e, rfl, rfl, ha, hb, hc, _, hs, _⟩ := key hw
      rcases step_cases hs with ⟨h1, _⟩ | ⟨h1, _⟩ | ⟨h1, _⟩ | ⟨h1, _⟩ <;> omega
  · obtain ⟨a, b, e, rfl, rfl, ha, hb, _, _, hs, hx⟩ := key (x := x) (y := y) (by omega)
    rw [hw] at hs hx
    rcases step_cases hs with ⟨_, h1, rfl⟩ | ⟨h1, _⟩ | ⟨h1, _⟩ | ⟨h1, _⟩
    · rw [mk_mod b ha] at h1
      rw [show (a : Int) + 1 = ((a + 1 : Nat) : Int) by omega, way_in h1 hb]
      exact hx
    all_goals omega
  · obtain ⟨a, b, e, ea, rfl, ha, hb, _, _, hs, hx⟩ := key (x := x + 1) (y := y) (by omega)
    rw [hw] at hs hx
    rcases step_cases hs with ⟨h1, _⟩ | ⟨h1, _⟩ | ⟨_, h1, he⟩ | ⟨h1, _⟩
    · omega
    · omega
    · rw [mk_mod b ha] at h1
      obtain ⟨c, rfl⟩ : ∃ c, a = c + 1 := ⟨a - 1, by omega⟩
      obtain rfl : x = (c : Int) := by omega
      rw [way_in (by omega) hb]
      obtain rfl : e = b * R.W + c := by omega
      exact hx
    · omega
  · obtain ⟨a, b, e, rfl, rfl, ha, hb, _, _, hs, hx⟩ := key (x := x) (y := y) (by omega)
    rw [hw] at hs hx
    rcases step_cases hs with ⟨h1, _⟩ | ⟨_, h1, rfl⟩ | ⟨h1, _⟩ | ⟨h1, _⟩
    · omega
    · rw [mk_div b ha] at h1
      rw [show (b : Int) + 1 = ((b + 1 : Nat) : Int) by omega, way_in ha h1, show (b + 1) * R.W + a = b * R.W + a + R.W by rw [Nat.add_mul]; omega]
      exact hx
    all_goals omega
  · obtain ⟨a, b, e, rfl, eb, ha, hb, _, _, hs, hx⟩ := key (x := x) (y := y + 1) (by omega)
    rw [hw] at hs hx
    rcases step_cases hs with ⟨h1, _⟩ | ⟨h1, _⟩ | ⟨h1, _⟩ | ⟨_, h1, he⟩
    · omega
    · omega
    · omega
    · rw [mk_div b ha] at h1
      obtain ⟨c, rfl⟩ : ∃ c, b = c + 1 := ⟨b - 1, by omega⟩
      obtain rfl : y = (c : Int) := by omega
      rw [way_in ha (by omega)]
      obtain rfl : e = c * R.W + a := by rw [Nat.add_mul] at he; omega
      exact hx

theorem layAt_of {R : Reg} (hR : R.ok) {L : List Int} (h : Lay R L) {k : Nat} (hk : k < R.C.length) : LayAt R L k := by
  obtain ⟨hx, hy⟩ := xy_lt hR hk
  have he := xy_eq k R.W
  have hw : R.way L ((k % R.W : Nat) : Int) ((k / R.W : Nat) : Int) = L.getD k 0 := by rw [way_in hx hy, he]
  generalize hmx : k % R.W = x at *
  generalize hmy : k / R.W = y at *
  have hr := h.rng x y
  rw [hw] at hr
  by_cases h0 : L.getD k 0 = 0
  · exact .inl h0
  have hc : R.cell k := by
    obtain ⟨a, b, e1, e2, _, _, hc⟩ := at_cell hR (h.at_ x y (by rw [hw]; exact h0))
    obtain rfl : x = a := by omega
    obtain rfl : y = b := by omega
    rwa [he] at hc
  have other : ∀ {u v : Int} {d : Int}, R.way L u v = d → d ≠ 0 → ∃ a b : Nat, u = a ∧ v = b ∧ a < R.W ∧ b < R.T ∧ R.cell (b * R.W + a) ∧ L.getD (b * R.W + a) 0 = d := by
    intro u v d hd hne
    obtain ⟨a, b, rfl, rfl, ha, hb, hc⟩ := at_cell hR (h.at_ u v (by rw [hd]; exact hne))
    exact ⟨a, b, rfl, rfl, ha, hb, hc, by rw [← hd, way_in ha hb]⟩
  have h4 : L.getD k 0 = 1 ∨ L.getD k 0 = 2 ∨ L.getD k 0 = 3 ∨ L.getD k 0 = 4 := by omega
  rcases h4 with h4 | h4 | h4 | h4
  · obtain ⟨a, b, e1, e2, ha, hb, hc', hv⟩ := other ((h.hor x y).1 (by rw [hw, h4])) (by omega)
    obtain rfl : b = y := by omega
    obtain rfl : a = x + 1 := by omega
    refine .inr ⟨_, ?_, hc, hc', by rw [hv, h4]; rfl⟩
    rw [h4, Reg.step, if_pos rfl, hmx, if_pos (by omega)]; omega
  · obtain ⟨a, b, e1, e2, ha, hb, hc', hv⟩ := other ((h.ver x y).1 (by rw [hw, h4])) (by omega)
    obtain rfl : a = x := by omega
    obtain rfl : b = y + 1 := by omega
    refine .inr ⟨_, ?_, hc, hc', by rw [hv, h4]; rfl⟩
    rw [h4, Reg.step, if_neg (by omega), if_pos rfl, hmy, if_pos (by omega), Nat.add_mul]; omega
  · obtain ⟨a, b, e1, e2, ha, hb, hc', hv⟩ := other ((h.hor (x - 1) y).2 (by rw [show (x : Int) - 1 + 1 = x by omega, hw, h4])) (by omega)
    obtain rfl : b = y := by omega
    obtain rfl : x = a + 1 := by omega
    refine .inr ⟨_, ?_, hc, hc', by rw [hv, h4]; rfl⟩
    rw [h4, Reg.step, if_neg (by omega), if_neg (by omega), if_pos rfl, hmx, if_pos (by omega)]; omega
  · obtain ⟨a, b, e1, e2, ha, hb, hc', hv⟩ := other ((h.ver x (y - 1)).2 (by rw [show (y : Int) - 1 + 1 = y by omega, hw, h4])) (by omega)
    obtain rfl : a = x := by omega
    obtain rfl : y = b + 1 := by omega
    refine .inr ⟨_, ?_, hc, hc', by rw [hv, h4]; rfl⟩
    rw [h4, Reg.step, if_neg (by omega), if_neg (by omega), if_neg (by omega), if_pos rfl, hmy, if_pos (by omega)]
    rw [Nat.add_mul] at he; omega

/-! ### The form of a tiling -/
def sg (x y : Int) : Int := if (x + y) % 2 = 0 then 1 else -1
theorem sg_or (x y : Int) : sg x y = 1 ∨ sg x y = -1 := by unfold sg; split <;> simp
theorem sg_e (x y : Int) : sg (x + 1) y = - sg x y := by unfold sg; split <;> split <;> omega
theorem sg_n (x y : Int) : sg x (y + 1) = - sg x y := by unfold sg; split <;> split <;> omega
theorem sg_w (x y : Int) : sg (x - 1) y = - sg x y := by unfold sg; split <;> split <;> omega
theorem sg_s (x y : Int) : sg x (y - 1) = - sg x y := by unfold sg; split <;> split <;> omega
def tform (R : Reg) (L : List Int) : Form :=
  ⟨fun x y => if R.way L x (y - 1) = 2 then -3 * sg x y else sg x y, fun x y => if R.way L (x - 1) y = 1 then -3 * sg (x - 1) y else sg (x - 1) y⟩

theorem curl_tform {R : Reg} {L : List Int} (h : Lay R L) {x y : Int} (hw : R.way L x y ≠ 0) : (tform R L).curl x y = 0 := by
  have hv := h.ver x (y - 1)
  have hu := h.hor (x - 1) y
  have hr := h.rng x y
  rw [show y - 1 + 1 = y by omega] at hv
  rw [show x - 1 + 1 = x by omega] at hu
  simp only [Form.curl, tform]
  rw [show x + 1 - 1 = x by omega, show y + 1 - 1 = y by omega, sg_n, sg_w]
  have hs := sg_or x y
  split <;> split <;> split <;> split <;> omega

/-! ### Corners -/
def Reg.cu (R : Reg) (x y : Int) : Bool := R.at x y || R.at (x - 1) y || R.at x (y - 1) || R.at (x - 1) (y - 1)
def Reg.ci (R : Reg) (x y : Nat) : Nat := y * (R.W + 1) + x
def Reg.cn (R : Reg) : Nat := (R.W + 1) * (R.T + 1)
theorem ci_lt {R : Reg} {x y : Nat} (hx : x ≤ R.W) (hy : y ≤ R.T) : R.ci x y < R.cn := by
  unfold Reg.ci Reg.cn
  calc y * (R.W + 1) + x < y * (R.W + 1) + (R.W + 1) := by omega
    _ = (y + 1) * (R.W + 1) := by rw [Nat.add_mul, Nat.one_mul]
    _ ≤ (R.T + 1) * (R.W + 1) := Nat.mul_le_mul_right _ (by omega)
    _ = (R.W + 1) * (R.T + 1) := Nat.mul_comm _ _
theorem ci_mod {R : Reg} {x : Nat} (y : Nat) (hx : x ≤ R.W) : R.ci x y % (R.W + 1) = x := mk_mod y (by omega)
theorem ci_div {R : Reg} {x : Nat} (y : Nat) (hx : x ≤ R.W) : R.ci x y / (R.W + 1) = y := mk_div y (by omega)
theorem ci_of (R : Reg) (c : Nat) : R.ci (c % (R.W + 1)) (c / (R.W + 1)) = c := xy_eq c _
theorem ci_in {R : Reg} {c : Nat} (h : c < R.cn) : c % (R.W + 1) ≤ R.W ∧ c / (R.W + 1) ≤ R.T := by
  refine ⟨by have := Nat.mod_lt c (show 0 < R.W + 1 by omega); omega, ?_⟩
  have : c / (R.W + 1) < R.T + 1 := by rw [Nat.div_lt_iff_lt_mul (by omega), Nat.mul_comm]; exact h
  omega
theorem ci_inj {R : Reg} {x y x' y' : Nat} (hx : x ≤ R.W) (hx' : x' ≤ R.W) (h : R.ci x y = R.ci x' y') : x = x' ∧ y = y' := by
  have h1 := ci_mod y hx
  have h2 := ci_div y hx
  rw [h, ci_mod y' hx'] at h1
  rw [h, ci_div y' hx'] at h2
  exact ⟨h1.symm, h2.symm⟩
theorem cn_bd {R : Reg} (hR : R.ok) : 4 ≤ R.cn ∧ R.cn ≤ 49 := by
  obtain ⟨a, b, c, d, _⟩ := hR
  have h1 : R.W = 1 ∨ R.W = 2 ∨ R.W = 3 ∨ R.W = 4 ∨ R.W = 5 ∨ R.W = 6 := by omega
  unfold Reg.cn
  rcases h1 with h | h | h | h | h | h <;> rw [h] <;> omega
theorem cu_cases {R : Reg} {x y : Int} (h : R.cu x y = true) : R.at x y = true ∨ R.at (x - 1) y = true ∨ R.at x (y - 1) = true ∨ R.at (x - 1) (y - 1) = true := by
  simp only [Reg.cu, Bool.or_eq_true] at h
  rcases h with ((h | h) | h) | h <;> simp [h]
theorem cu_ne {R : Reg} {x y : Int} (h : R.at x y = true) : R.cu x y = true := by simp [Reg.cu, h]
theorem cu_nw {R : Reg} {x y : Int} (h : R.at (x - 1) y = true) : R.cu x y = true := by simp [Reg.cu, h]
theorem cu_se {R : Reg} {x y : Int} (h : R.at x (y - 1) = true) : R.cu x y = true := by simp [Reg.cu, h]
theorem cu_sw {R : Reg} {x y : Int} (h : R.at (x - 1) (y - 1) = true) : R.cu x y = true := by simp [Reg.cu, h]

theorem least {P : Nat → Prop} (h : ∃ k, P k) : ∃ k, P k ∧ ∀ j, P j → k ≤ j := by
  obtain ⟨k, hk⟩ := h
  induction k using Nat.strongRecOn with
  | _ k ih =>
    by_cases hc : ∃ j, j < k ∧ P j
    · obtain ⟨j, hj, hp⟩ := hc
      exact ih j hj hp
    · exact ⟨k, hk, fun j hj => Nat.le_of_not_lt fun hlt => hc ⟨j, hlt, hj⟩⟩

/-- What is the same at both ends of each side is the same at all corners of a region of one part. -/
theorem conn_corners {R : Reg} (hR : R.ok) (hI : InConn R) (f : Nat → Nat → Prop)
    (he : ∀ x y : Nat, x < R.W → y ≤ R.T → (R.at x y = true ∨ R.at x ((y : Int) - 1) = true) → (f x y ↔ f (x + 1) y))
    (hn : ∀ x y : Nat, x ≤ R.W → y < R.T → (R.at x y = true ∨ R.at ((x : Int) - 1) y = true) → (f x y ↔ f x (y + 1)))
    {x y x' y' : Nat} (hu : R.cu x y = true) (hu' : R.cu x' y' = true) (h : f x y) : f x' y' := by
  have base : ∀ x y : Nat, R.cu x y = true → ∃ c, R.cell c ∧ (f x y ↔ f (c % R.W) (c / R.W)) := by
    intro x y hu
    rcases cu_cases hu with h | h | h | h
    · obtain ⟨a, b, e1, e2, ha, hb, hc⟩ := at_cell hR h
      obtain rfl : x = a := by omega
      obtain rfl : y = b := by omega
      exact ⟨_, hc, by rw [mk_mod y ha, mk_div y ha]⟩
    · obtain ⟨a, b, e1, e2, ha, hb, hc⟩ := at_cell hR h
      obtain rfl : x = a + 1 := by omega
      obtain rfl : y = b := by omega
      refine ⟨_, hc, ?_⟩
      rw [mk_mod y ha, mk_div y ha]
      exact (he a y ha (by omega) (.inl (cell_at ha hb hc))).symm
    · obtain ⟨a, b, e1, e2, ha, hb, hc⟩ := at_cell hR h
      obtain rfl : x = a := by omega
      obtain rfl : y = b + 1 := by omega
      refine ⟨_, hc, ?_⟩
      rw [mk_mod b ha, mk_div b ha]
      exact (hn x b (by omega) hb (.inl (cell_at ha hb hc))).symm
    · obtain ⟨a, b, e1, e2, ha, hb, hc⟩ := at_cell hR h
      obtain rfl : x = a + 1 := by omega
      obtain rfl : y = b + 1 := by omega
      refine ⟨_, hc, ?_⟩
      rw [mk_mod b ha, mk_div b ha]
      have h1 := he a b ha (by omega) (.inl (cell_at ha hb hc))
      have h2 := hn (a + 1) b (by omega) hb (.inr (by rw [show ((a + 1 : Nat) : Int) - 1 = (a : Int) by omega]; exact cell_at ha hb hc))
      exact (h1.trans h2).symm
  have up : ∀ c e, R.cell c → R.cell e → ((c % R.W + 1 < R.W ∧ e = c + 1) ∨ (c / R.W + 1 < R.T ∧ e = c + R.W)) → (f (c % R.W) (c / R.W) ↔ f (e % R.W) (e / R.W)) := by
    intro c e hc hce hs
    obtain ⟨hx, hy⟩ := xy_lt hR (cell_lt hc)
    have hq := xy_eq c R.W
    rcases hs with ⟨h1, rfl⟩ | ⟨h1, rfl⟩
    · have e1 : c + 1 = c / R.W * R.W + (c % R.W + 1) := by omega
      rw [e1, mk_mod _ h1, mk_div _ h1]
      exact he _ _ hx (by omega) (.inl (cell_at' hR hc))
    · have e1 : c + R.W = (c / R.W + 1) * R.W + c % R.W := by rw [Nat.add_mul]; omega
      rw [e1, mk_mod _ hx, mk_div _ hx]
      exact hn _ _ (by omega) hy (.inl (cell_at' hR hc))
  have adj : ∀ c e, R.A c e → (f (c % R.W) (c / R.W) ↔ f (e % R.W) (e / R.W)) := by
    intro c e hA
    obtain ⟨hc, hce, way, _, _, hs⟩ := hA
    rcases step_cases hs with ⟨_, h1, rfl⟩ | ⟨_, h1, rfl⟩ | ⟨_, h1, h2⟩ | ⟨_, h1, h2⟩
    · exact up _ _ hc hce (.inl ⟨h1, rfl⟩)
    · exact up _ _ hc hce (.inr ⟨h1, rfl⟩)
    · subst h2
      refine (up _ _ hce hc (.inl ⟨?_, rfl⟩)).symm
      have hq := xy_eq (e + 1) R.W
      have hx := (xy_lt hR (cell_lt hc)).1
      obtain ⟨m, hm⟩ : ∃ m, (e + 1) % R.W = m + 1 := ⟨(e + 1) % R.W - 1, by omega⟩
      rw [hm] at hq hx
      have e1 : e = (e + 1) / R.W * R.W + m := by omega
      rw [e1, mk_mod _ (by omega)]; omega
    · subst h2
      refine (up _ _ hce hc (.inr ⟨?_, rfl⟩)).symm
      have hq := xy_eq (e + R.W) R.W
      obtain ⟨hx, hy⟩ := xy_lt hR (cell_lt hc)
      obtain ⟨m, hm⟩ : ∃ m, (e + R.W) / R.W = m + 1 := ⟨(e + R.W) / R.W - 1, by omega⟩
      rw [hm] at hy
      rw [hm, Nat.add_mul] at hq
      have e1 : e = m * R.W + (e + R.W) % R.W := by omega
      rw [e1, mk_div _ hx]; omega
  obtain ⟨c, hc, h1⟩ := base x y hu
  obtain ⟨d, hd, h2⟩ := base x' y' hu'
  refine h2.2 ?_
  exact linked_ind (A := R.A) (P := fun c => f (c % R.W) (c / R.W)) (fun c e hce h => (adj c e hce).2 h) (hI.2 d c hd hc) (h1.1 h)

/-! ### Heights -/
def Reg.ht (R : Reg) (H : List Int) (x y : Nat) : Int := H.getD (R.ci x y) 0
/-- Is it the first corner of a cell? -/
def First (R : Reg) (x y : Nat) : Prop := x ≤ R.W ∧ y ≤ R.T ∧ R.cu x y = true ∧ ∀ u v : Nat, u ≤ R.W → v ≤ R.T → R.cu u v = true → R.ci x y ≤ R.ci u v

/-- A list has the heights of a form. -/
structure HtsF (R : Reg) (F : Form) (H : List Int) : Prop where
  len : H.length = R.cn
  no : ∀ x y : Nat, x ≤ R.W → y ≤ R.T → R.cu x y = false → R.ht H x y = 99
  first : ∀ x y : Nat, First R x y → R.ht H x y = 0
  e : ∀ x y : Nat, x < R.W → y ≤ R.T → (R.at x y = true ∨ R.at x ((y : Int) - 1) = true) → R.ht H (x + 1) y = R.ht H x y + F.e x y
  n : ∀ x y : Nat, x ≤ R.W → y < R.T → (R.at x y = true ∨ R.at ((x : Int) - 1) y = true) → R.ht H x (y + 1) = R.ht H x y + F.n x y
def Hts (R : Reg) (L H : List Int) : Prop := HtsF R (tform R L) H

theorem first_ex {R : Reg} (hR : R.ok) (hI : InConn R) : ∃ x y, First R x y := by
  obtain ⟨c, hc⟩ := hI.1
  obtain ⟨k, ⟨x, y, hx, hy, hu, rfl⟩, hk⟩ := least (P := fun k => ∃ x y : Nat, x ≤ R.W ∧ y ≤ R.T ∧ R.cu x y = true ∧ k = R.ci x y)
    ⟨_, c % R.W, c / R.W, Nat.le_of_lt (xy_lt hR (cell_lt hc)).1, Nat.le_of_lt (xy_lt hR (cell_lt hc)).2, cu_ne (cell_at' hR hc), rfl⟩
  exact ⟨x, y, hx, hy, hu, fun u v h1 h2 h3 => hk _ ⟨u, v, h1, h2, h3, rfl⟩⟩
theorem first_one {R : Reg} {x y x' y' : Nat} (h : First R x y) (h' : First R x' y') : x = x' ∧ y = y' :=
  ci_inj h.1 h'.1 (Nat.le_antisymm (h.2.2.2 _ _ h'.1 h'.2.1 h'.2.2.1) (h'.2.2.2 _ _ h.1 h.2.1 h.2.2.1))
/-- The cell in its north-east belongs to the region. -/
theorem first_cell {R : Reg} (hR : R.ok) {x y : Nat} (h : First R x y) : R.at x y = true := by
  obtain ⟨hx, hy, hu, hm⟩ := h
  rcases cu_cases hu with h | h | h | h
  · exact h
  · obtain ⟨a, b, e1, e2, ha, hb, hc⟩ := at_cell hR h
    have := hm a b (by omega) (by omega) (cu_ne (cell_at ha hb hc))
    obtain rfl : x = a + 1 := by omega
    obtain rfl : y = b := by omega
    unfold Reg.ci at this; omega
  · obtain ⟨a, b, e1, e2, ha, hb, hc⟩ := at_cell hR h
    have := hm a b (by omega) (by omega) (cu_ne (cell_at ha hb hc))
    obtain rfl : x = a := by omega
    obtain rfl : y = b + 1 := by omega
    unfold Reg.ci at this; rw [Nat.add_mul] at this; omega
  · obtain ⟨a, b, e1, e2, ha, hb, hc⟩ := at_cell hR h
    have := hm a b (by omega) (by omega) (cu_ne (cell_at ha hb hc))
    obtain rfl : x = a + 1 := by omega
    obtain rfl : y = b + 1 := by omega
    unfold Reg.ci at this; rw [Nat.add_mul] at this; omega

theorem cu_e {R : Reg} {x y : Nat} (h : R.at x y = true ∨ R.at x ((y : Int) - 1) = true) : R.cu x y = true ∧ R.cu ((x + 1 : Nat) : Int) y = true := by
  have e1 : ((x + 1 : Nat) : Int) - 1 = (x : Int) := by omega
  rcases h with h | h
  · exact ⟨cu_ne h, cu_nw (by rw [e1]; exact h)⟩
  · exact ⟨cu_se h, cu_sw (by rw [e1]; exact h)⟩
theorem cu_n {R : Reg} {x y : Nat} (h : R.at x y = true ∨ R.at ((x : Int) - 1) y = true) : R.cu x y = true ∧ R.cu x ((y + 1 : Nat) : Int) = true := by
  have e1 : ((y + 1 : Nat) : Int) - 1 = (y : Int) := by omega
  rcases h with h | h
  · exact ⟨cu_ne h, cu_se (by rw [e1]; exact h)⟩
  · exact ⟨cu_nw h, cu_sw (by rw [e1]; exact h)⟩

theorem htsF_exist {R : Reg} (hR : R.ok) (hS : SimpleP R) (F : Form) (hF : ∀ x y, R.at x y = true → F.curl x y = 0) : ∃ H, HtsF R F H := by
  obtain ⟨p, pe, pn⟩ := potential hS.2 F hF
  obtain ⟨x0, y0, h0⟩ := first_ex hR hS.1
  refine ⟨(List.range R.cn).map fun c => if R.cu ((c % (R.W + 1) : Nat) : Int) ((c / (R.W + 1) : Nat) : Int) = true then p (c % (R.W + 1)) (c / (R.W + 1)) - p x0 y0 else 99, ?_⟩
  have val : ∀ x y : Nat, x ≤ R.W → y ≤ R.T → R.ht ((List.range R.cn).map fun c => if R.cu ((c % (R.W + 1) : Nat) : Int) ((c / (R.W + 1) : Nat) : Int) = true then p (c % (R.W + 1)) (c / (R.W + 1)) - p x0 y0 else 99) x y = if R.cu x y = true then p x y - p x0 y0 else 99 := by
    intro x y hx hy
    unfold Reg.ht
    rw [List.getD_eq_getElem?_getD, List.getElem?_map, List.getElem?_range (ci_lt hx hy)]
    simp only [Option.map_some, Option.getD_some]
    rw [ci_mod y hx, ci_div y hx]
  refine ⟨by simp, fun x y hx hy hu => ?_, fun x y hf => ?_, fun x y hx hy hu => ?_, fun x y hx hy hu => ?_⟩
  · rw [val x y hx hy, if_neg (by rw [hu]; decide)]
  · rw [val x y hf.1 hf.2.1, if_pos hf.2.2.1]
    obtain ⟨rfl, rfl⟩ := first_one hf h0
    omega
  · rw [val x y (by omega) hy, val (x + 1) y (by omega) hy, if_pos (cu_e hu).1, if_pos (cu_e hu).2, pe x y hx hy hu]; omega
  · rw [val x y hx (by omega), val x (y + 1) hx (by omega), if_pos (cu_n hu).1, if_pos (cu_n hu).2, pn x y hx hy hu]; omega

theorem ht_ext {R : Reg} {H K : List Int} (h1 : H.length = R.cn) (h2 : K.length = R.cn) (h : ∀ x y : Nat, x ≤ R.W → y ≤ R.T → R.ht H x y = R.ht K x y) : H = K := by
  apply List.ext_getElem (by omega)
  intro i hi hi'
  have := h _ _ (ci_in (R := R) (c := i) (by omega)).1 (ci_in (R := R) (c := i) (by omega)).2
  unfold Reg.ht at this
  rw [ci_of] at this
  simpa [List.getD_eq_getElem?_getD, List.getElem?_eq_getElem hi, List.getElem?_eq_getElem hi'] using this

theorem htsF_one {R : Reg} (hR : R.ok) (hI : InConn R) {F : Form} {H K : List Int} (h : HtsF R F H) (k : HtsF R F K) : H = K := by
  obtain ⟨x0, y0, h0⟩ := first_ex hR hI
  refine ht_ext h.len k.len fun x y hx hy => ?_
  cases hu : R.cu x y with
  | false => rw [h.no x y hx hy hu, k.no x y hx hy hu]
  | true =>
    refine conn_corners hR hI (fun x y => R.ht H x y = R.ht K x y) (fun x y hx hy hu => ?_) (fun x y hx hy hu => ?_) h0.2.2.1 hu (by rw [h.first _ _ h0, k.first _ _ h0])
    · rw [h.e x y hx hy hu, k.e x y hx hy hu]; omega
    · rw [h.n x y hx hy hu, k.n x y hx hy hu]; omega

theorem hts_exist {R : Reg} (hR : R.ok) (hS : SimpleP R) {L : List Int} (hL : Lay R L) (hF : Full R L) : ∃ H, Hts R L H :=
  htsF_exist hR hS _ fun x y h => curl_tform hL (hF x y h)
theorem hts_one {R : Reg} (hR : R.ok) (hI : InConn R) {L H K : List Int} (h : Hts R L H) (k : Hts R L K) : H = K := htsF_one hR hI h k

/-! ### How great they are -/
open Classical in
theorem near_boundP {A : Nat → Nat → Prop} {n m : Nat} {q : Nat → Bool} (hA : ∀ c e, A c e → c < n ∧ q c = true) (hm : (List.range n).countP q ≤ m) {d : Nat} (hd : d < n) (hq : q d = true) {c : Nat} (h : Linked A c d) : Near A m c d := by
  let f : Nat → Nat := fun k => (List.range n).countP fun x => decide (Near A k x d)
  let Cl : Nat → Prop := fun k => ∀ c e, A c e → Near A k e d → Near A k c d
  have hcl : ∀ k, Cl k → ∀ j c, Near A j c d → Near A k c d := by
    intro k hk j
    induction j with
    | zero => intro c hc; exact near_le (k := 0) hc (Nat.zero_le _)
    | succ j ih =>
      intro c hc
      rcases hc with hc | ⟨e, he, hc⟩
      · exact ih c hc
      · exact hk c e he (ih e hc)
  have hfq : ∀ k x, Near A k x d → q x = true := by
    intro k
    induction k with
    | zero => intro x hx; have : x = d := hx; rw [this]; exact hq
    | succ k ih =>
      intro x hx
      rcases hx with hx | ⟨e, he, _⟩
      · exact ih x hx
      · exact (hA x e he).2
  have key : ∀ k, Cl k ∨ k + 1 ≤ f k := by
    intro k
    induction k with
    | zero =>
      refine .inr ?_
      have : 0 < f 0 := List.countP_pos_iff.2 ⟨d, List.mem_range.2 hd, by simp [Near]⟩
      omega
    | succ k ih =>
      by_cases hk : Cl k
      · refine .inl fun c e he hn => near_mono (hk c e he (hcl k hk (k + 1) e hn))
      · rcases ih with ih | ih
        · exact absurd ih hk
        · refine .inr ?_
          have : ∃ c e, A c e ∧ Near A k e d ∧ ¬ Near A k c d := by
            refine Classical.byContradiction fun hno => hk fun c e he hn => Classical.byContradiction fun hc => hno ⟨c, e, he, hn, hc⟩
          obtain ⟨c, e, he, hn, hc⟩ := this
          have : f k < f (k + 1) := countP_lt (fun x _ hx => by simpa using near_mono (by simpa using hx)) ⟨c, List.mem_range.2 (hA c e he).1, by simpa using .inr ⟨e, he, hn⟩, by simpa using hc⟩
          omega
  have hn : Cl m := by
    rcases key m with h | h
    · exact h
    · have : f m ≤ (List.range n).countP q := List.countP_mono_left fun x _ hx => hfq m x (by simpa using hx)
      omega
  obtain ⟨k, hk⟩ := h
  exact hcl m hn k c hk
theorem near_cells {R : Reg} (hR : R.ok) {c d : Nat} (hd : R.cell d) (h : Linked R.A c d) : Near R.A 24 c d := by
  refine near_boundP (n := R.C.length) (q := fun p => R.C.getD p false) (fun c e hce => ⟨cell_lt hce.1, by rw [List.getD_eq_getElem?_getD, hce.1]; rfl⟩) ?_ (cell_lt hd) (by rw [List.getD_eq_getElem?_getD, hd]; rfl) h
  rw [← cnt_range]
  exact hR.2.2.2.2.2

/-- The heights round a cell. -/
def Rng (R : Reg) (H : List Int) (c : Nat) (m : Int) : Prop :=
  ∀ i j : Nat, i ≤ 1 → j ≤ 1 → m ≤ R.ht H (c % R.W + i) (c / R.W + j) ∧ R.ht H (c % R.W + i) (c / R.W + j) ≤ m + 3

theorem hts_round {R : Reg} {L H : List Int} (hL : Lay R L) (hH : Hts R L H) {x y : Nat} (hx : x < R.W) (hy : y < R.T) (hc : R.at x y = true) :
    ∃ s : Int, (s = 1 ∨ s = -1) ∧
      R.ht H (x + 1) y = R.ht H x y + (if R.way L x y = 4 then -3 * s else s) ∧ R.ht H (x + 1) (y + 1) = R.ht H (x + 1) y + (if R.way L x y = 1 then -3 * s else s) ∧
      R.ht H (x + 1) (y + 1) = R.ht H x (y + 1) - (if R.way L x y = 2 then -3 * s else s) ∧ R.ht H x (y + 1) = R.ht H x y - (if R.way L x y = 3 then -3 * s else s) ∧ s = sg x y := by
  refine ⟨sg x y, sg_or _ _, ?_, ?_, ?_, ?_, rfl⟩
  · rw [hH.e x y hx (by omega) (.inl hc)]
    have hv := hL.ver x ((y : Int) - 1)
    rw [show (y : Int) - 1 + 1 = y by omega] at hv
    simp only [tform]
    by_cases h4 : R.way L x y = 4
    · rw [if_pos h4, if_pos (hv.2 h4)]
    · rw [if_neg h4, if_neg fun h => h4 (hv.1 h)]
  · rw [hH.n (x + 1) y (by omega) hy (.inr (by rw [show ((x + 1 : Nat) : Int) - 1 = (x : Int) by omega]; exact hc))]
    simp only [tform]
    rw [show ((x + 1 : Nat) : Int) - 1 = (x : Int) by omega]
  · rw [hH.e x (y + 1) hx (by omega) (.inr (by rw [show ((y + 1 : Nat) : Int) - 1 = (y : Int) by omega]; exact hc))]
    simp only [tform]
    rw [show ((y + 1 : Nat) : Int) - 1 = (y : Int) by omega, show ((y + 1 : Nat) : Int) = (y : Int) + 1 by omega, sg_n]
    split <;> omega
  · rw [hH.n x y (by omega) hy (.inl hc)]
    have hu := hL.hor ((x : Int) - 1) y
    rw [show (x : Int) - 1 + 1 = x by omega] at hu
    simp only [tform]
    rw [sg_w]
    by_cases h3 : R.way L x y = 3
    · rw [if_pos h3, if_pos (hu.2 h3)]; omega
    · rw [if_neg h3, if_neg fun h => h3 (hu.1 h)]; omega

theorem rng_ex {R : Reg} (hR : R.ok) {L H : List Int} (hL : Lay R L) (hF : Full R L) (hH : Hts R L H) {c : Nat} (hc : R.cell c) : ∃ m, Rng R H c m := by
  obtain ⟨hx, hy⟩ := xy_lt hR (cell_lt hc)
  have ha := cell_at' hR hc
  unfold Rng
  generalize c % R.W = x at *
  generalize c / R.W = y at *
  obtain ⟨s, hs, h1, h2, h3, h4, _⟩ := hts_round hL hH hx hy ha
  have hr := hL.rng x y
  have hne := hF x y ha
  generalize R.way L x y = w at *
  have all : ∀ m : Int, (m ≤ R.ht H x y ∧ R.ht H x y ≤ m + 3) ∧ (m ≤ R.ht H (x + 1) y ∧ R.ht H (x + 1) y ≤ m + 3) ∧ (m ≤ R.ht H x (y + 1) ∧ R.ht H x (y + 1) ≤ m + 3) ∧ (m ≤ R.ht H (x + 1) (y + 1) ∧ R.ht H (x + 1) (y + 1) ≤ m + 3) →
      ∀ i j : Nat, i ≤ 1 → j ≤ 1 → m ≤ R.ht H (x + i) (y + j) ∧ R.ht H (x + i) (y + j) ≤ m + 3 := by
    intro m ⟨a, b, c, d⟩ i j hi hj
    have hi' : i = 0 ∨ i = 1 := by omega
    have hj' : j = 0 ∨ j = 1 := by omega
    rcases hi' with rfl | rfl <;> rcases hj' with rfl | rfl <;> assumption
  generalize R.ht H x y = p at *
  generalize R.ht H (x + 1) y = q at *
  generalize R.ht H x (y + 1) = r at *
  generalize R.ht H (x + 1) (y + 1) = t at *
  refine ⟨min (min p q) (min r t), all _ ?_⟩
  have hw : w = 1 ∨ w = 2 ∨ w = 3 ∨ w = 4 := by omega
  rcases hs with rfl | rfl <;> rcases hw with rfl | rfl | rfl | rfl <;> simp at h1 h2 h3 h4 <;> omega

theorem rng_near {R : Reg} (hR : R.ok) {L H : List Int} (hL : Lay R L) (hF : Full R L) (hH : Hts R L H) {d : Nat} {m : Int} (hd : R.cell d) (hm : Rng R H d m) :
    ∀ k c, Near R.A k c d → ∃ m', Rng R H c m' ∧ m - 2 * k ≤ m' ∧ m' ≤ m + 2 * k := by
  have adj : ∀ c e m', R.A c e → Rng R H e m' → ∃ m, Rng R H c m ∧ m' - 2 ≤ m ∧ m ≤ m' + 2 := by
    intro c e m' hA he
    obtain ⟨m, hcm⟩ := rng_ex hR hL hF hH hA.1
    refine ⟨m, hcm, ?_⟩
    obtain ⟨hc, hce, way, _, _, hs⟩ := hA
    obtain ⟨hx, hy⟩ := xy_lt hR (cell_lt hc)
    have hq := xy_eq c R.W
    have ha := cell_at' hR hc
    have hv := hts_round hL hH hx hy ha
    have key : ∀ p q : Int, p ≠ q → (m ≤ p ∧ p ≤ m + 3) → (m ≤ q ∧ q ≤ m + 3) → (m' ≤ p ∧ p ≤ m' + 3) → (m' ≤ q ∧ q ≤ m' + 3) → m' - 2 ≤ m ∧ m ≤ m' + 2 := by
      intro p q h1 h2 h3 h4 h5; omega
    obtain ⟨s, hs', h1, h2, h3, h4, _⟩ := hv
    rcases step_cases hs with ⟨_, k1, rfl⟩ | ⟨_, k1, rfl⟩ | ⟨_, k1, k2⟩ | ⟨_, k1, k2⟩
    · have e1 : c + 1 = c / R.W * R.W + (c % R.W + 1) := by omega
      have m1 := mk_mod (c / R.W) k1
      have m2 := mk_div (c / R.W) k1
      rw [← e1] at m1 m2
      unfold Rng at he
      rw [m1, m2] at he
      refine key (R.ht H (c % R.W + 1) (c / R.W)) (R.ht H (c % R.W + 1) (c / R.W + 1)) ?_ (hcm 1 0 (by omega) (by omega)) (hcm 1 1 (by omega) (by omega)) (he 0 0 (by omega) (by omega)) (he 0 1 (by omega) (by omega))
      rw [h2]; split <;> omega
    · have e1 : c + R.W = (c / R.W + 1) * R.W + c % R.W := by rw [Nat.add_mul]; omega
      have m1 := mk_mod (c / R.W + 1) hx
      have m2 := mk_div (c / R.W + 1) hx
      rw [← e1] at m1 m2
      unfold Rng at he
      rw [m1, m2] at he
      refine key (R.ht H (c % R.W) (c / R.W + 1)) (R.ht H (c % R.W + 1) (c / R.W + 1)) ?_ (hcm 0 1 (by omega) (by omega)) (hcm 1 1 (by omega) (by omega)) (he 0 0 (by omega) (by omega)) (he 1 0 (by omega) (by omega))
      rw [h3]; split <;> omega
    · obtain ⟨n, hn⟩ : ∃ n, c % R.W = n + 1 := ⟨c % R.W - 1, by omega⟩
      rw [hn] at hq hx h1 h2 h3 h4
      have e1 : e = c / R.W * R.W + n := by omega
      have m1 := mk_mod (c / R.W) (show n < R.W by omega)
      have m2 := mk_div (c / R.W) (show n < R.W by omega)
      rw [← e1] at m1 m2
      unfold Rng at he hcm
      rw [m1, m2] at he
      rw [hn] at hcm
      refine key (R.ht H (n + 1) (c / R.W)) (R.ht H (n + 1) (c / R.W + 1)) ?_ (hcm 0 0 (by omega) (by omega)) (hcm 0 1 (by omega) (by omega)) (he 1 0 (by omega) (by omega)) (he 1 1 (by omega) (by omega))
      rw [h4]; split <;> omega
    · obtain ⟨n, hn⟩ : ∃ n, c / R.W = n + 1 := ⟨c / R.W - 1, by omega⟩
      rw [hn] at hq hy h1 h2 h3 h4
      have e1 : e = n * R.W + c % R.W := by rw [Nat.add_mul] at hq; omega
      have m1 := mk_mod n hx
      have m2 := mk_div n hx
      rw [← e1] at m1 m2
      unfold Rng at he hcm
      rw [m1, m2] at he
      rw [hn] at hcm
      refine key (R.ht H (c % R.W) (n + 1)) (R.ht H (c % R.W + 1) (n + 1)) ?_ (hcm 0 0 (by omega) (by omega)) (hcm 1 0 (by omega) (by omega)) (he 0 1 (by omega) (by omega)) (he 1 1 (by omega) (by omega))
      rw [h1]; split <;> omega
  intro k
  induction k with
  | zero => intro c hc; have : c = d := hc; subst this; exact ⟨m, hm, by omega, by omega⟩
  | succ k ih =>
    intro c hc
    rcases hc with hc | ⟨e, he, hc⟩
    · obtain ⟨m', h1, h2, h3⟩ := ih c hc
      exact ⟨m', h1, by omega, by omega⟩
    · obtain ⟨m', h1, h2, h3⟩ := ih e hc
      obtain ⟨m2, k1, k2, k3⟩ := adj c e m' he h1
      exact ⟨m2, k1, by omega, by omega⟩

theorem cu_corner {R : Reg} (hR : R.ok) {x y : Nat} (h : R.cu x y = true) : ∃ c i j : Nat, R.cell c ∧ i ≤ 1 ∧ j ≤ 1 ∧ x = c % R.W + i ∧ y = c / R.W + j := by
  have mk : ∀ (a b i j : Nat), a < R.W → R.cell (b * R.W + a) → x = a + i → y = b + j → i ≤ 1 → j ≤ 1 → ∃ c i j : Nat, R.cell c ∧ i ≤ 1 ∧ j ≤ 1 ∧ x = c % R.W + i ∧ y = c / R.W + j := by
    intro a b i j ha hc hx hy hi hj
    exact ⟨_, i, j, hc, hi, hj, by rw [mk_mod b ha]; exact hx, by rw [mk_div b ha]; exact hy⟩
  rcases cu_cases h with h | h | h | h
  · obtain ⟨a, b, e1, e2, ha, hb, hc⟩ := at_cell hR h
    exact mk a b 0 0 ha hc (by omega) (by omega) (by omega) (by omega)
  · obtain ⟨a, b, e1, e2, ha, hb, hc⟩ := at_cell hR h
    exact mk a b 1 0 ha hc (by omega) (by omega) (by omega) (by omega)
  · obtain ⟨a, b, e1, e2, ha, hb, hc⟩ := at_cell hR h
    exact mk a b 0 1 ha hc (by omega) (by omega) (by omega) (by omega)
  · obtain ⟨a, b, e1, e2, ha, hb, hc⟩ := at_cell hR h
    exact mk a b 1 1 ha hc (by omega) (by omega) (by omega) (by omega)

theorem hts_bd {R : Reg} (hR : R.ok) (hI : InConn R) {L H : List Int} (hL : Lay R L) (hF : Full R L) (hH : Hts R L H) {x y : Nat} (hu : R.cu x y = true) : -51 ≤ R.ht H x y ∧ R.ht H x y ≤ 51 := by
  obtain ⟨x0, y0, h0⟩ := first_ex hR hI
  obtain ⟨d, i0, j0, hd, hi0, hj0, e1, e2⟩ := cu_corner hR h0.2.2.1
  obtain ⟨c, i, j, hc, hi, hj, rfl, rfl⟩ := cu_corner hR hu
  obtain ⟨m, hm⟩ := rng_ex hR hL hF hH hd
  obtain ⟨m', h1, h2, h3⟩ := rng_near hR hL hF hH hd hm 24 c (near_cells hR hd (hI.2 c d hc hd))
  have h4 := hm i0 j0 hi0 hj0
  rw [← e1, ← e2, hH.first _ _ h0] at h4
  have h5 := h1 i j hi hj
  omega

end Go.Proofs.Ythepfpiphlfgnaa

/-
  YthepfpiphlfgnaaQ1: right heights are those of a tiling; the lesser and the greater ones of two are right. Plain Lean.
-/
namespace Go.Proofs.Ythepfpiphlfgnaa

/-- Right heights. -/
structure HP (R : Reg) (H : List Int) : Prop where
  len : H.length = R.cn
  no : ∀ x y : Nat, x ≤ R.W → y ≤ R.T → R.cu x y = false → R.ht H x y = 99
  first : ∀ x y : Nat, First R x y → R.ht H x y = 0
  e : ∀ x y : Nat, x < R.W → y ≤ R.T → (R.at x y = true ∨ R.at x ((y : Int) - 1) = true) →
    R.ht H (x + 1) y = R.ht H x y + sg x y ∨ (R.at x y = true ∧ R.at x ((y : Int) - 1) = true ∧ R.ht H (x + 1) y = R.ht H x y - 3 * sg x y)
  n : ∀ x y : Nat, x ≤ R.W → y < R.T → (R.at x y = true ∨ R.at ((x : Int) - 1) y = true) →
    R.ht H x (y + 1) = R.ht H x y + sg ((x : Int) - 1) y ∨ (R.at x y = true ∧ R.at ((x : Int) - 1) y = true ∧ R.ht H x (y + 1) = R.ht H x y - 3 * sg ((x : Int) - 1) y)

theorem hp_of_hts {R : Reg} {L H : List Int} (hL : Lay R L) (hH : Hts R L H) : HP R H := by
  refine ⟨hH.len, hH.no, hH.first, fun x y hx hy hu => ?_, fun x y hx hy hu => ?_⟩
  · rw [hH.e x y hx hy hu]
    simp only [tform]
    split
    · rename_i h2
      have hv := hL.ver x ((y : Int) - 1)
      rw [show (y : Int) - 1 + 1 = y by omega] at hv
      exact .inr ⟨hL.at_ x y (by rw [hv.1 h2]; decide), hL.at_ x _ (by rw [h2]; decide), by omega⟩
    · exact .inl rfl
  · rw [hH.n x y hx hy hu]
    simp only [tform]
    split
    · rename_i h2
      have hv := hL.hor ((x : Int) - 1) y
      rw [show (x : Int) - 1 + 1 = x by omega] at hv
      exact .inr ⟨hL.at_ x y (by rw [hv.1 h2]; decide), hL.at_ _ y (by rw [h2]; decide), by omega⟩
    · exact .inl rfl

theorem hp_round {R : Reg} {H : List Int} (h : HP R H) {x y : Nat} (hx : x < R.W) (hy : y < R.T) (hc : R.at x y = true) :
    (R.ht H (x + 1) y = R.ht H x y + sg x y ∨ R.ht H (x + 1) y = R.ht H x y - 3 * sg x y) ∧
    (R.ht H (x + 1) (y + 1) = R.ht H (x + 1) y + sg x y ∨ R.ht H (x + 1) (y + 1) = R.ht H (x + 1) y - 3 * sg x y) ∧
    (R.ht H (x + 1) (y + 1) = R.ht H x (y + 1) - sg x y ∨ R.ht H (x + 1) (y + 1) = R.ht H x (y + 1) + 3 * sg x y) ∧
    (R.ht H x (y + 1) = R.ht H x y - sg x y ∨ R.ht H x (y + 1) = R.ht H x y + 3 * sg x y) := by
  refine ⟨?_, ?_, ?_, ?_⟩
  · rcases h.e x y hx (by omega) (.inl hc) with h | ⟨_, _, h⟩
    · exact .inl h
    · exact .inr h
  · have := h.n (x + 1) y (by omega) hy (.inr (by rw [show ((x + 1 : Nat) : Int) - 1 = (x : Int) by omega]; exact hc))
    rw [show ((x + 1 : Nat) : Int) - 1 = (x : Int) by omega] at this
    rcases this with h | ⟨_, _, h⟩
    · exact .inl h
    · exact .inr h
  · have := h.e x (y + 1) hx (by omega) (.inr (by rw [show ((y + 1 : Nat) : Int) - 1 = (y : Int) by omega]; exact hc))
    rw [show ((y + 1 : Nat) : Int) = (y : Int) + 1 by omega, sg_n] at this
    rcases this with h | ⟨_, _, h⟩
    · exact .inl (by omega)
    · exact .inr (by omega)
  · have := h.n x y (by omega) hy (.inl hc)
    rw [sg_w] at this
    rcases this with h | ⟨_, _, h⟩
    · exact .inl (by omega)
    · exact .inr (by omega)

/-- The direction that heights tell of a cell. -/
def wayH (R : Reg) (H : List Int) (x y : Nat) : Int :=
  if R.ht H (x + 1) (y + 1) = R.ht H (x + 1) y - 3 * sg x y then 1
  else if R.ht H (x + 1) (y + 1) = R.ht H x (y + 1) + 3 * sg x y then 2
  else if R.ht H x (y + 1) = R.ht H x y + 3 * sg x y then 3 else 4

structure WayH (R : Reg) (H : List Int) (x y : Nat) : Prop where
  lo : 1 ≤ wayH R H x y
  hi : wayH R H x y ≤ 4
  e : wayH R H x y = 1 ↔ R.ht H (x + 1) (y + 1) = R.ht H (x + 1) y - 3 * sg x y
  n : wayH R H x y = 2 ↔ R.ht H (x + 1) (y + 1) = R.ht H x (y + 1) + 3 * sg x y
  w : wayH R H x y = 3 ↔ R.ht H x (y + 1) = R.ht H x y + 3 * sg x y
  s : wayH R H x y = 4 ↔ R.ht H (x + 1) y = R.ht H x y - 3 * sg x y

theorem wayH_at {R : Reg} {H : List Int} (h : HP R H) {x y : Nat} (hx : x < R.W) (hy : y < R.T) (hc : R.at x y = true) : WayH R H x y := by
  obtain ⟨h1, h2, h3, h4⟩ := hp_round h hx hy hc
  have hs := sg_or x y
  have key : ∀ a b c d s w : Int, (s = 1 ∨ s = -1) → (b = a + s ∨ b = a - 3 * s) → (d = b + s ∨ d = b - 3 * s) → (d = c - s ∨ d = c + 3 * s) → (c = a - s ∨ c = a + 3 * s) →
      w = (if d = b - 3 * s then 1 else if d = c + 3 * s then 2 else if c = a + 3 * s then 3 else 4) →
      (1 ≤ w ∧ w ≤ 4) ∧ (w = 1 ↔ d = b - 3 * s) ∧ (w = 2 ↔ d = c + 3 * s) ∧ (w = 3 ↔ c = a + 3 * s) ∧ (w = 4 ↔ b = a - 3 * s) := by
    intro a b c d s w hs h1 h2 h3 h4 hw
    rcases hs with rfl | rfl <;> (repeat' split at hw) <;> subst hw <;> refine ⟨by omega, ?_, ?_, ?_, ?_⟩ <;> constructor <;> intro h <;> omega
  obtain ⟨⟨k0, k1⟩, k2, k3, k4, k5⟩ := key _ _ _ _ _ (wayH R H x y) hs h1 h2 h3 h4 rfl
  exact ⟨k0, k1, k2, k3, k4, k5⟩

/-- The tiling that heights tell. -/
def tilH (R : Reg) (H : List Int) : List Int :=
  (List.range R.C.length).map fun c => if R.at ((c % R.W : Nat) : Int) ((c / R.W : Nat) : Int) = true then wayH R H (c % R.W) (c / R.W) else 0
theorem tilH_len (R : Reg) (H : List Int) : (tilH R H).length = R.C.length := by simp [tilH]
theorem way_tilH {R : Reg} (hR : R.ok) (H : List Int) {x y : Nat} (hx : x < R.W) (hy : y < R.T) : R.way (tilH R H) x y = if R.at x y = true then wayH R H x y else 0 := by
  rw [way_in hx hy]
  unfold tilH
  rw [List.getD_eq_getElem?_getD, List.getElem?_map, List.getElem?_range (idx_lt hR hx hy)]
  simp only [Option.map_some, Option.getD_some]
  rw [mk_mod y hx, mk_div y hx]
theorem way_tilH_ne {R : Reg} (hR : R.ok) {H : List Int} (h : HP R H) {x y : Int} (hw : R.way (tilH R H) x y ≠ 0) :
    ∃ a b : Nat, x = a ∧ y = b ∧ a < R.W ∧ b < R.T ∧ R.at a b = true ∧ R.way (tilH R H) x y = wayH R H a b ∧ WayH R H a b := by
  obtain ⟨a, b, rfl, rfl, ha, hb⟩ := way_ne hw
  rw [way_tilH hR H ha hb] at hw ⊢
  by_cases hc : R.at a b = true
  · rw [if_pos hc] at hw ⊢
    exact ⟨a, b, rfl, rfl, ha, hb, hc, rfl, wayH_at h ha hb hc⟩
  · rw [if_neg hc] at hw
    exact absurd rfl hw
theorem way_tilH_at {R : Reg} (hR : R.ok) {H : List Int} {a b : Nat} (hc : R.at a b = true) : R.way (tilH R H) a b = wayH R H a b := by
  obtain ⟨a', b', e1, e2, ha, hb, _⟩ := at_cell hR hc
  obtain rfl : a = a' := by omega
  obtain rfl : b = b' := by omega
  rw [way_tilH hR H ha hb, if_pos hc]

theorem lay_tilH {R : Reg} (hR : R.ok) {H : List Int} (h : HP R H) : Lay R (tilH R H) := by
  refine ⟨tilH_len R H, fun x y hw => ?_, fun x y => ?_, fun x y => ⟨fun hw => ?_, fun hw => ?_⟩, fun x y => ⟨fun hw => ?_, fun hw => ?_⟩⟩
  · obtain ⟨a, b, rfl, rfl, _, _, hc, _⟩ := way_tilH_ne hR h hw
    exact hc
  · by_cases hw : R.way (tilH R H) x y = 0
    · omega
    · obtain ⟨a, b, rfl, rfl, _, _, hc, e, hW⟩ := way_tilH_ne hR h hw
      rw [e]
      have := hW.lo
      have := hW.hi
      omega
  · obtain ⟨a, b, rfl, rfl, ha, hb, hc, e, hW⟩ := way_tilH_ne hR h (x := x) (y := y) (by omega)
    have h1 := hW.e.1 (by omega)
    have hs := sg_or a b
    have := h.n (a + 1) b (by omega) hb (.inr (by rw [show ((a + 1 : Nat) : Int) - 1 = (a : Int) by omega]; exact hc))
    rw [show ((a + 1 : Nat) : Int) - 1 = (a : Int) by omega] at this
    rcases this with this | ⟨hc2, _, _⟩
    · omega
    · rw [show (a : Int) + 1 = ((a + 1 : Nat) : Int) by omega, way_tilH_at hR hc2]
      obtain ⟨a', b', e1, e2, ha', hb', _⟩ := at_cell hR hc2
      refine (wayH_at h (by omega) hb hc2).w.2 ?_
      rw [show ((a + 1 : Nat) : Int) = (a : Int) + 1 by omega, sg_e]; omega
  · obtain ⟨a', b, ea, rfl, ha, hb, hc, e, hW⟩ := way_tilH_ne hR h (x := x + 1) (y := y) (by omega)
    have h1 := hW.w.1 (by omega)
    have hs := sg_or a' b
    have := h.n a' b (by omega) hb (.inl hc)
    rw [sg_w] at this
    rcases this with this | ⟨_, hc2, _⟩
    · omega
    · obtain ⟨a, b', e1, e2, ha', hb', _⟩ := at_cell hR hc2
      obtain rfl : a' = a + 1 := by omega
      obtain rfl : x = (a : Int) := by omega
      rw [show ((a + 1 : Nat) : Int) - 1 = (a : Int) by omega] at hc2
      rw [way_tilH_at hR hc2]
      refine (wayH_at h ha' hb hc2).e.2 ?_
      rw [show ((a + 1 : Nat) : Int) = (a : Int) + 1 by omega, sg_e] at h1
      omega
  · obtain ⟨a, b, rfl, rfl, ha, hb, hc, e, hW⟩ := way_tilH_ne hR h (x := x) (y := y) (by omega)
    have h1 := hW.n.1 (by omega)
    have hs := sg_or a b
    have := h.e a (b + 1) ha (by omega) (.inr (by rw [show ((b + 1 : Nat) : Int) - 1 = (b : Int) by omega]; exact hc))
    rw [show ((b + 1 : Nat) : Int) - 1 = (b : Int) by omega, show ((b + 1 : Nat) : Int) = (b : Int) + 1 by omega, sg_n] at this
    rcases this with this | ⟨hc2, _, _⟩
    · omega
    · rw [show (b : Int) + 1 = ((b + 1 : Nat) : Int) by omega] at hc2 ⊢
      rw [way_tilH_at hR hc2]
      obtain ⟨a', b', e1, e2, ha', hb', _⟩ := at_cell hR hc2
      refine (wayH_at h ha (by omega) hc2).s.2 ?_
      rw [show ((b + 1 : Nat) : Int) = (b : Int) + 1 by omega, sg_n]; omega
  · obtain ⟨a, b', rfl, eb, ha, hb, hc, e, hW⟩ := way_tilH_ne hR h (x := x) (y := y + 1) (by omega)
    have h1 := hW.s.1 (by omega)
    have hs := sg_or a b'
    have := h.e a b' ha (by omega) (.inl hc)
    rcases this with this | ⟨_, hc2, _⟩
    · omega
    · obtain ⟨a', b, e1, e2, ha', hb', _⟩ := at_cell hR hc2
      obtain rfl : b' = b + 1 := by omega
      obtain rfl : y = (b : Int) := by omega
      rw [show ((b + 1 : Nat) : Int) - 1 = (b : Int) by omega] at hc2
      rw [way_tilH_at hR hc2]
      refine (wayH_at h ha hb' hc2).n.2 ?_
      rw [show ((b + 1 : Nat) : Int) = (b : Int) + 1 by omega, sg_n] at h1
      omega
theorem full_tilH {R : Reg} (hR : R.ok) {H : List Int} (h : HP R H) : Full R (tilH R H) := by
  intro x y hc
  obtain ⟨a, b, rfl, rfl, ha, hb, _⟩ := at_cell hR hc
  rw [way_tilH_at hR hc]
  have := (wayH_at h ha hb hc).lo
  omega
theorem hts_tilH {R : Reg} (hR : R.ok) {H : List Int} (h : HP R H) : Hts R (tilH R H) H := by
  refine ⟨h.len, h.no, h.first, fun x y hx hy hu => ?_, fun x y hx hy hu => ?_⟩
  · have he := h.e x y hx hy hu
    have hs := sg_or x y
    simp only [tform]
    by_cases hc : R.at x ((y : Int) - 1) = true
    · obtain ⟨a, b, e1, e2, ha, hb, _⟩ := at_cell hR hc
      obtain rfl : x = a := by omega
      obtain rfl : y = b + 1 := by omega
      rw [show ((b + 1 : Nat) : Int) - 1 = (b : Int) by omega] at hc ⊢
      rw [way_tilH_at hR hc]
      have hn := (wayH_at h ha hb hc).n
      rw [show ((b + 1 : Nat) : Int) = (b : Int) + 1 by omega, sg_n] at he hs ⊢
      split
      · rename_i h2; have := hn.1 h2; omega
      · rename_i h2
        rcases he with he | ⟨_, _, he⟩
        · exact he
        · exact absurd (hn.2 (by omega)) h2
    · have hw : R.way (tilH R H) x ((y : Int) - 1) ≠ 2 := by
        intro hw
        obtain ⟨a, b, e1, e2, _, _, hc2, _⟩ := way_tilH_ne hR h (x := x) (y := (y : Int) - 1) (by omega)
        rw [e1, e2] at hc
        exact hc hc2
      rw [if_neg hw]
      rcases he with he | ⟨_, hc2, _⟩
      · exact he
      · exact absurd hc2 hc
  · have he := h.n x y hx hy hu
    have hs := sg_or ((x : Int) - 1) y
    simp only [tform]
    by_cases hc : R.at ((x : Int) - 1) y = true
    · obtain ⟨a, b, e1, e2, ha, hb, _⟩ := at_cell hR hc
      obtain rfl : y = b := by omega
      obtain rfl : x = a + 1 := by omega
      rw [show ((a + 1 : Nat) : Int) - 1 = (a : Int) by omega] at hc he hs ⊢
      rw [way_tilH_at hR hc]
      have hn := (wayH_at h ha hb hc).e
      split
      · rename_i h2; have := hn.1 h2; omega
      · rename_i h2
        rcases he with he | ⟨_, _, he⟩
        · exact he
        · exact absurd (hn.2 he) h2
    · have hw : R.way (tilH R H) ((x : Int) - 1) y ≠ 1 := by
        intro hw
        obtain ⟨a, b, e1, e2, _, _, hc2, _⟩ := way_tilH_ne hR h (x := (x : Int) - 1) (y := y) (by omega)
        rw [e1, e2] at hc
        exact hc hc2
      rw [if_neg hw]
      rcases he with he | ⟨_, hc2, _⟩
      · exact he
      · exact absurd hc2 hc
theorem hp_iff {R : Reg} (hR : R.ok) {H : List Int} : HP R H ↔ ∃ L, Lay R L ∧ Full R L ∧ Hts R L H :=
  ⟨fun h => ⟨_, lay_tilH hR h, full_tilH hR h, hts_tilH hR h⟩, fun ⟨_, hL, _, hH⟩ => hp_of_hts hL hH⟩

/-- A tiling is told by its heights. -/
theorem way_of_hts {R : Reg} (hR : R.ok) {L H : List Int} (hL : Lay R L) (hF : Full R L) (hH : Hts R L H) {x y : Nat} (hc : R.at x y = true) : R.way L x y = wayH R H x y := by
  obtain ⟨a, b, e1, e2, hx, hy, _⟩ := at_cell hR hc
  obtain rfl : x = a := by omega
  obtain rfl : y = b := by omega
  have hW := wayH_at (hp_of_hts hL hH) hx hy hc
  obtain ⟨s, hs, h1, h2, h3, h4, rfl⟩ := hts_round hL hH hx hy hc
  have hr := hL.rng x y
  have hne := hF x y hc
  have h5 : R.way L x y = 1 ∨ R.way L x y = 2 ∨ R.way L x y = 3 ∨ R.way L x y = 4 := by omega
  rcases h5 with h | h | h | h
  · rw [h] at h2 ⊢; exact (hW.e.2 (by simp at h2; omega)).symm
  · rw [h] at h3 ⊢; exact (hW.n.2 (by simp at h3; omega)).symm
  · rw [h] at h4 ⊢; exact (hW.w.2 (by simp at h4; omega)).symm
  · rw [h] at h1 ⊢; exact (hW.s.2 (by simp at h1; omega)).symm
theorem lay_ext {R : Reg} (hR : R.ok) {L M : List Int} (hL : Lay R L) (hM : Lay R M) (h : ∀ x y : Nat, R.at x y = true → R.way L x y = R.way M x y) : L = M := by
  apply List.ext_getElem (by rw [hL.len, hM.len])
  intro i hi hi'
  obtain ⟨hx, hy⟩ := xy_lt hR (c := i) (by rw [← hL.len]; exact hi)
  have he := xy_eq i R.W
  have key : R.way L ((i % R.W : Nat) : Int) ((i / R.W : Nat) : Int) = R.way M ((i % R.W : Nat) : Int) ((i / R.W : Nat) : Int) := by
    by_cases hc : R.at ((i % R.W : Nat) : Int) ((i / R.W : Nat) : Int) = true
    · exact h _ _ hc
    · have h1 : R.way L ((i % R.W : Nat) : Int) ((i / R.W : Nat) : Int) = 0 := Classical.byContradiction fun hh => hc (hL.at_ _ _ hh)
      have h2 : R.way M ((i % R.W : Nat) : Int) ((i / R.W : Nat) : Int) = 0 := Classical.byContradiction fun hh => hc (hM.at_ _ _ hh)
      rw [h1, h2]
  rw [way_in hx hy, way_in hx hy, he] at key
  simpa [List.getD_eq_getElem?_getD, List.getElem?_eq_getElem hi, List.getElem?_eq_getElem hi'] using key
theorem til_one {R : Reg} (hR : R.ok) {L M H : List Int} (hL : Lay R L) (hF : Full R L) (hM : Lay R M) (hG : Full R M) (h1 : Hts R L H) (h2 : Hts R M H) : L = M :=
  lay_ext hR hL hM fun x y hc => by rw [way_of_hts hR hL hF h1 hc, way_of_hts hR hM hG h2 hc]

/-! ### Two heights -/
theorem hp_mod {R : Reg} (hR : R.ok) (hI : InConn R) {H G : List Int} (h : HP R H) (g : HP R G) {x y : Nat} (hx : x ≤ R.W) (hy : y ≤ R.T) : (R.ht H x y - R.ht G x y) % 4 = 0 := by
  obtain ⟨x0, y0, h0⟩ := first_ex hR hI
  cases hu : R.cu x y with
  | false => rw [h.no x y hx hy hu, g.no x y hx hy hu]; rfl
  | true =>
    refine conn_corners hR hI (fun x y => (R.ht H x y - R.ht G x y) % 4 = 0) (fun x y hx hy hu => ?_) (fun x y hx hy hu => ?_) h0.2.2.1 hu (by rw [h.first _ _ h0, g.first _ _ h0]; rfl)
    · rcases h.e x y hx hy hu with h | ⟨_, _, h⟩ <;> rcases g.e x y hx hy hu with g | ⟨_, _, g⟩ <;> rw [h, g] <;> omega
    · rcases h.n x y hx hy hu with h | ⟨_, _, h⟩ <;> rcases g.n x y hx hy hu with g | ⟨_, _, g⟩ <;> rw [h, g] <;> omega
theorem ht_zip {R : Reg} {f : Int → Int → Int} {H G : List Int} (h : H.length = R.cn) (g : G.length = R.cn) {x y : Nat} (hx : x ≤ R.W) (hy : y ≤ R.T) : R.ht (List.zipWith f H G) x y = f (R.ht H x y) (R.ht G x y) := by
  have hl := ci_lt (R := R) hx hy
  unfold Reg.ht
  rw [List.getD_eq_getElem?_getD, List.getElem?_zipWith, List.getElem?_eq_getElem (by omega), List.getElem?_eq_getElem (by omega), List.getD_eq_getElem?_getD, List.getD_eq_getElem?_getD, List.getElem?_eq_getElem (by omega), List.getElem?_eq_getElem (by omega)]
  rfl
theorem hp_min {R : Reg} (hR : R.ok) (hI : InConn R) {H G : List Int} (h : HP R H) (g : HP R G) : HP R (List.zipWith min H G) := by
  refine ⟨by rw [List.length_zipWith, h.len, g.len, Nat.min_self], fun x y hx hy hu => ?_, fun x y h0 => ?_, fun x y hx hy hu => ?_, fun x y hx hy hu => ?_⟩
  · rw [ht_zip h.len g.len hx hy, h.no x y hx hy hu, g.no x y hx hy hu]; rfl
  · rw [ht_zip h.len g.len h0.1 h0.2.1, h.first x y h0, g.first x y h0]; rfl
  · have m1 := hp_mod hR hI h g (x := x) (y := y) (by omega) hy
    have m2 := hp_mod hR hI h g (x := x + 1) (y := y) (by omega) hy
    rw [ht_zip h.len g.len (by omega) hy, ht_zip h.len g.len (by omega) hy]
    have hs := sg_or x y
    have h1 := h.e x y hx hy hu
    have g1 := g.e x y hx hy hu
    rcases h1 with h1 | ⟨a, b, h1⟩ <;> rcases g1 with g1 | ⟨c, d, g1⟩
    · exact .inl (by omega)
    · by_cases hk : min (R.ht H (x + 1) y) (R.ht G (x + 1) y) = min (R.ht H x y) (R.ht G x y) + sg x y
      · exact .inl hk
      · exact .inr ⟨c, d, by omega⟩
    · by_cases hk : min (R.ht H (x + 1) y) (R.ht G (x + 1) y) = min (R.ht H x y) (R.ht G x y) + sg x y
      · exact .inl hk
      · exact .inr ⟨a, b, by omega⟩
    · exact .inr ⟨a, b, by omega⟩
  · have m1 := hp_mod hR hI h g (x := x) (y := y) hx (by omega)
    have m2 := hp_mod hR hI h g (x := x) (y := y + 1) hx (by omega)
    rw [ht_zip h.len g.len hx (by omega), ht_zip h.len g.len hx (by omega)]
    have hs := sg_or ((x : Int) - 1) y
    have h1 := h.n x y hx hy hu
    have g1 := g.n x y hx hy hu
    rcases h1 with h1 | ⟨a, b, h1⟩ <;> rcases g1 with g1 | ⟨c, d, g1⟩
    · exact .inl (by omega)
    · by_cases hk : min (R.ht H x (y + 1)) (R.ht G x (y + 1)) = min (R.ht H x y) (R.ht G x y) + sg ((x : Int) - 1) y
      · exact .inl hk
      · exact .inr ⟨c, d, by omega⟩
    · by_cases hk : min (R.ht H x (y + 1)) (R.ht G x (y + 1)) = min (R.ht H x y) (R.ht G x y) + sg ((x : Int) - 1) y
      · exact .inl hk
      · exact .inr ⟨a, b, by omega⟩
    · exact .inr ⟨a, b, by omega⟩
theorem hp_max {R : Reg} (hR : R.ok) (hI : InConn R) {H G : List Int} (h : HP R H) (g : HP R G) : HP R (List.zipWith max H G) := by
  refine ⟨by rw [List.length_zipWith, h.len, g.len, Nat.min_self], fun x y hx hy hu => ?_, fun x y h0 => ?_, fun x y hx hy hu => ?_, fun x y hx hy hu => ?_⟩
  · rw [ht_zip h.len g.len hx hy, h.no x y hx hy hu, g.no x y hx hy hu]; rfl
  · rw [ht_zip h.len g.len h0.1 h0.2.1, h.first x y h0, g.first x y h0]; rfl
  · have m1 := hp_mod hR hI h g (x := x) (y := y) (by omega) hy
    have m2 := hp_mod hR hI h g (x := x + 1) (y := y) (by omega) hy
    rw [ht_zip h.len g.len (by omega) hy, ht_zip h.len g.len (by omega) hy]
    have hs := sg_or x y
    have h1 := h.e x y hx hy hu
    have g1 := g.e x y hx hy hu
    rcases h1 with h1 | ⟨a, b, h1⟩ <;> rcases g1 with g1 | ⟨c, d, g1⟩
    · exact .inl (by omega)
    · by_cases hk : max (R.ht H (x + 1) y) (R.ht G (x + 1) y) = max (R.ht H x y) (R.ht G x y) + sg x y
      · exact .inl hk
      · exact .inr ⟨c, d, by omega⟩
    · by_cases hk : max (R.ht H (x + 1) y) (R.ht G (x + 1) y) = max (R.ht H x y) (R.ht G x y) + sg x y
      · exact .inl hk
      · exact .inr ⟨a, b, by omega⟩
    · exact .inr ⟨a, b, by omega⟩
  · have m1 := hp_mod hR hI h g (x := x) (y := y) hx (by omega)
    have m2 := hp_mod hR hI h g (x := x) (y := y + 1) hx (by omega)
    rw [ht_zip h.len g.len hx (by omega), ht_zip h.len g.len hx (by omega)]
    have hs := sg_or ((x : Int) - 1) y
    have h1 := h.n x y hx hy hu
    have g1 := g.n x y hx hy hu
    rcases h1 with h1 | ⟨a, b, h1⟩ <;> rcases g1 with g1 | ⟨c, d, g1⟩
    · exact .inl (by omega)
    · by_cases hk : max (R.ht H x (y + 1)) (R.ht G x (y + 1)) = max (R.ht H x y) (R.ht G x y) + sg ((x : Int) - 1) y
      · exact .inl hk
      · exact .inr ⟨c, d, by omega⟩
    · by_cases hk : max (R.ht H x (y + 1)) (R.ht G x (y + 1)) = max (R.ht H x y) (R.ht G x y) + sg ((x : Int) - 1) y
      · exact .inl hk
      · exact .inr ⟨a, b, by omega⟩
    · exact .inr ⟨a, b, by omega⟩
theorem hp_bd {R : Reg} (hR : R.ok) (hI : InConn R) {H : List Int} (h : HP R H) {x y : Nat} (hu : R.cu x y = true) : -51 ≤ R.ht H x y ∧ R.ht H x y ≤ 51 :=
  hts_bd hR hI (lay_tilH hR h) (full_tilH hR h) (hts_tilH hR h) hu
theorem hts_tilH_of {R : Reg} (hR : R.ok) {L H : List Int} (hL : Lay R L) (hF : Full R L) (hH : Hts R L H) : tilH R H = L :=
  til_one hR (lay_tilH hR (hp_of_hts hL hH)) (full_tilH hR (hp_of_hts hL hH)) hL hF (hts_tilH hR (hp_of_hts hL hH)) hH

end Go.Proofs.Ythepfpiphlfgnaa

/-
  YthepfpiphlfgnaaQ2: the heights of all tilings of a simple region are the same at the corners of cells outside; a tiling that is somewhere higher than another one can be flipped down there. Plain Lean.
-/
namespace Go.Proofs.Ythepfpiphlfgnaa

def Reg.inner (R : Reg) (x y : Int) : Prop := R.at x y = true ∧ R.at (x - 1) y = true ∧ R.at x (y - 1) = true ∧ R.at (x - 1) (y - 1) = true

theorem tform_e0 {R : Reg} {L : List Int} (hL : Lay R L) {x y : Int} (h : R.at x y = false ∨ R.at x (y - 1) = false) : (tform R L).e x y = sg x y := by
  simp only [tform]
  rw [if_neg]
  intro h2
  have hv := hL.ver x (y - 1)
  rw [show y - 1 + 1 = y by omega] at hv
  rcases h with h | h
  · rw [hL.at_ x y (by rw [hv.1 h2]; decide)] at h; cases h
  · rw [hL.at_ x _ (by rw [h2]; decide)] at h; cases h
theorem tform_n0 {R : Reg} {L : List Int} (hL : Lay R L) {x y : Int} (h : R.at x y = false ∨ R.at (x - 1) y = false) : (tform R L).n x y = sg (x - 1) y := by
  simp only [tform]
  rw [if_neg]
  intro h2
  have hv := hL.hor (x - 1) y
  rw [show x - 1 + 1 = x by omega] at hv
  rcases h with h | h
  · rw [hL.at_ x y (by rw [hv.1 h2]; decide)] at h; cases h
  · rw [hL.at_ _ y (by rw [h2]; decide)] at h; cases h
theorem free_mk {R : Reg} {x y : Int} (hx : 0 ≤ x ∧ x < R.W + 2) (hy : 0 ≤ y ∧ y < R.T + 2) (h : R.at (x - 1) (y - 1) = false) : R.free x y = true := by
  simp only [Reg.free, Bool.and_eq_true, decide_eq_true_eq, Bool.not_eq_true']
  exact ⟨⟨hx.1, hx.2, hy.1, hy.2⟩, h⟩

/-- A potential that is 0 at the corners of all cells outside. -/
theorem pot_zero {R : Reg} (hO : OutConn R) {p : Nat → Nat → Int} (h0 : p 0 0 = 0)
    (he : ∀ x y : Nat, (R.at x y = false ∨ R.at x ((y : Int) - 1) = false) → p (x + 1) y = p x y) (hn : ∀ x y : Nat, (R.at x y = false ∨ R.at ((x : Int) - 1) y = false) → p x (y + 1) = p x y)
    {u v x y : Nat} (hf : R.free u v = true) (hx : x = u ∨ x + 1 = u) (hy : y = v ∨ y + 1 = v) : p x y = 0 := by
  have key := linked_ind (A := R.PA) (P := fun q => ∀ u v : Nat, u < R.W + 2 → q = R.pi u v → ∀ x y : Nat, (x = u ∨ x + 1 = u) → (y = v ∨ y + 1 = v) → p x y = 0)
    (fun c e hce hP u v hu hc x y hx hy => by
      obtain ⟨x1, y1, x2, y2, h1, h2, f1, f2, hb⟩ := hce
      obtain ⟨rfl, rfl⟩ := pi_inj (free_in f1).1 hu (h1.symm.trans hc)
      have hp := hP x2 y2 (free_in f2).1 h2
      have a1 := free_at f1
      rcases hb with ⟨e1, e2⟩ | ⟨e1, e2⟩ | ⟨e1, e2⟩ | ⟨e1, e2⟩
      · subst e1 e2
        rcases hx with rfl | rfl
        · exact hp _ _ (.inr rfl) hy
        · rw [← he x y ?_]
          · exact hp _ _ (.inr rfl) hy
          · rw [show ((x + 1 : Nat) : Int) - 1 = (x : Int) by omega] at a1
            rcases hy with rfl | rfl
            · exact .inr a1
            · rw [show ((y + 1 : Nat) : Int) - 1 = (y : Int) by omega] at a1
              exact .inl a1
      · subst e1 e2
        rcases hx with rfl | hx
        · rw [he x2 y ?_]
          · exact hp _ _ (.inl rfl) hy
          · rw [show ((x2 + 1 : Nat) : Int) - 1 = (x2 : Int) by omega] at a1
            rcases hy with rfl | rfl
            · exact .inr a1
            · rw [show ((y + 1 : Nat) : Int) - 1 = (y : Int) by omega] at a1
              exact .inl a1
        · exact hp _ _ (.inl (by omega)) hy
      · subst e1 e2
        rcases hy with rfl | rfl
        · exact hp _ _ hx (.inr rfl)
        · rw [← hn x y ?_]
          · exact hp _ _ hx (.inr rfl)
          · rw [show ((y + 1 : Nat) : Int) - 1 = (y : Int) by omega] at a1
            rcases hx with rfl | rfl
            · exact .inr a1
            · rw [show ((x + 1 : Nat) : Int) - 1 = (x : Int) by omega] at a1
              exact .inl a1
      · subst e1 e2
        rcases hy with rfl | hy
        · rw [hn x y2 ?_]
          · exact hp _ _ hx (.inl rfl)
          · rw [show ((y2 + 1 : Nat) : Int) - 1 = (y2 : Int) by omega] at a1
            rcases hx with rfl | rfl
            · exact .inr a1
            · rw [show ((x + 1 : Nat) : Int) - 1 = (x : Int) by omega] at a1
              exact .inl a1
        · exact hp _ _ hx (.inl (by omega)))
    (hO u v hf)
    (fun u v hu h x y hx hy => by
      obtain ⟨rfl, rfl⟩ := pi_inj hu (by omega) (h.symm.trans (pi_zero R).symm)
      obtain rfl : x = 0 := by omega
      obtain rfl : y = 0 := by omega
      exact h0)
  exact key u v (free_in hf).1 rfl x y hx hy

theorem pot_out {R : Reg} (hO : OutConn R) {p : Nat → Nat → Int} (h0 : p 0 0 = 0)
    (he : ∀ x y : Nat, (R.at x y = false ∨ R.at x ((y : Int) - 1) = false) → p (x + 1) y = p x y) (hn : ∀ x y : Nat, (R.at x y = false ∨ R.at ((x : Int) - 1) y = false) → p x (y + 1) = p x y)
    {x y : Nat} (hx : x ≤ R.W) (hy : y ≤ R.T) (ho : ¬ R.inner x y) : p x y = 0 := by
  by_cases h1 : R.at x y = true
  · by_cases h2 : R.at ((x : Int) - 1) y = true
    · by_cases h3 : R.at x ((y : Int) - 1) = true
      · have h4 : R.at ((x : Int) - 1) ((y : Int) - 1) = false := by
          cases h4 : R.at ((x : Int) - 1) ((y : Int) - 1) with
          | false => rfl
          | true => exact absurd ⟨h1, h2, h3, h4⟩ ho
        exact pot_zero hO h0 he hn (free_mk (x := x) (y := y) (by omega) (by omega) h4) (.inl rfl) (.inl rfl)
      · refine pot_zero hO h0 he hn (u := x + 1) (v := y) (free_mk (by omega) (by omega) ?_) (.inr rfl) (.inl rfl)
        rw [show ((x + 1 : Nat) : Int) - 1 = (x : Int) by omega]
        simpa using h3
    · refine pot_zero hO h0 he hn (u := x) (v := y + 1) (free_mk (by omega) (by omega) ?_) (.inl rfl) (.inr rfl)
      rw [show ((y + 1 : Nat) : Int) - 1 = (y : Int) by omega]
      simpa using h2
  · refine pot_zero hO h0 he hn (u := x + 1) (v := y + 1) (free_mk (by omega) (by omega) ?_) (.inr rfl) (.inr rfl)
    rw [show ((x + 1 : Nat) : Int) - 1 = (x : Int) by omega, show ((y + 1 : Nat) : Int) - 1 = (y : Int) by omega]
    simpa using h1

theorem first_out {R : Reg} (hR : R.ok) {x y : Nat} (h : First R x y) : ¬ R.inner x y := by
  rintro ⟨_, _, _, h4⟩
  obtain ⟨a, b, e1, e2, ha, hb, hc⟩ := at_cell hR h4
  have := h.2.2.2 a b (by omega) (by omega) (cu_ne (cell_at ha hb hc))
  unfold Reg.ci at this
  obtain rfl : x = a + 1 := by omega
  obtain rfl : y = b + 1 := by omega
  rw [Nat.add_mul] at this
  omega

/-- At the corners of cells outside all tilings have the same heights. -/
theorem hp_outside {R : Reg} (hR : R.ok) (hS : SimpleP R) {H G : List Int} (h : HP R H) (g : HP R G) {x y : Nat} (hx : x ≤ R.W) (hy : y ≤ R.T) (ho : ¬ R.inner x y) : R.ht H x y = R.ht G x y := by
  obtain ⟨x0, y0, h0⟩ := first_ex hR hS.1
  have lH := lay_tilH hR h
  have lG := lay_tilH hR g
  have hH := hts_tilH hR h
  have hG := hts_tilH hR g
  obtain ⟨D, hD⟩ : ∃ D, D = (tform R (tilH R H)).add (Form.mul (-1) (tform R (tilH R G))) := ⟨_, rfl⟩
  have hDe : ∀ x y, D.e x y = (tform R (tilH R H)).e x y - (tform R (tilH R G)).e x y := by intro x y; rw [hD]; simp only [Form.add, Form.mul]; omega
  have hDn : ∀ x y, D.n x y = (tform R (tilH R H)).n x y - (tform R (tilH R G)).n x y := by intro x y; rw [hD]; simp only [Form.add, Form.mul]; omega
  have he0 : ∀ x y, (R.at x y = false ∨ R.at x (y - 1) = false) → D.e x y = 0 := fun x y hh => by rw [hDe, tform_e0 lH hh, tform_e0 lG hh]; omega
  have hn0 : ∀ x y, (R.at x y = false ∨ R.at (x - 1) y = false) → D.n x y = 0 := fun x y hh => by rw [hDn, tform_n0 lH hh, tform_n0 lG hh]; omega
  have hcurl : ∀ x y, D.curl x y = 0 := by
    intro x y
    cases hc : R.at x y with
    | true => rw [hD, curl_add, curl_mul, curl_tform lH (full_tilH hR h x y hc), curl_tform lG (full_tilH hR g x y hc)]; rfl
    | false =>
      unfold Form.curl
      rw [he0 x y (.inl hc), hn0 (x + 1) y (.inr (by rw [Int.add_sub_cancel]; exact hc)), he0 x (y + 1) (.inr (by rw [Int.add_sub_cancel]; exact hc)), hn0 x y (.inl hc)]; rfl
  have pe : ∀ x y : Nat, D.pot (x + 1) y = D.pot x y + D.e x y := fun x y => pot_e D x y fun j _ => hcurl x j
  have pn : ∀ x y : Nat, D.pot x (y + 1) = D.pot x y + D.n x y := fun x y => pot_n D x y
  have pz : ∀ {x y : Nat}, x ≤ R.W → y ≤ R.T → ¬ R.inner x y → D.pot x y = 0 := fun hx hy ho =>
    pot_out hS.2 (p := D.pot) (by simp [Form.pot, sumTo]) (fun x y hh => by rw [pe, he0 _ _ hh]; omega) (fun x y hh => by rw [pn, hn0 _ _ hh]; omega) hx hy ho
  cases hu : R.cu x y with
  | false => rw [h.no x y hx hy hu, g.no x y hx hy hu]
  | true =>
    have : R.ht H x y - R.ht G x y = D.pot x y := by
      refine conn_corners hR hS.1 (fun x y => R.ht H x y - R.ht G x y = D.pot x y) (fun x y hx hy hu => ?_) (fun x y hx hy hu => ?_) h0.2.2.1 hu ?_
      · rw [hH.e x y hx hy hu, hG.e x y hx hy hu, pe, hDe]; omega
      · rw [hH.n x y hx hy hu, hG.n x y hx hy hu, pn, hDn]; omega
      · show R.ht H x0 y0 - R.ht G x0 y0 = D.pot x0 y0
        rw [h.first _ _ h0, g.first _ _ h0, pz h0.1 h0.2.1 (first_out hR h0)]; rfl
    rw [pz hx hy ho] at this
    omega

/-! ### Flips -/
/-- Two flat, two upright dominoes round the corner in the north-east of a cell. -/
def FlatAt (R : Reg) (L : List Int) (a b : Nat) : Prop := R.way L a b = 1 ∧ R.way L a ((b : Int) + 1) = 1
def UprAt (R : Reg) (L : List Int) (a b : Nat) : Prop := R.way L a b = 2 ∧ R.way L ((a : Int) + 1) b = 2
def DownAt (R : Reg) (L : List Int) (a b : Nat) : Prop := (FlatAt R L a b ∧ sg a b = -1) ∨ (UprAt R L a b ∧ sg a b = 1)
def UpAt (R : Reg) (L : List Int) (a b : Nat) : Prop := (FlatAt R L a b ∧ sg a b = 1) ∨ (UprAt R L a b ∧ sg a b = -1)

theorem inner_nat {R : Reg} (hR : R.ok) {x y : Nat} (h : R.inner x y) : ∃ a b : Nat, x = a + 1 ∧ y = b + 1 ∧ a + 1 < R.W ∧ b + 1 < R.T ∧ R.at a b = true ∧ R.at ((a + 1 : Nat) : Int) b = true ∧ R.at a ((b + 1 : Nat) : Int) = true ∧ R.at ((a + 1 : Nat) : Int) ((b + 1 : Nat) : Int) = true := by
  obtain ⟨h1, h2, h3, h4⟩ := h
  obtain ⟨a, b, e1, e2, ha, hb, _⟩ := at_cell hR h4
  obtain ⟨a', b', e1', e2', ha', hb', _⟩ := at_cell hR h1
  obtain rfl : x = a + 1 := by omega
  obtain rfl : y = b + 1 := by omega
  rw [show ((a + 1 : Nat) : Int) - 1 = (a : Int) by omega] at h2 h4
  rw [show ((b + 1 : Nat) : Int) - 1 = (b : Int) by omega] at h3 h4
  exact ⟨a, b, rfl, rfl, by omega, by omega, h4, h3, h2, h1⟩

/-- The heights round an inner corner tell a flip down, if all are less. -/
theorem down_of {R : Reg} (hR : R.ok) {L H : List Int} (hL : Lay R L) (hF : Full R L) (hH : Hts R L H) {a b : Nat} (ha : a + 1 < R.W) (hb : b + 1 < R.T) (c1 : R.at a b = true) (c2 : R.at ((a + 1 : Nat) : Int) b = true) (c3 : R.at a ((b + 1 : Nat) : Int) = true)
    (h1 : R.ht H (a + 2) (b + 1) < R.ht H (a + 1) (b + 1)) (h2 : R.ht H a (b + 1) < R.ht H (a + 1) (b + 1)) (h3 : R.ht H (a + 1) (b + 2) < R.ht H (a + 1) (b + 1)) (h4 : R.ht H (a + 1) b < R.ht H (a + 1) (b + 1)) : DownAt R L a b := by
  have hP := hp_of_hts hL hH
  have w1 := wayH_at hP (by omega) (by omega) c1
  have w2 := wayH_at hP ha (by omega) c2
  have w3 := wayH_at hP (by omega) hb c3
  have v1 := way_of_hts hR hL hF hH c1
  have v2 := way_of_hts hR hL hF hH c2
  have v3 := way_of_hts hR hL hF hH c3
  obtain ⟨r1, r2, r3, r4⟩ := hp_round hP (by omega) (by omega) c1
  obtain ⟨q1, q2, q3, q4⟩ := hp_round hP ha (by omega) c2
  obtain ⟨p1, p2, p3, p4⟩ := hp_round hP (by omega) hb c3
  have s2 : sg ((a + 1 : Nat) : Int) b = - sg a b := by rw [show ((a + 1 : Nat) : Int) = (a : Int) + 1 by omega, sg_e]
  have s3 : sg a ((b + 1 : Nat) : Int) = - sg a b := by rw [show ((b + 1 : Nat) : Int) = (b : Int) + 1 by omega, sg_n]
  unfold DownAt FlatAt UprAt
  rw [show (b : Int) + 1 = ((b + 1 : Nat) : Int) by omega, show (a : Int) + 1 = ((a + 1 : Nat) : Int) by omega, v1, v2, v3]
  have e1 := w1.e
  have n1 := w1.n
  have n2 := w2.n
  have e3 := w3.e
  rw [s2] at n2 q1 q2 q3 q4
  rw [s3] at e3 p1 p2 p3 p4
  clear r1 r4 q1 q2 q4 p1 p3 p4 v1 v2 v3 w1 w2 w3 s2 s3
  simp only [Nat.add_assoc, Nat.reduceAdd] at n2 q3 e3 p2 r2 r3 e1 n1
  rcases sg_or a b with hs | hs <;> rw [hs] at e1 n1 n2 e3 r2 r3 q3 p2 ⊢
  · exact .inr ⟨⟨n1.2 (by omega), n2.2 (by omega)⟩, rfl⟩
  · exact .inl ⟨⟨e1.2 (by omega), e3.2 (by omega)⟩, rfl⟩
theorem up_of {R : Reg} (hR : R.ok) {L H : List Int} (hL : Lay R L) (hF : Full R L) (hH : Hts R L H) {a b : Nat} (ha : a + 1 < R.W) (hb : b + 1 < R.T) (c1 : R.at a b = true) (c2 : R.at ((a + 1 : Nat) : Int) b = true) (c3 : R.at a ((b + 1 : Nat) : Int) = true)
    (h1 : R.ht H (a + 1) (b + 1) < R.ht H (a + 2) (b + 1)) (h2 : R.ht H (a + 1) (b + 1) < R.ht H a (b + 1)) (h3 : R.ht H (a + 1) (b + 1) < R.ht H (a + 1) (b + 2)) (h4 : R.ht H (a + 1) (b + 1) < R.ht H (a + 1) b) : UpAt R L a b := by
  have hP := hp_of_hts hL hH
  have w1 := wayH_at hP (by omega) (by omega) c1
  have w2 := wayH_at hP ha (by omega) c2
  have w3 := wayH_at hP (by omega) hb c3
  have v1 := way_of_hts hR hL hF hH c1
  have v2 := way_of_hts hR hL hF hH c2
  have v3 := way_of_hts hR hL hF hH c3
  obtain ⟨r1, r2, r3, r4⟩ := hp_round hP (by omega) (by omega) c1
  obtain ⟨q1, q2, q3, q4⟩ := hp_round hP ha (by omega) c2
  obtain ⟨p1, p2, p3, p4⟩ := hp_round hP (by omega) hb c3
  have s2 : sg ((a + 1 : Nat) : Int) b = - sg a b := by rw [show ((a + 1 : Nat) : Int) = (a : Int) + 1 by omega, sg_e]
  have s3 : sg a ((b + 1 : Nat) : Int) = - sg a b := by rw [show ((b + 1 : Nat) : Int) = (b : Int) + 1 by omega, sg_n]
  unfold UpAt FlatAt UprAt
  rw [show (b : Int) + 1 = ((b + 1 : Nat) : Int) by omega, show (a : Int) + 1 = ((a + 1 : Nat) : Int) by omega, v1, v2, v3]
  have e1 := w1.e
  have n1 := w1.n
  have n2 := w2.n
  have e3 := w3.e
  rw [s2] at n2 q1 q2 q3 q4
  rw [s3] at e3 p1 p2 p3 p4
  clear r1 r4 q1 q2 q4 p1 p3 p4 v1 v2 v3 w1 w2 w3 s2 s3
  simp only [Nat.add_assoc, Nat.reduceAdd] at n2 q3 e3 p2 r2 r3 e1 n1
  rcases sg_or a b with hs | hs <;> rw [hs] at e1 n1 n2 e3 r2 r3 q3 p2 ⊢
  · exact .inl ⟨⟨e1.2 (by omega), e3.2 (by omega)⟩, rfl⟩
  · exact .inr ⟨⟨n1.2 (by omega), n2.2 (by omega)⟩, rfl⟩

/-- A neighbour's height. -/
theorem hp_near {R : Reg} {H : List Int} (h : HP R H) {a b : Nat} (ha : a + 1 < R.W) (hb : b + 1 < R.T) (c1 : R.at a b = true) (c2 : R.at ((a + 1 : Nat) : Int) b = true) (c3 : R.at a ((b + 1 : Nat) : Int) = true) :
    (∀ p q : Nat, (p = a + 2 ∧ q = b + 1) ∨ (p = a ∧ q = b + 1) ∨ (p = a + 1 ∧ q = b + 2) ∨ (p = a + 1 ∧ q = b) → p ≤ R.W ∧ q ≤ R.T ∧ R.ht H p q - R.ht H (a + 1) (b + 1) ≤ 3 ∧ -3 ≤ R.ht H p q - R.ht H (a + 1) (b + 1) ∧ R.ht H p q ≠ R.ht H (a + 1) (b + 1)) := by
  obtain ⟨r1, r2, r3, r4⟩ := hp_round h (by omega) (by omega) c1
  obtain ⟨q1, q2, q3, q4⟩ := hp_round h ha (by omega) c2
  obtain ⟨p1, p2, p3, p4⟩ := hp_round h (by omega) hb c3
  have hs := sg_or a b
  have hs2 := sg_or ((a + 1 : Nat) : Int) b
  have hs3 := sg_or a ((b + 1 : Nat) : Int)
  simp only [Nat.add_assoc, Nat.reduceAdd] at *
  rintro p q (⟨rfl, rfl⟩ | ⟨rfl, rfl⟩ | ⟨rfl, rfl⟩ | ⟨rfl, rfl⟩) <;> refine ⟨by omega, by omega, by omega, by omega, by omega⟩

theorem ht_le {R : Reg} (hR : R.ok) (hI : InConn R) {H : List Int} (h : HP R H) {x y : Nat} (hx : x ≤ R.W) (hy : y ≤ R.T) : R.ht H x y ≤ 99 ∧ -51 ≤ R.ht H x y := by
  cases hu : R.cu x y with
  | false => rw [h.no x y hx hy hu]; omega
  | true => have := hp_bd hR hI h hu; omega

/-- Whoever is higher somewhere can be flipped down there. -/
theorem desc {R : Reg} (hR : R.ok) (hS : SimpleP R) {L H G : List Int} (hL : Lay R L) (hF : Full R L) (hH : Hts R L H) (g : HP R G) {x y : Nat} (hx : x ≤ R.W) (hy : y ≤ R.T) (hgt : R.ht G x y < R.ht H x y) :
    ∃ a b : Nat, a + 1 < R.W ∧ b + 1 < R.T ∧ R.inner ((a + 1 : Nat) : Int) ((b + 1 : Nat) : Int) ∧ DownAt R L a b ∧ R.ht G (a + 1) (b + 1) + 4 ≤ R.ht H (a + 1) (b + 1) := by
  have h := hp_of_hts hL hH
  obtain ⟨k, ⟨x, y, hx, hy, hgt, rfl⟩, hm⟩ := least (P := fun k => ∃ x y : Nat, x ≤ R.W ∧ y ≤ R.T ∧ R.ht G x y < R.ht H x y ∧ k = (99 - R.ht H x y).toNat) ⟨_, x, y, hx, hy, hgt, rfl⟩
  have hin : R.inner x y := Classical.byContradiction fun ho => by
    have := hp_outside hR hS h g hx hy ho
    omega
  obtain ⟨a, b, rfl, rfl, ha, hb, c1, c2, c3, c4⟩ := inner_nat hR hin
  have m0 := hp_mod hR hS.1 h g hx hy
  have n1 := hp_near h ha hb c1 c2 c3
  have n2 := hp_near g ha hb c1 c2 c3
  have key : ∀ p q : Nat, (p = a + 2 ∧ q = b + 1) ∨ (p = a ∧ q = b + 1) ∨ (p = a + 1 ∧ q = b + 2) ∨ (p = a + 1 ∧ q = b) → R.ht H p q < R.ht H (a + 1) (b + 1) := by
    intro p q hpq
    obtain ⟨hp, hq, k1, k2, k3⟩ := n1 p q hpq
    obtain ⟨_, _, k4, k5, k6⟩ := n2 p q hpq
    have b1 := ht_le hR hS.1 h hx hy
    have b2 := ht_le hR hS.1 h hp hq
    by_cases hc : R.ht G p q < R.ht H p q
    · have := hm _ ⟨p, q, hp, hq, hc, rfl⟩
      omega
    · omega
  exact ⟨a, b, ha, hb, hin, down_of hR hL hF hH ha hb c1 c2 c3 (key _ _ (.inl ⟨rfl, rfl⟩)) (key _ _ (.inr (.inl ⟨rfl, rfl⟩))) (key _ _ (.inr (.inr (.inl ⟨rfl, rfl⟩)))) (key _ _ (.inr (.inr (.inr ⟨rfl, rfl⟩)))), by omega⟩
theorem asc {R : Reg} (hR : R.ok) (hS : SimpleP R) {L H G : List Int} (hL : Lay R L) (hF : Full R L) (hH : Hts R L H) (g : HP R G) {x y : Nat} (hx : x ≤ R.W) (hy : y ≤ R.T) (hgt : R.ht H x y < R.ht G x y) :
    ∃ a b : Nat, a + 1 < R.W ∧ b + 1 < R.T ∧ R.inner ((a + 1 : Nat) : Int) ((b + 1 : Nat) : Int) ∧ UpAt R L a b ∧ R.ht H (a + 1) (b + 1) + 4 ≤ R.ht G (a + 1) (b + 1) := by
  have h := hp_of_hts hL hH
  obtain ⟨k, ⟨x, y, hx, hy, hgt, rfl⟩, hm⟩ := least (P := fun k => ∃ x y : Nat, x ≤ R.W ∧ y ≤ R.T ∧ R.ht H x y < R.ht G x y ∧ k = (51 + R.ht H x y).toNat) ⟨_, x, y, hx, hy, hgt, rfl⟩
  have hin : R.inner x y := Classical.byContradiction fun ho => by
    have := hp_outside hR hS h g hx hy ho
    omega
  obtain ⟨a, b, rfl, rfl, ha, hb, c1, c2, c3, c4⟩ := inner_nat hR hin
  have m0 := hp_mod hR hS.1 h g hx hy
  have n1 := hp_near h ha hb c1 c2 c3
  have n2 := hp_near g ha hb c1 c2 c3
  have key : ∀ p q : Nat, (p = a + 2 ∧ q = b + 1) ∨ (p = a ∧ q = b + 1) ∨ (p = a + 1 ∧ q = b + 2) ∨ (p = a + 1 ∧ q = b) → R.ht H (a + 1) (b + 1) < R.ht H p q := by
    intro p q hpq
    obtain ⟨hp, hq, k1, k2, k3⟩ := n1 p q hpq
    obtain ⟨_, _, k4, k5, k6⟩ := n2 p q hpq
    have b1 := ht_le hR hS.1 h hx hy
    have b2 := ht_le hR hS.1 h hp hq
    by_cases hc : R.ht H p q < R.ht G p q
    · have := hm _ ⟨p, q, hp, hq, hc, rfl⟩
      omega
    · omega
  exact ⟨a, b, ha, hb, hin, up_of hR hL hF hH ha hb c1 c2 c3 (key _ _ (.inl ⟨rfl, rfl⟩)) (key _ _ (.inr (.inl ⟨rfl, rfl⟩))) (key _ _ (.inr (.inr (.inl ⟨rfl, rfl⟩)))) (key _ _ (.inr (.inr (.inr ⟨rfl, rfl⟩)))), by omega⟩

end Go.Proofs.Ythepfpiphlfgnaa
