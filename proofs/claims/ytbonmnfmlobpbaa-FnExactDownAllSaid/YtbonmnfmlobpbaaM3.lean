/-
  YtbonmnfmlobpbaaM3: what is outside of a region, in the field with a margin round it: marks that spread from a corner; in plain Lean.
-/
import Derived.Test.YtbonmnfmlobpbaaM1
namespace Go.Proofs.Ytbonmnfmlobpbaa

/-- A place of the field with its margin that is not of the region. -/
def Reg.free (R : Reg) (x y : Int) : Bool := decide (0 ≤ x ∧ x < R.W + 2 ∧ 0 ≤ y ∧ y < R.T + 2) && !R.at (x - 1) (y - 1)
def Reg.pn (R : Reg) : Nat := (R.W + 2) * (R.T + 2)
def Reg.pi (R : Reg) (x y : Nat) : Nat := y * (R.W + 2) + x
def beside (x y x' y' : Nat) : Prop := (x' = x + 1 ∧ y' = y) ∨ (x = x' + 1 ∧ y' = y) ∨ (x' = x ∧ y' = y + 1) ∨ (x' = x ∧ y = y' + 1)
theorem beside_symm {x y x' y' : Nat} (h : beside x y x' y') : beside x' y' x y := by
  rcases h with ⟨a, b⟩ | ⟨a, b⟩ | ⟨a, b⟩ | ⟨a, b⟩
  · exact .inr (.inl ⟨a, b.symm⟩)
  · exact .inl ⟨a, b.symm⟩
  · exact .inr (.inr (.inr ⟨a.symm, b⟩))
  · exact .inr (.inr (.inl ⟨a.symm, b⟩))
def Reg.PA (R : Reg) (p q : Nat) : Prop := ∃ x y x' y' : Nat, p = R.pi x y ∧ q = R.pi x' y' ∧ R.free x y = true ∧ R.free x' y' = true ∧ beside x y x' y'
def OutConn (R : Reg) : Prop := ∀ x y : Nat, R.free x y = true → Linked R.PA (R.pi x y) 0

theorem free_in {R : Reg} {x y : Nat} (h : R.free x y = true) : x < R.W + 2 ∧ y < R.T + 2 := by
  simp only [Reg.free, Bool.and_eq_true, decide_eq_true_eq] at h
  omega
theorem pi_lt {R : Reg} {x y : Nat} (hx : x < R.W + 2) (hy : y < R.T + 2) : R.pi x y < R.pn := by
  unfold Reg.pi Reg.pn
  calc y * (R.W + 2) + x < y * (R.W + 2) + (R.W + 2) := by omega
    _ = (y + 1) * (R.W + 2) := by rw [Nat.add_mul, Nat.one_mul]
    _ ≤ (R.T + 2) * (R.W + 2) := Nat.mul_le_mul_right _ hy
    _ = _ := Nat.mul_comm _ _
theorem pi_inj {R : Reg} {x y x' y' : Nat} (hx : x < R.W + 2) (hx' : x' < R.W + 2) (h : R.pi x y = R.pi x' y') : x = x' ∧ y = y' := by
  unfold Reg.pi at h
  have h1 := mk_mod y hx
  have h2 := mk_mod y' hx'
  have h3 := mk_div y hx
  have h4 := mk_div y' hx'
  rw [h] at h1 h3
  exact ⟨h1.symm.trans h2, h3.symm.trans h4⟩
theorem pn_bd {R : Reg} (hR : R.ok) : 9 ≤ R.pn ∧ R.pn ≤ 64 := by
  obtain ⟨a, b, c, d, _, _⟩ := hR
  unfold Reg.pn
  have h1 : (R.W + 2) * (R.T + 2) ≤ 8 * 8 := Nat.mul_le_mul (by omega) (by omega)
  have h2 : 3 * 3 ≤ (R.W + 2) * (R.T + 2) := Nat.mul_le_mul (by omega) (by omega)
  omega
theorem free_zero (R : Reg) : R.free 0 0 = true := by
  simp only [Reg.free, Bool.and_eq_true, decide_eq_true_eq, Bool.not_eq_true']
  exact ⟨by omega, at_out (by omega)⟩
theorem pi_zero (R : Reg) : R.pi 0 0 = 0 := by simp [Reg.pi]

/-- Marks that are only on free places, each linked to the corner. -/
abbrev marked (M : List Bool) (p : Nat) : Prop := M[p]? = some true

/-- What a walk from a place does to the marks. -/
structure Dfs (R : Reg) (M : List Bool) (x y : Int) (M' : List Bool) : Prop where
  len : M'.length = M.length
  sub : ∀ p, marked M p → marked M' p
  new : ∀ p, marked M' p → ¬ marked M p → ∃ u v u0 v0 : Nat, p = R.pi u v ∧ R.free u v = true ∧ x = (u0 : Int) ∧ y = (v0 : Int) ∧ R.free u0 v0 = true ∧ Linked R.PA p (R.pi u0 v0)
  own : ∀ u0 v0 : Nat, x = (u0 : Int) → y = (v0 : Int) → R.free u0 v0 = true → marked M' (R.pi u0 v0)
  shut : ∀ (u v u' v' : Nat), R.free u v = true → marked M' (R.pi u v) → ¬ marked M (R.pi u v) → beside u v u' v' → R.free u' v' = true → marked M' (R.pi u' v')

theorem dfs_same {R : Reg} {M : List Bool} {x y : Int} (h : ∀ u0 v0 : Nat, x = (u0 : Int) → y = (v0 : Int) → R.free u0 v0 = true → marked M (R.pi u0 v0)) : Dfs R M x y M :=
  ⟨rfl, fun _ h => h, fun _ h1 h2 => absurd h1 h2, h, fun _ _ _ _ _ h1 h2 => absurd h1 h2⟩

theorem marked_set {M : List Bool} {p q : Nat} (hp : p < M.length) : marked (M.set p true) q ↔ q = p ∨ marked M q := by
  unfold marked
  rw [List.getElem?_set]
  by_cases h : p = q
  · subst h; simp [hp]
  · rw [if_neg h]
    constructor
    · exact .inr
    · rintro (h' | h')
      · exact absurd h'.symm h
      · exact h'

theorem dfs_four {R : Reg} {M M1 M2 M3 M4 : List Bool} {x y : Nat} (hf : R.free x y = true) (hl : M.length = R.pn)
    (h1 : Dfs R (M.set (R.pi x y) true) ((x : Int) + 1) y M1) (h2 : Dfs R M1 ((x : Int) - 1) y M2) (h3 : Dfs R M2 x ((y : Int) + 1) M3) (h4 : Dfs R M3 x ((y : Int) - 1) M4) : Dfs R M x y M4 := by
  obtain ⟨hx, hy⟩ := free_in hf
  have hp : R.pi x y < M.length := by rw [hl]; exact pi_lt hx hy
  have hset := fun q => marked_set (q := q) hp
  have s1 : ∀ p, marked M1 p → marked M4 p := fun p h => h4.sub p (h3.sub p (h2.sub p h))
  have s2 : ∀ p, marked M2 p → marked M4 p := fun p h => h4.sub p (h3.sub p h)
  have s0 : marked M4 (R.pi x y) := s1 _ (h1.sub _ ((hset _).2 (.inl rfl)))
  -- a new mark came by one of the five
  have split : ∀ p, marked M4 p → ¬ marked M p → p = R.pi x y ∨ (marked M1 p ∧ ¬ marked (M.set (R.pi x y) true) p) ∨ (marked M2 p ∧ ¬ marked M1 p) ∨ (marked M3 p ∧ ¬ marked M2 p) ∨ (marked M4 p ∧ ¬ marked M3 p) := by
    intro p hp4 hpM
    by_cases a : marked M3 p
    · by_cases b : marked M2 p
      · by_cases c : marked M1 p
        · by_cases d : marked (M.set (R.pi x y) true) p
          · rcases (hset p).1 d with e | e
            · exact .inl e
            · exact absurd e hpM
          · exact .inr (.inl ⟨c, d⟩)
        · exact .inr (.inr (.inl ⟨b, c⟩))
      · exact .inr (.inr (.inr (.inl ⟨a, b⟩)))
    · exact .inr (.inr (.inr (.inr ⟨hp4, a⟩)))
  have link : ∀ (p : Nat) (u0 v0 : Nat), beside x y u0 v0 → R.free u0 v0 = true → Linked R.PA p (R.pi u0 v0) → Linked R.PA p (R.pi x y) := fun p u0 v0 hb hf0 hl =>
    linked_trans hl (linked_one ⟨u0, v0, x, y, rfl, rfl, hf0, hf, beside_symm hb⟩)
  refine ⟨by rw [h4.len, h3.len, h2.len, h1.len, List.length_set], fun p h => s1 p (h1.sub p ((hset p).2 (.inr h))), fun p hp4 hpM => ?_, fun u0 v0 e1 e2 _ => ?_, fun u v u' v' hfu hm hn hb hfu' => ?_⟩
  · rcases split p hp4 hpM with h | ⟨a, b⟩ | ⟨a, b⟩ | ⟨a, b⟩ | ⟨a, b⟩
    · exact ⟨x, y, x, y, h, hf, rfl, rfl, hf, by rw [h]; exact linked_refl _⟩
    · obtain ⟨u, v, u0, v0, e1, e2, e3, e4, e5, e6⟩ := h1.new p a b
      exact ⟨u, v, x, y, e1, e2, rfl, rfl, hf, link p u0 v0 (.inl ⟨by omega, by omega⟩) e5 e6⟩
    · obtain ⟨u, v, u0, v0, e1, e2, e3, e4, e5, e6⟩ := h2.new p a b
      exact ⟨u, v, x, y, e1, e2, rfl, rfl, hf, link p u0 v0 (.inr (.inl ⟨by omega, by omega⟩)) e5 e6⟩
    · obtain ⟨u, v, u0, v0, e1, e2, e3, e4, e5, e6⟩ := h3.new p a b
      exact ⟨u, v, x, y, e1, e2, rfl, rfl, hf, link p u0 v0 (.inr (.inr (.inl ⟨by omega, by omega⟩))) e5 e6⟩
    · obtain ⟨u, v, u0, v0, e1, e2, e3, e4, e5, e6⟩ := h4.new p a b
      exact ⟨u, v, x, y, e1, e2, rfl, rfl, hf, link p u0 v0 (.inr (.inr (.inr ⟨by omega, by omega⟩))) e5 e6⟩
  · obtain rfl : u0 = x := by omega
    obtain rfl : v0 = y := by omega
    exact s0
  · rcases split _ hm hn with h | ⟨a, b⟩ | ⟨a, b⟩ | ⟨a, b⟩ | ⟨a, b⟩
    · obtain ⟨rfl, rfl⟩ := pi_inj (free_in hfu).1 hx h
      rcases hb with ⟨b1, b2⟩ | ⟨b1, b2⟩ | ⟨b1, b2⟩ | ⟨b1, b2⟩
      · exact s1 _ (h1.own u' v' (by omega) (by omega) hfu')
      · exact s2 _ (h2.own u' v' (by omega) (by omega) hfu')
      · exact h4.sub _ (h3.own u' v' (by omega) (by omega) hfu')
      · exact h4.own u' v' (by omega) (by omega) hfu'
    · exact s1 _ (h1.shut u v u' v' hfu a b hb hfu')
    · exact s2 _ (h2.shut u v u' v' hfu a b hb hfu')
    · exact h4.sub _ (h3.shut u v u' v' hfu a b hb hfu')
    · exact h4.shut u v u' v' hfu a b hb hfu'

/-! ### Marks that are spread whole -/
/-- Marks that hold just what is linked to the corner. -/
structure Spread (R : Reg) (M : List Bool) : Prop where
  len : M.length = R.pn
  free : ∀ p, marked M p → ∃ u v : Nat, p = R.pi u v ∧ R.free u v = true ∧ Linked R.PA p 0
  zero : marked M 0
  shut : ∀ (u v u' v' : Nat), R.free u v = true → marked M (R.pi u v) → beside u v u' v' → R.free u' v' = true → marked M (R.pi u' v')

theorem spread_of_dfs {R : Reg} {M : List Bool} (h : Dfs R (List.replicate R.pn false) 0 0 M) : Spread R M := by
  have hno : ∀ p, ¬ marked (List.replicate R.pn false) p := by
    intro p hp
    unfold marked at hp
    rw [List.getElem?_replicate] at hp
    split at hp
    · injection hp with hp; cases hp
    · cases hp
  refine ⟨by rw [h.len]; simp, fun p hp => ?_, ?_, fun u v u' v' h1 h2 h3 h4 => h.shut u v u' v' h1 h2 (hno _) h3 h4⟩
  · obtain ⟨u, v, u0, v0, e1, e2, e3, e4, _, e6⟩ := h.new p hp (hno p)
    obtain rfl : u0 = 0 := by omega
    obtain rfl : v0 = 0 := by omega
    rw [pi_zero] at e6
    exact ⟨u, v, e1, e2, e6⟩
  · have := h.own 0 0 (by simp) (by simp) (free_zero R)
    rwa [pi_zero] at this

theorem spread_all {R : Reg} {M : List Bool} (h : Spread R M) : OutConn R ↔ ∀ x y : Nat, R.free x y = true → marked M (R.pi x y) := by
  constructor
  · intro ho x y hf
    refine linked_ind (P := fun p => marked M p) (fun p q ha hq => ?_) (ho x y hf) h.zero
    obtain ⟨x, y, x', y', rfl, rfl, h1, h2, h3⟩ := ha
    exact h.shut x' y' x y h2 hq (beside_symm h3) h1
  · intro ha x y hf
    obtain ⟨_, _, _, _, h3⟩ := h.free _ (ha x y hf)
    exact h3

/-! ### How many free places there are -/
def Reg.frees (R : Reg) : List Bool := (List.range R.pn).map fun p => R.free ((p % (R.W + 2) : Nat) : Int) ((p / (R.W + 2) : Nat) : Int)
theorem frees_len (R : Reg) : R.frees.length = R.pn := by simp [Reg.frees]
theorem frees_at {R : Reg} {x y : Nat} (hx : x < R.W + 2) (hy : y < R.T + 2) : R.frees[R.pi x y]? = some (R.free x y) := by
  unfold Reg.frees
  rw [List.getElem?_map, List.getElem?_range (pi_lt hx hy)]
  simp only [Option.map_some]
  unfold Reg.pi
  rw [mk_mod y hx, mk_div y hx]

theorem countP_range_mul (f : Nat → Bool) (m : Nat) : ∀ n, (List.range (m * n)).countP f = ((List.range n).map fun y => (List.range m).countP fun x => f (y * m + x)).sum
  | 0 => by simp
  | n + 1 => by
    rw [Nat.mul_succ, List.range_add, List.countP_append, countP_range_mul f m n, List.range_succ, List.map_append, List.sum_append]
    simp only [List.map_cons, List.map_nil, List.sum_cons, List.sum_nil, Nat.add_zero, List.countP_map]
    congr 1
    refine List.countP_congr fun x _ => ?_
    simp [Function.comp, Nat.mul_comm]

theorem cnt_range (L : List Bool) : cnt L = (List.range L.length).countP fun p => L.getD p false := by
  unfold cnt
  have : L = (List.range L.length).map fun p => L.getD p false := by
    apply List.ext_getElem?
    intro i
    by_cases h : i < L.length
    · simp [h]
    · simp [h]
  conv => lhs; rw [this]
  rw [List.countP_map]
  refine List.countP_congr fun x _ => ?_
  simp

theorem countP_not (f : Nat → Bool) (n : Nat) : (List.range n).countP (fun x => !f x) + (List.range n).countP f = n := by
  induction n with
  | zero => simp
  | succ n ih =>
    rw [List.range_succ, List.countP_append, List.countP_append]
    by_cases h : f n = true <;> simp [h] <;> omega

theorem sum_shift {f : Nat → Nat} : ∀ n, ((List.range (n + 2)).map f).sum = f 0 + ((List.range n).map fun y => f (y + 1)).sum + f (n + 1) := by
  intro n
  rw [List.range_succ, List.map_append, List.sum_append]
  simp only [List.map_cons, List.map_nil, List.sum_cons, List.sum_nil, Nat.add_zero]
  congr 1
  have : List.range (n + 1) = 0 :: (List.range n).map (· + 1) := by
    rw [List.range_succ_eq_map]
  rw [this]
  simp [Function.comp_def]

theorem cnt_frees {R : Reg} (hR : R.ok) : cnt R.frees + cnt R.C = R.pn := by
  have e1 : cnt R.frees = (List.range R.pn).countP fun p => R.free ((p % (R.W + 2) : Nat) : Int) ((p / (R.W + 2) : Nat) : Int) := by
    unfold cnt Reg.frees
    rw [List.countP_map]
    refine List.countP_congr fun x _ => by simp [Function.comp]
  have e2 : cnt R.C = (List.range (R.W * R.T)).countP fun p => R.C.getD p false := by rw [cnt_range, hR.2.2.2.2.1]
  -- the cells, counted in the field with its margin
  have e3 : (List.range R.pn).countP (fun p => R.at (((p % (R.W + 2) : Nat) : Int) - 1) (((p / (R.W + 2) : Nat) : Int) - 1)) = cnt R.C := by
    rw [e2, countP_range_mul]
    unfold Reg.pn
    rw [countP_range_mul]
    have row : ∀ y, (List.range (R.W + 2)).countP (fun x => R.at ((((y * (R.W + 2) + x) % (R.W + 2) : Nat) : Int) - 1) ((((y * (R.W + 2) + x) / (R.W + 2) : Nat) : Int) - 1)) = (List.range (R.W + 2)).countP (fun x : Nat => R.at ((x : Int) - 1) ((y : Int) - 1)) := by
      intro y
      refine List.countP_congr fun x hx => ?_
      have hx := List.mem_range.1 hx
      rw [mk_mod y hx, mk_div y hx]
    simp only [row]
    rw [sum_shift]
    have z1 : (List.range (R.W + 2)).countP (fun x : Nat => R.at ((x : Int) - 1) (((0 : Nat) : Int) - 1)) = 0 := by
      rw [List.countP_eq_zero]; intro x _; rw [at_out (by omega)]; simp
    have z2 : (List.range (R.W + 2)).countP (fun x : Nat => R.at ((x : Int) - 1) (((R.T + 1 : Nat) : Int) - 1)) = 0 := by
      rw [List.countP_eq_zero]; intro x _; rw [at_out (by omega)]; simp
    rw [z1, z2, Nat.zero_add, Nat.add_zero]
    congr 1
    refine List.map_congr_left fun y hy => ?_
    have hy := List.mem_range.1 hy
    have : List.range (R.W + 2) = 0 :: ((List.range R.W).map (· + 1) ++ [R.W + 1]) := by
      rw [List.range_succ, List.range_succ_eq_map]; rfl
    rw [this, List.countP_cons, List.countP_append, List.countP_map]
    have z3 : R.at (((0 : Nat) : Int) - 1) (((y + 1 : Nat) : Int) - 1) = false := at_out (by omega)
    have z4 : R.at (((R.W + 1 : Nat) : Int) - 1) (((y + 1 : Nat) : Int) - 1) = false := at_out (by omega)
    simp only [List.countP_cons, List.countP_nil, z3, z4]
    simp only [Bool.false_eq_true, if_false, Nat.add_zero]
    refine List.countP_congr fun x hx => ?_
    have hx := List.mem_range.1 hx
    have a1 : (((x + 1 : Nat) : Int) - 1) = (x : Int) := by omega
    have a2 : (((y + 1 : Nat) : Int) - 1) = (y : Int) := by omega
    simp only [Function.comp, a1, a2]
    rw [at_in hx hy]
  rw [e1, ← e3]
  have := countP_not (fun p => R.at (((p % (R.W + 2) : Nat) : Int) - 1) (((p / (R.W + 2) : Nat) : Int) - 1)) R.pn
  have e4 : (List.range R.pn).countP (fun p => R.free ((p % (R.W + 2) : Nat) : Int) ((p / (R.W + 2) : Nat) : Int)) = (List.range R.pn).countP (fun p => !R.at (((p % (R.W + 2) : Nat) : Int) - 1) (((p / (R.W + 2) : Nat) : Int) - 1)) := by
    refine List.countP_congr fun p hp => ?_
    have hp := List.mem_range.1 hp
    have h1 : p % (R.W + 2) < R.W + 2 := Nat.mod_lt _ (by omega)
    have h2 : p / (R.W + 2) < R.T + 2 := by
      rw [Nat.div_lt_iff_lt_mul (by omega), Nat.mul_comm]; exact hp
    simp only [Reg.free]
    have h3 : (0 : Int) ≤ ((p % (R.W + 2) : Nat) : Int) ∧ ((p % (R.W + 2) : Nat) : Int) < (R.W : Int) + 2 ∧ 0 ≤ ((p / (R.W + 2) : Nat) : Int) ∧ ((p / (R.W + 2) : Nat) : Int) < (R.T : Int) + 2 := by
      generalize p % (R.W + 2) = a at h1 ⊢
      generalize p / (R.W + 2) = b at h2 ⊢
      omega
    rw [decide_eq_true h3, Bool.true_and]
  rw [e4]
  exact this

theorem cnt_eq_iff {M F : List Bool} (hl : M.length = F.length) (hs : ∀ p, marked M p → marked F p) : cnt M = cnt F ↔ ∀ p, marked F p → marked M p := by
  have cm : cnt M = (List.range F.length).countP fun p => decide (marked M p) := by
    rw [cnt_range, hl]
    refine List.countP_congr fun x hx => ?_
    unfold marked
    have : x < M.length := by rw [hl]; exact List.mem_range.1 hx
    simp [List.getD, List.getElem?_eq_getElem this]
  have cf : cnt F = (List.range F.length).countP fun p => decide (marked F p) := by
    rw [cnt_range]
    refine List.countP_congr fun x hx => ?_
    unfold marked
    have : x < F.length := List.mem_range.1 hx
    simp [List.getD, List.getElem?_eq_getElem this]
  constructor
  · intro he p hp
    refine Classical.byContradiction fun hno => ?_
    have hlt : p < F.length := by unfold marked at hp; exact (List.getElem?_eq_some_iff.1 hp).1
    have := countP_lt (l := List.range F.length) (p := fun p => decide (marked M p)) (q := fun p => decide (marked F p)) (fun x _ hx => by simpa using hs x (by simpa using hx)) ⟨p, List.mem_range.2 hlt, by simpa using hp, by simpa using hno⟩
    omega
  · intro h
    rw [cm, cf]
    exact List.countP_congr fun x _ => by simp only [decide_eq_true_eq]; exact ⟨hs x, h x⟩

/-- The marks are as many as the free places exactly if all of these hang together. -/
theorem spread_count {R : Reg} (hR : R.ok) {M : List Bool} (h : Spread R M) : cnt M + cnt R.C = R.pn ↔ OutConn R := by
  have hf := cnt_frees hR
  have hsub : ∀ p, marked M p → marked R.frees p := fun p hp => by
    obtain ⟨u, v, rfl, h2, _⟩ := h.free p hp
    unfold marked
    rw [frees_at (free_in h2).1 (free_in h2).2, h2]
  have key := cnt_eq_iff (M := M) (F := R.frees) (by rw [h.len, frees_len]) hsub
  rw [spread_all h]
  constructor
  · intro he x y hxy
    refine key.1 (by omega) _ ?_
    unfold marked
    rw [frees_at (free_in hxy).1 (free_in hxy).2, hxy]
  · intro ha
    have : cnt M = cnt R.frees := key.2 fun p hp => by
      unfold marked at hp
      have hlt : p < R.pn := by rw [← frees_len]; exact (List.getElem?_eq_some_iff.1 hp).1
      have h1 : p % (R.W + 2) < R.W + 2 := Nat.mod_lt _ (by omega)
      have h2 : p / (R.W + 2) < R.T + 2 := by
        rw [Nat.div_lt_iff_lt_mul (by omega), Nat.mul_comm]; exact hlt
      have e : p = R.pi (p % (R.W + 2)) (p / (R.W + 2)) := by unfold Reg.pi; exact (xy_eq p _).symm
      rw [e, frees_at h1 h2] at hp
      injection hp with hp
      rw [e]
      exact ha _ _ hp
    omega

/-- A simple region: one part, and one outside. -/
def SimpleP (R : Reg) : Prop := InConn R ∧ OutConn R
open Classical in
noncomputable def simpleB (W T : Int) (bs : List Bool) : Bool := validB W T bs && decide (SimpleP ⟨W.toNat, T.toNat, bs⟩)
theorem simple_of {R : Reg} (hR : R.ok) : simpleB R.W R.T R.C = true ↔ SimpleP R := by
  unfold simpleB
  rw [valid_of_ok hR]
  simp

end Go.Proofs.Ytbonmnfmlobpbaa
