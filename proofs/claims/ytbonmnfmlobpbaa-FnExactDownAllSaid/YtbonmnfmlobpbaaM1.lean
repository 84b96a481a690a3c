/-
  YtbonmnfmlobpbaaM1: what hangs together: chains of neighbours, and when a region has one part and one outside; in plain Lean.
-/
import Derived.Test.YtbonmnfmlobpbaaM0
namespace Go.Proofs.Ytbonmnfmlobpbaa

/-! ### Chains -/
def Near (A : Nat → Nat → Prop) : Nat → Nat → Nat → Prop
  | 0, c, d => c = d
  | k + 1, c, d => Near A k c d ∨ ∃ e, A c e ∧ Near A k e d
def Linked (A : Nat → Nat → Prop) (c d : Nat) : Prop := ∃ k, Near A k c d

theorem near_mono {A : Nat → Nat → Prop} {k : Nat} {c d : Nat} (h : Near A k c d) : Near A (k + 1) c d := .inl h
theorem near_le {A : Nat → Nat → Prop} {k j : Nat} {c d : Nat} (h : Near A k c d) (hj : k ≤ j) : Near A j c d := by
  obtain ⟨i, rfl⟩ : ∃ i, j = k + i := ⟨j - k, by omega⟩
  clear hj
  induction i with
  | zero => exact h
  | succ i ih => exact .inl ih
theorem linked_refl {A : Nat → Nat → Prop} (c : Nat) : Linked A c c := ⟨0, rfl⟩
theorem linked_step {A : Nat → Nat → Prop} {c e d : Nat} (h : A c e) (h' : Linked A e d) : Linked A c d := by
  obtain ⟨k, hk⟩ := h'
  exact ⟨k + 1, .inr ⟨e, h, hk⟩⟩
/-- What holds at one end of a chain, and is handed on from neighbour to neighbour, holds at the other. -/
theorem linked_ind {A : Nat → Nat → Prop} {P : Nat → Prop} (hs : ∀ c e, A c e → P e → P c) {c d : Nat} (h : Linked A c d) (hd : P d) : P c := by
  obtain ⟨k, hk⟩ := h
  induction k generalizing c with
  | zero => cases hk; exact hd
  | succ k ih =>
    rcases hk with hk | ⟨e, he, hk⟩
    · exact ih hk
    · exact hs _ _ he (ih hk)
theorem linked_trans {A : Nat → Nat → Prop} {c d e : Nat} (h : Linked A c d) (h' : Linked A d e) : Linked A c e :=
  linked_ind (P := fun x => Linked A x e) (fun _ _ ha hb => linked_step ha hb) h h'
theorem linked_one {A : Nat → Nat → Prop} {c e : Nat} (h : A c e) : Linked A c e := linked_step h (linked_refl e)
theorem linked_symm {A : Nat → Nat → Prop} (hA : ∀ c e, A c e → A e c) {c d : Nat} (h : Linked A c d) : Linked A d c :=
  linked_ind (P := fun x => Linked A d x) (fun _ _ ha hb => linked_trans hb (linked_one (hA _ _ ha))) h (linked_refl d)

theorem countP_lt {α : Type} {p q : α → Bool} : ∀ {l : List α}, (∀ x ∈ l, p x = true → q x = true) → (∃ x ∈ l, q x = true ∧ p x = false) → l.countP p < l.countP q
  | [], _, ⟨x, hx, _⟩ => by cases hx
  | a :: l, h, ⟨x, hx, hq, hp⟩ => by
    have hl : l.countP p ≤ l.countP q := List.countP_mono_left fun x hx => h x (List.mem_cons_of_mem _ hx)
    rw [List.countP_cons, List.countP_cons]
    rcases List.mem_cons.1 hx with rfl | hx
    · rw [hq, hp]; simp; omega
    · have := countP_lt (fun x hx => h x (List.mem_cons_of_mem _ hx)) ⟨x, hx, hq, hp⟩
      have ha := h a (List.mem_cons_self ..)
      by_cases hpa : p a = true
      · rw [hpa, ha hpa]; simp; omega
      · simp [hpa]; split <;> omega

open Classical in
/-- n places: a chain between them need not be longer than n. -/
theorem near_bound {A : Nat → Nat → Prop} {n : Nat} (hA : ∀ c e, A c e → c < n ∧ e < n) {d : Nat} (hd : d < n) {c : Nat} (h : Linked A c d) : Near A n c d := by
  let f : Nat → Nat := fun k => (List.range n).countP fun x => decide (Near A k x d)
  let Cl : Nat → Prop := fun k => ∀ c e, A c e → Near A k e d → Near A k c d
  have hcl : ∀ k, Cl k → ∀ j c, Near A j c d → Near A k c d := by
    intro k hk j
    induction j with
    | zero => intro c hc; exact near_le (k := 0) hc (Nat.zero_le _)
    | succ j ih =>
      intro c hc
      rcases hc with hc | ⟨e, he, hc⟩
      · exact ih c hc
      · exact hk c e he (ih e hc)
  have key : ∀ k, Cl k ∨ k + 1 ≤ f k := by
    intro k
    induction k with
    | zero =>
      refine .inr ?_
      have : 0 < f 0 := List.countP_pos_iff.2 ⟨d, List.mem_range.2 hd, by simp [Near]⟩
      omega
    | succ k ih =>
      by_cases hk : Cl k
      · refine .inl fun c e he hn => near_mono (hk c e he (hcl k hk (k + 1) e hn))
      · rcases ih with ih | ih
        · exact absurd ih hk
        · refine .inr ?_
          have : ∃ c e, A c e ∧ Near A k e d ∧ ¬ Near A k c d := by
            refine Classical.byContradiction fun hno => hk fun c e he hn => Classical.byContradiction fun hc => hno ⟨c, e, he, hn, hc⟩
          obtain ⟨c, e, he, hn, hc⟩ := this
          have : f k < f (k + 1) := countP_lt (fun x _ hx => by simpa using near_mono (by simpa using hx)) ⟨c, List.mem_range.2 (hA c e he).1, by simpa using .inr ⟨e, he, hn⟩, by simpa using hc⟩
          omega
  have hn : Cl n := by
    rcases key n with h | h
    · exact h
    · have : f n ≤ (List.range n).length := List.countP_le_length
      rw [List.length_range] at this
      omega
  obtain ⟨k, hk⟩ := h
  exact hcl n hn k c hk

/-! ### Columns and rows -/
theorem mk_mod {x W : Nat} (y : Nat) (h : x < W) : (y * W + x) % W = x := by rw [Nat.mul_comm, Nat.mul_add_mod]; exact Nat.mod_eq_of_lt h
theorem mk_div {x W : Nat} (y : Nat) (h : x < W) : (y * W + x) / W = y := by
  rw [Nat.mul_comm, Nat.mul_add_div (by omega), Nat.div_eq_of_lt h, Nat.add_zero]

/-! ### A region's cells and their neighbours -/
def Reg.cell (R : Reg) (c : Nat) : Prop := R.C[c]? = some true
def Reg.A (R : Reg) (c e : Nat) : Prop := R.cell c ∧ R.cell e ∧ ∃ way : Nat, 1 ≤ way ∧ way ≤ 4 ∧ R.step c way = (e : Int)

theorem cell_lt {R : Reg} {c : Nat} (h : R.cell c) : c < R.C.length := by
  unfold Reg.cell at h
  exact (List.getElem?_eq_some_iff.1 h).1

theorem step_cases {R : Reg} {c : Nat} {way : Int} {e : Nat} (h : R.step c way = (e : Int)) :
    (way = 1 ∧ c % R.W + 1 < R.W ∧ e = c + 1) ∨ (way = 2 ∧ c / R.W + 1 < R.T ∧ e = c + R.W) ∨ (way = 3 ∧ 0 < c % R.W ∧ e + 1 = c) ∨ (way = 4 ∧ 0 < c / R.W ∧ e + R.W = c) := by
  unfold Reg.step at h
  split at h
  · split at h <;> first | exact .inl ⟨by omega, by omega, by omega⟩ | omega
  split at h
  · split at h <;> first | exact .inr (.inl ⟨by omega, by omega, by omega⟩) | omega
  split at h
  · split at h <;> first | exact .inr (.inr (.inl ⟨by omega, by omega, by omega⟩)) | omega
  split at h
  · split at h <;> first | exact .inr (.inr (.inr ⟨by omega, by omega, by omega⟩)) | omega
  omega

theorem step_back {R : Reg} {c e : Nat} {way : Int} (hW : 1 ≤ R.W) (hc : c / R.W < R.T) (h : R.step c way = (e : Int)) : R.step e (back way) = (c : Int) := by
  have hxy := xy_eq c R.W
  have hx : c % R.W < R.W := Nat.mod_lt _ (by omega)
  rcases step_cases h with ⟨rfl, h1, rfl⟩ | ⟨rfl, h1, rfl⟩ | ⟨rfl, h1, he⟩ | ⟨rfl, h1, he⟩
  · have e1 : c + 1 = c / R.W * R.W + (c % R.W + 1) := by omega
    have := mk_mod (c / R.W) h1
    rw [← e1] at this
    simp [Reg.step, back, this]
  · have e1 : c + R.W = (c / R.W + 1) * R.W + c % R.W := by rw [Nat.add_mul]; omega
    have := mk_div (c / R.W + 1) hx
    rw [← e1] at this
    simp [Reg.step, back, this]
  · have e1 : e = c / R.W * R.W + (c % R.W - 1) := by omega
    have h2 : c % R.W - 1 < R.W := by omega
    have := mk_mod (c / R.W) h2
    rw [← e1] at this
    simp [Reg.step, back, this]
    omega
  · obtain ⟨q, hq⟩ : ∃ q, c / R.W = q + 1 := ⟨c / R.W - 1, by omega⟩
    have e1 : e = q * R.W + c % R.W := by rw [hq, Nat.add_mul] at hxy; omega
    have := mk_div q hx
    rw [← e1] at this
    simp [Reg.step, back, this]
    omega

theorem step_range {R : Reg} (hR : R.ok) {j : Nat} (hj : j < R.C.length) (way : Int) : R.step j way = -1 ∨ ∃ e : Nat, R.step j way = (e : Int) ∧ e < R.C.length := by
  have hp := xy_lt hR hj
  have hq := xy_eq j R.W
  unfold Reg.step
  split
  · split
    · refine .inr ⟨j + 1, by omega, ?_⟩
      have := idx_lt hR (x := j % R.W + 1) (y := j / R.W) (by omega) hp.2
      omega
    · exact .inl rfl
  split
  · split
    · refine .inr ⟨j + R.W, by omega, ?_⟩
      have := idx_lt hR (x := j % R.W) (y := j / R.W + 1) hp.1 (by omega)
      rw [Nat.add_mul] at this
      omega
    · exact .inl rfl
  split
  · split
    · exact .inr ⟨j - 1, by omega, by omega⟩
    · exact .inl rfl
  split
  · split
    · refine .inr ⟨j - R.W, ?_, by omega⟩
      have h1 : 1 * R.W ≤ j / R.W * R.W := Nat.mul_le_mul_right _ (by omega)
      omega
    · exact .inl rfl
  exact .inl rfl

theorem back_in {way : Nat} (h : 1 ≤ way ∧ way ≤ 4) : ∃ w' : Nat, 1 ≤ w' ∧ w' ≤ 4 ∧ back (way : Int) = (w' : Int) := by
  obtain ⟨h1, h2⟩ := h
  have : way = 1 ∨ way = 2 ∨ way = 3 ∨ way = 4 := by omega
  rcases this with rfl | rfl | rfl | rfl
  · exact ⟨3, by omega, by omega, by decide⟩
  · exact ⟨4, by omega, by omega, by decide⟩
  · exact ⟨1, by omega, by omega, by decide⟩
  · exact ⟨2, by omega, by omega, by decide⟩

theorem A_symm {R : Reg} (hR : R.ok) {c e : Nat} (h : R.A c e) : R.A e c := by
  obtain ⟨h1, h2, way, w1, w2, hs⟩ := h
  obtain ⟨w', v1, v2, hb⟩ := back_in ⟨w1, w2⟩
  refine ⟨h2, h1, w', v1, v2, ?_⟩
  rw [← hb]
  exact step_back hR.1 (xy_lt hR (cell_lt h1)).2 hs
theorem A_lt {R : Reg} {c e : Nat} (h : R.A c e) : c < R.C.length ∧ e < R.C.length := ⟨cell_lt h.1, cell_lt h.2.1⟩

/-- A region of one part. -/
def InConn (R : Reg) : Prop := (∃ c, R.cell c) ∧ ∀ c d, R.cell c → R.cell d → Linked R.A c d

/-! ### The numbers of parts: what the rounds keep, and what they have come to in the end -/
/-- After some rounds: every cell has the number of a cell of its own part; of all that are so near, none is less. -/
structure Parts (R : Reg) (k : Nat) (L : List Int) : Prop where
  len : L.length = R.C.length
  no : ∀ c : Nat, c < R.C.length → ¬ R.cell c → L[c]? = some (-1)
  yes : ∀ c : Nat, R.cell c → ∃ m : Nat, L[c]? = some (m : Int) ∧ R.cell m ∧ Linked R.A c m
  low : ∀ (c d : Nat) (m : Int), R.cell c → L[c]? = some m → Near R.A k c d → m ≤ d

theorem parts_same {R : Reg} (_hR : R.ok) {L : List Int} (h : Parts R R.C.length L) {c e : Nat} (ha : R.A c e) : L[c]? = L[e]? := by
  have key : ∀ c e, R.A c e → ∀ m m' : Nat, L[c]? = some (m : Int) → L[e]? = some (m' : Int) → (m : Int) ≤ m' := by
    intro c e ha m m' hm hm'
    obtain ⟨m'', h1, h2, h3⟩ := h.yes e ha.2.1
    rw [hm'] at h1
    injection h1 with h1
    obtain rfl : m' = m'' := by omega
    exact h.low c m' m ha.1 hm (near_bound (fun _ _ => A_lt) (cell_lt h2) (linked_step ha h3))
  obtain ⟨m, h1, _⟩ := h.yes c ha.1
  obtain ⟨m', h2, _⟩ := h.yes e ha.2.1
  have k1 := key c e ha m m' h1 h2
  have k2 := key e c (A_symm _hR ha) m' m h2 h1
  rw [h1, h2]
  congr 1
  omega

theorem parts_all {R : Reg} (hR : R.ok) {L : List Int} (h : Parts R R.C.length L) {c d : Nat} (hl : Linked R.A c d) : L[c]? = L[d]? :=
  linked_ind (P := fun x => L[x]? = L[d]?) (fun _ _ ha hb => (parts_same hR h ha).trans hb) hl rfl

/-- How many cells bear their own number. -/
def roots (L : List Int) : Nat := (List.range L.length).countP fun c : Nat => decide (L[c]? = some (c : Int))

theorem roots_one {R : Reg} (hR : R.ok) {L : List Int} (h : Parts R R.C.length L) : roots L = 1 ↔ InConn R := by
  have root_of : ∀ c, R.cell c → ∃ m : Nat, L[c]? = some (m : Int) ∧ R.cell m ∧ L[m]? = some (m : Int) ∧ Linked R.A c m := by
    intro c hc
    obtain ⟨m, h1, h2, h3⟩ := h.yes c hc
    exact ⟨m, h1, h2, (parts_all hR h h3).symm.trans h1, h3⟩
  have cell_of : ∀ m : Nat, L[m]? = some (m : Int) → R.cell m := by
    intro m hm
    refine Classical.byContradiction fun hno => ?_
    have hlt : m < R.C.length := by rw [← h.len]; exact (List.getElem?_eq_some_iff.1 hm).1
    have := h.no m hlt hno
    rw [hm] at this
    injection this with this
    omega
  have hsub : ∀ m : Nat, L[m]? = some (m : Int) → m ∈ List.range L.length := fun m hm => List.mem_range.2 (List.getElem?_eq_some_iff.1 hm).1
  constructor
  · intro h1
    have hpos : 0 < roots L := by omega
    obtain ⟨r, hr, hr'⟩ := List.countP_pos_iff.1 hpos
    have hr2 : L[r]? = some (r : Int) := by simpa using hr'
    have uniq : ∀ m : Nat, L[m]? = some (m : Int) → m = r := by
      intro m hm
      refine Classical.byContradiction fun hne => ?_
      have : (List.range L.length).countP (fun c => decide (c = r)) < roots L :=
        countP_lt (fun x _ hx => by have : x = r := by simpa using hx
                                    subst this; simpa using hr2) ⟨m, hsub m hm, by simpa using hm, by simpa using hne⟩
      have : 0 < (List.range L.length).countP (fun c => decide (c = r)) := List.countP_pos_iff.2 ⟨r, hr, by simp⟩
      omega
    refine ⟨⟨r, cell_of r hr2⟩, fun c d hc hd => ?_⟩
    obtain ⟨m, _, _, m3, m4⟩ := root_of c hc
    obtain ⟨m', _, _, n3, n4⟩ := root_of d hd
    rw [uniq m m3] at m4
    rw [uniq m' n3] at n4
    exact linked_trans m4 (linked_symm (fun _ _ => A_symm hR) n4)
  · rintro ⟨⟨c0, hc0⟩, hall⟩
    obtain ⟨r, _, r2, r3, _⟩ := root_of c0 hc0
    have e : roots L = (List.range L.length).countP (fun c => decide (c = r)) := by
      refine List.countP_congr fun x _ => ?_
      simp only [decide_eq_true_eq]
      constructor
      · intro hx
        have := parts_all hR h (hall x r (cell_of x hx) r2)
        rw [hx, r3] at this
        injection this with this
        omega
      · rintro rfl; exact r3
    rw [e]
    have hr : r < L.length := List.mem_range.1 (hsub r r3)
    generalize L.length = n at hr
    clear e
    induction n with
    | zero => omega
    | succ n ih =>
      rw [List.range_succ, List.countP_append]
      by_cases hrn : r = n
      · subst hrn
        have : (List.range r).countP (fun c => decide (c = r)) = 0 := by
          rw [List.countP_eq_zero]; intro a ha; have := List.mem_range.1 ha; simp; omega
        simp [this]
      · rw [ih (by omega)]
        simp; omega

end Go.Proofs.Ytbonmnfmlobpbaa
