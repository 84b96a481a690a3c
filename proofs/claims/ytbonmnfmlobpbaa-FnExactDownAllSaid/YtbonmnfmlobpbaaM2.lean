/-
  YtbonmnfmlobpbaaM2: the rounds in which the numbers of parts come down, step by step; in plain Lean.
-/
import Derived.Test.YtbonmnfmlobpbaaM1
namespace Go.Proofs.Ytbonmnfmlobpbaa

/-- What every list of numbers of parts keeps. -/
structure PBase (R : Reg) (L : List Int) : Prop where
  len : L.length = R.C.length
  no : ∀ c : Nat, c < R.C.length → ¬ R.cell c → L[c]? = some (-1)
  yes : ∀ c : Nat, R.cell c → ∃ m : Nat, L[c]? = some (m : Int) ∧ R.cell m ∧ Linked R.A c m
def Low (R : Reg) (K : Nat) (L : List Int) (c e : Nat) : Prop := ∀ (d : Nat) (m : Int), L[c]? = some m → Near R.A K e d → m ≤ d

theorem pbase_cell {R : Reg} {L : List Int} (h : PBase R L) {c : Nat} {m : Int} (hm : L[c]? = some m) (h0 : 0 ≤ m) : R.cell c := by
  refine Classical.byContradiction fun hno => ?_
  have hlt : c < R.C.length := by rw [← h.len]; exact (List.getElem?_eq_some_iff.1 hm).1
  have := h.no c hlt hno
  rw [hm] at this
  injection this with this
  omega
theorem pbase_nonneg {R : Reg} {L : List Int} (h : PBase R L) {c : Nat} {m : Int} (hm : L[c]? = some m) (hc : R.cell c) : 0 ≤ m := by
  obtain ⟨m', h1, _⟩ := h.yes c hc
  rw [hm] at h1
  injection h1 with h1
  omega
theorem pbase_bd {R : Reg} {L : List Int} (h : PBase R L) {c : Nat} {m : Int} (hm : L[c]? = some m) : -1 ≤ m ∧ m ≤ R.C.length := by
  have hlt : c < R.C.length := by rw [← h.len]; exact (List.getElem?_eq_some_iff.1 hm).1
  by_cases hc : R.cell c
  · obtain ⟨m', h1, h2, _⟩ := h.yes c hc
    rw [hm] at h1
    injection h1 with h1
    have := cell_lt h2
    omega
  · have := h.no c hlt hc
    rw [hm] at this
    injection this with this
    omega

/-- One number comes down to a neighbour's. -/
theorem pbase_set {R : Reg} {L : List Int} (h : PBase R L) {j e : Nat} {a b : Int} (ha : L[j]? = some a) (hb : L[e]? = some b) (hj : R.cell j) (he : R.cell e) (hl : Linked R.A j e) : PBase R (L.set j (min a b)) := by
  have hjl : j < L.length := by rw [h.len]; exact cell_lt hj
  refine ⟨by simpa using h.len, fun c hc hno => ?_, fun c hc => ?_⟩
  · rw [List.getElem?_set]
    by_cases hjc : j = c
    · subst hjc; exact absurd hj hno
    · rw [if_neg hjc]; exact h.no c hc hno
  · rw [List.getElem?_set]
    by_cases hjc : j = c
    · subst hjc
      rw [if_pos rfl, if_pos hjl]
      by_cases hab : a ≤ b
      · obtain ⟨m, h1, h2, h3⟩ := h.yes j hj
        rw [ha] at h1
        injection h1 with h1
        exact ⟨m, by rw [Int.min_eq_left hab, h1], h2, h3⟩
      · obtain ⟨m, h1, h2, h3⟩ := h.yes e he
        rw [hb] at h1
        injection h1 with h1
        exact ⟨m, by rw [Int.min_eq_right (by omega), h1], h2, linked_trans hl h3⟩
    · rw [if_neg hjc]; exact h.yes c hc

theorem low_set {R : Reg} {K : Nat} {L : List Int} {j c e : Nat} {a x : Int} (ha : L[j]? = some a) (hx : x ≤ a) (h : Low R K L c e) : Low R K (L.set j x) c e := by
  intro d m hm hd
  rw [List.getElem?_set] at hm
  by_cases hjc : j = c
  · subst hjc
    rw [if_pos rfl] at hm
    split at hm
    · injection hm with hm
      have := h d a ha hd
      omega
    · cases hm
  · rw [if_neg hjc] at hm
    exact h d m hm hd
theorem low_set_new {R : Reg} {K : Nat} {L : List Int} {j e : Nat} {b x : Int} (hb : L[e]? = some b) (hx : x ≤ b) (h : Low R K L e e) : Low R K (L.set j x) j e := by
  intro d m hm hd
  rw [List.getElem?_set, if_pos rfl] at hm
  split at hm
  · injection hm with hm
    have := h d b hb hd
    omega
  · cases hm

/-! ### The program's rounds -/
structure PMid (R : Reg) (K j v : Nat) (L : List Int) : Prop where
  base : PBase R L
  all : ∀ c, R.cell c → Low R K L c c
  done : ∀ c, c < j → ∀ e, R.A c e → Low R K L c e
  part : ∀ way : Nat, 1 ≤ way → way < v → ∀ e : Nat, R.step j (way : Int) = (e : Int) → R.A j e → Low R K L j e

theorem pmid_start {R : Reg} {K : Nat} {L : List Int} (h : Parts R K L) : PMid R K 0 1 L :=
  ⟨⟨h.len, h.no, h.yes⟩, fun c hc d m hm hd => h.low c d m hc hm hd, fun c hc => by omega, fun way h1 h2 => by omega⟩
theorem pmid_end {R : Reg} {K : Nat} {L : List Int} (h : PMid R K R.C.length 1 L) : Parts R (K + 1) L := by
  refine ⟨h.base.len, h.base.no, h.base.yes, fun c d m hc hm hd => ?_⟩
  rcases hd with hd | ⟨e, he, hd⟩
  · exact h.all c hc d m hm hd
  · exact h.done c (cell_lt hc) e he d m hm hd
theorem pmid_next {R : Reg} {K j : Nat} {L : List Int} (h : PMid R K j 5 L) : PMid R K (j + 1) 1 L := by
  refine ⟨h.base, h.all, fun c hc e he => ?_, fun way h1 h2 => by omega⟩
  by_cases hcj : c = j
  · subst hcj
    obtain ⟨_, _, way, w1, w2, hs⟩ := id he
    exact h.part way w1 (by omega) e hs he
  · exact h.done c (by omega) e he
theorem pmid_skip {R : Reg} {K j v : Nat} {L : List Int} (h : PMid R K j v L) (hno : ∀ e : Nat, R.step j (v : Int) = (e : Int) → ¬ R.A j e) : PMid R K j (v + 1) L := by
  refine ⟨h.base, h.all, h.done, fun way h1 h2 e hs he => ?_⟩
  by_cases hv : way = v
  · subst hv; exact absurd he (hno e hs)
  · exact h.part way h1 (by omega) e hs he
theorem pmid_set {R : Reg} {K j v : Nat} {L : List Int} (h : PMid R K j v L) {e : Nat} {a b : Int} (hv : 1 ≤ v ∧ v ≤ 4) (hs : R.step j (v : Int) = (e : Int)) (ha : L[j]? = some a) (hb : L[e]? = some b) (ha0 : 0 ≤ a) (hb0 : 0 ≤ b) :
    PMid R K j (v + 1) (L.set j (min a b)) := by
  have hj := pbase_cell h.base ha ha0
  have he := pbase_cell h.base hb hb0
  have hA : R.A j e := ⟨hj, he, v, hv.1, hv.2, hs⟩
  refine ⟨pbase_set h.base ha hb hj he (linked_one hA), fun c hc => low_set ha (Int.min_le_left _ _) (h.all c hc), fun c hc e' he' => low_set ha (Int.min_le_left _ _) (h.done c hc e' he'), fun way h1 h2 e' hs' he' => ?_⟩
  by_cases hvv : way = v
  · subst hvv
    rw [hs] at hs'
    obtain rfl : e = e' := by omega
    exact low_set_new hb (Int.min_le_right _ _) (h.all e he)
  · exact low_set ha (Int.min_le_left _ _) (h.part way h1 (by omega) e' hs' he')

/-- The first numbers: each cell its own. -/
theorem parts_first {R : Reg} {L : List Int} (hl : L.length = R.C.length) (h : ∀ c : Nat, c < R.C.length → L[c]? = some (if R.C[c]? = some true then (c : Int) else -1)) : Parts R 0 L := by
  refine ⟨hl, fun c hc hno => ?_, fun c hc => ⟨c, ?_, hc, linked_refl c⟩, fun c d m hc hm hd => ?_⟩
  · rw [h c hc, if_neg (show ¬ R.C[c]? = some true from hno)]
  · rw [h c (cell_lt hc), if_pos (show R.C[c]? = some true from hc)]
  · rw [h c (cell_lt hc), if_pos (show R.C[c]? = some true from hc)] at hm
    injection hm with hm
    cases hd
    omega

/-! ### The reference's rounds: both ends of a side come down -/
def Side (R : Reg) (a b : Nat) : Prop := (b + 1 = a ∧ 0 < a % R.W) ∨ b + R.W = a
theorem side_of {R : Reg} {a b : Nat} (h : R.A a b) : Side R a b ∨ Side R b a := by
  obtain ⟨h1, h2, way, w1, w2, hs⟩ := h
  rcases step_cases hs with ⟨_, h3, rfl⟩ | ⟨_, h3, rfl⟩ | ⟨_, h3, he⟩ | ⟨_, h3, he⟩
  · refine .inr (.inl ⟨rfl, ?_⟩)
    have e1 : a + 1 = a / R.W * R.W + (a % R.W + 1) := by have := xy_eq a R.W; omega
    rw [e1, mk_mod _ h3]; omega
  · exact .inr (.inr rfl)
  · exact .inl (.inl ⟨he, h3⟩)
  · exact .inl (.inr he)
theorem side_A {R : Reg} (hR : R.ok) {a b : Nat} (h : Side R a b) (ha : R.cell a) (hb : R.cell b) : R.A a b := by
  have hp := xy_lt hR (cell_lt ha)
  rcases h with ⟨h, h'⟩ | h
  · exact ⟨ha, hb, 3, by omega, by omega, by simp [Reg.step, h']; omega⟩
  · have h1 : 0 < a / R.W := by
      rw [← h, Nat.add_div_right _ (by have := hR.1; omega)]; exact Nat.succ_pos _
    exact ⟨ha, hb, 4, by omega, by omega, by unfold Reg.step; simp only [if_neg (show ¬ (((4 : Nat) : Int) = 1) by omega), if_neg (show ¬ (((4 : Nat) : Int) = 2) by omega), if_neg (show ¬ (((4 : Nat) : Int) = 3) by omega), if_pos h1]; simp; omega⟩

structure SMid (R : Reg) (K j v : Nat) (L : List Int) : Prop where
  base : PBase R L
  all : ∀ c, R.cell c → Low R K L c c
  done : ∀ a b, a < j → Side R a b → R.cell a → R.cell b → Low R K L a b ∧ Low R K L b a
  west : 1 ≤ v → ∀ b, b + 1 = j → 0 < j % R.W → R.cell j → R.cell b → Low R K L j b ∧ Low R K L b j
  south : 2 ≤ v → ∀ b, b + R.W = j → R.cell j → R.cell b → Low R K L j b ∧ Low R K L b j

theorem smid_start {R : Reg} {K : Nat} {L : List Int} (h : Parts R K L) : SMid R K 0 0 L :=
  ⟨⟨h.len, h.no, h.yes⟩, fun c hc d m hm hd => h.low c d m hc hm hd, fun a b ha => by omega, fun h1 => by omega, fun h1 => by omega⟩
theorem smid_end {R : Reg} {K : Nat} {L : List Int} (h : SMid R K R.C.length 0 L) : Parts R (K + 1) L := by
  refine ⟨h.base.len, h.base.no, h.base.yes, fun c d m hc hm hd => ?_⟩
  rcases hd with hd | ⟨e, he, hd⟩
  · exact h.all c hc d m hm hd
  · rcases side_of he with hs | hs
    · exact (h.done c e (cell_lt hc) hs hc he.2.1).1 d m hm hd
    · exact (h.done e c (cell_lt he.2.1) hs he.2.1 hc).2 d m hm hd
theorem smid_next {R : Reg} {K j : Nat} {L : List Int} (h : SMid R K j 2 L) : SMid R K (j + 1) 0 L := by
  refine ⟨h.base, h.all, fun a b ha hs hca hcb => ?_, fun h1 => by omega, fun h1 => by omega⟩
  by_cases haj : a = j
  · subst haj
    rcases hs with ⟨h1, h2⟩ | h1
    · exact h.west (by omega) b h1 h2 hca hcb
    · exact h.south (by omega) b h1 hca hcb
  · exact h.done a b (by omega) hs hca hcb
theorem smid_skip1 {R : Reg} {K j : Nat} {L : List Int} (h : SMid R K j 0 L) (hno : ∀ b, b + 1 = j → 0 < j % R.W → R.cell j → R.cell b → False) : SMid R K j 1 L :=
  ⟨h.base, h.all, h.done, fun _ b h1 h2 h3 h4 => (hno b h1 h2 h3 h4).elim, fun h1 => by omega⟩
theorem smid_skip2 {R : Reg} {K j : Nat} {L : List Int} (h : SMid R K j 1 L) (hno : ∀ b, b + R.W = j → R.cell j → R.cell b → False) : SMid R K j 2 L :=
  ⟨h.base, h.all, h.done, fun _ => h.west (by omega), fun _ b h1 h3 h4 => (hno b h1 h3 h4).elim⟩

theorem set_both {R : Reg} (hR : R.ok) {L : List Int} (h : PBase R L) {j e : Nat} {a b : Int} (ha : L[j]? = some a) (hb : L[e]? = some b) (hA : R.A j e) (hne : j ≠ e) :
    PBase R ((L.set j (min a b)).set e (min a b)) ∧ (∀ K c d, Low R K L c d → Low R K ((L.set j (min a b)).set e (min a b)) c d) ∧
      (∀ K, Low R K L e e → Low R K ((L.set j (min a b)).set e (min a b)) j e) ∧ (∀ K, Low R K L j j → Low R K ((L.set j (min a b)).set e (min a b)) e j) := by
  have h1 := pbase_set h ha hb hA.1 hA.2.1 (linked_one hA)
  have hjl : j < L.length := (List.getElem?_eq_some_iff.1 ha).1
  have e1 : (L.set j (min a b))[j]? = some (min a b) := by rw [List.getElem?_set, if_pos rfl, if_pos hjl]
  have e2 : (L.set j (min a b))[e]? = some b := by rw [List.getElem?_set, if_neg hne]; exact hb
  have h2 := pbase_set h1 e2 e1 hA.2.1 hA.1 (linked_one (A_symm hR hA))
  have em : min b (min a b) = min a b := by omega
  rw [em] at h2
  have hx1 : min a b ≤ a := Int.min_le_left _ _
  have hx2 : min a b ≤ b := Int.min_le_right _ _
  refine ⟨h2, fun K c d hl => low_set e2 hx2 (low_set ha hx1 hl), fun K hl => low_set e2 hx2 (low_set_new hb hx2 hl), fun K hl => ?_⟩
  refine low_set_new e1 (Int.le_refl _) ?_
  exact low_set ha hx1 hl

theorem smid_set1 {R : Reg} (hR : R.ok) {K j e : Nat} {L : List Int} (h : SMid R K j 0 L) {a b : Int} (he1 : e + 1 = j) (hm : 0 < j % R.W) (ha : L[j]? = some a) (hb : L[e]? = some b) (ha0 : 0 ≤ a) (hb0 : 0 ≤ b) :
    SMid R K j 1 ((L.set j (min a b)).set e (min a b)) := by
  have hj := pbase_cell h.base ha ha0
  have he := pbase_cell h.base hb hb0
  have hA := side_A hR (.inl ⟨he1, hm⟩) hj he
  obtain ⟨k1, k2, k3, k4⟩ := set_both hR h.base ha hb hA (by omega)
  refine ⟨k1, fun c hc => k2 K c c (h.all c hc), fun x y hx hs hcx hcy => ⟨k2 K x y (h.done x y hx hs hcx hcy).1, k2 K y x (h.done x y hx hs hcx hcy).2⟩, fun _ y hy _ _ _ => ?_, fun h1 => by omega⟩
  obtain rfl : y = e := by omega
  exact ⟨k3 K (h.all y he), k4 K (h.all j hj)⟩
theorem smid_set2 {R : Reg} (hR : R.ok) {K j e : Nat} {L : List Int} (h : SMid R K j 1 L) {a b : Int} (he1 : e + R.W = j) (ha : L[j]? = some a) (hb : L[e]? = some b) (ha0 : 0 ≤ a) (hb0 : 0 ≤ b) :
    SMid R K j 2 ((L.set j (min a b)).set e (min a b)) := by
  have hj := pbase_cell h.base ha ha0
  have he := pbase_cell h.base hb hb0
  have hA := side_A hR (.inr he1) hj he
  obtain ⟨k1, k2, k3, k4⟩ := set_both hR h.base ha hb hA (by have := hR.1; omega)
  refine ⟨k1, fun c hc => k2 K c c (h.all c hc), fun x y hx hs hcx hcy => ⟨k2 K x y (h.done x y hx hs hcx hcy).1, k2 K y x (h.done x y hx hs hcx hcy).2⟩,
    fun _ y h1 h2 h3 h4 => ⟨k2 K j y (h.west (by omega) y h1 h2 h3 h4).1, k2 K y j (h.west (by omega) y h1 h2 h3 h4).2⟩, fun _ y hy _ _ => ?_⟩
  obtain rfl : y = e := by omega
  exact ⟨k3 K (h.all y he), k4 K (h.all j hj)⟩

end Go.Proofs.Ytbonmnfmlobpbaa
