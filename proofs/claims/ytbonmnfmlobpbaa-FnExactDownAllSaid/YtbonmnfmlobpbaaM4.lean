/-
  YtbonmnfmlobpbaaM4: the reference's way through what is outside: a queue; in plain Lean.
-/
import Derived.Test.YtbonmnfmlobpbaaM3
namespace Go.Proofs.Ytbonmnfmlobpbaa

def dxOf (v : Nat) : Int := if v = 1 then 1 else if v = 3 then -1 else 0
def dyOf (v : Nat) : Int := if v = 2 then 1 else if v = 4 then -1 else 0
theorem dirs_beside {u v u' v' : Nat} : beside u v u' v' ↔ ∃ way, 1 ≤ way ∧ way ≤ 4 ∧ (u' : Int) = u + dxOf way ∧ (v' : Int) = v + dyOf way := by
  constructor
  · rintro (⟨a, b⟩ | ⟨a, b⟩ | ⟨a, b⟩ | ⟨a, b⟩)
    · exact ⟨1, by omega, by omega, by simp [dxOf]; omega, by simp [dyOf]; omega⟩
    · exact ⟨3, by omega, by omega, by simp [dxOf]; omega, by simp [dyOf]; omega⟩
    · exact ⟨2, by omega, by omega, by simp [dxOf]; omega, by simp [dyOf]; omega⟩
    · exact ⟨4, by omega, by omega, by simp [dxOf]; omega, by simp [dyOf]; omega⟩
  · rintro ⟨way, h1, h2, h3, h4⟩
    have : way = 1 ∨ way = 2 ∨ way = 3 ∨ way = 4 := by omega
    rcases this with rfl | rfl | rfl | rfl
    · simp [dxOf, dyOf] at h3 h4; exact .inl ⟨by omega, by omega⟩
    · simp [dxOf, dyOf] at h3 h4; exact .inr (.inr (.inl ⟨by omega, by omega⟩))
    · simp [dxOf, dyOf] at h3 h4; exact .inr (.inl ⟨by omega, by omega⟩)
    · simp [dxOf, dyOf] at h3 h4; exact .inr (.inr (.inr ⟨by omega, by omega⟩))

structure Bfs (R : Reg) (M : List Bool) (Q : List Int) (k t : Nat) : Prop where
  len : M.length = R.pn
  qlen : Q.length = cnt M
  qin : ∀ p : Nat, marked M p → ∃ i : Nat, Q[i]? = some (p : Int)
  each : ∀ (i : Nat) (q : Int), Q[i]? = some q → ∃ u v : Nat, q = ((R.pi u v : Nat) : Int) ∧ R.free u v = true ∧ Linked R.PA (R.pi u v) 0 ∧ marked M (R.pi u v)
  done : ∀ i, i < k → ∀ u v : Nat, Q[i]? = some ((R.pi u v : Nat) : Int) → R.free u v = true → ∀ u' v', beside u v u' v' → R.free u' v' = true → marked M (R.pi u' v')
  part : ∀ u v : Nat, Q[k]? = some ((R.pi u v : Nat) : Int) → R.free u v = true → ∀ way u' v' : Nat, 1 ≤ way → way < t → (u' : Int) = u + dxOf way → (v' : Int) = v + dyOf way → R.free u' v' = true → marked M (R.pi u' v')

theorem bfs_start {R : Reg} (hR : R.ok) : Bfs R ((List.replicate R.pn false).set 0 true) [0] 0 1 := by
  have hp := pn_bd hR
  have hset : ∀ p, marked ((List.replicate R.pn false).set 0 true) p ↔ p = 0 := by
    intro p
    unfold marked
    rw [List.getElem?_set]
    by_cases h : 0 = p
    · subst h; simp; omega
    · rw [if_neg h, List.getElem?_replicate]
      split <;> simp <;> omega
  refine ⟨by simp, ?_, fun p hm => ⟨0, by rw [(hset p).1 hm]; rfl⟩, fun i q hq => ?_, fun i hi => by omega, fun u v _ _ way u' v' h1 h2 => by omega⟩
  · obtain ⟨m, hm⟩ : ∃ m, R.pn = m + 1 := ⟨R.pn - 1, by omega⟩
    rw [hm, List.replicate_succ]
    simp [cnt, List.countP_replicate]
  · cases i with
    | zero =>
      simp at hq
      exact ⟨0, 0, by rw [pi_zero]; omega, free_zero R, by rw [pi_zero]; exact linked_refl 0, by rw [pi_zero]; exact (hset 0).2 rfl⟩
    | succ i => simp at hq
theorem bfs_next {R : Reg} {M : List Bool} {Q : List Int} {k : Nat} (h : Bfs R M Q k 5) : Bfs R M Q (k + 1) 1 := by
  refine ⟨h.len, h.qlen, h.qin, h.each, fun i hi u v hq hf u' v' hb hf' => ?_, fun u v _ _ way u' v' h1 h2 => by omega⟩
  by_cases hik : i = k
  · subst hik
    obtain ⟨way, h1, h2, h3, h4⟩ := dirs_beside.1 hb
    exact h.part u v hq hf way u' v' h1 (by omega) h3 h4 hf'
  · exact h.done i (by omega) u v hq hf u' v' hb hf'
theorem bfs_skip {R : Reg} {M : List Bool} {Q : List Int} {k t x y : Nat} (h : Bfs R M Q k t) (hx : x < R.W + 2) (hq : Q[k]? = some ((R.pi x y : Nat) : Int))
    (hno : ∀ u' v' : Nat, (u' : Int) = x + dxOf t → (v' : Int) = y + dyOf t → R.free u' v' = true → marked M (R.pi u' v')) : Bfs R M Q k (t + 1) := by
  refine ⟨h.len, h.qlen, h.qin, h.each, h.done, fun u v hq' hf way u' v' h1 h2 h3 h4 hf' => ?_⟩
  by_cases hw : way = t
  · subst hw
    rw [hq] at hq'
    injection hq' with hq'
    obtain ⟨rfl, rfl⟩ := pi_inj hx (free_in hf).1 (show R.pi x y = R.pi u v by omega)
    exact hno u' v' h3 h4 hf'
  · exact h.part u v hq' hf way u' v' h1 (by omega) h3 h4 hf'
theorem bfs_add {R : Reg} {M : List Bool} {Q : List Int} {k t x y u0 v0 : Nat} (h : Bfs R M Q k t) (ht : 1 ≤ t ∧ t ≤ 4) (hx : x < R.W + 2) (hq : Q[k]? = some ((R.pi x y : Nat) : Int))
    (e1 : (u0 : Int) = x + dxOf t) (e2 : (v0 : Int) = y + dyOf t) (hf0 : R.free u0 v0 = true) (hm : M[R.pi u0 v0]? = some false) (hc : cnt (M.set (R.pi u0 v0) true) = cnt M + 1) :
    Bfs R (M.set (R.pi u0 v0) true) (Q ++ [((R.pi u0 v0 : Nat) : Int)]) k (t + 1) := by
  have hp : R.pi u0 v0 < M.length := (List.getElem?_eq_some_iff.1 hm).1
  have hset := fun q => marked_set (q := q) hp
  have hkl : k < Q.length := (List.getElem?_eq_some_iff.1 hq).1
  have hq' : ∀ i, i < Q.length → (Q ++ [((R.pi u0 v0 : Nat) : Int)])[i]? = Q[i]? := fun i hi => List.getElem?_append_left hi
  obtain ⟨x', y', f1, f2, f3, _⟩ := h.each k _ hq
  have hxy : R.free x y = true := by
    obtain ⟨rfl, rfl⟩ := pi_inj hx (free_in f2).1 (show R.pi x y = R.pi x' y' by omega)
    exact f2
  have hl : Linked R.PA (R.pi x y) 0 := by
    have : R.pi x y = R.pi x' y' := by omega
    rw [this]; exact f3
  refine ⟨by rw [List.length_set]; exact h.len, by rw [List.length_append, List.length_singleton, hc, h.qlen], fun p hm => ?_, fun i q hqi => ?_, fun i hi u v hqi hf u' v' hb hf' => ?_, fun u v hqk hf way u' v' h1 h2 h3 h4 hf' => ?_⟩
  · rcases (hset p).1 hm with rfl | hm
    · exact ⟨Q.length, by simp⟩
    · obtain ⟨i, hi⟩ := h.qin p hm
      exact ⟨i, by rw [hq' i (List.getElem?_eq_some_iff.1 hi).1]; exact hi⟩
  · by_cases hi : i < Q.length
    · rw [hq' i hi] at hqi
      obtain ⟨u, v, g1, g2, g3, g4⟩ := h.each i q hqi
      exact ⟨u, v, g1, g2, g3, (hset _).2 (.inr g4)⟩
    · have : i = Q.length := by
        have := (List.getElem?_eq_some_iff.1 hqi).1
        rw [List.length_append, List.length_singleton] at this
        omega
      subst this
      simp at hqi
      subst hqi
      refine ⟨u0, v0, rfl, hf0, linked_step ⟨u0, v0, x, y, rfl, rfl, hf0, hxy, beside_symm (dirs_beside.2 ⟨t, ht.1, ht.2, e1, e2⟩)⟩ hl, (hset _).2 (.inl rfl)⟩
  · rw [hq' i (by omega)] at hqi
    exact (hset _).2 (.inr (h.done i hi u v hqi hf u' v' hb hf'))
  · rw [hq' k hkl] at hqk
    by_cases hw : way = t
    · subst hw
      rw [hq] at hqk
      injection hqk with hqk
      obtain ⟨rfl, rfl⟩ := pi_inj hx (free_in hf).1 (show R.pi x y = R.pi u v by omega)
      obtain rfl : u' = u0 := by omega
      obtain rfl : v' = v0 := by omega
      exact (hset _).2 (.inl rfl)
    · exact (hset _).2 (.inr (h.part u v hqk hf way u' v' h1 (by omega) h3 h4 hf'))
theorem bfs_end {R : Reg} {M : List Bool} {Q : List Int} {k : Nat} (h : Bfs R M Q k 1) (h0 : marked M 0) (hk : Q.length ≤ k) : Spread R M := by
  refine ⟨h.len, fun p hp => ?_, h0, fun u v u' v' hf hm hb hf' => ?_⟩
  · obtain ⟨i, hi⟩ := h.qin p hp
    obtain ⟨u, v, e1, e2, e3, _⟩ := h.each i _ hi
    obtain rfl : p = R.pi u v := by omega
    exact ⟨u, v, rfl, e2, e3⟩
  · obtain ⟨i, hi⟩ := h.qin _ hm
    exact h.done i (by have := (List.getElem?_eq_some_iff.1 hi).1; omega) u v hi hf u' v' hb hf'

end Go.Proofs.Ytbonmnfmlobpbaa
