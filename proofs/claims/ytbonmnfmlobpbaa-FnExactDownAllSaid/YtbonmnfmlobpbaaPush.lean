/-
  YtbonmnfmlobpbaaPush: lists of pushes (a corner's number, a truth): how they lie in memory, and what the exact laws' own functions do with them.
-/
import Derived.Test.YtbonmnfmlobpbaaGlue
import Derived.Test.YtbonmnfmlobpbaaOpen
import Derived.StillTailTactics
namespace Go.Proofs.Ytbonmnfmlobpbaa
open Go.RowKit

/-- A list of pushes, in cells. -/
def pc (ps : List (Int × Bool)) : List Value := ps.flatMap fun p => [.int .i64 p.1, .bool p.2]
theorem pc_cons (p : Int × Bool) (ps : List (Int × Bool)) : pc (p :: ps) = .int .i64 p.1 :: .bool p.2 :: pc ps := rfl
theorem pc_len (ps : List (Int × Bool)) : (pc ps).length = ps.length * 2 := by
  induction ps with
  | nil => rfl
  | cons p ps ih => rw [pc_cons]; simp [ih]; omega
theorem pc_at {ps : List (Int × Bool)} {k : Nat} {p : Int × Bool} (h : ps[k]? = some p) : (pc ps)[k * 2]? = some (.int .i64 p.1) ∧ (pc ps)[k * 2 + 1]? = some (.bool p.2) := by
  induction ps generalizing k with
  | nil => simp at h
  | cons q ps ih =>
    rw [pc_cons]
    cases k with
    | zero => simp at h; subst h; simp
    | succ k =>
      have := ih (by simpa using h)
      rw [show (k + 1) * 2 = k * 2 + 1 + 1 by omega]
      simpa using this
theorem pc_set (ps : List (Int × Bool)) (k : Nat) (z : Int) (b : Bool) (hk : k < ps.length) : pc (ps.set k (z, b)) = ((pc ps).set (k * 2) (.int .i64 z)).set (k * 2 + 1) (.bool b) := by
  induction ps generalizing k with
  | nil => simp at hk
  | cons q ps ih =>
    cases k with
    | zero => simp [pc_cons]
    | succ k =>
      rw [show (k + 1) * 2 = k * 2 + 1 + 1 by omega]
      simp only [List.set_cons_succ, pc_cons]
      rw [ih k (by simpa using hk)]
theorem pc_set1 (ps : List (Int × Bool)) (k : Nat) (z : Int) (p : Int × Bool) (h : ps[k]? = some p) : pc (ps.set k (z, p.2)) = (pc ps).set (k * 2) (.int .i64 z) := by
  induction ps generalizing k with
  | nil => simp at h
  | cons q ps ih =>
    cases k with
    | zero => simp at h; subst h; simp [pc_cons]
    | succ k =>
      rw [show (k + 1) * 2 = k * 2 + 1 + 1 by omega]
      simp only [List.set_cons_succ, pc_cons]
      rw [ih k (by simpa using h)]
theorem pc_set2 (ps : List (Int × Bool)) (k : Nat) (b : Bool) (p : Int × Bool) (h : ps[k]? = some p) : pc (ps.set k (p.1, b)) = (pc ps).set (k * 2 + 1) (.bool b) := by
  induction ps generalizing k with
  | nil => simp at h
  | cons q ps ih =>
    cases k with
    | zero => simp at h; subst h; simp [pc_cons]
    | succ k =>
      rw [show (k + 1) * 2 = k * 2 + 1 + 1 by omega]
      simp only [List.set_cons_succ, pc_cons]
      rw [ih k (by simpa using h)]

/-- A push that is read: its two cells. -/
theorem Reads.push {w : World} {B n k : Nat} {A : Option Addr} {ps : List (Int × Bool)} (h : Reads w B 2 A n (pc ps)) (hn : ps.length = n) (hk : k < n) :
    ∃ ad p, A = some ad ∧ ad.block < B ∧ ps[k]? = some p ∧ w.cell? (ad.add (k * 2)) = some (.int .i64 p.1) ∧ w.cell? ⟨(ad.add (k * 2)).block, (ad.add (k * 2)).off + 1, none⟩ = some (.bool p.2) := by
  obtain ⟨ad, e, hb, hc⟩ := h.2 (by omega)
  have hp : ps[k]? = some (ps[k]'(by omega)) := List.getElem?_eq_getElem (by omega)
  have h2 := pc_at hp
  refine ⟨ad, _, e, hb, hp, hc _ _ h2.1, ?_⟩
  have := hc _ _ h2.2
  rw [← add_of_add] at this
  exact this

theorem own_push_len {w : World} {base n : Nat} {e : TypeId} {v : Value} {ps : List (Int × Bool)} (h : w.ownsRow base e 2 v n (pc ps)) : ps.length = n := by
  have := h.1
  rw [pc_len] at this
  omega
/-- A push of an owned row: its two cells. -/
theorem own_push {w : World} {base g n c k : Nat} {e : TypeId} {ps : List (Int × Bool)} (h : w.ownsRow base e 2 (.slice (some ⟨g, 0, none⟩) n c) n (pc ps)) (hk : k < n) :
    ∃ p, ps[k]? = some p ∧ w.cell? ⟨g, k * 2, none⟩ = some (.int .i64 p.1) ∧ w.cell? ⟨g, k * 2 + 1, none⟩ = some (.bool p.2) ∧ w.frozen? ⟨g, k * 2, none⟩ = false ∧ w.frozen? ⟨g, k * 2 + 1, none⟩ = false := by
  have hl := own_push_len h
  have hp : ps[k]? = some (ps[k]'(by omega)) := List.getElem?_eq_getElem (by omega)
  have h2 := pc_at hp
  exact ⟨_, hp, (h.cellAt _ (by omega)).trans h2.1, (h.cellAt _ (by omega)).trans h2.2, h.frozenAt _, h.frozenAt _⟩
theorem own_push_set {w : World} {base g n c k : Nat} {e : TypeId} {ps : List (Int × Bool)} (h : w.ownsRow base e 2 (.slice (some ⟨g, 0, none⟩) n c) n (pc ps)) (hk : k < n) (z : Int) (b : Bool) :
    ((w.setCell ⟨g, k * 2, none⟩ (.int .i64 z)).setCell ⟨g, k * 2 + 1, none⟩ (.bool b)).ownsRow base e 2 (.slice (some ⟨g, 0, none⟩) n c) n (pc (ps.set k (z, b))) := by
  have hl := own_push_len h
  have h1 := (h.stored (k * 2) (.int .i64 z)).1
  have h2 := (h1.stored (k * 2 + 1) (.bool b)).1
  rwa [pc_set _ _ _ _ (by omega)]

end Go.Proofs.Ytbonmnfmlobpbaa
