/-
  YthepfpiphlfgnaaRw: rows of rows of numbers, and a frame: one cell and one row are written.
-/
import Derived.Test.YthepfpiphlfgnaaRb
namespace Go.Proofs.Ythepfpiphlfgnaa
open Go.RowKit

theorem own_far {w : World} {b b' : Nat} {e e' : TypeId} {s s' n n' : Nat} {v v' : Value} {xs xs' : List Value} (h : w.ownsRow b e s v n xs) (h' : w.ownsRow b' e' s' v' n' xs') (hne : e ≠ e') : v.ownBlock = none ∨ v.ownBlock ≠ v'.ownBlock := by
  rcases h.2 with ⟨rfl, _⟩ | ⟨g, cap, cur, rfl, _, hg, _⟩
  · exact .inl rfl
  · right
    rcases h'.2 with ⟨rfl, _⟩ | ⟨g', cap', cur', rfl, _, hg', _⟩
    · simp [Value.ownBlock]
    · simp only [Value.ownBlock, ne_eq, Option.some.injEq]
      rintro rfl
      rw [hg] at hg'
      injection hg' with hg'
      injection hg' with _ ht
      exact hne ht

/-- Only the cells of block q, the row of v and new blocks are written; v' is v's row or a new one. -/
structure Fr (q : Nat) (v v' : Value) (w w' : World) : Prop where
  os : w'.os = w.os
  tape : w'.tape = w.tape
  output : w'.output = w.output
  size : w.heap.size ≤ w'.heap.size
  block : ∀ k, k < w.heap.size → k ≠ q → some k ≠ v.ownBlock → w'.heap[k]? = w.heap[k]?
  new : ∀ k, v'.ownBlock = some k → v.ownBlock = some k ∨ w.heap.size ≤ k
section
variable {q b : Nat} {v v' v2 : Value} {w w' w2 : World}
theorem Fr.trans (h : Fr q v v' w w') (g : Fr q v' v2 w' w2) : Fr q v v2 w w2 := by
  refine ⟨g.os.trans h.os, g.tape.trans h.tape, g.output.trans h.output, Nat.le_trans h.size g.size, fun k hk h1 h2 => ?_, fun k hk => ?_⟩
  · refine (g.block k (Nat.lt_of_lt_of_le hk h.size) h1 fun e => ?_).trans (h.block k hk h1 h2)
    rcases h.new k e.symm with e' | e'
    · exact h2 e'.symm
    · omega
  · rcases g.new k hk with e | e
    · exact h.new k e
    · exact .inr (Nat.le_trans h.size e)
theorem Fr.of_below (h : Below w.heap.size w w') : Fr q v v w w' := ⟨h.os, h.tape, h.output, h.size, fun k hk _ _ => h.block k hk, fun _ hk => .inl hk⟩
theorem Fr.below (h : Fr q v v' w w') (hb : b ≤ w.heap.size) (hq : b ≤ q) (hv : ∀ k, v.ownBlock = some k → b ≤ k) : Below b w w' :=
  ⟨h.os, h.tape, h.output, h.size, fun k hk => h.block k (by omega) (by omega) fun e => by have := hv k e.symm; omega⟩
theorem Fr.own {base : Nat} {e : TypeId} {s n : Nat} {x : Value} {ys : List Value} (h : Fr q v v' w w') (ho : w.ownsRow base e s x n ys) (hq : x.ownBlock ≠ some q) (hv : x.ownBlock = none ∨ x.ownBlock ≠ v.ownBlock) : w'.ownsRow base e s x n ys := by
  refine ⟨ho.1, ?_⟩
  rcases ho.2 with hn | ⟨g, cap, cur, rfl, hbb, hgg, rest⟩
  · exact .inl hn
  · refine .inr ⟨g, cap, cur, rfl, hbb, ?_, rest⟩
    have hlt := (Array.getElem?_eq_some_iff.1 hgg).1
    exact (h.block g hlt (fun e => hq (by rw [← e]; rfl)) (by simpa [Value.ownBlock] using hv)).trans hgg
theorem Fr.blk {g : Nat} {t : TypeId} {cs : Array Value} (h : Fr q v v' w w') (hb : Blk w g t cs) (hq : g ≠ q) (hv : v.ownBlock ≠ some g) : Blk w' g t cs := (h.block g hb.lt hq (fun e => hv e.symm)).trans hb
end

/-- A row of numbers that a slice shows; a row of such slices. -/
def Inner (w : World) (b n : Nat) (x : Value) (L : List Int) : Prop :=
  ∃ g c c', x = .slice (some ⟨g, 0, none⟩) n c' ∧ w.ownsRow b 3 1 (.slice (some ⟨g, 0, none⟩) n c) n (L.map (Value.int .i64))
structure RowsOf (w : World) (b n : Nat) (v : Value) (xs : List Value) (Ts : List (List Int)) : Prop where
  own : w.ownsRow b 26 1 v xs.length xs
  len : xs.length = Ts.length
  inn : ∀ (i : Nat) (x : Value) (L : List Int), xs[i]? = some x → Ts[i]? = some L → Inner w b n x L
section
variable {q b b' n : Nat} {v v' x : Value} {w w' : World} {L : List Int} {xs : List Value} {Ts : List (List Int)}
theorem Inner.below (h : Inner w b n x L) (hb : Below w.heap.size w w') : Inner w' b n x L := by
  obtain ⟨g, c, c', rfl, ho⟩ := h
  exact ⟨g, c, c', rfl, own_below ho hb (Nat.le_refl _)⟩
theorem Inner.fr (h : Inner w b n x L) (hF : Fr q v v' w w') {cs : Array Value} {t : TypeId} (hq : Blk w q t cs) (ht : 3 ≠ t) {bo m : Nat} {ys : List Value} (hv : w.ownsRow bo 26 1 v m ys) : Inner w' b n x L := by
  obtain ⟨g, c, c', rfl, ho⟩ := h
  exact ⟨g, c, c', rfl, hF.own ho (own_blk_ne ho hq ht) (own_far ho hv (by decide))⟩
theorem Inner.reads (h : Inner w b n x L) : ∃ g c', x = .slice (some ⟨g, 0, none⟩) n c' ∧ Reads w w.heap.size 1 (some ⟨g, 0, none⟩) n (L.map (Value.int .i64)) := by
  obtain ⟨g, c, c', rfl, ho⟩ := h
  exact ⟨g, c', rfl, Reads.of_own ho⟩
theorem RowsOf.below (h : RowsOf w b n v xs Ts) (hb : Below w.heap.size w w') : RowsOf w' b n v xs Ts :=
  ⟨own_below h.own hb (Nat.le_refl _), h.len, fun i x L h1 h2 => (h.inn i x L h1 h2).below hb⟩
theorem RowsOf.mono (h : RowsOf w b n v xs Ts) (hb : b' ≤ b) : RowsOf w b' n v xs Ts :=
  ⟨own_mono h.own hb, h.len, fun i x L h1 h2 => by
    obtain ⟨g, c, c', rfl, ho⟩ := h.inn i x L h1 h2
    exact ⟨g, c, c', rfl, own_mono ho hb⟩⟩
theorem RowsOf.nil (w : World) (b n : Nat) : RowsOf w b n (.slice none 0 0) [] [] := ⟨⟨rfl, .inl ⟨rfl, rfl⟩⟩, rfl, fun i x L h => by simp at h⟩
/-- The k-th row. -/
theorem RowsOf.at_ (h : RowsOf w b n v xs Ts) {k : Nat} (hk : k < Ts.length) : ∃ x L, xs[k]? = some x ∧ Ts[k]? = some L ∧ Inner w b n x L := by
  have hx : k < xs.length := by rw [h.len]; exact hk
  exact ⟨xs[k], Ts[k], List.getElem?_eq_getElem hx, List.getElem?_eq_getElem hk, h.inn k _ _ (List.getElem?_eq_getElem hx) (List.getElem?_eq_getElem hk)⟩
/-- Behind an append of one slice. -/
theorem RowsOf.app {o : Obj} (h : RowsOf w b n v xs Ts) (hx : Inner w b n x L) (ho : w'.ownsRow b 26 1 v' (xs.length + 1) (xs ++ [x])) (hg : (w.alloc o).grownBy w' v.ownBlock) : RowsOf w' b n v' (xs ++ [x]) (Ts ++ [L]) := by
  have hin : ∀ {y : Value} {M : List Int}, Inner w b n y M → Inner w' b n y M := fun {y M} hy => by
    obtain ⟨g, c, c', rfl, hw⟩ := hy
    exact ⟨g, c, c', rfl, own_grown (hw.alloc o) hg (own_far hw h.own (by decide))⟩
  refine ⟨by rw [List.length_append]; exact ho, by rw [List.length_append, List.length_append, h.len]; rfl, fun i y M h1 h2 => hin ?_⟩
  rw [List.getElem?_append] at h1 h2
  rw [h.len] at h1
  split at h1
  · rename_i hi
    rw [if_pos hi] at h2
    exact h.inn i y M h1 h2
  · rename_i hi
    rw [if_neg hi] at h2
    cases hi' : i - Ts.length with
    | zero =>
      rw [hi'] at h1 h2
      simp at h1 h2
      subst h1 h2
      exact hx
    | succ j => rw [hi'] at h1; simp at h1
/-- .. and behind a store into a cell that is in none of these rows. -/
theorem RowsOf.setCell {p : Addr} {t : TypeId} {cs : Array Value} (h : RowsOf w b n v xs Ts) (hq : Blk w p.block t cs) (h1 : 3 ≠ t) (h2 : 26 ≠ t) (u : Value) : RowsOf (w.setCell p u) b n v xs Ts :=
  ⟨ownsRow_setCell_other h.own (own_blk_ne h.own hq h2) u, h.len, fun i x L g1 g2 => by
    obtain ⟨g, c, c', rfl, ho⟩ := h.inn i x L g1 g2
    exact ⟨g, c, c', rfl, ownsRow_setCell_other ho (own_blk_ne ho hq h1) u⟩⟩
/-- Behind an append of several. -/
theorem RowsOf.appN {v2 : Value} {xs2 : List Value} {Ts2 : List (List Int)} (h : RowsOf w b n v xs Ts) (h2 : RowsOf w b n v2 xs2 Ts2) (ho : w'.ownsRow b 26 1 v' (xs.length + xs2.length) (xs ++ xs2)) (hg : w.grownBy w' v.ownBlock) : RowsOf w' b n v' (xs ++ xs2) (Ts ++ Ts2) := by
  have hin : ∀ {y : Value} {M : List Int}, Inner w b n y M → Inner w' b n y M := fun {y M} hy => by
    obtain ⟨g, c, c', rfl, hw⟩ := hy
    exact ⟨g, c, c', rfl, own_grown hw hg (own_far hw h.own (by decide))⟩
  refine ⟨by rw [List.length_append]; exact ho, by rw [List.length_append, List.length_append, h.len, h2.len], fun i y M g1 g2 => hin ?_⟩
  rw [List.getElem?_append] at g1 g2
  rw [h.len] at g1
  split at g1
  · rename_i hi
    rw [if_pos hi] at g2
    exact h.inn i y M g1 g2
  · rename_i hi
    rw [if_neg hi] at g2
    exact h2.inn _ y M g1 g2
theorem RowsOf.one (h : RowsOf w b n v xs Ts) : ∀ u ∈ xs, u.oneCell' = true := by
  intro u hu
  obtain ⟨i, hi, rfl⟩ := List.mem_iff_getElem.1 hu
  have hT : i < Ts.length := by rw [← h.len]; exact hi
  obtain ⟨g, c, c', e, _⟩ := h.inn i xs[i] Ts[i] (List.getElem?_eq_getElem hi) (List.getElem?_eq_getElem hT)
  rw [e]
  rfl
end

end Go.Proofs.Ythepfpiphlfgnaa
