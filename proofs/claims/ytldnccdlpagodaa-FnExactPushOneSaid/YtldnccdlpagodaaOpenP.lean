/-
  YtldnccdlpagodaaOpenP: an argument that is a list of pushes, or one push, opened. The first block is copied from the guide's page of structs.
-/
import Derived.Test.YtldnccdlpagodaaOpen
import Derived.Test.YtldnccdlpagodaaPush
namespace Go.Proofs.Ytldnccdlpagodaa
open Go.RowKit Go.WideShapes Go.ChangeShapes Go.Deep Go.Joins

section
variable {H : Type} {enc : TypeId × Value → H} {P : Program} {w : World} {base : Nat} {spare : Nat → Bool} {held : Bool}
theorem open_slice_fields {t e : TypeId} {fs : Array Field} {fuel : Nat} {cs : List Value} {x : DataW H × List MemPlace} (ht : P.underlying t = some (.slice e)) (he : P.underlying e = some (.struct fs))
    (hone : oneCellFields P fs = true) (hC : P.cellsOf e = fs.size) (h : DataW.trod enc P w base spare held fuel t cs = some x) :
    (cs = [.slice none 0 0] ∧ x = (.nil, [])) ∨
    ∃ (a : Addr) (len cap m : Nat) (D : Nat → DataW H) (Pl : Nat → List MemPlace), cs = [.slice (some a) len cap] ∧ base ≤ a.block ∧ len ≤ cap ∧ cap ≤ maxLen ∧ m = (if spare a.block then cap else len) ∧
      x = (.slice ((List.range len).map D) ((List.range (m - len)).map fun j => D (len + j)), MemPlace.row a (m * fs.size) ++ (List.range m).flatMap Pl) ∧
      ∀ i, i < m → ∃ (ys : List (DataW H × List MemPlace)) (n : Nat), D i = .agg (ys.map (·.1)) ∧ Pl i = ys.flatMap (·.2) ∧ ys.length = fs.size ∧
        ∀ (j : Nat) (f : Field), fs[j]? = some f → ∃ (v : Value) (y : DataW H × List MemPlace), w.cell? (a.add (i * fs.size + j)) = some v ∧ ys[j]? = some y ∧ DataW.trod enc P w base spare held n f.type [v] = some y := by
  rcases open_slice ht h with h0 | ⟨a, len, cap, m, n, D, Pl, hcs, hb, hl, hm, hmm, hx, hi⟩
  · exact .inl h0
  · refine .inr ⟨a, len, cap, m, D, Pl, hcs, hb, hl, hm, hmm, by rw [hC] at hx; exact hx, fun i him => ?_⟩
    obtain ⟨cs', hc, ht'⟩ := hi i him
    rw [hC] at hc
    obtain ⟨ys, n', hn', hy, hlen, hyl, hf⟩ := DataW.trod_struct he ht'
    obtain ⟨_, hcl, hat⟩ := World.cells?_some hc
    simp only [Prod.mk.injEq] at hy
    refine ⟨ys, n', hy.1, hy.2, hyl, fun j f hj => ?_⟩
    obtain ⟨ho, hk⟩ := hone_of hone j f hj
    have hjl : j < fs.size := (Array.getElem?_eq_some_iff.1 hj).1
    have hcell := hat j hjl
    have hv : cs'[j]? = some (cs'[j]'(by omega)) := List.getElem?_eq_getElem (by omega)
    have h1 := hf j f hj
    rw [ho, hk] at h1
    have hone' : (cs'.drop j).take 1 = [cs'[j]'(by omega)] := by
      rw [List.drop_eq_getElem_cons (by omega)]
      rfl
    rw [hone'] at h1
    have hys : ys[j]? = some (ys[j]'(by omega)) := List.getElem?_eq_getElem (by omega)
    refine ⟨_, _, ?_, hys, h1.trans hys⟩
    rw [← Go.Deep.add_add, hcell, hv]
end

section
variable {H : Type} {enc : TypeId × Value → H} {P : Program} {w : World} {sp : Nat → Bool} {held : Bool}
def intOfV : Value → Int | .int _ z => z | _ => 0

theorem pc_range (f : Nat → Int × Bool) (n : Nat) (i : Nat) (p : Int × Bool) (hi : i < n) (hf : f i = p) : (pc ((List.range n).map f))[i * 2]? = some (.int .i64 p.1) ∧ (pc ((List.range n).map f))[i * 2 + 1]? = some (.bool p.2) :=
  pc_at (by simp [hi, hf])

/-- A list of pushes. -/
theorem open_pushes {r : Reach} {b0 : Nat} {t e : TypeId} {f0 f1 : Field} {v : Value} {d : DataW H} {p : List MemPlace} (ht : P.underlying t = some (.slice e)) (he : P.underlying e = some (.struct #[f0, f1]))
    (hone : oneCellFields P #[f0, f1] = true) (hC : P.cellsOf e = 2) (e0 : P.underlying f0.type = some (.int .i64)) (e1 : P.underlying f1.type = some .bool)
    (hv : Value.okWide P w r b0 t v) (h : DataW.Trod enc P w 0 sp held t v d p) :
    ∃ (A : Option Addr) (n c : Nat) (zs : List (Int × Bool)), v = .slice A n c ∧ n ≤ c ∧ n ≤ maxLen ∧ zs.length = n ∧ Reads w w.heap.size 2 A n (pc zs) ∧ ∀ z ∈ zs, (Lit.int .i64 z.1).wf = true := by
  obtain ⟨a0, len, cap, rfl⟩ := okWide_slice ht hv
  obtain ⟨fuel, hf⟩ := h
  rcases open_slice_fields ht he hone (by rw [hC]; rfl) hf with ⟨hcs, hx⟩ | ⟨a, len', cap', m, D, Pl, hcs, _, hl, hm, hmm, hx, hel⟩
  · simp only [Value.cells] at hcs
    have : (Value.slice a0 len cap) = .slice none 0 0 := by simpa using hcs
    injection this with h1 h2 h3
    subst h1 h2 h3
    exact ⟨none, 0, 0, [], rfl, Nat.le_refl _, by simp [maxLen], rfl, Reads.none_, by simp⟩
  · have : (Value.slice a0 len cap) = .slice (some a) len' cap' := by simpa [Value.cells] using hcs
    injection this with h1 h2 h3
    subst h1 h2 h3
    have hle : len ≤ m := by split at hmm <;> omega
    have hpt : ∀ i : Nat, ∃ q : Int × Bool, i < len → w.cell? (a.add (i * 2)) = some (.int .i64 q.1) ∧ w.cell? (a.add (i * 2 + 1)) = some (.bool q.2) ∧ (Lit.int .i64 q.1).wf = true := by
      intro i
      by_cases hi : i < len
      · obtain ⟨ys, nn, _, _, _, hfd⟩ := hel i (by omega)
        obtain ⟨v0, y0, c0, _, t0⟩ := hfd 0 f0 rfl
        obtain ⟨v1, y1, c1, _, t1⟩ := hfd 1 f1 rfl
        obtain ⟨z, q0, _, w0⟩ := DataW.trod_int e0 t0
        obtain ⟨b, q1, _⟩ := DataW.trod_bool e1 t1
        have q0' : v0 = .int .i64 z := by simpa using q0
        have q1' : v1 = .bool b := by simpa using q1
        subst q0' q1'
        exact ⟨(z, b), fun _ => ⟨c0, c1, w0⟩⟩
      · exact ⟨(0, false), fun h => absurd h hi⟩
    obtain ⟨F, hF⟩ := Classical.axiomOfChoice hpt
    clear hpt
    refine ⟨some a, len, cap, (List.range len).map F, rfl, hl, by omega, by simp, ⟨by rw [pc_len]; simp, fun hn => ?_⟩, ?_⟩
    · refine ⟨a, rfl, ?_, fun j u hu => ?_⟩
      · have h0 := World.block_lt_of_cell? w _ (hF 0 hn).1
        rwa [block_of_add] at h0
      · have hj : j < len * 2 := by
          have := (List.getElem?_eq_some_iff.1 hu).1
          rw [pc_len] at this
          simpa using this
        have hi : j / 2 < len := by omega
        obtain ⟨h1, h2, _⟩ := hF (j / 2) hi
        obtain ⟨g1, g2⟩ := pc_range F len (j / 2) _ hi rfl
        rcases Nat.mod_two_eq_zero_or_one j with hm2 | hm2
        · rw [show j / 2 * 2 = j by omega] at h1 g1
          rw [g1] at hu
          rw [h1, hu]
        · rw [show j / 2 * 2 + 1 = j by omega] at h2 g2
          rw [g2] at hu
          rw [h2, hu]
    · intro z hz
      obtain ⟨i, hi, rfl⟩ := List.mem_map.1 hz
      exact (hF i (List.mem_range.1 hi)).2.2
/-- A push by value. -/
theorem open_push {r : Reach} {b0 : Nat} {t : TypeId} {f0 f1 : Field} {v : Value} {d : DataW H} {p : List MemPlace} (hs : P.underlying t = some (.struct #[f0, f1])) (hone : oneCellFields P #[f0, f1] = true) (hC : P.cellsOf t = 2)
    (e0 : P.underlying f0.type = some (.int .i64)) (e1 : P.underlying f1.type = some .bool) (hv : Value.okWide P w r b0 t v) (h : DataW.Trod enc P w 0 sp held t v d p) :
    ∃ (a : Int) (u : Bool), v = .agg #[.int .i64 a, .bool u] ∧ (Lit.int .i64 a).wf = true := by
  obtain ⟨v0, v1, y0, y1, m, rfl, _, _, h0, h1⟩ := open_agg2 hs hone hC hv h
  obtain ⟨a, q0, _, w0⟩ := DataW.trod_int e0 h0
  obtain ⟨u, q1, _⟩ := DataW.trod_bool e1 h1
  have q0' : v0 = .int .i64 a := by simpa using q0
  have q1' : v1 = .bool u := by simpa using q1
  subst q0' q1'
  exact ⟨a, u, rfl, w0⟩
end

end Go.Proofs.Ytldnccdlpagodaa
