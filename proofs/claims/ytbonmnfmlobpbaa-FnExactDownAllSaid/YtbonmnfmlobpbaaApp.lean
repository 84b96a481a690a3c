/-
  YtbonmnfmlobpbaaApp: append of one element to a row of the call's own; a call with a boxed region and one growing row.
-/
import Derived.Test.YtbonmnfmlobpbaaParts
namespace Go.Proofs.Ytbonmnfmlobpbaa
open Go.RowKit

theorem own_grown {w w' : World} {base : Nat} {e : TypeId} {size : Nat} {v : Value} {n : Nat} {xs : List Value} {row : Option Nat} (h : w.ownsRow base e size v n xs) (hg : w.grownBy w' row) (hne : v.ownBlock = none ∨ v.ownBlock ≠ row) : w'.ownsRow base e size v n xs := h.kept hg hne

/-- append of one element: the row's new value lies at the head of a block, the old one or a new one. -/
theorem run_app {w : World} (base : Nat) (t e : TypeId) (z : Value) (bytes : Nat) (ht : Try.prog.underlying t = some (.slice e)) (hinfo : (Try.prog.info? e).map (fun i => (i.zero, i.size, i.bytes)) = some (some z, 1, bytes)) (hzs : z.cells.size = 1) (hb64 : bytes ≤ 64)
    (ty : TypeId) (v : Value) (n : Nat) (xs : List Value) (hown : w.ownsRow base e 1 v n xs) (h : Nat) (u : Value) (hc : w.cell? ⟨h, 0, none⟩ = some u) (hu : u.oneCell' = true) (hn : n ≤ 4294967296) (hbase : base ≤ w.heap.size) :
    ∃ g c w', (Builtin.append_ #[t, t] ty #[v, .slice (some ⟨h, 0, none⟩) 1 1]).run Try.prog w = .ok (.slice (some ⟨g, 0, none⟩) (n + 1) c) w' ∧ w'.ownsRow base e 1 (.slice (some ⟨g, 0, none⟩) (n + 1) c) (n + 1) (xs ++ [u]) ∧ w.grownBy w' v.ownBlock ∧ (some g = v.ownBlock ∨ g = w.heap.size) ∧ base ≤ g ∧ n + 1 ≤ c := by
  obtain ⟨i0, hi, hz, hs, hby⟩ := info_parts hinfo
  have hr : Reads w w.heap.size 1 (some ⟨h, 0, none⟩) 1 [u] := ⟨by simp, fun _ => ⟨_, rfl, World.block_lt_of_cell? w _ hc, fun j x hj => by
    match j, hj with
    | 0, hj => simp at hj; subst hj; exact hc⟩⟩
  have hm : (n + 1) * bytes ≤ (4294967296 + 1) * 64 := Nat.mul_le_mul (by omega) hb64
  obtain ⟨v', w', h1, h2, h3, h4⟩ := run_append_any (P := Try.prog) w base t ty e i0 z 1 bytes ht hi hz hs hby hzs (by omega) v n xs hown w.heap.size (some ⟨h, 0, none⟩) 1 1 [u] hr (by intro x hx; simp at hx; subst hx; exact hu) (by simp only [maxLen]; omega) (by omega) hbase
  obtain ⟨g, c, rfl, hc', hb', _⟩ := own_shape h2 (by omega)
  refine ⟨g, c, w', h1, h2, h3, ?_, hb', hc'⟩
  rcases h4 with h4 | h4
  · exact .inl h4
  · exact .inr (by simpa [Value.ownBlock] using h4)

theorem wpList_app {w : World} {ops : Array Oper} {rest : List Oper} {o : Oper} {a : Act} {Q : Exit → Act → World → Prop} (hgd : o.guard = none) (s x : Operand) (t : TypeId)
    (ho : o.op = .call { callee := .builtin .append, args := #[s, x], argTypes := #[t, t] })
    (base : Nat) (e : TypeId) (z : Value) (bytes : Nat) (ht : Try.prog.underlying t = some (.slice e)) (hinfo : (Try.prog.info? e).map (fun i => (i.zero, i.size, i.bytes)) = some (some z, 1, bytes)) (hzs : z.cells.size = 1) (hb64 : bytes ≤ 64)
    (v : Value) (n : Nat) (xs : List Value) (hs : a.eval s = v) (hown : w.ownsRow base e 1 v n xs) (h : Nat) (u : Value) (hx : a.eval x = .slice (some ⟨h, 0, none⟩) 1 1) (hc : w.cell? ⟨h, 0, none⟩ = some u) (hu : u.oneCell' = true) (hn : n ≤ 4294967296) (hbase : base ≤ w.heap.size)
    (hK : ∀ g c w', w'.ownsRow base e 1 (.slice (some ⟨g, 0, none⟩) (n + 1) c) (n + 1) (xs ++ [u]) → w.grownBy w' v.ownBlock → (some g = v.ownBlock ∨ g = w.heap.size) → base ≤ g → n + 1 ≤ c →
      wpList Try.prog ops Q rest (a.put o.dst (.slice (some ⟨g, 0, none⟩) (n + 1) c)) w') : wpList Try.prog ops Q (o :: rest) a w := by
  refine wpList_plain hgd fun _ hK' => ?_
  obtain ⟨g, c, w', hrun, h2, h3, h4, h5, h6⟩ := run_app base t e z bytes ht hinfo hzs hb64 o.type v n xs hown h u hc hu hn hbase
  unfold Oper.wp execOp
  simp only [ho, resolve, invoke, builtin, Sem.run_bind, Sem.run_pure, Result.andThen_ok, List.map_toArray, List.map_cons, List.map_nil, hs, hx, hrun]
  exact hK' _ _ (hK g c w' h2 h3 h4 h5 h6)

end Go.Proofs.Ytbonmnfmlobpbaa
