/-
  YtpeifojfpkkcpaaPwv: the texts Lp, Pw, Vp in one file.
-/
import Derived.BigRegion
import Derived.Test.YtpeifojfpkkcpaaPv
import Derived.Test.YtpeifojfpkkcpaaLz
import Derived.Test.YtpeifojfpkkcpaaPB

/-
  YtpeifojfpkkcpaaLp: a law's pushes.
-/
namespace Go.Proofs.Ytpeifojfpkkcpaa
open Go.RowKit

/-- A row of pushes of a law. -/
def LP (w wr : World) (P : Option Addr) (ps : List (Int × Bool)) : Prop := ∃ c, wr.ownsRow w.heap.size 40 2 (.slice P ps.length c) ps.length (pc ps)
theorem LP.below {w wr w2 : World} {P : Option Addr} {ps : List (Int × Bool)} (h : LP w wr P ps) (hb : Below wr.heap.size wr w2) : LP w w2 P ps := by
  obtain ⟨c, h⟩ := h
  exact ⟨c, own_below h hb (Nat.le_refl _)⟩
theorem LP.rd {w wr : World} {P : Option Addr} {ps : List (Int × Bool)} (h : LP w wr P ps) : Reads wr wr.heap.size 2 P ps.length (pc ps) := by
  obtain ⟨c, h⟩ := h
  exact Reads.of_own h
theorem LP.of {w wr w2 : World} {P : Option Addr} {c : Nat} {ps : List (Int × Bool)} (hb : w.heap.size ≤ wr.heap.size) (h : w2.ownsRow wr.heap.size 40 2 (.slice P ps.length c) ps.length (pc ps)) : LP w w2 P ps := ⟨c, own_mono h hb⟩
theorem pc_drop : ∀ (ps : List (Int × Bool)) (k : Nat), pc (ps.drop k) = (pc ps).drop (k * 2)
  | [], k => by simp [pc]
  | p :: ps, 0 => by simp
  | p :: ps, k + 1 => by
    rw [List.drop_succ_cons, pc_cons, pc_drop ps k, show (k + 1) * 2 = k * 2 + 1 + 1 by omega, List.drop_succ_cons, List.drop_succ_cons]
theorem Reads.cutP {w : World} {B n k cap : Nat} {A : Option Addr} {ps : List (Int × Bool)} (h : Reads w B 2 A n (pc ps)) (hk : k ≤ n) (hc : n ≤ cap) : Reads w B 2 (if cap = k then A else A.map (·.add (k * 2))) (n - k) (pc (ps.drop k)) := by
  rw [pc_drop]
  refine ⟨by rw [List.length_drop, h.1, Nat.sub_mul], fun hn => ?_⟩
  obtain ⟨ad, rfl, hb, hcell⟩ := h.2 (by omega)
  rw [if_neg (by omega)]
  have hbl : ∀ (p : Addr) (i : Nat), (p.add i).block = p.block := fun p i => by unfold Addr.add; split <;> rfl
  have hadd : ∀ (p : Addr) (i j : Nat), (p.add i).add j = p.add (i + j) := fun p i j => by
    unfold Addr.add
    by_cases hi : i = 0 <;> by_cases hj : j = 0 <;> simp [hi, hj, Nat.add_assoc]
  refine ⟨ad.add (k * 2), rfl, by rw [hbl]; exact hb, fun j u hu => ?_⟩
  rw [hadd]
  exact hcell _ u (by rw [← hu, List.getElem?_drop])

end Go.Proofs.Ytpeifojfpkkcpaa

/-
  YtpeifojfpkkcpaaPw: what FnPushesBy and FnPushesValid want: the laws' samePushes, and the values.
-/
namespace Go.Proofs.Ytpeifojfpkkcpaa
open Go.RowKit



end Go.Proofs.Ytpeifojfpkkcpaa

/-
  YtpeifojfpkkcpaaVp: what FnPushesValid wants: appends of pushes in a region that draws its order, and the values.
-/
namespace Go.Proofs.Ytpeifojfpkkcpaa
open Go.RowKit

theorem pc_one' : ∀ (ps : List (Int × Bool)), ∀ u ∈ pc ps, u.oneCell' = true
  | [], u, h => by cases h
  | p :: ps, u, h => by
    rw [pc_cons] at h
    rcases List.mem_cons.1 h with rfl | h
    · rfl
    · rcases List.mem_cons.1 h with rfl | h
      · rfl
      · exact pc_one' ps u h
/-- append of a whole slice of pushes to an empty row. -/
theorem step_appN_ps {w : World} {ops : Array Oper} {o : Oper} {a : Act} {K : Act → World → Prop} {Q : Exit → Act → World → Prop} {F : Prop} (hwt : Region.wanted o (yielded ops a.tmps) = true) (s x : Operand) (t : TypeId)
    (ho : o.op = .call { callee := .builtin .append, args := #[s, x], argTypes := #[t, t] })
    (base : Nat) (ht : Try.prog.underlying t = some (.slice 40)) (g : Nat) (hs : a.eval s = .slice (some ⟨g, 0, none⟩) 0 0)
    (hown : w.ownsRow base 40 2 (.slice (some ⟨g, 0, none⟩) 0 0) 0 (pc [])) (P : Option Addr) (c B : Nat) (ps : List (Int × Bool)) (hx : a.eval x = .slice P ps.length c) (hr : Reads w B 2 P ps.length (pc ps)) (hn : ps.length ≤ 99) (hbase : base ≤ w.heap.size)
    (hK : ∀ A' c' w', w'.ownsRow base 40 2 (.slice A' ps.length c') ps.length (pc ps) → w.grownBy w' (some g) → K (a.put o.dst (.slice A' ps.length c')) w') :
    if Region.wanted o (yielded ops a.tmps) = true then Oper.wp Try.prog o a w K Q else F := by
  rw [if_pos hwt]
  obtain ⟨i0, hi, hz, hsz, hby⟩ := info_parts info_push
  obtain ⟨v', w', hrun, h2, h3, _⟩ := run_append_any (P := Try.prog) w base t o.type 40 i0 (.agg #[.int .i64 0, .bool false]) 2 16 ht hi hz hsz hby rfl (by omega) _ 0 (pc []) hown B P ps.length c (pc ps) hr (pc_one' ps) (by simp only [maxLen]; omega) (by omega) hbase
  rw [Nat.zero_add] at h2
  obtain ⟨A', c', rfl, _, _⟩ := own_form h2
  unfold Oper.wp execOp
  simp only [ho, resolve, invoke, builtin, Sem.run_bind, Sem.run_pure, Result.andThen_ok, List.map_toArray, List.map_cons, List.map_nil, hs, hx, hrun]
  exact hK A' c' w' (by simpa [pc] using h2) h3
theorem pc_app' (ps : List (Int × Bool)) (z : Int) (b : Bool) : pc (ps ++ [(z, b)]) = pc ps ++ [.int .i64 z, .bool b] := by simp [pc]
/-- append of one push. -/
theorem step_app_ps {w : World} {ops : Array Oper} {o : Oper} {a : Act} {K : Act → World → Prop} {Q : Exit → Act → World → Prop} {F : Prop} (hwt : Region.wanted o (yielded ops a.tmps) = true) (s x : Operand) (t : TypeId)
    (ho : o.op = .call { callee := .builtin .append, args := #[s, x], argTypes := #[t, t] })
    (base : Nat) (ht : Try.prog.underlying t = some (.slice 40)) (A : Option Addr) (c : Nat) (ps : List (Int × Bool)) (hs : a.eval s = .slice A ps.length c)
    (hown : w.ownsRow base 40 2 (.slice A ps.length c) ps.length (pc ps)) (h : Nat) (z : Int) (b : Bool) (hx : a.eval x = .slice (some ⟨h, 0, none⟩) 1 1) (hc : Blk w h 40 #[.int .i64 z, .bool b]) (hn : ps.length ≤ 99) (hbase : base ≤ w.heap.size)
    (hK : ∀ A' c' w', w'.ownsRow base 40 2 (.slice A' (ps.length + 1) c') (ps.length + 1) (pc (ps ++ [(z, b)])) → w.grownBy w' (Value.slice A ps.length c).ownBlock → K (a.put o.dst (.slice A' (ps.length + 1) c')) w') :
    if Region.wanted o (yielded ops a.tmps) = true then Oper.wp Try.prog o a w K Q else F := by
  rw [if_pos hwt]
  obtain ⟨g, c', w', hrun, h2, h3, _⟩ := run_app_blk base t 40 _ 2 16 ht info_push rfl (by omega) (by omega) o.type (.slice A ps.length c) ps.length (pc ps) hown h 40 #[.int .i64 z, .bool b] hc rfl (by simp [Value.oneCell']) (by omega) hbase
  unfold Oper.wp execOp
  simp only [ho, resolve, invoke, builtin, Sem.run_bind, Sem.run_pure, Result.andThen_ok, List.map_toArray, List.map_cons, List.map_nil, hs, hx, hrun]
  exact hK _ c' w' (by rw [pc_app']; exact h2) h3
theorem law_pv_tail {W T : Int} {bs : List Bool} {ps : List (Int × Bool)} (h : pushesB W T bs ps = true) : pushesB W T bs (ps.drop 1) = true := by
  unfold pushesB at h ⊢
  rw [Bool.and_eq_true, Bool.and_eq_true, List.all_eq_true, decide_eq_true_eq] at h
  rw [h.1, Bool.true_and, Bool.and_eq_true, List.all_eq_true, decide_eq_true_eq, List.length_drop]
  exact ⟨by omega, fun p hp => h.2.2 p (List.mem_of_mem_drop hp)⟩
theorem law_pv_more {W T : Int} {bs : List Bool} {ps : List (Int × Bool)} : pushesB W T bs (ps ++ [(-1, false)]) = false := by
  unfold pushesB
  have h : (List.all (ps ++ [((-1 : Int), false)]) fun p => inB p.1 0 (cornersB W T bs - 1)) = false := by
    rw [List.all_append]
    simp [inB]
  rw [h, Bool.and_false, Bool.and_false]
theorem law_pv_nil {W T : Int} {bs : List Bool} : pushesB W T bs [] = simpleB W T bs := by
  unfold pushesB
  simp

end Go.Proofs.Ytpeifojfpkkcpaa
