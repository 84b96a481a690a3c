/-
  YthepfpiphlfgnaaGreatPwv: the texts Seed, PB, Lp, Pw, Vp in one file.
-/
import Derived.BigRegion
import Derived.Test.YthepfpiphlfgnaaGreatWa
import Derived.Test.YthepfpiphlfgnaaGreatPv
import Derived.Test.YthepfpiphlfgnaaGreatTi
import Derived.Test.YthepfpiphlfgnaaGreatHS
import Derived.Test.YthepfpiphlfgnaaGreatLz

/-
  YthepfpiphlfgnaaGreatSeed: what SeedNext returns, here and in the reference.
-/
namespace Go.Proofs.YthepfpiphlfgnaaGreat
open Go.RowKit




end Go.Proofs.YthepfpiphlfgnaaGreat

/-
  YthepfpiphlfgnaaGreatPB: PushesBy: pushes from a seed on, program and reference.
-/
namespace Go.Proofs.YthepfpiphlfgnaaGreat
open Go.RowKit






structure PsW (w wr : World) (W T : Int) (A : Option Addr) (n c : Nat) (v : Value) (l : List (Int × Bool)) : Prop where
  own : wr.ownsRow (w.heap.size + 1) 33 2 v l.length (pc l)
  box : Blk wr w.heap.size 25 #[.int .i64 W, .int .i64 T, .slice A n c]
  bel : Below w.heap.size w wr
theorem pc_snoc (l : List (Int × Bool)) (p : Int × Bool) : pc (l ++ [p]) = pc l ++ [.int .i64 p.1, .bool p.2] := by simp [pc]
section
variable {w wr w2 : World} {W T : Int} {A : Option Addr} {n c : Nat} {v : Value} {l : List (Int × Bool)}
theorem PsW.below (H : PsW w wr W T A n c v l) (hb : Below wr.heap.size wr w2) : PsW w w2 W T A n c v l :=
  ⟨own_below H.own hb (Nat.le_refl _), H.box.below hb H.box.lt, H.bel.trans (hb.mono H.bel.size)⟩
theorem PsW.app {o : Obj} {v' : Value} {p : Int × Bool} (H : PsW w wr W T A n c v l) (ho : w2.ownsRow (w.heap.size + 1) 33 2 v' (l.length + 1) (pc l ++ [.int .i64 p.1, .bool p.2])) (hg : (wr.alloc o).grownBy w2 v.ownBlock) : PsW w w2 W T A n c v' (l ++ [p]) := by
  refine ⟨?_, (H.box.alloc o).grown hg (fun e => by have := own_block_ge H.own e.symm; omega), (H.bel.alloc H.bel.size o).grown hg (by have := H.bel.size; simp; omega) (fun g e => by have := own_block_ge H.own e; omega)⟩
  rw [List.length_append, List.length_singleton, pc_snoc]
  exact ho
theorem PsW.cells (H : PsW w wr W T A n c v l) : wr.cell? ⟨w.heap.size, 0, none⟩ = some (.int .i64 W) ∧ wr.cell? ⟨w.heap.size, 1, none⟩ = some (.int .i64 T) ∧ wr.cell? ⟨w.heap.size, 2, none⟩ = some (.slice A n c) := by
  have r0 := H.box.cell 0
  have r1 := H.box.cell 1
  have r2 := H.box.cell 2
  simp at r0 r1 r2
  exact ⟨r0, r1, r2⟩
end




end Go.Proofs.YthepfpiphlfgnaaGreat

/-
  YthepfpiphlfgnaaGreatLp: a law's pushes.
-/
namespace Go.Proofs.YthepfpiphlfgnaaGreat
open Go.RowKit

/-- A row of pushes of a law. -/
def LP (w wr : World) (P : Option Addr) (ps : List (Int × Bool)) : Prop := ∃ c, wr.ownsRow w.heap.size 33 2 (.slice P ps.length c) ps.length (pc ps)
theorem LP.below {w wr w2 : World} {P : Option Addr} {ps : List (Int × Bool)} (h : LP w wr P ps) (hb : Below wr.heap.size wr w2) : LP w w2 P ps := by
  obtain ⟨c, h⟩ := h
  exact ⟨c, own_below h hb (Nat.le_refl _)⟩
theorem LP.rd {w wr : World} {P : Option Addr} {ps : List (Int × Bool)} (h : LP w wr P ps) : Reads wr wr.heap.size 2 P ps.length (pc ps) := by
  obtain ⟨c, h⟩ := h
  exact Reads.of_own h
theorem LP.of {w wr w2 : World} {P : Option Addr} {c : Nat} {ps : List (Int × Bool)} (hb : w.heap.size ≤ wr.heap.size) (h : w2.ownsRow wr.heap.size 33 2 (.slice P ps.length c) ps.length (pc ps)) : LP w w2 P ps := ⟨c, own_mono h hb⟩

end Go.Proofs.YthepfpiphlfgnaaGreat

/-
  YthepfpiphlfgnaaGreatPw: what FnPushesBy and FnPushesValid want: the laws' samePushes, and the values.
-/
namespace Go.Proofs.YthepfpiphlfgnaaGreat
open Go.RowKit



end Go.Proofs.YthepfpiphlfgnaaGreat

/-
  YthepfpiphlfgnaaGreatVp: what FnPushesValid wants: appends of pushes in a region that draws its order, and the values.
-/
namespace Go.Proofs.YthepfpiphlfgnaaGreat
open Go.RowKit

theorem pc_one' : ∀ (ps : List (Int × Bool)), ∀ u ∈ pc ps, u.oneCell' = true
  | [], u, h => by cases h
  | p :: ps, u, h => by
    rw [pc_cons] at h
    rcases List.mem_cons.1 h with rfl | h
    · rfl
    · rcases List.mem_cons.1 h with rfl | h
      · rfl
      · exact pc_one' ps u h
/-- append of a whole slice of pushes to an empty row. -/
theorem step_appN_ps {w : World} {ops : Array Oper} {o : Oper} {a : Act} {K : Act → World → Prop} {Q : Exit → Act → World → Prop} {F : Prop} (hwt : Region.wanted o (yielded ops a.tmps) = true) (s x : Operand) (t : TypeId)
    (ho : o.op = .call { callee := .builtin .append, args := #[s, x], argTypes := #[t, t] })
    (base : Nat) (ht : Tryz.prog.underlying t = some (.slice 33)) (g : Nat) (hs : a.eval s = .slice (some ⟨g, 0, none⟩) 0 0)
    (hown : w.ownsRow base 33 2 (.slice (some ⟨g, 0, none⟩) 0 0) 0 (pc [])) (P : Option Addr) (c B : Nat) (ps : List (Int × Bool)) (hx : a.eval x = .slice P ps.length c) (hr : Reads w B 2 P ps.length (pc ps)) (hn : ps.length ≤ 99) (hbase : base ≤ w.heap.size)
    (hK : ∀ A' c' w', w'.ownsRow base 33 2 (.slice A' ps.length c') ps.length (pc ps) → w.grownBy w' (some g) → K (a.put o.dst (.slice A' ps.length c')) w') :
    if Region.wanted o (yielded ops a.tmps) = true then Oper.wp Tryz.prog o a w K Q else F := by
  rw [if_pos hwt]
  obtain ⟨i0, hi, hz, hsz, hby⟩ := info_parts info_push
  obtain ⟨v', w', hrun, h2, h3, _⟩ := run_append_any (P := Tryz.prog) w base t o.type 33 i0 (.agg #[.int .i64 0, .bool false]) 2 16 ht hi hz hsz hby rfl (by omega) _ 0 (pc []) hown B P ps.length c (pc ps) hr (pc_one' ps) (by simp only [maxLen]; omega) (by omega) hbase
  rw [Nat.zero_add] at h2
  obtain ⟨A', c', rfl, _, _⟩ := own_form h2
  unfold Oper.wp execOp
  simp only [ho, resolve, invoke, builtin, Sem.run_bind, Sem.run_pure, Result.andThen_ok, List.map_toArray, List.map_cons, List.map_nil, hs, hx, hrun]
  exact hK A' c' w' (by simpa [pc] using h2) h3
theorem pc_app' (ps : List (Int × Bool)) (z : Int) (b : Bool) : pc (ps ++ [(z, b)]) = pc ps ++ [.int .i64 z, .bool b] := by simp [pc]
/-- append of one push. -/
theorem step_app_ps {w : World} {ops : Array Oper} {o : Oper} {a : Act} {K : Act → World → Prop} {Q : Exit → Act → World → Prop} {F : Prop} (hwt : Region.wanted o (yielded ops a.tmps) = true) (s x : Operand) (t : TypeId)
    (ho : o.op = .call { callee := .builtin .append, args := #[s, x], argTypes := #[t, t] })
    (base : Nat) (ht : Tryz.prog.underlying t = some (.slice 33)) (A : Option Addr) (c : Nat) (ps : List (Int × Bool)) (hs : a.eval s = .slice A ps.length c)
    (hown : w.ownsRow base 33 2 (.slice A ps.length c) ps.length (pc ps)) (h : Nat) (z : Int) (b : Bool) (hx : a.eval x = .slice (some ⟨h, 0, none⟩) 1 1) (hc : Blk w h 33 #[.int .i64 z, .bool b]) (hn : ps.length ≤ 99) (hbase : base ≤ w.heap.size)
    (hK : ∀ A' c' w', w'.ownsRow base 33 2 (.slice A' (ps.length + 1) c') (ps.length + 1) (pc (ps ++ [(z, b)])) → w.grownBy w' (Value.slice A ps.length c).ownBlock → K (a.put o.dst (.slice A' (ps.length + 1) c')) w') :
    if Region.wanted o (yielded ops a.tmps) = true then Oper.wp Tryz.prog o a w K Q else F := by
  rw [if_pos hwt]
  obtain ⟨g, c', w', hrun, h2, h3, _⟩ := run_app_blk base t 33 _ 2 16 ht info_push rfl (by omega) (by omega) o.type (.slice A ps.length c) ps.length (pc ps) hown h 33 #[.int .i64 z, .bool b] hc rfl (by simp [Value.oneCell']) (by omega) hbase
  unfold Oper.wp execOp
  simp only [ho, resolve, invoke, builtin, Sem.run_bind, Sem.run_pure, Result.andThen_ok, List.map_toArray, List.map_cons, List.map_nil, hs, hx, hrun]
  exact hK _ c' w' (by rw [pc_app']; exact h2) h3

end Go.Proofs.YthepfpiphlfgnaaGreat
