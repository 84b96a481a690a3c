/-
  YthepfpiphlfgnaaWa: the texts Base, W1, Box, Reg, Parts, App in one file.
-/
import Derived.WalkKit
import Derived.WalkSpells
import Derived.WalkLawsBesides
import Derived.Below
import Derived.Laws.OwnMore
import Derived.Deep.AppendLies
import Derived.Deep.Draws
import Derived.Deep.OwnRows
import Derived.Deep.LoopGhost
import Derived.Deep.DeepFit
import Derived.Deep.DeepMust
import Derived.Deep.DeepCutAuto
import Derived.Outline
import Derived.Laws.MakeOwn
import Derived.Laws.Entries
import Derived.Laws.Rows
import Derived.Maps.AppendAt
import Derived.RegionTactic
import Derived.OwnWalk
import Derived.Lib.Hide
import Derived.Deep.QuietTactic
import Derived.BigQuiet
import Derived.Test.YthepfpiphlfgnaaMa
import Derived.Test.YthepfpiphlfgnaaRows

/-
  YthepfpiphlfgnaaBase: small words for memory (slices that read as lists, blocks known whole, appends), copied from the guide's pages of lemmas to copy, and a few more.
-/
namespace Go.Proofs.Ythepfpiphlfgnaa
open Go.RowKit
theorem block_of_add (a : Addr) (n : Nat) : (a.add n).block = a.block := by unfold Addr.add; split <;> rfl
theorem add_of_add (a : Addr) (i j : Nat) : (a.add i).add j = a.add (i + j) := by
  unfold Addr.add
  by_cases hi : i = 0 <;> by_cases hj : j = 0 <;> simp [hi, hj, Nat.add_assoc]

def Reads (w : World) (B size : Nat) (A : Option Addr) (n : Nat) (xs : List Value) : Prop :=
  xs.length = n * size ∧ (0 < n → ∃ ad, A = some ad ∧ ad.block < B ∧ ∀ j u, xs[j]? = some u → w.cell? (ad.add j) = some u)

section
variable {w w' : World} {B B' size n : Nat} {A : Option Addr} {xs : List Value}
theorem Reads.none_ : Reads w B size A 0 [] := ⟨by simp, fun h => absurd h (by omega)⟩
theorem Reads.at_ {k : Nat} (h : Reads w B 1 A n xs) (hk : k < n) : ∃ ad u, A = some ad ∧ ad.block < B ∧ xs[k]? = some u ∧ w.cell? (ad.add k) = some u := by
  obtain ⟨ad, e, hb, hc⟩ := h.2 (by omega)
  have hl : k < xs.length := by have := h.1; omega
  exact ⟨ad, xs[k], e, hb, List.getElem?_eq_getElem hl, hc k _ (List.getElem?_eq_getElem hl)⟩
theorem Reads.keep (h : Reads w B size A n xs) (hk : ∀ p : Addr, p.block < B → w'.cell? p = w.cell? p) : Reads w' B size A n xs :=
  ⟨h.1, fun hn => by
    obtain ⟨ad, e, hb, hc⟩ := h.2 hn
    exact ⟨ad, e, hb, fun j u hu => (hk _ (by rw [block_of_add]; exact hb)).trans (hc j u hu)⟩⟩
theorem Reads.more (h : Reads w B size A n xs) (hB : B ≤ B') : Reads w B' size A n xs :=
  ⟨h.1, fun hn => by
    obtain ⟨ad, e, hb, hc⟩ := h.2 hn
    exact ⟨ad, e, by omega, hc⟩⟩
theorem Reads.below (h : Reads w B size A n xs) (hb : Below B w w') : Reads w' B size A n xs := h.keep fun _ hp => hb.cell hp
theorem Reads.drew (h : Reads w B size A n xs) : Reads w.drew B size A n xs := h
theorem Reads.drewN (h : Reads w B size A n xs) (k : Nat) : Reads (w.drewN k) B size A n xs := h
theorem Reads.alloc (h : Reads w B size A n xs) (hB : B ≤ w.heap.size) (o : Obj) : Reads (w.alloc o) B size A n xs := h.keep fun p hp => World.cell?_alloc_lt w o p (by omega)
theorem Reads.setCell (h : Reads w B size A n xs) {p : Addr} (hB : B ≤ p.block) (u : Value) : Reads (w.setCell p u) B size A n xs :=
  h.keep fun q hq => World.cell?_setCell_other w p q u (fun e => by subst e; omega)
theorem Reads.grown (h : Reads w B size A n xs) {row : Option Nat} (hg : w.grownBy w' row) (hB : B ≤ w.heap.size) (hr : ∀ g, row = some g → B ≤ g) : Reads w' B size A n xs :=
  h.keep fun p hp => World.cell?_of_block (hg.block p.block (by omega) (fun e => by have := hr _ e.symm; omega))
theorem Reads.cut (h : Reads w B size A n xs) {k cap : Nat} (hk : k ≤ n) (hc : n ≤ cap) :
    Reads w B size (if cap = k then A else A.map (·.add (k * size))) (n - k) (xs.drop (k * size)) := by
  refine ⟨by rw [List.length_drop, h.1, Nat.sub_mul], fun hn => ?_⟩
  obtain ⟨ad, rfl, hb, hcell⟩ := h.2 (by omega)
  rw [if_neg (by omega)]
  refine ⟨ad.add (k * size), rfl, by rw [block_of_add]; exact hb, fun j u hu => ?_⟩
  rw [add_of_add]
  exact hcell _ u (by rw [← hu, List.getElem?_drop])
theorem Reads.of_own {base : Nat} {e : TypeId} {c : Nat} (h : w.ownsRow base e size (.slice A n c) n xs) : Reads w w.heap.size size A n xs := by
  refine ⟨h.1, fun hn => ?_⟩
  obtain ⟨g, cap, hv, _, hlt⟩ := h.form hn
  have hA : A = some ⟨g, 0, none⟩ := by injection hv
  subst hA
  exact ⟨_, rfl, hlt, h.cells (g := g) rfl⟩
end

def Blk (w : World) (g : Nat) (t : TypeId) (cs : Array Value) : Prop := w.heap[g]? = some (.cells cs t (0, 0))

section
variable {w w' : World} {g : Nat} {t : TypeId} {cs : Array Value}
theorem Blk.lt (h : Blk w g t cs) : g < w.heap.size := by
  rcases Nat.lt_or_ge g w.heap.size with hlt | hge
  · exact hlt
  · unfold Blk at h; rw [Array.getElem?_eq_none hge] at h; cases h
theorem Blk.cell (h : Blk w g t cs) (i : Nat) : w.cell? ⟨g, i, none⟩ = cs[i]? := cell_of_row w g i cs t (0, 0) h
theorem Blk.frozen (h : Blk w g t cs) (i : Nat) : w.frozen? ⟨g, i, none⟩ = false := by
  unfold Blk at h
  simp [World.frozen?, h]
theorem Blk.new (w : World) (t : TypeId) (cs : Array Value) : Blk (w.alloc (.cells cs t)) w.heap.size t cs := heap_alloc_new w _
theorem Blk.drew (h : Blk w g t cs) : Blk w.drew g t cs := h
theorem Blk.drewN (h : Blk w g t cs) (n : Nat) : Blk (w.drewN n) g t cs := h
theorem Blk.alloc (h : Blk w g t cs) (o : Obj) : Blk (w.alloc o) g t cs := (Below.heap_alloc w o g h.lt).trans h
theorem Blk.set_ (h : Blk w g t cs) (i : Nat) (u : Value) : Blk (w.setCell ⟨g, i, none⟩ u) g t (cs.setIfInBounds i u) := by
  unfold Blk at h ⊢
  simp [World.setCell, Array.getElem?_modify, h]
theorem Blk.far (h : Blk w g t cs) {p : Addr} (hp : g ≠ p.block) (u : Value) : Blk (w.setCell p u) g t cs := (Below.heap_setCell w p u g hp).trans h
theorem Blk.below {B : Nat} (h : Blk w g t cs) (hb : Below B w w') (hg : g < B) : Blk w' g t cs := (hb.block g hg).trans h
theorem Blk.grown {row : Option Nat} (h : Blk w g t cs) (hb : w.grownBy w' row) (hg : some g ≠ row) : Blk w' g t cs := (hb.block g h.lt hg).trans h
theorem Blk.ne_ {g' : Nat} {t' : TypeId} {cs' : Array Value} (h : Blk w g t cs) (h' : Blk w g' t' cs') (hne : t ≠ t') : g ≠ g' := by
  rintro rfl
  unfold Blk at h h'
  rw [h] at h'
  injection h' with h'
  injection h' with _ ht
  exact hne ht
theorem own_blk_ne {base : Nat} {e : TypeId} {size n : Nat} {v : Value} {xs : List Value} (h : w.ownsRow base e size v n xs) (hg : Blk w g t cs) (hne : e ≠ t) : v.ownBlock ≠ some g := by
  rcases h.2 with ⟨rfl, _⟩ | ⟨g', cap, cur, rfl, _, hh, _⟩
  · simp [Value.ownBlock]
  · intro he
    have : g' = g := by simpa [Value.ownBlock] using he
    subst this
    exact Blk.ne_ (t := e) hh hg hne rfl
end

section
variable {P : Program} (w : World)

theorem run_append_of_nil (base : Nat) (t ty e : TypeId) (i : TypeInfo) (size : Nat) (ht : P.underlying t = some (.slice e)) (hi : P.info? e = some i)
    (v : Value) (n : Nat) (xs : List Value) (hown : w.ownsRow base e size v n xs) (c : Nat) : (Builtin.append_ #[t, t] ty #[v, .slice none 0 c]).run P w = .ok v w := by
  rcases hown.2 with ⟨rfl, rfl⟩ | ⟨g, cap, cur, rfl, _, _, hnc, _⟩
  · simp [Builtin.append_, run_underlying ht, sizeOf, typeInfo, hi, Builtin.lenOf, Builtin.firstCells]
  · simp [Builtin.append_, run_underlying ht, sizeOf, typeInfo, hi, Builtin.lenOf, Builtin.firstCells, hnc, storeCells]

theorem run_append_any (base : Nat) (t ty e : TypeId) (i : TypeInfo) (z : Value) (size bytes : Nat) (ht : P.underlying t = some (.slice e)) (hi : P.info? e = some i) (hz : i.zero = some z)
    (hsize : i.size = size) (hby : i.bytes = bytes) (hzs : z.cells.size = size) (hsz : 0 < size)
    (v : Value) (n : Nat) (xs : List Value) (hown : w.ownsRow base e size v n xs)
    (B : Nat) (A : Option Addr) (m c : Nat) (news : List Value) (hr : Reads w B size A m news) (h1 : ∀ u ∈ news, u.oneCell' = true)
    (h63 : n + m ≤ maxLen) (hbytes : (n + m) * bytes ≤ 140737488355328) (hbase : base ≤ w.heap.size) :
    ∃ v' w', (Builtin.append_ #[t, t] ty #[v, .slice A m c]).run P w = .ok v' w' ∧ w'.ownsRow base e size v' (n + m) (xs ++ news) ∧ w.grownBy w' v.ownBlock ∧
      (v'.ownBlock = v.ownBlock ∨ v'.ownBlock = some w.heap.size) := by
  rcases A with _ | ad
  · have hm : m = 0 := by
      rcases Nat.eq_zero_or_pos m with h0 | h0
      · exact h0
      · obtain ⟨ad, h, _⟩ := hr.2 h0
        cases h
    subst hm
    have hn : news = [] := List.eq_nil_of_length_eq_zero (by simpa using hr.1)
    subst hn
    exact ⟨v, w, run_append_of_nil w base t ty e i size ht hi v n xs hown c, by simpa using hown, World.grownBy.refl w _, .inl rfl⟩
  · have hcells : ∀ j u, news[j]? = some u → w.cell? (ad.add j) = some u := by
      intro j u hu
      rcases Nat.eq_zero_or_pos m with h0 | h0
      · subst h0
        have hn : news = [] := List.eq_nil_of_length_eq_zero (by simpa using hr.1)
        subst hn
        simp at hu
      · obtain ⟨ad', h, _, hc⟩ := hr.2 h0
        injection h with h
        subst h
        exact hc j u hu
    obtain ⟨v', w', hrun, h2, h3, _, h5⟩ := run_append_own_at (P := P) w base t ty e i z size bytes ht hi hz hsize hby hzs hsz v n xs hown ad m c news hr.1 hcells h1 h63 hbytes hbase
    exact ⟨v', w', hrun, h2, h3, h5⟩

theorem wp_append_any {o : Oper} {a : Act} {K : Act → World → Prop} {Q : Exit → Act → World → Prop} (s x : Operand) (t : TypeId)
    (ho : o.op = .call { callee := .builtin .append, args := #[s, x], argTypes := #[t, t] })
    (base : Nat) (e : TypeId) (i : TypeInfo) (z : Value) (size bytes : Nat) (ht : P.underlying t = some (.slice e)) (hi : P.info? e = some i) (hz : i.zero = some z)
    (hsize : i.size = size) (hby : i.bytes = bytes) (hzs : z.cells.size = size) (hsz : 0 < size)
    (v : Value) (n : Nat) (xs : List Value) (hs : a.eval s = v) (hown : w.ownsRow base e size v n xs)
    (B : Nat) (A : Option Addr) (m c : Nat) (news : List Value) (hx : a.eval x = .slice A m c) (hr : Reads w B size A m news) (h1 : ∀ u ∈ news, u.oneCell' = true)
    (h63 : n + m ≤ maxLen) (hbytes : (n + m) * bytes ≤ 140737488355328) (hbase : base ≤ w.heap.size)
    (h : ∀ v' w', w'.ownsRow base e size v' (n + m) (xs ++ news) → w.grownBy w' v.ownBlock → (v'.ownBlock = v.ownBlock ∨ v'.ownBlock = some w.heap.size) → K (a.put o.dst v') w') : o.wp P a w K Q := by
  obtain ⟨v', w', hrun, h2, h3, h4⟩ := run_append_any (P := P) w base t o.type e i z size bytes ht hi hz hsize hby hzs hsz v n xs hown B A m c news hr h1 h63 hbytes hbase
  unfold Oper.wp execOp
  simp only [ho, resolve, invoke, builtin, Sem.run_bind, Sem.run_pure, Result.andThen_ok, List.map_toArray, List.map_cons, List.map_nil, hs, hx, hrun]
  exact h v' w' h2 h3 h4

theorem wpList_append_any {ops : Array Oper} {rest : List Oper} {o : Oper} {a : Act} {Q : Exit → Act → World → Prop} (hgd : o.guard = none) (s x : Operand) (t : TypeId)
    (ho : o.op = .call { callee := .builtin .append, args := #[s, x], argTypes := #[t, t] })
    (base : Nat) (e : TypeId) (i : TypeInfo) (z : Value) (size bytes : Nat) (ht : P.underlying t = some (.slice e)) (hi : P.info? e = some i) (hz : i.zero = some z)
    (hsize : i.size = size) (hby : i.bytes = bytes) (hzs : z.cells.size = size) (hsz : 0 < size)
    (v : Value) (n : Nat) (xs : List Value) (hs : a.eval s = v) (hown : w.ownsRow base e size v n xs)
    (B : Nat) (A : Option Addr) (m c : Nat) (news : List Value) (hx : a.eval x = .slice A m c) (hr : Reads w B size A m news) (h1 : ∀ u ∈ news, u.oneCell' = true)
    (h63 : n + m ≤ maxLen) (hbytes : (n + m) * bytes ≤ 140737488355328) (hbase : base ≤ w.heap.size)
    (h : ∀ v' w', w'.ownsRow base e size v' (n + m) (xs ++ news) → w.grownBy w' v.ownBlock → (v'.ownBlock = v.ownBlock ∨ v'.ownBlock = some w.heap.size) → wpList P ops Q rest (a.put o.dst v') w') : wpList P ops Q (o :: rest) a w :=
  wpList_plain hgd fun _ hK => wp_append_any w s x t ho base e i z size bytes ht hi hz hsize hby hzs hsz v n xs hs hown B A m c news hx hr h1 h63 hbytes hbase fun v' w' h2 h3 h4 => hK _ _ (h v' w' h2 h3 h4)

theorem step_append_any {ops : Array Oper} {o : Oper} {a : Act} {K : Act → World → Prop} {Q : Exit → Act → World → Prop} {E : Prop} (hgd : o.guard = none) (s x : Operand) (t : TypeId)
    (ho : o.op = .call { callee := .builtin .append, args := #[s, x], argTypes := #[t, t] })
    (base : Nat) (e : TypeId) (i : TypeInfo) (z : Value) (size bytes : Nat) (ht : P.underlying t = some (.slice e)) (hi : P.info? e = some i) (hz : i.zero = some z)
    (hsize : i.size = size) (hby : i.bytes = bytes) (hzs : z.cells.size = size) (hsz : 0 < size)
    (v : Value) (n : Nat) (xs : List Value) (hs : a.eval s = v) (hown : w.ownsRow base e size v n xs)
    (B : Nat) (A : Option Addr) (m c : Nat) (news : List Value) (hx : a.eval x = .slice A m c) (hr : Reads w B size A m news) (h1 : ∀ u ∈ news, u.oneCell' = true)
    (h63 : n + m ≤ maxLen) (hbytes : (n + m) * bytes ≤ 140737488355328) (hbase : base ≤ w.heap.size)
    (h : ∀ v' w', w'.ownsRow base e size v' (n + m) (xs ++ news) → w.grownBy w' v.ownBlock → (v'.ownBlock = v.ownBlock ∨ v'.ownBlock = some w.heap.size) → K (a.put o.dst v') w') :
    if Region.wanted o (yielded ops a.tmps) = true then Oper.wp P o a w K Q else E := by
  have hw : Region.wanted o (yielded ops a.tmps) = true := by simp [Region.wanted, hgd]
  rw [if_pos hw]
  exact wp_append_any w s x t ho base e i z size bytes ht hi hz hsize hby hzs hsz v n xs hs hown B A m c news hx hr h1 h63 hbytes hbase h
end

theorem hide {p : Prop} (h : p) : Hid p := h
theorem unhide {p : Prop} (h : Hid p) : p := h

theorem quiet_add {P : Program} {f : FuncId} {args : Array Value} {w : World} {a n : Nat} {v : Value}
    (h : Calls P f args (w.drewN (a + n)) fun e w' => e = .returned v ∧ ∃ m, w' = (w.drewN (a + n)).drewN m) :
    Calls P f args (w.drewN (a + n)) fun e w'' => e = .returned v ∧ ∃ m, w'' = w.drewN (a + m) :=
  h.mono fun _ _ ⟨he, m, hm⟩ => ⟨he, n + m, by rw [hm, World.drewN_drewN, Nat.add_assoc]⟩
theorem quiet_add_same {P : Program} {f : FuncId} {args : Array Value} {w : World} {a n : Nat} {v : Value}
    (h : Calls P f args (w.drewN (a + n)) fun e w' => e = .returned v ∧ w' = w.drewN (a + n)) :
    Calls P f args (w.drewN (a + n)) fun e w'' => e = .returned v ∧ ∃ m, w'' = w.drewN (a + m) :=
  h.mono fun _ _ ⟨he, hm⟩ => ⟨he, n, hm⟩
theorem quiet_add_left {P : Program} {f : FuncId} {args : Array Value} {w : World} {a n : Nat} {v : Value}
    (h : Calls P f args (w.drewN (a + n)) fun e w' => e = .returned v ∧ w.drewN (a + n) = w') :
    Calls P f args (w.drewN (a + n)) fun e w'' => e = .returned v ∧ ∃ m, w'' = w.drewN (a + m) :=
  h.mono fun _ _ ⟨he, hm⟩ => ⟨he, n, hm.symm⟩
theorem quiet_left {P : Program} {f : FuncId} {args : Array Value} {w : World} {n : Nat} {v : Value}
    (h : Calls P f args (w.drewN n) fun e w' => e = .returned v ∧ w.drewN n = w') : Calls P f args (w.drewN n) fun e w'' => e = .returned v ∧ ∃ m, w'' = w.drewN m :=
  h.mono fun _ _ ⟨he, hm⟩ => ⟨he, n, hm.symm⟩

theorem results_tmp4 {fn : Func} {t u v x : Tmp} (h : fn.results = #[.tmp t, .tmp u, .tmp v, .tmp x]) (tmps : Array Value) (P : Program) (w : World) :
    (results fn tmps).run P w = .ok (.tuple #[tmps.getD t undef, tmps.getD u undef, tmps.getD v undef, tmps.getD x undef]) w := by simp [results, h]
theorem results_tmp5 {fn : Func} {t u v x y : Tmp} (h : fn.results = #[.tmp t, .tmp u, .tmp v, .tmp x, .tmp y]) (tmps : Array Value) (P : Program) (w : World) :
    (results fn tmps).run P w = .ok (.tuple #[tmps.getD t undef, tmps.getD u undef, tmps.getD v undef, tmps.getD x undef, tmps.getD y undef]) w := by simp [results, h]

theorem below_drewN {B : Nat} {a w : World} (h : Below B a w) (n : Nat) : Below B a (w.drewN n) := ⟨h.os, h.tape, h.output, h.size, h.block⟩
theorem rowIs_drewN {w : World} {b : Nat} {t : TypeId} {n : Nat} {f : Nat → Value} (h : w.rowIs b t n f) (k : Nat) : (w.drewN k).rowIs b t n f := h
theorem grown_trans {a b c : World} (h : Grown a b) (k : Grown b c) : Grown a c :=
  ⟨World.keptBut_trans h.1 k.1, fun x => (k.2.1 x).trans (h.2.1 x), Nat.le_trans h.2.2 k.2.2⟩

theorem only_drewN {a w : World} {row : Option Nat} (h : a.grownBy w row) (n : Nat) : a.grownBy (w.drewN n) row := ⟨h.os, h.tape, h.output, h.size, h.block⟩
theorem only_drew {a w : World} {row : Option Nat} (h : a.grownBy w row) : a.grownBy w.drew row := ⟨h.os, h.tape, h.output, h.size, h.block⟩
theorem only_alloc {a w : World} {row : Option Nat} (h : a.grownBy w row) (o : Obj) : a.grownBy (w.alloc o) row :=
  ⟨h.os, h.tape, h.output, Nat.le_trans h.size (by simp), fun i hi hne => (Below.heap_alloc w o i (Nat.lt_of_lt_of_le hi h.size)).trans (h.block i hi hne)⟩
theorem only_setCell {a w : World} {g : Nat} (h : a.grownBy w (some g)) {p : Addr} (hp : p.block = g ∨ a.heap.size ≤ p.block) (u : Value) : a.grownBy (w.setCell p u) (some g) :=
  ⟨h.os, h.tape, h.output, by simpa [World.setCell] using h.size, fun i hi hne => (Below.heap_setCell w p u i (by
    rintro rfl
    rcases hp with hp | hp
    · exact hne (by rw [hp])
    · omega)).trans (h.block i hi hne)⟩
theorem only_of_below {a w : World} (h : Below a.heap.size a w) (row : Option Nat) : a.grownBy w row := ⟨h.os, h.tape, h.output, h.size, fun i hi _ => h.block i hi⟩

theorem run_make_rowN {P : Program} (t e : TypeId) (i : TypeInfo) (z : Value) (ht : P.underlying t = some (.slice e)) (hi : P.info? e = some i) (hz : i.zero = some z)
    (kl kc : IntKind) (n c : Nat) (hnc : n ≤ c) (hbytes : i.bytes * c ≤ 281474976710656) (h63 : c ≤ 9223372036854775807) (w : World) :
    (Instr.makeSlice t (.int kl (n : Int)) (.int kc (c : Int))).run P w = .ok (.slice (some ⟨w.heap.size, 0, none⟩) n c) (w.alloc (.cells (madeCells z.cells (c * i.size)) e)) := by
  have hb : (i.bytes : Int) * (c : Int) ≤ 281474976710656 := by
    have h : ((i.bytes * c : Nat) : Int) ≤ 281474976710656 := by omega
    rwa [Int.natCast_mul] at h
  have hr := run_make (P := P) w t e i z ht hi hz kl kc n c (by omega) (by omega) hb (by omega)
  simp only [Int.toNat_natCast] at hr
  exact hr
theorem run_makeMap_hint {P : Program} (t k e : TypeId) (kd : IntKind) (n : Int) (ht : P.underlying t = some (.map k e)) (w : World) :
    (Instr.makeMap t (some (.int kd n))).run P w = .ok (.map (some w.heap.size)) (w.alloc (.map #[] 0)) := by
  simp [Instr.makeMap, run_underlying ht]; rfl

/-! ### What is owned stays owned behind a call -/
theorem own_below {w w' : World} {base B : Nat} {e : TypeId} {size : Nat} {v : Value} {n : Nat} {xs : List Value} (h : w.ownsRow base e size v n xs) (hb : Below B w w') (hB : w.heap.size ≤ B) : w'.ownsRow base e size v n xs := by
  refine ⟨h.1, ?_⟩
  rcases h.2 with hn | ⟨g, cap, cur, rfl, hbb, hgg, rest⟩
  · exact .inl hn
  · refine .inr ⟨g, cap, cur, rfl, hbb, ?_, rest⟩
    have hlt := (Array.getElem?_eq_some_iff.1 hgg).1
    exact (hb.block g (by omega)).trans hgg
theorem own_mono {w : World} {base base' : Nat} {e : TypeId} {size : Nat} {v : Value} {n : Nat} {xs : List Value} (h : w.ownsRow base e size v n xs) (hb : base' ≤ base) : w.ownsRow base' e size v n xs := by
  refine ⟨h.1, ?_⟩
  rcases h.2 with hn | ⟨g, cap, cur, rfl, hbb, hgg, rest⟩
  · exact .inl hn
  · exact .inr ⟨g, cap, cur, rfl, by omega, hgg, rest⟩
/-- An owned row's value, in the form in which it is read. -/
theorem own_form {w : World} {base : Nat} {e : TypeId} {size : Nat} {v : Value} {n : Nat} {xs : List Value} (h : w.ownsRow base e size v n xs) :
    ∃ A c, v = .slice A n c ∧ n ≤ c ∧ Reads w w.heap.size size A n xs := by
  rcases h.2 with ⟨rfl, rfl⟩ | ⟨g, cap, cur, rfl, _, _, hc, _⟩
  · exact ⟨none, 0, rfl, Nat.le_refl _, Reads.of_own h⟩
  · exact ⟨some ⟨g, 0, none⟩, cap, rfl, hc, Reads.of_own h⟩
theorem own_shape {w : World} {base : Nat} {e : TypeId} {size : Nat} {v : Value} {n : Nat} {xs : List Value} (h : w.ownsRow base e size v n xs) (hn : 0 < n) :
    ∃ g c, v = .slice (some ⟨g, 0, none⟩) n c ∧ n ≤ c ∧ base ≤ g ∧ g < w.heap.size := by
  rcases h.2 with ⟨rfl, rfl⟩ | ⟨g, cap, cur, rfl, hb, hg, hc, _⟩
  · omega
  · exact ⟨g, cap, rfl, hc, hb, (Array.getElem?_eq_some_iff.1 hg).1⟩
/-- Cells and marks below a bound, behind a call: the walk's two rules. -/
theorem bcell {B : Nat} {W w1 : World} (hb : Below B W w1) : (∀ b o, b < B → w1.cell? ⟨b, o, none⟩ = W.cell? ⟨b, o, none⟩) ∧ (∀ b o, b < B → w1.frozen? ⟨b, o, none⟩ = W.frozen? ⟨b, o, none⟩) :=
  ⟨fun b o h => hb.cell (p := ⟨b, o, none⟩) h, fun b o h => hb.frozen (p := ⟨b, o, none⟩) h⟩

end Go.Proofs.Ythepfpiphlfgnaa

/-
  YthepfpiphlfgnaaW1: what the smallest helpers of regions return.
-/
namespace Go.Proofs.Ythepfpiphlfgnaa
open Go.RowKit

theorem ret_bool {a b : Bool} (h : a = b) : Ending.returned (.bool a) = .returned (.bool b) := by rw [h]
theorem ret_int {k : IntKind} {a b : Int} (h : a = b) : Ending.returned (.int k a) = .returned (.int k b) := by rw [h]

theorem in_any (n lo hi : Int) (w : World) :
    Calls Try.prog 74 #[.int .i64 n, .int .i64 lo, .int .i64 hi] w fun e w' => e = .returned (.bool (inB n lo hi)) ∧ w = w' := by
  go_enter Try.func74, Try.ntmps74
  go_wp2
  all_goals go_ret
  all_goals exact ⟨ret_bool (by simp [inB]; omega), rfl⟩

theorem l1In_any (n lo hi : Int) (w : World) :
    Calls Try.prog 91 #[.int .i64 n, .int .i64 lo, .int .i64 hi] w fun e w' => e = .returned (.bool (inB n lo hi)) ∧ w = w' := by
  go_enter Try.func91, Try.ntmps91
  go_wp2
  all_goals go_ret
  all_goals exact ⟨ret_bool (by simp [inB]; omega), rfl⟩

theorem many_any (A : Option Addr) (n c B : Nat) (bs : List Bool) (w : World) (hr : Reads w B 1 A n (bs.map Value.bool)) (hn : n ≤ 9223372036854775807) :
    Calls Try.prog 137 #[.slice A n c] w fun e w' => e = .returned (.int .i64 (cnt bs)) ∧ w = w' := by
  have hl : bs.length = n := by have := hr.1; simpa using this
  go_enter Try.func137, Try.ntmps137
  go_wp2
  go_loop [3, 8] (fun s i => ∃ k : Nat, k ≤ n ∧ i = .int .i64 k ∧ s = .int .i64 (cnt (bs.take k) : Nat))
    (fun _ i => n - (intOf i).toNat)
  case atStart => exact ⟨0, Nat.zero_le _, rfl, rfl⟩
  case round =>
    obtain ⟨k, hk, rfl, rfl⟩ := hrel
    have hle := cnt_le (bs.take k)
    have hle2 : (bs.take k).length ≤ k := List.length_take_le _ _
    by_cases hlt : k < n
    · obtain ⟨ad, u, rfl, _, hx, hc⟩ := hr.at_ hlt
      obtain ⟨b, hb⟩ : ∃ b, bs[k]? = some b := ⟨bs[k]'(by omega), by simp⟩
      have hu : u = .bool b := by simp [hb] at hx; exact hx.symm
      subst hu
      have hs := cnt_take bs k (by omega)
      have hb' : bs[k]'(by omega) = b := by
        rw [List.getElem?_eq_getElem (by omega)] at hb; injection hb
      rw [hb'] at hs
      have HS := Lib.hid hs
      clear hs hx hb hb'
      go_wp2
      all_goals
        go_round
        case rel => exact ⟨k + 1, by omega, by go_num, by rw [HS.out]; simp [*]⟩
        case measure => simp [intOf]; omega
    · go_wp2
      go_ret
      obtain rfl : k = bs.length := by omega
      exact ⟨by simp, rfl⟩

set_option maxHeartbeats 400000 in
theorem valid_any (W T : Int) (A : Option Addr) (n c B : Nat) (bs : List Bool) (w : World) (hr : Reads w B 1 A n (bs.map Value.bool)) (hB : B ≤ w.heap.size) (hn : n ≤ 9223372036854775807) :
    Calls Try.prog 72 #[.agg #[.int .i64 W, .int .i64 T, .slice A n c]] w fun e w' => e = .returned (.bool (validB W T bs)) ∧ Below w.heap.size w w' := by
  have hl : bs.length = n := by have := hr.1; simpa using this
  by_cases h1 : 1 ≤ W ∧ W ≤ 6
  · have H1 := Lib.hid (inB_t h1)
    by_cases h2 : 1 ≤ T ∧ T ≤ 6
    · have H2 := Lib.hid (inB_t h2)
      obtain ⟨hm1, hm2⟩ := mul_bd h1.1 h1.2 h2.1 h2.2
      have H3 := Lib.hid (valid_3 (bs := bs) h1 h2)
      obtain rfl := hl
      have H1' := H1.out
      have H2' := H2.out
      go_enter Try.func72, Try.ntmps72
      go_wp2_with (first
        | (go_at_call 74; refine (in_any _ _ _ _).mono ?_; rintro e w' ⟨rfl, rfl⟩)
        | (go_at_call 137; refine (many_any _ _ _ B bs _ (hr.alloc hB _) hn).mono ?_; rintro e w' ⟨rfl, rfl⟩))
      all_goals go_ret
      all_goals exact ⟨ret_bool (by rw [H3.out]; simp [*]; try omega), (Below.refl _ _).alloc (Nat.le_refl _) _⟩
    · have H2 := inB_f h2
      have H3 := Lib.hid (valid_f2 (W := W) (bs := bs) h2)
      clear h2
      have H1' := H1.out
      go_enter Try.func72, Try.ntmps72
      go_wp2_with (first
        | (go_at_call 74; refine (in_any _ _ _ _).mono ?_; rintro e w' ⟨rfl, rfl⟩))
      all_goals go_ret
      all_goals exact ⟨ret_bool (by rw [H3.out]), (Below.refl _ _).alloc (Nat.le_refl _) _⟩
  · have H1 := inB_f h1
    have H3 := Lib.hid (valid_f1 (T := T) (bs := bs) h1)
    clear h1
    go_enter Try.func72, Try.ntmps72
    go_wp2_with (first
        | (go_at_call 74; refine (in_any _ _ _ _).mono ?_; rintro e w' ⟨rfl, rfl⟩))
    all_goals go_ret
    all_goals exact ⟨ret_bool (by rw [H3.out]), (Below.refl _ _).alloc (Nat.le_refl _) _⟩

end Go.Proofs.Ythepfpiphlfgnaa

/-
  YthepfpiphlfgnaaBox: field, RegionBox, CellsMany; alive.
-/
namespace Go.Proofs.Ythepfpiphlfgnaa
open Go.RowKit

theorem info_bool : (Try.prog.info? 4).map (fun i => (i.zero, i.size, i.bytes)) = some (some (.bool false), 1, 1) := by kernel_rfl
theorem info_int : (Try.prog.info? 3).map (fun i => (i.zero, i.size, i.bytes)) = some (some (.int .i64 0), 1, 8) := by kernel_rfl

/-- 'make([]bool, n)', for every world. -/
theorem make_bools (n : Nat) (hn : n ≤ 4194304) (w : World) :
    ∃ w', (Instr.makeSlice 23 (.int .i64 (n : Int)) (.int .i64 (n : Int))).run Try.prog w = .ok (.slice (some ⟨w.heap.size, 0, none⟩) n n) w' ∧
      w'.ownsRow w.heap.size 4 1 (.slice (some ⟨w.heap.size, 0, none⟩) n n) n ((List.replicate n false).map Value.bool) ∧ Below w.heap.size w w' := by
  obtain ⟨i0, hi, hz, hs, hby⟩ := info_parts info_bool
  obtain ⟨w', h1, h2, h3⟩ := run_make_full (P := Try.prog) w w.heap.size 23 4 i0 _ 1 Try.underlying23 hi hz hs .i64 .i64 n (by rw [hby]; omega) (by simp only [maxLen]; omega) (Nat.le_refl _)
  refine ⟨w', h1, ?_, (Below.refl _ _).grown h3 (Nat.le_refl _) (by simp)⟩
  have e : (madeCells (Value.bool false).cells (n * 1)).toList = (List.replicate n false).map Value.bool := by
    rw [Nat.mul_one]
    show (madeCells #[Value.bool false] n).toList = _
    rw [toList_madeCells_one, List.map_replicate]
  rw [e] at h2
  exact h2

/-- .. at the operation. -/
theorem wpList_make_bools {w : World} {ops : Array Oper} {rest : List Oper} {o : Oper} {a : Act} {Q : Exit → Act → World → Prop}
    (hg : o.guard = none) (l c : Operand) (hop : o.op = Op.makeSlice 23 l c) (n : Nat) (hn : n ≤ 4194304) {L C : Int} (hl : a.eval l = .int .i64 L) (hc : a.eval c = .int .i64 C) (hL : L = (n : Int)) (hC : C = (n : Int))
    (hK : ∀ w', w'.ownsRow w.heap.size 4 1 (.slice (some ⟨w.heap.size, 0, none⟩) n n) n ((List.replicate n false).map Value.bool) → Below w.heap.size w w' →
      wpList Try.prog ops Q rest (a.put o.dst (.slice (some ⟨w.heap.size, 0, none⟩) n n)) w') :
    wpList Try.prog ops Q (o :: rest) a w := by
  refine wpList_plain hg fun K hK' => ?_
  obtain ⟨w', hrun, r1, r2⟩ := make_bools n hn w
  subst hL
  subst hC
  unfold Oper.wp
  simp [execOp, hop, hl, hc, hrun, Result.andThen]
  exact hK' _ _ (hK w' r1 r2)

/-- 'make([]int, n)', for every world. -/
theorem make_ints (n : Nat) (hn : n ≤ 4194304) (w : World) :
    ∃ w', (Instr.makeSlice 26 (.int .i64 (n : Int)) (.int .i64 (n : Int))).run Try.prog w = .ok (.slice (some ⟨w.heap.size, 0, none⟩) n n) w' ∧
      w'.ownsRow w.heap.size 3 1 (.slice (some ⟨w.heap.size, 0, none⟩) n n) n ((List.replicate n (0 : Int)).map (Value.int .i64)) ∧ Below w.heap.size w w' := by
  obtain ⟨i0, hi, hz, hs, hby⟩ := info_parts info_int
  obtain ⟨w', h1, h2, h3⟩ := run_make_full (P := Try.prog) w w.heap.size 26 3 i0 _ 1 Try.underlying26 hi hz hs .i64 .i64 n (by rw [hby]; omega) (by simp only [maxLen]; omega) (Nat.le_refl _)
  refine ⟨w', h1, ?_, (Below.refl _ _).grown h3 (Nat.le_refl _) (by simp)⟩
  have e : (madeCells (Value.int .i64 0).cells (n * 1)).toList = (List.replicate n (0 : Int)).map (Value.int .i64) := by
    rw [Nat.mul_one]
    show (madeCells #[Value.int .i64 0] n).toList = _
    rw [toList_madeCells_one, List.map_replicate]
  rw [e] at h2
  exact h2

/-- .. at the operation. -/
theorem wpList_make_ints {w : World} {ops : Array Oper} {rest : List Oper} {o : Oper} {a : Act} {Q : Exit → Act → World → Prop}
    (hg : o.guard = none) (l c : Operand) (hop : o.op = Op.makeSlice 26 l c) (n : Nat) (hn : n ≤ 4194304) {L C : Int} (hl : a.eval l = .int .i64 L) (hc : a.eval c = .int .i64 C) (hL : L = (n : Int)) (hC : C = (n : Int))
    (hK : ∀ w', w'.ownsRow w.heap.size 3 1 (.slice (some ⟨w.heap.size, 0, none⟩) n n) n ((List.replicate n (0 : Int)).map (Value.int .i64)) → Below w.heap.size w w' →
      wpList Try.prog ops Q rest (a.put o.dst (.slice (some ⟨w.heap.size, 0, none⟩) n n)) w') :
    wpList Try.prog ops Q (o :: rest) a w := by
  refine wpList_plain hg fun K hK' => ?_
  obtain ⟨w', hrun, r1, r2⟩ := make_ints n hn w
  subst hL
  subst hC
  unfold Oper.wp
  simp [execOp, hop, hl, hc, hrun, Result.andThen]
  exact hK' _ _ (hK w' r1 r2)

theorem field_any (W T : Nat) (hW : 1 ≤ W ∧ W ≤ 6) (hT : 1 ≤ T ∧ T ≤ 6) (w : World) :
    Calls Try.prog 138 #[.int .i64 W, .int .i64 T] w fun e w' => ∃ g c, e = .returned (.agg #[.int .i64 W, .int .i64 T, .slice (some ⟨g, 0, none⟩) (W * T) c]) ∧
      w'.ownsRow w.heap.size 4 1 (.slice (some ⟨g, 0, none⟩) (W * T) c) (W * T) ((List.replicate (W * T) false).map Value.bool) ∧ Below w.heap.size w w' := by
  have hm := mul_bdN hW.1 hW.2 hT.1 hT.2
  have hmi : (W : Int) * (T : Int) ≤ 36 ∧ 1 ≤ (W : Int) * (T : Int) := by
    have : (W : Int) * (T : Int) = ((W * T : Nat) : Int) := by simp
    omega
  obtain ⟨hm1, hm2⟩ := hmi
  go_enter Try.func138, Try.ntmps138
  go_wp2_with (at_make; refine wpList_make_bools rfl _ _ rfl (W * T) (by omega) rfl rfl (by simp) (by simp) ?_; intro w1 hown hb; simp only [World.size_alloc] at hown hb; obtain ⟨hc, hf⟩ := bcell hb; have hz := hb.size; simp only [World.size_alloc] at hz)
  refine bodyPost_ret (v := .agg #[.int .i64 W, .int .i64 T, .slice (some ⟨w.heap.size + 1, 0, none⟩) (W * T) (W * T)]) (by simp [results, Try.results138, go_sem, hc]) rfl ⟨_, _, rfl, ?_, ?_⟩
  · exact own_mono (ownsRow_setCell_below (ownsRow_setCell_below (ownsRow_setCell_below hown (by simp) _) (by simp) _) (by simp) _) (by omega)
  · exact (((((Below.refl _ _).alloc (Nat.le_refl _) _).trans (hb.mono (by omega))).setCell (by simp) _).setCell (by simp) _).setCell (by simp) _

theorem set_rep (n k : Nat) (h : k < n) : (((List.replicate k true ++ List.replicate (n - k) false).map Value.bool).set k (.bool true)) = (List.replicate (k + 1) true ++ List.replicate (n - (k + 1)) false).map Value.bool := by
  obtain ⟨m, rfl⟩ : ∃ m, n = k + 1 + m := ⟨n - (k + 1), by omega⟩
  have e1 : k + 1 + m - k = m + 1 := by omega
  have e2 : k + 1 + m - (k + 1) = m := by omega
  rw [e1, e2, List.replicate_succ' (n := k), List.replicate_succ (n := m)]
  simp

theorem box_any (W T : Nat) (hW : 1 ≤ W ∧ W ≤ 6) (hT : 1 ≤ T ∧ T ≤ 6) (hWT : W * T ≤ 24) (w : World) :
    Calls Try.prog 71 #[.int .i64 W, .int .i64 T] w fun e w' => ∃ v, e = .returned (.agg #[.int .i64 W, .int .i64 T, v]) ∧
      w'.ownsRow w.heap.size 4 1 v (W * T) ((List.replicate (W * T) true).map Value.bool) ∧ Below w.heap.size w w' := by
  have hm := mul_bdN hW.1 hW.2 hT.1 hT.2
  have hmi : (W : Int) * (T : Int) ≤ 24 ∧ 1 ≤ (W : Int) * (T : Int) := by
    have : (W : Int) * (T : Int) = ((W * T : Nat) : Int) := by simp
    omega
  obtain ⟨hm1, hm2⟩ := hmi
  have h1 : inB (W : Int) 1 6 = true := inB_t (by omega)
  have h2 : inB (T : Int) 1 6 = true := inB_t (by omega)
  go_enter Try.func71, Try.ntmps71
  go_wp2_with (first
    | (go_at_call 74; refine (in_any _ _ _ _).mono ?_; rintro e w' ⟨rfl, rfl⟩)
    | (go_at_call 138; refine (field_any W T hW hT _).mono ?_; rintro e w1 ⟨g, c, rfl, hown, hb⟩; simp only [World.size_alloc] at hown hb; obtain ⟨hc, hf⟩ := bcell hb; have hz := hb.size; simp only [World.size_alloc] at hz))
  have hB1 : Blk (w1.alloc (.cells #[.int .i64 W, .int .i64 T, .slice (some ⟨g, 0, none⟩) (W * T) c] 25)) w1.heap.size 25 #[.int .i64 W, .int .i64 T, .slice (some ⟨g, 0, none⟩) (W * T) c] := Blk.new _ _ _
  have hB0 : Blk (w1.alloc (.cells #[.int .i64 W, .int .i64 T, .slice (some ⟨g, 0, none⟩) (W * T) c] 25)) w.heap.size 25 #[.int .i64 0, .int .i64 0, .slice none 0 0] :=
    ((Blk.new w _ _).below hb (by omega)).alloc _
  have hown1 := hown.alloc (.cells #[.int .i64 W, .int .i64 T, .slice (some ⟨g, 0, none⟩) (W * T) c] 25)
  have hbw : Below w.heap.size w (w1.alloc (.cells #[.int .i64 W, .int .i64 T, .slice (some ⟨g, 0, none⟩) (W * T) c] 25)) := (((Below.refl _ _).alloc (Nat.le_refl _) _).trans (hb.mono (by omega))).alloc (by omega) _
  have hg := hown.lt g rfl
  have hne1 : g ≠ w.heap.size := by omega
  have hne2 : g ≠ w1.heap.size := by omega
  clear hown hb hc hf
  go_loopw [28] (fun i wr => ∃ k : Nat, k ≤ W * T ∧ i = .int .i64 k ∧ wr.ownsRow (w.heap.size + 1) 4 1 (.slice (some ⟨g, 0, none⟩) (W * T) c) (W * T) ((List.replicate k true ++ List.replicate (W * T - k) false).map Value.bool) ∧
      Blk wr w1.heap.size 25 #[.int .i64 W, .int .i64 T, .slice (some ⟨g, 0, none⟩) (W * T) c] ∧ Blk wr w.heap.size 25 #[.int .i64 0, .int .i64 0, .slice none 0 0] ∧ Below w.heap.size w wr)
    (fun i _ => W * T - (intOf i).toNat)
  case atStart => exact ⟨0, Nat.zero_le _, rfl, by simpa using hown1, hB1, hB0, hbw⟩
  case round =>
    obtain ⟨k, hk, rfl, hown, hR, hS, hbw'⟩ := hrel
    clear hown1 hB1 hB0 hbw
    have hi : ((W * T : Nat) : Int) = (W : Int) * (T : Int) := by simp
    have r0 := hR.cell 0
    have r1 := hR.cell 1
    have r2 := hR.cell 2
    simp at r0 r1 r2
    have s0 := hS.cell 0
    have s1 := hS.cell 1
    have s2 := hS.cell 2
    simp at s0 s1 s2
    have q0 := hS.frozen 0
    have q1 := hS.frozen 1
    have q2 := hS.frozen 2
    by_cases hlt : k < W * T
    · have hlti : (k : Int) < (W : Int) * (T : Int) := by omega
      obtain ⟨u, hu⟩ : ∃ u, wr.cell? ⟨g, k, none⟩ = some u := by
        rw [hown.cellAt k (by omega)]
        exact ⟨_, List.getElem?_eq_getElem (by simp; omega)⟩
      have hfr := hown.frozenAt k
      clear hi
      go_wp2
      go_roundw
      case rel =>
        refine ⟨k + 1, by omega, by go_num, ?_, hR.far (p := ⟨g, k, none⟩) (by simpa using hne2.symm) _, hS.far (p := ⟨g, k, none⟩) (by simpa using hne1.symm) _, hbw'.setCell (by simp; omega) _⟩
        have := (hown.stored k (.bool true)).1
        rwa [set_rep _ _ hlt] at this
      case measure => simp [intOf]; omega
    · have hlti : (W : Int) * (T : Int) ≤ (k : Int) := by omega
      clear hi
      go_wp2
      have hk' : k = W * T := by omega
      subst hk'
      refine bodyPost_ret (v := .agg #[.int .i64 W, .int .i64 T, .slice (some ⟨g, 0, none⟩) (W * T) c]) (by simp [results, Try.results71, go_sem, s0, s1, s2]) rfl ⟨_, rfl, ?_, ?_⟩
      · have := own_mono (ownsRow_setCell_below (ownsRow_setCell_below (ownsRow_setCell_below hown (a := ⟨w.heap.size, 0, none⟩) (by simp) (.int .i64 W)) (a := ⟨w.heap.size, 1, none⟩) (by simp) (.int .i64 T)) (a := ⟨w.heap.size, 2, none⟩) (by simp) (.slice (some ⟨g, 0, none⟩) (W * T) c)) (base' := w.heap.size) (by omega)
        simpa using this
      · exact ((hbw'.setCell (by simp) _).setCell (by simp) _).setCell (by simp) _

theorem cells_yes (W T : Int) (A : Option Addr) (n c B : Nat) (bs : List Bool) (w : World) (hr : Reads w B 1 A n (bs.map Value.bool)) (hB : B ≤ w.heap.size) (hn : n ≤ 9223372036854775807) (hv : validB W T bs = true) :
    Calls Try.prog 70 #[.agg #[.int .i64 W, .int .i64 T, .slice A n c]] w fun e w' => e = .returned (.int .i64 (cnt bs)) ∧ Below w.heap.size w w' := by
  go_enter Try.func70, Try.ntmps70
  go_wp2_with (first
    | (go_at_call 72; refine (valid_any W T A n c B bs _ (hr.alloc hB _) (by simp; omega) hn).mono ?_; rintro e w1 ⟨rfl, hb⟩; simp only [World.size_alloc] at hb; obtain ⟨hc, hf⟩ := bcell hb)
    | (go_at_call 137; refine (many_any A n c B bs _ ((hr.alloc hB _).below (hb.mono (by omega))) hn).mono ?_; rintro e w' ⟨rfl, rfl⟩))
  go_ret
  exact ⟨rfl, ((Below.refl _ _).alloc (Nat.le_refl _) _).trans (hb.mono (by omega))⟩

theorem cnt_rep (n : Nat) : cnt (List.replicate n true) = n := by simp [cnt, List.countP_replicate]

theorem alive_any (w : World) :
    Calls Try.prog 17 #[] w fun e w' => e = .returned (.bool true) ∧ Below w.heap.size w w' := by
  go_enter Try.func17, Try.ntmps17
  go_wp2_with fail
  refine (box_any 2 3 (by omega) (by omega) (by omega) _).mono ?_
  rintro e w1 ⟨v, rfl, hown, hb⟩
  obtain ⟨A, c, rfl, hc, hr⟩ := own_form hown
  go_wp2_with fail
  refine (cells_yes 2 3 A 6 c _ (List.replicate 6 true) _ hr (Nat.le_refl _) (by omega) (by decide +kernel)).mono ?_
  rintro e w2 ⟨rfl, hb2⟩
  rw [cnt_rep]
  go_wp2
  go_ret
  exact ⟨rfl, hb.trans (hb2.mono hb.size)⟩

end Go.Proofs.Ythepfpiphlfgnaa

/-
  YthepfpiphlfgnaaReg: the small methods of a region: xy, step, at, and their fellows in the reference.
-/
namespace Go.Proofs.Ythepfpiphlfgnaa
open Go.RowKit

/-- A cell by its column and its row. -/
structure Reg.place (R : Reg) (j x y : Nat) : Prop where
  col : x < R.W
  row : y < R.T
  eq : j = y * R.W + x
theorem place_of {R : Reg} (hR : R.ok) {j : Nat} (hj : j < R.C.length) : R.place j (j % R.W) (j / R.W) := ⟨(xy_lt hR hj).1, (xy_lt hR hj).2, (xy_eq j R.W).symm⟩
theorem Reg.place.mod {R : Reg} {j x y : Nat} (h : R.place j x y) : j % R.W = x := by rw [h.eq]; exact mk_mod y h.col
theorem Reg.place.div {R : Reg} {j x y : Nat} (h : R.place j x y) : j / R.W = y := by rw [h.eq]; exact mk_div y h.col
theorem Reg.place.lt {R : Reg} {j x y : Nat} (hR : R.ok) (h : R.place j x y) : j < R.C.length := by rw [h.eq]; exact idx_lt hR h.col h.row
theorem prod_bd {a b : Nat} (ha : a ≤ 7) (hb : b ≤ 7) : (0 : Int) ≤ (a : Int) * (b : Int) ∧ (a : Int) * (b : Int) ≤ 49 := by
  have h : a * b ≤ 7 * 7 := Nat.mul_le_mul ha hb
  have e : (a : Int) * (b : Int) = ((a * b : Nat) : Int) := by simp
  omega

theorem xy_any (R : Reg) (hR : R.ok) (A : Option Addr) (k c : Nat) (j x y : Nat) (hj : R.place j x y) (w : World) :
    Calls Try.prog 168 #[.agg #[.int .i64 R.W, .int .i64 R.T, .slice A k c], .int .i64 j] w fun e w' => e = .returned (.tuple #[.int .i64 x, .int .i64 y]) ∧ Below w.heap.size w w' := by
  have hW := hR.1
  have hW6 := hR.2.1
  have hl := (len_bd hR).2
  have hjl := hj.lt hR
  have hWn : ((R.W : Int) == 0) = false := by simp; omega
  have e1 : (j : Int) % (R.W : Int) = (x : Int) := by rw [← hj.mod]; simp
  have e2 : (j : Int) / (R.W : Int) = (y : Int) := by rw [← hj.div]; simp
  have e3 : wrap64 (y : Int) = (y : Int) := IntWalk.wrap64_in _ (by have := hj.row; have := hR.2.2.2.1; omega)
  have E1 := Lib.hid e1
  have E3 := Lib.hid e3
  clear e1 e3
  go_enter Try.func168, Try.ntmps168
  go_wp2
  go_quiet (fail)
  go_wp2
  go_ret2
  exact ⟨by show Ending.returned (.tuple #[.int .i64 ((j : Int) % (R.W : Int)), .int .i64 (wrap64 (y : Int))]) = _; rw [E1.out, E3.out], below_drewN ((Below.refl _ _).alloc (Nat.le_refl _) _) _⟩

theorem step_1 {R : Reg} {j x y : Nat} (h : R.place j x y) : R.step j 1 = if x + 1 < R.W then (j : Int) + 1 else -1 := by unfold Reg.step; rw [h.mod]; rfl
theorem step_2 {R : Reg} {j x y : Nat} (h : R.place j x y) : R.step j 2 = if y + 1 < R.T then (j : Int) + R.W else -1 := by unfold Reg.step; rw [h.div]; rfl
theorem step_3 {R : Reg} {j x y : Nat} (h : R.place j x y) : R.step j 3 = if 0 < x then (j : Int) - 1 else -1 := by unfold Reg.step; rw [h.mod]; rfl
theorem step_4 {R : Reg} {j x y : Nat} (h : R.place j x y) : R.step j 4 = if 0 < y then (j : Int) - R.W else -1 := by unfold Reg.step; rw [h.div]; rfl
theorem step_no {R : Reg} {j : Nat} {way : Int} (h : ¬ (1 ≤ way ∧ way ≤ 4)) : R.step j way = -1 := by
  unfold Reg.step
  rw [if_neg (by omega), if_neg (by omega), if_neg (by omega), if_neg (by omega)]

/-- 'step': the cell in a direction. -/
theorem step_any (R : Reg) (hR : R.ok) (A : Option Addr) (k c : Nat) (j : Nat) (hj : j < R.C.length) (way : Int) (w : World) :
    Calls Try.prog 175 #[.agg #[.int .i64 R.W, .int .i64 R.T, .slice A k c], .int .i64 j, .int .i64 way] w fun e w' => e = .returned (.int .i64 (R.step j way)) ∧ Below w.heap.size w w' := by
  have hP := place_of hR hj
  generalize j % R.W = x at hP
  generalize j / R.W = y at hP
  have hW := hR.1
  have hW6 := hR.2.1
  have hT := hR.2.2.1
  have hT6 := hR.2.2.2.1
  have hx := hP.col
  have hy := hP.row
  have hq : (j : Int) = (y : Int) * (R.W : Int) + (x : Int) := by rw [hP.eq]; simp
  have Q := Lib.hid hq
  have hl := (len_bd hR).2
  obtain ⟨p0, p1⟩ := prod_bd (a := y) (b := R.W) (by omega) (by omega)
  clear hq
  by_cases w1 : way = 1
  · subst w1
    have S := Lib.hid (step_1 hP)
    by_cases hc : x + 1 < R.W
    · have I1 : inB ((x : Int) + 1) 0 ((R.W : Int) - 1) = true := inB_t (by omega)
      have I2 : inB (y : Int) 0 ((R.T : Int) - 1) = true := inB_t (by omega)
      go_enter Try.func175, Try.ntmps175
      go_wp2_with (first
        | (go_at_call 168; refine (xy_any R hR A k c j x y hP _).mono ?_; rintro e w1 ⟨rfl, hb⟩; simp only [World.size_alloc] at hb; obtain ⟨hcc, hcf⟩ := bcell hb)
        | (go_at_call 74; refine (in_any _ _ _ _).mono ?_; rintro e w' ⟨rfl, rfl⟩))
      go_ret
      exact ⟨ret_int (by rw [S.out, if_pos hc, Q.out]; omega), ((Below.refl _ _).alloc (Nat.le_refl _) _).trans (hb.mono (by omega))⟩
    · have I1 : inB ((x : Int) + 1) 0 ((R.W : Int) - 1) = false := inB_f (by omega)
      go_enter Try.func175, Try.ntmps175
      go_wp2_with (first
        | (go_at_call 168; refine (xy_any R hR A k c j x y hP _).mono ?_; rintro e w1 ⟨rfl, hb⟩; simp only [World.size_alloc] at hb; obtain ⟨hcc, hcf⟩ := bcell hb)
        | (go_at_call 74; refine (in_any _ _ _ _).mono ?_; rintro e w' ⟨rfl, rfl⟩))
      go_ret
      exact ⟨ret_int (by rw [S.out, if_neg hc]), ((Below.refl _ _).alloc (Nat.le_refl _) _).trans (hb.mono (by omega))⟩
  by_cases w2 : way = 2
  · subst w2
    have S := Lib.hid (step_2 hP)
    have I1 : inB (x : Int) 0 ((R.W : Int) - 1) = true := inB_t (by omega)
    obtain ⟨p2, p3⟩ := prod_bd (a := y + 1) (b := R.W) (by omega) (by omega)
    simp only [Int.natCast_add, Int.natCast_one] at p2 p3
    have hm : ((y : Int) + 1) * (R.W : Int) = (y : Int) * (R.W : Int) + R.W := by rw [Int.add_mul, Int.one_mul]
    have M := Lib.hid hm
    clear hm
    by_cases hc : y + 1 < R.T
    · have I2 : inB ((y : Int) + 1) 0 ((R.T : Int) - 1) = true := inB_t (by omega)
      go_enter Try.func175, Try.ntmps175
      go_wp2_with (first
        | (go_at_call 168; refine (xy_any R hR A k c j x y hP _).mono ?_; rintro e w1 ⟨rfl, hb⟩; simp only [World.size_alloc] at hb; obtain ⟨hcc, hcf⟩ := bcell hb)
        | (go_at_call 74; refine (in_any _ _ _ _).mono ?_; rintro e w' ⟨rfl, rfl⟩))
      go_ret
      exact ⟨ret_int (by rw [S.out, if_pos hc, Q.out, M.out]; omega), ((Below.refl _ _).alloc (Nat.le_refl _) _).trans (hb.mono (by omega))⟩
    · have I2 : inB ((y : Int) + 1) 0 ((R.T : Int) - 1) = false := inB_f (by omega)
      go_enter Try.func175, Try.ntmps175
      go_wp2_with (first
        | (go_at_call 168; refine (xy_any R hR A k c j x y hP _).mono ?_; rintro e w1 ⟨rfl, hb⟩; simp only [World.size_alloc] at hb; obtain ⟨hcc, hcf⟩ := bcell hb)
        | (go_at_call 74; refine (in_any _ _ _ _).mono ?_; rintro e w' ⟨rfl, rfl⟩))
      go_ret
      exact ⟨ret_int (by rw [S.out, if_neg hc]), ((Below.refl _ _).alloc (Nat.le_refl _) _).trans (hb.mono (by omega))⟩
  by_cases w3 : way = 3
  · subst w3
    have S := Lib.hid (step_3 hP)
    by_cases hc : 0 < x
    · have I1 : inB ((x : Int) - 1) 0 ((R.W : Int) - 1) = true := inB_t (by omega)
      have I2 : inB (y : Int) 0 ((R.T : Int) - 1) = true := inB_t (by omega)
      go_enter Try.func175, Try.ntmps175
      go_wp2_with (first
        | (go_at_call 168; refine (xy_any R hR A k c j x y hP _).mono ?_; rintro e w1 ⟨rfl, hb⟩; simp only [World.size_alloc] at hb; obtain ⟨hcc, hcf⟩ := bcell hb)
        | (go_at_call 74; refine (in_any _ _ _ _).mono ?_; rintro e w' ⟨rfl, rfl⟩))
      go_ret
      exact ⟨ret_int (by rw [S.out, if_pos hc, Q.out]; omega), ((Below.refl _ _).alloc (Nat.le_refl _) _).trans (hb.mono (by omega))⟩
    · have I1 : inB ((x : Int) - 1) 0 ((R.W : Int) - 1) = false := inB_f (by omega)
      go_enter Try.func175, Try.ntmps175
      go_wp2_with (first
        | (go_at_call 168; refine (xy_any R hR A k c j x y hP _).mono ?_; rintro e w1 ⟨rfl, hb⟩; simp only [World.size_alloc] at hb; obtain ⟨hcc, hcf⟩ := bcell hb)
        | (go_at_call 74; refine (in_any _ _ _ _).mono ?_; rintro e w' ⟨rfl, rfl⟩))
      go_ret
      exact ⟨ret_int (by rw [S.out, if_neg hc]), ((Below.refl _ _).alloc (Nat.le_refl _) _).trans (hb.mono (by omega))⟩
  by_cases w4 : way = 4
  · subst w4
    have S := Lib.hid (step_4 hP)
    have I1 : inB (x : Int) 0 ((R.W : Int) - 1) = true := inB_t (by omega)
    by_cases hc : 0 < y
    · have I2 : inB ((y : Int) - 1) 0 ((R.T : Int) - 1) = true := inB_t (by omega)
      have hm : ((y : Int) - 1) * (R.W : Int) = (y : Int) * (R.W : Int) - R.W := by rw [Int.sub_mul, Int.one_mul]
      have p2 : 0 ≤ ((y : Int) - 1) * (R.W : Int) := Int.mul_nonneg (by omega) (by omega)
      have p3 : ((y : Int) - 1) * (R.W : Int) ≤ 49 := by omega
      have M := Lib.hid hm
      clear hm
      go_enter Try.func175, Try.ntmps175
      go_wp2_with (first
        | (go_at_call 168; refine (xy_any R hR A k c j x y hP _).mono ?_; rintro e w1 ⟨rfl, hb⟩; simp only [World.size_alloc] at hb; obtain ⟨hcc, hcf⟩ := bcell hb)
        | (go_at_call 74; refine (in_any _ _ _ _).mono ?_; rintro e w' ⟨rfl, rfl⟩))
      go_ret
      exact ⟨ret_int (by rw [S.out, if_pos hc, Q.out, M.out]; omega), ((Below.refl _ _).alloc (Nat.le_refl _) _).trans (hb.mono (by omega))⟩
    · have I2 : inB ((y : Int) - 1) 0 ((R.T : Int) - 1) = false := inB_f (by omega)
      go_enter Try.func175, Try.ntmps175
      go_wp2_with (first
        | (go_at_call 168; refine (xy_any R hR A k c j x y hP _).mono ?_; rintro e w1 ⟨rfl, hb⟩; simp only [World.size_alloc] at hb; obtain ⟨hcc, hcf⟩ := bcell hb)
        | (go_at_call 74; refine (in_any _ _ _ _).mono ?_; rintro e w' ⟨rfl, rfl⟩))
      go_ret
      exact ⟨ret_int (by rw [S.out, if_neg hc]), ((Below.refl _ _).alloc (Nat.le_refl _) _).trans (hb.mono (by omega))⟩
  have S := Lib.hid (step_no (R := R) (j := j) (way := way) (by omega))
  have v1 : (way == 1) = false := by simpa using w1
  have v2 : (way == 2) = false := by simpa using w2
  have v3 : (way == 3) = false := by simpa using w3
  have v4 : (way == 4) = false := by simpa using w4
  clear w1 w2 w3 w4
  go_enter Try.func175, Try.ntmps175
  go_wp2_with (first
    | (go_at_call 168; refine (xy_any R hR A k c j x y hP _).mono ?_; rintro e w1 ⟨rfl, hb⟩; simp only [World.size_alloc] at hb; obtain ⟨hcc, hcf⟩ := bcell hb))
  go_ret
  exact ⟨ret_int (by rw [S.out]), ((Below.refl _ _).alloc (Nat.le_refl _) _).trans (hb.mono (by omega))⟩

/-! ### at -/
theorem at_any (R : Reg) (hR : R.ok) (A : Option Addr) (c B : Nat) (x y : Int) (hx : -100 ≤ x ∧ x ≤ 100) (hy : -100 ≤ y ∧ y ≤ 100) (w : World) (hr : Reads w B 1 A R.C.length (R.C.map Value.bool)) (hB : B ≤ w.heap.size) :
    Calls Try.prog 152 #[.agg #[.int .i64 R.W, .int .i64 R.T, .slice A R.C.length c], .int .i64 x, .int .i64 y] w fun e w' => e = .returned (.bool (R.at x y)) ∧ Below w.heap.size w w' := by
  have hW := hR.1
  have hW6 := hR.2.1
  have hT := hR.2.2.1
  have hT6 := hR.2.2.2.1
  obtain ⟨hx0, hx1⟩ := hx
  obtain ⟨hy0, hy1⟩ := hy
  by_cases h1 : 0 ≤ x ∧ x ≤ (R.W : Int) - 1
  · have I1 := inB_t h1
    by_cases h2 : 0 ≤ y ∧ y ≤ (R.T : Int) - 1
    · have I2 := inB_t h2
      obtain ⟨x, rfl⟩ := Int.eq_ofNat_of_zero_le h1.1
      obtain ⟨y, rfl⟩ := Int.eq_ofNat_of_zero_le h2.1
      have hxl : x < R.W := by omega
      have hyl : y < R.T := by omega
      have S := Lib.hid (at_in hxl hyl)
      have hlt := idx_lt hR hxl hyl
      have hl := (len_bd hR).2
      obtain ⟨p0, p1⟩ := prod_bd (a := y) (b := R.W) (by omega) (by omega)
      obtain ⟨ad, u, rfl, hab, hu, hcell⟩ := hr.at_ hlt
      have hu' : u = .bool (R.C.getD (y * R.W + x) false) := by
        rw [List.getElem?_map, List.getElem?_eq_getElem hlt] at hu
        simp at hu
        rw [List.getD_eq_getElem?_getD, List.getElem?_eq_getElem hlt]
        exact hu.symm
      subst hu'
      generalize R.C.getD (y * R.W + x) false = b at hcell S
      have hcell' : ∀ o, (w.alloc o).cell? (ad.add (y * R.W + x)) = some (.bool b) := fun o => (World.cell?_alloc_lt w o _ (by rw [block_of_add]; omega)).trans hcell
      clear hu hr
      go_enter Try.func152, Try.ntmps152
      go_wp2_with (first
        | (go_at_call 74; refine (in_any _ _ _ _).mono ?_; rintro e w' ⟨rfl, rfl⟩))
      go_ret
      exact ⟨ret_bool (by rw [S.out]), (Below.refl _ _).alloc (Nat.le_refl _) _⟩
    · have I2 := inB_f h2
      have S := Lib.hid (at_out (R := R) (x := x) (y := y) (by omega))
      clear h2
      go_enter Try.func152, Try.ntmps152
      go_wp2_with (first
        | (go_at_call 74; refine (in_any _ _ _ _).mono ?_; rintro e w' ⟨rfl, rfl⟩))
      go_ret
      exact ⟨ret_bool (by rw [S.out]), (Below.refl _ _).alloc (Nat.le_refl _) _⟩
  · have I1 := inB_f h1
    have S := Lib.hid (at_out (R := R) (x := x) (y := y) (by omega))
    clear h1
    go_enter Try.func152, Try.ntmps152
    go_wp2_with (first
      | (go_at_call 74; refine (in_any _ _ _ _).mono ?_; rintro e w' ⟨rfl, rfl⟩))
    go_ret
    exact ⟨ret_bool (by rw [S.out]), (Below.refl _ _).alloc (Nat.le_refl _) _⟩

end Go.Proofs.Ythepfpiphlfgnaa

/-
  YthepfpiphlfgnaaParts: parts, partsMany: what the program's rounds over the numbers of parts come to.
-/
namespace Go.Proofs.Ythepfpiphlfgnaa
open Go.RowKit

/-! ### A call with a boxed region and one row of numbers of its own -/
structure PW (w wr : World) (R : Reg) (A : Option Addr) (c : Nat) (L : List Int) : Prop where
  bel : Below w.heap.size w wr
  box : Blk wr w.heap.size 25 #[.int .i64 R.W, .int .i64 R.T, .slice A R.C.length c]
  own : wr.ownsRow (w.heap.size + 1) 3 1 (.slice (some ⟨w.heap.size + 1, 0, none⟩) R.C.length R.C.length) R.C.length (L.map (Value.int .i64))

theorem PW.size {w wr : World} {R : Reg} {A : Option Addr} {c : Nat} {L : List Int} (h : PW w wr R A c L) : w.heap.size + 1 < wr.heap.size := (h.own.lt _ rfl).2
theorem PW.below {w wr w2 : World} {R : Reg} {A : Option Addr} {c : Nat} {L : List Int} (h : PW w wr R A c L) (hb : Below wr.heap.size wr w2) : PW w w2 R A c L :=
  ⟨h.bel.trans (hb.mono h.bel.size), h.box.below hb h.box.lt, own_below h.own hb (Nat.le_refl _)⟩
theorem PW.len {w wr : World} {R : Reg} {A : Option Addr} {c : Nat} {L : List Int} (h : PW w wr R A c L) : L.length = R.C.length := by
  have := h.own.1; simpa using this
theorem PW.cell {w wr : World} {R : Reg} {A : Option Addr} {c : Nat} {L : List Int} (h : PW w wr R A c L) {j : Nat} {m : Int} (hj : L[j]? = some m) : wr.cell? ⟨w.heap.size + 1, j, none⟩ = some (.int .i64 m) := by
  have hl : j < L.length := (List.getElem?_eq_some_iff.1 hj).1
  rw [h.own.cellAt j (by have := h.len; omega), List.getElem?_map, hj]
  rfl
theorem PW.free {w wr : World} {R : Reg} {A : Option Addr} {c : Nat} {L : List Int} (h : PW w wr R A c L) (j : Nat) : wr.frozen? ⟨w.heap.size + 1, j, none⟩ = false := h.own.frozenAt j
theorem PW.set {w wr : World} {R : Reg} {A : Option Addr} {c : Nat} {L : List Int} (h : PW w wr R A c L) (j : Nat) (x : Int) : PW w (wr.setCell ⟨w.heap.size + 1, j, none⟩ (.int .i64 x)) R A c (L.set j x) := by
  refine ⟨h.bel.setCell (by simp) _, h.box.far (p := ⟨w.heap.size + 1, j, none⟩) (by simp) _, ?_⟩
  have := (h.own.stored j (.int .i64 x)).1
  rwa [← List.map_set] at this
theorem PW.drewN {w wr : World} {R : Reg} {A : Option Addr} {c : Nat} {L : List Int} (h : PW w wr R A c L) (k : Nat) : PW w (wr.drewN k) R A c L :=
  ⟨Go.Proofs.Ythepfpiphlfgnaa.below_drewN h.bel k, h.box, h.own⟩
theorem PW.drew {w wr : World} {R : Reg} {A : Option Addr} {c : Nat} {L : List Int} (h : PW w wr R A c L) : PW w wr.drew R A c L :=
  ⟨h.bel.drew, h.box, h.own⟩

/-- What the rounds come to. -/
def PartsRet (w : World) (R : Reg) (e : Ending) (w' : World) : Prop :=
  ∃ g c L, e = .returned (.slice (some ⟨g, 0, none⟩) R.C.length c) ∧ Parts R R.C.length L ∧ w'.ownsRow w.heap.size 3 1 (.slice (some ⟨g, 0, none⟩) R.C.length c) R.C.length (L.map (Value.int .i64)) ∧ Below w.heap.size w w'

/-- The region's own cell, in a later world. -/
theorem reg_cell {R : Reg} {A : Option Addr} {B k : Nat} {w : World} (hr : Reads w B 1 A R.C.length (R.C.map Value.bool)) (hk : k < R.C.length) :
    ∃ ad b, A = some ad ∧ ad.block < B ∧ R.C[k]? = some b ∧ w.cell? (ad.add k) = some (.bool b) := by
  obtain ⟨ad, u, hA, hab, hu, hcell⟩ := hr.at_ hk
  rw [List.getElem?_map] at hu
  cases hb : R.C[k]? with
  | none => rw [hb] at hu; cases hu
  | some b =>
    rw [hb] at hu
    injection hu with hu
    subst hu
    exact ⟨ad, b, hA, hab, rfl, hcell⟩

set_option maxHeartbeats 1000000 in
theorem parts_any (R : Reg) (hR : R.ok) (A : Option Addr) (c B : Nat) (w : World) (hr : Reads w B 1 A R.C.length (R.C.map Value.bool)) (hB : B ≤ w.heap.size) :
    Calls Try.prog 186 #[.agg #[.int .i64 R.W, .int .i64 R.T, .slice A R.C.length c]] w (PartsRet w R) := by
  have hl := len_bd hR
  obtain ⟨hl1, hl2⟩ := hl
  go_enter Try.func186, Try.ntmps186
  go_wp2_with (at_make; refine wpList_make_ints rfl _ _ rfl R.C.length (by omega) rfl rfl (by simp) (by simp) ?_; intro w1 hown hb; simp only [World.size_alloc] at hown hb; obtain ⟨hc, hf⟩ := bcell hb)
  have h0 : PW w w1 R A c (List.replicate R.C.length 0) := ⟨((Below.refl _ _).alloc (Nat.le_refl _) _).trans (hb.mono (by omega)), (Blk.new _ _ _).below hb (by simp), hown⟩
  clear hown hb hc hf
  go_loopw [16] (fun i wr => ∃ k L, k ≤ R.C.length ∧ i = .int .i64 (k : Nat) ∧ PW w wr R A c L ∧ ∀ j : Nat, j < k → L[j]? = some (if R.C[j]? = some true then (j : Int) else -1))
    (fun i _ => R.C.length - (intOf i).toNat)
  case atStart => exact ⟨0, _, Nat.zero_le _, rfl, h0, fun j hj => by omega⟩
  case round =>
    obtain ⟨k, L, hk, rfl, hP, hL⟩ := hrel
    have b2 := hP.box.cell 2
    simp at b2
    have hL' := Lib.hid hL
    clear hL
    by_cases hlt : k < R.C.length
    · obtain ⟨ad, b, rfl, hab, hbk, hcell⟩ := reg_cell (hr.below (hP.bel.mono hB)) hlt
      have hbk' := Lib.hid hbk
      clear hbk
      obtain ⟨x0, hx0⟩ : ∃ x, L[k]? = some x := ⟨_, List.getElem?_eq_getElem (by rw [hP.len]; omega)⟩
      have hck := hP.cell hx0
      have hfk := hP.free k
      have hX0 := Lib.hid hx0
      clear hx0
      cases b with
      | true =>
        go_wp2
        go_roundw
        case rel =>
          refine ⟨k + 1, (L.set k (-1)).set k k, by omega, by go_num, (hP.set k (-1)).set k k, fun j hj => ?_⟩
          have hlen : k < L.length := by rw [hP.len]; omega
          by_cases hjk : j = k
          · subst hjk
            rw [List.getElem?_set, if_pos rfl, if_pos (by simpa using hlen), if_pos (by rw [hbk'.out])]
          · rw [List.getElem?_set, if_neg (by omega), List.getElem?_set, if_neg (by omega)]
            exact hL'.out j (by omega)
        case measure => simp [intOf]; omega
      | false =>
        go_wp2
        go_roundw
        case rel =>
          refine ⟨k + 1, L.set k (-1), by omega, by go_num, hP.set k (-1), fun j hj => ?_⟩
          have hlen : k < L.length := by rw [hP.len]; omega
          by_cases hjk : j = k
          · subst hjk
            rw [List.getElem?_set, if_pos rfl, if_pos (by simpa using hlen), if_neg (by rw [hbk'.out]; simp)]
          · rw [List.getElem?_set, if_neg (by omega)]
            exact hL'.out j (by omega)
        case measure => simp [intOf]; omega
    · go_wp2_with fail
      have hP0 := parts_first hP.len (fun j hj => hL'.out j (by omega))
      have h0 := hP
      have H0 := Lib.hid hP0
      clear hP0 hP hL' b2
      obtain ⟨wo, rfl⟩ : ∃ wo : World, wo = wr := ⟨_, rfl⟩
      go_loopw [33] (fun i wr => ∃ K L, K ≤ R.C.length ∧ i = .int .i64 (K : Nat) ∧ PW w wr R A c L ∧ Parts R K L) (fun i _ => R.C.length - (intOf i).toNat)
      case atStart => exact ⟨0, _, Nat.zero_le _, rfl, h0, H0.out⟩
      case round =>
        clear h0 H0
        obtain ⟨K, L, hK, rfl, hP, hL⟩ := hrel
        have b2 := hP.box.cell 2
        simp at b2
        have hL' := Lib.hid hL
        clear hL
        by_cases hKlt : K < R.C.length
        · go_wp2_with fail
          have hs := pmid_start hL'.out
          have HS := Lib.hid hs
          have h1 := hP
          clear hs hL' hP b2
          obtain ⟨wo2, rfl⟩ : ∃ wo : World, wo = wr := ⟨_, rfl⟩
          go_loopw [38] (fun i wr => ∃ j L, j ≤ R.C.length ∧ i = .int .i64 (j : Nat) ∧ PW w wr R A c L ∧ PMid R K j 1 L) (fun i _ => R.C.length - (intOf i).toNat)
          case atStart => exact ⟨0, _, Nat.zero_le _, rfl, h1, HS.out⟩
          case round =>
            clear h1 HS
            obtain ⟨j, L, hj, rfl, hP, hL⟩ := hrel
            have hL' := Lib.hid hL
            clear hL
            by_cases hjlt : j < R.C.length
            · go_wp2_with fail
              have h2 := hP
              clear hP
              obtain ⟨wo3, rfl⟩ : ∃ wo : World, wo = wr := ⟨_, rfl⟩
              go_loopw [7] (fun i wr => ∃ v L, 1 ≤ v ∧ v ≤ 5 ∧ i = .int .i64 (v : Nat) ∧ PW w wr R A c L ∧ PMid R K j v L) (fun i _ => 5 - (intOf i).toNat)
              case atStart => exact ⟨1, _, by omega, by omega, rfl, h2, hL'.out⟩
              case round =>
                clear h2 hL'
                obtain ⟨v, L, hv1, hv2, rfl, hP, hL⟩ := hrel
                have hL' := Lib.hid hL
                clear hL
                have c0 := hP.box.cell 0
                have c1 := hP.box.cell 1
                have c2 := hP.box.cell 2
                simp at c0 c1 c2
                by_cases hvlt : v ≤ 4
                · obtain ⟨a, ha⟩ : ∃ x, L[j]? = some x := ⟨_, List.getElem?_eq_getElem (by rw [hP.len]; omega)⟩
                  have HA := Lib.hid ha
                  have hbd := pbase_bd hL'.out.base ha
                  clear ha
                  go_wp2_with fail
                  refine (step_any R hR A _ c j hjlt _ _).mono ?_
                  rintro e w2 ⟨rfl, hb⟩
                  have hP2 := hP.below hb
                  have hP2' := hP2.cell HA.out
                  clear hP c0 c1 c2 hb
                  rcases step_range hR hjlt (v : Int) with hs | ⟨e, hs, he⟩
                  · rw [hs]
                    have HS := Lib.hid hs
                    clear hs
                    go_wp2_with fail
                    go_roundw
                    case rel => exact ⟨v + 1, L, by omega, by omega, by go_num, hP2, pmid_skip hL'.out (fun e he => by rw [HS.out] at he; omega)⟩
                    case measure => simp [intOf]; omega
                  · rw [hs]
                    have HS := Lib.hid hs
                    clear hs
                    obtain ⟨b, hb⟩ : ∃ x, L[e]? = some x := ⟨_, List.getElem?_eq_getElem (by rw [hP2.len]; omega)⟩
                    have HB := Lib.hid hb
                    have hbd2 := pbase_bd hL'.out.base hb
                    have hbc := hP2.cell hb
                    clear hb
                    by_cases ha0 : 0 ≤ a
                    · by_cases hb0 : 0 ≤ b
                      · have hfr := hP2.free j
                        go_wp2_with fail
                        go_region
                        all_goals
                          go_wp2_with fail
                        go_roundw
                        case rel =>
                          have hmin : (if b < a then b else a) = min a b := by split <;> omega
                          rw [hmin]
                          exact ⟨v + 1, _, by omega, by omega, by go_num, (hP2.set j (min a b)).drew, pmid_set hL'.out ⟨hv1, hvlt⟩ HS.out HA.out HB.out ha0 hb0⟩
                        case measure => simp [intOf]; omega
                      · have hno : ∀ e' : Nat, R.step j (v : Int) = (e' : Int) → ¬ R.A j e' := by
                          intro e' he' hA
                          rw [HS.out] at he'
                          obtain rfl : e = e' := by omega
                          exact hb0 (pbase_nonneg hL'.out.base HB.out hA.2.1)
                        have HNo := Lib.hid hno
                        clear hno
                        go_wp2_with fail
                        go_roundw
                        case rel => exact ⟨v + 1, L, by omega, by omega, by go_num, hP2, pmid_skip hL'.out HNo.out⟩
                        case measure => simp [intOf]; omega
                    · go_wp2_with fail
                      go_roundw
                      case rel => exact ⟨v + 1, L, by omega, by omega, by go_num, hP2, pmid_skip hL'.out (fun e' _ hA => by have := pbase_nonneg hL'.out.base HA.out hA.1; omega)⟩
                      case measure => simp [intOf]; omega
                · go_wp2_with fail
                  go_roundw
                  case rel => 
                    obtain rfl : v = 5 := by omega
                    exact ⟨j + 1, L, by omega, by go_num, hP, pmid_next hL'.out⟩
                  case measure => simp [intOf]; omega
            · go_wp2_with fail
              go_roundw
              case rel =>
                obtain rfl : j = R.C.length := by omega
                exact ⟨K + 1, L, by omega, by go_num, hP, pmid_end hL'.out⟩
              case measure => simp [intOf]; omega
        · go_wp2_with fail
          go_ret
          obtain rfl : K = R.C.length := by omega
          exact ⟨_, _, L, rfl, hL'.out, own_mono hP.own (by omega), hP.bel⟩

/-! ### partsMany -/
theorem roots_le (L : List Int) (k : Nat) : ((List.range k).countP fun c : Nat => decide (L[c]? = some (c : Int))) ≤ k := by
  have := List.countP_le_length (p := fun c : Nat => decide (L[c]? = some (c : Int))) (l := List.range k)
  simpa using this
theorem roots_succ (L : List Int) (k : Nat) (m : Int) (h : L[k]? = some m) : ((List.range (k + 1)).countP fun c : Nat => decide (L[c]? = some (c : Int))) = ((List.range k).countP fun c : Nat => decide (L[c]? = some (c : Int))) + if ((k : Int) == m) = true then 1 else 0 := by
  rw [List.range_succ, List.countP_append]
  by_cases hkm : m = (k : Int)
  · subst hkm; simp [h]
  · have : ¬ ((k : Int) = m) := fun e => hkm e.symm
    simp [h, hkm, this]

theorem partsMany_any (R : Reg) (hR : R.ok) (A : Option Addr) (c B : Nat) (w : World) (hr : Reads w B 1 A R.C.length (R.C.map Value.bool)) (hB : B ≤ w.heap.size) :
    Calls Try.prog 153 #[.agg #[.int .i64 R.W, .int .i64 R.T, .slice A R.C.length c]] w fun e w' => ∃ m : Nat, e = .returned (.int .i64 m) ∧ (m = 1 ↔ InConn R) ∧ Below w.heap.size w w' := by
  have hl := len_bd hR
  obtain ⟨hl1, hl2⟩ := hl
  go_enter Try.func153, Try.ntmps153
  go_wp2_with fail
  refine (parts_any R hR A c B _ (hr.alloc hB _) (by simp; omega)).mono ?_
  rintro e w1 ⟨g, cc, L, rfl, hL, hown, hb⟩
  have hlen : L.length = R.C.length := hL.len
  simp only [World.size_alloc] at hown hb
  have hbw : Below w.heap.size w w1 := ((Below.refl _ _).alloc (Nat.le_refl _) _).trans (hb.mono (by omega))
  have H1 := Lib.hid hlen
  clear hlen hb hr
  go_wp2_with fail
  go_loop [3, 9] (fun n i => ∃ k : Nat, k ≤ R.C.length ∧ i = .int .i64 k ∧ n = .int .i64 (((List.range k).countP fun c : Nat => decide (L[c]? = some (c : Int)) : Nat) : Int)) (fun _ i => R.C.length - (intOf i).toNat)
  case atStart => exact ⟨0, Nat.zero_le _, rfl, rfl⟩
  case round =>
    obtain ⟨k, hk, rfl, rfl⟩ := hrel
    have hle := roots_le L k
    by_cases hlt : k < R.C.length
    · obtain ⟨m, hm⟩ : ∃ m, L[k]? = some m := ⟨_, List.getElem?_eq_getElem (by rw [H1.out]; omega)⟩
      have hs := Lib.hid (roots_succ L k m hm)
      have hc := hown.cellAt k (by omega)
      rw [List.getElem?_map, hm] at hc
      simp only [Option.map_some] at hc
      generalize ((List.range k).countP fun c : Nat => decide (L[c]? = some (c : Int))) = s at hle hs
      clear hm
      go_wp2
      all_goals
        go_round
        case rel => exact ⟨k + 1, by omega, by go_num, by rw [hs.out]; simp [*]⟩
        case measure => simp [intOf]; omega
    · go_wp2
      go_ret
      obtain rfl : k = R.C.length := by omega
      refine ⟨_, rfl, ?_, hbw⟩
      rw [← H1.out]
      exact roots_one hR hL

end Go.Proofs.Ythepfpiphlfgnaa

/-
  YthepfpiphlfgnaaApp: append of one element to a row of the call's own; a call with a boxed region and one growing row.
-/
namespace Go.Proofs.Ythepfpiphlfgnaa
open Go.RowKit

theorem own_grown {w w' : World} {base : Nat} {e : TypeId} {size : Nat} {v : Value} {n : Nat} {xs : List Value} {row : Option Nat} (h : w.ownsRow base e size v n xs) (hg : w.grownBy w' row) (hne : v.ownBlock = none ∨ v.ownBlock ≠ row) : w'.ownsRow base e size v n xs := h.kept hg hne

/-- append of one element: the row's new value lies at the head of a block, the old one or a new one. -/
theorem run_app {w : World} (base : Nat) (t e : TypeId) (z : Value) (bytes : Nat) (ht : Try.prog.underlying t = some (.slice e)) (hinfo : (Try.prog.info? e).map (fun i => (i.zero, i.size, i.bytes)) = some (some z, 1, bytes)) (hzs : z.cells.size = 1) (hb64 : bytes ≤ 64)
    (ty : TypeId) (v : Value) (n : Nat) (xs : List Value) (hown : w.ownsRow base e 1 v n xs) (h : Nat) (u : Value) (hc : w.cell? ⟨h, 0, none⟩ = some u) (hu : u.oneCell' = true) (hn : n ≤ 4294967296) (hbase : base ≤ w.heap.size) :
    ∃ g c w', (Builtin.append_ #[t, t] ty #[v, .slice (some ⟨h, 0, none⟩) 1 1]).run Try.prog w = .ok (.slice (some ⟨g, 0, none⟩) (n + 1) c) w' ∧ w'.ownsRow base e 1 (.slice (some ⟨g, 0, none⟩) (n + 1) c) (n + 1) (xs ++ [u]) ∧ w.grownBy w' v.ownBlock ∧ (some g = v.ownBlock ∨ g = w.heap.size) ∧ base ≤ g ∧ n + 1 ≤ c := by
  obtain ⟨i0, hi, hz, hs, hby⟩ := info_parts hinfo
  have hr : Reads w w.heap.size 1 (some ⟨h, 0, none⟩) 1 [u] := ⟨by simp, fun _ => ⟨_, rfl, World.block_lt_of_cell? w _ hc, fun j x hj => by
    match j, hj with
    | 0, hj => simp at hj; subst hj; exact hc⟩⟩
  have hm : (n + 1) * bytes ≤ (4294967296 + 1) * 64 := Nat.mul_le_mul (by omega) hb64
  obtain ⟨v', w', h1, h2, h3, h4⟩ := run_append_any (P := Try.prog) w base t ty e i0 z 1 bytes ht hi hz hs hby hzs (by omega) v n xs hown w.heap.size (some ⟨h, 0, none⟩) 1 1 [u] hr (by intro x hx; simp at hx; subst hx; exact hu) (by simp only [maxLen]; omega) (by omega) hbase
  obtain ⟨g, c, rfl, hc', hb', _⟩ := own_shape h2 (by omega)
  refine ⟨g, c, w', h1, h2, h3, ?_, hb', hc'⟩
  rcases h4 with h4 | h4
  · exact .inl h4
  · exact .inr (by simpa [Value.ownBlock] using h4)

theorem wpList_app {w : World} {ops : Array Oper} {rest : List Oper} {o : Oper} {a : Act} {Q : Exit → Act → World → Prop} (hgd : o.guard = none) (s x : Operand) (t : TypeId)
    (ho : o.op = .call { callee := .builtin .append, args := #[s, x], argTypes := #[t, t] })
    (base : Nat) (e : TypeId) (z : Value) (bytes : Nat) (ht : Try.prog.underlying t = some (.slice e)) (hinfo : (Try.prog.info? e).map (fun i => (i.zero, i.size, i.bytes)) = some (some z, 1, bytes)) (hzs : z.cells.size = 1) (hb64 : bytes ≤ 64)
    (v : Value) (n : Nat) (xs : List Value) (hs : a.eval s = v) (hown : w.ownsRow base e 1 v n xs) (h : Nat) (u : Value) (hx : a.eval x = .slice (some ⟨h, 0, none⟩) 1 1) (hc : w.cell? ⟨h, 0, none⟩ = some u) (hu : u.oneCell' = true) (hn : n ≤ 4294967296) (hbase : base ≤ w.heap.size)
    (hK : ∀ g c w', w'.ownsRow base e 1 (.slice (some ⟨g, 0, none⟩) (n + 1) c) (n + 1) (xs ++ [u]) → w.grownBy w' v.ownBlock → (some g = v.ownBlock ∨ g = w.heap.size) → base ≤ g → n + 1 ≤ c →
      wpList Try.prog ops Q rest (a.put o.dst (.slice (some ⟨g, 0, none⟩) (n + 1) c)) w') : wpList Try.prog ops Q (o :: rest) a w := by
  refine wpList_plain hgd fun _ hK' => ?_
  obtain ⟨g, c, w', hrun, h2, h3, h4, h5, h6⟩ := run_app base t e z bytes ht hinfo hzs hb64 o.type v n xs hown h u hc hu hn hbase
  unfold Oper.wp execOp
  simp only [ho, resolve, invoke, builtin, Sem.run_bind, Sem.run_pure, Result.andThen_ok, List.map_toArray, List.map_cons, List.map_nil, hs, hx, hrun]
  exact hK' _ _ (hK g c w' h2 h3 h4 h5 h6)

end Go.Proofs.Ythepfpiphlfgnaa
