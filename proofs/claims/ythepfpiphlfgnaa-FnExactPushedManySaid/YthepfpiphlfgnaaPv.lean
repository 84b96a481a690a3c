/-
  YthepfpiphlfgnaaPv: the texts Open, Push, OpenP, PV, PVI in one file.
-/
import Derived.ProofKit
import Derived.OpenShut
import Derived.Deep.Slices
import Derived.Deep.Fields
import Derived.Deep.Strs
import Derived.Lib.SmallJoins
import Derived.ChangeSame
import Derived.StillTailTactics
import Derived.Deep.RegionHeld3
import Derived.IntWalk
import Derived.Laws.EntriesVeiled
import Derived.Test.YthepfpiphlfgnaaWa
import Derived.Test.YthepfpiphlfgnaaRows
import Derived.Test.YthepfpiphlfgnaaGlue
import Derived.Test.YthepfpiphlfgnaaPo

/-
  YthepfpiphlfgnaaOpen: the arguments of the laws, opened: what a slice, a region or a list of pushes that comes in reads as in memory; and a law's last step.
-/
namespace Go.Proofs.Ythepfpiphlfgnaa
open Go.RowKit Go.WideShapes Go.ChangeShapes Go.Deep Go.Joins

section
variable {H : Type} {enc : TypeId × Value → H} {P : Program} {w : World} {sp : Nat → Bool} {held : Bool}

theorem lt_of_cell {a : Addr} {v : Value} (h : w.cell? a = some v) : a.block < w.heap.size := World.block_lt_of_cell? w a h

theorem reads_of_cells {A : Addr} {n : Nat} {xs : List Value} (hl : xs.length = n) (h : ∀ i u, xs[i]? = some u → w.cell? (A.add i) = some u) : Reads w w.heap.size 1 (some A) n xs := by
  refine ⟨by omega, fun hn => ⟨A, rfl, ?_, h⟩⟩
  have h0 := lt_of_cell (h 0 (xs[0]'(by omega)) (List.getElem?_eq_getElem (by omega)))
  rwa [block_of_add] at h0

/-- A slice of numbers. -/
theorem open_ints_r {r : Reach} {b0 : Nat} {t e : TypeId} {k : IntKind} {v : Value} {d : DataW H} {p : List MemPlace} (ht : P.underlying t = some (.slice e)) (he : P.underlying e = some (.int k)) (hc : P.cellsOf e = 1)
    (hv : Value.okWide P w r b0 t v) (h : DataW.Trod enc P w 0 sp held t v d p) :
    ∃ (A : Option Addr) (n c : Nat) (zs : List Int), v = .slice A n c ∧ n ≤ c ∧ n ≤ maxLen ∧ zs.length = n ∧ Reads w w.heap.size 1 A n (zs.map (Value.int k)) ∧ ∀ z ∈ zs, (Lit.int k z).wf = true := by
  obtain ⟨a0, len, cap, rfl⟩ := okWide_slice ht hv
  obtain ⟨fuel, hf⟩ := h
  rcases open_ints ht he hc hf with ⟨hcs, hx⟩ | ⟨a, len', cap', zs, hcs, _, hl, hm, hz, hx, hcell, hwz⟩
  · simp only [Value.cells] at hcs
    have : (Value.slice a0 len cap) = .slice none 0 0 := by simpa using hcs
    injection this with h1 h2 h3
    subst h1 h2 h3
    exact ⟨none, 0, 0, [], rfl, Nat.le_refl _, by simp [maxLen], rfl, Reads.none_, by simp⟩
  · have : (Value.slice a0 len cap) = .slice (some a) len' cap' := by simpa [Value.cells] using hcs
    injection this with h1 h2 h3
    subst h1 h2 h3
    have hle : len ≤ zs.length := by split at hz <;> omega
    refine ⟨some a, len, cap, zs.take len, rfl, hl, by omega, by simp; omega, reads_of_cells (by simp; omega) (fun i u hu => ?_), fun z hz' => hwz z (List.mem_of_mem_take hz')⟩
    have hi : i < len := by
      rcases Nat.lt_or_ge i len with h | h
      · exact h
      · rw [List.getElem?_eq_none (by simp; omega)] at hu; cases hu
    rw [hcell i (by omega)]
    rw [List.getElem?_map, List.getElem?_take_of_lt hi] at hu
    simp only [List.getElem?_eq_getElem (show i < zs.length by omega), Option.map_some] at hu
    rw [← hu]
    simp [List.getD, List.getElem?_eq_getElem (show i < zs.length by omega)]

def boolOf : Value → Bool | .bool b => b | _ => false

/-- A slice of truths, in one cell. -/
theorem open_bools_c {t e : TypeId} {fuel : Nat} {v : Value} {x : DataW H × List MemPlace} (ht : P.underlying t = some (.slice e)) (he : P.underlying e = some .bool) (hc : P.cellsOf e = 1)
    (h : DataW.trod enc P w 0 sp held fuel t [v] = some x) :
    ∃ (A : Option Addr) (n c : Nat) (bs : List Bool), v = .slice A n c ∧ n ≤ c ∧ n ≤ maxLen ∧ bs.length = n ∧ Reads w w.heap.size 1 A n (bs.map Value.bool) := by
  rcases open_slice1 ht hc h with ⟨hcs, hx⟩ | ⟨a, len, cap, m, n, V, D, Pl, hcs, _, hl, hm, hmm, hx, hel⟩
  · have : v = .slice none 0 0 := by simpa using hcs
    subst this
    exact ⟨none, 0, 0, [], rfl, Nat.le_refl _, by simp [maxLen], rfl, Reads.none_⟩
  · have : v = .slice (some a) len cap := by simpa using hcs
    subst this
    have hle : len ≤ m := by split at hmm <;> omega
    refine ⟨some a, len, cap, (List.range len).map fun i => boolOf (V i), rfl, hl, by omega, by simp, reads_of_cells (by simp) (fun i u hu => ?_)⟩
    have hi : i < len := by
      rcases Nat.lt_or_ge i len with h | h
      · exact h
      · rw [List.getElem?_eq_none (by simp; omega)] at hu; cases hu
    obtain ⟨h1, h2⟩ := hel i (by omega)
    obtain ⟨b, hb, _⟩ := DataW.trod_bool he h2
    have hb' : V i = .bool b := by simpa using hb
    simp [hi, hb', boolOf] at hu
    rw [h1, hb', ← hu]

/-- A region by value: two numbers and a slice of truths. -/
theorem open_region {r : Reach} {b0 : Nat} {t eb : TypeId} {f0 f1 f2 : Field} {v : Value} {d : DataW H} {p : List MemPlace} (hs : P.underlying t = some (.struct #[f0, f1, f2])) (hone : oneCellFields P #[f0, f1, f2] = true) (hC : P.cellsOf t = 3)
    (e0 : P.underlying f0.type = some (.int .i64)) (e1 : P.underlying f1.type = some (.int .i64)) (e2 : P.underlying f2.type = some (.slice eb)) (e3 : P.underlying eb = some .bool) (e4 : P.cellsOf eb = 1)
    (hv : Value.okWide P w r b0 t v) (h : DataW.Trod enc P w 0 sp held t v d p) :
    ∃ (W T : Int) (A : Option Addr) (n c : Nat) (bs : List Bool), v = .agg #[.int .i64 W, .int .i64 T, .slice A n c] ∧ (Lit.int .i64 W).wf = true ∧ (Lit.int .i64 T).wf = true ∧ n ≤ c ∧ n ≤ maxLen ∧ bs.length = n ∧ Reads w w.heap.size 1 A n (bs.map Value.bool) := by
  obtain ⟨v0, v1, v2, y0, y1, y2, m, rfl, _, _, h0, h1, h2⟩ := open_agg3 hs hone hC hv h
  obtain ⟨W, q0, _, w0⟩ := DataW.trod_int e0 h0
  obtain ⟨T, q1, _, w1⟩ := DataW.trod_int e1 h1
  obtain ⟨A, n, c, bs, rfl, hl, hm, hb, hr⟩ := open_bools_c e2 e3 e4 h2
  have q0' : v0 = .int .i64 W := by simpa using q0
  have q1' : v1 = .int .i64 T := by simpa using q1
  subst q0' q1'
  exact ⟨W, T, A, n, c, bs, rfl, w0, w1, hl, hm, hb, hr⟩
end

section
variable {H : Type} {enc : TypeId × Value → H} {P : Program}
/-- A law's last step, where the call's world is known by 'Below' alone. -/
theorem post_of_below {f : Func} {s : ChangeSpec} {apart fresh handsOn again : Bool} {W W' : World} {args : Array Value} {v : Value} {ds gs : List (DataW H)} {before pa pv : List MemPlace}
    (hW : DataW.Whole enc P f.params.toList s.vars apart W args.toList ds gs before)
    (hres : ∀ (b : Nat) (sp : Nat → Bool) (hd : Bool), DataW.TrodAll enc P W' b sp hd f.resultTypes.toList (v.resultList f.resultTypes.size) (s.fn H (ds ++ gs)).results [])
    (hargs : ∀ sp : Nat → Bool, (∀ p ∈ before, sp p.block = true) → DataW.TrodAll enc P W' 0 sp true f.params.toList args.toList (s.fn H (ds ++ gs)).args pa)
    (hvars : ∀ sp : Nat → Bool, (∀ p ∈ before, sp p.block = true) → DataW.TrodVars enc P W' sp s.vars (s.fn H (ds ++ gs)).vars pv)
    (hps : before = pa ++ pv) (hb : Below W.heap.size W W')
    (hok : ∀ (j : Nat) (t : TypeId) (r : Value), f.resultTypes[j]? = some t → (v.resultList f.resultTypes.size)[j]? = some r → Value.okWide P W' .any 0 t r) :
    s.post enc P f apart fresh handsOn again W args v W' := by
  have hlt : ∀ p ∈ before, p.block < W.heap.size := fun p hp => hW.lt p hp
  have hold : ∀ p ∈ before, (fun b => decide (b < W.heap.size)) p.block = true := fun p hp => by simpa using hlt p hp
  refine ⟨ds, gs, before, [], pa, pv, hW, hres _ _ _, hargs _ hold, hvars _ hold, World.keptBut_mono (fun p hp => ⟨hp, ?_⟩) (hb.frame (· ∈ before)), fun _ => ?_⟩
  · rw [hps, List.mem_append] at hp
    exact Or.inr hp
  · obtain ⟨_, _, _, _, _, hz, hn⟩ := hW
    refine ⟨hok, _, _, ([] ++ pa) ++ pv, ⟨[] ++ pa, pv, trodAll_append (hargs _ (fun _ _ => rfl)) (hres _ _ _), hvars _ (fun _ _ => rfl), rfl, ?_, ?_⟩, ?_⟩
    · intro b off hp
      have hin : MemPlace.cell b off ∈ before := by rw [hps]; simpa using hp
      rw [hb.frozen (hlt _ hin)]
      exact hz b off hin
    · intro ha
      have := hn ha
      rw [hps] at this
      simpa using this
    · intro p hp _
      rw [hps]
      simpa using hp

/-- An argument reads behind the call as before it. -/
theorem arg_stays {t : TypeId} (hl : laidOutB P = true) (hr : P.readableRec t = true) (hrow : t < P.types.size) {W W' : World} {v : Value} {d : DataW H} {ps before : List MemPlace}
    (h : DataW.Trod enc P W 0 (fun _ => true) true t v d ps) (hb : Below W.heap.size W W') (hin : ∀ x ∈ ps, x ∈ before) (hlt : ∀ x ∈ before, x.block < W.heap.size) {sp : Nat → Bool} (hsp : ∀ p ∈ before, sp p.block = true) :
    DataW.Trod enc P W' 0 sp true t v d ps :=
  WideElems.Trod_stays hl hr hrow h (fun x hx => hb.same (hlt x (hin x hx))) (fun x hx => hsp x (hin x hx))
end

end Go.Proofs.Ythepfpiphlfgnaa

/-
  YthepfpiphlfgnaaPush: lists of pushes (a corner's number, a truth): how they lie in memory, and what the exact laws' own functions do with them.
-/
namespace Go.Proofs.Ythepfpiphlfgnaa
open Go.RowKit

/-- A list of pushes, in cells. -/
def pc (ps : List (Int × Bool)) : List Value := ps.flatMap fun p => [.int .i64 p.1, .bool p.2]
theorem pc_cons (p : Int × Bool) (ps : List (Int × Bool)) : pc (p :: ps) = .int .i64 p.1 :: .bool p.2 :: pc ps := rfl
theorem pc_len (ps : List (Int × Bool)) : (pc ps).length = ps.length * 2 := by
  induction ps with
  | nil => rfl
  | cons p ps ih => rw [pc_cons]; simp [ih]; omega
theorem pc_at {ps : List (Int × Bool)} {k : Nat} {p : Int × Bool} (h : ps[k]? = some p) : (pc ps)[k * 2]? = some (.int .i64 p.1) ∧ (pc ps)[k * 2 + 1]? = some (.bool p.2) := by
  induction ps generalizing k with
  | nil => simp at h
  | cons q ps ih =>
    rw [pc_cons]
    cases k with
    | zero => simp at h; subst h; simp
    | succ k =>
      have := ih (by simpa using h)
      rw [show (k + 1) * 2 = k * 2 + 1 + 1 by omega]
      simpa using this
theorem pc_set (ps : List (Int × Bool)) (k : Nat) (z : Int) (b : Bool) (hk : k < ps.length) : pc (ps.set k (z, b)) = ((pc ps).set (k * 2) (.int .i64 z)).set (k * 2 + 1) (.bool b) := by
  induction ps generalizing k with
  | nil => simp at hk
  | cons q ps ih =>
    cases k with
    | zero => simp [pc_cons]
    | succ k =>
      rw [show (k + 1) * 2 = k * 2 + 1 + 1 by omega]
      simp only [List.set_cons_succ, pc_cons]
      rw [ih k (by simpa using hk)]

/-- A push that is read: its two cells. -/
theorem Reads.push {w : World} {B n k : Nat} {A : Option Addr} {ps : List (Int × Bool)} (h : Reads w B 2 A n (pc ps)) (hn : ps.length = n) (hk : k < n) :
    ∃ ad p, A = some ad ∧ ad.block < B ∧ ps[k]? = some p ∧ w.cell? (ad.add (k * 2)) = some (.int .i64 p.1) ∧ w.cell? ⟨(ad.add (k * 2)).block, (ad.add (k * 2)).off + 1, none⟩ = some (.bool p.2) := by
  obtain ⟨ad, e, hb, hc⟩ := h.2 (by omega)
  have hp : ps[k]? = some (ps[k]'(by omega)) := List.getElem?_eq_getElem (by omega)
  have h2 := pc_at hp
  refine ⟨ad, _, e, hb, hp, hc _ _ h2.1, ?_⟩
  have := hc _ _ h2.2
  rw [← add_of_add] at this
  exact this

theorem own_push_len {w : World} {base n : Nat} {e : TypeId} {v : Value} {ps : List (Int × Bool)} (h : w.ownsRow base e 2 v n (pc ps)) : ps.length = n := by
  have := h.1
  rw [pc_len] at this
  omega
/-- A push of an owned row: its two cells. -/
theorem own_push {w : World} {base g n c k : Nat} {e : TypeId} {ps : List (Int × Bool)} (h : w.ownsRow base e 2 (.slice (some ⟨g, 0, none⟩) n c) n (pc ps)) (hk : k < n) :
    ∃ p, ps[k]? = some p ∧ w.cell? ⟨g, k * 2, none⟩ = some (.int .i64 p.1) ∧ w.cell? ⟨g, k * 2 + 1, none⟩ = some (.bool p.2) ∧ w.frozen? ⟨g, k * 2, none⟩ = false ∧ w.frozen? ⟨g, k * 2 + 1, none⟩ = false := by
  have hl := own_push_len h
  have hp : ps[k]? = some (ps[k]'(by omega)) := List.getElem?_eq_getElem (by omega)
  have h2 := pc_at hp
  exact ⟨_, hp, (h.cellAt _ (by omega)).trans h2.1, (h.cellAt _ (by omega)).trans h2.2, h.frozenAt _, h.frozenAt _⟩
theorem own_push_set {w : World} {base g n c k : Nat} {e : TypeId} {ps : List (Int × Bool)} (h : w.ownsRow base e 2 (.slice (some ⟨g, 0, none⟩) n c) n (pc ps)) (hk : k < n) (z : Int) (b : Bool) :
    ((w.setCell ⟨g, k * 2, none⟩ (.int .i64 z)).setCell ⟨g, k * 2 + 1, none⟩ (.bool b)).ownsRow base e 2 (.slice (some ⟨g, 0, none⟩) n c) n (pc (ps.set k (z, b))) := by
  have hl := own_push_len h
  have h1 := (h.stored (k * 2) (.int .i64 z)).1
  have h2 := (h1.stored (k * 2 + 1) (.bool b)).1
  rwa [pc_set _ _ _ _ (by omega)]

theorem toPush_any (z : Int) (b : Bool) (w : World) :
    Calls Try.prog 122 #[.agg #[.int .i64 z, .bool b]] w fun e w' => e = .returned (.agg #[.int .i64 z, .bool b]) ∧ Below w.heap.size w w' := by
  go_enter Try.func122, Try.ntmps122
  go_wp2
  refine bodyPost_ret (v := .agg #[.int .i64 z, .bool b]) (by simp [results, Try.results122, go_sem]) rfl ⟨rfl, ?_⟩
  exact (((Below.refl _ _).alloc (Nat.le_refl _) _).alloc (by simp) _).alloc (by simp; omega) _

theorem eqPush_same (z : Int) (b : Bool) (w : World) :
    Calls Try.prog 127 #[.agg #[.int .i64 z, .bool b], .agg #[.int .i64 z, .bool b]] w fun e w' => e = .returned (.bool true) ∧ Below w.heap.size w w' := by
  have h1 : (z != z) = false := by simp
  have h2 : (b != b) = false := by cases b <;> rfl
  go_enter Try.func127, Try.ntmps127
  go_wp2
  go_ret
  exact ⟨rfl, ((Below.refl _ _).alloc (Nat.le_refl _) _).alloc (by simp) _⟩

theorem szPushS_any (A : Option Addr) (n c : Nat) (left : Int) (w : World) (hn : n ≤ 9223372036854775807) (hl : 0 ≤ left ∧ left ≤ 1048576) :
    Calls Try.prog 54 #[.slice A n c, .int .i64 left] w fun e w' => e = .returned (.int .i64 (if left - n < 0 then -1 else left - n)) ∧ w = w' := by
  obtain ⟨h0, h1⟩ := hl
  by_cases h : left - n < 0
  · have hp : (if left - (n : Int) < 0 then (-1 : Int) else left - n) = -1 := if_pos h
    have HP := Lib.hid hp
    clear hp
    go_enter Try.func54, Try.ntmps54
    go_wp2
    go_ret
    exact ⟨ret_int (by first | rfl | exact HP.out.symm), rfl⟩
  · have hp : (if left - (n : Int) < 0 then (-1 : Int) else left - n) = left - n := if_neg h
    have HP := Lib.hid hp
    clear hp
    go_enter Try.func54, Try.ntmps54
    go_wp2
    go_ret
    exact ⟨ret_int (by first | rfl | exact HP.out.symm), rfl⟩

theorem info_push : (Try.prog.info? 100).map (fun i => (i.zero, i.size, i.bytes)) = some (some (.agg #[.int .i64 0, .bool false]), 2, 16) := by kernel_rfl

theorem pc_rep (n : Nat) : (madeCells (Value.agg #[.int .i64 0, .bool false]).cells (n * 2)).toList = pc (List.replicate n (0, false)) := by
  have hl : (pc (List.replicate n ((0 : Int), false))).length = n * 2 := by rw [pc_len]; simp
  apply List.ext_getElem?
  intro i
  by_cases hi : i < n * 2
  · have hp : (List.replicate n ((0 : Int), false))[i / 2]? = some (0, false) := by rw [List.getElem?_replicate, if_pos (by omega)]
    obtain ⟨h1, h2⟩ := pc_at hp
    rcases Nat.mod_two_eq_zero_or_one i with h | h
    · rw [show i / 2 * 2 = i by omega] at h1
      rw [h1]
      simp [madeCells, Value.cells, hi, h]
    · rw [show i / 2 * 2 + 1 = i by omega] at h2
      rw [h2]
      simp [madeCells, Value.cells, hi, h]
  · rw [List.getElem?_eq_none (by simp [size_madeCells]; omega), List.getElem?_eq_none (by omega)]
/-- 'make([]Push, n)', for every world. -/
theorem make_pushes (n : Nat) (hn : n ≤ 4194304) (w : World) :
    ∃ w', (Instr.makeSlice 59 (.int .i64 (n : Int)) (.int .i64 (n : Int))).run Try.prog w = .ok (.slice (some ⟨w.heap.size, 0, none⟩) n n) w' ∧
      w'.ownsRow w.heap.size 100 2 (.slice (some ⟨w.heap.size, 0, none⟩) n n) n (pc (List.replicate n (0, false))) ∧ Below w.heap.size w w' := by
  obtain ⟨i0, hi, hz, hs, hby⟩ := info_parts info_push
  obtain ⟨w', h1, h2, h3⟩ := run_make_full (P := Try.prog) w w.heap.size 59 100 i0 _ 2 Try.underlying59 hi hz hs .i64 .i64 n (by rw [hby]; omega) (by simp only [maxLen]; omega) (Nat.le_refl _)
  refine ⟨w', h1, ?_, (Below.refl _ _).grown h3 (Nat.le_refl _) (by simp)⟩
  rw [pc_rep] at h2
  exact h2

/-- .. at the operation. -/
theorem wpList_make_pushes {w : World} {ops : Array Oper} {rest : List Oper} {o : Oper} {a : Act} {Q : Exit → Act → World → Prop}
    (hg : o.guard = none) (l c : Operand) (hop : o.op = Op.makeSlice 59 l c) (n : Nat) (hn : n ≤ 4194304) {L C : Int} (hl : a.eval l = .int .i64 L) (hc : a.eval c = .int .i64 C) (hL : L = (n : Int)) (hC : C = (n : Int))
    (hK : ∀ w', w'.ownsRow w.heap.size 100 2 (.slice (some ⟨w.heap.size, 0, none⟩) n n) n (pc (List.replicate n (0, false))) → Below w.heap.size w w' →
      wpList Try.prog ops Q rest (a.put o.dst (.slice (some ⟨w.heap.size, 0, none⟩) n n)) w') :
    wpList Try.prog ops Q (o :: rest) a w := by
  refine wpList_plain hg fun K hK' => ?_
  obtain ⟨w', hrun, r1, r2⟩ := make_pushes n hn w
  subst hL
  subst hC
  unfold Oper.wp
  simp [execOp, hop, hl, hc, hrun, Result.andThen]
  exact hK' _ _ (hK w' r1 r2)

/-- A fresh row of pushes. -/
def PushesRet (w : World) (ps : List (Int × Bool)) (e : Ending) (w' : World) : Prop :=
  ∃ g, e = .returned (.slice (some ⟨g, 0, none⟩) ps.length ps.length) ∧ w'.ownsRow w.heap.size 100 2 (.slice (some ⟨g, 0, none⟩) ps.length ps.length) ps.length (pc ps) ∧ Below w.heap.size w w'

theorem toPushS_any (A : Option Addr) (c B : Nat) (ps : List (Int × Bool)) (w : World) (hr : Reads w B 2 A ps.length (pc ps)) (hB : B ≤ w.heap.size) (hn : ps.length ≤ 1048576) :
    Calls Try.prog 57 #[.slice A ps.length c] w (PushesRet w ps) := by
  go_enter Try.func57, Try.ntmps57
  go_wp2_with (at_make; refine wpList_make_pushes rfl _ _ rfl ps.length (by omega) rfl rfl rfl rfl ?_; intro w1 hown hb)
  have hr1 := hr.below (hb.mono hB)
  go_loopg [4] ps.length (fun r i wr => ∃ (k : Nat) (L : List (Int × Bool)), k + r = ps.length ∧ i = .int .i64 (k : Nat) ∧ L.length = ps.length ∧ (∀ j, j < k → L[j]? = ps[j]?) ∧ wr.ownsRow w.heap.size 100 2 (.slice (some ⟨w.heap.size, 0, none⟩) ps.length ps.length) ps.length (pc L) ∧ Below w.heap.size w wr)
  case atStart => exact ⟨0, _, by omega, rfl, by simp, fun j hj => by omega, hown, hb⟩
  case round =>
    clear hown hb hr1
    obtain ⟨k, L, hk, rfl, hl, hL, hown, hb⟩ := hrel
    have HK := Lib.hid hk
    have HL := Lib.hid hL
    have HLen := Lib.hid hl
    clear hL hl hk
    by_cases hlt : k < ps.length
    · obtain ⟨ad, ⟨z, b⟩, rfl, hab, hp, hcell, hcell2⟩ := (hr.below (hb.mono hB)).push rfl hlt
      have HB := Lib.hid hp
      clear hp
      dsimp only at hcell hcell2
      go_wp2_with (go_at_call 122; refine (toPush_any z b _).mono ?_; rintro e w2 ⟨rfl, hb2⟩; have hown2 := own_below hown hb2 (Nat.le_refl _); obtain ⟨p0, _, c0, c1, f0, f1⟩ := own_push hown2 hlt)
      go_roundg (ps.length - (k + 1))
      case measure => have := HK.out; omega
      case rel =>
        have hs := set_next HLen.out HB.out HL.out
        have hle := hb.size
        exact ⟨k + 1, L.set k (z, b), by omega, by go_num, hs.1, hs.2, own_push_set hown2 hlt z b, ((hb.trans (hb2.mono hle)).setCell (by simp) _).setCell (by simp) _⟩
    · go_wp2
      go_ret
      obtain rfl : k = ps.length := by have := HK.out; omega
      have := list_all HLen.out HL.out
      subst this
      exact ⟨_, rfl, hown, hb⟩

set_option maxRecDepth 20000 in
theorem eqPushS_same (A A' : Option Addr) (c c' B B' : Nat) (ps : List (Int × Bool)) (w : World) (hr : Reads w B 2 A ps.length (pc ps)) (hr' : Reads w B' 2 A' ps.length (pc ps)) (hB : B ≤ w.heap.size) (hB' : B' ≤ w.heap.size) (hn : ps.length ≤ 1048576) :
    Calls Try.prog 60 #[.slice A ps.length c, .slice A' ps.length c'] w fun e w' => e = .returned (.bool true) ∧ Below w.heap.size w w' := by
  have hne : ((ps.length : Int) != (ps.length : Int)) = false := by simp
  go_enter Try.func60, Try.ntmps60
  go_wp2
  go_loopg [5] ps.length (fun r i wr => ∃ k : Nat, k + r = ps.length ∧ i = .int .i64 (k : Nat) ∧ Below w.heap.size w wr)
  case atStart => exact ⟨0, by omega, rfl, Below.refl _ _⟩
  case round =>
    obtain ⟨k, hk, rfl, hb⟩ := hrel
    have HK := Lib.hid hk
    clear hk
    by_cases hlt : k < ps.length
    · obtain ⟨ad, ⟨z, b⟩, rfl, hab, hp, hcell, hcell2⟩ := (hr.below (hb.mono hB)).push rfl hlt
      obtain ⟨ad', ⟨z', b'⟩, rfl, hab', hp', hcell', hcell2'⟩ := (hr'.below (hb.mono hB')).push rfl hlt
      rw [hp] at hp'
      obtain ⟨rfl, rfl⟩ : z = z' ∧ b = b' := by simpa using hp'
      clear hp hp'
      dsimp only at hcell hcell2 hcell' hcell2'
      clear hne
      go_upto_region 6 with fail
      refine wp_region_still_tail 8 (by kernel_rfl) (by kernel_rfl) ?_
      simp only [List.take_succ_cons, List.take_zero, List.drop_succ_cons, List.drop_zero]
      change wpStill _ _ wr.drew (fun a' => wpList _ _ _ _ a' wr.drew) _ _
      have hbd : Below w.heap.size w wr.drew := hb.drew
      have g1 : wr.drew.cell? (ad.add (k * 2)) = some (Value.int IntKind.i64 z) := hcell
      have g2 : wr.drew.cell? ⟨(ad.add (k * 2)).block, (ad.add (k * 2)).off + 1, none⟩ = some (Value.bool b) := hcell2
      have g3 : wr.drew.cell? (ad'.add (k * 2)) = some (Value.int IntKind.i64 z) := hcell'
      have g4 : wr.drew.cell? ⟨(ad'.add (k * 2)).block, (ad'.add (k * 2)).off + 1, none⟩ = some (Value.bool b) := hcell2'
      generalize wr.drew = wd at hbd g1 g2 g3 g4 ⊢
      clear hcell hcell2 hcell' hcell2'
      still_step
      still_step
      still_step
      still_step
      still_step
      still_step
      still_step
      still_step
      refine wpStill_nil ?_
      go_wp2_with (go_at_call 127; refine (eqPush_same z b _).mono ?_; rintro e w2 ⟨rfl, hb2⟩)
      go_roundg (ps.length - (k + 1))
      case measure => have := HK.out; omega
      case rel => exact ⟨k + 1, by omega, by go_num, hbd.trans (hb2.mono hbd.size)⟩
    · go_wp2
      go_ret
      exact ⟨rfl, hb⟩

/-! ### Marks -/



end Go.Proofs.Ythepfpiphlfgnaa

/-
  YthepfpiphlfgnaaOpenP: an argument that is a list of pushes, or one push, opened. The first block is copied from the guide's page of structs.
-/
namespace Go.Proofs.Ythepfpiphlfgnaa
open Go.RowKit Go.WideShapes Go.ChangeShapes Go.Deep Go.Joins

section
variable {H : Type} {enc : TypeId × Value → H} {P : Program} {w : World} {base : Nat} {spare : Nat → Bool} {held : Bool}
theorem open_slice_fields {t e : TypeId} {fs : Array Field} {fuel : Nat} {cs : List Value} {x : DataW H × List MemPlace} (ht : P.underlying t = some (.slice e)) (he : P.underlying e = some (.struct fs))
    (hone : oneCellFields P fs = true) (hC : P.cellsOf e = fs.size) (h : DataW.trod enc P w base spare held fuel t cs = some x) :
    (cs = [.slice none 0 0] ∧ x = (.nil, [])) ∨
    ∃ (a : Addr) (len cap m : Nat) (D : Nat → DataW H) (Pl : Nat → List MemPlace), cs = [.slice (some a) len cap] ∧ base ≤ a.block ∧ len ≤ cap ∧ cap ≤ maxLen ∧ m = (if spare a.block then cap else len) ∧
      x = (.slice ((List.range len).map D) ((List.range (m - len)).map fun j => D (len + j)), MemPlace.row a (m * fs.size) ++ (List.range m).flatMap Pl) ∧
      ∀ i, i < m → ∃ (ys : List (DataW H × List MemPlace)) (n : Nat), D i = .agg (ys.map (·.1)) ∧ Pl i = ys.flatMap (·.2) ∧ ys.length = fs.size ∧
        ∀ (j : Nat) (f : Field), fs[j]? = some f → ∃ (v : Value) (y : DataW H × List MemPlace), w.cell? (a.add (i * fs.size + j)) = some v ∧ ys[j]? = some y ∧ DataW.trod enc P w base spare held n f.type [v] = some y := by
  rcases open_slice ht h with h0 | ⟨a, len, cap, m, n, D, Pl, hcs, hb, hl, hm, hmm, hx, hi⟩
  · exact .inl h0
  · refine .inr ⟨a, len, cap, m, D, Pl, hcs, hb, hl, hm, hmm, by rw [hC] at hx; exact hx, fun i him => ?_⟩
    obtain ⟨cs', hc, ht'⟩ := hi i him
    rw [hC] at hc
    obtain ⟨ys, n', hn', hy, hlen, hyl, hf⟩ := DataW.trod_struct he ht'
    obtain ⟨_, hcl, hat⟩ := World.cells?_some hc
    simp only [Prod.mk.injEq] at hy
    refine ⟨ys, n', hy.1, hy.2, hyl, fun j f hj => ?_⟩
    obtain ⟨ho, hk⟩ := hone_of hone j f hj
    have hjl : j < fs.size := (Array.getElem?_eq_some_iff.1 hj).1
    have hcell := hat j hjl
    have hv : cs'[j]? = some (cs'[j]'(by omega)) := List.getElem?_eq_getElem (by omega)
    have h1 := hf j f hj
    rw [ho, hk] at h1
    have hone' : (cs'.drop j).take 1 = [cs'[j]'(by omega)] := by
      rw [List.drop_eq_getElem_cons (by omega)]
      rfl
    rw [hone'] at h1
    have hys : ys[j]? = some (ys[j]'(by omega)) := List.getElem?_eq_getElem (by omega)
    refine ⟨_, _, ?_, hys, h1.trans hys⟩
    rw [← Go.Deep.add_add, hcell, hv]
end

section
variable {H : Type} {enc : TypeId × Value → H} {P : Program} {w : World} {sp : Nat → Bool} {held : Bool}

theorem pc_range (f : Nat → Int × Bool) (n : Nat) (i : Nat) (p : Int × Bool) (hi : i < n) (hf : f i = p) : (pc ((List.range n).map f))[i * 2]? = some (.int .i64 p.1) ∧ (pc ((List.range n).map f))[i * 2 + 1]? = some (.bool p.2) :=
  pc_at (by simp [hi, hf])

/-- A list of pushes. -/
theorem open_pushes {r : Reach} {b0 : Nat} {t e : TypeId} {f0 f1 : Field} {v : Value} {d : DataW H} {p : List MemPlace} (ht : P.underlying t = some (.slice e)) (he : P.underlying e = some (.struct #[f0, f1]))
    (hone : oneCellFields P #[f0, f1] = true) (hC : P.cellsOf e = 2) (e0 : P.underlying f0.type = some (.int .i64)) (e1 : P.underlying f1.type = some .bool)
    (hv : Value.okWide P w r b0 t v) (h : DataW.Trod enc P w 0 sp held t v d p) :
    ∃ (A : Option Addr) (n c : Nat) (zs : List (Int × Bool)), v = .slice A n c ∧ n ≤ c ∧ n ≤ maxLen ∧ zs.length = n ∧ Reads w w.heap.size 2 A n (pc zs) ∧ ∀ z ∈ zs, (Lit.int .i64 z.1).wf = true := by
  obtain ⟨a0, len, cap, rfl⟩ := okWide_slice ht hv
  obtain ⟨fuel, hf⟩ := h
  rcases open_slice_fields ht he hone (by rw [hC]; rfl) hf with ⟨hcs, hx⟩ | ⟨a, len', cap', m, D, Pl, hcs, _, hl, hm, hmm, hx, hel⟩
  · simp only [Value.cells] at hcs
    have : (Value.slice a0 len cap) = .slice none 0 0 := by simpa using hcs
    injection this with h1 h2 h3
    subst h1 h2 h3
    exact ⟨none, 0, 0, [], rfl, Nat.le_refl _, by simp [maxLen], rfl, Reads.none_, by simp⟩
  · have : (Value.slice a0 len cap) = .slice (some a) len' cap' := by simpa [Value.cells] using hcs
    injection this with h1 h2 h3
    subst h1 h2 h3
    have hle : len ≤ m := by split at hmm <;> omega
    have hpt : ∀ i : Nat, ∃ q : Int × Bool, i < len → w.cell? (a.add (i * 2)) = some (.int .i64 q.1) ∧ w.cell? (a.add (i * 2 + 1)) = some (.bool q.2) ∧ (Lit.int .i64 q.1).wf = true := by
      intro i
      by_cases hi : i < len
      · obtain ⟨ys, nn, _, _, _, hfd⟩ := hel i (by omega)
        obtain ⟨v0, y0, c0, _, t0⟩ := hfd 0 f0 rfl
        obtain ⟨v1, y1, c1, _, t1⟩ := hfd 1 f1 rfl
        obtain ⟨z, q0, _, w0⟩ := DataW.trod_int e0 t0
        obtain ⟨b, q1, _⟩ := DataW.trod_bool e1 t1
        have q0' : v0 = .int .i64 z := by simpa using q0
        have q1' : v1 = .bool b := by simpa using q1
        subst q0' q1'
        exact ⟨(z, b), fun _ => ⟨c0, c1, w0⟩⟩
      · exact ⟨(0, false), fun h => absurd h hi⟩
    obtain ⟨F, hF⟩ := Classical.axiomOfChoice hpt
    clear hpt
    refine ⟨some a, len, cap, (List.range len).map F, rfl, hl, by omega, by simp, ⟨by rw [pc_len]; simp, fun hn => ?_⟩, ?_⟩
    · refine ⟨a, rfl, ?_, fun j u hu => ?_⟩
      · have h0 := World.block_lt_of_cell? w _ (hF 0 hn).1
        rwa [block_of_add] at h0
      · have hj : j < len * 2 := by
          have := (List.getElem?_eq_some_iff.1 hu).1
          rw [pc_len] at this
          simpa using this
        have hi : j / 2 < len := by omega
        obtain ⟨h1, h2, _⟩ := hF (j / 2) hi
        obtain ⟨g1, g2⟩ := pc_range F len (j / 2) _ hi rfl
        rcases Nat.mod_two_eq_zero_or_one j with hm2 | hm2
        · rw [show j / 2 * 2 = j by omega] at h1 g1
          rw [g1] at hu
          rw [h1, hu]
        · rw [show j / 2 * 2 + 1 = j by omega] at h2 g2
          rw [g2] at hu
          rw [h2, hu]
    · intro z hz
      obtain ⟨i, hi, rfl⟩ := List.mem_map.1 hz
      exact (hF i (List.mem_range.1 hi)).2.2
end

end Go.Proofs.Ythepfpiphlfgnaa

/-
  YthepfpiphlfgnaaPV: PushesValid: the reference and the program, both compute pushesB.
-/
namespace Go.Proofs.Ythepfpiphlfgnaa
open Go.RowKit

def cornersB (W T : Int) (bs : List Bool) : Int := if validB W T bs then (W + 1) * (T + 1) else -1
theorem cornersB_ok {R : Reg} (hR : R.ok) : cornersB R.W R.T R.C = (R.corners : Int) := by
  unfold cornersB
  rw [valid_of_ok hR, if_pos rfl]
  unfold Reg.corners
  simp
theorem cornersB_bd (W T : Int) (bs : List Bool) : -1 ≤ cornersB W T bs ∧ cornersB W T bs ≤ 49 := by
  cases hv : validB W T bs with
  | false => unfold cornersB; rw [hv]; simp
  | true =>
    obtain ⟨R, hR, rfl, rfl, rfl⟩ := reg_of_valid hv
    rw [cornersB_ok hR]
    have := corners_bd hR
    omega
theorem cornerManyS_any (W T : Int) (A : Option Addr) (n c B : Nat) (bs : List Bool) (w : World) (hl : bs.length = n) (hr : Reads w B 1 A n (bs.map Value.bool)) (hB : B ≤ w.heap.size) (hn : n ≤ 9223372036854775807) :
    Calls Try.prog 89 #[.agg #[.int .i64 W, .int .i64 T, .slice A n c]] w fun e w' => e = .returned (.int .i64 (cornersB W T bs)) ∧ Below w.heap.size w w' := by
  cases hv : validB W T bs with
  | false =>
    have := cornerManyS_no W T A n c B bs w hr hB hn hv
    unfold cornersB
    rw [hv]
    exact this
  | true =>
    obtain ⟨R, hR, rfl, rfl, rfl⟩ := reg_of_valid hv
    rw [cornersB_ok hR]
    subst hl
    exact cornerManyS_ok R hR A c B w hr hB

noncomputable def pushesB (W T : Int) (bs : List Bool) (ps : List (Int × Bool)) : Bool :=
  simpleB W T bs && (decide (ps.length ≤ 128) && ps.all fun p => inB p.1 0 (cornersB W T bs - 1))

theorem cell_keep {w w' : World} {p : Addr} {v : Value} (h : w.cell? p = some v) (hb : Below w.heap.size w w') : w'.cell? p = some v := (hb.cell (World.block_lt_of_cell? w p h)).trans h

theorem all_false_at {ps : List (Int × Bool)} {f : Int × Bool → Bool} {k : Nat} {p : Int × Bool} (hp : ps[k]? = some p) (h : f p = false) : ps.all f = false := by
  rw [List.all_eq_false]
  exact ⟨p, List.mem_of_getElem? hp, by simp [h]⟩
theorem all_true_of {ps : List (Int × Bool)} {f : Int × Bool → Bool} (h : ∀ (k : Nat) (p : Int × Bool), ps[k]? = some p → f p = true) : ps.all f = true := by
  rw [List.all_eq_true]
  intro p hp
  obtain ⟨k, hk⟩ := List.getElem?_of_mem hp
  exact h k p hk

set_option maxRecDepth 20000 in
theorem PushesValidS_any (W T : Int) (A : Option Addr) (n c B : Nat) (bs : List Bool) (P : Option Addr) (m d D : Nat) (ps : List (Int × Bool)) (w : World)
    (hl : bs.length = n) (hr : Reads w B 1 A n (bs.map Value.bool)) (hB : B ≤ w.heap.size) (hn : n ≤ 9223372036854775807)
    (hm : ps.length = m) (hp : Reads w D 2 P m (pc ps)) (hD : D ≤ w.heap.size) (hmm : m ≤ 9223372036854775807) :
    Calls Try.prog 118 #[.agg #[.int .i64 W, .int .i64 T, .slice A n c], .slice P m d] w fun e w' => e = .returned (.bool (pushesB W T bs ps)) ∧ Below w.heap.size w w' := by
  have hcb := cornersB_bd W T bs
  have HPB : Hid (pushesB W T bs ps = (simpleB W T bs && (decide (ps.length ≤ 128) && ps.all fun p => inB p.1 0 (cornersB W T bs - 1)))) := Lib.hid rfl
  go_enter Try.func118, Try.ntmps118
  go_wp2
  go_loopg [5] m (fun r i wr => ∃ k : Nat, k + r = m ∧ i = .int .i64 (k : Nat) ∧ (∀ j p, j < k → ps[j]? = some p → inB p.1 0 (cornersB W T bs - 1) = true) ∧ Blk wr w.heap.size 25 #[.int .i64 W, .int .i64 T, .slice A n c] ∧ Below w.heap.size w wr)
  case atStart => exact ⟨0, by omega, rfl, fun j p hj => by omega, Blk.new _ _ _, (Below.refl _ _).alloc (Nat.le_refl _) _⟩
  case round =>
    obtain ⟨k, hk, rfl, hall, hbk, hb⟩ := hrel
    have HK := Lib.hid hk
    have HALL := Lib.hid hall
    clear hk hall
    have b0 := hbk.cell 0
    have b1 := hbk.cell 1
    have b2 := hbk.cell 2
    simp at b0 b1 b2
    by_cases hlt : k < m
    · obtain ⟨ad, ⟨z, b⟩, rfl, hab, hpk, hcell, hcell2⟩ := (hp.below (hb.mono hD)).push hm hlt
      have HP := Lib.hid hpk
      clear hpk
      dsimp only at hcell hcell2
      have hrd : Reads wr.drew B 1 A n (bs.map Value.bool) := (hr.below (hb.mono hB)).drew
      have hsz : w.heap.size ≤ wr.drew.heap.size := hb.size
      have HC := hide (cornerManyS_any W T A n c B bs wr.drew hl hrd (by omega) hn)
      clear hrd
      have hw1 : IntKind.i64.wrap (cornersB W T bs - 1) = cornersB W T bs - 1 := IntWalk.i64_in _ (by omega)
      generalize cornersB W T bs = cb at *
      cases hin : inB z 0 (cb - 1) with
      | false =>
        have HI := Lib.hid hin
        clear hin
        go_upto_region 4 with fail
        go_region_held3 (fun w' => w'.cell? (ad.add (k * 2)) = some (Value.int IntKind.i64 z) ∧ w'.cell? ⟨w.heap.size, 0, none⟩ = some (.int .i64 W) ∧ w'.cell? ⟨w.heap.size, 1, none⟩ = some (.int .i64 T) ∧ w'.cell? ⟨w.heap.size, 2, none⟩ = some (.slice A n c))
          (first | exact ⟨hcell, b0, b1, b2⟩ | exact ⟨cell_keep (w := wr.drew) hcell hb2, cell_keep (w := wr.drew) b0 hb2, cell_keep (w := wr.drew) b1 hb2, cell_keep (w := wr.drew) b2 hb2⟩)
          (first
            | (go_at_call 89; refine (unhide HC).mono ?_; rintro e w2 ⟨rfl, hb2⟩)
            | (go_at_call 91; refine (l1In_any z 0 (cb - 1) _).mono ?_; rintro e w3 ⟨rfl, rfl⟩; rw [HI.out]))
        go_wp2
        go_ret
        have hpf : pushesB W T bs ps = false := by
          rw [HPB.out, all_false_at HP.out HI.out]
          simp
        exact ⟨by rw [hpf]; rfl, hb.drew.trans (hb2.mono hsz)⟩
      | true =>
        have HI := Lib.hid hin
        clear hin
        go_upto_region 4 with fail
        go_region_held3 (fun w' => w'.cell? (ad.add (k * 2)) = some (Value.int IntKind.i64 z) ∧ w'.cell? ⟨w.heap.size, 0, none⟩ = some (.int .i64 W) ∧ w'.cell? ⟨w.heap.size, 1, none⟩ = some (.int .i64 T) ∧ w'.cell? ⟨w.heap.size, 2, none⟩ = some (.slice A n c))
          (first | exact ⟨hcell, b0, b1, b2⟩ | exact ⟨cell_keep (w := wr.drew) hcell hb2, cell_keep (w := wr.drew) b0 hb2, cell_keep (w := wr.drew) b1 hb2, cell_keep (w := wr.drew) b2 hb2⟩)
          (first
            | (go_at_call 89; refine (unhide HC).mono ?_; rintro e w2 ⟨rfl, hb2⟩)
            | (go_at_call 91; refine (l1In_any z 0 (cb - 1) _).mono ?_; rintro e w3 ⟨rfl, rfl⟩; rw [HI.out]))
        go_wp2
        go_roundg (m - (k + 1))
        case measure => have := HK.out; omega
        case rel =>
          refine ⟨k + 1, by have := HK.out; omega, by go_num, fun j p hj hjp => ?_, hbk.drew.below hb2 hbk.drew.lt, hb.drew.trans (hb2.mono hsz)⟩
          by_cases hjk : j = k
          · subst hjk
            rw [HP.out] at hjp
            injection hjp with hjp
            subst hjp
            exact HI.out
          · exact HALL.out j p (by omega) hjp
    · have HPF : Hid (pushesB W T bs ps = (simpleB W T bs && decide ((m : Int) ≤ 128))) := by
        have hk : k = m := by have := HK.out; omega
        have hall := all_true_of (ps := ps) (f := fun p => inB p.1 0 (cornersB W T bs - 1)) (fun j p hjp => HALL.out j p (by have := (List.getElem?_eq_some_iff.1 hjp).1; omega) hjp)
        refine Lib.hid ?_
        rw [HPB.out, hall, Bool.and_true, hm]
        congr 1
        simp; omega
      have hrd := hr.below (hb.mono hB)
      have hsz := hb.size
      have HS := hide (SimpleS_any W T A n c B bs wr hrd (by omega) hn)
      clear hrd
      generalize simpleB W T bs = sb at *
      cases sb with
      | false =>
        go_wp2_with (go_at_call 85; refine (unhide HS).mono ?_; rintro e w2 ⟨rfl, hb2⟩)
        go_ret
        exact ⟨by rw [HPF.out]; rfl, hb.trans (hb2.mono hsz)⟩
      | true =>
        go_wp2_with (go_at_call 85; refine (unhide HS).mono ?_; rintro e w2 ⟨rfl, hb2⟩)
        go_ret
        exact ⟨by rw [HPF.out]; rfl, hb.trans (hb2.mono hsz)⟩

end Go.Proofs.Ythepfpiphlfgnaa

/-
  YthepfpiphlfgnaaPVI: PushesValid of the program.
-/
namespace Go.Proofs.Ythepfpiphlfgnaa
open Go.RowKit

theorem pvClos_any (R : Reg) (hR : R.ok) (A : Option Addr) (n c q : Nat) (z : Int) (b : Bool) (w : World) (hq : Blk w q 25 #[.int .i64 R.W, .int .i64 R.T, .slice A n c]) :
    Calls Try.prog 171 #[.agg #[.int .i64 z, .bool b], .pointer (some ⟨q, 0, none⟩)] w fun e w' => e = .returned (.bool (!(inB z 0 ((R.corners : Int) - 1)))) ∧ Below w.heap.size w w' := by
  have hcb := corners_bd hR
  have hw1 : IntKind.i64.wrap ((R.corners : Int) - 1) = (R.corners : Int) - 1 := IntWalk.i64_in _ (by omega)
  have b0 := hq.cell 0
  have b1 := hq.cell 1
  have b2 := hq.cell 2
  have hlt := hq.lt
  simp at b0 b1 b2
  generalize hcn : (R.corners : Int) = cn at *
  have HC : ∀ w', Hid (Calls Try.prog 90 #[.agg #[.int .i64 R.W, .int .i64 R.T, .slice A n c]] w' fun e w'' => e = .returned (.int .i64 cn) ∧ Below w'.heap.size w' w'') := by
    intro w'
    rw [← hcn]
    exact hide (cornersI_any R hR A n c w')
  have n0 : (w.alloc (Obj.cells #[Value.int IntKind.i64 z, Value.bool b] 100)).drew.cell? ⟨w.heap.size, 0, none⟩ = some (Value.int IntKind.i64 z) := (Blk.new w 100 #[Value.int IntKind.i64 z, Value.bool b]).cell 0
  have q0 := ((hq.alloc (Obj.cells #[Value.int IntKind.i64 z, Value.bool b] 100)).drew).cell 0
  have q1 := ((hq.alloc (Obj.cells #[Value.int IntKind.i64 z, Value.bool b] 100)).drew).cell 1
  have q2 := ((hq.alloc (Obj.cells #[Value.int IntKind.i64 z, Value.bool b] 100)).drew).cell 2
  have hbl : Below w.heap.size w (w.alloc (Obj.cells #[Value.int IntKind.i64 z, Value.bool b] 100)).drew := ((Below.refl _ _).alloc (Nat.le_refl _) _).drew
  cases hin : inB z 0 (cn - 1) with
  | false =>
    have HI := Lib.hid hin
    clear hin
    go_enter Try.func171, Try.ntmps171
    go_upto_region 1 with fail
    go_region_held3 (fun w' => w'.cell? ⟨w.heap.size, 0, none⟩ = some (Value.int IntKind.i64 z) ∧ w'.cell? ⟨q, 0, none⟩ = some (.int .i64 R.W) ∧ w'.cell? ⟨q, 1, none⟩ = some (.int .i64 R.T) ∧ w'.cell? ⟨q, 2, none⟩ = some (.slice A n c))
      (first | exact ⟨n0, q0, q1, q2⟩ | exact ⟨cell_keep n0 hb2, cell_keep q0 hb2, cell_keep q1 hb2, cell_keep q2 hb2⟩)
      (first
        | (go_at_call 90; refine (unhide (HC _)).mono ?_; rintro e w2 ⟨rfl, hb2⟩)
        | (go_at_call 74; refine (in_any z 0 (cn - 1) _).mono ?_; rintro e w3 ⟨rfl, rfl⟩; rw [HI.out]))
    go_wp2
    go_ret
    exact ⟨rfl, hbl.trans (hb2.mono hbl.size)⟩
  | true =>
    have HI := Lib.hid hin
    clear hin
    go_enter Try.func171, Try.ntmps171
    go_upto_region 1 with fail
    go_region_held3 (fun w' => w'.cell? ⟨w.heap.size, 0, none⟩ = some (Value.int IntKind.i64 z) ∧ w'.cell? ⟨q, 0, none⟩ = some (.int .i64 R.W) ∧ w'.cell? ⟨q, 1, none⟩ = some (.int .i64 R.T) ∧ w'.cell? ⟨q, 2, none⟩ = some (.slice A n c))
      (first | exact ⟨n0, q0, q1, q2⟩ | exact ⟨cell_keep n0 hb2, cell_keep q0 hb2, cell_keep q1 hb2, cell_keep q2 hb2⟩)
      (first
        | (go_at_call 90; refine (unhide (HC _)).mono ?_; rintro e w2 ⟨rfl, hb2⟩)
        | (go_at_call 74; refine (in_any z 0 (cn - 1) _).mono ?_; rintro e w3 ⟨rfl, rfl⟩; rw [HI.out]))
    go_wp2
    go_ret
    exact ⟨rfl, hbl.trans (hb2.mono hbl.size)⟩

/-- The first push off the corners, or -1. -/
def Found (ps : List (Int × Bool)) (cn : Int) (w : World) (e : Ending) (w' : World) : Prop :=
  ∃ z : Int, e = .returned (.int .i64 z) ∧ (z ≥ 0 ↔ ps.all (fun p => inB p.1 0 (cn - 1)) = false) ∧ Below w.heap.size w w'

theorem pvIndex_any (R : Reg) (hR : R.ok) (A : Option Addr) (n c q : Nat) (P : Option Addr) (m d D : Nat) (ps : List (Int × Bool)) (w : World) (hq : Blk w q 25 #[.int .i64 R.W, .int .i64 R.T, .slice A n c])
    (hm : ps.length = m) (hp : Reads w D 2 P m (pc ps)) (hD : D ≤ w.heap.size) (hmm : m ≤ 9223372036854775807) :
    Calls Try.prog 191 #[.slice P m d, .func (.func 171) #[] #[.pointer (some ⟨q, 0, none⟩)]] w (Found ps R.corners w) := by
  go_enter Try.func191, Try.ntmps191
  go_wp2
  go_loopg [8] m (fun r i wr => ∃ k : Nat, k + r = m ∧ i = .int .i64 (k : Nat) ∧ (∀ (j : Nat) (p : Int × Bool), j < k → ps[j]? = some p → inB p.1 0 ((R.corners : Int) - 1) = true) ∧ Below w.heap.size w wr)
  case atStart => exact ⟨0, by omega, rfl, fun j p hj => by omega, Below.refl _ _⟩
  case round =>
    obtain ⟨k, hk, rfl, hall, hb⟩ := hrel
    have HK := Lib.hid hk
    have HALL := Lib.hid hall
    clear hk hall
    by_cases hlt : k < m
    · obtain ⟨ad, ⟨z, b⟩, rfl, hab, hpk, hcell, hcell2⟩ := (hp.below (hb.mono hD)).push hm hlt
      have HP := Lib.hid hpk
      clear hpk
      dsimp only at hcell hcell2
      have HC := hide (pvClos_any R hR A n c q z b wr (hq.below hb hq.lt))
      have hsz := hb.size
      cases hin : inB z 0 ((R.corners : Int) - 1) with
      | false =>
        rw [hin] at HC
        have HI := Lib.hid hin
        clear hin
        go_wp2_with (go_at_call 171; refine (unhide HC).mono ?_; rintro e w2 ⟨rfl, hb2⟩)
        go_ret
        exact ⟨k, rfl, ⟨fun _ => all_false_at HP.out HI.out, fun _ => by omega⟩, hb.trans (hb2.mono hsz)⟩
      | true =>
        rw [hin] at HC
        have HI := Lib.hid hin
        clear hin
        go_wp2_with (go_at_call 171; refine (unhide HC).mono ?_; rintro e w2 ⟨rfl, hb2⟩)
        go_roundg (m - (k + 1))
        case measure => have := HK.out; omega
        case rel =>
          refine ⟨k + 1, by have := HK.out; omega, by go_num, fun j p hj hjp => ?_, hb.trans (hb2.mono hsz)⟩
          by_cases hjk : j = k
          · subst hjk
            rw [HP.out] at hjp
            injection hjp with hjp
            subst hjp
            exact HI.out
          · exact HALL.out j p (by omega) hjp
    · go_wp2
      go_ret
      have hk : k = m := by have := HK.out; omega
      have hall := all_true_of (ps := ps) (f := fun p => inB p.1 0 ((R.corners : Int) - 1)) (fun j p hjp => HALL.out j p (by have := (List.getElem?_eq_some_iff.1 hjp).1; omega) hjp)
      exact ⟨-1, rfl, by rw [hall]; simp, hb⟩

theorem pvContains_any (R : Reg) (hR : R.ok) (A : Option Addr) (n c q : Nat) (P : Option Addr) (m d D : Nat) (ps : List (Int × Bool)) (w : World) (hq : Blk w q 25 #[.int .i64 R.W, .int .i64 R.T, .slice A n c])
    (hm : ps.length = m) (hp : Reads w D 2 P m (pc ps)) (hD : D ≤ w.heap.size) (hmm : m ≤ 9223372036854775807) :
    Calls Try.prog 170 #[.slice P m d, .func (.func 171) #[] #[.pointer (some ⟨q, 0, none⟩)]] w
      fun e w' => e = .returned (.bool (!(ps.all fun p => inB p.1 0 ((R.corners : Int) - 1)))) ∧ Below w.heap.size w w' := by
  have HI := hide (pvIndex_any R hR A n c q P m d D ps w hq hm hp hD hmm)
  cases hall : ps.all (fun p => inB p.1 0 ((R.corners : Int) - 1)) with
  | false =>
    have HA := Lib.hid hall
    clear hall
    go_enter Try.func170, Try.ntmps170
    go_wp2_with (go_at_call 191; refine (unhide HI).mono ?_; rintro e w2 ⟨z, rfl, hz, hb2⟩; have hz2 : (0 : Int) ≤ z := hz.2 HA.out; clear hz)
    go_ret
    exact ⟨rfl, hb2⟩
  | true =>
    have HA := Lib.hid hall
    clear hall
    go_enter Try.func170, Try.ntmps170
    go_wp2_with (go_at_call 191; refine (unhide HI).mono ?_; rintro e w2 ⟨z, rfl, hz, hb2⟩; have hz2 : decide ((0 : Int) ≤ z) = false := decide_eq_false (fun h => Bool.noConfusion (HA.out.symm.trans (hz.1 h))); clear hz)
    go_ret
    exact ⟨rfl, hb2⟩

theorem PushesValidI_any (W T : Int) (A : Option Addr) (n c B : Nat) (bs : List Bool) (P : Option Addr) (m d D : Nat) (ps : List (Int × Bool)) (w : World)
    (hl : bs.length = n) (hr : Reads w B 1 A n (bs.map Value.bool)) (hB : B ≤ w.heap.size) (hn : n ≤ 9223372036854775807)
    (hm : ps.length = m) (hp : Reads w D 2 P m (pc ps)) (hD : D ≤ w.heap.size) (hmm : m ≤ 9223372036854775807) :
    Calls Try.prog 123 #[.agg #[.int .i64 W, .int .i64 T, .slice A n c], .slice P m d] w fun e w' => e = .returned (.bool (pushesB W T bs ps)) ∧ Below w.heap.size w w' := by
  have hmf : ∀ (fn : Fn) (first cap : Array Value) (w : World), (Instr.makeFunc fn first cap).run Try.prog w = .ok (.func fn first cap) w := fun _ _ _ _ => rfl
  have HPB : Hid (pushesB W T bs ps = (simpleB W T bs && (decide (ps.length ≤ 128) && ps.all fun p => inB p.1 0 (cornersB W T bs - 1)))) := Lib.hid rfl
  have hr0 := hr.alloc hB (.cells #[.int .i64 W, .int .i64 T, .slice A n c] 25)
  have HS := hide (SimpleI_any W T A n c B bs _ hr0 (by simp; omega) hn)
  cases hs : simpleB W T bs with
  | false =>
    rw [hs] at HS
    have HF : Hid (pushesB W T bs ps = false) := Lib.hid (by rw [HPB.out, hs]; rfl)
    clear hs
    go_enter Try.func123, Try.ntmps123
    go_wp2_with (go_at_call 26; refine (unhide HS).mono ?_; rintro e w2 ⟨rfl, hb2⟩)
    go_ret
    exact ⟨by rw [HF.out]; rfl, ((Below.refl _ _).alloc (Nat.le_refl _) _).trans (hb2.mono (by simp))⟩
  | true =>
    rw [hs] at HS
    have hv : validB W T bs = true := by
      unfold simpleB at hs
      rw [Bool.and_eq_true] at hs
      exact hs.1
    rw [hs, Bool.true_and] at HPB
    clear hs
    obtain ⟨R, hR, rfl, rfl, rfl⟩ := reg_of_valid hv
    rw [cornersB_ok hR] at HPB
    by_cases h128 : m ≤ 128
    · have hdm : decide (ps.length ≤ 128) = true := by simp; omega
      rw [hdm, Bool.true_and] at HPB
      have h128' : (m : Int) ≤ 128 := by omega
      cases hall : ps.all (fun p => inB p.1 0 ((R.corners : Int) - 1)) with
      | false =>
        have HC : ∀ w2, Below (w.heap.size + 1) (w.alloc (.cells #[.int .i64 R.W, .int .i64 R.T, .slice A n c] 25)) w2 → Hid (Calls Try.prog 170 #[.slice P m d, .func (.func 171) #[] #[.pointer (some ⟨w.heap.size, 0, none⟩)]] w2
            fun e w' => e = .returned (.bool true) ∧ Below w2.heap.size w2 w') := by
          intro w2 hb2
          have := pvContains_any R hR A n c w.heap.size P m d D ps w2 ((Blk.new _ _ _).below hb2 (by simp)) hm ((hp.alloc hD _).below (hb2.mono (by omega))) (by have := hb2.size; simp at this; omega) hmm
          rw [hall] at this
          exact hide this
        have HF : Hid (pushesB R.W R.T R.C ps = false) := Lib.hid (by rw [HPB.out, hall])
        clear hall
        go_enter Try.func123, Try.ntmps123
        go_wp2_with first
          | (go_at_call 26; refine (unhide HS).mono ?_; rintro e w2 ⟨rfl, hb2⟩; rw [World.size_alloc] at hb2)
          | (go_at_call 170; refine (unhide (HC w2 hb2)).mono ?_; rintro e w3 ⟨rfl, hb3⟩)
        go_ret
        exact ⟨by rw [HF.out]; rfl, (((Below.refl _ _).alloc (Nat.le_refl _) _).trans (hb2.mono (by simp))).trans (hb3.mono (by have := hb2.size; simp at this; omega))⟩
      | true =>
        have HC : ∀ w2, Below (w.heap.size + 1) (w.alloc (.cells #[.int .i64 R.W, .int .i64 R.T, .slice A n c] 25)) w2 → Hid (Calls Try.prog 170 #[.slice P m d, .func (.func 171) #[] #[.pointer (some ⟨w.heap.size, 0, none⟩)]] w2
            fun e w' => e = .returned (.bool false) ∧ Below w2.heap.size w2 w') := by
          intro w2 hb2
          have := pvContains_any R hR A n c w.heap.size P m d D ps w2 ((Blk.new _ _ _).below hb2 (by simp)) hm ((hp.alloc hD _).below (hb2.mono (by omega))) (by have := hb2.size; simp at this; omega) hmm
          rw [hall] at this
          exact hide this
        have HF : Hid (pushesB R.W R.T R.C ps = true) := Lib.hid (by rw [HPB.out, hall])
        clear hall
        go_enter Try.func123, Try.ntmps123
        go_wp2_with first
          | (go_at_call 26; refine (unhide HS).mono ?_; rintro e w2 ⟨rfl, hb2⟩; rw [World.size_alloc] at hb2)
          | (go_at_call 170; refine (unhide (HC w2 hb2)).mono ?_; rintro e w3 ⟨rfl, hb3⟩)
        go_ret
        exact ⟨by rw [HF.out]; rfl, (((Below.refl _ _).alloc (Nat.le_refl _) _).trans (hb2.mono (by simp))).trans (hb3.mono (by have := hb2.size; simp at this; omega))⟩
    · have hdm : decide (ps.length ≤ 128) = false := by simp; omega
      have HF : Hid (pushesB R.W R.T R.C ps = false) := Lib.hid (by rw [HPB.out, hdm]; rfl)
      have h128' : ¬ ((m : Int) ≤ 128) := by omega
      clear hdm
      go_enter Try.func123, Try.ntmps123
      go_wp2_with (go_at_call 26; refine (unhide HS).mono ?_; rintro e w2 ⟨rfl, hb2⟩)
      go_ret
      exact ⟨by rw [HF.out]; rfl, ((Below.refl _ _).alloc (Nat.le_refl _) _).trans (hb2.mono (by simp))⟩

end Go.Proofs.Ythepfpiphlfgnaa
