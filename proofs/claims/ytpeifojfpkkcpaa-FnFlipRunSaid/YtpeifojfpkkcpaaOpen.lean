/-
  YtpeifojfpkkcpaaOpen: the arguments of the laws, opened: what a slice, a region or a list of pushes that comes in reads as in memory; and a law's last step.
-/
import Derived.Test.YtpeifojfpkkcpaaWa
import Derived.Test.YtpeifojfpkkcpaaRows
import Derived.ProofKit
import Derived.OpenShut
import Derived.Deep.Slices
import Derived.Deep.Fields
import Derived.Deep.Strs
import Derived.Lib.SmallJoins
import Derived.ChangeSame
namespace Go.Proofs.Ytpeifojfpkkcpaa
open Go.RowKit Go.WideShapes Go.ChangeShapes Go.Deep Go.Joins

section
variable {H : Type} {enc : TypeId × Value → H} {P : Program} {w : World} {sp : Nat → Bool} {held : Bool}

theorem lt_of_cell {a : Addr} {v : Value} (h : w.cell? a = some v) : a.block < w.heap.size := World.block_lt_of_cell? w a h

theorem reads_of_cells {A : Addr} {n : Nat} {xs : List Value} (hl : xs.length = n) (h : ∀ i u, xs[i]? = some u → w.cell? (A.add i) = some u) : Reads w w.heap.size 1 (some A) n xs := by
  refine ⟨by omega, fun hn => ⟨A, rfl, ?_, h⟩⟩
  have h0 := lt_of_cell (h 0 (xs[0]'(by omega)) (List.getElem?_eq_getElem (by omega)))
  rwa [block_of_add] at h0

/-- A slice of numbers. -/
theorem open_ints_r {r : Reach} {b0 : Nat} {t e : TypeId} {k : IntKind} {v : Value} {d : DataW H} {p : List MemPlace} (ht : P.underlying t = some (.slice e)) (he : P.underlying e = some (.int k)) (hc : P.cellsOf e = 1)
    (hv : Value.okWide P w r b0 t v) (h : DataW.Trod enc P w 0 sp held t v d p) :
    ∃ (A : Option Addr) (n c : Nat) (zs : List Int), v = .slice A n c ∧ n ≤ c ∧ n ≤ maxLen ∧ zs.length = n ∧ Reads w w.heap.size 1 A n (zs.map (Value.int k)) ∧ ∀ z ∈ zs, (Lit.int k z).wf = true := by
  obtain ⟨a0, len, cap, rfl⟩ := okWide_slice ht hv
  obtain ⟨fuel, hf⟩ := h
  rcases open_ints ht he hc hf with ⟨hcs, hx⟩ | ⟨a, len', cap', zs, hcs, _, hl, hm, hz, hx, hcell, hwz⟩
  · simp only [Value.cells] at hcs
    have : (Value.slice a0 len cap) = .slice none 0 0 := by simpa using hcs
    injection this with h1 h2 h3
    subst h1 h2 h3
    exact ⟨none, 0, 0, [], rfl, Nat.le_refl _, by simp [maxLen], rfl, Reads.none_, by simp⟩
  · have : (Value.slice a0 len cap) = .slice (some a) len' cap' := by simpa [Value.cells] using hcs
    injection this with h1 h2 h3
    subst h1 h2 h3
    have hle : len ≤ zs.length := by split at hz <;> omega
    refine ⟨some a, len, cap, zs.take len, rfl, hl, by omega, by simp; omega, reads_of_cells (by simp; omega) (fun i u hu => ?_), fun z hz' => hwz z (List.mem_of_mem_take hz')⟩
    have hi : i < len := by
      rcases Nat.lt_or_ge i len with h | h
      · exact h
      · rw [List.getElem?_eq_none (by simp; omega)] at hu; cases hu
    rw [hcell i (by omega)]
    rw [List.getElem?_map, List.getElem?_take_of_lt hi] at hu
    simp only [List.getElem?_eq_getElem (show i < zs.length by omega), Option.map_some] at hu
    rw [← hu]
    simp [List.getD, List.getElem?_eq_getElem (show i < zs.length by omega)]

def boolOf : Value → Bool | .bool b => b | _ => false

/-- A slice of truths, in one cell. -/
theorem open_bools_c {t e : TypeId} {fuel : Nat} {v : Value} {x : DataW H × List MemPlace} (ht : P.underlying t = some (.slice e)) (he : P.underlying e = some .bool) (hc : P.cellsOf e = 1)
    (h : DataW.trod enc P w 0 sp held fuel t [v] = some x) :
    ∃ (A : Option Addr) (n c : Nat) (bs : List Bool), v = .slice A n c ∧ n ≤ c ∧ n ≤ maxLen ∧ bs.length = n ∧ Reads w w.heap.size 1 A n (bs.map Value.bool) := by
  rcases open_slice1 ht hc h with ⟨hcs, hx⟩ | ⟨a, len, cap, m, n, V, D, Pl, hcs, _, hl, hm, hmm, hx, hel⟩
  · have : v = .slice none 0 0 := by simpa using hcs
    subst this
    exact ⟨none, 0, 0, [], rfl, Nat.le_refl _, by simp [maxLen], rfl, Reads.none_⟩
  · have : v = .slice (some a) len cap := by simpa using hcs
    subst this
    have hle : len ≤ m := by split at hmm <;> omega
    refine ⟨some a, len, cap, (List.range len).map fun i => boolOf (V i), rfl, hl, by omega, by simp, reads_of_cells (by simp) (fun i u hu => ?_)⟩
    have hi : i < len := by
      rcases Nat.lt_or_ge i len with h | h
      · exact h
      · rw [List.getElem?_eq_none (by simp; omega)] at hu; cases hu
    obtain ⟨h1, h2⟩ := hel i (by omega)
    obtain ⟨b, hb, _⟩ := DataW.trod_bool he h2
    have hb' : V i = .bool b := by simpa using hb
    simp [hi, hb', boolOf] at hu
    rw [h1, hb', ← hu]

/-- A region by value: two numbers and a slice of truths. -/
theorem open_region {r : Reach} {b0 : Nat} {t eb : TypeId} {f0 f1 f2 : Field} {v : Value} {d : DataW H} {p : List MemPlace} (hs : P.underlying t = some (.struct #[f0, f1, f2])) (hone : oneCellFields P #[f0, f1, f2] = true) (hC : P.cellsOf t = 3)
    (e0 : P.underlying f0.type = some (.int .i64)) (e1 : P.underlying f1.type = some (.int .i64)) (e2 : P.underlying f2.type = some (.slice eb)) (e3 : P.underlying eb = some .bool) (e4 : P.cellsOf eb = 1)
    (hv : Value.okWide P w r b0 t v) (h : DataW.Trod enc P w 0 sp held t v d p) :
    ∃ (W T : Int) (A : Option Addr) (n c : Nat) (bs : List Bool), v = .agg #[.int .i64 W, .int .i64 T, .slice A n c] ∧ (Lit.int .i64 W).wf = true ∧ (Lit.int .i64 T).wf = true ∧ n ≤ c ∧ n ≤ maxLen ∧ bs.length = n ∧ Reads w w.heap.size 1 A n (bs.map Value.bool) := by
  obtain ⟨v0, v1, v2, y0, y1, y2, m, rfl, _, _, h0, h1, h2⟩ := open_agg3 hs hone hC hv h
  obtain ⟨W, q0, _, w0⟩ := DataW.trod_int e0 h0
  obtain ⟨T, q1, _, w1⟩ := DataW.trod_int e1 h1
  obtain ⟨A, n, c, bs, rfl, hl, hm, hb, hr⟩ := open_bools_c e2 e3 e4 h2
  have q0' : v0 = .int .i64 W := by simpa using q0
  have q1' : v1 = .int .i64 T := by simpa using q1
  subst q0' q1'
  exact ⟨W, T, A, n, c, bs, rfl, w0, w1, hl, hm, hb, hr⟩
end

section
variable {H : Type} {enc : TypeId × Value → H} {P : Program}
/-- A law's last step, where the call's world is known by 'Below' alone. -/
theorem post_of_below {f : Func} {s : ChangeSpec} {apart fresh handsOn again : Bool} {W W' : World} {args : Array Value} {v : Value} {ds gs : List (DataW H)} {before pa pv : List MemPlace}
    (hW : DataW.Whole enc P f.params.toList s.vars apart W args.toList ds gs before)
    (hres : ∀ (b : Nat) (sp : Nat → Bool) (hd : Bool), DataW.TrodAll enc P W' b sp hd f.resultTypes.toList (v.resultList f.resultTypes.size) (s.fn H (ds ++ gs)).results [])
    (hargs : ∀ sp : Nat → Bool, (∀ p ∈ before, sp p.block = true) → DataW.TrodAll enc P W' 0 sp true f.params.toList args.toList (s.fn H (ds ++ gs)).args pa)
    (hvars : ∀ sp : Nat → Bool, (∀ p ∈ before, sp p.block = true) → DataW.TrodVars enc P W' sp s.vars (s.fn H (ds ++ gs)).vars pv)
    (hps : before = pa ++ pv) (hb : Below W.heap.size W W')
    (hok : ∀ (j : Nat) (t : TypeId) (r : Value), f.resultTypes[j]? = some t → (v.resultList f.resultTypes.size)[j]? = some r → Value.okWide P W' .any 0 t r) :
    s.post enc P f apart fresh handsOn again W args v W' := by
  have hlt : ∀ p ∈ before, p.block < W.heap.size := fun p hp => hW.lt p hp
  have hold : ∀ p ∈ before, (fun b => decide (b < W.heap.size)) p.block = true := fun p hp => by simpa using hlt p hp
  refine ⟨ds, gs, before, [], pa, pv, hW, hres _ _ _, hargs _ hold, hvars _ hold, World.keptBut_mono (fun p hp => ⟨hp, ?_⟩) (hb.frame (· ∈ before)), fun _ => ?_⟩
  · rw [hps, List.mem_append] at hp
    exact Or.inr hp
  · obtain ⟨_, _, _, _, _, hz, hn⟩ := hW
    refine ⟨hok, _, _, ([] ++ pa) ++ pv, ⟨[] ++ pa, pv, trodAll_append (hargs _ (fun _ _ => rfl)) (hres _ _ _), hvars _ (fun _ _ => rfl), rfl, ?_, ?_⟩, ?_⟩
    · intro b off hp
      have hin : MemPlace.cell b off ∈ before := by rw [hps]; simpa using hp
      rw [hb.frozen (hlt _ hin)]
      exact hz b off hin
    · intro ha
      have := hn ha
      rw [hps] at this
      simpa using this
    · intro p hp _
      rw [hps]
      simpa using hp

/-- An argument reads behind the call as before it. -/
theorem arg_stays {t : TypeId} (hl : laidOutB P = true) (hr : P.readableRec t = true) (hrow : t < P.types.size) {W W' : World} {v : Value} {d : DataW H} {ps before : List MemPlace}
    (h : DataW.Trod enc P W 0 (fun _ => true) true t v d ps) (hb : Below W.heap.size W W') (hin : ∀ x ∈ ps, x ∈ before) (hlt : ∀ x ∈ before, x.block < W.heap.size) {sp : Nat → Bool} (hsp : ∀ p ∈ before, sp p.block = true) :
    DataW.Trod enc P W' 0 sp true t v d ps :=
  WideElems.Trod_stays hl hr hrow h (fun x hx => hb.same (hlt x (hin x hx))) (fun x hx => hsp x (hin x hx))
end

end Go.Proofs.Ytpeifojfpkkcpaa
