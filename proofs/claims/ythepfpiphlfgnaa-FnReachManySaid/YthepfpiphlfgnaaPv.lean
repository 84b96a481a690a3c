/-
  YthepfpiphlfgnaaPv: the texts Open, Push, OpenP, PV, PVI in one file.
-/
import Derived.ProofKit
import Derived.OpenShut
import Derived.Deep.Slices
import Derived.Deep.Fields
import Derived.Deep.Strs
import Derived.Lib.SmallJoins
import Derived.ChangeSame
import Derived.StillTailTactics
import Derived.Deep.RegionHeld3
import Derived.IntWalk
import Derived.Laws.EntriesVeiled
import Derived.Test.YthepfpiphlfgnaaWa
import Derived.Test.YthepfpiphlfgnaaRows
import Derived.Test.YthepfpiphlfgnaaGlue
import Derived.Test.YthepfpiphlfgnaaPo

/-
  YthepfpiphlfgnaaOpen: the arguments of the laws, opened: what a slice, a region or a list of pushes that comes in reads as in memory; and a law's last step.
-/
namespace Go.Proofs.Ythepfpiphlfgnaa
open Go.RowKit Go.WideShapes Go.ChangeShapes Go.Deep Go.Joins

section
variable {H : Type} {enc : TypeId × Value → H} {P : Program} {w : World} {sp : Nat → Bool} {held : Bool}

theorem lt_of_cell {a : Addr} {v : Value} (h : w.cell? a = some v) : a.block < w.heap.size := World.block_lt_of_cell? w a h

theorem reads_of_cells {A : Addr} {n : Nat} {xs : List Value} (hl : xs.length = n) (h : ∀ i u, xs[i]? = some u → w.cell? (A.add i) = some u) : Reads w w.heap.size 1 (some A) n xs := by
  refine ⟨by omega, fun hn => ⟨A, rfl, ?_, h⟩⟩
  have h0 := lt_of_cell (h 0 (xs[0]'(by omega)) (List.getElem?_eq_getElem (by omega)))
  rwa [block_of_add] at h0

/-- A slice of numbers. -/
theorem open_ints_r {r : Reach} {b0 : Nat} {t e : TypeId} {k : IntKind} {v : Value} {d : DataW H} {p : List MemPlace} (ht : P.underlying t = some (.slice e)) (he : P.underlying e = some (.int k)) (hc : P.cellsOf e = 1)
    (hv : Value.okWide P w r b0 t v) (h : DataW.Trod enc P w 0 sp held t v d p) :
    ∃ (A : Option Addr) (n c : Nat) (zs : List Int), v = .slice A n c ∧ n ≤ c ∧ n ≤ maxLen ∧ zs.length = n ∧ Reads w w.heap.size 1 A n (zs.map (Value.int k)) ∧ ∀ z ∈ zs, (Lit.int k z).wf = true := by
  obtain ⟨a0, len, cap, rfl⟩ := okWide_slice ht hv
  obtain ⟨fuel, hf⟩ := h
  rcases open_ints ht he hc hf with ⟨hcs, hx⟩ | ⟨a, len', cap', zs, hcs, _, hl, hm, hz, hx, hcell, hwz⟩
  · simp only [Value.cells] at hcs
    have : (Value.slice a0 len cap) = .slice none 0 0 := by simpa using hcs
    injection this with h1 h2 h3
    subst h1 h2 h3
    exact ⟨none, 0, 0, [], rfl, Nat.le_refl _, by simp [maxLen], rfl, Reads.none_, by simp⟩
  · have : (Value.slice a0 len cap) = .slice (some a) len' cap' := by simpa [Value.cells] using hcs
    injection this with h1 h2 h3
    subst h1 h2 h3
    have hle : len ≤ zs.length := by split at hz <;> omega
    refine ⟨some a, len, cap, zs.take len, rfl, hl, by omega, by simp; omega, reads_of_cells (by simp; omega) (fun i u hu => ?_), fun z hz' => hwz z (List.mem_of_mem_take hz')⟩
    have hi : i < len := by
      rcases Nat.lt_or_ge i len with h | h
      · exact h
      · rw [List.getElem?_eq_none (by simp; omega)] at hu; cases hu
    rw [hcell i (by omega)]
    rw [List.getElem?_map, List.getElem?_take_of_lt hi] at hu
    simp only [List.getElem?_eq_getElem (show i < zs.length by omega), Option.map_some] at hu
    rw [← hu]
    simp [List.getD, List.getElem?_eq_getElem (show i < zs.length by omega)]



end

section
variable {H : Type} {enc : TypeId × Value → H} {P : Program}
/-- A law's last step, where the call's world is known by 'Below' alone. -/
theorem post_of_below {f : Func} {s : ChangeSpec} {apart fresh handsOn again : Bool} {W W' : World} {args : Array Value} {v : Value} {ds gs : List (DataW H)} {before pa pv : List MemPlace}
    (hW : DataW.Whole enc P f.params.toList s.vars apart W args.toList ds gs before)
    (hres : ∀ (b : Nat) (sp : Nat → Bool) (hd : Bool), DataW.TrodAll enc P W' b sp hd f.resultTypes.toList (v.resultList f.resultTypes.size) (s.fn H (ds ++ gs)).results [])
    (hargs : ∀ sp : Nat → Bool, (∀ p ∈ before, sp p.block = true) → DataW.TrodAll enc P W' 0 sp true f.params.toList args.toList (s.fn H (ds ++ gs)).args pa)
    (hvars : ∀ sp : Nat → Bool, (∀ p ∈ before, sp p.block = true) → DataW.TrodVars enc P W' sp s.vars (s.fn H (ds ++ gs)).vars pv)
    (hps : before = pa ++ pv) (hb : Below W.heap.size W W')
    (hok : ∀ (j : Nat) (t : TypeId) (r : Value), f.resultTypes[j]? = some t → (v.resultList f.resultTypes.size)[j]? = some r → Value.okWide P W' .any 0 t r) :
    s.post enc P f apart fresh handsOn again W args v W' := by
  have hlt : ∀ p ∈ before, p.block < W.heap.size := fun p hp => hW.lt p hp
  have hold : ∀ p ∈ before, (fun b => decide (b < W.heap.size)) p.block = true := fun p hp => by simpa using hlt p hp
  refine ⟨ds, gs, before, [], pa, pv, hW, hres _ _ _, hargs _ hold, hvars _ hold, World.keptBut_mono (fun p hp => ⟨hp, ?_⟩) (hb.frame (· ∈ before)), fun _ => ?_⟩
  · rw [hps, List.mem_append] at hp
    exact Or.inr hp
  · obtain ⟨_, _, _, _, _, hz, hn⟩ := hW
    refine ⟨hok, _, _, ([] ++ pa) ++ pv, ⟨[] ++ pa, pv, trodAll_append (hargs _ (fun _ _ => rfl)) (hres _ _ _), hvars _ (fun _ _ => rfl), rfl, ?_, ?_⟩, ?_⟩
    · intro b off hp
      have hin : MemPlace.cell b off ∈ before := by rw [hps]; simpa using hp
      rw [hb.frozen (hlt _ hin)]
      exact hz b off hin
    · intro ha
      have := hn ha
      rw [hps] at this
      simpa using this
    · intro p hp _
      rw [hps]
      simpa using hp

/-- An argument reads behind the call as before it. -/
theorem arg_stays {t : TypeId} (hl : laidOutB P = true) (hr : P.readableRec t = true) (hrow : t < P.types.size) {W W' : World} {v : Value} {d : DataW H} {ps before : List MemPlace}
    (h : DataW.Trod enc P W 0 (fun _ => true) true t v d ps) (hb : Below W.heap.size W W') (hin : ∀ x ∈ ps, x ∈ before) (hlt : ∀ x ∈ before, x.block < W.heap.size) {sp : Nat → Bool} (hsp : ∀ p ∈ before, sp p.block = true) :
    DataW.Trod enc P W' 0 sp true t v d ps :=
  WideElems.Trod_stays hl hr hrow h (fun x hx => hb.same (hlt x (hin x hx))) (fun x hx => hsp x (hin x hx))
end

end Go.Proofs.Ythepfpiphlfgnaa

/-
  YthepfpiphlfgnaaPush: lists of pushes (a corner's number, a truth): how they lie in memory, and what the exact laws' own functions do with them.
-/
namespace Go.Proofs.Ythepfpiphlfgnaa
open Go.RowKit

/-- A list of pushes, in cells. -/
def pc (ps : List (Int × Bool)) : List Value := ps.flatMap fun p => [.int .i64 p.1, .bool p.2]
theorem pc_cons (p : Int × Bool) (ps : List (Int × Bool)) : pc (p :: ps) = .int .i64 p.1 :: .bool p.2 :: pc ps := rfl
theorem pc_at {ps : List (Int × Bool)} {k : Nat} {p : Int × Bool} (h : ps[k]? = some p) : (pc ps)[k * 2]? = some (.int .i64 p.1) ∧ (pc ps)[k * 2 + 1]? = some (.bool p.2) := by
  induction ps generalizing k with
  | nil => simp at h
  | cons q ps ih =>
    rw [pc_cons]
    cases k with
    | zero => simp at h; subst h; simp
    | succ k =>
      have := ih (by simpa using h)
      rw [show (k + 1) * 2 = k * 2 + 1 + 1 by omega]
      simpa using this

/-- A push that is read: its two cells. -/
theorem Reads.push {w : World} {B n k : Nat} {A : Option Addr} {ps : List (Int × Bool)} (h : Reads w B 2 A n (pc ps)) (hn : ps.length = n) (hk : k < n) :
    ∃ ad p, A = some ad ∧ ad.block < B ∧ ps[k]? = some p ∧ w.cell? (ad.add (k * 2)) = some (.int .i64 p.1) ∧ w.cell? ⟨(ad.add (k * 2)).block, (ad.add (k * 2)).off + 1, none⟩ = some (.bool p.2) := by
  obtain ⟨ad, e, hb, hc⟩ := h.2 (by omega)
  have hp : ps[k]? = some (ps[k]'(by omega)) := List.getElem?_eq_getElem (by omega)
  have h2 := pc_at hp
  refine ⟨ad, _, e, hb, hp, hc _ _ h2.1, ?_⟩
  have := hc _ _ h2.2
  rw [← add_of_add] at this
  exact this











/-! ### Marks -/



end Go.Proofs.Ythepfpiphlfgnaa

/-
  YthepfpiphlfgnaaOpenP: an argument that is a list of pushes, or one push, opened. The first block is copied from the guide's page of structs.
-/
namespace Go.Proofs.Ythepfpiphlfgnaa
open Go.RowKit Go.WideShapes Go.ChangeShapes Go.Deep Go.Joins

section
variable {H : Type} {enc : TypeId × Value → H} {P : Program} {w : World} {base : Nat} {spare : Nat → Bool} {held : Bool}
end

section
variable {H : Type} {enc : TypeId × Value → H} {P : Program} {w : World} {sp : Nat → Bool} {held : Bool}


end

end Go.Proofs.Ythepfpiphlfgnaa

/-
  YthepfpiphlfgnaaPV: PushesValid: the reference and the program, both compute pushesB.
-/
namespace Go.Proofs.Ythepfpiphlfgnaa
open Go.RowKit

def cornersB (W T : Int) (bs : List Bool) : Int := if validB W T bs then (W + 1) * (T + 1) else -1

noncomputable def pushesB (W T : Int) (bs : List Bool) (ps : List (Int × Bool)) : Bool :=
  simpleB W T bs && (decide (ps.length ≤ 128) && ps.all fun p => inB p.1 0 (cornersB W T bs - 1))




end Go.Proofs.Ythepfpiphlfgnaa

/-
  YthepfpiphlfgnaaPVI: PushesValid of the program.
-/
namespace Go.Proofs.Ythepfpiphlfgnaa
open Go.RowKit






end Go.Proofs.Ythepfpiphlfgnaa
