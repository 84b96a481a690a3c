/-
  YthepfpiphlfgnaaGreatPv: the texts Open, Push, OpenP, PV, PVI in one file.
-/
import Derived.ProofKit
import Derived.OpenShut
import Derived.Deep.Slices
import Derived.Deep.Fields
import Derived.Deep.Strs
import Derived.Lib.SmallJoins
import Derived.ChangeSame
import Derived.StillTailTactics
import Derived.Deep.RegionHeld3
import Derived.IntWalk
import Derived.Laws.EntriesVeiled
import Derived.Test.YthepfpiphlfgnaaGreatWa
import Derived.Test.YthepfpiphlfgnaaGreatRows
import Derived.Test.YthepfpiphlfgnaaGreatGlue
import Derived.Test.YthepfpiphlfgnaaGreatPo

/-
  YthepfpiphlfgnaaGreatOpen: the arguments of the laws, opened: what a slice, a region or a list of pushes that comes in reads as in memory; and a law's last step.
-/
namespace Go.Proofs.YthepfpiphlfgnaaGreat
open Go.RowKit Go.WideShapes Go.ChangeShapes Go.Deep Go.Joins

section
variable {H : Type} {enc : TypeId × Value → H} {P : Program} {w : World} {sp : Nat → Bool} {held : Bool}

theorem lt_of_cell {a : Addr} {v : Value} (h : w.cell? a = some v) : a.block < w.heap.size := World.block_lt_of_cell? w a h

theorem reads_of_cells {A : Addr} {n : Nat} {xs : List Value} (hl : xs.length = n) (h : ∀ i u, xs[i]? = some u → w.cell? (A.add i) = some u) : Reads w w.heap.size 1 (some A) n xs := by
  refine ⟨by omega, fun hn => ⟨A, rfl, ?_, h⟩⟩
  have h0 := lt_of_cell (h 0 (xs[0]'(by omega)) (List.getElem?_eq_getElem (by omega)))
  rwa [block_of_add] at h0

/-- A slice of numbers. -/
theorem open_ints_r {r : Reach} {b0 : Nat} {t e : TypeId} {k : IntKind} {v : Value} {d : DataW H} {p : List MemPlace} (ht : P.underlying t = some (.slice e)) (he : P.underlying e = some (.int k)) (hc : P.cellsOf e = 1)
    (hv : Value.okWide P w r b0 t v) (h : DataW.Trod enc P w 0 sp held t v d p) :
    ∃ (A : Option Addr) (n c : Nat) (zs : List Int), v = .slice A n c ∧ n ≤ c ∧ n ≤ maxLen ∧ zs.length = n ∧ Reads w w.heap.size 1 A n (zs.map (Value.int k)) ∧ ∀ z ∈ zs, (Lit.int k z).wf = true := by
  obtain ⟨a0, len, cap, rfl⟩ := okWide_slice ht hv
  obtain ⟨fuel, hf⟩ := h
  rcases open_ints ht he hc hf with ⟨hcs, hx⟩ | ⟨a, len', cap', zs, hcs, _, hl, hm, hz, hx, hcell, hwz⟩
  · simp only [Value.cells] at hcs
    have : (Value.slice a0 len cap) = .slice none 0 0 := by simpa using hcs
    injection this with h1 h2 h3
    subst h1 h2 h3
    exact ⟨none, 0, 0, [], rfl, Nat.le_refl _, by simp [maxLen], rfl, Reads.none_, by simp⟩
  · have : (Value.slice a0 len cap) = .slice (some a) len' cap' := by simpa [Value.cells] using hcs
    injection this with h1 h2 h3
    subst h1 h2 h3
    have hle : len ≤ zs.length := by split at hz <;> omega
    refine ⟨some a, len, cap, zs.take len, rfl, hl, by omega, by simp; omega, reads_of_cells (by simp; omega) (fun i u hu => ?_), fun z hz' => hwz z (List.mem_of_mem_take hz')⟩
    have hi : i < len := by
      rcases Nat.lt_or_ge i len with h | h
      · exact h
      · rw [List.getElem?_eq_none (by simp; omega)] at hu; cases hu
    rw [hcell i (by omega)]
    rw [List.getElem?_map, List.getElem?_take_of_lt hi] at hu
    simp only [List.getElem?_eq_getElem (show i < zs.length by omega), Option.map_some] at hu
    rw [← hu]
    simp [List.getD, List.getElem?_eq_getElem (show i < zs.length by omega)]



end

section
variable {H : Type} {enc : TypeId × Value → H} {P : Program}
/-- A law's last step, where the call's world is known by 'Below' alone. -/
theorem post_of_below {f : Func} {s : ChangeSpec} {apart fresh handsOn again : Bool} {W W' : World} {args : Array Value} {v : Value} {ds gs : List (DataW H)} {before pa pv : List MemPlace}
    (hW : DataW.Whole enc P f.params.toList s.vars apart W args.toList ds gs before)
    (hres : ∀ (b : Nat) (sp : Nat → Bool) (hd : Bool), DataW.TrodAll enc P W' b sp hd f.resultTypes.toList (v.resultList f.resultTypes.size) (s.fn H (ds ++ gs)).results [])
    (hargs : ∀ sp : Nat → Bool, (∀ p ∈ before, sp p.block = true) → DataW.TrodAll enc P W' 0 sp true f.params.toList args.toList (s.fn H (ds ++ gs)).args pa)
    (hvars : ∀ sp : Nat → Bool, (∀ p ∈ before, sp p.block = true) → DataW.TrodVars enc P W' sp s.vars (s.fn H (ds ++ gs)).vars pv)
    (hps : before = pa ++ pv) (hb : Below W.heap.size W W')
    (hok : ∀ (j : Nat) (t : TypeId) (r : Value), f.resultTypes[j]? = some t → (v.resultList f.resultTypes.size)[j]? = some r → Value.okWide P W' .any 0 t r) :
    s.post enc P f apart fresh handsOn again W args v W' := by
  have hlt : ∀ p ∈ before, p.block < W.heap.size := fun p hp => hW.lt p hp
  have hold : ∀ p ∈ before, (fun b => decide (b < W.heap.size)) p.block = true := fun p hp => by simpa using hlt p hp
  refine ⟨ds, gs, before, [], pa, pv, hW, hres _ _ _, hargs _ hold, hvars _ hold, World.keptBut_mono (fun p hp => ⟨hp, ?_⟩) (hb.frame (· ∈ before)), fun _ => ?_⟩
  · rw [hps, List.mem_append] at hp
    exact Or.inr hp
  · obtain ⟨_, _, _, _, _, hz, hn⟩ := hW
    refine ⟨hok, _, _, ([] ++ pa) ++ pv, ⟨[] ++ pa, pv, trodAll_append (hargs _ (fun _ _ => rfl)) (hres _ _ _), hvars _ (fun _ _ => rfl), rfl, ?_, ?_⟩, ?_⟩
    · intro b off hp
      have hin : MemPlace.cell b off ∈ before := by rw [hps]; simpa using hp
      rw [hb.frozen (hlt _ hin)]
      exact hz b off hin
    · intro ha
      have := hn ha
      rw [hps] at this
      simpa using this
    · intro p hp _
      rw [hps]
      simpa using hp

/-- An argument reads behind the call as before it. -/
theorem arg_stays {t : TypeId} (hl : laidOutB P = true) (hr : P.readableRec t = true) (hrow : t < P.types.size) {W W' : World} {v : Value} {d : DataW H} {ps before : List MemPlace}
    (h : DataW.Trod enc P W 0 (fun _ => true) true t v d ps) (hb : Below W.heap.size W W') (hin : ∀ x ∈ ps, x ∈ before) (hlt : ∀ x ∈ before, x.block < W.heap.size) {sp : Nat → Bool} (hsp : ∀ p ∈ before, sp p.block = true) :
    DataW.Trod enc P W' 0 sp true t v d ps :=
  WideElems.Trod_stays hl hr hrow h (fun x hx => hb.same (hlt x (hin x hx))) (fun x hx => hsp x (hin x hx))
end

end Go.Proofs.YthepfpiphlfgnaaGreat

/-
  YthepfpiphlfgnaaGreatPush: lists of pushes (a corner's number, a truth): how they lie in memory, and what the exact laws' own functions do with them.
-/
namespace Go.Proofs.YthepfpiphlfgnaaGreat
open Go.RowKit

/-- A list of pushes, in cells. -/
def pc (ps : List (Int × Bool)) : List Value := ps.flatMap fun p => [.int .i64 p.1, .bool p.2]
theorem pc_cons (p : Int × Bool) (ps : List (Int × Bool)) : pc (p :: ps) = .int .i64 p.1 :: .bool p.2 :: pc ps := rfl
theorem pc_at {ps : List (Int × Bool)} {k : Nat} {p : Int × Bool} (h : ps[k]? = some p) : (pc ps)[k * 2]? = some (.int .i64 p.1) ∧ (pc ps)[k * 2 + 1]? = some (.bool p.2) := by
  induction ps generalizing k with
  | nil => simp at h
  | cons q ps ih =>
    rw [pc_cons]
    cases k with
    | zero => simp at h; subst h; simp
    | succ k =>
      have := ih (by simpa using h)
      rw [show (k + 1) * 2 = k * 2 + 1 + 1 by omega]
      simpa using this

/-- A push that is read: its two cells. -/
theorem Reads.push {w : World} {B n k : Nat} {A : Option Addr} {ps : List (Int × Bool)} (h : Reads w B 2 A n (pc ps)) (hn : ps.length = n) (hk : k < n) :
    ∃ ad p, A = some ad ∧ ad.block < B ∧ ps[k]? = some p ∧ w.cell? (ad.add (k * 2)) = some (.int .i64 p.1) ∧ w.cell? ⟨(ad.add (k * 2)).block, (ad.add (k * 2)).off + 1, none⟩ = some (.bool p.2) := by
  obtain ⟨ad, e, hb, hc⟩ := h.2 (by omega)
  have hp : ps[k]? = some (ps[k]'(by omega)) := List.getElem?_eq_getElem (by omega)
  have h2 := pc_at hp
  refine ⟨ad, _, e, hb, hp, hc _ _ h2.1, ?_⟩
  have := hc _ _ h2.2
  rw [← add_of_add] at this
  exact this





theorem info_push : (Tryz.prog.info? 33).map (fun i => (i.zero, i.size, i.bytes)) = some (some (.agg #[.int .i64 0, .bool false]), 2, 16) := by kernel_rfl






/-! ### Marks -/



end Go.Proofs.YthepfpiphlfgnaaGreat

/-
  YthepfpiphlfgnaaGreatOpenP: an argument that is a list of pushes, or one push, opened. The first block is copied from the guide's page of structs.
-/
namespace Go.Proofs.YthepfpiphlfgnaaGreat
open Go.RowKit Go.WideShapes Go.ChangeShapes Go.Deep Go.Joins

section
variable {H : Type} {enc : TypeId × Value → H} {P : Program} {w : World} {base : Nat} {spare : Nat → Bool} {held : Bool}
end

section
variable {H : Type} {enc : TypeId × Value → H} {P : Program} {w : World} {sp : Nat → Bool} {held : Bool}


end

end Go.Proofs.YthepfpiphlfgnaaGreat

/-
  YthepfpiphlfgnaaGreatPV: PushesValid: the reference and the program, both compute pushesB.
-/
namespace Go.Proofs.YthepfpiphlfgnaaGreat
open Go.RowKit

def cornersB (W T : Int) (bs : List Bool) : Int := if validB W T bs then (W + 1) * (T + 1) else -1
theorem cornersB_ok {R : Reg} (hR : R.ok) : cornersB R.W R.T R.C = (R.corners : Int) := by
  unfold cornersB
  rw [valid_of_ok hR, if_pos rfl]
  unfold Reg.corners
  simp
theorem cornersB_bd (W T : Int) (bs : List Bool) : -1 ≤ cornersB W T bs ∧ cornersB W T bs ≤ 49 := by
  cases hv : validB W T bs with
  | false => unfold cornersB; rw [hv]; simp
  | true =>
    obtain ⟨R, hR, rfl, rfl, rfl⟩ := reg_of_valid hv
    rw [cornersB_ok hR]
    have := corners_bd hR
    omega
theorem cornerManyS_any (W T : Int) (A : Option Addr) (n c B : Nat) (bs : List Bool) (w : World) (hl : bs.length = n) (hr : Reads w B 1 A n (bs.map Value.bool)) (hB : B ≤ w.heap.size) (hn : n ≤ 9223372036854775807) :
    Calls Tryz.prog 40 #[.agg #[.int .i64 W, .int .i64 T, .slice A n c]] w fun e w' => e = .returned (.int .i64 (cornersB W T bs)) ∧ Below w.heap.size w w' := by
  cases hv : validB W T bs with
  | false =>
    have := cornerManyS_no W T A n c B bs w hr hB hn hv
    unfold cornersB
    rw [hv]
    exact this
  | true =>
    obtain ⟨R, hR, rfl, rfl, rfl⟩ := reg_of_valid hv
    rw [cornersB_ok hR]
    subst hl
    exact cornerManyS_ok R hR A c B w hr hB

noncomputable def pushesB (W T : Int) (bs : List Bool) (ps : List (Int × Bool)) : Bool :=
  simpleB W T bs && (decide (ps.length ≤ 128) && ps.all fun p => inB p.1 0 (cornersB W T bs - 1))

theorem cell_keep {w w' : World} {p : Addr} {v : Value} (h : w.cell? p = some v) (hb : Below w.heap.size w w') : w'.cell? p = some v := (hb.cell (World.block_lt_of_cell? w p h)).trans h

theorem all_false_at {ps : List (Int × Bool)} {f : Int × Bool → Bool} {k : Nat} {p : Int × Bool} (hp : ps[k]? = some p) (h : f p = false) : ps.all f = false := by
  rw [List.all_eq_false]
  exact ⟨p, List.mem_of_getElem? hp, by simp [h]⟩
theorem all_true_of {ps : List (Int × Bool)} {f : Int × Bool → Bool} (h : ∀ (k : Nat) (p : Int × Bool), ps[k]? = some p → f p = true) : ps.all f = true := by
  rw [List.all_eq_true]
  intro p hp
  obtain ⟨k, hk⟩ := List.getElem?_of_mem hp
  exact h k p hk

set_option maxRecDepth 20000 in
theorem PushesValidS_any (W T : Int) (A : Option Addr) (n c B : Nat) (bs : List Bool) (P : Option Addr) (m d D : Nat) (ps : List (Int × Bool)) (w : World)
    (hl : bs.length = n) (hr : Reads w B 1 A n (bs.map Value.bool)) (hB : B ≤ w.heap.size) (hn : n ≤ 9223372036854775807)
    (hm : ps.length = m) (hp : Reads w D 2 P m (pc ps)) (hD : D ≤ w.heap.size) (hmm : m ≤ 9223372036854775807) :
    Calls Tryz.prog 19 #[.agg #[.int .i64 W, .int .i64 T, .slice A n c], .slice P m d] w fun e w' => e = .returned (.bool (pushesB W T bs ps)) ∧ Below w.heap.size w w' := by
  have hcb := cornersB_bd W T bs
  have HPB : Hid (pushesB W T bs ps = (simpleB W T bs && (decide (ps.length ≤ 128) && ps.all fun p => inB p.1 0 (cornersB W T bs - 1)))) := Lib.hid rfl
  go_enter Tryz.func19, Tryz.ntmps19
  go_wp2
  go_loopg [5] m (fun r i wr => ∃ k : Nat, k + r = m ∧ i = .int .i64 (k : Nat) ∧ (∀ j p, j < k → ps[j]? = some p → inB p.1 0 (cornersB W T bs - 1) = true) ∧ Blk wr w.heap.size 25 #[.int .i64 W, .int .i64 T, .slice A n c] ∧ Below w.heap.size w wr)
  case atStart => exact ⟨0, by omega, rfl, fun j p hj => by omega, Blk.new _ _ _, (Below.refl _ _).alloc (Nat.le_refl _) _⟩
  case round =>
    obtain ⟨k, hk, rfl, hall, hbk, hb⟩ := hrel
    have HK := Lib.hid hk
    have HALL := Lib.hid hall
    clear hk hall
    have b0 := hbk.cell 0
    have b1 := hbk.cell 1
    have b2 := hbk.cell 2
    simp at b0 b1 b2
    by_cases hlt : k < m
    · obtain ⟨ad, ⟨z, b⟩, rfl, hab, hpk, hcell, hcell2⟩ := (hp.below (hb.mono hD)).push hm hlt
      have HP := Lib.hid hpk
      clear hpk
      dsimp only at hcell hcell2
      have hrd : Reads wr.drew B 1 A n (bs.map Value.bool) := (hr.below (hb.mono hB)).drew
      have hsz : w.heap.size ≤ wr.drew.heap.size := hb.size
      have HC := hide (cornerManyS_any W T A n c B bs wr.drew hl hrd (by omega) hn)
      clear hrd
      have hw1 : IntKind.i64.wrap (cornersB W T bs - 1) = cornersB W T bs - 1 := IntWalk.i64_in _ (by omega)
      generalize cornersB W T bs = cb at *
      cases hin : inB z 0 (cb - 1) with
      | false =>
        have HI := Lib.hid hin
        clear hin
        go_upto_region 4 with fail
        go_region_held3 (fun w' => w'.cell? (ad.add (k * 2)) = some (Value.int IntKind.i64 z) ∧ w'.cell? ⟨w.heap.size, 0, none⟩ = some (.int .i64 W) ∧ w'.cell? ⟨w.heap.size, 1, none⟩ = some (.int .i64 T) ∧ w'.cell? ⟨w.heap.size, 2, none⟩ = some (.slice A n c))
          (first | exact ⟨hcell, b0, b1, b2⟩ | exact ⟨cell_keep (w := wr.drew) hcell hb2, cell_keep (w := wr.drew) b0 hb2, cell_keep (w := wr.drew) b1 hb2, cell_keep (w := wr.drew) b2 hb2⟩)
          (first
            | (go_at_call 40; refine (unhide HC).mono ?_; rintro e w2 ⟨rfl, hb2⟩)
            | (go_at_call 47; refine (l1In_any z 0 (cb - 1) _).mono ?_; rintro e w3 ⟨rfl, rfl⟩; rw [HI.out]))
        go_wp2
        go_ret
        have hpf : pushesB W T bs ps = false := by
          rw [HPB.out, all_false_at HP.out HI.out]
          simp
        exact ⟨by rw [hpf]; rfl, hb.drew.trans (hb2.mono hsz)⟩
      | true =>
        have HI := Lib.hid hin
        clear hin
        go_upto_region 4 with fail
        go_region_held3 (fun w' => w'.cell? (ad.add (k * 2)) = some (Value.int IntKind.i64 z) ∧ w'.cell? ⟨w.heap.size, 0, none⟩ = some (.int .i64 W) ∧ w'.cell? ⟨w.heap.size, 1, none⟩ = some (.int .i64 T) ∧ w'.cell? ⟨w.heap.size, 2, none⟩ = some (.slice A n c))
          (first | exact ⟨hcell, b0, b1, b2⟩ | exact ⟨cell_keep (w := wr.drew) hcell hb2, cell_keep (w := wr.drew) b0 hb2, cell_keep (w := wr.drew) b1 hb2, cell_keep (w := wr.drew) b2 hb2⟩)
          (first
            | (go_at_call 40; refine (unhide HC).mono ?_; rintro e w2 ⟨rfl, hb2⟩)
            | (go_at_call 47; refine (l1In_any z 0 (cb - 1) _).mono ?_; rintro e w3 ⟨rfl, rfl⟩; rw [HI.out]))
        go_wp2
        go_roundg (m - (k + 1))
        case measure => have := HK.out; omega
        case rel =>
          refine ⟨k + 1, by have := HK.out; omega, by go_num, fun j p hj hjp => ?_, hbk.drew.below hb2 hbk.drew.lt, hb.drew.trans (hb2.mono hsz)⟩
          by_cases hjk : j = k
          · subst hjk
            rw [HP.out] at hjp
            injection hjp with hjp
            subst hjp
            exact HI.out
          · exact HALL.out j p (by omega) hjp
    · have HPF : Hid (pushesB W T bs ps = (simpleB W T bs && decide ((m : Int) ≤ 128))) := by
        have hk : k = m := by have := HK.out; omega
        have hall := all_true_of (ps := ps) (f := fun p => inB p.1 0 (cornersB W T bs - 1)) (fun j p hjp => HALL.out j p (by have := (List.getElem?_eq_some_iff.1 hjp).1; omega) hjp)
        refine Lib.hid ?_
        rw [HPB.out, hall, Bool.and_true, hm]
        congr 1
        simp; omega
      have hrd := hr.below (hb.mono hB)
      have hsz := hb.size
      have HS := hide (SimpleS_any W T A n c B bs wr hrd (by omega) hn)
      clear hrd
      generalize simpleB W T bs = sb at *
      cases sb with
      | false =>
        go_wp2_with (go_at_call 34; refine (unhide HS).mono ?_; rintro e w2 ⟨rfl, hb2⟩)
        go_ret
        exact ⟨by rw [HPF.out]; rfl, hb.trans (hb2.mono hsz)⟩
      | true =>
        go_wp2_with (go_at_call 34; refine (unhide HS).mono ?_; rintro e w2 ⟨rfl, hb2⟩)
        go_ret
        exact ⟨by rw [HPF.out]; rfl, hb.trans (hb2.mono hsz)⟩

end Go.Proofs.YthepfpiphlfgnaaGreat

/-
  YthepfpiphlfgnaaGreatPVI: PushesValid of the program.
-/
namespace Go.Proofs.YthepfpiphlfgnaaGreat
open Go.RowKit

theorem pvClos_any (R : Reg) (hR : R.ok) (A : Option Addr) (n c q : Nat) (z : Int) (b : Bool) (w : World) (hq : Blk w q 25 #[.int .i64 R.W, .int .i64 R.T, .slice A n c]) :
    Calls Tryz.prog 31 #[.agg #[.int .i64 z, .bool b], .pointer (some ⟨q, 0, none⟩)] w fun e w' => e = .returned (.bool (!(inB z 0 ((R.corners : Int) - 1)))) ∧ Below w.heap.size w w' := by
  have hcb := corners_bd hR
  have hw1 : IntKind.i64.wrap ((R.corners : Int) - 1) = (R.corners : Int) - 1 := IntWalk.i64_in _ (by omega)
  have b0 := hq.cell 0
  have b1 := hq.cell 1
  have b2 := hq.cell 2
  have hlt := hq.lt
  simp at b0 b1 b2
  generalize hcn : (R.corners : Int) = cn at *
  have HC : ∀ w', Hid (Calls Tryz.prog 27 #[.agg #[.int .i64 R.W, .int .i64 R.T, .slice A n c]] w' fun e w'' => e = .returned (.int .i64 cn) ∧ Below w'.heap.size w' w'') := by
    intro w'
    rw [← hcn]
    exact hide (cornersI_any R hR A n c w')
  have n0 : (w.alloc (Obj.cells #[Value.int IntKind.i64 z, Value.bool b] 33)).drew.cell? ⟨w.heap.size, 0, none⟩ = some (Value.int IntKind.i64 z) := (Blk.new w 33 #[Value.int IntKind.i64 z, Value.bool b]).cell 0
  have q0 := ((hq.alloc (Obj.cells #[Value.int IntKind.i64 z, Value.bool b] 33)).drew).cell 0
  have q1 := ((hq.alloc (Obj.cells #[Value.int IntKind.i64 z, Value.bool b] 33)).drew).cell 1
  have q2 := ((hq.alloc (Obj.cells #[Value.int IntKind.i64 z, Value.bool b] 33)).drew).cell 2
  have hbl : Below w.heap.size w (w.alloc (Obj.cells #[Value.int IntKind.i64 z, Value.bool b] 33)).drew := ((Below.refl _ _).alloc (Nat.le_refl _) _).drew
  cases hin : inB z 0 (cn - 1) with
  | false =>
    have HI := Lib.hid hin
    clear hin
    go_enter Tryz.func31, Tryz.ntmps31
    go_upto_region 1 with fail
    go_region_held3 (fun w' => w'.cell? ⟨w.heap.size, 0, none⟩ = some (Value.int IntKind.i64 z) ∧ w'.cell? ⟨q, 0, none⟩ = some (.int .i64 R.W) ∧ w'.cell? ⟨q, 1, none⟩ = some (.int .i64 R.T) ∧ w'.cell? ⟨q, 2, none⟩ = some (.slice A n c))
      (first | exact ⟨n0, q0, q1, q2⟩ | exact ⟨cell_keep n0 hb2, cell_keep q0 hb2, cell_keep q1 hb2, cell_keep q2 hb2⟩)
      (first
        | (go_at_call 27; refine (unhide (HC _)).mono ?_; rintro e w2 ⟨rfl, hb2⟩)
        | (go_at_call 32; refine (in_any z 0 (cn - 1) _).mono ?_; rintro e w3 ⟨rfl, rfl⟩; rw [HI.out]))
    go_wp2
    go_ret
    exact ⟨rfl, hbl.trans (hb2.mono hbl.size)⟩
  | true =>
    have HI := Lib.hid hin
    clear hin
    go_enter Tryz.func31, Tryz.ntmps31
    go_upto_region 1 with fail
    go_region_held3 (fun w' => w'.cell? ⟨w.heap.size, 0, none⟩ = some (Value.int IntKind.i64 z) ∧ w'.cell? ⟨q, 0, none⟩ = some (.int .i64 R.W) ∧ w'.cell? ⟨q, 1, none⟩ = some (.int .i64 R.T) ∧ w'.cell? ⟨q, 2, none⟩ = some (.slice A n c))
      (first | exact ⟨n0, q0, q1, q2⟩ | exact ⟨cell_keep n0 hb2, cell_keep q0 hb2, cell_keep q1 hb2, cell_keep q2 hb2⟩)
      (first
        | (go_at_call 27; refine (unhide (HC _)).mono ?_; rintro e w2 ⟨rfl, hb2⟩)
        | (go_at_call 32; refine (in_any z 0 (cn - 1) _).mono ?_; rintro e w3 ⟨rfl, rfl⟩; rw [HI.out]))
    go_wp2
    go_ret
    exact ⟨rfl, hbl.trans (hb2.mono hbl.size)⟩

/-- The first push off the corners, or -1. -/
def Found (ps : List (Int × Bool)) (cn : Int) (w : World) (e : Ending) (w' : World) : Prop :=
  ∃ z : Int, e = .returned (.int .i64 z) ∧ (z ≥ 0 ↔ ps.all (fun p => inB p.1 0 (cn - 1)) = false) ∧ Below w.heap.size w w'

theorem pvIndex_any (R : Reg) (hR : R.ok) (A : Option Addr) (n c q : Nat) (P : Option Addr) (m d D : Nat) (ps : List (Int × Bool)) (w : World) (hq : Blk w q 25 #[.int .i64 R.W, .int .i64 R.T, .slice A n c])
    (hm : ps.length = m) (hp : Reads w D 2 P m (pc ps)) (hD : D ≤ w.heap.size) (hmm : m ≤ 9223372036854775807) :
    Calls Tryz.prog 60 #[.slice P m d, .func (.func 31) #[] #[.pointer (some ⟨q, 0, none⟩)]] w (Found ps R.corners w) := by
  go_enter Tryz.func60, Tryz.ntmps60
  go_wp2
  go_loopg [8] m (fun r i wr => ∃ k : Nat, k + r = m ∧ i = .int .i64 (k : Nat) ∧ (∀ (j : Nat) (p : Int × Bool), j < k → ps[j]? = some p → inB p.1 0 ((R.corners : Int) - 1) = true) ∧ Below w.heap.size w wr)
  case atStart => exact ⟨0, by omega, rfl, fun j p hj => by omega, Below.refl _ _⟩
  case round =>
    obtain ⟨k, hk, rfl, hall, hb⟩ := hrel
    have HK := Lib.hid hk
    have HALL := Lib.hid hall
    clear hk hall
    by_cases hlt : k < m
    · obtain ⟨ad, ⟨z, b⟩, rfl, hab, hpk, hcell, hcell2⟩ := (hp.below (hb.mono hD)).push hm hlt
      have HP := Lib.hid hpk
      clear hpk
      dsimp only at hcell hcell2
      have HC := hide (pvClos_any R hR A n c q z b wr (hq.below hb hq.lt))
      have hsz := hb.size
      cases hin : inB z 0 ((R.corners : Int) - 1) with
      | false =>
        rw [hin] at HC
        have HI := Lib.hid hin
        clear hin
        go_wp2_with (go_at_call 31; refine (unhide HC).mono ?_; rintro e w2 ⟨rfl, hb2⟩)
        go_ret
        exact ⟨k, rfl, ⟨fun _ => all_false_at HP.out HI.out, fun _ => by omega⟩, hb.trans (hb2.mono hsz)⟩
      | true =>
        rw [hin] at HC
        have HI := Lib.hid hin
        clear hin
        go_wp2_with (go_at_call 31; refine (unhide HC).mono ?_; rintro e w2 ⟨rfl, hb2⟩)
        go_roundg (m - (k + 1))
        case measure => have := HK.out; omega
        case rel =>
          refine ⟨k + 1, by have := HK.out; omega, by go_num, fun j p hj hjp => ?_, hb.trans (hb2.mono hsz)⟩
          by_cases hjk : j = k
          · subst hjk
            rw [HP.out] at hjp
            injection hjp with hjp
            subst hjp
            exact HI.out
          · exact HALL.out j p (by omega) hjp
    · go_wp2
      go_ret
      have hk : k = m := by have := HK.out; omega
      have hall := all_true_of (ps := ps) (f := fun p => inB p.1 0 ((R.corners : Int) - 1)) (fun j p hjp => HALL.out j p (by have := (List.getElem?_eq_some_iff.1 hjp).1; omega) hjp)
      exact ⟨-1, rfl, by rw [hall]; simp, hb⟩

theorem pvContains_any (R : Reg) (hR : R.ok) (A : Option Addr) (n c q : Nat) (P : Option Addr) (m d D : Nat) (ps : List (Int × Bool)) (w : World) (hq : Blk w q 25 #[.int .i64 R.W, .int .i64 R.T, .slice A n c])
    (hm : ps.length = m) (hp : Reads w D 2 P m (pc ps)) (hD : D ≤ w.heap.size) (hmm : m ≤ 9223372036854775807) :
    Calls Tryz.prog 30 #[.slice P m d, .func (.func 31) #[] #[.pointer (some ⟨q, 0, none⟩)]] w
      fun e w' => e = .returned (.bool (!(ps.all fun p => inB p.1 0 ((R.corners : Int) - 1)))) ∧ Below w.heap.size w w' := by
  have HI := hide (pvIndex_any R hR A n c q P m d D ps w hq hm hp hD hmm)
  cases hall : ps.all (fun p => inB p.1 0 ((R.corners : Int) - 1)) with
  | false =>
    have HA := Lib.hid hall
    clear hall
    go_enter Tryz.func30, Tryz.ntmps30
    go_wp2_with (go_at_call 60; refine (unhide HI).mono ?_; rintro e w2 ⟨z, rfl, hz, hb2⟩; have hz2 : (0 : Int) ≤ z := hz.2 HA.out; clear hz)
    go_ret
    exact ⟨rfl, hb2⟩
  | true =>
    have HA := Lib.hid hall
    clear hall
    go_enter Tryz.func30, Tryz.ntmps30
    go_wp2_with (go_at_call 60; refine (unhide HI).mono ?_; rintro e w2 ⟨z, rfl, hz, hb2⟩; have hz2 : decide ((0 : Int) ≤ z) = false := decide_eq_false (fun h => Bool.noConfusion (HA.out.symm.trans (hz.1 h))); clear hz)
    go_ret
    exact ⟨rfl, hb2⟩

theorem PushesValidI_any (W T : Int) (A : Option Addr) (n c B : Nat) (bs : List Bool) (P : Option Addr) (m d D : Nat) (ps : List (Int × Bool)) (w : World)
    (hl : bs.length = n) (hr : Reads w B 1 A n (bs.map Value.bool)) (hB : B ≤ w.heap.size) (hn : n ≤ 9223372036854775807)
    (hm : ps.length = m) (hp : Reads w D 2 P m (pc ps)) (hD : D ≤ w.heap.size) (hmm : m ≤ 9223372036854775807) :
    Calls Tryz.prog 10 #[.agg #[.int .i64 W, .int .i64 T, .slice A n c], .slice P m d] w fun e w' => e = .returned (.bool (pushesB W T bs ps)) ∧ Below w.heap.size w w' := by
  have hmf : ∀ (fn : Fn) (first cap : Array Value) (w : World), (Instr.makeFunc fn first cap).run Tryz.prog w = .ok (.func fn first cap) w := fun _ _ _ _ => rfl
  have HPB : Hid (pushesB W T bs ps = (simpleB W T bs && (decide (ps.length ≤ 128) && ps.all fun p => inB p.1 0 (cornersB W T bs - 1)))) := Lib.hid rfl
  have hr0 := hr.alloc hB (.cells #[.int .i64 W, .int .i64 T, .slice A n c] 25)
  have HS := hide (SimpleI_any W T A n c B bs _ hr0 (by simp; omega) hn)
  cases hs : simpleB W T bs with
  | false =>
    rw [hs] at HS
    have HF : Hid (pushesB W T bs ps = false) := Lib.hid (by rw [HPB.out, hs]; rfl)
    clear hs
    go_enter Tryz.func10, Tryz.ntmps10
    go_wp2_with (go_at_call 29; refine (unhide HS).mono ?_; rintro e w2 ⟨rfl, hb2⟩)
    go_ret
    exact ⟨by rw [HF.out]; rfl, ((Below.refl _ _).alloc (Nat.le_refl _) _).trans (hb2.mono (by simp))⟩
  | true =>
    rw [hs] at HS
    have hv : validB W T bs = true := by
      unfold simpleB at hs
      rw [Bool.and_eq_true] at hs
      exact hs.1
    rw [hs, Bool.true_and] at HPB
    clear hs
    obtain ⟨R, hR, rfl, rfl, rfl⟩ := reg_of_valid hv
    rw [cornersB_ok hR] at HPB
    by_cases h128 : m ≤ 128
    · have hdm : decide (ps.length ≤ 128) = true := by simp; omega
      rw [hdm, Bool.true_and] at HPB
      have h128' : (m : Int) ≤ 128 := by omega
      cases hall : ps.all (fun p => inB p.1 0 ((R.corners : Int) - 1)) with
      | false =>
        have HC : ∀ w2, Below (w.heap.size + 1) (w.alloc (.cells #[.int .i64 R.W, .int .i64 R.T, .slice A n c] 25)) w2 → Hid (Calls Tryz.prog 30 #[.slice P m d, .func (.func 31) #[] #[.pointer (some ⟨w.heap.size, 0, none⟩)]] w2
            fun e w' => e = .returned (.bool true) ∧ Below w2.heap.size w2 w') := by
          intro w2 hb2
          have := pvContains_any R hR A n c w.heap.size P m d D ps w2 ((Blk.new _ _ _).below hb2 (by simp)) hm ((hp.alloc hD _).below (hb2.mono (by omega))) (by have := hb2.size; simp at this; omega) hmm
          rw [hall] at this
          exact hide this
        have HF : Hid (pushesB R.W R.T R.C ps = false) := Lib.hid (by rw [HPB.out, hall])
        clear hall
        go_enter Tryz.func10, Tryz.ntmps10
        go_wp2_with first
          | (go_at_call 29; refine (unhide HS).mono ?_; rintro e w2 ⟨rfl, hb2⟩; rw [World.size_alloc] at hb2)
          | (go_at_call 30; refine (unhide (HC w2 hb2)).mono ?_; rintro e w3 ⟨rfl, hb3⟩)
        go_ret
        exact ⟨by rw [HF.out]; rfl, (((Below.refl _ _).alloc (Nat.le_refl _) _).trans (hb2.mono (by simp))).trans (hb3.mono (by have := hb2.size; simp at this; omega))⟩
      | true =>
        have HC : ∀ w2, Below (w.heap.size + 1) (w.alloc (.cells #[.int .i64 R.W, .int .i64 R.T, .slice A n c] 25)) w2 → Hid (Calls Tryz.prog 30 #[.slice P m d, .func (.func 31) #[] #[.pointer (some ⟨w.heap.size, 0, none⟩)]] w2
            fun e w' => e = .returned (.bool false) ∧ Below w2.heap.size w2 w') := by
          intro w2 hb2
          have := pvContains_any R hR A n c w.heap.size P m d D ps w2 ((Blk.new _ _ _).below hb2 (by simp)) hm ((hp.alloc hD _).below (hb2.mono (by omega))) (by have := hb2.size; simp at this; omega) hmm
          rw [hall] at this
          exact hide this
        have HF : Hid (pushesB R.W R.T R.C ps = true) := Lib.hid (by rw [HPB.out, hall])
        clear hall
        go_enter Tryz.func10, Tryz.ntmps10
        go_wp2_with first
          | (go_at_call 29; refine (unhide HS).mono ?_; rintro e w2 ⟨rfl, hb2⟩; rw [World.size_alloc] at hb2)
          | (go_at_call 30; refine (unhide (HC w2 hb2)).mono ?_; rintro e w3 ⟨rfl, hb3⟩)
        go_ret
        exact ⟨by rw [HF.out]; rfl, (((Below.refl _ _).alloc (Nat.le_refl _) _).trans (hb2.mono (by simp))).trans (hb3.mono (by have := hb2.size; simp at this; omega))⟩
    · have hdm : decide (ps.length ≤ 128) = false := by simp; omega
      have HF : Hid (pushesB R.W R.T R.C ps = false) := Lib.hid (by rw [HPB.out, hdm]; rfl)
      have h128' : ¬ ((m : Int) ≤ 128) := by omega
      clear hdm
      go_enter Tryz.func10, Tryz.ntmps10
      go_wp2_with (go_at_call 29; refine (unhide HS).mono ?_; rintro e w2 ⟨rfl, hb2⟩)
      go_ret
      exact ⟨by rw [HF.out]; rfl, ((Below.refl _ _).alloc (Nat.le_refl _) _).trans (hb2.mono (by simp))⟩

end Go.Proofs.YthepfpiphlfgnaaGreat
