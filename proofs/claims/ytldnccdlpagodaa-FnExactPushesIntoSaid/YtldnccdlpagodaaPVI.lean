/-
  YtldnccdlpagodaaPVI: PushesValid of the program.
-/
import Derived.Test.YtldnccdlpagodaaPV
import Derived.Laws.EntriesVeiled
namespace Go.Proofs.Ytldnccdlpagodaa
open Go.RowKit

theorem pvClos_any (R : Reg) (hR : R.ok) (A : Option Addr) (n c q : Nat) (z : Int) (b : Bool) (w : World) (hq : Blk w q 29 #[.int .i64 R.W, .int .i64 R.T, .slice A n c]) :
    Calls Try.prog 133 #[.agg #[.int .i64 z, .bool b], .pointer (some ⟨q, 0, none⟩)] w fun e w' => e = .returned (.bool (!(inB z 0 ((R.corners : Int) - 1)))) ∧ Below w.heap.size w w' := by
  have hcb := corners_bd hR
  have hw1 : IntKind.i64.wrap ((R.corners : Int) - 1) = (R.corners : Int) - 1 := IntWalk.i64_in _ (by omega)
  have b0 := hq.cell 0
  have b1 := hq.cell 1
  have b2 := hq.cell 2
  have hlt := hq.lt
  simp at b0 b1 b2
  generalize hcn : (R.corners : Int) = cn at *
  have HC : ∀ w', Hid (Calls Try.prog 70 #[.agg #[.int .i64 R.W, .int .i64 R.T, .slice A n c]] w' fun e w'' => e = .returned (.int .i64 cn) ∧ Below w'.heap.size w' w'') := by
    intro w'
    rw [← hcn]
    exact hide (cornersI_any R hR A n c w')
  have n0 : (w.alloc (Obj.cells #[Value.int IntKind.i64 z, Value.bool b] 45)).drew.cell? ⟨w.heap.size, 0, none⟩ = some (Value.int IntKind.i64 z) := (Blk.new w 45 #[Value.int IntKind.i64 z, Value.bool b]).cell 0
  have q0 := ((hq.alloc (Obj.cells #[Value.int IntKind.i64 z, Value.bool b] 45)).drew).cell 0
  have q1 := ((hq.alloc (Obj.cells #[Value.int IntKind.i64 z, Value.bool b] 45)).drew).cell 1
  have q2 := ((hq.alloc (Obj.cells #[Value.int IntKind.i64 z, Value.bool b] 45)).drew).cell 2
  have hbl : Below w.heap.size w (w.alloc (Obj.cells #[Value.int IntKind.i64 z, Value.bool b] 45)).drew := ((Below.refl _ _).alloc (Nat.le_refl _) _).drew
  cases hin : inB z 0 (cn - 1) with
  | false =>
    have HI := Lib.hid hin
    clear hin
    go_enter Try.func133, Try.ntmps133
    go_upto_region 1 with fail
    go_region_held3 (fun w' => w'.cell? ⟨w.heap.size, 0, none⟩ = some (Value.int IntKind.i64 z) ∧ w'.cell? ⟨q, 0, none⟩ = some (.int .i64 R.W) ∧ w'.cell? ⟨q, 1, none⟩ = some (.int .i64 R.T) ∧ w'.cell? ⟨q, 2, none⟩ = some (.slice A n c))
      (first | exact ⟨n0, q0, q1, q2⟩ | exact ⟨cell_keep n0 hb2, cell_keep q0 hb2, cell_keep q1 hb2, cell_keep q2 hb2⟩)
      (first
        | (go_at_call 70; refine (unhide (HC _)).mono ?_; rintro e w2 ⟨rfl, hb2⟩)
        | (go_at_call 69; refine (in_any z 0 (cn - 1) _).mono ?_; rintro e w3 ⟨rfl, rfl⟩; rw [HI.out]))
    go_wp2
    go_ret
    exact ⟨rfl, hbl.trans (hb2.mono hbl.size)⟩
  | true =>
    have HI := Lib.hid hin
    clear hin
    go_enter Try.func133, Try.ntmps133
    go_upto_region 1 with fail
    go_region_held3 (fun w' => w'.cell? ⟨w.heap.size, 0, none⟩ = some (Value.int IntKind.i64 z) ∧ w'.cell? ⟨q, 0, none⟩ = some (.int .i64 R.W) ∧ w'.cell? ⟨q, 1, none⟩ = some (.int .i64 R.T) ∧ w'.cell? ⟨q, 2, none⟩ = some (.slice A n c))
      (first | exact ⟨n0, q0, q1, q2⟩ | exact ⟨cell_keep n0 hb2, cell_keep q0 hb2, cell_keep q1 hb2, cell_keep q2 hb2⟩)
      (first
        | (go_at_call 70; refine (unhide (HC _)).mono ?_; rintro e w2 ⟨rfl, hb2⟩)
        | (go_at_call 69; refine (in_any z 0 (cn - 1) _).mono ?_; rintro e w3 ⟨rfl, rfl⟩; rw [HI.out]))
    go_wp2
    go_ret
    exact ⟨rfl, hbl.trans (hb2.mono hbl.size)⟩

/-- The first push off the corners, or -1. -/
def Found (ps : List (Int × Bool)) (cn : Int) (w : World) (e : Ending) (w' : World) : Prop :=
  ∃ z : Int, e = .returned (.int .i64 z) ∧ (z ≥ 0 ↔ ps.all (fun p => inB p.1 0 (cn - 1)) = false) ∧ Below w.heap.size w w'

theorem pvIndex_any (R : Reg) (hR : R.ok) (A : Option Addr) (n c q : Nat) (P : Option Addr) (m d D : Nat) (ps : List (Int × Bool)) (w : World) (hq : Blk w q 29 #[.int .i64 R.W, .int .i64 R.T, .slice A n c])
    (hm : ps.length = m) (hp : Reads w D 2 P m (pc ps)) (hD : D ≤ w.heap.size) (hmm : m ≤ 9223372036854775807) :
    Calls Try.prog 153 #[.slice P m d, .func (.func 133) #[] #[.pointer (some ⟨q, 0, none⟩)]] w (Found ps R.corners w) := by
  go_enter Try.func153, Try.ntmps153
  go_wp2
  go_loopg [8] m (fun r i wr => ∃ k : Nat, k + r = m ∧ i = .int .i64 (k : Nat) ∧ (∀ (j : Nat) (p : Int × Bool), j < k → ps[j]? = some p → inB p.1 0 ((R.corners : Int) - 1) = true) ∧ Below w.heap.size w wr)
  case atStart => exact ⟨0, by omega, rfl, fun j p hj => by omega, Below.refl _ _⟩
  case round =>
    obtain ⟨k, hk, rfl, hall, hb⟩ := hrel
    have HK := Lib.hid hk
    have HALL := Lib.hid hall
    clear hk hall
    by_cases hlt : k < m
    · obtain ⟨ad, ⟨z, b⟩, rfl, hab, hpk, hcell, hcell2⟩ := (hp.below (hb.mono hD)).push hm hlt
      have HP := Lib.hid hpk
      clear hpk
      dsimp only at hcell hcell2
      have HC := hide (pvClos_any R hR A n c q z b wr (hq.below hb hq.lt))
      have hsz := hb.size
      cases hin : inB z 0 ((R.corners : Int) - 1) with
      | false =>
        rw [hin] at HC
        have HI := Lib.hid hin
        clear hin
        go_wp2_with (go_at_call 133; refine (unhide HC).mono ?_; rintro e w2 ⟨rfl, hb2⟩)
        go_ret
        exact ⟨k, rfl, ⟨fun _ => all_false_at HP.out HI.out, fun _ => by omega⟩, hb.trans (hb2.mono hsz)⟩
      | true =>
        rw [hin] at HC
        have HI := Lib.hid hin
        clear hin
        go_wp2_with (go_at_call 133; refine (unhide HC).mono ?_; rintro e w2 ⟨rfl, hb2⟩)
        go_roundg (m - (k + 1))
        case measure => have := HK.out; omega
        case rel =>
          refine ⟨k + 1, by have := HK.out; omega, by go_num, fun j p hj hjp => ?_, hb.trans (hb2.mono hsz)⟩
          by_cases hjk : j = k
          · subst hjk
            rw [HP.out] at hjp
            injection hjp with hjp
            subst hjp
            exact HI.out
          · exact HALL.out j p (by omega) hjp
    · go_wp2
      go_ret
      have hk : k = m := by have := HK.out; omega
      have hall := all_true_of (ps := ps) (f := fun p => inB p.1 0 ((R.corners : Int) - 1)) (fun j p hjp => HALL.out j p (by have := (List.getElem?_eq_some_iff.1 hjp).1; omega) hjp)
      exact ⟨-1, rfl, by rw [hall]; simp, hb⟩

theorem pvContains_any (R : Reg) (hR : R.ok) (A : Option Addr) (n c q : Nat) (P : Option Addr) (m d D : Nat) (ps : List (Int × Bool)) (w : World) (hq : Blk w q 29 #[.int .i64 R.W, .int .i64 R.T, .slice A n c])
    (hm : ps.length = m) (hp : Reads w D 2 P m (pc ps)) (hD : D ≤ w.heap.size) (hmm : m ≤ 9223372036854775807) :
    Calls Try.prog 132 #[.slice P m d, .func (.func 133) #[] #[.pointer (some ⟨q, 0, none⟩)]] w
      fun e w' => e = .returned (.bool (!(ps.all fun p => inB p.1 0 ((R.corners : Int) - 1)))) ∧ Below w.heap.size w w' := by
  have HI := hide (pvIndex_any R hR A n c q P m d D ps w hq hm hp hD hmm)
  cases hall : ps.all (fun p => inB p.1 0 ((R.corners : Int) - 1)) with
  | false =>
    have HA := Lib.hid hall
    clear hall
    go_enter Try.func132, Try.ntmps132
    go_wp2_with (go_at_call 153; refine (unhide HI).mono ?_; rintro e w2 ⟨z, rfl, hz, hb2⟩; have hz2 : (0 : Int) ≤ z := hz.2 HA.out; clear hz)
    go_ret
    exact ⟨rfl, hb2⟩
  | true =>
    have HA := Lib.hid hall
    clear hall
    go_enter Try.func132, Try.ntmps132
    go_wp2_with (go_at_call 153; refine (unhide HI).mono ?_; rintro e w2 ⟨z, rfl, hz, hb2⟩; have hz2 : decide ((0 : Int) ≤ z) = false := decide_eq_false (fun h => Bool.noConfusion (HA.out.symm.trans (hz.1 h))); clear hz)
    go_ret
    exact ⟨rfl, hb2⟩

theorem PushesValidI_any (W T : Int) (A : Option Addr) (n c B : Nat) (bs : List Bool) (P : Option Addr) (m d D : Nat) (ps : List (Int × Bool)) (w : World)
    (hl : bs.length = n) (hr : Reads w B 1 A n (bs.map Value.bool)) (hB : B ≤ w.heap.size) (hn : n ≤ 9223372036854775807)
    (hm : ps.length = m) (hp : Reads w D 2 P m (pc ps)) (hD : D ≤ w.heap.size) (hmm : m ≤ 9223372036854775807) :
    Calls Try.prog 88 #[.agg #[.int .i64 W, .int .i64 T, .slice A n c], .slice P m d] w fun e w' => e = .returned (.bool (pushesB W T bs ps)) ∧ Below w.heap.size w w' := by
  have hmf : ∀ (fn : Fn) (first cap : Array Value) (w : World), (Instr.makeFunc fn first cap).run Try.prog w = .ok (.func fn first cap) w := fun _ _ _ _ => rfl
  have HPB : Hid (pushesB W T bs ps = (simpleB W T bs && (decide (ps.length ≤ 128) && ps.all fun p => inB p.1 0 (cornersB W T bs - 1)))) := Lib.hid rfl
  have hr0 := hr.alloc hB (.cells #[.int .i64 W, .int .i64 T, .slice A n c] 29)
  have HS := hide (SimpleI_any W T A n c B bs _ hr0 (by simp; omega) hn)
  cases hs : simpleB W T bs with
  | false =>
    rw [hs] at HS
    have HF : Hid (pushesB W T bs ps = false) := Lib.hid (by rw [HPB.out, hs]; rfl)
    clear hs
    go_enter Try.func88, Try.ntmps88
    go_wp2_with (go_at_call 68; refine (unhide HS).mono ?_; rintro e w2 ⟨rfl, hb2⟩)
    go_ret
    exact ⟨by rw [HF.out]; rfl, ((Below.refl _ _).alloc (Nat.le_refl _) _).trans (hb2.mono (by simp))⟩
  | true =>
    rw [hs] at HS
    have hv : validB W T bs = true := by
      unfold simpleB at hs
      rw [Bool.and_eq_true] at hs
      exact hs.1
    rw [hs, Bool.true_and] at HPB
    clear hs
    obtain ⟨R, hR, rfl, rfl, rfl⟩ := reg_of_valid hv
    rw [cornersB_ok hR] at HPB
    by_cases h128 : m ≤ 128
    · have hdm : decide (ps.length ≤ 128) = true := by simp; omega
      rw [hdm, Bool.true_and] at HPB
      have h128' : (m : Int) ≤ 128 := by omega
      cases hall : ps.all (fun p => inB p.1 0 ((R.corners : Int) - 1)) with
      | false =>
        have HC : ∀ w2, Below (w.heap.size + 1) (w.alloc (.cells #[.int .i64 R.W, .int .i64 R.T, .slice A n c] 29)) w2 → Hid (Calls Try.prog 132 #[.slice P m d, .func (.func 133) #[] #[.pointer (some ⟨w.heap.size, 0, none⟩)]] w2
            fun e w' => e = .returned (.bool true) ∧ Below w2.heap.size w2 w') := by
          intro w2 hb2
          have := pvContains_any R hR A n c w.heap.size P m d D ps w2 ((Blk.new _ _ _).below hb2 (by simp)) hm ((hp.alloc hD _).below (hb2.mono (by omega))) (by have := hb2.size; simp at this; omega) hmm
          rw [hall] at this
          exact hide this
        have HF : Hid (pushesB R.W R.T R.C ps = false) := Lib.hid (by rw [HPB.out, hall])
        clear hall
        go_enter Try.func88, Try.ntmps88
        go_wp2_with first
          | (go_at_call 68; refine (unhide HS).mono ?_; rintro e w2 ⟨rfl, hb2⟩; rw [World.size_alloc] at hb2)
          | (go_at_call 132; refine (unhide (HC w2 hb2)).mono ?_; rintro e w3 ⟨rfl, hb3⟩)
        go_ret
        exact ⟨by rw [HF.out]; rfl, (((Below.refl _ _).alloc (Nat.le_refl _) _).trans (hb2.mono (by simp))).trans (hb3.mono (by have := hb2.size; simp at this; omega))⟩
      | true =>
        have HC : ∀ w2, Below (w.heap.size + 1) (w.alloc (.cells #[.int .i64 R.W, .int .i64 R.T, .slice A n c] 29)) w2 → Hid (Calls Try.prog 132 #[.slice P m d, .func (.func 133) #[] #[.pointer (some ⟨w.heap.size, 0, none⟩)]] w2
            fun e w' => e = .returned (.bool false) ∧ Below w2.heap.size w2 w') := by
          intro w2 hb2
          have := pvContains_any R hR A n c w.heap.size P m d D ps w2 ((Blk.new _ _ _).below hb2 (by simp)) hm ((hp.alloc hD _).below (hb2.mono (by omega))) (by have := hb2.size; simp at this; omega) hmm
          rw [hall] at this
          exact hide this
        have HF : Hid (pushesB R.W R.T R.C ps = true) := Lib.hid (by rw [HPB.out, hall])
        clear hall
        go_enter Try.func88, Try.ntmps88
        go_wp2_with first
          | (go_at_call 68; refine (unhide HS).mono ?_; rintro e w2 ⟨rfl, hb2⟩; rw [World.size_alloc] at hb2)
          | (go_at_call 132; refine (unhide (HC w2 hb2)).mono ?_; rintro e w3 ⟨rfl, hb3⟩)
        go_ret
        exact ⟨by rw [HF.out]; rfl, (((Below.refl _ _).alloc (Nat.le_refl _) _).trans (hb2.mono (by simp))).trans (hb3.mono (by have := hb2.size; simp at this; omega))⟩
    · have hdm : decide (ps.length ≤ 128) = false := by simp; omega
      have HF : Hid (pushesB R.W R.T R.C ps = false) := Lib.hid (by rw [HPB.out, hdm]; rfl)
      have h128' : ¬ ((m : Int) ≤ 128) := by omega
      clear hdm
      go_enter Try.func88, Try.ntmps88
      go_wp2_with (go_at_call 68; refine (unhide HS).mono ?_; rintro e w2 ⟨rfl, hb2⟩)
      go_ret
      exact ⟨by rw [HF.out]; rfl, ((Below.refl _ _).alloc (Nat.le_refl _) _).trans (hb2.mono (by simp))⟩

end Go.Proofs.Ytldnccdlpagodaa
