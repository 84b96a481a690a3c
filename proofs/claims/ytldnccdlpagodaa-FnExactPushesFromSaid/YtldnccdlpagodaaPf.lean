/-
  YtldnccdlpagodaaPf: PushesFrom of the program.
-/
import Derived.Test.YtldnccdlpagodaaPt
namespace Go.Proofs.Ytldnccdlpagodaa
open Go.RowKit

/-- How many pushes at the first corners lead from a list to another one; at all corners. -/
def pfAt (R : Reg) (a b : List Int) (k : Nat) : Nat := (if puV R a ((k : Int), true) == b then 1 else 0) + (if puV R a ((k : Int), false) == b then 1 else 0)
def pfTo (R : Reg) (a b : List Int) (k : Nat) : Nat := ((List.range k).map (pfAt R a b)).sum
theorem pfTo_succ (R : Reg) (a b : List Int) (k : Nat) : pfTo R a b (k + 1) = pfTo R a b k + pfAt R a b k := by
  unfold pfTo
  rw [List.range_succ, List.map_append, List.sum_append]
  simp
/-- .. at one corner, of the first pushes. -/
def pfPre (R : Reg) (a b : List Int) (k j : Nat) : Nat := (if 0 < j ∧ (puV R a ((k : Int), true) == b) = true then 1 else 0) + (if 1 < j ∧ (puV R a ((k : Int), false) == b) = true then 1 else 0)
theorem pfPre_le (R : Reg) (a b : List Int) (k j : Nat) : pfPre R a b k j ≤ 2 := by unfold pfPre; split <;> split <;> omega
theorem pfAt_le (R : Reg) (a b : List Int) (k : Nat) : pfAt R a b k ≤ 2 := by unfold pfAt; split <;> split <;> omega
theorem pfTo_le (R : Reg) (a b : List Int) : ∀ k, pfTo R a b k ≤ 2 * k
  | 0 => by simp [pfTo]
  | k + 1 => by
    rw [pfTo_succ]
    have := pfTo_le R a b k
    have := pfAt_le R a b k
    omega
noncomputable def pfV (W T : Int) (bs : List Bool) (a b : List Int) : Int := if tiledB W T bs a = true ∧ tiledB W T bs b = true then (pfTo ⟨W.toNat, T.toNat, bs⟩ a b (Reg.cn ⟨W.toNat, T.toNat, bs⟩) : Int) else -1
theorem pfV_yes {R : Reg} {a b : List Int} (h : tiledB R.W R.T R.C a = true) (g : tiledB R.W R.T R.C b = true) : pfV R.W R.T R.C a b = (pfTo R a b R.cn : Int) := by unfold pfV; rw [if_pos ⟨h, g⟩]; rfl
theorem pfV_no {W T : Int} {bs : List Bool} {a b : List Int} (h : ¬ (tiledB W T bs a = true ∧ tiledB W T bs b = true)) : pfV W T bs a b = -1 := by unfold pfV; exact if_neg h

/-- Behind a push of a row that is only read. -/
theorem push_reads {wr w' : World} {R : Reg} {M : List Int} {p : Int × Bool} {ga d : Nat} {e : Ending} (h : PushRet wr (some ⟨ga, 0, none⟩) R.C.length d (puB R M p) (flV R M p.1) e w') (hl1 : 0 < R.C.length) (hM : M.length = R.C.length)
    (hr : Reads wr wr.heap.size 1 (some ⟨ga, 0, none⟩) R.C.length (M.map (Value.int .i64))) :
    ∃ g2 c2, e = .returned (.slice (some ⟨g2, 0, none⟩) R.C.length c2) ∧ Reads w' w'.heap.size 1 (some ⟨g2, 0, none⟩) R.C.length ((puV R M p).map (Value.int .i64)) ∧ Below wr.heap.size wr w' := by
  rcases h with ⟨hb, A, c2, c2', rfl, h1, h2⟩ | ⟨hb, rfl, h2⟩
  · rw [puV_yes hb]
    have hl : (flV R M p.1).length = R.C.length := by rw [flV_len]; exact hM
    rw [hl] at h1 ⊢
    obtain ⟨g2, cg, hsh, _, _, _⟩ := own_shape h1 hl1
    simp only [Value.slice.injEq, true_and] at hsh
    obtain ⟨rfl, rfl⟩ := hsh
    exact ⟨g2, c2', rfl, Reads.of_own h1, h2⟩
  · rw [puV_no hb]
    exact ⟨ga, d, rfl, (hr.below h2).more h2.size, h2⟩

set_option maxHeartbeats 2000000 in
set_option maxRecDepth 20000 in
theorem pushesFrom_any (R : Reg) (hR : R.ok) (hS : SimpleP R) (A : Option Addr) (c B : Nat) (a b : List Int) (ga da gb db : Nat) (ha : Tile R a) (hb : Tile R b) (w : World)
    (hr : Reads w B 1 A R.C.length (R.C.map Value.bool)) (h1 : Reads w B 1 (some ⟨ga, 0, none⟩) R.C.length (a.map (Value.int .i64))) (h2 : Reads w B 1 (some ⟨gb, 0, none⟩) R.C.length (b.map (Value.int .i64))) (hB : B ≤ w.heap.size) :
    Calls Try.prog 92 #[.agg #[.int .i64 R.W, .int .i64 R.T, .slice A R.C.length c], .slice (some ⟨ga, 0, none⟩) R.C.length da, .slice (some ⟨gb, 0, none⟩) R.C.length db] w fun e w' => e = .returned (.int .i64 (pfTo R a b R.cn : Nat)) ∧ Below w.heap.size w w' := by
  have hcn := cn_bd hR
  have hl36 := (len_bd hR).2
  have hl1 := (len_bd hR).1
  have hPU : ∀ (k : Nat) (up : Bool) (w' : World), k < R.cn → Below w.heap.size w w' → Hid (Calls Try.prog 134 #[.agg #[.int .i64 R.W, .int .i64 R.T, .slice A R.C.length c], .slice (some ⟨ga, 0, none⟩) R.C.length da, .agg #[.int .i64 (k : Nat), .bool up]] w' fun e w'' => ∃ g2 c2, e = .returned (.slice (some ⟨g2, 0, none⟩) R.C.length c2) ∧ Reads w'' w''.heap.size 1 (some ⟨g2, 0, none⟩) R.C.length ((puV R a ((k : Int), up)).map (Value.int .i64)) ∧ Below w'.heap.size w' w'') := fun k up w' hk h =>
    hide ((push_any R hR hS A c w'.heap.size a (some ⟨ga, 0, none⟩) da ((k : Int), up) (by dsimp only; omega) (.inr ⟨_, _, rfl⟩) ha w' ((hr.below (h.mono hB)).more (Nat.le_trans hB h.size)) ((h1.below (h.mono hB)).more (Nat.le_trans hB h.size)) (Nat.le_refl _)).mono fun e w'' hret => push_reads hret hl1 ha.1.len ((h1.below (h.mono hB)).more (Nat.le_trans hB h.size)))
  have hEQ : ∀ (k : Nat) (up : Bool) (w' : World) (g e1 : Nat), Below w.heap.size w w' → Reads w' w'.heap.size 1 (some ⟨g, 0, none⟩) R.C.length ((puV R a ((k : Int), up)).map (Value.int .i64)) → Hid (Calls Try.prog 56 #[.slice (some ⟨g, 0, none⟩) R.C.length e1, .slice (some ⟨gb, 0, none⟩) R.C.length db] w' fun e w'' => e = .returned (.bool (puV R a ((k : Int), up) == b)) ∧ Below w'.heap.size w' w'') := fun k up w' g e1 h hg => by
    have hl := (tile_puV hR ha ((k : Int), up)).1.len
    have := equal_any g gb e1 db w'.heap.size B (puV R a ((k : Int), up)) b w' (by rw [hl]; exact hg) (by rw [hb.1.len]; exact h2.below (h.mono hB)) (by rw [hl]; omega) (by rw [hb.1.len]; omega)
    rw [hl, hb.1.len] at this
    exact hide this
  have hCO := fun w' => hide (cornersI_any R hR A R.C.length c w')
  have hcc : R.corners = R.cn := rfl
  have hle := fun k => pfTo_le R a b k
  have hsu := fun k => pfTo_succ R a b k
  have hat : ∀ k, pfAt R a b k = (if puV R a ((k : Int), true) == b then 1 else 0) + (if puV R a ((k : Int), false) == b then 1 else 0) := fun _ => rfl
  have HSU := Lib.hid hsu
  have HAT := Lib.hid hat
  have HLE := Lib.hid hle
  have hb0 : Below w.heap.size w (w.alloc (boxR R.W R.T A R.C.length c)) := (Below.refl _ _).alloc (Nat.le_refl _) _
  have k0 : Blk (w.alloc (boxR R.W R.T A R.C.length c)) w.heap.size 29 #[.int .i64 R.W, .int .i64 R.T, .slice A R.C.length c] := Blk.new _ _ _
  clear hsu hat hle
  go_enter Try.func92, Try.ntmps92
  go_wp2_with fail
  refine (unhide (hCO _)).mono ?_
  rintro e w1 ⟨rfl, hb1⟩
  have hB1 := hb0.trans (hb1.mono hb0.size)
  have k1 := k0.below hb1 k0.lt
  clear k0 hb0 hb1 hCO
  go_wp2_with fail
  go_loopg [7, 13] R.cn (fun r s7 s13 wr => ∃ k : Nat, k + r = R.cn ∧ s13 = .int .i64 (k : Nat) ∧ s7 = .int .i64 (pfTo R a b k : Nat) ∧ Below w.heap.size w wr ∧ Blk wr w.heap.size 29 #[.int .i64 R.W, .int .i64 R.T, .slice A R.C.length c])
  case atStart => exact ⟨0, by omega, rfl, rfl, hB1, k1⟩
  case round =>
    clear k1 hB1
    obtain ⟨k, hk, rfl, rfl, hbw, hbk⟩ := hrel
    have HK := Lib.hid hk
    clear hk
    by_cases hlt : k < R.cn
    · have hq := HLE.out k
      have hq0 := Blk.new wr 4 #[.bool true, .bool false]
      have hbx0 := hbw.alloc hbw.size (.cells #[.bool true, .bool false] 4)
      have hbk0 := hbk.alloc (.cells #[.bool true, .bool false] 4)
      clear hbw hbk
      go_upto_region 6 with fail
      generalize wr.alloc (.cells #[.bool true, .bool false] 4) = w9 at *
      generalize wr.heap.size = qb at *
      go_loopg [7, 18] 2 (fun r s7 s18 wx => ∃ j : Nat, j + r = 2 ∧ s18 = .int .i64 (j : Nat) ∧ s7 = .int .i64 ((pfTo R a b k + pfPre R a b k j : Nat) : Int) ∧ Below w.heap.size w wx ∧ Blk wx w.heap.size 29 #[.int .i64 R.W, .int .i64 R.T, .slice A R.C.length c] ∧ Blk wx qb 4 #[.bool true, .bool false])
      case atStart => exact ⟨0, by omega, rfl, by simp [pfPre], hbx0, hbk0, hq0⟩
      case round =>
        clear hq0 hbx0 hbk0
        obtain ⟨j, hk2, rfl, rfl, hbx, hbk2, hq0⟩ := hrel
        rcases (show j = 0 ∨ j = 1 ∨ j = 2 by omega) with rfl | rfl | rfl
        · have HK2 := Lib.hid hk2
          clear hk2
          have q0 := hq0.cell 0
          simp at q0
          have hPUk := hPU k true _ hlt hbx
          have hEQk := fun w' g e1 h hg => hEQ k true w' g e1 h hg
          obtain ⟨b0, b1, b2⟩ := blk3 hbk2
          go_wp2_with fail
          refine (unhide hPUk).mono ?_
          rintro e w2 ⟨g2, c2, rfl, hg2, hb2⟩
          have hB2 := hbx.trans (hb2.mono hbx.size)
          have hbk3 := hbk2.below hb2 hbk2.lt
          have hq3 := hq0.below hb2 hq0.lt
          have hE2 := hEQk w2 g2 c2 hB2 hg2
          clear b0 b1 b2 q0 hPUk hEQk hb2 hbk2 hq0 hbx hg2
          have hat := HAT.out k
          go_wp2_with fail
          refine (unhide hE2).mono ?_
          rintro e w3 ⟨rfl, hb3⟩
          have hB3 := hB2.trans (hb3.mono hB2.size)
          have hbk4 := hbk3.below hb3 hbk3.lt
          have hq4 := hq3.below hb3 hq3.lt
          clear hE2 hb3 hbk3 hq3 hB2 hat
          cases hbb : (puV R a ((k : Int), true) == b) with
          | true =>
            go_wp2_with fail
            go_roundg 1
            case measure => have := HK2.out; omega
            case rel => exact ⟨1, by have := HK2.out; omega, by go_num, congrArg (Value.int .i64) (by have := pfPre_le R a b k 0; have e1 : pfPre R a b k 1 = pfPre R a b k 0 + 1 := (by simp [pfPre, hbb]); have hw := IntWalk.wrap64_in ((pfTo R a b k : Int) + (pfPre R a b k 0 : Int) + 1) (by omega); omega), hB3, hbk4, hq4⟩
          | false =>
            go_wp2_with fail
            go_roundg 1
            case measure => have := HK2.out; omega
            case rel => exact ⟨1, by have := HK2.out; omega, by go_num, congrArg (Value.int .i64) (by have e1 : pfPre R a b k 1 = pfPre R a b k 0 := (by simp [pfPre, hbb]); omega), hB3, hbk4, hq4⟩
        · have HK2 := Lib.hid hk2
          clear hk2
          have q0 := hq0.cell 1
          simp at q0
          have hPUk := hPU k false _ hlt hbx
          have hEQk := fun w' g e1 h hg => hEQ k false w' g e1 h hg
          obtain ⟨b0, b1, b2⟩ := blk3 hbk2
          go_wp2_with fail
          refine (unhide hPUk).mono ?_
          rintro e w2 ⟨g2, c2, rfl, hg2, hb2⟩
          have hB2 := hbx.trans (hb2.mono hbx.size)
          have hbk3 := hbk2.below hb2 hbk2.lt
          have hq3 := hq0.below hb2 hq0.lt
          have hE2 := hEQk w2 g2 c2 hB2 hg2
          clear b0 b1 b2 q0 hPUk hEQk hb2 hbk2 hq0 hbx hg2
          have hat := HAT.out k
          go_wp2_with fail
          refine (unhide hE2).mono ?_
          rintro e w3 ⟨rfl, hb3⟩
          have hB3 := hB2.trans (hb3.mono hB2.size)
          have hbk4 := hbk3.below hb3 hbk3.lt
          have hq4 := hq3.below hb3 hq3.lt
          clear hE2 hb3 hbk3 hq3 hB2 hat
          cases hbb : (puV R a ((k : Int), false) == b) with
          | true =>
            go_wp2_with fail
            go_roundg 0
            case measure => have := HK2.out; omega
            case rel => exact ⟨2, by have := HK2.out; omega, by go_num, congrArg (Value.int .i64) (by have := pfPre_le R a b k 1; have e1 : pfPre R a b k 2 = pfPre R a b k 1 + 1 := (by simp [pfPre, hbb]); have hw := IntWalk.wrap64_in ((pfTo R a b k : Int) + (pfPre R a b k 1 : Int) + 1) (by omega); omega), hB3, hbk4, hq4⟩
          | false =>
            go_wp2_with fail
            go_roundg 0
            case measure => have := HK2.out; omega
            case rel => exact ⟨2, by have := HK2.out; omega, by go_num, congrArg (Value.int .i64) (by have e1 : pfPre R a b k 2 = pfPre R a b k 1 := (by simp [pfPre, hbb]); omega), hB3, hbk4, hq4⟩
        · have hs := HSU.out k
          have hp2 : pfPre R a b k 2 = pfAt R a b k := by simp [pfPre, pfAt]
          rw [hp2, ← hs]
          clear hk2 hs hp2
          go_wp2_with fail
          go_roundg (R.cn - (k + 1))
          case measure => have := HK.out; omega
          case rel => exact ⟨k + 1, by have := HK.out; omega, by go_num, rfl, hbx, hbk2⟩
    · obtain rfl : k = R.cn := by have := HK.out; omega
      go_wp2_with fail
      go_ret
      exact ⟨rfl, hbw⟩

end Go.Proofs.Ytldnccdlpagodaa
