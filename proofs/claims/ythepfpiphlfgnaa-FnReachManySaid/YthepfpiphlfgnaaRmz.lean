/-
  YthepfpiphlfgnaaRmz: the texts Ce, Cg, Rm in one file.
-/
import Derived.Deep.RegionHeld
import Derived.Test.YthepfpiphlfgnaaCz
import Derived.Test.YthepfpiphlfgnaaRw
import Derived.Test.YthepfpiphlfgnaaLee
import Derived.Test.YthepfpiphlfgnaaDq

/-
  YthepfpiphlfgnaaCe: is a row of numbers among rows (PushedMany of the program)?
-/
namespace Go.Proofs.Ythepfpiphlfgnaa
open Go.RowKit

theorem addr_at (g j : Nat) : (⟨g, 0, none⟩ : Addr).add j = ⟨g, j, none⟩ := by
  unfold Addr.add
  split
  · rename_i h; rw [h]
  · simp

/-- The row's place, or -1. -/
def FoundR (Ts : List (List Int)) (N : List Int) (w : World) (e : Ending) (w' : World) : Prop :=
  ∃ z : Int, e = .returned (.int .i64 z) ∧ (0 ≤ z ↔ N ∈ Ts) ∧ Below w.heap.size w w'



end Go.Proofs.Ythepfpiphlfgnaa

/-
  YthepfpiphlfgnaaCg: is a row of numbers among rows (ReachMany of the program)?
-/
namespace Go.Proofs.Ythepfpiphlfgnaa
open Go.RowKit

theorem rmClos_any (q n : Nat) (g1 c1 g2 c2 : Nat) (M N : List Int) (w : World) (hq : Blk w q 26 #[.slice (some ⟨g2, 0, none⟩) n c2]) (hM : M.length = n) (hN : N.length = n) (hn : n ≤ 9223372036854775807)
    (h1 : Reads w w.heap.size 1 (some ⟨g1, 0, none⟩) n (M.map (Value.int .i64))) (h2 : Reads w w.heap.size 1 (some ⟨g2, 0, none⟩) n (N.map (Value.int .i64))) :
    Calls Try.prog 104 #[.slice (some ⟨g1, 0, none⟩) n c1, .pointer (some ⟨q, 0, none⟩)] w fun e w' => e = .returned (.bool (M == N)) ∧ Below w.heap.size w w' := by
  have q0 := hq.cell 0
  simp at q0
  have hE := slices_Equal_int g1 0 n c1 g2 0 n c2 M N w (by omega) (by omega) hn hn (fun j hj => by
    obtain ⟨ad, e, _, hc⟩ := h1.getI (k := j) (by omega)
    injection e with e
    subst e
    rw [Nat.zero_add, ← addr_at]; exact hc) (fun j hj => by
    obtain ⟨ad, e, _, hc⟩ := h2.getI (k := j) (by omega)
    injection e with e
    subst e
    rw [Nat.zero_add, ← addr_at]; exact hc)
  rw [List.take_of_length_le (by omega), List.take_of_length_le (by omega)] at hE
  have HE := hide hE
  clear hE h1 h2
  go_enter Try.func104, Try.ntmps104
  go_wp2_with fail
  refine (unhide HE).mono ?_
  rintro e w2 ⟨rfl, k, rfl⟩
  go_wp2_with fail
  go_ret
  exact ⟨rfl, below_drewN (Below.refl _ _) k⟩

theorem rmIndex_any (q n b g2 c2 m c d : Nat) (P : Option Addr) (N : List Int) (xs : List Value) (Ts : List (List Int)) (w : World) (hq : Blk w q 26 #[.slice (some ⟨g2, 0, none⟩) n c2]) (hN : N.length = n) (hn : n ≤ 9223372036854775807)
    (h2 : Reads w w.heap.size 1 (some ⟨g2, 0, none⟩) n (N.map (Value.int .i64))) (hT : RowsOf w b n (.slice P m c) xs Ts) (hm : Ts.length = m) (hmm : m ≤ 4294967295) (hTn : ∀ M ∈ Ts, M.length = n) :
    Calls Try.prog 161 #[.slice P m d, .func (.func 104) #[] #[.pointer (some ⟨q, 0, none⟩)]] w (FoundR Ts N w) := by
  have HM := Lib.hid hm
  have HTN := Lib.hid hTn
  clear hm hTn
  go_enter Try.func161, Try.ntmps161
  go_wp2
  go_loopg [8] m (fun r i wr => ∃ k : Nat, k + r = m ∧ i = .int .i64 (k : Nat) ∧ (∀ (j : Nat), j < k → Ts[j]? ≠ some N) ∧ Below w.heap.size w wr)
  case atStart => exact ⟨0, by omega, rfl, fun j hj => by omega, Below.refl _ _⟩
  case round =>
    obtain ⟨k, hk, rfl, hall, hb⟩ := hrel
    have HK := Lib.hid hk
    have HALL := Lib.hid hall
    clear hk hall
    by_cases hlt : k < m
    · have hrow := hT.below hb
      obtain ⟨y, M, hx, hM, hin⟩ := hrow.at_ (k := k) (by rw [HM.out]; exact hlt)
      obtain ⟨gx, cx, rfl, hrx⟩ := hin.reads
      have hMl := HTN.out M (List.mem_of_getElem? hM)
      have hown := hrow.own
      rw [hrow.len, HM.out] at hown
      obtain ⟨g3, cg3, hsh3, _, _, _⟩ := own_shape hown (by omega)
      simp only [Value.slice.injEq, true_and] at hsh3
      obtain ⟨rfl, rfl⟩ := hsh3
      have hxc : wr.cell? ⟨g3, k, none⟩ = some (.slice (some ⟨gx, 0, none⟩) n cx) := by rw [hown.cellAt k (by omega)]; exact hx
      have HC := hide (rmClos_any q n gx cx g2 c2 M N wr (hq.below hb hq.lt) hMl hN hn hrx ((h2.below hb).more hb.size))
      have hsz := hb.size
      have HP := Lib.hid hM
      clear hM hx hown hin hrx hMl hrow
      cases heq : (M == N) with
      | true =>
        rw [heq] at HC
        have HI := Lib.hid heq
        clear heq
        go_wp2_with (go_at_call 104; (with_reducible refine (unhide HC).mono ?_); rintro e w2 ⟨rfl, hb2⟩)
        go_ret
        exact ⟨k, rfl, ⟨fun _ => List.mem_of_getElem? (HP.out.trans (by rw [eq_of_beq HI.out])), fun _ => by omega⟩, hb.trans (hb2.mono hsz)⟩
      | false =>
        rw [heq] at HC
        have HI := Lib.hid heq
        clear heq
        go_wp2_with (go_at_call 104; (with_reducible refine (unhide HC).mono ?_); rintro e w2 ⟨rfl, hb2⟩)
        go_roundg (m - (k + 1))
        case measure => have := HK.out; omega
        case rel =>
          refine ⟨k + 1, by have := HK.out; omega, by go_num, fun j hj hjp => ?_, hb.trans (hb2.mono hsz)⟩
          by_cases hjk : j = k
          · subst hjk
            rw [HP.out] at hjp
            injection hjp with hjp
            have := HI.out
            rw [hjp] at this
            simp at this
          · exact HALL.out j (by omega) hjp
    · go_wp2
      go_ret
      have hk : k = m := by have := HK.out; omega
      refine ⟨-1, rfl, ⟨fun h => by omega, fun h => ?_⟩, hb⟩
      obtain ⟨j, hj⟩ := List.getElem?_of_mem h
      have hjl := (List.getElem?_eq_some_iff.1 hj).1
      exact absurd hj (HALL.out j (by rw [HM.out] at hjl; omega))

theorem rmContains_any (q n b g2 c2 m c d : Nat) (P : Option Addr) (N : List Int) (xs : List Value) (Ts : List (List Int)) (w : World) (hq : Blk w q 26 #[.slice (some ⟨g2, 0, none⟩) n c2]) (hN : N.length = n) (hn : n ≤ 9223372036854775807)
    (h2 : Reads w w.heap.size 1 (some ⟨g2, 0, none⟩) n (N.map (Value.int .i64))) (hT : RowsOf w b n (.slice P m c) xs Ts) (hm : Ts.length = m) (hmm : m ≤ 4294967295) (hTn : ∀ M ∈ Ts, M.length = n) :
    Calls Try.prog 103 #[.slice P m d, .func (.func 104) #[] #[.pointer (some ⟨q, 0, none⟩)]] w fun e w' => e = .returned (.bool (decide (N ∈ Ts))) ∧ Below w.heap.size w w' := by
  have HI := hide (rmIndex_any q n b g2 c2 m c d P N xs Ts w hq hN hn h2 hT hm hmm hTn)
  clear hq h2 hT hTn
  by_cases hin : N ∈ Ts
  · rw [decide_eq_true hin]
    have HA := Lib.hid hin
    clear hin
    go_enter Try.func103, Try.ntmps103
    go_wp2_with (go_at_call 161; refine (unhide HI).mono ?_; rintro e w2 ⟨z, rfl, hz, hb2⟩; have hz2 : (0 : Int) ≤ z := hz.2 HA.out; clear hz)
    go_ret
    exact ⟨rfl, hb2⟩
  · rw [decide_eq_false hin]
    have HA := Lib.hid hin
    clear hin
    go_enter Try.func103, Try.ntmps103
    go_wp2_with (go_at_call 161; refine (unhide HI).mono ?_; rintro e w2 ⟨z, rfl, hz, hb2⟩; have hz2 : ¬ ((0 : Int) ≤ z) := fun h => HA.out (hz.1 h); clear hz)
    go_ret
    exact ⟨ret_bool (decide_eq_false (by omega)), hb2⟩

end Go.Proofs.Ythepfpiphlfgnaa

/-
  YthepfpiphlfgnaaRm: ReachMany of the program.
-/
namespace Go.Proofs.Ythepfpiphlfgnaa
open Go.RowKit

theorem rows_one {w : World} {b g n c c' : Nat} {M : List Int} (ho : w.ownsRow b 3 1 (.slice (some ⟨g, 0, none⟩) n c) n (M.map (Value.int .i64))) (hb : b ≤ w.heap.size) :
    RowsOf (w.alloc (.cells #[.slice (some ⟨g, 0, none⟩) n c'] 26)) b n (.slice (some ⟨w.heap.size, 0, none⟩) 1 1) [.slice (some ⟨g, 0, none⟩) n c'] [M] := by
  refine ⟨?_, rfl, fun i x L h1 h2 => ?_⟩
  · exact own_whole (g := w.heap.size) (n := 1) (xs := [.slice (some ⟨g, 0, none⟩) n c']) rfl hb (by simp [maxLen]) (Blk.new w 26 #[.slice (some ⟨g, 0, none⟩) n c'])
  · cases i with
    | zero =>
      simp at h1 h2
      subst h1 h2
      exact ⟨g, c, c', rfl, ho.alloc _⟩
    | succ i => simp at h1

/-- What a flip in ReachMany leaves: the new tiling in a row of its own, held by a box. -/
def NextAt (w wx : World) (q g n c : Nat) (N : List Int) : Prop :=
  Blk wx q 26 #[.slice (some ⟨g, 0, none⟩) n c] ∧ ∃ c0, wx.ownsRow w.heap.size 3 1 (.slice (some ⟨g, 0, none⟩) n c0) n (N.map (Value.int .i64))

set_option maxHeartbeats 4000000 in
set_option maxRecDepth 20000 in
theorem reachManyI_ok (R : Reg) (hR : R.ok) (hcnt : cnt R.C ≤ 16) (A : Option Addr) (c B : Nat) (M : List Int) (gb db : Nat) (hM : Tile R M) (w : World) (hr : Reads w B 1 A R.C.length (R.C.map Value.bool)) (h2 : Reads w B 1 (some ⟨gb, 0, none⟩) R.C.length (M.map (Value.int .i64))) (hB : B ≤ w.heap.size) :
    Calls Try.prog 39 #[.agg #[.int .i64 R.W, .int .i64 R.T, .slice A R.C.length c], .slice (some ⟨gb, 0, none⟩) R.C.length db] w fun e w' => e = .returned (.int .i64 ((runR (fnR R) M (tilT R).length).length : Nat)) ∧ Below w.heap.size w w' := by
  have hl36 := (len_bd hR).2
  have hl1 := (len_bd hR).1
  have hcn := cn_bd hR
  have hnT : (tilT R).length ≤ 262144 := nT_le R
  have hrd : ∀ w', Below w.heap.size w w' → Reads w' w'.heap.size 1 A R.C.length (R.C.map Value.bool) := fun w' h => (hr.below (h.mono hB)).more (Nat.le_trans hB h.size)
  have hmf : ∀ (fn : Fn) (first cap : Array Value) (w : World), (Instr.makeFunc fn first cap).run Try.prog w = .ok (.func fn first cap) w := fun _ _ _ _ => rfl
  have hSM := fun w' (h : Below w.heap.size w w') => hide (small_any R.W R.T A R.C.length c w'.heap.size R.C w' (hrd w' h) (Nat.le_refl _) (by omega))
  have hsm : (validB R.W R.T R.C && decide (cnt R.C ≤ 16)) = true := by rw [valid_of_ok hR, decide_eq_true hcnt]; rfl
  simp only [hsm] at hSM
  have hTO := fun w' (h : Below w.heap.size w w') => hide (tilingOkI_any R.W R.T A R.C.length c w'.heap.size R.C M (some ⟨gb, 0, none⟩) R.C.length db w' rfl hM.1.len (hrd w' h) ((h2.below (h.mono hB)).more (Nat.le_trans hB h.size)) (Nat.le_refl _) (by omega) (by omega))
  have htb : tilingB R.W R.T R.C M = true := tiling_of_tile hR hM
  simp only [htb] at hTO
  have hCL := fun w' (h : Below w.heap.size w w') => hide (clone_any (some ⟨gb, 0, none⟩) db w'.heap.size M w' (.inr ⟨gb, 0, rfl⟩) (by rw [hM.1.len]; exact (h2.below (h.mono hB)).more (Nat.le_trans hB h.size)) (by rw [hM.1.len]; omega))
  have hMl := hM.1.len
  simp only [hMl] at hCL
  have hFS : ∀ (X : List Int) (g d : Nat) w', Tile R X → Reads w' w'.heap.size 1 (some ⟨g, 0, none⟩) R.C.length (X.map (Value.int .i64)) → Hid (Calls Try.prog 94 #[.agg #[.int .i64 R.W, .int .i64 R.T, .slice A R.C.length c], .slice (some ⟨g, 0, none⟩) R.C.length d, .func (.func 95) #[] #[]] w' (ClipInts w' (flL R X fun _ => true))) := fun X g d w' _ ha =>
    hide (flips_any 95 #[] (fun _ => true) R hR A c w'.heap.size X (some ⟨g, 0, none⟩) d w' enters_anyCorner (fun k w'' _ _ _ => anyCorner_any k w'') ha (Nat.le_refl _))
  have hFV : ∀ (X : List Int) (g d : Nat) (z : Int) w', z ≤ 9223372036854775807 → Tile R X → Reads w' w'.heap.size 1 (some ⟨g, 0, none⟩) R.C.length (X.map (Value.int .i64)) → Hid (Calls Try.prog 102 #[.agg #[.int .i64 R.W, .int .i64 R.T, .slice A R.C.length c], .slice (some ⟨g, 0, none⟩) R.C.length d, .int .i64 z] w' (RetIB w' (flV R X z) (flB R X z))) := fun X g d z w' hz hX ha =>
    hide (flip_any R hR A R.C.length c w'.heap.size X (some ⟨g, 0, none⟩) d z hz (.inr ⟨g, 0, rfl⟩) hX.1.len w' ha (Nat.le_refl _))
  have hb0 : Below w.heap.size w (w.alloc (boxR R.W R.T A R.C.length c)) := (Below.refl _ _).alloc (Nat.le_refl _) _
  have k0 : Blk (w.alloc (boxR R.W R.T A R.C.length c)) w.heap.size 25 #[.int .i64 R.W, .int .i64 R.T, .slice A R.C.length c] := Blk.new _ _ _
  have HM := Lib.hid hM
  have HMl := Lib.hid hMl
  clear hr h2 hM htb hsm hcnt hMl
  go_enter Try.func39, Try.ntmps39
  go_wp2_with fail
  refine (unhide (hSM _ hb0)).mono ?_
  rintro e w1 ⟨rfl, hb1⟩
  have hB1 := hb0.trans (hb1.mono hb0.size)
  have k1 := k0.below hb1 k0.lt
  obtain ⟨b0, b1, b2⟩ := blk3 k1
  have hTO1 := hTO _ hB1
  clear k0 hb0 hb1 hSM hTO
  go_wp2_with fail
  refine (unhide hTO1).mono ?_
  rintro e w2 ⟨rfl, hb2⟩
  have hB2 := hB1.trans (hb2.mono hB1.size)
  have k2 := k1.below hb2 k1.lt
  have hCL2 := hCL _ hB2
  clear b0 b1 b2 k1 hb2 hB1 hTO1 hCL
  go_wp2_with fail
  refine (unhide hCL2).mono ?_
  rintro e w3 ⟨A3, c3, he, ho3, hb3⟩
  rw [HMl.out] at he ho3
  subst he
  obtain ⟨g3, cg3, hsh3, _, _, _⟩ := own_shape ho3 (by omega)
  simp only [Value.slice.injEq] at hsh3
  obtain ⟨rfl, _, rfl⟩ := hsh3
  have hB3 := hB2.trans (hb3.mono hB2.size)
  have k3 := k2.below hb3 k2.lt
  have ho3' := own_mono ho3 hB2.size
  have hM4 := rows_one (c' := R.C.length) ho3' hB3.size
  have hB4 := hB3.alloc hB3.size (.cells #[.slice (some ⟨g3, 0, none⟩) R.C.length R.C.length] 26)
  have k4 := k3.alloc (.cells #[.slice (some ⟨g3, 0, none⟩) R.C.length R.C.length] 26)
  clear k2 hb3 hB2 hCL2 ho3 ho3' hB3 k3
  go_wp2_with fail
  go_loopg [5, 6] (tilT R).length (fun r s5 s6 wr => ∃ (i : Nat) (Pm : Option Addr) (cm : Nat) (ys : List Value) (st : List (List Int)), i + r = (tilT R).length ∧ runR (fnR R) M i = st ∧ s6 = .int .i64 (i : Nat) ∧ s5 = .slice Pm st.length cm ∧ Below w.heap.size w wr ∧ Blk wr w.heap.size 25 #[.int .i64 R.W, .int .i64 R.T, .slice A R.C.length c] ∧ RowsOf wr w.heap.size R.C.length (.slice Pm st.length cm) ys st)
  case atStart => exact ⟨0, _, 1, _, [M], by omega, rfl, rfl, rfl, hB4, k4, hM4⟩
  case round =>
    clear hB4 k4 hM4
    obtain ⟨i, Pm, cm, ys, st, hi, hst, rfl, rfl, hBw, hbk, hmet⟩ := hrel
    have HI := Lib.hid hi
    have HST := Lib.hid hst
    have hle : st.length ≤ 262144 := by rw [← hst]; exact Nat.le_trans (runR_le hR HM.out i) hnT
    clear hi hst
    obtain ⟨w0, hw0⟩ : ∃ w0, w0 = wr := ⟨_, rfl⟩
    subst hw0
    by_cases hlt : i < st.length
    · obtain ⟨x, X, hx, hX, hin⟩ := hmet.at_ hlt
      have hTX : Tile R X := runR_in (P := Tile R) HM.out (fun _ h => fnR_tile hR h) i X (by rw [HST.out]; exact List.mem_of_getElem? hX)
      have hX2 : (runR (fnR R) M i)[i]? = some X := by rw [HST.out]; exact hX
      obtain ⟨gx, cx, rfl, hrx⟩ := hin.reads
      have hown := hmet.own
      rw [hmet.len] at hown
      obtain ⟨gm, cgm, hshm, _, _, _⟩ := own_shape hown (by omega)
      simp only [Value.slice.injEq, true_and] at hshm
      obtain ⟨rfl, rfl⟩ := hshm
      have hxc : w0.cell? ⟨gm, i, none⟩ = some (.slice (some ⟨gx, 0, none⟩) R.C.length cx) := by rw [hown.cellAt i (by omega)]; exact hx
      have hF5 := hFS X gx cx w0.drew hTX hrx
      have HTX := Lib.hid hTX
      have HX := Lib.hid hX2
      obtain ⟨b0, b1, b2⟩ := blk3 hbk
      clear hx hX hin hTX hX2 hown hrx hFS
      obtain ⟨V, hV⟩ : ∃ V, (flL R X fun _ => true) = V := ⟨_, rfl⟩
      have hVl : V.length ≤ 49 := by rw [← hV]; have := flTo_len R X (fun _ => true) R.cn; show (flTo R X (fun _ => true) R.cn).length ≤ 49; omega
      have hVk : ∀ z ∈ V, z ≤ 9223372036854775807 := fun z hz => by
        rw [← hV] at hz
        obtain ⟨j, rfl, hj, _, _⟩ := flTo_in (k := R.cn) hz
        omega
      rw [hV] at hF5
      have HV := Lib.hid hV
      have HVK := Lib.hid hVk
      clear hV hVk
      go_upto_region 7 with fail
      go_region_with
        (first
          | (go_at_call 94; (with_reducible refine (unhide hF5).mono ?_); rintro e w6 ⟨A6, c6, rfl, ho6, hb6⟩))
      all_goals
        have hB6 := hBw.drew.trans (hb6.mono hBw.drew.size)
        have k6 := hbk.drew.below hb6 hbk.drew.lt
        have hm6 := (hmet.below (Below.refl w0.heap.size w0).drew).below hb6
        have ho6' := own_mono ho6 (show w.heap.size ≤ w0.drew.heap.size from hBw.size)
        clear hBw hbk hmet hb6 ho6 hF5 hxc b0 b1 b2
        go_simp
        go_wp2_with fail
        go_loopg [5, 36] V.length (fun r s5 s36 wq => ∃ (j : Nat) (Pm : Option Addr) (cm : Nat) (ys : List Value) (md : List (List Int)), j + r = V.length ∧ mdR R M i j = md ∧ s36 = .int .i64 (j : Nat) ∧ s5 = .slice Pm md.length cm ∧ Below w.heap.size w wq ∧ Blk wq w.heap.size 25 #[.int .i64 R.W, .int .i64 R.T, .slice A R.C.length c] ∧ RowsOf wq w.heap.size R.C.length (.slice Pm md.length cm) ys md ∧ wq.ownsRow w.heap.size 3 1 (.slice A6 V.length c6) V.length (V.map (Value.int .i64)))
        case atStart => exact ⟨0, _, cm, ys, st, by omega, (mdR_zero R M i).trans HST.out, rfl, rfl, hB6, k6, hm6, ho6'⟩
        case round =>
          clear hB6 k6 hm6 ho6'
          obtain ⟨j, Pj, cj, yj, md, hj, hmd, rfl, rfl, hBq, hbq, hmq, hoV⟩ := hrel
          have HJ := Lib.hid hj
          have HMD := Lib.hid hmd
          have hil : i < (runR (fnR R) M i).length := (List.getElem?_eq_some_iff.1 HX.out).1
          have hmdl : md.length ≤ 262144 := by rw [← hmd]; exact Nat.le_trans (mdR_le hR HM.out hil j) hnT
          clear hj hmd hil
          by_cases hlt2 : j < V.length
          · obtain ⟨g6, cg6, hsh6, _, _, _⟩ := own_shape hoV (by omega)
            simp only [Value.slice.injEq, true_and] at hsh6
            obtain ⟨rfl, rfl⟩ := hsh6
            obtain ⟨z, hz⟩ : ∃ z, V[j]? = some z := ⟨_, List.getElem?_eq_getElem hlt2⟩
            have hzc : wr.cell? ⟨g6, j, none⟩ = some (.int .i64 z) := by rw [hoV.cellAt j (by omega), List.getElem?_map, hz]; rfl
            have hz9 := HVK.out z (List.mem_of_getElem? hz)
            have hs1 : mdR R M i (j + 1) = addU md (flV R X z) := by
              rw [← HMD.out]
              exact mdR_succ HX.out (by rw [HV.out]; exact hz)
            have HS1 := Lib.hid hs1
            have hrow : md[i]? = some X := by rw [← HMD.out]; exact mdR_row HX.out j
            have hilm : i < md.length := (List.getElem?_eq_some_iff.1 hrow).1
            obtain ⟨x, X', hx, hX', hin⟩ := hmq.at_ hilm
            obtain rfl : X = X' := by rw [hrow] at hX'; injection hX'
            obtain ⟨gy, cy, rfl, hry⟩ := hin.reads
            have hown := hmq.own
            rw [hmq.len] at hown
            obtain ⟨gn, cgn, hshn, _, _, _⟩ := own_shape hown (by omega)
            simp only [Value.slice.injEq, true_and] at hshn
            obtain ⟨rfl, rfl⟩ := hshn
            have hyc : wr.cell? ⟨gn, i, none⟩ = some (.slice (some ⟨gy, 0, none⟩) R.C.length cy) := by rw [hown.cellAt i (by omega)]; exact hx
            have hTN : Tile R (flV R X z) := tile_flV hR HTX.out z
            have hNl := hTN.1.len
            have hfl : ∀ w', Below wr.heap.size wr w' → _ := fun w' h => hFV X gy cy z w' hz9 HTX.out ((hry.below h).more h.size)
            obtain ⟨b0, b1, b2⟩ := blk3 hbq
            have hmt : ∀ x ∈ md, x.length = R.C.length := fun x hx => (mdR_tile hR HM.out (List.getElem?_eq_some_iff.1 HX.out).1 j x (by rw [HMD.out]; exact hx)).1.len
            have HMT := Lib.hid hmt
            generalize flV R X z = N at *
            generalize flB R X z = fb at *
            clear hs1 hrow hx hX' hin hown hTN hmt hz hry
            go_upto_region 10 with fail
            go_cut [9] (fun s9 wx => ∃ (q g7 c7 : Nat), s9 = .pointer (some ⟨q, 0, none⟩) ∧ NextAt w wx q g7 R.C.length c7 N ∧ Below wr.heap.size wr wx)
            case first =>
              have hd0 := (Below.refl wr.heap.size wr).drew
              have hda : Below wr.heap.size wr (wr.drew.alloc (.cells #[.slice none 0 0] 26)) := hd0.alloc (Nat.le_refl wr.heap.size) _
              refine wp_region_held_drew (S := (fun w' => (w'.cell? ⟨w.heap.size, 0, none⟩ = some (.int .i64 R.W) ∧ w'.cell? ⟨w.heap.size, 1, none⟩ = some (.int .i64 R.T) ∧ w'.cell? ⟨w.heap.size, 2, none⟩ = some (.slice A R.C.length c)) ∧ w'.cell? ⟨gn, i, none⟩ = some (.slice (some ⟨gy, 0, none⟩) R.C.length cy))) (by kernel_rfl) ⟨blk3 (hbq.below hd0 hbq.lt), cell_kept hyc hd0⟩ ?_
              intro hHeld
              generalize wr.drew = wd at *
              refine wpAnyH_take (i := 0) (v := ?_) rfl (by kernel_rfl) (by kernel_rfl) (by kernel_rfl) (fun _ _ _ h => h) (Or.inl ⟨by kernel_rfl, ?_⟩) hHeld ?_
              rotate_left
              · intro w' hS'
                obtain ⟨⟨x0, x1, x2⟩, x3⟩ := hS'
                go_simp
                try with_reducible rfl
              refine wpAnyH_take (i := 1) (v := ?_) rfl (by kernel_rfl) (by kernel_rfl) (by kernel_rfl) (fun _ _ _ h => h) (Or.inl ⟨by kernel_rfl, ?_⟩) hHeld ?_
              rotate_left
              · intro w' hS'
                clear hS'
                go_simp
                try with_reducible rfl
              refine wpAnyH_take (i := 2) (v := ?_) rfl (by kernel_rfl) (by kernel_rfl) (by kernel_rfl) (fun _ _ _ h => h) (Or.inl ⟨by kernel_rfl, ?_⟩) hHeld ?_
              rotate_left
              · intro w' hS'
                clear hS'
                go_simp
                try with_reducible rfl
              refine wpAnyH_take (i := 3) (v := ?_) rfl (by kernel_rfl) (by kernel_rfl) (by kernel_rfl) (fun _ _ _ h => h) (Or.inl ⟨by kernel_rfl, ?_⟩) hHeld ?_
              rotate_left
              · intro w' hS'
                clear hS'
                go_simp
                try with_reducible rfl
              refine wpAnyH_take (i := 4) (v := ?_) rfl (by kernel_rfl) (by kernel_rfl) (by kernel_rfl) (fun _ _ _ h => h) (Or.inl ⟨by kernel_rfl, ?_⟩) hHeld ?_
              rotate_left
              · intro w' hS'
                obtain ⟨⟨x0, x1, x2⟩, x3⟩ := hS'
                go_simp
                try with_reducible rfl
              refine wpAnyH_take (i := 5) (v := ?_) rfl (by kernel_rfl) (by kernel_rfl) (by kernel_rfl) (fun _ _ _ h => h) (Or.inl ⟨by kernel_rfl, ?_⟩) hHeld ?_
              rotate_left
              · intro w' hS'
                clear hS'
                go_simp
                try with_reducible rfl
              refine wpAnyH_ready (rs := [6, 10]) (by kernel_rfl) (by simp) ?_
              refine AllReadyH.cons rfl (fun K hK => ?_) (AllReadyH.cons rfl (fun K hK => ?_) AllReadyH.nil)
              · go_simp
                go_at_call 102
                (with_reducible refine (unhide (hfl _ hd0)).mono ?_)
                rintro e w7 ⟨A7, c7, c7', he, ho7, hb7⟩
                rw [hNl] at he ho7
                subst he
                obtain ⟨g7, cg7, hsh7, _, _, _⟩ := own_shape ho7 (by omega)
                simp only [Value.slice.injEq] at hsh7
                obtain ⟨rfl, _, rfl⟩ := hsh7
                have hc7 := hd0.trans (hb7.mono hd0.size)
                have ho7' := own_mono ho7 (Nat.le_trans hBq.size hd0.size)
                refine hK.out _ _ ?_ ?_
                · exact ⟨blk3 (hbq.below hc7 hbq.lt), cell_kept hyc hc7⟩
                clear hHeld
                intro hHeld
                clear hK K
                refine wpAnyH_take (i := 7) (v := ?_) rfl (by kernel_rfl) (by kernel_rfl) (by kernel_rfl) (fun _ _ _ h => h) (Or.inl ⟨by kernel_rfl, ?_⟩) hHeld ?_
                rotate_left
                · intro w' hS'
                  clear hS'
                  go_simp
                  try with_reducible rfl
                refine wpAnyH_take (i := 8) (v := ?_) rfl (by kernel_rfl) (by kernel_rfl) (by kernel_rfl) (fun _ _ _ h => h) (Or.inl ⟨by kernel_rfl, ?_⟩) hHeld ?_
                rotate_left
                · intro w' hS'
                  clear hS'
                  go_simp
                  try with_reducible rfl
                refine wpAnyH_take (i := 9) (v := ?_) rfl (by kernel_rfl) (by kernel_rfl) (by kernel_rfl) (fun _ _ _ h => h) (Or.inl ⟨by kernel_rfl, ?_⟩) hHeld ?_
                rotate_left
                · intro w' hS'
                  clear hS'
                  go_simp
                  try with_reducible rfl
                refine wpAnyH_ready (rs := [10]) (by kernel_rfl) (by simp) ?_
                refine AllReadyH.cons rfl (fun K hK => ?_) AllReadyH.nil
                go_simp
                have hc8 : Below wr.heap.size wr (w7.alloc (.cells #[.slice none 0 0] 26)) := hc7.alloc hc7.size _
                refine hK.out _ _ ?_ ?_
                · exact ⟨blk3 (hbq.below hc8 hbq.lt), cell_kept hyc hc8⟩
                clear hHeld
                intro hHeld
                clear hK K
                refine wpAnyH_ready (rs := [11]) (by kernel_rfl) (by simp) ?_
                refine AllReadyH.cons rfl (fun K hK => ?_) AllReadyH.nil
                go_simp
                have hc9 : Below wr.heap.size wr (w7.alloc (.cells #[.slice (some ⟨g7, 0, none⟩) R.C.length c7'] 26)) := hc7.alloc hc7.size _
                refine hK.out _ _ ?_ ?_
                · exact ⟨blk3 (hbq.below hc9 hbq.lt), cell_kept hyc hc9⟩
                clear hHeld
                intro hHeld
                clear hK K
                refine wpAnyH_take (i := 12) (v := ?_) rfl (by kernel_rfl) (by kernel_rfl) (by kernel_rfl) (fun _ _ _ h => h) (Or.inl ⟨by kernel_rfl, ?_⟩) hHeld ?_
                rotate_left
                · intro w' hS'
                  clear hS'
                  go_simp
                  try with_reducible rfl
                refine wpAnyH_done (by kernel_rfl) ?_ _
                have hq9 := Blk.new w7 26 #[.slice (some ⟨g7, 0, none⟩) R.C.length c7']
                have ho9 := ho7'.alloc (.cells #[.slice (some ⟨g7, 0, none⟩) R.C.length c7'] 26)
                clear hHeld
                go_simp
                first | go_meet | (go_wp2_with fail; go_meet)
                exact ⟨_, g7, c7', rfl, ⟨by simpa using hq9, _, ho9⟩, hc9⟩
              · go_simp
                refine hK.out _ _ ?_ ?_
                · exact ⟨blk3 (hbq.below hda hbq.lt), cell_kept hyc hda⟩
                clear hHeld
                intro hHeld
                clear hK K
                refine wpAnyH_ready (rs := [6]) (by kernel_rfl) (by simp) ?_
                refine AllReadyH.cons rfl (fun K hK => ?_) AllReadyH.nil
                go_simp
                go_at_call 102
                (with_reducible refine (unhide (hfl _ hda)).mono ?_)
                rintro e w7 ⟨A7, c7, c7', he, ho7, hb7⟩
                rw [hNl] at he ho7
                subst he
                obtain ⟨g7, cg7, hsh7, _, _, _⟩ := own_shape ho7 (by omega)
                simp only [Value.slice.injEq] at hsh7
                obtain ⟨rfl, _, rfl⟩ := hsh7
                have hc7 := hda.trans (hb7.mono hda.size)
                have ho7' := own_mono ho7 (Nat.le_trans hBq.size hda.size)
                have hq7 := (Blk.new wd 26 #[.slice none 0 0]).below hb7 (by simp)
                refine hK.out _ _ ?_ ?_
                · exact ⟨blk3 (hbq.below hc7 hbq.lt), cell_kept hyc hc7⟩
                clear hHeld
                intro hHeld
                clear hK K
                refine wpAnyH_take (i := 7) (v := ?_) rfl (by kernel_rfl) (by kernel_rfl) (by kernel_rfl) (fun _ _ _ h => h) (Or.inl ⟨by kernel_rfl, ?_⟩) hHeld ?_
                rotate_left
                · intro w' hS'
                  clear hS'
                  go_simp
                  try with_reducible rfl
                refine wpAnyH_take (i := 8) (v := ?_) rfl (by kernel_rfl) (by kernel_rfl) (by kernel_rfl) (fun _ _ _ h => h) (Or.inl ⟨by kernel_rfl, ?_⟩) hHeld ?_
                rotate_left
                · intro w' hS'
                  clear hS'
                  go_simp
                  try with_reducible rfl
                refine wpAnyH_take (i := 9) (v := ?_) rfl (by kernel_rfl) (by kernel_rfl) (by kernel_rfl) (fun _ _ _ h => h) (Or.inl ⟨by kernel_rfl, ?_⟩) hHeld ?_
                rotate_left
                · intro w' hS'
                  clear hS'
                  go_simp
                  try with_reducible rfl
                refine wpAnyH_ready (rs := [11]) (by kernel_rfl) (by simp) ?_
                refine AllReadyH.cons rfl (fun K hK => ?_) AllReadyH.nil
                have hqc := hq7.cell 0
                simp at hqc
                have hqf := hq7.frozen 0
                go_simp
                have hc9 := hc7.setCell (p := ⟨wd.heap.size, 0, none⟩) hd0.size (.slice (some ⟨g7, 0, none⟩) R.C.length c7')
                refine hK.out _ _ ?_ ?_
                · exact ⟨blk3 (hbq.below hc9 hbq.lt), cell_kept hyc hc9⟩
                clear hHeld
                intro hHeld
                clear hK K
                refine wpAnyH_take (i := 12) (v := ?_) rfl (by kernel_rfl) (by kernel_rfl) (by kernel_rfl) (fun _ _ _ h => h) (Or.inl ⟨by kernel_rfl, ?_⟩) hHeld ?_
                rotate_left
                · intro w' hS'
                  clear hS'
                  go_simp
                  try with_reducible rfl
                refine wpAnyH_done (by kernel_rfl) ?_ _
                have hq9 := hq7.set_ 0 (.slice (some ⟨g7, 0, none⟩) R.C.length c7')
                have ho9 := ownsRow_setCell_other ho7' (a := ⟨wd.heap.size, 0, none⟩) (own_blk_ne ho7' hq7 (by decide)) (.slice (some ⟨g7, 0, none⟩) R.C.length c7')
                clear hHeld
                go_simp
                first | go_meet | (go_wp2_with fail; go_meet)
                exact ⟨_, g7, c7', rfl, ⟨by simpa using hq9, _, ho9⟩, hc9⟩
            case rest =>
              obtain ⟨q, g7, c7, rfl, ⟨hq7, c0, ho7⟩, hb7⟩ := hcut
              have hmq7 := hmq.below hb7
              have hBq7 := hBq.trans (hb7.mono hBq.size)
              have hbq7 := hbq.below hb7 hbq.lt
              have hoV7 := own_below hoV hb7 (Nat.le_refl _)
              clear hmq hBq hbq hoV hb7 hyc hzc b0 b1 b2 hfl
              have hCO := hide (rmContains_any q R.C.length w.heap.size g7 c7 md.length cj cj (some ⟨gn, 0, none⟩) N yj md wc hq7 hNl (by omega) (Reads.of_own ho7) hmq7 rfl (by omega) HMT.out)
              by_cases hin : N ∈ md
              · rw [decide_eq_true hin] at hCO
                have HA := Lib.hid (addU_in hin)
                clear hin
                go_wp2_with fail
                refine (unhide hCO).mono ?_
                rintro e w8 ⟨rfl, hb8⟩
                have hmq8 := hmq7.below hb8
                have hBq8 := hBq7.trans (hb8.mono hBq7.size)
                have hbq8 := hbq7.below hb8 hbq7.lt
                have hoV8 := own_below hoV7 hb8 (Nat.le_refl _)
                clear hmq7 hBq7 hbq7 hoV7 hb8 ho7 hq7 hCO
                go_wp2_with fail
                go_roundg (V.length - (j + 1))
                case measure => have := HJ.out; omega
                case rel => exact ⟨j + 1, _, _, yj, md, by have := HJ.out; omega, HS1.out.trans HA.out, by go_num, rfl, hBq8, hbq8, hmq8, hoV8⟩
              · rw [decide_eq_false hin] at hCO
                have HA := Lib.hid (addU_out hin)
                clear hin
                go_wp2_with fail
                refine (unhide hCO).mono ?_
                rintro e w8 ⟨rfl, hb8⟩
                have hmq8 := hmq7.below hb8
                have hBq8 := hBq7.trans (hb8.mono hBq7.size)
                have hbq8 := hbq7.below hb8 hbq7.lt
                have hoV8 := own_below hoV7 hb8 (Nat.le_refl _)
                have ho8 := own_below ho7 hb8 (Nat.le_refl _)
                have hq8 := (hq7.below hb8 hq7.lt).cell 0
                simp at hq8
                have hyl := hmq8.len
                have HYL := Lib.hid hyl
                have hsz := hBq8.size
                clear hmq7 hBq7 hbq7 hoV7 hb8 ho7 hq7 hCO hyl
                go_wp2_with (at_builtin; refine wpList_app rfl _ _ _ rfl w.heap.size 26 _ 24 Try.underlying74 info_ints rfl (by omega) (.slice (some ⟨gn, 0, none⟩) md.length cj) yj.length yj rfl (hmq8.own.alloc _) w8.heap.size (.slice (some ⟨g7, 0, none⟩) R.C.length c7) rfl ?c1 rfl (by have := HYL.out; omega) ?c2 ?_)
                case c1 => simp
                case c2 => simp; omega
                rintro g' c' w9 hown hgr _ _ _
                have hmq9 := hmq8.app (x := .slice (some ⟨g7, 0, none⟩) R.C.length c7) (L := N) ⟨g7, _, _, rfl, ho8⟩ hown hgr
                have hBq9 := (hBq8.alloc hBq8.size _).grown hgr (by simp; omega) (fun j hj => (own_in hmq8.own hj).1)
                have hbq9 := (hbq8.alloc _).grown hgr (fun h => own_blk_ne hmq8.own hbq8 (by decide) h.symm)
                have hoV9 := own_grown (hoV8.alloc _) hgr (own_far hoV8 hmq8.own (by decide))
                clear hmq8 hBq8 hbq8 hoV8 ho8 hq8 hown hgr
                rw [HYL.out] at hmq9 ⊢
                go_wp2_with fail
                go_roundg (V.length - (j + 1))
                case measure => have := HJ.out; omega
                case rel => exact ⟨j + 1, some ⟨g', 0, none⟩, c', _, md ++ [N], by have := HJ.out; omega, HS1.out.trans HA.out, by go_num, by rw [List.length_append]; rfl, hBq9, hbq9, by rw [List.length_append]; exact hmq9, hoV9⟩
          · obtain rfl : j = V.length := by have := HJ.out; omega
            have hnx : runR (fnR R) M (i + 1) = md := by
              rw [← HMD.out, ← HV.out]
              exact (mdR_all HX.out).symm
            have HNX := Lib.hid hnx
            have hni : i < (tilT R).length := by
              have := runR_le hR HM.out i
              have := (List.getElem?_eq_some_iff.1 HX.out).1
              omega
            clear hnx hoV
            go_wp2_with fail
            go_roundg ((tilT R).length - (i + 1))
            case measure => have := HI.out; omega
            case rel => exact ⟨i + 1, Pj, cj, yj, md, by have := HI.out; omega, HNX.out, by go_num, rfl, hBq, hbq, hmq⟩
    · have hfin : (runR (fnR R) M (tilT R).length).length = st.length := by
        have h1 := runR_le hR HM.out i
        have h2 := HI.out
        by_cases he : st.length = i
        · rw [he]; exact runR_end hR HM.out (by rw [HST.out]; exact he)
        · have := runR_fix (f := fnR R) (M := M) (i := i) (by rw [HST.out]; omega) ((tilT R).length - i)
          rw [show i + ((tilT R).length - i) = (tilT R).length by omega] at this
          rw [this, HST.out]
      have HF := Lib.hid hfin
      clear hmet hbk hfin
      go_wp2_with fail
      go_ret
      exact ⟨ret_int (by rw [HF.out]), hBw⟩

end Go.Proofs.Ythepfpiphlfgnaa
