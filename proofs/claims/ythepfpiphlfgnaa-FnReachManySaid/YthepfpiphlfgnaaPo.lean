/-
  YthepfpiphlfgnaaPo: the texts PartsT, Dfs, Simple, Out in one file.
-/
import Derived.Laws.EntriesVeiled
import Derived.StillTailTactics
import Derived.Test.YthepfpiphlfgnaaPartsS
import Derived.Test.YthepfpiphlfgnaaMa

/-
  YthepfpiphlfgnaaPartsT: PartsMany of the reference; how many corners a field has.
-/
namespace Go.Proofs.Ythepfpiphlfgnaa
open Go.RowKit

theorem partsManyS_ok (R : Reg) (hR : R.ok) (A : Option Addr) (c B : Nat) (w : World) (hr : Reads w B 1 A R.C.length (R.C.map Value.bool)) (hB : B ≤ w.heap.size) :
    Calls Try.prog 149 #[.agg #[.int .i64 R.W, .int .i64 R.T, .slice A R.C.length c]] w fun e w' => ∃ m : Nat, e = .returned (.int .i64 m) ∧ (m = 1 ↔ InConn R) ∧ Below w.heap.size w w' := by
  have hl := len_bd hR
  obtain ⟨hl1, hl2⟩ := hl
  have hv := Lib.hid (valid_of_ok hR)
  go_enter Try.func149, Try.ntmps149
  go_wp2_with fail
  refine (validS_any _ _ A _ c B R.C _ (hr.alloc hB _) (by simp; omega) (by omega)).mono ?_
  rintro e w0 ⟨rfl, hb0⟩
  rw [hv.out]
  simp only [World.size_alloc] at hb0
  obtain ⟨hc0, hf0⟩ := bcell hb0
  have hz0 := hb0.size
  simp only [World.size_alloc] at hz0
  go_wp2_with fail
  refine (partsS_ok R hR A c B _ ((hr.alloc hB _).below (hb0.mono (by omega))) (by omega)).mono ?_
  rintro e w1 ⟨g, cc, L, rfl, hL, hown, hb⟩
  have hlen : L.length = R.C.length := hL.len
  have hbw : Below w.heap.size w w1 := (((Below.refl _ _).alloc (Nat.le_refl _) _).trans (hb0.mono (by omega))).trans (hb.mono (by omega))
  have H1 := Lib.hid hlen
  clear hlen hb hr hb0 hc0 hf0
  go_wp2_with fail
  go_loop [3, 5] (fun n i => ∃ k : Nat, k ≤ R.C.length ∧ i = .int .i64 k ∧ n = .int .i64 (((List.range k).countP fun c : Nat => decide (L[c]? = some (c : Int)) : Nat) : Int)) (fun _ i => R.C.length - (intOf i).toNat)
  case atStart => exact ⟨0, Nat.zero_le _, rfl, rfl⟩
  case round =>
    obtain ⟨k, hk, rfl, rfl⟩ := hrel
    have hle := roots_le L k
    by_cases hlt : k < R.C.length
    · obtain ⟨m, hm⟩ : ∃ m, L[k]? = some m := ⟨_, List.getElem?_eq_getElem (by rw [H1.out]; omega)⟩
      have hs0 := roots_succ L k m hm
      have hsw : ((k : Int) == m) = (m == (k : Int)) := by rw [Bool.eq_iff_iff]; simp; exact ⟨Eq.symm, Eq.symm⟩
      rw [hsw] at hs0
      have hs := Lib.hid hs0
      clear hs0 hsw
      have hc := hown.cellAt k (by omega)
      rw [List.getElem?_map, hm] at hc
      simp only [Option.map_some] at hc
      generalize ((List.range k).countP fun c : Nat => decide (L[c]? = some (c : Int))) = s at hle hs
      clear hm
      go_wp2
      all_goals
        go_round
        case rel => exact ⟨k + 1, by omega, by go_num, by rw [hs.out]; simp [*]⟩
        case measure => simp [intOf]; omega
    · go_wp2
      go_ret
      obtain rfl : k = R.C.length := by omega
      refine ⟨_, rfl, ?_, hbw⟩
      rw [← H1.out]
      exact roots_one hR hL

theorem partsManyS_no (W T : Int) (A : Option Addr) (n c B : Nat) (bs : List Bool) (w : World) (hr : Reads w B 1 A n (bs.map Value.bool)) (hB : B ≤ w.heap.size) (hn : n ≤ 9223372036854775807) (hv : validB W T bs = false) :
    Calls Try.prog 149 #[.agg #[.int .i64 W, .int .i64 T, .slice A n c]] w fun e w' => e = .returned (.int .i64 (-1)) ∧ Below w.heap.size w w' := by
  have HV := Lib.hid hv
  clear hv
  go_enter Try.func149, Try.ntmps149
  go_wp2_with fail
  refine (validS_any _ _ A _ c B bs _ (hr.alloc hB _) (by simp; omega) hn).mono ?_
  rintro e w0 ⟨rfl, hb0⟩
  rw [HV.out]
  simp only [World.size_alloc] at hb0
  go_wp2_with fail
  go_ret
  exact ⟨rfl, ((Below.refl _ _).alloc (Nat.le_refl _) _).trans (hb0.mono (by omega))⟩

/-- How many corners the field has. -/
def Reg.corners (R : Reg) : Nat := (R.W + 1) * (R.T + 1)
theorem corners_bd {R : Reg} (hR : R.ok) : 4 ≤ R.corners ∧ R.corners ≤ 49 := by
  obtain ⟨a, b, c, d, _, _⟩ := hR
  unfold Reg.corners
  have h1 : (R.W + 1) * (R.T + 1) ≤ 7 * 7 := Nat.mul_le_mul (by omega) (by omega)
  have h2 : 2 * 2 ≤ (R.W + 1) * (R.T + 1) := Nat.mul_le_mul (by omega) (by omega)
  omega

theorem cornersI_any (R : Reg) (hR : R.ok) (A : Option Addr) (k c : Nat) (w : World) :
    Calls Try.prog 90 #[.agg #[.int .i64 R.W, .int .i64 R.T, .slice A k c]] w fun e w' => e = .returned (.int .i64 R.corners) ∧ Below w.heap.size w w' := by
  have hW6 := hR.2.1
  have hT6 := hR.2.2.2.1
  obtain ⟨p0, p1⟩ := prod_bd (a := R.W + 1) (b := R.T + 1) (by omega) (by omega)
  simp only [Int.natCast_add, Int.natCast_one] at p0 p1
  go_enter Try.func90, Try.ntmps90
  go_wp2
  go_ret
  exact ⟨ret_int (by simp [Reg.corners]), (Below.refl _ _).alloc (Nat.le_refl _) _⟩

theorem cornerManyI_ok (R : Reg) (hR : R.ok) (A : Option Addr) (c B : Nat) (w : World) (hr : Reads w B 1 A R.C.length (R.C.map Value.bool)) (hB : B ≤ w.heap.size) :
    Calls Try.prog 44 #[.agg #[.int .i64 R.W, .int .i64 R.T, .slice A R.C.length c]] w fun e w' => e = .returned (.int .i64 R.corners) ∧ Below w.heap.size w w' := by
  have hl := len_bd hR
  have hv := Lib.hid (valid_of_ok hR)
  go_enter Try.func44, Try.ntmps44
  go_wp2_with fail
  refine (valid_any _ _ A _ c B R.C _ (hr.alloc hB _) (by simp; omega) (by omega)).mono ?_
  rintro e w0 ⟨rfl, hb0⟩
  rw [hv.out]
  simp only [World.size_alloc] at hb0
  obtain ⟨hc0, hf0⟩ := bcell hb0
  go_wp2_with fail
  refine (cornersI_any R hR A _ c _).mono ?_
  rintro e w1 ⟨rfl, hb1⟩
  go_wp2_with fail
  go_ret
  exact ⟨rfl, (((Below.refl _ _).alloc (Nat.le_refl _) _).trans (hb0.mono (by omega))).trans (hb1.mono (by have := hb0.size; simp at this; omega))⟩

theorem cornerManyS_ok (R : Reg) (hR : R.ok) (A : Option Addr) (c B : Nat) (w : World) (hr : Reads w B 1 A R.C.length (R.C.map Value.bool)) (hB : B ≤ w.heap.size) :
    Calls Try.prog 89 #[.agg #[.int .i64 R.W, .int .i64 R.T, .slice A R.C.length c]] w fun e w' => e = .returned (.int .i64 R.corners) ∧ Below w.heap.size w w' := by
  have hl := len_bd hR
  have hv := Lib.hid (valid_of_ok hR)
  have hW6 := hR.2.1
  have hT6 := hR.2.2.2.1
  obtain ⟨p0, p1⟩ := prod_bd (a := R.W + 1) (b := R.T + 1) (by omega) (by omega)
  simp only [Int.natCast_add, Int.natCast_one] at p0 p1
  go_enter Try.func89, Try.ntmps89
  go_wp2_with fail
  refine (validS_any _ _ A _ c B R.C _ (hr.alloc hB _) (by simp; omega) (by omega)).mono ?_
  rintro e w0 ⟨rfl, hb0⟩
  rw [hv.out]
  simp only [World.size_alloc] at hb0
  obtain ⟨hc0, hf0⟩ := bcell hb0
  go_wp2_with fail
  go_ret
  exact ⟨ret_int (by simp [Reg.corners]), ((Below.refl _ _).alloc (Nat.le_refl _) _).trans (hb0.mono (by omega))⟩

theorem cornerManyS_no (W T : Int) (A : Option Addr) (n c B : Nat) (bs : List Bool) (w : World) (hr : Reads w B 1 A n (bs.map Value.bool)) (hB : B ≤ w.heap.size) (hn : n ≤ 9223372036854775807) (hv : validB W T bs = false) :
    Calls Try.prog 89 #[.agg #[.int .i64 W, .int .i64 T, .slice A n c]] w fun e w' => e = .returned (.int .i64 (-1)) ∧ Below w.heap.size w w' := by
  have HV := Lib.hid hv
  clear hv
  go_enter Try.func89, Try.ntmps89
  go_wp2_with fail
  refine (validS_any _ _ A _ c B bs _ (hr.alloc hB _) (by simp; omega) hn).mono ?_
  rintro e w0 ⟨rfl, hb0⟩
  rw [HV.out]
  simp only [World.size_alloc] at hb0
  go_wp2_with fail
  go_ret
  exact ⟨rfl, ((Below.refl _ _).alloc (Nat.le_refl _) _).trans (hb0.mono (by omega))⟩

theorem cornerManyI_no (W T : Int) (A : Option Addr) (n c B : Nat) (bs : List Bool) (w : World) (hr : Reads w B 1 A n (bs.map Value.bool)) (hB : B ≤ w.heap.size) (hn : n ≤ 9223372036854775807) (hv : validB W T bs = false) :
    Calls Try.prog 44 #[.agg #[.int .i64 W, .int .i64 T, .slice A n c]] w fun e w' => e = .returned (.int .i64 (-1)) ∧ Below w.heap.size w w' := by
  have HV := Lib.hid hv
  clear hv
  go_enter Try.func44, Try.ntmps44
  go_wp2_with fail
  refine (valid_any _ _ A _ c B bs _ (hr.alloc hB _) (by simp; omega) hn).mono ?_
  rintro e w0 ⟨rfl, hb0⟩
  rw [HV.out]
  simp only [World.size_alloc] at hb0
  go_wp2_with fail
  go_ret
  exact ⟨rfl, ((Below.refl _ _).alloc (Nat.le_refl _) _).trans (hb0.mono (by omega))⟩

end Go.Proofs.Ythepfpiphlfgnaa

/-
  YthepfpiphlfgnaaDfs: the closure that walks outside of a region.
-/
namespace Go.Proofs.Ythepfpiphlfgnaa
open Go.RowKit

/-- The memory of the walk: the captured variables, and the marks. -/
structure DW (wr : World) (R : Reg) (A : Option Addr) (c B bw bt bm br bk g : Nat) (M : List Bool) : Prop where
  hw : Blk wr bw 3 #[.int .i64 ((R.W : Int) + 2)]
  ht : Blk wr bt 3 #[.int .i64 ((R.T : Int) + 2)]
  hm : Blk wr bm 23 #[.slice (some ⟨g, 0, none⟩) R.pn R.pn]
  hr : Blk wr br 25 #[.int .i64 R.W, .int .i64 R.T, .slice A R.C.length c]
  hk : Blk wr bk 123 #[.func (.func 151) #[] #[.pointer (some ⟨bw, 0, none⟩), .pointer (some ⟨bt, 0, none⟩), .pointer (some ⟨bm, 0, none⟩), .pointer (some ⟨br, 0, none⟩), .pointer (some ⟨bk, 0, none⟩)]]
  own : wr.ownsRow 0 4 1 (.slice (some ⟨g, 0, none⟩) R.pn R.pn) R.pn (M.map Value.bool)
  cells : Reads wr B 1 A R.C.length (R.C.map Value.bool)
  low : B ≤ g

section
variable {wr w2 : World} {R : Reg} {A : Option Addr} {c B bw bt bm br bk g : Nat} {M : List Bool}
theorem DW.glt (h : DW wr R A c B bw bt bm br bk g M) : g < wr.heap.size := (h.own.lt g rfl).2
theorem DW.len (h : DW wr R A c B bw bt bm br bk g M) : M.length = R.pn := by have := h.own.1; simpa using this
theorem DW.ne (h : DW wr R A c B bw bt bm br bk g M) : g ≠ bw ∧ g ≠ bt ∧ g ≠ bm ∧ g ≠ br ∧ g ≠ bk := by
  refine ⟨?_, ?_, ?_, ?_, ?_⟩ <;> intro e
  · exact own_blk_ne h.own h.hw (by decide) (by simp [Value.ownBlock, e])
  · exact own_blk_ne h.own h.ht (by decide) (by simp [Value.ownBlock, e])
  · exact own_blk_ne h.own h.hm (by decide) (by simp [Value.ownBlock, e])
  · exact own_blk_ne h.own h.hr (by decide) (by simp [Value.ownBlock, e])
  · exact own_blk_ne h.own h.hk (by decide) (by simp [Value.ownBlock, e])
theorem DW.below (h : DW wr R A c B bw bt bm br bk g M) (hb : Below wr.heap.size wr w2) : DW w2 R A c B bw bt bm br bk g M :=
  ⟨h.hw.below hb h.hw.lt, h.ht.below hb h.ht.lt, h.hm.below hb h.hm.lt, h.hr.below hb h.hr.lt, h.hk.below hb h.hk.lt, own_below h.own hb (Nat.le_refl _), h.cells.below (hb.mono (by have := h.low; have := h.glt; omega)), h.low⟩
theorem DW.set (h : DW wr R A c B bw bt bm br bk g M) (j : Nat) : DW (wr.setCell ⟨g, j, none⟩ (.bool true)) R A c B bw bt bm br bk g (M.set j true) ∧ wr.grownBy (wr.setCell ⟨g, j, none⟩ (.bool true)) (some g) := by
  obtain ⟨n1, n2, n3, n4, n5⟩ := h.ne
  have ho := h.own.stored j (.bool true)
  refine ⟨⟨h.hw.far (p := ⟨g, j, none⟩) (Ne.symm n1) _, h.ht.far (p := ⟨g, j, none⟩) (Ne.symm n2) _, h.hm.far (p := ⟨g, j, none⟩) (Ne.symm n3) _, h.hr.far (p := ⟨g, j, none⟩) (Ne.symm n4) _, h.hk.far (p := ⟨g, j, none⟩) (Ne.symm n5) _, ?_, h.cells.setCell (p := ⟨g, j, none⟩) h.low _, h.low⟩, ho.2⟩
  have := ho.1
  rwa [← List.map_set] at this
/-- All that is read of it. -/
theorem DW.cs (h : DW wr R A c B bw bt bm br bk g M) : wr.cell? ⟨bw, 0, none⟩ = some (.int .i64 ((R.W : Int) + 2)) ∧ wr.cell? ⟨bt, 0, none⟩ = some (.int .i64 ((R.T : Int) + 2)) ∧ wr.cell? ⟨bm, 0, none⟩ = some (.slice (some ⟨g, 0, none⟩) R.pn R.pn) ∧
    wr.cell? ⟨br, 0, none⟩ = some (.int .i64 R.W) ∧ wr.cell? ⟨br, 1, none⟩ = some (.int .i64 R.T) ∧ wr.cell? ⟨br, 2, none⟩ = some (.slice A R.C.length c) ∧
    wr.cell? ⟨bk, 0, none⟩ = some (.func (.func 151) #[] #[.pointer (some ⟨bw, 0, none⟩), .pointer (some ⟨bt, 0, none⟩), .pointer (some ⟨bm, 0, none⟩), .pointer (some ⟨br, 0, none⟩), .pointer (some ⟨bk, 0, none⟩)]) := by
  have cw := h.hw.cell 0
  have ct := h.ht.cell 0
  have cm := h.hm.cell 0
  have cr0 := h.hr.cell 0
  have cr1 := h.hr.cell 1
  have cr2 := h.hr.cell 2
  have ck := h.hk.cell 0
  simp at cw ct cm cr0 cr1 cr2 ck
  exact ⟨cw, ct, cm, cr0, cr1, cr2, ck⟩
theorem DW.cell (h : DW wr R A c B bw bt bm br bk g M) {j : Nat} {b : Bool} (hj : M[j]? = some b) : wr.cell? ⟨g, j, none⟩ = some (.bool b) := by
  have hl : j < M.length := (List.getElem?_eq_some_iff.1 hj).1
  rw [h.own.cellAt j (by have := h.len; omega), List.getElem?_map, hj]
  rfl
end

theorem cnt_set {M : List Bool} {p : Nat} (h : M[p]? = some false) : cnt (M.set p true) = cnt M + 1 := by
  obtain ⟨hp, he⟩ := List.getElem?_eq_some_iff.1 h
  have e1 : M = M.take p ++ false :: M.drop (p + 1) := by
    conv => lhs; rw [← List.take_append_drop p M, List.drop_eq_getElem_cons hp, he]
  have e2 : M.set p true = M.take p ++ true :: M.drop (p + 1) := by
    rw [List.set_eq_take_append_cons_drop, if_pos hp]
  rw [e2]
  conv => rhs; rw [e1]
  simp [cnt, List.countP_append]
  omega

theorem cnt_mono {M M' : List Bool} (hl : M'.length = M.length) (hs : ∀ p, marked M p → marked M' p) : cnt M ≤ cnt M' := by
  have cm : ∀ L : List Bool, cnt L = (List.range L.length).countP fun p => decide (marked L p) := fun L => by
    rw [cnt_range]
    refine List.countP_congr fun x hx => ?_
    have : x < L.length := List.mem_range.1 hx
    simp [marked, List.getD, List.getElem?_eq_getElem this]
  rw [cm, cm, hl]
  exact List.countP_mono_left fun x _ hx => by simpa using hs x (by simpa using hx)

/-- What a walk leaves. -/
def Walked (w : World) (R : Reg) (A : Option Addr) (c B bw bt bm br bk g : Nat) (M : List Bool) (x y : Int) (e : Ending) (w' : World) : Prop :=
  ∃ M', e = .returned (.tuple #[]) ∧ DW w' R A c B bw bt bm br bk g M' ∧ Dfs R M x y M' ∧ w.grownBy w' (some g)

theorem grown_below {a b : World} (h : Below a.heap.size a b) (row : Option Nat) : a.grownBy b row := only_of_below h row

set_option maxRecDepth 100000 in
set_option maxHeartbeats 1000000 in
theorem dfs_any (R : Reg) (hR : R.ok) (A : Option Addr) (c B bw bt bm br bk g : Nat) : ∀ (k : Nat) (M : List Bool) (x y : Int) (w : World), R.pn - cnt M ≤ k → -1 ≤ x → x ≤ 8 → -1 ≤ y → y ≤ 8 → DW w R A c B bw bt bm br bk g M →
    Calls Try.prog 151 #[.int .i64 x, .int .i64 y, .pointer (some ⟨bw, 0, none⟩), .pointer (some ⟨bt, 0, none⟩), .pointer (some ⟨bm, 0, none⟩), .pointer (some ⟨br, 0, none⟩), .pointer (some ⟨bk, 0, none⟩)] w
      (Walked w R A c B bw bt bm br bk g M x y) := by
  intro k
  induction k using Nat.strongRecOn with
  | _ k ih =>
    intro M x y w hk x0 x1 y0 y1 hD
    have hW6 := hR.2.1
    have hT6 := hR.2.2.2.1
    obtain ⟨cw, ct, cm, cr0, cr1, cr2, ck⟩ := hD.cs
    have IH := Lib.hid ih
    have HK := Lib.hid hk
    clear ih hk
    by_cases hx : 0 ≤ x ∧ x ≤ (R.W : Int) + 2 - 1
    · have I1 := inB_t hx
      by_cases hy : 0 ≤ y ∧ y ≤ (R.T : Int) + 2 - 1
      · have I2 := inB_t hy
        obtain ⟨x, rfl⟩ := Int.eq_ofNat_of_zero_le hx.1
        obtain ⟨y, rfl⟩ := Int.eq_ofNat_of_zero_le hy.1
        have hxl : x < R.W + 2 := by omega
        have hyl : y < R.T + 2 := by omega
        have hp := pi_lt hxl hyl
        have hpb := pn_bd hR
        have hpe : ((R.pi x y : Nat) : Int) = (y : Int) * ((R.W : Int) + 2) + (x : Int) := by simp [Reg.pi]
        have e0 : 0 ≤ (y : Int) * ((R.W : Int) + 2) := Int.mul_nonneg (by omega) (by omega)
        have e1 : (y : Int) * ((R.W : Int) + 2) + (x : Int) ≤ 64 := by omega
        have e2 : (y : Int) * ((R.W : Int) + 2) + (x : Int) < (R.pn : Int) := by omega
        have HPE := Lib.hid hpe
        obtain ⟨b, hb⟩ : ∃ b, M[R.pi x y]? = some b := ⟨_, List.getElem?_eq_getElem (by rw [hD.len]; exact hp)⟩
        have hcell : w.cell? ⟨g, y * (R.W + 2) + x, none⟩ = some (.bool b) := hD.cell hb
        have hfree : w.frozen? ⟨g, y * (R.W + 2) + x, none⟩ = false := hD.own.frozenAt _
        have HB := Lib.hid hb
        clear hb hpe
        cases b with
        | true =>
          go_enter Try.func151, Try.ntmps151
          go_wp2_with (first
            | (go_at_call 74; refine (in_any _ _ _ _).mono ?_; rintro e w' ⟨rfl, rfl⟩))
          go_end0
          exact ⟨M, rfl, hD, dfs_same (fun u0 v0 e1 e2 hf => by
            obtain rfl : u0 = x := by omega
            obtain rfl : v0 = y := by omega
            exact HB.out), World.grownBy.refl _ _⟩
        | false =>
          cases hat : R.at ((x : Int) - 1) ((y : Int) - 1) with
          | true =>
            have HAT := Lib.hid hat
            clear hat
            go_enter Try.func151, Try.ntmps151
            go_wp2_with (first
              | (go_at_call 74; refine (in_any _ _ _ _).mono ?_; rintro e w' ⟨rfl, rfl⟩)
              | (go_at_call 152; refine (at_any R hR A c B _ _ (by omega) (by omega) _ hD.cells (by have := hD.low; have := hD.glt; omega)).mono ?_; rintro e w1 ⟨rfl, hb1⟩; rw [HAT.out]))
            go_end0
            refine ⟨M, rfl, hD.below hb1, dfs_same (fun u0 v0 e1 e2 hf => ?_), grown_below hb1 _⟩
            obtain rfl : u0 = x := by omega
            obtain rfl : v0 = y := by omega
            simp [Reg.free, HAT.out] at hf
          | false =>
            have hf : R.free x y = true := by
              simp only [Reg.free, hat, Bool.and_eq_true, decide_eq_true_eq, Bool.not_false, and_true]
              omega
            have HF := Lib.hid hf
            have HAT := Lib.hid hat
            clear hat hf
            have hcnt : cnt (M.set (R.pi x y) true) = cnt M + 1 := cnt_set HB.out
            have hle : cnt M + 1 ≤ R.pn := by
              have h1 := cnt_le (M.set (R.pi x y) true)
              rw [hcnt, List.length_set, hD.len] at h1
              exact h1
            have HC := Lib.hid hcnt
            have HL := Lib.hid hle
            clear hcnt hle
            go_enter Try.func151, Try.ntmps151
            go_upto_region 1 with (first
              | (go_at_call 74; refine (in_any _ _ _ _).mono ?_; rintro e w' ⟨rfl, rfl⟩)
              | (go_at_call 152; refine (at_any R hR A c B _ _ (by omega) (by omega) _ hD.cells (by have := hD.low; have := hD.glt; omega)).mono ?_; rintro e w1 ⟨rfl, hb1⟩; rw [HAT.out]))
            have D1 := hD.below hb1
            have G1 := grown_below hb1 (some g)
            obtain ⟨D2, G2⟩ := D1.set (R.pi x y)
            clear cw ct cm cr0 cr1 cr2 ck hcell hfree
            obtain ⟨cw, ct, cm, cr0, cr1, cr2, ck⟩ := D1.cs
            have hcell : w1.cell? ⟨g, y * (R.W + 2) + x, none⟩ = some (.bool false) := D1.cell HB.out
            have hfree : w1.frozen? ⟨g, y * (R.W + 2) + x, none⟩ = false := D1.own.frozenAt _
            have ck2 : (w1.setCell ⟨g, y * (R.W + 2) + x, none⟩ (.bool true)).cell? ⟨bk, 0, none⟩ = some (.func (.func 151) #[] #[.pointer (some ⟨bw, 0, none⟩), .pointer (some ⟨bt, 0, none⟩), .pointer (some ⟨bm, 0, none⟩), .pointer (some ⟨br, 0, none⟩), .pointer (some ⟨bk, 0, none⟩)]) := D2.cs.2.2.2.2.2.2
            go_wp2_with fail
            refine (IH.out (k - 1) (by have := HK.out; have := HL.out; omega) (M.set (R.pi x y) true) ((x : Int) + 1) (y : Int) _ (by have := HK.out; have := HC.out; have := HL.out; omega) (by omega) (by omega) (by omega) (by omega) D2).mono ?_
            rintro e w3 ⟨M3, rfl, D3, F3, G3⟩
            have L3 := Lib.hid (cnt_mono F3.len F3.sub)
            have ck3 := D3.cs.2.2.2.2.2.2
            clear ck2
            go_wp2_with fail
            refine (IH.out (k - 1) (by have := HK.out; have := HL.out; omega) M3 ((x : Int) - 1) (y : Int) _ (by have := HK.out; have := HC.out; have := HL.out; have := L3.out; omega) (by omega) (by omega) (by omega) (by omega) D3).mono ?_
            rintro e w4 ⟨M4, rfl, D4, F4, G4⟩
            have L4 := Lib.hid (cnt_mono F4.len F4.sub)
            have ck4 := D4.cs.2.2.2.2.2.2
            clear ck3
            go_wp2_with fail
            refine (IH.out (k - 1) (by have := HK.out; have := HL.out; omega) M4 (x : Int) ((y : Int) + 1) _ (by have := HK.out; have := HC.out; have := HL.out; have := L3.out; have := L4.out; omega) (by omega) (by omega) (by omega) (by omega) D4).mono ?_
            rintro e w5 ⟨M5, rfl, D5, F5, G5⟩
            have L5 := Lib.hid (cnt_mono F5.len F5.sub)
            have ck5 := D5.cs.2.2.2.2.2.2
            clear ck4
            go_wp2_with fail
            refine (IH.out (k - 1) (by have := HK.out; have := HL.out; omega) M5 (x : Int) ((y : Int) - 1) _ (by have := HK.out; have := HC.out; have := HL.out; have := L3.out; have := L4.out; have := L5.out; omega) (by omega) (by omega) (by omega) (by omega) D5).mono ?_
            rintro e w6 ⟨M6, rfl, D6, F6, G6⟩
            clear ck5
            go_wp2_with fail
            go_end0
            exact ⟨M6, rfl, D6, dfs_four HF.out D1.len F3 F4 F5 F6, ((((G1.trans G2).trans G3).trans G4).trans G5).trans G6⟩
      · have I2 := inB_f hy
        have hS : Dfs R M x y M := dfs_same fun u0 v0 e1 e2 hf => by have := free_in hf; omega
        have HS := Lib.hid hS
        clear hy hS
        go_enter Try.func151, Try.ntmps151
        go_wp2_with (first
          | (go_at_call 74; refine (in_any _ _ _ _).mono ?_; rintro e w' ⟨rfl, rfl⟩))
        go_end0
        exact ⟨M, rfl, hD, HS.out, World.grownBy.refl _ _⟩
    · have I1 := inB_f hx
      have hS : Dfs R M x y M := dfs_same fun u0 v0 e1 e2 hf => by have := free_in hf; omega
      have HS := Lib.hid hS
      clear hx hS
      go_enter Try.func151, Try.ntmps151
      go_wp2_with (first
        | (go_at_call 74; refine (in_any _ _ _ _).mono ?_; rintro e w' ⟨rfl, rfl⟩))
      go_end0
      exact ⟨M, rfl, hD, HS.out, World.grownBy.refl _ _⟩

end Go.Proofs.Ythepfpiphlfgnaa

/-
  YthepfpiphlfgnaaSimple: simple and Simple of the program.
-/
namespace Go.Proofs.Ythepfpiphlfgnaa
open Go.RowKit

theorem Blk.new' {w : World} {g : Nat} {t : TypeId} {cs : Array Value} (h : g = w.heap.size) : Blk (w.alloc (.cells cs t)) g t cs := by subst h; exact Blk.new w t cs

set_option maxRecDepth 100000 in
set_option maxHeartbeats 1000000 in
theorem simpleI_ok (R : Reg) (hR : R.ok) (A : Option Addr) (c B : Nat) (w : World) (hr : Reads w B 1 A R.C.length (R.C.map Value.bool)) (hB : B ≤ w.heap.size) :
    Calls Try.prog 86 #[.agg #[.int .i64 R.W, .int .i64 R.T, .slice A R.C.length c]] w fun e w' => e = .returned (.bool (simpleB R.W R.T R.C)) ∧ Below w.heap.size w w' := by
  have hW6 := hR.2.1
  have hT6 := hR.2.2.2.1
  have hpn := pn_bd hR
  have hpe : ((R.pn : Nat) : Int) = ((R.W : Int) + 2) * ((R.T : Int) + 2) := by simp [Reg.pn]
  have HPE := Lib.hid hpe
  have q0 : 0 ≤ ((R.W : Int) + 2) * ((R.T : Int) + 2) := by omega
  have q1 : ((R.W : Int) + 2) * ((R.T : Int) + 2) ≤ 64 := by omega
  clear hpe
  go_enter Try.func86, Try.ntmps86
  go_upto_region 1 with fail
  go_cut [3, 4] (fun s3 s4 wx => ∃ bw bt, s3 = .pointer (some ⟨bw, 0, none⟩) ∧ s4 = .pointer (some ⟨bt, 0, none⟩) ∧ Blk wx w.heap.size 25 #[.int .i64 R.W, .int .i64 R.T, .slice A R.C.length c] ∧
      Blk wx bw 3 #[.int .i64 ((R.W : Int) + 2)] ∧ Blk wx bt 3 #[.int .i64 ((R.T : Int) + 2)] ∧ Below w.heap.size w wx)
  case first =>
    go_region
    all_goals go_wp2_with fail
    · go_meet
      exact ⟨w.heap.size + 1, w.heap.size + 1 + 1, rfl, rfl, (((Blk.new w _ _).alloc _).alloc _).drew, ((Blk.new' (by simp)).alloc _).drew, (Blk.new' (by simp)).drew, ((((Below.refl _ _).alloc (Nat.le_refl _) _).alloc (by simp) _).alloc (by simp; omega) _).drew⟩
    · go_meet
      exact ⟨w.heap.size + 1 + 1, w.heap.size + 1, rfl, rfl, (((Blk.new w _ _).alloc _).alloc _).drew, (Blk.new' (by simp)).drew, ((Blk.new' (by simp)).alloc _).drew, ((((Below.refl _ _).alloc (Nat.le_refl _) _).alloc (by simp) _).alloc (by simp; omega) _).drew⟩
  case rest =>
    obtain ⟨bw, bt, rfl, rfl, hb0, hbw, hbt, hbel⟩ := hcut
    have cw := hbw.cell 0
    have ct := hbt.cell 0
    simp at cw ct
    go_wp2_with (at_make; refine wpList_make_bools rfl _ _ rfl R.pn (by omega) rfl rfl (by simp [HPE.out]) (by simp [HPE.out]) ?_; intro w1 hown hb; have hz := hb.size)
    have hD : DW ((w1.alloc (.cells #[.slice (some ⟨wc.heap.size, 0, none⟩) R.pn R.pn] 23)).alloc (.cells #[.func (.func 151) #[] #[.pointer (some ⟨bw, 0, none⟩), .pointer (some ⟨bt, 0, none⟩), .pointer (some ⟨w1.heap.size, 0, none⟩), .pointer (some ⟨w.heap.size, 0, none⟩), .pointer (some ⟨w1.heap.size + 1, 0, none⟩)]] 123))
        R A c B bw bt w1.heap.size w.heap.size (w1.heap.size + 1) wc.heap.size (List.replicate R.pn false) := by
      refine ⟨((hbw.below hb hbw.lt).alloc _).alloc _, ((hbt.below hb hbt.lt).alloc _).alloc _, (Blk.new w1 _ _).alloc _, ((hb0.below hb hb0.lt).alloc _).alloc _, ?_, own_mono ((hown.alloc _).alloc _) (Nat.zero_le _), ?_, ?_⟩
      · have := Blk.new (w1.alloc (.cells #[.slice (some ⟨wc.heap.size, 0, none⟩) R.pn R.pn] 23)) 123 #[.func (.func 151) #[] #[.pointer (some ⟨bw, 0, none⟩), .pointer (some ⟨bt, 0, none⟩), .pointer (some ⟨w1.heap.size, 0, none⟩), .pointer (some ⟨w.heap.size, 0, none⟩), .pointer (some ⟨w1.heap.size + 1, 0, none⟩)]]
        simpa using this
      · exact ((((hr.below (hbel.mono hB)).below (hb.mono (by have := hbel.size; omega))).alloc (by have := hbel.size; omega) _).alloc (by have := hbel.size; simp; omega) _)
      · have := hbel.size; omega
    have hbel2 : Below w.heap.size w ((w1.alloc (.cells #[.slice (some ⟨wc.heap.size, 0, none⟩) R.pn R.pn] 23)).alloc (.cells #[.func (.func 151) #[] #[.pointer (some ⟨bw, 0, none⟩), .pointer (some ⟨bt, 0, none⟩), .pointer (some ⟨w1.heap.size, 0, none⟩), .pointer (some ⟨w.heap.size, 0, none⟩), .pointer (some ⟨w1.heap.size + 1, 0, none⟩)]] 123)) :=
      ((hbel.trans (hb.mono hbel.size)).alloc (by have := hbel.size; omega) _).alloc (by have := hbel.size; simp; omega) _
    refine (dfs_any R hR A c B bw bt _ _ _ _ R.pn (List.replicate R.pn false) 0 0 _ (by omega) (by omega) (by omega) (by omega) (by omega) hD).mono ?_
    rintro e w2 ⟨M, rfl, D2, F2, G2⟩
    have hS := spread_of_dfs F2
    have hcount := spread_count hR hS
    have hbel3 : Below w.heap.size w w2 := hbel2.grown G2 (by have := hbel2.size; omega) (fun k hk => by injection hk with hk; have := hbel.size; omega)
    obtain ⟨cw, ct, cm, cr0, cr1, cr2, ck⟩ := D2.cs
    have hlen := D2.len
    have hown2 := (Reads.of_own D2.own)
    have hle1 : cnt M ≤ 64 := by have := cnt_le M; omega
    have hle2 : cnt R.C ≤ 24 := hR.2.2.2.2.2
    have HC := Lib.hid hcount
    have HS := Lib.hid hS
    clear hcount hS hown hb hz hD hbel2
    go_upto_region 6 with fail
    have hB2 : B ≤ w2.heap.size := by have := D2.low; have := D2.glt; omega
    have hl36 := (len_bd hR).2
    have m1 : Calls Try.prog 137 #[.slice (some ⟨wc.heap.size, 0, none⟩) R.pn R.pn] w2.drew fun e w' => e = .returned (.int .i64 (cnt M)) ∧ w' = w2.drew := (many_any _ R.pn R.pn w2.heap.size M w2.drew hown2.drew (by omega)).mono fun _ _ h => ⟨h.1, h.2.symm⟩
    have m2 : Calls Try.prog 137 #[.slice A R.C.length c] w2.drew fun e w' => e = .returned (.int .i64 (cnt R.C)) ∧ w' = w2.drew := (many_any A R.C.length c B R.C w2.drew D2.cells.drew (by omega)).mono fun _ _ h => ⟨h.1, h.2.symm⟩
    have m3 : Calls Try.prog 153 #[.agg #[.int .i64 R.W, .int .i64 R.T, .slice A R.C.length c]] w2.drew fun e w' => ∃ m : Nat, e = .returned (.int .i64 m) ∧ (m = 1 ↔ InConn R) ∧ Below w2.heap.size w2.drew w' := partsMany_any R hR A c B w2.drew D2.cells.drew hB2
    have M1 := hide m1
    have M2 := hide m2
    have M3 := hide m3
    clear m1 m2 m3
    refine wp_region_still_tail 11 (by kernel_rfl) (by kernel_rfl) ?_
    simp only [List.take_succ_cons, List.take_zero, List.drop_succ_cons, List.drop_zero]
    still_step
    still_call (unhide M1)
    still_step
    still_step
    still_step
    still_step
    still_step
    still_call (unhide M2)
    still_step
    still_step
    still_step
    refine wpStill_nil ?_
    change wpList _ _ _ _ _ w2.drew
    by_cases hO : OutConn R
    · have heq : ((cnt M : Int) == ((R.W : Int) + 2) * ((R.T : Int) + 2) - (cnt R.C : Int)) = true := by
        have h1 := HC.out.2 hO
        have h2 := HPE.out
        simp; omega
      have heqp : (cnt M : Int) = ((R.W : Int) + 2) * ((R.T : Int) + 2) - (cnt R.C : Int) := by simpa using heq
      by_cases hI : InConn R
      · have HSB := Lib.hid ((simple_of hR).2 ⟨hI, hO⟩)
        go_wp2_with (go_at_call 153; (with_reducible refine (unhide M3).mono ?_); rintro e w3 ⟨m, rfl, hm, hb3⟩; have hm1 : ((m : Int) == 1) = true := by have := hm.2 hI; subst this; rfl)
        go_ret
        exact ⟨ret_bool (by rw [HSB.out]), hbel3.trans (Below.trans ((Below.refl _ _).drew) (hb3.mono hbel3.size))⟩
      · have hsb : simpleB R.W R.T R.C = false := by
          rw [Bool.eq_false_iff]; intro h; exact hI ((simple_of hR).1 h).1
        have HSB := Lib.hid hsb
        clear hsb
        go_wp2_with (go_at_call 153; (with_reducible refine (unhide M3).mono ?_); rintro e w3 ⟨m, rfl, hm, hb3⟩; have hm1 : ((m : Int) == 1) = false := by have : ¬ m = 1 := fun h => hI (hm.1 h); simp; omega)
        go_ret
        exact ⟨ret_bool (by rw [HSB.out]), hbel3.trans (Below.trans ((Below.refl _ _).drew) (hb3.mono hbel3.size))⟩
    · have heq : ((cnt M : Int) == ((R.W : Int) + 2) * ((R.T : Int) + 2) - (cnt R.C : Int)) = false := by
        have h1 : ¬ cnt M + cnt R.C = R.pn := fun h => hO (HC.out.1 h)
        have h2 := HPE.out
        simp; omega
      have heqp : ¬ (cnt M : Int) = ((R.W : Int) + 2) * ((R.T : Int) + 2) - (cnt R.C : Int) := by simpa using heq
      have hsb : simpleB R.W R.T R.C = false := by
        rw [Bool.eq_false_iff]; intro h; exact hO ((simple_of hR).1 h).2
      have HSB := Lib.hid hsb
      clear hsb
      go_wp2_with fail
      go_ret
      exact ⟨ret_bool (by rw [HSB.out]), hbel3.drew⟩

theorem simpleB_no {W T : Int} {bs : List Bool} (h : validB W T bs = false) : simpleB W T bs = false := by unfold simpleB; rw [h]; rfl

theorem SimpleI_any (W T : Int) (A : Option Addr) (n c B : Nat) (bs : List Bool) (w : World) (hr : Reads w B 1 A n (bs.map Value.bool)) (hB : B ≤ w.heap.size) (hn : n ≤ 9223372036854775807) :
    Calls Try.prog 26 #[.agg #[.int .i64 W, .int .i64 T, .slice A n c]] w fun e w' => e = .returned (.bool (simpleB W T bs)) ∧ Below w.heap.size w w' := by
  cases hv : validB W T bs with
  | false =>
    have HV := Lib.hid hv
    have HS := Lib.hid (simpleB_no hv)
    clear hv
    go_enter Try.func26, Try.ntmps26
    go_wp2_with fail
    refine (valid_any _ _ A _ c B bs _ (hr.alloc hB _) (by simp; omega) hn).mono ?_
    rintro e w0 ⟨rfl, hb0⟩
    rw [HV.out]
    simp only [World.size_alloc] at hb0
    go_wp2_with fail
    go_ret
    exact ⟨ret_bool (by rw [HS.out]), ((Below.refl _ _).alloc (Nat.le_refl _) _).trans (hb0.mono (by omega))⟩
  | true =>
    obtain ⟨R, hR, rfl, rfl, rfl⟩ := reg_of_valid hv
    have hl : R.C.length = n := by have := hr.1; simpa using this
    subst hl
    have HV := Lib.hid hv
    clear hv
    go_enter Try.func26, Try.ntmps26
    go_wp2_with fail
    refine (valid_any _ _ A _ c B R.C _ (hr.alloc hB _) (by simp; omega) hn).mono ?_
    rintro e w0 ⟨rfl, hb0⟩
    rw [HV.out]
    simp only [World.size_alloc] at hb0
    obtain ⟨hc0, hf0⟩ := bcell hb0
    have hz0 := hb0.size
    simp only [World.size_alloc] at hz0
    go_wp2_with fail
    refine (simpleI_ok R hR A c B _ ((hr.alloc hB _).below (hb0.mono (by omega))) (by omega)).mono ?_
    rintro e w1 ⟨rfl, hb1⟩
    go_wp2_with fail
    go_ret
    exact ⟨rfl, (((Below.refl _ _).alloc (Nat.le_refl _) _).trans (hb0.mono (by omega))).trans (hb1.mono (by omega))⟩

end Go.Proofs.Ythepfpiphlfgnaa

/-
  YthepfpiphlfgnaaOut: l4Outside and Simple of the reference.
-/
namespace Go.Proofs.Ythepfpiphlfgnaa
open Go.RowKit

theorem own_own_ne {w : World} {base base' : Nat} {e e' : TypeId} {size size' n n' g g' c c' : Nat} {xs xs' : List Value} (h : w.ownsRow base e size (.slice (some ⟨g, 0, none⟩) n c) n xs) (h' : w.ownsRow base' e' size' (.slice (some ⟨g', 0, none⟩) n' c') n' xs') (hne : e ≠ e') : g ≠ g' := by
  rintro rfl
  rcases h.2 with ⟨h0, _⟩ | ⟨a, cap, cur, hv, _, hh, _⟩
  · simp at h0
  · rcases h'.2 with ⟨h0, _⟩ | ⟨a', cap', cur', hv', _, hh', _⟩
    · simp at h0
    · simp only [Value.slice.injEq, Option.some.injEq, Addr.mk.injEq, and_true, true_and] at hv hv'
      obtain ⟨rfl, _⟩ := hv
      obtain ⟨rfl, _⟩ := hv'
      rw [hh] at hh'
      injection hh' with hh'
      injection hh' with _ ht
      exact hne ht

structure BW (w wr : World) (R : Reg) (A : Option Addr) (c g h cc : Nat) (M : List Bool) (Q : List Int) : Prop where
  bel : Below w.heap.size w wr
  box : Blk wr w.heap.size 25 #[.int .i64 R.W, .int .i64 R.T, .slice A R.C.length c]
  seen : wr.ownsRow (w.heap.size + 1) 4 1 (.slice (some ⟨g, 0, none⟩) R.pn R.pn) R.pn (M.map Value.bool)
  que : wr.ownsRow (w.heap.size + 1) 3 1 (.slice (some ⟨h, 0, none⟩) Q.length cc) Q.length (Q.map (Value.int .i64))

section
variable {w wr w2 : World} {R : Reg} {A : Option Addr} {c g h cc : Nat} {M : List Bool} {Q : List Int}
theorem BW.glt (H : BW w wr R A c g h cc M Q) : w.heap.size < g ∧ g < wr.heap.size := by have := H.seen.lt g rfl; omega
theorem BW.hlt (H : BW w wr R A c g h cc M Q) : w.heap.size < h ∧ h < wr.heap.size := by have := H.que.lt h rfl; omega
theorem BW.ne (H : BW w wr R A c g h cc M Q) : g ≠ h := own_own_ne H.seen H.que (by decide)
theorem BW.below (H : BW w wr R A c g h cc M Q) (hb : Below wr.heap.size wr w2) : BW w w2 R A c g h cc M Q :=
  ⟨H.bel.trans (hb.mono H.bel.size), H.box.below hb H.box.lt, own_below H.seen hb (Nat.le_refl _), own_below H.que hb (Nat.le_refl _)⟩
theorem BW.alloc (H : BW w wr R A c g h cc M Q) (o : Obj) : BW w (wr.alloc o) R A c g h cc M Q := H.below ((Below.refl _ _).alloc (Nat.le_refl _) o)
theorem BW.mark (H : BW w wr R A c g h cc M Q) (j : Nat) : BW w (wr.setCell ⟨g, j, none⟩ (.bool true)) R A c g h cc (M.set j true) Q := by
  have hg := H.glt
  refine ⟨H.bel.setCell (by simp; omega) _, H.box.far (p := ⟨g, j, none⟩) (by simp; omega) _, ?_, ownsRow_setCell_other H.que (a := ⟨g, j, none⟩) (by simp [Value.ownBlock]; exact Ne.symm H.ne) _⟩
  have := (H.seen.stored j (.bool true)).1
  rwa [← List.map_set] at this
theorem BW.app {g' k' : Nat} {x : Int} {o : Obj} (H : BW w wr R A c g h cc M Q)
    (ho : w2.ownsRow (w.heap.size + 1) 3 1 (.slice (some ⟨g', 0, none⟩) (Q.length + 1) k') (Q.length + 1) (Q.map (Value.int .i64) ++ [.int .i64 x])) (hg : (wr.alloc o).grownBy w2 (Value.slice (some ⟨h, 0, none⟩) Q.length cc).ownBlock) : BW w w2 R A c g g' k' M (Q ++ [x]) := by
  have hh := H.hlt
  refine ⟨(H.bel.alloc H.bel.size o).grown hg (by have := H.bel.size; simp; omega) (fun j hj => by simp [Value.ownBlock] at hj; omega), (H.box.alloc o).grown hg (by simp [Value.ownBlock]; omega), (H.seen.alloc o).kept hg (by simp [Value.ownBlock]; exact H.ne), ?_⟩
  rw [List.length_append, List.length_singleton, List.map_append]
  exact ho
theorem BW.scell (H : BW w wr R A c g h cc M Q) (hl : M.length = R.pn) {j : Nat} {b : Bool} (hj : M[j]? = some b) : wr.cell? ⟨g, j, none⟩ = some (.bool b) := by
  have : j < M.length := (List.getElem?_eq_some_iff.1 hj).1
  rw [H.seen.cellAt j (by omega), List.getElem?_map, hj]; rfl
theorem BW.qcell (H : BW w wr R A c g h cc M Q) {j : Nat} {q : Int} (hj : Q[j]? = some q) : wr.cell? ⟨h, j, none⟩ = some (.int .i64 q) := by
  have : j < Q.length := (List.getElem?_eq_some_iff.1 hj).1
  rw [H.que.cellAt j (by omega), List.getElem?_map, hj]; rfl
theorem BW.rcells (H : BW w wr R A c g h cc M Q) : wr.cell? ⟨w.heap.size, 0, none⟩ = some (.int .i64 R.W) ∧ wr.cell? ⟨w.heap.size, 1, none⟩ = some (.int .i64 R.T) ∧ wr.cell? ⟨w.heap.size, 2, none⟩ = some (.slice A R.C.length c) := by
  have r0 := H.box.cell 0
  have r1 := H.box.cell 1
  have r2 := H.box.cell 2
  simp at r0 r1 r2
  exact ⟨r0, r1, r2⟩
end

theorem int_mod {a b x : Nat} (h : a % b = x) : (a : Int) % (b : Int) = (x : Int) := by subst h; simp
theorem int_div {a b x : Nat} (h : a / b = x) : (a : Int) / (b : Int) = (x : Int) := by subst h; simp

open Classical in
noncomputable def outB (R : Reg) : Bool := decide (OutConn R)

set_option maxRecDepth 100000 in
set_option maxHeartbeats 1000000 in
theorem outside_any (R : Reg) (hR : R.ok) (A : Option Addr) (c B : Nat) (w : World) (hr : Reads w B 1 A R.C.length (R.C.map Value.bool)) (hB : B ≤ w.heap.size) :
    Calls Try.prog 150 #[.agg #[.int .i64 R.W, .int .i64 R.T, .slice A R.C.length c]] w fun e w' => e = .returned (.bool (outB R)) ∧ Below w.heap.size w w' := by
  have hW1 := hR.1
  have hW6 := hR.2.1
  have hT6 := hR.2.2.2.1
  have hpn := pn_bd hR
  have hpe : ((R.pn : Nat) : Int) = ((R.W : Int) + 2) * ((R.T : Int) + 2) := by simp [Reg.pn]
  have HPE := Lib.hid hpe
  have q0 : 0 ≤ ((R.W : Int) + 2) * ((R.T : Int) + 2) := by omega
  have q1 : ((R.W : Int) + 2) * ((R.T : Int) + 2) ≤ 64 := by omega
  clear hpe
  go_enter Try.func150, Try.ntmps150
  go_upto_region 3 with (at_make; refine wpList_make_bools rfl _ _ rfl R.pn (by omega) rfl rfl (by simp [HPE.out]) (by simp [HPE.out]) ?_; intro w1 hown hb)
  have hz := hb.size
  simp only [World.size_alloc] at hown hb hz
  have c0 := hown.cellAt 0 (by omega)
  have f0 := hown.frozenAt 0
  have e0 : ((List.replicate R.pn false).map Value.bool)[0]? = some (.bool false) := by
    rw [List.getElem?_map, List.getElem?_replicate, if_pos (by omega)]; rfl
  rw [e0] at c0
  clear e0
  go_wp2_with fail
  have hb1 : Below w.heap.size w w1 := ((Below.refl _ _).alloc (Nat.le_refl _) _).trans (hb.mono (by omega))
  have h0 : BW w ((w1.setCell ⟨w.heap.size + 1, 0, none⟩ (.bool true)).alloc (.cells #[.int .i64 0] 3)) R A c (w.heap.size + 1) w1.heap.size 1 ((List.replicate R.pn false).set 0 true) [0] := by
    have hs := (hown.stored 0 (.bool true)).1
    rw [← List.map_set] at hs
    have hlt := (hown.lt _ rfl).2
    refine ⟨(hb1.setCell (by simp) _).alloc (by simp [World.setCell]; omega) _, (((Blk.new w _ _).below hb (by simp)).far (p := ⟨w.heap.size + 1, 0, none⟩) (by simp) _).alloc _, hs.alloc _, ?_⟩
    have := World.ownsRow_lit (base := w.heap.size + 1) (e := 3) (size := 1) (w1.setCell ⟨w.heap.size + 1, 0, none⟩ (.bool true)) #[.int .i64 0] 1 (by simp [World.setCell]; omega) (by simp [maxLen]) (by simp)
    simpa [World.setCell] using this
  have hB0 := Lib.hid (bfs_start hR)
  have hM0 : marked ((List.replicate R.pn false).set 0 true) 0 := by
    unfold marked; rw [List.getElem?_set, if_pos rfl, if_pos (by simp; omega)]
  have HM0 := Lib.hid hM0
  clear hM0 hown hb hb1 c0 f0 hz
  go_loopg [5, 6] R.pn (fun r s5 s6 wr => ∃ k h cc M Q, k + r = R.pn ∧ s6 = .int .i64 (k : Nat) ∧ s5 = .slice (some ⟨h, 0, none⟩) Q.length cc ∧ BW w wr R A c (w.heap.size + 1) h cc M Q ∧ Bfs R M Q k 1 ∧ marked M 0)
  case atStart => exact ⟨0, _, _, _, _, by omega, rfl, rfl, h0, hB0.out, HM0.out⟩
  case round =>
    clear h0 hB0 HM0
    obtain ⟨k, h, cc, M, Q, hk, rfl, rfl, hW, hBfs, hM0⟩ := hrel
    have HB := Lib.hid hBfs
    have HM := Lib.hid hM0
    have HK := Lib.hid hk
    have hql : Q.length ≤ 64 := by have := hBfs.qlen; have := cnt_le M; have := hBfs.len; omega
    have hqk : Q.length ≤ R.pn := by have := hBfs.qlen; have := cnt_le M; have := hBfs.len; omega
    clear hBfs hM0 hk
    by_cases hlt : k < Q.length
    · obtain ⟨q, hq⟩ : ∃ q, Q[k]? = some q := ⟨_, List.getElem?_eq_getElem hlt⟩
      obtain ⟨x, y, rfl, hf, _, _⟩ := HB.out.each k q hq
      have hx := (free_in hf).1
      have hy := (free_in hf).2
      have hqc := hW.qcell hq
      have HQ := Lib.hid hq
      obtain ⟨r0, r1, r2⟩ := hW.rcells
      have hpl := pi_lt hx hy
      have ex : ((R.pi x y : Nat) : Int) % ((R.W : Int) + 2) = (x : Int) := by
        rw [show ((R.W : Int) + 2) = ((R.W + 2 : Nat) : Int) from by omega]
        exact int_mod (mk_mod y hx)
      have ey : ((R.pi x y : Nat) : Int) / ((R.W : Int) + 2) = (y : Int) := by
        rw [show ((R.W : Int) + 2) = ((R.W + 2 : Nat) : Int) from by omega]
        exact int_div (mk_div y hx)
      have hw0 : ((R.W : Int) + 2 == 0) = false := by simp; omega
      obtain ⟨p, hp⟩ : ∃ p, p = R.pi x y := ⟨_, rfl⟩
      rw [← hp] at hqc ex ey
      have HP := Lib.hid hp
      have d0 : 0 ≤ (p : Int) / ((R.W : Int) + 2) := by omega
      have d1 : (p : Int) / ((R.W : Int) + 2) ≤ 64 := by omega
      have HEX := Lib.hid ex
      have HEY := Lib.hid ey
      clear hq hf hp ex ey
      go_upto_region 10 with fail
      rw [HEX.out, HEY.out]
      clear d0 d1 hqc r0 r1 r2
      have hW' := hW
      clear hW
      go_wp2_with fail
      obtain ⟨wo, rfl⟩ : ∃ wo : World, wo = wr := ⟨_, rfl⟩
      obtain ⟨gk0, rfl⟩ : ∃ gk0 : Nat, gk0 = gk := ⟨_, rfl⟩
      go_loopg [5, 9] 4 (fun r s5 s9 wr => ∃ t h cc M Q, t + r = 5 ∧ 1 ≤ t ∧ s9 = .int .i64 (t : Nat) ∧ s5 = .slice (some ⟨h, 0, none⟩) Q.length cc ∧ BW w wr R A c (w.heap.size + 1) h cc M Q ∧ Bfs R M Q k t ∧ marked M 0 ∧ Q[k]? = some ((R.pi x y : Nat) : Int))
      case atStart => exact ⟨1, _, _, _, _, by omega, by omega, rfl, rfl, hW', HB.out, HM.out, HQ.out⟩
      case round =>
        clear hW' HB HM HQ hql hqk hlt
        obtain ⟨t, h, cc, M, Q, ht, ht1, rfl, rfl, hW, hBfs, hM0, hq⟩ := hrel
        have HB := Lib.hid hBfs
        have HM := Lib.hid hM0
        have HQ := Lib.hid hq
        have HT := Lib.hid ht
        have hlen := hBfs.len
        have HLen := Lib.hid hlen
        have hkq : k < Q.length := (List.getElem?_eq_some_iff.1 hq).1
        have hqc2 := hBfs.qlen
        have hcm := cnt_le M
        have hql : Q.length ≤ 64 := by omega
        have hkpn : k + 1 ≤ R.pn := by omega
        clear hBfs hM0 hq hlen hqc2 hcm
        by_cases htl : t ≤ 4
        · have h4 : t = 1 ∨ t = 2 ∨ t = 3 ∨ t = 4 := by omega
          go_upto_region 13 with fail
          go_cut [10] (fun s wx => s = .int .i64 ((x : Int) + dxOf t) ∧ Below wr.heap.size wr wx)
          case first =>
            clear ht
            rcases h4 with rfl | rfl | rfl | rfl
            all_goals
              go_wp2
              go_meet
              exact ⟨by simp [dxOf]; try omega, (Below.refl _ _).alloc (Nat.le_refl _) _⟩
          case rest =>
            obtain ⟨rfl, hbc⟩ := hcut
            obtain ⟨wa, rfl⟩ : ∃ wa : World, wa = wc := ⟨_, rfl⟩
            go_upto_region 14 with fail
            go_cut [11] (fun s wx => s = .int .i64 ((y : Int) + dyOf t) ∧ Below wa.heap.size wa wx)
            case first =>
              clear ht
              rcases h4 with rfl | rfl | rfl | rfl
              all_goals
                go_wp2
                go_meet
                exact ⟨by simp [dyOf]; try omega, (Below.refl _ _).alloc (Nat.le_refl _) _⟩
            case rest =>
              obtain ⟨rfl, hbd⟩ := hcut
              have hW2 := (hW.below hbc).below hbd
              have hrr := (hr.below (hW2.bel.mono hB))
              clear hW hbc hbd
              obtain ⟨nx, hnx⟩ : ∃ nx : Int, nx = (x : Int) + dxOf t := ⟨_, rfl⟩
              obtain ⟨ny, hny⟩ : ∃ ny : Int, ny = (y : Int) + dyOf t := ⟨_, rfl⟩
              rw [← hnx, ← hny]
              have bx : -1 ≤ nx ∧ nx ≤ (R.W : Int) + 2 := by rw [hnx]; unfold dxOf; repeat (first | omega | split)
              have by' : -1 ≤ ny ∧ ny ≤ (R.T : Int) + 2 := by rw [hny]; unfold dyOf; repeat (first | omega | split)
              have HNX := Lib.hid hnx
              have HNY := Lib.hid hny
              clear hnx hny
              obtain ⟨r0, r1, r2⟩ := hW2.rcells
              obtain ⟨bx0, bx1⟩ := bx
              obtain ⟨by0, by1⟩ := by'
              have hBw : B ≤ wc.heap.size := by have := hW2.bel.size; omega
              by_cases hxi : 0 ≤ nx ∧ nx ≤ (R.W : Int) + 2 - 1
              · have I1 := inB_t hxi
                by_cases hyi : 0 ≤ ny ∧ ny ≤ (R.T : Int) + 1
                · have I2 := inB_t hyi
                  obtain ⟨u, rfl⟩ := Int.eq_ofNat_of_zero_le hxi.1
                  obtain ⟨v, rfl⟩ := Int.eq_ofNat_of_zero_le hyi.1
                  have hul : u < R.W + 2 := by omega
                  have hvl : v < R.T + 2 := by omega
                  have hpp := pi_lt hul hvl
                  have hpe2 : ((R.pi u v : Nat) : Int) = (v : Int) * ((R.W : Int) + 2) + (u : Int) := by simp [Reg.pi]
                  have e0 : 0 ≤ (v : Int) * ((R.W : Int) + 2) := Int.mul_nonneg (by omega) (by omega)
                  have e1 : (v : Int) * ((R.W : Int) + 2) + (u : Int) ≤ 64 := by omega
                  have e2 : (v : Int) * ((R.W : Int) + 2) + (u : Int) < (R.pn : Int) := by omega
                  have HPI := Lib.hid hpe2
                  obtain ⟨b, hb⟩ : ∃ b, M[R.pi u v]? = some b := ⟨_, List.getElem?_eq_getElem (by rw [HLen.out]; exact hpp)⟩
                  have hsc : wc.cell? ⟨w.heap.size + 1, v * (R.W + 2) + u, none⟩ = some (.bool b) := hW2.scell HLen.out hb
                  have hsf : wc.frozen? ⟨w.heap.size + 1, v * (R.W + 2) + u, none⟩ = false := hW2.seen.frozenAt _
                  have HBB := Lib.hid hb
                  clear hb hpe2
                  cases b with
                  | true =>
                    go_wp2_with (first
                      | (go_at_call 91; refine (l1In_any _ _ _ _).mono ?_; rintro e w' ⟨rfl, rfl⟩))
                    go_roundg (5 - (t + 1))
                    case measure => have := HT.out; omega
                    case rel => exact ⟨t + 1, h, cc, M, Q, by omega, by omega, by go_num, rfl, hW2, bfs_skip HB.out hx HQ.out (fun u' v' e1 e2 _ => by
                      obtain rfl : u' = u := by have := HNX.out; omega
                      obtain rfl : v' = v := by have := HNY.out; omega
                      exact HBB.out), HM.out, HQ.out⟩
                  | false =>
                    cases hat : R.at ((u : Int) - 1) ((v : Int) - 1) with
                    | true =>
                      have HAT := Lib.hid hat
                      clear hat
                      go_wp2_with (first
                        | (go_at_call 91; refine (l1In_any _ _ _ _).mono ?_; rintro e w' ⟨rfl, rfl⟩)
                        | (go_at_call 177; refine (atS_any R hR A c B _ _ (by omega) (by omega) _ hrr hBw).mono ?_; rintro e w3 ⟨rfl, hb3⟩; rw [HAT.out]))
                      go_roundg (5 - (t + 1))
                      case measure => have := HT.out; omega
                      case rel => exact ⟨t + 1, h, cc, M, Q, by omega, by omega, by go_num, rfl, hW2.below hb3, bfs_skip HB.out hx HQ.out (fun u' v' e1 e2 hf => by
                        obtain rfl : u' = u := by have := HNX.out; omega
                        obtain rfl : v' = v := by have := HNY.out; omega
                        simp [Reg.free, HAT.out] at hf), HM.out, HQ.out⟩
                    | false =>
                      have hf : R.free u v = true := by
                        simp only [Reg.free, hat, Bool.and_eq_true, decide_eq_true_eq, Bool.not_false, and_true]
                        omega
                      have HF := Lib.hid hf
                      have HAT := Lib.hid hat
                      clear hat hf
                      go_upto_region 16 with (first
                        | (go_at_call 91; refine (l1In_any _ _ _ _).mono ?_; rintro e w' ⟨rfl, rfl⟩)
                        | (go_at_call 177; refine (atS_any R hR A c B _ _ (by omega) (by omega) _ hrr hBw).mono ?_; rintro e w3 ⟨rfl, hb3⟩; rw [HAT.out]))
                      have hW3 := hW2.below hb3
                      have hW4 := hW3.mark (R.pi u v)
                      have hsc : w3.cell? ⟨w.heap.size + 1, v * (R.W + 2) + u, none⟩ = some (.bool false) := hW3.scell HLen.out HBB.out
                      have hsf : w3.frozen? ⟨w.heap.size + 1, v * (R.W + 2) + u, none⟩ = false := hW3.seen.frozenAt _
                      clear r0 r1 r2
                      go_upto_region 17 with fail
                      go_wp2_with (at_builtin; refine wpList_app rfl _ _ _ rfl (w.heap.size + 1) 3 _ 8 Try.underlying26 info_int rfl (by omega) _ _ _ rfl (hW4.que.alloc _) w3.heap.size (.int .i64 ((v : Int) * ((R.W : Int) + 2) + (u : Int))) rfl ?c1 rfl (by omega) ?c2 ?_)
                      case c1 =>
                        have := World.cell?_alloc_at (w := w3.setCell ⟨w.heap.size + 1, v * (R.W + 2) + u, none⟩ (.bool true)) #[.int .i64 ((v : Int) * ((R.W : Int) + 2) + (u : Int))] 3 w3.heap.size 0 (by simp [World.setCell])
                        simpa using this
                      case c2 => have h1 := hW4.hlt; simp [World.setCell] at h1 ⊢; omega
                      rintro g' c' w5 hown hgr _ _ _
                      have hW5 := hW4.app hown hgr
                      clear hown hgr hW4 hW3 hW2
                      go_wp2_with fail
                      go_roundg (5 - (t + 1))
                      case measure => have := HT.out; omega
                      case rel =>
                        have hpi : (v : Int) * ((R.W : Int) + 2) + (u : Int) = ((R.pi u v : Nat) : Int) := HPI.out.symm
                        rw [hpi] at hW5
                        have hkl : k < Q.length := (List.getElem?_eq_some_iff.1 HQ.out).1
                        refine ⟨t + 1, g', c', M.set (R.pi u v) true, Q ++ [((R.pi u v : Nat) : Int)], by omega, by omega, by go_num, by simp, hW5, bfs_add HB.out ⟨ht1, htl⟩ hx HQ.out HNX.out HNY.out HF.out HBB.out (cnt_set HBB.out), ?_, by rw [List.getElem?_append_left hkl]; exact HQ.out⟩
                        exact (marked_set (by rw [HLen.out]; exact hpp)).2 (.inr HM.out)
                · have I2 := inB_f hyi
                  have hno : ∀ u' v' : Nat, (u' : Int) = x + dxOf t → (v' : Int) = y + dyOf t → R.free u' v' = true → marked M (R.pi u' v') := fun u' v' e1 e2 hf => by
                    have := free_in hf; have := HNY.out; omega
                  have HNO := Lib.hid hno
                  clear hyi hno
                  go_wp2_with (first
                    | (go_at_call 91; refine (l1In_any _ _ _ _).mono ?_; rintro e w' ⟨rfl, rfl⟩))
                  go_roundg (5 - (t + 1))
                  case measure => have := HT.out; omega
                  case rel => exact ⟨t + 1, h, cc, M, Q, by omega, by omega, by go_num, rfl, hW2, bfs_skip HB.out hx HQ.out HNO.out, HM.out, HQ.out⟩
              · have I1 := inB_f hxi
                have hno : ∀ u' v' : Nat, (u' : Int) = x + dxOf t → (v' : Int) = y + dyOf t → R.free u' v' = true → marked M (R.pi u' v') := fun u' v' e1 e2 hf => by
                  have := free_in hf; have := HNX.out; omega
                have HNO := Lib.hid hno
                clear hxi hno
                go_wp2_with (first
                  | (go_at_call 91; refine (l1In_any _ _ _ _).mono ?_; rintro e w' ⟨rfl, rfl⟩))
                go_roundg (5 - (t + 1))
                case measure => have := HT.out; omega
                case rel => exact ⟨t + 1, h, cc, M, Q, by omega, by omega, by go_num, rfl, hW2, bfs_skip HB.out hx HQ.out HNO.out, HM.out, HQ.out⟩
        · go_wp2_with fail
          go_roundg (R.pn - (k + 1))
          case measure => have := HK.out; omega
          case rel =>
            obtain rfl : t = 5 := by omega
            exact ⟨k + 1, h, cc, M, Q, by omega, by go_num, rfl, hW, bfs_next HB.out, HM.out⟩
    · have hS := bfs_end HB.out HM.out (by omega)
      have hcount := spread_count hR hS
      have hql2 := HB.out.qlen
      obtain ⟨r0, r1, r2⟩ := hW.rcells
      have hB2 : B ≤ wr.heap.size := by have := hW.bel.size; omega
      have hl36 := (len_bd hR).2
      have hle2 : cnt R.C ≤ 24 := hR.2.2.2.2.2
      have hrr := hr.below (hW.bel.mono hB)
      have HC := Lib.hid hcount
      have HQ2 := Lib.hid hql2
      have hbel := hW.bel
      clear hS hcount hql2 hW
      go_wp2_with (go_at_call 162; refine (countS_any A R.C.length c B R.C _ hrr (by omega)).mono ?_; rintro e w' ⟨rfl, rfl⟩)
      go_ret
      refine ⟨ret_bool ?_, hbel⟩
      unfold outB
      have h1 := HC.out
      have h2 := HQ2.out
      rw [Bool.eq_iff_iff]
      simp only [beq_iff_eq, decide_eq_true_eq]
      rw [← h1]
      omega

theorem SimpleS_any (W T : Int) (A : Option Addr) (n c B : Nat) (bs : List Bool) (w : World) (hr : Reads w B 1 A n (bs.map Value.bool)) (hB : B ≤ w.heap.size) (hn : n ≤ 9223372036854775807) :
    Calls Try.prog 85 #[.agg #[.int .i64 W, .int .i64 T, .slice A n c]] w fun e w' => e = .returned (.bool (simpleB W T bs)) ∧ Below w.heap.size w w' := by
  cases hv : validB W T bs with
  | false =>
    have HV := Lib.hid hv
    have HS := Lib.hid (simpleB_no hv)
    clear hv
    go_enter Try.func85, Try.ntmps85
    go_wp2_with fail
    refine (partsManyS_no _ _ A _ c B bs _ (hr.alloc hB _) (by simp; omega) hn HV.out).mono ?_
    rintro e w0 ⟨rfl, hb0⟩
    simp only [World.size_alloc] at hb0
    go_wp2_with fail
    go_ret
    exact ⟨ret_bool (by rw [HS.out]), ((Below.refl _ _).alloc (Nat.le_refl _) _).trans (hb0.mono (by omega))⟩
  | true =>
    obtain ⟨R, hR, rfl, rfl, rfl⟩ := reg_of_valid hv
    have hl : R.C.length = n := by have := hr.1; simpa using this
    subst hl
    clear hv
    go_enter Try.func85, Try.ntmps85
    go_wp2_with fail
    refine (partsManyS_ok R hR A c B _ (hr.alloc hB _) (by simp; omega)).mono ?_
    rintro e w0 ⟨m, rfl, hm, hb0⟩
    have HM := Lib.hid hm
    clear hm
    simp only [World.size_alloc] at hb0
    obtain ⟨hc0, hf0⟩ := bcell hb0
    have hz0 := hb0.size
    simp only [World.size_alloc] at hz0
    by_cases hI : InConn R
    · have h1 : ((m : Int) == 1) = true := by have := HM.out.2 hI; subst this; rfl
      have hres : outB R = simpleB R.W R.T R.C := by
        rw [Bool.eq_iff_iff, simple_of hR]
        unfold outB SimpleP
        simp [hI]
      have HR := Lib.hid hres
      clear hres
      go_wp2_with fail
      refine (outside_any R hR A c B _ ((hr.alloc hB _).below (hb0.mono (by omega))) (by omega)).mono ?_
      rintro e w1 ⟨rfl, hb1⟩
      go_wp2_with fail
      go_ret
      exact ⟨ret_bool (by rw [HR.out]), (((Below.refl _ _).alloc (Nat.le_refl _) _).trans (hb0.mono (by omega))).trans (hb1.mono (by omega))⟩
    · have h1 : ((m : Int) == 1) = false := by have : ¬ m = 1 := fun h => hI (HM.out.1 h); simp; omega
      have hres : simpleB R.W R.T R.C = false := by
        rw [Bool.eq_false_iff]; intro h; exact hI ((simple_of hR).1 h).1
      have HR := Lib.hid hres
      clear hres
      go_wp2_with fail
      go_ret
      exact ⟨ret_bool (by rw [HR.out]), ((Below.refl _ _).alloc (Nat.le_refl _) _).trans (hb0.mono (by omega))⟩

end Go.Proofs.Ythepfpiphlfgnaa
