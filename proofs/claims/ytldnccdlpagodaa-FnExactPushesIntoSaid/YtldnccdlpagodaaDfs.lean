/-
  YtldnccdlpagodaaDfs: the closure that walks outside of a region.
-/
import Derived.Test.YtldnccdlpagodaaPartsT
import Derived.Test.YtldnccdlpagodaaMa
import Derived.Laws.EntriesVeiled
namespace Go.Proofs.Ytldnccdlpagodaa
open Go.RowKit

/-- The memory of the walk: the captured variables, and the marks. -/
structure DW (wr : World) (R : Reg) (A : Option Addr) (c B bw bt bm br bk g : Nat) (M : List Bool) : Prop where
  hw : Blk wr bw 3 #[.int .i64 ((R.W : Int) + 2)]
  ht : Blk wr bt 3 #[.int .i64 ((R.T : Int) + 2)]
  hm : Blk wr bm 22 #[.slice (some ⟨g, 0, none⟩) R.pn R.pn]
  hr : Blk wr br 29 #[.int .i64 R.W, .int .i64 R.T, .slice A R.C.length c]
  hk : Blk wr bk 126 #[.func (.func 145) #[] #[.pointer (some ⟨bw, 0, none⟩), .pointer (some ⟨bt, 0, none⟩), .pointer (some ⟨bm, 0, none⟩), .pointer (some ⟨br, 0, none⟩), .pointer (some ⟨bk, 0, none⟩)]]
  own : wr.ownsRow 0 4 1 (.slice (some ⟨g, 0, none⟩) R.pn R.pn) R.pn (M.map Value.bool)
  cells : Reads wr B 1 A R.C.length (R.C.map Value.bool)
  low : B ≤ g

section
variable {wr w2 : World} {R : Reg} {A : Option Addr} {c B bw bt bm br bk g : Nat} {M : List Bool}
theorem DW.glt (h : DW wr R A c B bw bt bm br bk g M) : g < wr.heap.size := (h.own.lt g rfl).2
theorem DW.len (h : DW wr R A c B bw bt bm br bk g M) : M.length = R.pn := by have := h.own.1; simpa using this
theorem DW.ne (h : DW wr R A c B bw bt bm br bk g M) : g ≠ bw ∧ g ≠ bt ∧ g ≠ bm ∧ g ≠ br ∧ g ≠ bk := by
  refine ⟨?_, ?_, ?_, ?_, ?_⟩ <;> intro e
  · exact own_blk_ne h.own h.hw (by decide) (by simp [Value.ownBlock, e])
  · exact own_blk_ne h.own h.ht (by decide) (by simp [Value.ownBlock, e])
  · exact own_blk_ne h.own h.hm (by decide) (by simp [Value.ownBlock, e])
  · exact own_blk_ne h.own h.hr (by decide) (by simp [Value.ownBlock, e])
  · exact own_blk_ne h.own h.hk (by decide) (by simp [Value.ownBlock, e])
theorem DW.below (h : DW wr R A c B bw bt bm br bk g M) (hb : Below wr.heap.size wr w2) : DW w2 R A c B bw bt bm br bk g M :=
  ⟨h.hw.below hb h.hw.lt, h.ht.below hb h.ht.lt, h.hm.below hb h.hm.lt, h.hr.below hb h.hr.lt, h.hk.below hb h.hk.lt, own_below h.own hb (Nat.le_refl _), h.cells.below (hb.mono (by have := h.low; have := h.glt; omega)), h.low⟩
theorem DW.set (h : DW wr R A c B bw bt bm br bk g M) (j : Nat) : DW (wr.setCell ⟨g, j, none⟩ (.bool true)) R A c B bw bt bm br bk g (M.set j true) ∧ wr.grownBy (wr.setCell ⟨g, j, none⟩ (.bool true)) (some g) := by
  obtain ⟨n1, n2, n3, n4, n5⟩ := h.ne
  have ho := h.own.stored j (.bool true)
  refine ⟨⟨h.hw.far (p := ⟨g, j, none⟩) (Ne.symm n1) _, h.ht.far (p := ⟨g, j, none⟩) (Ne.symm n2) _, h.hm.far (p := ⟨g, j, none⟩) (Ne.symm n3) _, h.hr.far (p := ⟨g, j, none⟩) (Ne.symm n4) _, h.hk.far (p := ⟨g, j, none⟩) (Ne.symm n5) _, ?_, h.cells.setCell (p := ⟨g, j, none⟩) h.low _, h.low⟩, ho.2⟩
  have := ho.1
  rwa [← List.map_set] at this
/-- All that is read of it. -/
theorem DW.cs (h : DW wr R A c B bw bt bm br bk g M) : wr.cell? ⟨bw, 0, none⟩ = some (.int .i64 ((R.W : Int) + 2)) ∧ wr.cell? ⟨bt, 0, none⟩ = some (.int .i64 ((R.T : Int) + 2)) ∧ wr.cell? ⟨bm, 0, none⟩ = some (.slice (some ⟨g, 0, none⟩) R.pn R.pn) ∧
    wr.cell? ⟨br, 0, none⟩ = some (.int .i64 R.W) ∧ wr.cell? ⟨br, 1, none⟩ = some (.int .i64 R.T) ∧ wr.cell? ⟨br, 2, none⟩ = some (.slice A R.C.length c) ∧
    wr.cell? ⟨bk, 0, none⟩ = some (.func (.func 145) #[] #[.pointer (some ⟨bw, 0, none⟩), .pointer (some ⟨bt, 0, none⟩), .pointer (some ⟨bm, 0, none⟩), .pointer (some ⟨br, 0, none⟩), .pointer (some ⟨bk, 0, none⟩)]) := by
  have cw := h.hw.cell 0
  have ct := h.ht.cell 0
  have cm := h.hm.cell 0
  have cr0 := h.hr.cell 0
  have cr1 := h.hr.cell 1
  have cr2 := h.hr.cell 2
  have ck := h.hk.cell 0
  simp at cw ct cm cr0 cr1 cr2 ck
  exact ⟨cw, ct, cm, cr0, cr1, cr2, ck⟩
theorem DW.cell (h : DW wr R A c B bw bt bm br bk g M) {j : Nat} {b : Bool} (hj : M[j]? = some b) : wr.cell? ⟨g, j, none⟩ = some (.bool b) := by
  have hl : j < M.length := (List.getElem?_eq_some_iff.1 hj).1
  rw [h.own.cellAt j (by have := h.len; omega), List.getElem?_map, hj]
  rfl
end

theorem cnt_set {M : List Bool} {p : Nat} (h : M[p]? = some false) : cnt (M.set p true) = cnt M + 1 := by
  obtain ⟨hp, he⟩ := List.getElem?_eq_some_iff.1 h
  have e1 : M = M.take p ++ false :: M.drop (p + 1) := by
    conv => lhs; rw [← List.take_append_drop p M, List.drop_eq_getElem_cons hp, he]
  have e2 : M.set p true = M.take p ++ true :: M.drop (p + 1) := by
    rw [List.set_eq_take_append_cons_drop, if_pos hp]
  rw [e2]
  conv => rhs; rw [e1]
  simp [cnt, List.countP_append]
  omega

theorem cnt_mono {M M' : List Bool} (hl : M'.length = M.length) (hs : ∀ p, marked M p → marked M' p) : cnt M ≤ cnt M' := by
  have cm : ∀ L : List Bool, cnt L = (List.range L.length).countP fun p => decide (marked L p) := fun L => by
    rw [cnt_range]
    refine List.countP_congr fun x hx => ?_
    have : x < L.length := List.mem_range.1 hx
    simp [marked, List.getD, List.getElem?_eq_getElem this]
  rw [cm, cm, hl]
  exact List.countP_mono_left fun x _ hx => by simpa using hs x (by simpa using hx)

/-- What a walk leaves. -/
def Walked (w : World) (R : Reg) (A : Option Addr) (c B bw bt bm br bk g : Nat) (M : List Bool) (x y : Int) (e : Ending) (w' : World) : Prop :=
  ∃ M', e = .returned (.tuple #[]) ∧ DW w' R A c B bw bt bm br bk g M' ∧ Dfs R M x y M' ∧ w.grownBy w' (some g)

theorem grown_below {a b : World} (h : Below a.heap.size a b) (row : Option Nat) : a.grownBy b row := only_of_below h row

set_option maxRecDepth 100000 in
set_option maxHeartbeats 1000000 in
theorem dfs_any (R : Reg) (hR : R.ok) (A : Option Addr) (c B bw bt bm br bk g : Nat) : ∀ (k : Nat) (M : List Bool) (x y : Int) (w : World), R.pn - cnt M ≤ k → -1 ≤ x → x ≤ 8 → -1 ≤ y → y ≤ 8 → DW w R A c B bw bt bm br bk g M →
    Calls Try.prog 145 #[.int .i64 x, .int .i64 y, .pointer (some ⟨bw, 0, none⟩), .pointer (some ⟨bt, 0, none⟩), .pointer (some ⟨bm, 0, none⟩), .pointer (some ⟨br, 0, none⟩), .pointer (some ⟨bk, 0, none⟩)] w
      (Walked w R A c B bw bt bm br bk g M x y) := by
  intro k
  induction k using Nat.strongRecOn with
  | _ k ih =>
    intro M x y w hk x0 x1 y0 y1 hD
    have hW6 := hR.2.1
    have hT6 := hR.2.2.2.1
    obtain ⟨cw, ct, cm, cr0, cr1, cr2, ck⟩ := hD.cs
    have IH := Lib.hid ih
    have HK := Lib.hid hk
    clear ih hk
    by_cases hx : 0 ≤ x ∧ x ≤ (R.W : Int) + 2 - 1
    · have I1 := inB_t hx
      by_cases hy : 0 ≤ y ∧ y ≤ (R.T : Int) + 2 - 1
      · have I2 := inB_t hy
        obtain ⟨x, rfl⟩ := Int.eq_ofNat_of_zero_le hx.1
        obtain ⟨y, rfl⟩ := Int.eq_ofNat_of_zero_le hy.1
        have hxl : x < R.W + 2 := by omega
        have hyl : y < R.T + 2 := by omega
        have hp := pi_lt hxl hyl
        have hpb := pn_bd hR
        have hpe : ((R.pi x y : Nat) : Int) = (y : Int) * ((R.W : Int) + 2) + (x : Int) := by simp [Reg.pi]
        have e0 : 0 ≤ (y : Int) * ((R.W : Int) + 2) := Int.mul_nonneg (by omega) (by omega)
        have e1 : (y : Int) * ((R.W : Int) + 2) + (x : Int) ≤ 64 := by omega
        have e2 : (y : Int) * ((R.W : Int) + 2) + (x : Int) < (R.pn : Int) := by omega
        have HPE := Lib.hid hpe
        obtain ⟨b, hb⟩ : ∃ b, M[R.pi x y]? = some b := ⟨_, List.getElem?_eq_getElem (by rw [hD.len]; exact hp)⟩
        have hcell : w.cell? ⟨g, y * (R.W + 2) + x, none⟩ = some (.bool b) := hD.cell hb
        have hfree : w.frozen? ⟨g, y * (R.W + 2) + x, none⟩ = false := hD.own.frozenAt _
        have HB := Lib.hid hb
        clear hb hpe
        cases b with
        | true =>
          go_enter Try.func145, Try.ntmps145
          go_wp2_with (first
            | (go_at_call 69; refine (in_any _ _ _ _).mono ?_; rintro e w' ⟨rfl, rfl⟩))
          go_end0
          exact ⟨M, rfl, hD, dfs_same (fun u0 v0 e1 e2 hf => by
            obtain rfl : u0 = x := by omega
            obtain rfl : v0 = y := by omega
            exact HB.out), World.grownBy.refl _ _⟩
        | false =>
          cases hat : R.at ((x : Int) - 1) ((y : Int) - 1) with
          | true =>
            have HAT := Lib.hid hat
            clear hat
            go_enter Try.func145, Try.ntmps145
            go_wp2_with (first
              | (go_at_call 69; refine (in_any _ _ _ _).mono ?_; rintro e w' ⟨rfl, rfl⟩)
              | (go_at_call 141; refine (at_any R hR A c B _ _ (by omega) (by omega) _ hD.cells (by have := hD.low; have := hD.glt; omega)).mono ?_; rintro e w1 ⟨rfl, hb1⟩; rw [HAT.out]))
            go_end0
            refine ⟨M, rfl, hD.below hb1, dfs_same (fun u0 v0 e1 e2 hf => ?_), grown_below hb1 _⟩
            obtain rfl : u0 = x := by omega
            obtain rfl : v0 = y := by omega
            simp [Reg.free, HAT.out] at hf
          | false =>
            have hf : R.free x y = true := by
              simp only [Reg.free, hat, Bool.and_eq_true, decide_eq_true_eq, Bool.not_false, and_true]
              omega
            have HF := Lib.hid hf
            have HAT := Lib.hid hat
            clear hat hf
            have hcnt : cnt (M.set (R.pi x y) true) = cnt M + 1 := cnt_set HB.out
            have hle : cnt M + 1 ≤ R.pn := by
              have h1 := cnt_le (M.set (R.pi x y) true)
              rw [hcnt, List.length_set, hD.len] at h1
              exact h1
            have HC := Lib.hid hcnt
            have HL := Lib.hid hle
            clear hcnt hle
            go_enter Try.func145, Try.ntmps145
            go_upto_region 1 with (first
              | (go_at_call 69; refine (in_any _ _ _ _).mono ?_; rintro e w' ⟨rfl, rfl⟩)
              | (go_at_call 141; refine (at_any R hR A c B _ _ (by omega) (by omega) _ hD.cells (by have := hD.low; have := hD.glt; omega)).mono ?_; rintro e w1 ⟨rfl, hb1⟩; rw [HAT.out]))
            have D1 := hD.below hb1
            have G1 := grown_below hb1 (some g)
            obtain ⟨D2, G2⟩ := D1.set (R.pi x y)
            clear cw ct cm cr0 cr1 cr2 ck hcell hfree
            obtain ⟨cw, ct, cm, cr0, cr1, cr2, ck⟩ := D1.cs
            have hcell : w1.cell? ⟨g, y * (R.W + 2) + x, none⟩ = some (.bool false) := D1.cell HB.out
            have hfree : w1.frozen? ⟨g, y * (R.W + 2) + x, none⟩ = false := D1.own.frozenAt _
            have ck2 : (w1.setCell ⟨g, y * (R.W + 2) + x, none⟩ (.bool true)).cell? ⟨bk, 0, none⟩ = some (.func (.func 145) #[] #[.pointer (some ⟨bw, 0, none⟩), .pointer (some ⟨bt, 0, none⟩), .pointer (some ⟨bm, 0, none⟩), .pointer (some ⟨br, 0, none⟩), .pointer (some ⟨bk, 0, none⟩)]) := D2.cs.2.2.2.2.2.2
            go_wp2_with fail
            refine (IH.out (k - 1) (by have := HK.out; have := HL.out; omega) (M.set (R.pi x y) true) ((x : Int) + 1) (y : Int) _ (by have := HK.out; have := HC.out; have := HL.out; omega) (by omega) (by omega) (by omega) (by omega) D2).mono ?_
            rintro e w3 ⟨M3, rfl, D3, F3, G3⟩
            have L3 := Lib.hid (cnt_mono F3.len F3.sub)
            have ck3 := D3.cs.2.2.2.2.2.2
            clear ck2
            go_wp2_with fail
            refine (IH.out (k - 1) (by have := HK.out; have := HL.out; omega) M3 ((x : Int) - 1) (y : Int) _ (by have := HK.out; have := HC.out; have := HL.out; have := L3.out; omega) (by omega) (by omega) (by omega) (by omega) D3).mono ?_
            rintro e w4 ⟨M4, rfl, D4, F4, G4⟩
            have L4 := Lib.hid (cnt_mono F4.len F4.sub)
            have ck4 := D4.cs.2.2.2.2.2.2
            clear ck3
            go_wp2_with fail
            refine (IH.out (k - 1) (by have := HK.out; have := HL.out; omega) M4 (x : Int) ((y : Int) + 1) _ (by have := HK.out; have := HC.out; have := HL.out; have := L3.out; have := L4.out; omega) (by omega) (by omega) (by omega) (by omega) D4).mono ?_
            rintro e w5 ⟨M5, rfl, D5, F5, G5⟩
            have L5 := Lib.hid (cnt_mono F5.len F5.sub)
            have ck5 := D5.cs.2.2.2.2.2.2
            clear ck4
            go_wp2_with fail
            refine (IH.out (k - 1) (by have := HK.out; have := HL.out; omega) M5 (x : Int) ((y : Int) - 1) _ (by have := HK.out; have := HC.out; have := HL.out; have := L3.out; have := L4.out; have := L5.out; omega) (by omega) (by omega) (by omega) (by omega) D5).mono ?_
            rintro e w6 ⟨M6, rfl, D6, F6, G6⟩
            clear ck5
            go_wp2_with fail
            go_end0
            exact ⟨M6, rfl, D6, dfs_four HF.out D1.len F3 F4 F5 F6, ((((G1.trans G2).trans G3).trans G4).trans G5).trans G6⟩
      · have I2 := inB_f hy
        have hS : Dfs R M x y M := dfs_same fun u0 v0 e1 e2 hf => by have := free_in hf; omega
        have HS := Lib.hid hS
        clear hy hS
        go_enter Try.func145, Try.ntmps145
        go_wp2_with (first
          | (go_at_call 69; refine (in_any _ _ _ _).mono ?_; rintro e w' ⟨rfl, rfl⟩))
        go_end0
        exact ⟨M, rfl, hD, HS.out, World.grownBy.refl _ _⟩
    · have I1 := inB_f hx
      have hS : Dfs R M x y M := dfs_same fun u0 v0 e1 e2 hf => by have := free_in hf; omega
      have HS := Lib.hid hS
      clear hx hS
      go_enter Try.func145, Try.ntmps145
      go_wp2_with (first
        | (go_at_call 69; refine (in_any _ _ _ _).mono ?_; rintro e w' ⟨rfl, rfl⟩))
      go_end0
      exact ⟨M, rfl, hD, HS.out, World.grownBy.refl _ _⟩

end Go.Proofs.Ytldnccdlpagodaa
