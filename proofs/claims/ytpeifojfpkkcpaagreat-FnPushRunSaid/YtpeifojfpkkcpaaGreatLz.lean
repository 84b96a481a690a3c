/-
  YtpeifojfpkkcpaaGreatLz: the texts Si, Ls, Hl, Hh, Q3, Tl, La, Lb, Lc, Wy in one file.
-/
import Derived.Deep.RegionHeldLaw
import Derived.Deep.AppendLies
import Derived.Deep.RegionHeld3
import Derived.Test.YtpeifojfpkkcpaaGreatHS
import Derived.Test.YtpeifojfpkkcpaaGreatDq
import Derived.Test.YtpeifojfpkkcpaaGreatRep
import Derived.Test.YtpeifojfpkkcpaaGreatHkS
import Derived.Test.YtpeifojfpkkcpaaGreatPk
import Derived.Test.YtpeifojfpkkcpaaGreatMa
import Derived.Test.YtpeifojfpkkcpaaGreatByS
import Derived.Test.YtpeifojfpkkcpaaGreatFm

/-
  YtpeifojfpkkcpaaGreatSi: the laws' sameInts.
-/
namespace Go.Proofs.YtpeifojfpkkcpaaGreat
open Go.RowKit

theorem ints_ext {a b : List Int} (hl : a.length = b.length) (h : ∀ j, j < a.length → a.getD j 0 = b.getD j 0) : a = b := by
  apply List.ext_getElem hl
  intro j h1 h2
  have := h j h1
  rw [List.getD_eq_getElem?_getD, List.getD_eq_getElem?_getD, List.getElem?_eq_getElem h1, List.getElem?_eq_getElem h2] at this
  exact this

set_option maxHeartbeats 1000000 in
theorem sameInts_any (a b : List Int) (D1 D2 : Option Addr) (m1 d1 m2 d2 B : Nat) (w : World) (hL1 : a.length = m1) (hL2 : b.length = m2) (h1 : Reads w B 1 D1 m1 (a.map (Value.int .i64))) (h2 : Reads w B 1 D2 m2 (b.map (Value.int .i64))) (hm1 : m1 ≤ 1048576) (_hm2 : m2 ≤ 1048576) :
    Calls Tryz.prog 6 #[.slice D1 m1 d1, .slice D2 m2 d2] w fun e w' => e = .returned (.bool (a == b)) ∧ Below w.heap.size w w' := by
  have HL1 := Lib.hid hL1
  have HL2 := Lib.hid hL2
  clear hL1 hL2
  obtain ⟨v, hv⟩ : ∃ v, v = (a == b) := ⟨_, rfl⟩
  rw [← hv]
  have HV := Lib.hid hv
  clear hv
  have HLG := fun k (hk : k < m1) => h1.getI hk
  have HLH := fun k (hk : k < m2) => h2.getI hk
  by_cases hm : m1 = m2
  · have hmd : ((m1 : Int) != (m2 : Int)) = false := by simp; omega
    go_enter Tryz.func6, Tryz.ntmps6
    go_wp2_with fail
    go_loopg [5] m1 (fun r s3 wr => ∃ k q : Nat, k + r = m1 ∧ s3 = .int .i64 (k : Nat) ∧ (∀ j, j < k → a.getD j 0 = b.getD j 0) ∧ wr = w.drewN q)
    case atStart => exact ⟨0, 0, by omega, rfl, fun j hj => by omega, rfl⟩
    case round =>
      obtain ⟨k, q, hk, rfl, hall, rfl⟩ := hrel
      have HK := Lib.hid hk
      have HALL := Lib.hid hall
      have HMM := Lib.hid hm
      clear hk hall
      by_cases hlt : k < m1
      · have hlt2 : k < m2 := by omega
        obtain ⟨ad, rfl, _, hc1⟩ := HLG k hlt
        obtain ⟨ad2, rfl, _, hc2⟩ := HLH k hlt2
        have x1 := (cell_kept hc1 (below_drewN (Below.refl w.heap.size w) q))
        have x2 := (cell_kept hc2 (below_drewN (Below.refl w.heap.size w) q))
        have hbq := below_drewN (Below.refl w.heap.size w) q
        clear hm
        cases hne : (a.getD k 0 != b.getD k 0) with
        | true =>
          have hres : (a == b) = false := by
            simp only [beq_eq_false_iff_ne]
            rintro rfl
            simp at hne
          have HRES : Hid (v = false) := Lib.hid (by rw [HV.out, hres])
          clear hres HLG HLH
          generalize a.getD k 0 = x at *
          generalize b.getD k 0 = y at *
          go_wp2
          go_quiet (fail)
          go_wp2_with fail
          go_ret
          exact ⟨ret_bool (by rw [HRES.out]), below_drewN (below_drewN (Below.refl _ _) _) _⟩
        | false =>
          have hxy : a.getD k 0 = b.getD k 0 := by simpa using hne
          have HXY := Lib.hid hxy
          clear hxy HLG HLH
          generalize hx : a.getD k 0 = x at *
          generalize hy : b.getD k 0 = y at *
          have HX := Lib.hid hx
          have HY := Lib.hid hy
          clear hx hy
          go_wp2
          go_quiet (fail)
          go_wp2_with fail
          go_roundg (m1 - (k + 1))
          case measure => have := HK.out; omega
          case rel =>
            refine ⟨k + 1, _, by have := HK.out; omega, by go_num, fun j hj => ?_, rfl⟩
            by_cases hjk : j = k
            · subst hjk; rw [HX.out, HY.out]; exact HXY.out
            · exact HALL.out j (by omega)
      · have hab : a = b := ints_ext (by rw [HL1.out, HL2.out]; exact hm) fun j hj => HALL.out j (by have := HL1.out; omega)
        have HRES : Hid (v = true) := Lib.hid (by rw [HV.out, hab]; simp)
        clear hm hab HLG HLH
        go_wp2_with fail
        go_ret
        exact ⟨ret_bool (by rw [HRES.out]), below_drewN (Below.refl _ _) _⟩
  · have hmd : ((m1 : Int) != (m2 : Int)) = true := by simp; omega
    have hres : (a == b) = false := by
      simp only [beq_eq_false_iff_ne]
      rintro rfl
      have := HL1.out
      have := HL2.out
      omega
    have HRES : Hid (v = false) := Lib.hid (by rw [HV.out, hres])
    clear hm hres HLG HLH
    go_enter Tryz.func6, Tryz.ntmps6
    go_wp2_with fail
    go_ret
    exact ⟨ret_bool (by rw [HRES.out]), Below.refl _ _⟩

end Go.Proofs.YtpeifojfpkkcpaaGreat

/-
  YtpeifojfpkkcpaaGreatLs: the walks of the property laws: where a law stands.
-/
namespace Go.Proofs.YtpeifojfpkkcpaaGreat
open Go.RowKit

/-- A law's region: its block x, its cells. -/
structure LS (w wr : World) (x : Nat) (W T : Int) (A2 : Option Addr) (c2 : Nat) (bs : List Bool) : Prop where
  bel : Below w.heap.size w wr
  reg : Blk wr x 25 #[.int .i64 W, .int .i64 T, .slice A2 bs.length c2]
  own : RegAt wr w.heap.size (.slice A2 bs.length c2) bs
section
variable {w wr w2 : World} {x : Nat} {W T : Int} {A2 : Option Addr} {c2 : Nat} {bs : List Bool}
theorem LS.below (h : LS w wr x W T A2 c2 bs) (hb : Below wr.heap.size wr w2) : LS w w2 x W T A2 c2 bs :=
  ⟨h.bel.trans (hb.mono h.bel.size), h.reg.below hb h.reg.lt, own_below h.own.1 hb (Nat.le_refl _), h.own.2⟩
theorem LS.start (hb : Below w.heap.size w wr) (ho : RegAt wr w.heap.size (.slice A2 bs.length c2) bs) : LS w (wr.alloc (.cells #[.int .i64 W, .int .i64 T, .slice A2 bs.length c2] 25)) wr.heap.size W T A2 c2 bs :=
  ⟨hb.alloc hb.size _, Blk.new _ _ _, ho.1.alloc _, ho.2⟩
theorem LS.rd (h : LS w wr x W T A2 c2 bs) : Reads wr wr.heap.size 1 A2 bs.length (bs.map Value.bool) := Reads.of_own h.own.1
theorem LS.len (h : LS w wr x W T A2 c2 bs) : bs.length ≤ 64 := h.own.2
theorem LS.cells (h : LS w wr x W T A2 c2 bs) : wr.cell? ⟨x, 0, none⟩ = some (.int .i64 W) ∧ wr.cell? ⟨x, 1, none⟩ = some (.int .i64 T) ∧ wr.cell? ⟨x, 2, none⟩ = some (.slice A2 bs.length c2) := by
  have a0 := h.reg.cell 0
  have a1 := h.reg.cell 1
  have a2 := h.reg.cell 2
  simp at a0 a1 a2
  exact ⟨a0, a1, a2⟩
end
/-- A list of a law. -/
abbrev LI (w wr : World) (D : Option Addr) (d : Nat) (L : List Int) : Prop := LiAt wr w.heap.size (.slice D L.length d) L
section
variable {w wr w2 : World} {D : Option Addr} {d d' : Nat} {L : List Int}
theorem LI.below (h : LI w wr D d L) (hb : Below wr.heap.size wr w2) : LI w w2 D d L := LiAt.below h hb
theorem LI.rd (h : LI w wr D d L) : Reads wr wr.heap.size 1 D L.length (L.map (Value.int .i64)) := by
  obtain ⟨A, c1, c3, e, ho⟩ := h
  simp only [Value.slice.injEq] at e
  obtain ⟨rfl, _, rfl⟩ := e
  exact Reads.of_own ho
theorem LI.plain (h : LI w wr D d L) : Plain D := by
  obtain ⟨A, c1, c3, e, ho⟩ := h
  simp only [Value.slice.injEq] at e
  obtain ⟨rfl, _, rfl⟩ := e
  rcases ho.2 with ⟨e, _⟩ | ⟨g, cap, cur, e, _⟩
  · simp only [Value.slice.injEq] at e
    exact .inl e.1
  · simp only [Value.slice.injEq] at e
    exact .inr ⟨g, 0, e.1⟩
theorem LI.of (hb : w.heap.size ≤ wr.heap.size) (h : w2.ownsRow wr.heap.size 3 1 (.slice D L.length d) L.length (L.map (Value.int .i64))) : LI w w2 D d' L := ⟨D, d', d, rfl, own_mono h hb⟩
theorem LI.cell (h : LI w wr D d L) {k : Nat} (hk : k < L.length) : ∃ gl, D = some ⟨gl, 0, none⟩ ∧ wr.cell? ⟨gl, k, none⟩ = some (.int .i64 (L.getD k 0)) := by
  obtain ⟨A, c1, c3, e, ho⟩ := h
  simp only [Value.slice.injEq] at e
  obtain ⟨rfl, _, rfl⟩ := e
  obtain ⟨g, cg, hs, _⟩ := own_shape ho (by omega)
  simp only [Value.slice.injEq, true_and] at hs
  obtain ⟨rfl, rfl⟩ := hs
  refine ⟨g, rfl, (ho.cellAt k (by omega)).trans ?_⟩
  rw [List.getElem?_map, List.getD_eq_getElem?_getD, List.getElem?_eq_getElem hk]; rfl
end
theorem beq_self_list (a : List Int) : (a == a) = true := by simp

end Go.Proofs.YtpeifojfpkkcpaaGreat

/-
  YtpeifojfpkkcpaaGreatHl: HeightsLow: the program's and the reference's.
-/
namespace Go.Proofs.YtpeifojfpkkcpaaGreat
open Go.RowKit




end Go.Proofs.YtpeifojfpkkcpaaGreat

/-
  YtpeifojfpkkcpaaGreatHh: HeightsHigh: the program's and the reference's.
-/
namespace Go.Proofs.YtpeifojfpkkcpaaGreat
open Go.RowKit




end Go.Proofs.YtpeifojfpkkcpaaGreat

/-
  YtpeifojfpkkcpaaGreatQ3: right heights, told by sides; the tiling that by computes of them. Plain Lean.
-/
namespace Go.Proofs.YtpeifojfpkkcpaaGreat

theorem sdOf_0 (R : Reg) (x y : Nat) : sdOf R x y 0 = ⟨(R.ci x y : Nat), ((R.ci x y : Nat) : Int) + 1, x, y, x, (y : Int) - 1⟩ := rfl
theorem sdOf_1 (R : Reg) (x y : Nat) : sdOf R x y 1 = ⟨(R.ci x y : Nat), ((R.ci x y : Nat) : Int) + ((R.W : Int) + 1), (x : Int) - 1, y, x, y⟩ := rfl
theorem used_e' {R : Reg} {x y : Nat} : usedOf R x y 0 = true ↔ (R.at x y = true ∨ R.at x ((y : Int) - 1) = true) := by rw [used_e, Bool.or_eq_true]
theorem used_n' {R : Reg} {x y : Nat} : usedOf R x y 1 = true ↔ (R.at x y = true ∨ R.at ((x : Int) - 1) y = true) := by rw [used_n, Bool.or_eq_true, or_comm]
theorem sd_e {R : Reg} (hR : R.ok) {x y : Nat} (hx : x ≤ R.W) (hy : y ≤ R.T) (h : R.at x y = true ∨ R.at x ((y : Int) - 1) = true) :
    ∃ k, k < (sidesOf R).length ∧ (sidesOf R)[k]? = some (sdOf R x y 0) ∧ SdAt R (sdOf R x y 0) (R.ci x y) (R.ci (x + 1) y) ∧ x < R.W := by
  have hk := sdOf_at hx hy (t := 0) (by omega) (used_e'.2 h)
  exact ⟨_, (List.getElem?_eq_some_iff.1 hk).1, hk, (sideE_at hR hy h).2, (sideE_at hR hy h).1⟩
theorem sd_n {R : Reg} (hR : R.ok) {x y : Nat} (hx : x ≤ R.W) (hy : y ≤ R.T) (h : R.at x y = true ∨ R.at ((x : Int) - 1) y = true) :
    ∃ k, k < (sidesOf R).length ∧ (sidesOf R)[k]? = some (sdOf R x y 1) ∧ SdAt R (sdOf R x y 1) (R.ci x y) (R.ci x (y + 1)) ∧ y < R.T := by
  have hk := sdOf_at hx hy (t := 1) (by omega) (used_n'.2 h)
  exact ⟨_, (List.getElem?_eq_some_iff.1 hk).1, hk, (sideN_at hR hx h).2, (sideN_at hR hx h).1⟩
/-- Each side is one to the east or one to the north. -/
theorem sd_cases {R : Reg} {k : Nat} {s : Sd} (hs : (sidesOf R)[k]? = some s) : ∃ x y : Nat, x ≤ R.W ∧ y ≤ R.T ∧
    (((R.at x y = true ∨ R.at x ((y : Int) - 1) = true) ∧ s = sdOf R x y 0) ∨ ((R.at x y = true ∨ R.at ((x : Int) - 1) y = true) ∧ s = sdOf R x y 1)) := by
  obtain ⟨x, y, hx, hy, _, h⟩ := mem_sides (List.mem_of_getElem? hs) (Nat.le_refl _)
  rcases h with h | h
  · obtain ⟨hu, rfl⟩ := sideE_mem h
    exact ⟨x, y, hx, hy, .inl ⟨hu, rfl⟩⟩
  · obtain ⟨hu, rfl⟩ := sideN_mem h
    exact ⟨x, y, hx, hy, .inr ⟨hu, rfl⟩⟩

theorem usedC_cu {R : Reg} (hR : R.ok) {x y : Nat} (hx : x ≤ R.W) (hy : y ≤ R.T) : UsedC R (R.ci x y) ↔ R.cu x y = true := by
  constructor
  · rintro ⟨j, s, hj, hs, e⟩
    obtain ⟨x', y', hx', hy', h⟩ := sd_cases hs
    rcases h with ⟨hu, rfl⟩ | ⟨hu, rfl⟩
    · obtain ⟨_, _, _, ha, hlt⟩ := sd_e hR hx' hy' hu
      rw [ha.fe, ha.te] at e
      have hc := cu_e hu
      rcases e with e | e
      · obtain ⟨rfl, rfl⟩ := ci_inj hx' hx (Int.ofNat.inj e)
        exact hc.1
      · obtain ⟨rfl, rfl⟩ := ci_inj (by omega) hx (Int.ofNat.inj e)
        exact hc.2
    · obtain ⟨_, _, _, ha, hlt⟩ := sd_n hR hx' hy' hu
      rw [ha.fe, ha.te] at e
      have hc := cu_n hu
      rcases e with e | e
      · obtain ⟨rfl, rfl⟩ := ci_inj hx' hx (Int.ofNat.inj e)
        exact hc.1
      · obtain ⟨rfl, rfl⟩ := ci_inj hx' hx (Int.ofNat.inj e)
        exact hc.2
  · intro hu
    rcases cu_cases hu with h | h | h | h
    · obtain ⟨k, hk, hs, ha, _⟩ := sd_e hR hx hy (.inl h)
      exact ⟨k, _, hk, hs, .inl ha.fe⟩
    · obtain ⟨k, hk, hs, ha, _⟩ := sd_n hR hx hy (.inr h)
      exact ⟨k, _, hk, hs, .inl ha.fe⟩
    · obtain ⟨k, hk, hs, ha, _⟩ := sd_e hR hx hy (.inr h)
      exact ⟨k, _, hk, hs, .inl ha.fe⟩
    · obtain ⟨a, b, e1, e2, ha', hb', _⟩ := at_cell hR h
      obtain rfl : y = b + 1 := by omega
      rw [show ((b + 1 : Nat) : Int) - 1 = (b : Int) by omega] at h
      obtain ⟨k, hk, hs, ha, _⟩ := sd_n hR hx (y := b) (by omega) (.inr h)
      exact ⟨k, _, hk, hs, .inr ha.te⟩

theorem sdD_ht {R : Reg} {H : List Int} {x y x' y' : Nat} (h : -60 ≤ R.ht H x y ∧ R.ht H x y ≤ 60) (h' : -60 ≤ R.ht H x' y' ∧ R.ht H x' y' ≤ 60) : sdD H (R.ci x y) (R.ci x' y') = R.ht H x' y' - R.ht H x y := sdD_in h h'
theorem sdOk_of {R : Reg} {H : List Int} {s : Sd} {f t : Nat} (ha : SdAt R s f t) : SdOk R H s ↔ (sdD H f t = sg s.lx s.ly ∨ (R.inn s = true ∧ sdD H f t = -3 * sg s.lx s.ly)) := by
  unfold SdOk
  rw [ha.fe, ha.te]; rfl
theorem byUp_of {R : Reg} {H : List Int} {s : Sd} {f t : Nat} (ha : SdAt R s f t) : ByUp R H s ↔ (R.inn s = true ∧ (sdD H f t = 3 ∨ sdD H f t = -3)) := by
  unfold ByUp
  rw [ha.fe, ha.te]; rfl
theorem inn_e {R : Reg} {x y : Nat} : R.inn (sdOf R x y 0) = true ↔ (R.at x y = true ∧ R.at x ((y : Int) - 1) = true) := by
  unfold Reg.inn
  rw [Bool.and_eq_true, sdOf_0]
theorem inn_n {R : Reg} {x y : Nat} : R.inn (sdOf R x y 1) = true ↔ (R.at ((x : Int) - 1) y = true ∧ R.at x y = true) := by
  unfold Reg.inn
  rw [Bool.and_eq_true, sdOf_1]

theorem hok_of_hp {R : Reg} (hR : R.ok) (hS : SimpleP R) {H : List Int} (h : HP R H) : HOk R H := by
  have bd : ∀ {x y : Nat}, R.cu x y = true → -60 ≤ R.ht H x y ∧ R.ht H x y ≤ 60 := fun hu => by have := hp_bd hR hS.1 h hu; omega
  obtain ⟨x0, y0, h0⟩ := first_ex hR hS.1
  refine ⟨h.len, fun k s hk hs => ?_, fun i hi hu => ?_, fun i hi hu => ?_, fun i hi hf => ?_⟩
  · obtain ⟨x, y, hx, hy, hc⟩ := sd_cases hs
    rcases hc with ⟨hu, rfl⟩ | ⟨hu, rfl⟩
    · obtain ⟨_, _, _, ha, hlt⟩ := sd_e hR hx hy hu
      rw [sdOk_of ha, sdD_ht (bd (cu_e hu).1) (bd (cu_e hu).2), inn_e, sdOf_0]
      rcases h.e x y hlt hy hu with h | ⟨h1, h2, h⟩
      · exact .inl (by simp only; omega)
      · exact .inr ⟨⟨h1, h2⟩, by simp only; omega⟩
    · obtain ⟨_, _, _, ha, hlt⟩ := sd_n hR hx hy hu
      rw [sdOk_of ha, sdD_ht (bd (cu_n hu).1) (bd (cu_n hu).2), inn_n, sdOf_1]
      rcases h.n x y hx hlt hu with h | ⟨h1, h2, h⟩
      · exact .inl (by simp only; omega)
      · exact .inr ⟨⟨h2, h1⟩, by simp only; omega⟩
  · obtain ⟨h1, h2⟩ := ci_in hi
    have := bd ((usedC_cu hR h1 h2).1 (by rw [ci_of]; exact hu))
    unfold Reg.ht at this
    rwa [ci_of] at this
  · obtain ⟨h1, h2⟩ := ci_in hi
    have hc : R.cu ((i % (R.W + 1) : Nat) : Int) ((i / (R.W + 1) : Nat) : Int) = false := by
      cases hc : R.cu ((i % (R.W + 1) : Nat) : Int) ((i / (R.W + 1) : Nat) : Int) with
      | false => rfl
      | true => exact absurd (by have := (usedC_cu hR h1 h2).2 hc; rwa [ci_of] at this) hu
    have := h.no _ _ h1 h2 hc
    unfold Reg.ht at this
    rwa [ci_of] at this
  · obtain rfl := firstU_one hf (first_u hR h0)
    exact h.first _ _ h0
theorem hp_of_hok {R : Reg} (hR : R.ok) {H : List Int} (h : HOk R H) : HP R H := by
  have bd : ∀ {x y : Nat}, x ≤ R.W → y ≤ R.T → R.cu x y = true → -60 ≤ R.ht H x y ∧ R.ht H x y ≤ 60 := fun hx hy hu => h.rng _ (ci_lt hx hy) ((usedC_cu hR hx hy).2 hu)
  refine ⟨h.len, fun x y hx hy hu => h.no _ (ci_lt hx hy) fun hc => (by rw [(usedC_cu hR hx hy).1 hc] at hu; cases hu), fun x y h0 => h.fst _ (ci_lt h0.1 h0.2.1) (first_u hR h0), fun x y hx hy hu => ?_, fun x y hx hy hu => ?_⟩
  · obtain ⟨k, hk, hs, ha, _⟩ := sd_e hR (by omega) hy hu
    have := (sdOk_of ha).1 (h.sd k _ hk hs)
    rw [sdD_ht (bd (by omega) hy (cu_e hu).1) (bd (by omega) hy (cu_e hu).2), inn_e, sdOf_0] at this
    simp only at this
    rcases this with h | ⟨⟨h1, h2⟩, h⟩
    · exact .inl (by omega)
    · exact .inr ⟨h1, h2, by omega⟩
  · obtain ⟨k, hk, hs, ha, _⟩ := sd_n hR hx (by omega) hu
    have := (sdOk_of ha).1 (h.sd k _ hk hs)
    rw [sdD_ht (bd hx (by omega) (cu_n hu).1) (bd hx (by omega) (cu_n hu).2), inn_n, sdOf_1] at this
    simp only at this
    rcases this with h | ⟨⟨h1, h2⟩, h⟩
    · exact .inl (by omega)
    · exact .inr ⟨h2, h1, by omega⟩
theorem hok_iff {R : Reg} (hR : R.ok) (hS : SimpleP R) {H : List Int} : HOk R H ↔ HP R H := ⟨hp_of_hok hR, hok_of_hp hR hS⟩

/-! ### by -/
theorem bySet_no {R : Reg} {a b : Nat} {L : List Int} {way : Nat} (h : R.step a (way : Int) ≠ (b : Int)) : bySet R a b L way = L := if_neg h
theorem bySet_yes {R : Reg} {a b : Nat} {L : List Int} {way : Nat} (h : R.step a (way : Int) = (b : Int)) : bySet R a b L way = (L.set a way).set b (back way) := if_pos h
theorem byWays_e {R : Reg} {x y : Nat} (hx : x + 1 < R.W) (L : List Int) : byWays R (y * R.W + x) (y * R.W + (x + 1)) L 4 = (L.set (y * R.W + x) 1).set (y * R.W + (x + 1)) 3 := by
  have hm := mk_mod (x := x) y (show x < R.W by omega)
  have hd := mk_div (x := x) y (show x < R.W by omega)
  have e : ∀ way : Nat, way ≠ 1 → R.step (y * R.W + x) (way : Int) ≠ ((y * R.W + (x + 1) : Nat) : Int) := by
    intro way hw h
    rcases step_cases h with ⟨h1, _⟩ | ⟨_, _, h⟩ | ⟨_, _, h⟩ | ⟨_, _, h⟩ <;> omega
  have e1 : R.step (y * R.W + x) ((1 : Nat) : Int) = ((y * R.W + (x + 1) : Nat) : Int) := by
    show R.step (y * R.W + x) 1 = _
    rw [Reg.step, if_pos rfl, hm, if_pos hx]; omega
  show bySet R _ _ (bySet R _ _ (bySet R _ _ (bySet R _ _ L 1) 2) 3) 4 = _
  rw [bySet_no (e 4 (by omega)), bySet_no (e 3 (by omega)), bySet_no (e 2 (by omega)), bySet_yes e1]; rfl
theorem byWays_s {R : Reg} (hR : R.ok) {x y : Nat} (hx : x < R.W) (L : List Int) : byWays R ((y + 1) * R.W + x) (y * R.W + x) L 4 = (L.set ((y + 1) * R.W + x) 4).set (y * R.W + x) 2 := by
  have hm := mk_mod (x := x) (y + 1) hx
  have hd := mk_div (x := x) (y + 1) hx
  have hW := hR.1
  have hmul : (y + 1) * R.W = y * R.W + R.W := by rw [Nat.add_mul, Nat.one_mul]
  have e : ∀ way : Nat, way ≠ 4 → R.step ((y + 1) * R.W + x) (way : Int) ≠ ((y * R.W + x : Nat) : Int) := by
    intro way hw h
    rcases step_cases h with ⟨h1, _, h⟩ | ⟨_, _, h⟩ | ⟨_, h0, h⟩ | ⟨h1, _, h⟩ <;> omega
  have e4 : R.step ((y + 1) * R.W + x) ((4 : Nat) : Int) = ((y * R.W + x : Nat) : Int) := by
    show R.step ((y + 1) * R.W + x) 4 = _
    rw [Reg.step, if_neg (by omega), if_neg (by omega), if_neg (by omega), if_pos rfl, hd, if_pos (by omega)]; omega
  show bySet R _ _ (bySet R _ _ (bySet R _ _ (bySet R _ _ L 1) 2) 3) 4 = _
  rw [bySet_yes e4, bySet_no (e 3 (by omega)), bySet_no (e 2 (by omega)), bySet_no (e 1 (by omega))]; rfl

/-- What a side with a jump sets. -/
theorem up_set {R : Reg} (hR : R.ok) (hS : SimpleP R) {H : List Int} (h : HP R H) {k : Nat} {s : Sd} (hs : (sidesOf R)[k]? = some s) (hup : ByUp R H s) :
    ∃ a b : Nat, a ≠ b ∧ a < R.C.length ∧ b < R.C.length ∧ (s.ly * R.W + s.lx).toNat = a ∧ (s.ry * R.W + s.rx).toNat = b ∧ ∀ L, byS R H L s = (L.set a ((tilH R H).getD a 0)).set b ((tilH R H).getD b 0) := by
  have bd : ∀ {x y : Nat}, R.cu x y = true → -60 ≤ R.ht H x y ∧ R.ht H x y ≤ 60 := fun hu => by have := hp_bd hR hS.1 h hu; omega
  obtain ⟨x, y, hx, hy, hc⟩ := sd_cases hs
  rcases hc with ⟨hu, rfl⟩ | ⟨hu, rfl⟩
  · obtain ⟨_, _, _, ha, hlt⟩ := sd_e hR hx hy hu
    have hup' := (byUp_of ha).1 hup
    rw [sdD_ht (bd (cu_e hu).1) (bd (cu_e hu).2), inn_e] at hup'
    obtain ⟨⟨c1, c2⟩, hd⟩ := hup'
    obtain ⟨a', b, e1, e2, hxa, hb, _⟩ := at_cell hR c2
    obtain rfl : x = a' := by omega
    obtain rfl : y = b + 1 := by omega
    rw [show ((b + 1 : Nat) : Int) - 1 = (b : Int) by omega] at c2
    obtain ⟨a', b', e1, e2, _, hb', _⟩ := at_cell hR c1
    have hby : b + 1 < R.T := by omega
    have hs1 := sg_or x ((b + 1 : Nat) : Int)
    have he := h.e x (b + 1) hlt hy hu
    have w1 := (wayH_at h hlt hby c1).s.2 (by rcases he with he | ⟨_, _, he⟩ <;> omega)
    have s2 : sg x ((b + 1 : Nat) : Int) = - sg x b := by rw [show ((b + 1 : Nat) : Int) = (b : Int) + 1 by omega, sg_n]
    have w2 := (wayH_at h hlt hb c2).n.2 (by rcases he with he | ⟨_, _, he⟩ <;> omega)
    have t1 := way_tilH_at hR (H := H) c1
    have t2 := way_tilH_at hR (H := H) c2
    rw [way_in hlt hby, w1] at t1
    rw [way_in hlt hb, w2] at t2
    have i1 : ((sdOf R x (b + 1) 0).ly * R.W + (sdOf R x (b + 1) 0).lx).toNat = (b + 1) * R.W + x := by
      rw [sdOf_0]
      show ((((b + 1 : Nat) : Int)) * (R.W : Int) + (x : Int)).toNat = _
      have : (((b + 1 : Nat) : Int)) * (R.W : Int) + (x : Int) = (((b + 1) * R.W + x : Nat) : Int) := by simp
      rw [this]; rfl
    have i2 : ((sdOf R x (b + 1) 0).ry * R.W + (sdOf R x (b + 1) 0).rx).toNat = b * R.W + x := by
      rw [sdOf_0]
      show (((((b + 1 : Nat) : Int)) - 1) * (R.W : Int) + (x : Int)).toNat = _
      have : ((((b + 1 : Nat) : Int)) - 1) * (R.W : Int) + (x : Int) = ((b * R.W + x : Nat) : Int) := by rw [show (((b + 1 : Nat) : Int)) - 1 = (b : Int) by omega]; simp
      rw [this]; rfl
    refine ⟨_, _, ?_, idx_lt hR hlt hby, idx_lt hR hlt hb, i1, i2, fun L => ?_⟩
    · have := hR.1
      rw [Nat.add_mul]; omega
    · rw [byS_yes hup, i1, i2, byWays_s hR hlt, t1, t2]
  · obtain ⟨_, _, _, ha, hlt⟩ := sd_n hR hx hy hu
    have hup' := (byUp_of ha).1 hup
    rw [sdD_ht (bd (cu_n hu).1) (bd (cu_n hu).2), inn_n] at hup'
    obtain ⟨⟨c2, c1⟩, hd⟩ := hup'
    obtain ⟨a, b', e1, e2, hxa, hb, _⟩ := at_cell hR c2
    obtain rfl : x = a + 1 := by omega
    rw [show ((a + 1 : Nat) : Int) - 1 = (a : Int) by omega] at c2
    obtain ⟨a', b', e1, e2, hxa', hb', _⟩ := at_cell hR c1
    have hax : a + 1 < R.W := by omega
    have he := h.n (a + 1) y hx hlt hu
    rw [show ((a + 1 : Nat) : Int) - 1 = (a : Int) by omega] at he
    have hs1 := sg_or a y
    have w1 := (wayH_at h (show a < R.W by omega) hlt c2).e.2 (by rcases he with he | ⟨_, _, he⟩ <;> omega)
    have s2 : sg ((a + 1 : Nat) : Int) y = - sg a y := by rw [show ((a + 1 : Nat) : Int) = (a : Int) + 1 by omega, sg_e]
    have w2 := (wayH_at h hax hlt c1).w.2 (by rcases he with he | ⟨_, _, he⟩ <;> omega)
    have t1 := way_tilH_at hR (H := H) c2
    have t2 := way_tilH_at hR (H := H) c1
    rw [way_in (show a < R.W by omega) hlt, w1] at t1
    rw [way_in hax hlt, w2] at t2
    have i1 : ((sdOf R (a + 1) y 1).ly * R.W + (sdOf R (a + 1) y 1).lx).toNat = y * R.W + a := by
      rw [sdOf_1]
      show (((y : Nat) : Int) * (R.W : Int) + (((a + 1 : Nat) : Int) - 1)).toNat = _
      have : ((y : Nat) : Int) * (R.W : Int) + (((a + 1 : Nat) : Int) - 1) = ((y * R.W + a : Nat) : Int) := by rw [show ((a + 1 : Nat) : Int) - 1 = (a : Int) by omega]; simp
      rw [this]; rfl
    have i2 : ((sdOf R (a + 1) y 1).ry * R.W + (sdOf R (a + 1) y 1).rx).toNat = y * R.W + (a + 1) := by
      rw [sdOf_1]
      show (((y : Nat) : Int) * (R.W : Int) + ((a + 1 : Nat) : Int)).toNat = _
      have : ((y : Nat) : Int) * (R.W : Int) + ((a + 1 : Nat) : Int) = ((y * R.W + (a + 1) : Nat) : Int) := by simp
      rw [this]; rfl
    refine ⟨_, _, ?_, idx_lt hR (by omega) hlt, idx_lt hR hax hlt, i1, i2, fun L => ?_⟩
    · omega
    · rw [byS_yes hup, i1, i2, byWays_e hax, t1, t2]

theorem byTo_inv {R : Reg} (hR : R.ok) (hS : SimpleP R) {H : List Int} (h : HP R H) : ∀ k, k ≤ (sidesOf R).length →
    (∀ c, (byTo R H k).getD c 0 = 0 ∨ (byTo R H k).getD c 0 = (tilH R H).getD c 0) ∧
    ∀ (j : Nat) s, j < k → (sidesOf R)[j]? = some s → ByUp R H s → (byTo R H k).getD (s.ly * R.W + s.lx).toNat 0 = (tilH R H).getD (s.ly * R.W + s.lx).toNat 0 ∧ (byTo R H k).getD (s.ry * R.W + s.rx).toNat 0 = (tilH R H).getD (s.ry * R.W + s.rx).toNat 0 := by
  intro k
  induction k with
  | zero =>
    intro _
    refine ⟨fun c => .inl ?_, fun j s hj => by omega⟩
    simp only [byTo, List.take_zero, List.foldl_nil, List.getD_eq_getElem?_getD, List.getElem?_replicate]
    split <;> rfl
  | succ k ih =>
    intro hk
    obtain ⟨i1, i2⟩ := ih (by omega)
    obtain ⟨s, hs⟩ : ∃ s, (sidesOf R)[k]? = some s := ⟨_, List.getElem?_eq_getElem (by omega)⟩
    rw [byTo_succ hs]
    have hl := byTo_len R H k
    by_cases hup : ByUp R H s
    · obtain ⟨a, b, hne, ha, hb, ea, eb, hset⟩ := up_set hR hS h hs hup
      rw [hset]
      have gd : ∀ c, (((byTo R H k).set a ((tilH R H).getD a 0)).set b ((tilH R H).getD b 0)).getD c 0 = if b = c then (tilH R H).getD b 0 else if a = c then (tilH R H).getD a 0 else (byTo R H k).getD c 0 := by
        intro c
        rw [getD_set (by simp; omega), getD_set (by omega)]
      refine ⟨fun c => ?_, fun j s' hj hjs hup' => ?_⟩
      · rw [gd]
        split
        · rename_i e; subst e; exact .inr rfl
        · split
          · rename_i e; subst e; exact .inr rfl
          · exact i1 c
      · have fin : ∀ c, (byTo R H k).getD c 0 = (tilH R H).getD c 0 ∨ c = a ∨ c = b → (if b = c then (tilH R H).getD b 0 else if a = c then (tilH R H).getD a 0 else (byTo R H k).getD c 0) = (tilH R H).getD c 0 := by
          intro c hc
          split
          · rename_i e; rw [e]
          · split
            · rename_i e; rw [e]
            · rcases hc with hc | hc | hc
              · exact hc
              · omega
              · omega
        rw [gd, gd]
        by_cases hjk : j = k
        · subst hjk
          rw [hs] at hjs
          injection hjs with hjs
          subst hjs
          exact ⟨fin _ (.inr (.inl ea)), fin _ (.inr (.inr eb))⟩
        · obtain ⟨k1, k2⟩ := i2 j s' (by omega) hjs hup'
          exact ⟨fin _ (.inl k1), fin _ (.inl k2)⟩
    · rw [byS_no hup]
      refine ⟨i1, fun j s' hj hjs hup' => ?_⟩
      by_cases hjk : j = k
      · subst hjk
        rw [hs] at hjs
        injection hjs with hjs
        subst hjs
        exact absurd hup' hup
      · exact i2 j s' (by omega) hjs hup'

/-- What by computes of right heights. -/
theorem byTo_til {R : Reg} (hR : R.ok) (hS : SimpleP R) {H : List Int} (h : HP R H) : byTo R H (sidesOf R).length = tilH R H := by
  have bd : ∀ {x y : Nat}, R.cu x y = true → -60 ≤ R.ht H x y ∧ R.ht H x y ≤ 60 := fun hu => by have := hp_bd hR hS.1 h hu; omega
  obtain ⟨i1, i2⟩ := byTo_inv hR hS h _ (Nat.le_refl _)
  have hT := lay_tilH hR h
  have key : ∀ x y : Nat, x < R.W → y < R.T → (byTo R H (sidesOf R).length).getD (y * R.W + x) 0 = (tilH R H).getD (y * R.W + x) 0 := by
    intro x y hx hy
    by_cases hc : R.at x y = true
    · have hW := wayH_at h hx hy hc
      have ht := way_tilH_at hR (H := H) hc
      have hlo := hW.lo
      have hhi := hW.hi
      have hs := sg_or x y
      have h4 : wayH R H x y = 1 ∨ wayH R H x y = 2 ∨ wayH R H x y = 3 ∨ wayH R H x y = 4 := by omega
      rcases h4 with hw | hw | hw | hw
      · have hd := hW.e.1 hw
        have hc2 := hT.at_ _ _ (by rw [(hT.hor x y).1 (by rw [ht, hw])]; decide)
        have hu : R.at ((x + 1 : Nat) : Int) y = true ∨ R.at (((x + 1 : Nat) : Int) - 1) y = true := .inl hc2
        obtain ⟨k, hk, hks, ha, _⟩ := sd_n hR (x := x + 1) (y := y) (by omega) (by omega) hu
        have hup : ByUp R H (sdOf R (x + 1) y 1) := (byUp_of ha).2 ⟨inn_n.2 ⟨by rw [show ((x + 1 : Nat) : Int) - 1 = (x : Int) by omega]; exact hc, hc2⟩, by rw [sdD_ht (bd (cu_n hu).1) (bd (cu_n hu).2)]; omega⟩
        have := (i2 k _ hk hks hup).1
        have e : ((sdOf R (x + 1) y 1).ly * R.W + (sdOf R (x + 1) y 1).lx).toNat = y * R.W + x := by
          rw [sdOf_1]
          show (((y : Nat) : Int) * (R.W : Int) + (((x + 1 : Nat) : Int) - 1)).toNat = _
          have : ((y : Nat) : Int) * (R.W : Int) + (((x + 1 : Nat) : Int) - 1) = ((y * R.W + x : Nat) : Int) := by rw [show ((x + 1 : Nat) : Int) - 1 = (x : Int) by omega]; simp
          rw [this]; rfl
        rwa [e] at this
      · have hd := hW.n.1 hw
        have hc2 := hT.at_ _ _ (by rw [(hT.ver x y).1 (by rw [ht, hw])]; decide)
        have hu : R.at x ((y + 1 : Nat) : Int) = true ∨ R.at x (((y + 1 : Nat) : Int) - 1) = true := .inl hc2
        obtain ⟨k, hk, hks, ha, _⟩ := sd_e hR (x := x) (y := y + 1) (by omega) (by omega) hu
        have hup : ByUp R H (sdOf R x (y + 1) 0) := (byUp_of ha).2 ⟨inn_e.2 ⟨hc2, by rw [show ((y + 1 : Nat) : Int) - 1 = (y : Int) by omega]; exact hc⟩, by rw [sdD_ht (bd (cu_e hu).1) (bd (cu_e hu).2)]; omega⟩
        have := (i2 k _ hk hks hup).2
        have e : ((sdOf R x (y + 1) 0).ry * R.W + (sdOf R x (y + 1) 0).rx).toNat = y * R.W + x := by
          rw [sdOf_0]
          show ((((y + 1 : Nat) : Int) - 1) * (R.W : Int) + (x : Int)).toNat = _
          have : (((y + 1 : Nat) : Int) - 1) * (R.W : Int) + (x : Int) = ((y * R.W + x : Nat) : Int) := by rw [show ((y + 1 : Nat) : Int) - 1 = (y : Int) by omega]; simp
          rw [this]; rfl
        rwa [e] at this
      · have hd := hW.w.1 hw
        have hc2 := hT.at_ _ _ (by rw [(hT.hor ((x : Int) - 1) y).2 (by rw [show (x : Int) - 1 + 1 = x by omega, ht, hw])]; decide)
        have hu : R.at x y = true ∨ R.at ((x : Int) - 1) y = true := .inl hc
        obtain ⟨k, hk, hks, ha, _⟩ := sd_n hR (x := x) (y := y) (by omega) (by omega) hu
        have hup : ByUp R H (sdOf R x y 1) := (byUp_of ha).2 ⟨inn_n.2 ⟨hc2, hc⟩, by rw [sdD_ht (bd (cu_n hu).1) (bd (cu_n hu).2)]; omega⟩
        have := (i2 k _ hk hks hup).2
        have e : ((sdOf R x y 1).ry * R.W + (sdOf R x y 1).rx).toNat = y * R.W + x := by
          rw [sdOf_1]
          show (((y : Nat) : Int) * (R.W : Int) + (x : Int)).toNat = _
          have : ((y : Nat) : Int) * (R.W : Int) + (x : Int) = ((y * R.W + x : Nat) : Int) := by simp
          rw [this]; rfl
        rwa [e] at this
      · have hd := hW.s.1 hw
        have hc2 := hT.at_ _ _ (by rw [(hT.ver x ((y : Int) - 1)).2 (by rw [show (y : Int) - 1 + 1 = y by omega, ht, hw])]; decide)
        have hu : R.at x y = true ∨ R.at x ((y : Int) - 1) = true := .inl hc
        obtain ⟨k, hk, hks, ha, _⟩ := sd_e hR (x := x) (y := y) (by omega) (by omega) hu
        have hup : ByUp R H (sdOf R x y 0) := (byUp_of ha).2 ⟨inn_e.2 ⟨hc, hc2⟩, by rw [sdD_ht (bd (cu_e hu).1) (bd (cu_e hu).2)]; omega⟩
        have := (i2 k _ hk hks hup).1
        have e : ((sdOf R x y 0).ly * R.W + (sdOf R x y 0).lx).toNat = y * R.W + x := by
          rw [sdOf_0]
          show (((y : Nat) : Int) * (R.W : Int) + (x : Int)).toNat = _
          have : ((y : Nat) : Int) * (R.W : Int) + (x : Int) = ((y * R.W + x : Nat) : Int) := by simp
          rw [this]; rfl
        rwa [e] at this
    · have h0 : (tilH R H).getD (y * R.W + x) 0 = 0 := by
        have := way_tilH hR H hx hy
        rw [if_neg hc, way_in hx hy] at this
        exact this
      rw [h0]
      rcases i1 (y * R.W + x) with h | h
      · exact h
      · rw [h, h0]
  apply List.ext_getElem (by rw [byTo_len, tilH_len])
  intro i hi hi'
  obtain ⟨hx, hy⟩ := xy_lt hR (c := i) (by rw [byTo_len] at hi; exact hi)
  have := key _ _ hx hy
  rw [xy_eq] at this
  simpa [List.getD_eq_getElem?_getD, List.getElem?_eq_getElem hi, List.getElem?_eq_getElem hi'] using this

/-! ### The low and the high one of two tilings -/
theorem htsOf_til {R : Reg} (hR : R.ok) (hS : SimpleP R) {H : List Int} (h : HP R H) : htsOf R.W R.T R.C (tilH R H) = H :=
  hts_one hR hS.1 (htsOf_yes hR hS (lay_tilH hR h) (full_tilH hR h)) (hts_tilH hR h)

end Go.Proofs.YtpeifojfpkkcpaaGreat

/-
  YtpeifojfpkkcpaaGreatTl: TilingLow and TilingHigh, of the program and of the reference.
-/
namespace Go.Proofs.YtpeifojfpkkcpaaGreat
open Go.RowKit


/-- What a choice of heights must keep. -/
def Keeps (f : Int → Int → Int) : Prop := ∀ {R : Reg} {H G : List Int}, R.ok → InConn R → HP R H → HP R G → HP R (List.zipWith f H G)
theorem keeps_min : Keeps min := fun hR hI h g => hp_min hR hI h g
theorem keeps_max : Keeps max := fun hR hI h g => hp_max hR hI h g

def PickAny (fv : Value) (f : Int → Int → Int) : Prop := ∀ (A D : Option Addr) (c d B : Nat) (L M : List Int) (n : Nat) (_ : L.length = n) (_ : M.length = n) (_ : n ≤ 1048576) (w : World) (_ : Reads w B 1 A n (L.map (Value.int .i64))) (_ : Reads w B 1 D n (M.map (Value.int .i64))) (_ : B ≤ w.heap.size),
  Calls Tryz.prog 31 #[.slice A n c, .slice D n d, fv] w (IntsRet w (List.zipWith f L M))


theorem pickLesser : PickAny (.func (.func 25) #[] #[]) min := fun A D c d B L M n h1 h2 h3 w h4 h5 h6 => pick_lesser A D c d B L M n h1 h2 h3 w h4 h5 h6
theorem pickGreater : PickAny (.func (.func 26) #[] #[]) max := fun A D c d B L M n h1 h2 h3 w h4 h5 h6 => pick_greater A D c d B L M n h1 h2 h3 w h4 h5 h6



/-! ### The reference -/



end Go.Proofs.YtpeifojfpkkcpaaGreat

/-
  YtpeifojfpkkcpaaGreatLa: what the property laws on heights and on the order say, of the values. Plain Lean.
-/
namespace Go.Proofs.YtpeifojfpkkcpaaGreat

theorem tiledB_tiling {W T : Int} {bs : List Bool} {L : List Int} (h : tiledB W T bs L = true) : tilingB W T bs L = true := by
  unfold tiledB at h; rw [Bool.and_eq_true] at h; exact h.2
theorem zip_getD {f : Int → Int → Int} {a b : List Int} {k : Nat} (ha : k < a.length) (hb : k < b.length) : (List.zipWith f a b).getD k 0 = f (a.getD k 0) (b.getD k 0) := by
  rw [List.getD_eq_getElem?_getD, List.getD_eq_getElem?_getD, List.getD_eq_getElem?_getD, List.getElem?_zipWith, List.getElem?_eq_getElem ha, List.getElem?_eq_getElem hb]
  rfl

/-! ### Two tilings of a simple region -/
theorem tiled_tile {R : Reg} (hR : R.ok) (hS : SimpleP R) {L : List Int} (h : Tile R L) : tiledB R.W R.T R.C L = true := (tiled_ok hR).2 ⟨hS, h.1, h.2⟩
theorem hts_len {R : Reg} (hR : R.ok) (hS : SimpleP R) {a : List Int} (ha : Tile R a) : (htsOf R.W R.T R.C a).length = R.cn := (hp_of_tile hR hS ha).len
/-- Below, by heights. -/
theorem below_iff {R : Reg} (hR : R.ok) (hS : SimpleP R) {a b : List Int} (ha : Tile R a) (hb : Tile R b) :
    belowB R.W R.T R.C a b = true ↔ ∀ k, k < R.cn → (htsOf R.W R.T R.C a).getD k 0 ≤ (htsOf R.W R.T R.C b).getD k 0 := by
  unfold belowB
  rw [tiled_tile hR hS ha, tiled_tile hR hS hb, Bool.true_and, Bool.true_and]
  unfold leB
  rw [List.all_eq_true, hts_len hR hS ha]
  constructor
  · intro h k hk
    exact of_decide_eq_true (h k (List.mem_range.2 hk))
  · intro h k hk
    exact decide_eq_true (h k (List.mem_range.1 hk))

end Go.Proofs.YtpeifojfpkkcpaaGreat

/-
  YtpeifojfpkkcpaaGreatLb: what the property laws on flips and on how far tilings are apart say, of the values. Plain Lean.
-/
namespace Go.Proofs.YtpeifojfpkkcpaaGreat

/-! ### A flip and back -/

/-! ### Sums of differences -/

end Go.Proofs.YtpeifojfpkkcpaaGreat

/-
  YtpeifojfpkkcpaaGreatLc: left out.
-/
namespace Go.Proofs.YtpeifojfpkkcpaaGreat

end Go.Proofs.YtpeifojfpkkcpaaGreat

/-
  YtpeifojfpkkcpaaGreatWy: left out.
-/
namespace Go.Proofs.YtpeifojfpkkcpaaGreat

end Go.Proofs.YtpeifojfpkkcpaaGreat
