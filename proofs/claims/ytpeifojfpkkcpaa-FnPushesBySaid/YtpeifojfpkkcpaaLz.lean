/-
  YtpeifojfpkkcpaaLz: the texts Si, Ls, Hl, Hh, Q3, Tl, La, Lb, Lc, Wy in one file.
-/
import Derived.Deep.RegionHeldLaw
import Derived.Deep.AppendLies
import Derived.Deep.RegionHeld3
import Derived.Test.YtpeifojfpkkcpaaHS
import Derived.Test.YtpeifojfpkkcpaaDq
import Derived.Test.YtpeifojfpkkcpaaRep
import Derived.Test.YtpeifojfpkkcpaaHkS
import Derived.Test.YtpeifojfpkkcpaaPk
import Derived.Test.YtpeifojfpkkcpaaMa
import Derived.Test.YtpeifojfpkkcpaaByS
import Derived.Test.YtpeifojfpkkcpaaFm
import Derived.Test.YtpeifojfpkkcpaaShelf
import Derived.Test.YtpeifojfpkkcpaaLay

/-
  YtpeifojfpkkcpaaSi: the laws' sameInts.
-/
namespace Go.Proofs.Ytpeifojfpkkcpaa
open Go.RowKit

theorem ints_ext {a b : List Int} (hl : a.length = b.length) (h : ∀ j, j < a.length → a.getD j 0 = b.getD j 0) : a = b := by
  apply List.ext_getElem hl
  intro j h1 h2
  have := h j h1
  rw [List.getD_eq_getElem?_getD, List.getD_eq_getElem?_getD, List.getElem?_eq_getElem h1, List.getElem?_eq_getElem h2] at this
  exact this

set_option maxHeartbeats 1000000 in
theorem sameInts_any (a b : List Int) (D1 D2 : Option Addr) (m1 d1 m2 d2 B : Nat) (w : World) (hL1 : a.length = m1) (hL2 : b.length = m2) (h1 : Reads w B 1 D1 m1 (a.map (Value.int .i64))) (h2 : Reads w B 1 D2 m2 (b.map (Value.int .i64))) (hm1 : m1 ≤ 1048576) (_hm2 : m2 ≤ 1048576) :
    Calls Try.prog 17 #[.slice D1 m1 d1, .slice D2 m2 d2] w fun e w' => e = .returned (.bool (a == b)) ∧ Below w.heap.size w w' := by
  have HL1 := Lib.hid hL1
  have HL2 := Lib.hid hL2
  clear hL1 hL2
  obtain ⟨v, hv⟩ : ∃ v, v = (a == b) := ⟨_, rfl⟩
  rw [← hv]
  have HV := Lib.hid hv
  clear hv
  have HLG := fun k (hk : k < m1) => h1.getI hk
  have HLH := fun k (hk : k < m2) => h2.getI hk
  by_cases hm : m1 = m2
  · have hmd : ((m1 : Int) != (m2 : Int)) = false := by simp; omega
    go_enter Try.func17, Try.ntmps17
    go_wp2_with fail
    go_loopg [5] m1 (fun r s3 wr => ∃ k q : Nat, k + r = m1 ∧ s3 = .int .i64 (k : Nat) ∧ (∀ j, j < k → a.getD j 0 = b.getD j 0) ∧ wr = w.drewN q)
    case atStart => exact ⟨0, 0, by omega, rfl, fun j hj => by omega, rfl⟩
    case round =>
      obtain ⟨k, q, hk, rfl, hall, rfl⟩ := hrel
      have HK := Lib.hid hk
      have HALL := Lib.hid hall
      have HMM := Lib.hid hm
      clear hk hall
      by_cases hlt : k < m1
      · have hlt2 : k < m2 := by omega
        obtain ⟨ad, rfl, _, hc1⟩ := HLG k hlt
        obtain ⟨ad2, rfl, _, hc2⟩ := HLH k hlt2
        have x1 := (cell_kept hc1 (below_drewN (Below.refl w.heap.size w) q))
        have x2 := (cell_kept hc2 (below_drewN (Below.refl w.heap.size w) q))
        have hbq := below_drewN (Below.refl w.heap.size w) q
        clear hm
        cases hne : (a.getD k 0 != b.getD k 0) with
        | true =>
          have hres : (a == b) = false := by
            simp only [beq_eq_false_iff_ne]
            rintro rfl
            simp at hne
          have HRES : Hid (v = false) := Lib.hid (by rw [HV.out, hres])
          clear hres HLG HLH
          generalize a.getD k 0 = x at *
          generalize b.getD k 0 = y at *
          go_wp2
          go_quiet (fail)
          go_wp2_with fail
          go_ret
          exact ⟨ret_bool (by rw [HRES.out]), below_drewN (below_drewN (Below.refl _ _) _) _⟩
        | false =>
          have hxy : a.getD k 0 = b.getD k 0 := by simpa using hne
          have HXY := Lib.hid hxy
          clear hxy HLG HLH
          generalize hx : a.getD k 0 = x at *
          generalize hy : b.getD k 0 = y at *
          have HX := Lib.hid hx
          have HY := Lib.hid hy
          clear hx hy
          go_wp2
          go_quiet (fail)
          go_wp2_with fail
          go_roundg (m1 - (k + 1))
          case measure => have := HK.out; omega
          case rel =>
            refine ⟨k + 1, _, by have := HK.out; omega, by go_num, fun j hj => ?_, rfl⟩
            by_cases hjk : j = k
            · subst hjk; rw [HX.out, HY.out]; exact HXY.out
            · exact HALL.out j (by omega)
      · have hab : a = b := ints_ext (by rw [HL1.out, HL2.out]; exact hm) fun j hj => HALL.out j (by have := HL1.out; omega)
        have HRES : Hid (v = true) := Lib.hid (by rw [HV.out, hab]; simp)
        clear hm hab HLG HLH
        go_wp2_with fail
        go_ret
        exact ⟨ret_bool (by rw [HRES.out]), below_drewN (Below.refl _ _) _⟩
  · have hmd : ((m1 : Int) != (m2 : Int)) = true := by simp; omega
    have hres : (a == b) = false := by
      simp only [beq_eq_false_iff_ne]
      rintro rfl
      have := HL1.out
      have := HL2.out
      omega
    have HRES : Hid (v = false) := Lib.hid (by rw [HV.out, hres])
    clear hm hres HLG HLH
    go_enter Try.func17, Try.ntmps17
    go_wp2_with fail
    go_ret
    exact ⟨ret_bool (by rw [HRES.out]), Below.refl _ _⟩

end Go.Proofs.Ytpeifojfpkkcpaa

/-
  YtpeifojfpkkcpaaLs: the walks of the property laws: where a law stands.
-/
namespace Go.Proofs.Ytpeifojfpkkcpaa
open Go.RowKit

/-- A law's region: its block x, its cells. -/
structure LS (w wr : World) (x : Nat) (W T : Int) (A2 : Option Addr) (c2 : Nat) (bs : List Bool) : Prop where
  bel : Below w.heap.size w wr
  reg : Blk wr x 25 #[.int .i64 W, .int .i64 T, .slice A2 bs.length c2]
  own : RegAt wr w.heap.size (.slice A2 bs.length c2) bs
section
variable {w wr w2 : World} {x : Nat} {W T : Int} {A2 : Option Addr} {c2 : Nat} {bs : List Bool}
theorem LS.below (h : LS w wr x W T A2 c2 bs) (hb : Below wr.heap.size wr w2) : LS w w2 x W T A2 c2 bs :=
  ⟨h.bel.trans (hb.mono h.bel.size), h.reg.below hb h.reg.lt, own_below h.own.1 hb (Nat.le_refl _), h.own.2⟩
theorem LS.start (hb : Below w.heap.size w wr) (ho : RegAt wr w.heap.size (.slice A2 bs.length c2) bs) : LS w (wr.alloc (.cells #[.int .i64 W, .int .i64 T, .slice A2 bs.length c2] 25)) wr.heap.size W T A2 c2 bs :=
  ⟨hb.alloc hb.size _, Blk.new _ _ _, ho.1.alloc _, ho.2⟩
theorem LS.rd (h : LS w wr x W T A2 c2 bs) : Reads wr wr.heap.size 1 A2 bs.length (bs.map Value.bool) := Reads.of_own h.own.1
theorem LS.len (h : LS w wr x W T A2 c2 bs) : bs.length ≤ 64 := h.own.2
theorem LS.cells (h : LS w wr x W T A2 c2 bs) : wr.cell? ⟨x, 0, none⟩ = some (.int .i64 W) ∧ wr.cell? ⟨x, 1, none⟩ = some (.int .i64 T) ∧ wr.cell? ⟨x, 2, none⟩ = some (.slice A2 bs.length c2) := by
  have a0 := h.reg.cell 0
  have a1 := h.reg.cell 1
  have a2 := h.reg.cell 2
  simp at a0 a1 a2
  exact ⟨a0, a1, a2⟩
end
/-- A list of a law. -/
abbrev LI (w wr : World) (D : Option Addr) (d : Nat) (L : List Int) : Prop := LiAt wr w.heap.size (.slice D L.length d) L
section
variable {w wr w2 : World} {D : Option Addr} {d d' : Nat} {L : List Int}
theorem LI.below (h : LI w wr D d L) (hb : Below wr.heap.size wr w2) : LI w w2 D d L := LiAt.below h hb
theorem LI.rd (h : LI w wr D d L) : Reads wr wr.heap.size 1 D L.length (L.map (Value.int .i64)) := by
  obtain ⟨A, c1, c3, e, ho⟩ := h
  simp only [Value.slice.injEq] at e
  obtain ⟨rfl, _, rfl⟩ := e
  exact Reads.of_own ho
theorem LI.plain (h : LI w wr D d L) : Plain D := by
  obtain ⟨A, c1, c3, e, ho⟩ := h
  simp only [Value.slice.injEq] at e
  obtain ⟨rfl, _, rfl⟩ := e
  rcases ho.2 with ⟨e, _⟩ | ⟨g, cap, cur, e, _⟩
  · simp only [Value.slice.injEq] at e
    exact .inl e.1
  · simp only [Value.slice.injEq] at e
    exact .inr ⟨g, 0, e.1⟩
theorem LI.of (hb : w.heap.size ≤ wr.heap.size) (h : w2.ownsRow wr.heap.size 3 1 (.slice D L.length d) L.length (L.map (Value.int .i64))) : LI w w2 D d' L := ⟨D, d', d, rfl, own_mono h hb⟩
theorem LI.cell (h : LI w wr D d L) {k : Nat} (hk : k < L.length) : ∃ gl, D = some ⟨gl, 0, none⟩ ∧ wr.cell? ⟨gl, k, none⟩ = some (.int .i64 (L.getD k 0)) := by
  obtain ⟨A, c1, c3, e, ho⟩ := h
  simp only [Value.slice.injEq] at e
  obtain ⟨rfl, _, rfl⟩ := e
  obtain ⟨g, cg, hs, _⟩ := own_shape ho (by omega)
  simp only [Value.slice.injEq, true_and] at hs
  obtain ⟨rfl, rfl⟩ := hs
  refine ⟨g, rfl, (ho.cellAt k (by omega)).trans ?_⟩
  rw [List.getElem?_map, List.getD_eq_getElem?_getD, List.getElem?_eq_getElem hk]; rfl
end
theorem beq_self_list (a : List Int) : (a == a) = true := by simp

end Go.Proofs.Ytpeifojfpkkcpaa

/-
  YtpeifojfpkkcpaaHl: HeightsLow: the program's and the reference's.
-/
namespace Go.Proofs.Ytpeifojfpkkcpaa
open Go.RowKit

noncomputable def lowL (W T : Int) (bs : List Bool) (a b : List Int) : List Int := if hokB W T bs a = true ∧ hokB W T bs b = true then List.zipWith min a b else []
theorem lowL_a {W T : Int} {bs : List Bool} {a b : List Int} (h : hokB W T bs a = false) : lowL W T bs a b = [] := by unfold lowL; rw [h]; simp
theorem lowL_b {W T : Int} {bs : List Bool} {a b : List Int} (h : hokB W T bs b = false) : lowL W T bs a b = [] := by unfold lowL; rw [h]; simp
theorem lowL_yes {W T : Int} {bs : List Bool} {a b : List Int} (h : hokB W T bs a = true) (h' : hokB W T bs b = true) : lowL W T bs a b = List.zipWith min a b := if_pos ⟨h, h'⟩
theorem lowL_len {W T : Int} {bs : List Bool} {a b : List Int} : (lowL W T bs a b).length ≤ a.length := by
  unfold lowL
  split
  · rw [List.length_zipWith]; omega
  · simp

end Go.Proofs.Ytpeifojfpkkcpaa

/-
  YtpeifojfpkkcpaaHh: HeightsHigh: the program's and the reference's.
-/
namespace Go.Proofs.Ytpeifojfpkkcpaa
open Go.RowKit

noncomputable def highL (W T : Int) (bs : List Bool) (a b : List Int) : List Int := if hokB W T bs a = true ∧ hokB W T bs b = true then List.zipWith max a b else []
theorem highL_a {W T : Int} {bs : List Bool} {a b : List Int} (h : hokB W T bs a = false) : highL W T bs a b = [] := by unfold highL; rw [h]; simp
theorem highL_b {W T : Int} {bs : List Bool} {a b : List Int} (h : hokB W T bs b = false) : highL W T bs a b = [] := by unfold highL; rw [h]; simp
theorem highL_yes {W T : Int} {bs : List Bool} {a b : List Int} (h : hokB W T bs a = true) (h' : hokB W T bs b = true) : highL W T bs a b = List.zipWith max a b := if_pos ⟨h, h'⟩
theorem highL_len {W T : Int} {bs : List Bool} {a b : List Int} : (highL W T bs a b).length ≤ a.length := by
  unfold highL
  split
  · rw [List.length_zipWith]; omega
  · simp

end Go.Proofs.Ytpeifojfpkkcpaa

/-
  YtpeifojfpkkcpaaQ3: right heights, told by sides; the tiling that by computes of them. Plain Lean.
-/
namespace Go.Proofs.Ytpeifojfpkkcpaa

theorem sdOf_0 (R : Reg) (x y : Nat) : sdOf R x y 0 = ⟨(R.ci x y : Nat), ((R.ci x y : Nat) : Int) + 1, x, y, x, (y : Int) - 1⟩ := rfl
theorem sdOf_1 (R : Reg) (x y : Nat) : sdOf R x y 1 = ⟨(R.ci x y : Nat), ((R.ci x y : Nat) : Int) + ((R.W : Int) + 1), (x : Int) - 1, y, x, y⟩ := rfl
theorem used_e' {R : Reg} {x y : Nat} : usedOf R x y 0 = true ↔ (R.at x y = true ∨ R.at x ((y : Int) - 1) = true) := by rw [used_e, Bool.or_eq_true]
theorem used_n' {R : Reg} {x y : Nat} : usedOf R x y 1 = true ↔ (R.at x y = true ∨ R.at ((x : Int) - 1) y = true) := by rw [used_n, Bool.or_eq_true, or_comm]
theorem sd_e {R : Reg} (hR : R.ok) {x y : Nat} (hx : x ≤ R.W) (hy : y ≤ R.T) (h : R.at x y = true ∨ R.at x ((y : Int) - 1) = true) :
    ∃ k, k < (sidesOf R).length ∧ (sidesOf R)[k]? = some (sdOf R x y 0) ∧ SdAt R (sdOf R x y 0) (R.ci x y) (R.ci (x + 1) y) ∧ x < R.W := by
  have hk := sdOf_at hx hy (t := 0) (by omega) (used_e'.2 h)
  exact ⟨_, (List.getElem?_eq_some_iff.1 hk).1, hk, (sideE_at hR hy h).2, (sideE_at hR hy h).1⟩
theorem sd_n {R : Reg} (hR : R.ok) {x y : Nat} (hx : x ≤ R.W) (hy : y ≤ R.T) (h : R.at x y = true ∨ R.at ((x : Int) - 1) y = true) :
    ∃ k, k < (sidesOf R).length ∧ (sidesOf R)[k]? = some (sdOf R x y 1) ∧ SdAt R (sdOf R x y 1) (R.ci x y) (R.ci x (y + 1)) ∧ y < R.T := by
  have hk := sdOf_at hx hy (t := 1) (by omega) (used_n'.2 h)
  exact ⟨_, (List.getElem?_eq_some_iff.1 hk).1, hk, (sideN_at hR hx h).2, (sideN_at hR hx h).1⟩
/-- Each side is one to the east or one to the north. -/
theorem sd_cases {R : Reg} {k : Nat} {s : Sd} (hs : (sidesOf R)[k]? = some s) : ∃ x y : Nat, x ≤ R.W ∧ y ≤ R.T ∧
    (((R.at x y = true ∨ R.at x ((y : Int) - 1) = true) ∧ s = sdOf R x y 0) ∨ ((R.at x y = true ∨ R.at ((x : Int) - 1) y = true) ∧ s = sdOf R x y 1)) := by
  obtain ⟨x, y, hx, hy, _, h⟩ := mem_sides (List.mem_of_getElem? hs) (Nat.le_refl _)
  rcases h with h | h
  · obtain ⟨hu, rfl⟩ := sideE_mem h
    exact ⟨x, y, hx, hy, .inl ⟨hu, rfl⟩⟩
  · obtain ⟨hu, rfl⟩ := sideN_mem h
    exact ⟨x, y, hx, hy, .inr ⟨hu, rfl⟩⟩

theorem usedC_cu {R : Reg} (hR : R.ok) {x y : Nat} (hx : x ≤ R.W) (hy : y ≤ R.T) : UsedC R (R.ci x y) ↔ R.cu x y = true := by
  constructor
  · rintro ⟨j, s, hj, hs, e⟩
    obtain ⟨x', y', hx', hy', h⟩ := sd_cases hs
    rcases h with ⟨hu, rfl⟩ | ⟨hu, rfl⟩
    · obtain ⟨_, _, _, ha, hlt⟩ := sd_e hR hx' hy' hu
      rw [ha.fe, ha.te] at e
      have hc := cu_e hu
      rcases e with e | e
      · obtain ⟨rfl, rfl⟩ := ci_inj hx' hx (Int.ofNat.inj e)
        exact hc.1
      · obtain ⟨rfl, rfl⟩ := ci_inj (by omega) hx (Int.ofNat.inj e)
        exact hc.2
    · obtain ⟨_, _, _, ha, hlt⟩ := sd_n hR hx' hy' hu
      rw [ha.fe, ha.te] at e
      have hc := cu_n hu
      rcases e with e | e
      · obtain ⟨rfl, rfl⟩ := ci_inj hx' hx (Int.ofNat.inj e)
        exact hc.1
      · obtain ⟨rfl, rfl⟩ := ci_inj hx' hx (Int.ofNat.inj e)
        exact hc.2
  · intro hu
    rcases cu_cases hu with h | h | h | h
    · obtain ⟨k, hk, hs, ha, _⟩ := sd_e hR hx hy (.inl h)
      exact ⟨k, _, hk, hs, .inl ha.fe⟩
    · obtain ⟨k, hk, hs, ha, _⟩ := sd_n hR hx hy (.inr h)
      exact ⟨k, _, hk, hs, .inl ha.fe⟩
    · obtain ⟨k, hk, hs, ha, _⟩ := sd_e hR hx hy (.inr h)
      exact ⟨k, _, hk, hs, .inl ha.fe⟩
    · obtain ⟨a, b, e1, e2, ha', hb', _⟩ := at_cell hR h
      obtain rfl : y = b + 1 := by omega
      rw [show ((b + 1 : Nat) : Int) - 1 = (b : Int) by omega] at h
      obtain ⟨k, hk, hs, ha, _⟩ := sd_n hR hx (y := b) (by omega) (.inr h)
      exact ⟨k, _, hk, hs, .inr ha.te⟩

theorem sdD_ht {R : Reg} {H : List Int} {x y x' y' : Nat} (h : -60 ≤ R.ht H x y ∧ R.ht H x y ≤ 60) (h' : -60 ≤ R.ht H x' y' ∧ R.ht H x' y' ≤ 60) : sdD H (R.ci x y) (R.ci x' y') = R.ht H x' y' - R.ht H x y := sdD_in h h'
theorem sdOk_of {R : Reg} {H : List Int} {s : Sd} {f t : Nat} (ha : SdAt R s f t) : SdOk R H s ↔ (sdD H f t = sg s.lx s.ly ∨ (R.inn s = true ∧ sdD H f t = -3 * sg s.lx s.ly)) := by
  unfold SdOk
  rw [ha.fe, ha.te]; rfl
theorem byUp_of {R : Reg} {H : List Int} {s : Sd} {f t : Nat} (ha : SdAt R s f t) : ByUp R H s ↔ (R.inn s = true ∧ (sdD H f t = 3 ∨ sdD H f t = -3)) := by
  unfold ByUp
  rw [ha.fe, ha.te]; rfl
theorem inn_e {R : Reg} {x y : Nat} : R.inn (sdOf R x y 0) = true ↔ (R.at x y = true ∧ R.at x ((y : Int) - 1) = true) := by
  unfold Reg.inn
  rw [Bool.and_eq_true, sdOf_0]
theorem inn_n {R : Reg} {x y : Nat} : R.inn (sdOf R x y 1) = true ↔ (R.at ((x : Int) - 1) y = true ∧ R.at x y = true) := by
  unfold Reg.inn
  rw [Bool.and_eq_true, sdOf_1]

theorem hok_of_hp {R : Reg} (hR : R.ok) (hS : SimpleP R) {H : List Int} (h : HP R H) : HOk R H := by
  have bd : ∀ {x y : Nat}, R.cu x y = true → -60 ≤ R.ht H x y ∧ R.ht H x y ≤ 60 := fun hu => by have := hp_bd hR hS.1 h hu; omega
  obtain ⟨x0, y0, h0⟩ := first_ex hR hS.1
  refine ⟨h.len, fun k s hk hs => ?_, fun i hi hu => ?_, fun i hi hu => ?_, fun i hi hf => ?_⟩
  · obtain ⟨x, y, hx, hy, hc⟩ := sd_cases hs
    rcases hc with ⟨hu, rfl⟩ | ⟨hu, rfl⟩
    · obtain ⟨_, _, _, ha, hlt⟩ := sd_e hR hx hy hu
      rw [sdOk_of ha, sdD_ht (bd (cu_e hu).1) (bd (cu_e hu).2), inn_e, sdOf_0]
      rcases h.e x y hlt hy hu with h | ⟨h1, h2, h⟩
      · exact .inl (by simp only; omega)
      · exact .inr ⟨⟨h1, h2⟩, by simp only; omega⟩
    · obtain ⟨_, _, _, ha, hlt⟩ := sd_n hR hx hy hu
      rw [sdOk_of ha, sdD_ht (bd (cu_n hu).1) (bd (cu_n hu).2), inn_n, sdOf_1]
      rcases h.n x y hx hlt hu with h | ⟨h1, h2, h⟩
      · exact .inl (by simp only; omega)
      · exact .inr ⟨⟨h2, h1⟩, by simp only; omega⟩
  · obtain ⟨h1, h2⟩ := ci_in hi
    have := bd ((usedC_cu hR h1 h2).1 (by rw [ci_of]; exact hu))
    unfold Reg.ht at this
    rwa [ci_of] at this
  · obtain ⟨h1, h2⟩ := ci_in hi
    have hc : R.cu ((i % (R.W + 1) : Nat) : Int) ((i / (R.W + 1) : Nat) : Int) = false := by
      cases hc : R.cu ((i % (R.W + 1) : Nat) : Int) ((i / (R.W + 1) : Nat) : Int) with
      | false => rfl
      | true => exact absurd (by have := (usedC_cu hR h1 h2).2 hc; rwa [ci_of] at this) hu
    have := h.no _ _ h1 h2 hc
    unfold Reg.ht at this
    rwa [ci_of] at this
  · obtain rfl := firstU_one hf (first_u hR h0)
    exact h.first _ _ h0
theorem hp_of_hok {R : Reg} (hR : R.ok) {H : List Int} (h : HOk R H) : HP R H := by
  have bd : ∀ {x y : Nat}, x ≤ R.W → y ≤ R.T → R.cu x y = true → -60 ≤ R.ht H x y ∧ R.ht H x y ≤ 60 := fun hx hy hu => h.rng _ (ci_lt hx hy) ((usedC_cu hR hx hy).2 hu)
  refine ⟨h.len, fun x y hx hy hu => h.no _ (ci_lt hx hy) fun hc => (by rw [(usedC_cu hR hx hy).1 hc] at hu; cases hu), fun x y h0 => h.fst _ (ci_lt h0.1 h0.2.1) (first_u hR h0), fun x y hx hy hu => ?_, fun x y hx hy hu => ?_⟩
  · obtain ⟨k, hk, hs, ha, _⟩ := sd_e hR (by omega) hy hu
    have := (sdOk_of ha).1 (h.sd k _ hk hs)
    rw [sdD_ht (bd (by omega) hy (cu_e hu).1) (bd (by omega) hy (cu_e hu).2), inn_e, sdOf_0] at this
    simp only at this
    rcases this with h | ⟨⟨h1, h2⟩, h⟩
    · exact .inl (by omega)
    · exact .inr ⟨h1, h2, by omega⟩
  · obtain ⟨k, hk, hs, ha, _⟩ := sd_n hR hx (by omega) hu
    have := (sdOk_of ha).1 (h.sd k _ hk hs)
    rw [sdD_ht (bd hx (by omega) (cu_n hu).1) (bd hx (by omega) (cu_n hu).2), inn_n, sdOf_1] at this
    simp only at this
    rcases this with h | ⟨⟨h1, h2⟩, h⟩
    · exact .inl (by omega)
    · exact .inr ⟨h2, h1, by omega⟩
theorem hok_iff {R : Reg} (hR : R.ok) (hS : SimpleP R) {H : List Int} : HOk R H ↔ HP R H := ⟨hp_of_hok hR, hok_of_hp hR hS⟩

/-! ### by -/
theorem bySet_no {R : Reg} {a b : Nat} {L : List Int} {way : Nat} (h : R.step a (way : Int) ≠ (b : Int)) : bySet R a b L way = L := if_neg h
theorem bySet_yes {R : Reg} {a b : Nat} {L : List Int} {way : Nat} (h : R.step a (way : Int) = (b : Int)) : bySet R a b L way = (L.set a way).set b (back way) := if_pos h
theorem byWays_e {R : Reg} {x y : Nat} (hx : x + 1 < R.W) (L : List Int) : byWays R (y * R.W + x) (y * R.W + (x + 1)) L 4 = (L.set (y * R.W + x) 1).set (y * R.W + (x + 1)) 3 := by
  have hm := mk_mod (x := x) y (show x < R.W by omega)
  have hd := mk_div (x := x) y (show x < R.W by omega)
  have e : ∀ way : Nat, way ≠ 1 → R.step (y * R.W + x) (way : Int) ≠ ((y * R.W + (x + 1) : Nat) : Int) := by
    intro way hw h
    rcases step_cases h with ⟨h1, _⟩ | ⟨_, _, h⟩ | ⟨_, _, h⟩ | ⟨_, _, h⟩ <;> omega
  have e1 : R.step (y * R.W + x) ((1 : Nat) : Int) = ((y * R.W + (x + 1) : Nat) : Int) := by
    show R.step (y * R.W + x) 1 = _
    rw [Reg.step, if_pos rfl, hm, if_pos hx]; omega
  show bySet R _ _ (bySet R _ _ (bySet R _ _ (bySet R _ _ L 1) 2) 3) 4 = _
  rw [bySet_no (e 4 (by omega)), bySet_no (e 3 (by omega)), bySet_no (e 2 (by omega)), bySet_yes e1]; rfl
theorem byWays_s {R : Reg} (hR : R.ok) {x y : Nat} (hx : x < R.W) (L : List Int) : byWays R ((y + 1) * R.W + x) (y * R.W + x) L 4 = (L.set ((y + 1) * R.W + x) 4).set (y * R.W + x) 2 := by
  have hm := mk_mod (x := x) (y + 1) hx
  have hd := mk_div (x := x) (y + 1) hx
  have hW := hR.1
  have hmul : (y + 1) * R.W = y * R.W + R.W := by rw [Nat.add_mul, Nat.one_mul]
  have e : ∀ way : Nat, way ≠ 4 → R.step ((y + 1) * R.W + x) (way : Int) ≠ ((y * R.W + x : Nat) : Int) := by
    intro way hw h
    rcases step_cases h with ⟨h1, _, h⟩ | ⟨_, _, h⟩ | ⟨_, h0, h⟩ | ⟨h1, _, h⟩ <;> omega
  have e4 : R.step ((y + 1) * R.W + x) ((4 : Nat) : Int) = ((y * R.W + x : Nat) : Int) := by
    show R.step ((y + 1) * R.W + x) 4 = _
    rw [Reg.step, if_neg (by omega), if_neg (by omega), if_neg (by omega), if_pos rfl, hd, if_pos (by omega)]; omega
  show bySet R _ _ (bySet R _ _ (bySet R _ _ (bySet R _ _ L 1) 2) 3) 4 = _
  rw [bySet_yes e4, bySet_no (e 3 (by omega)), bySet_no (e 2 (by omega)), bySet_no (e 1 (by omega))]; rfl

/-- What a side with a jump sets. -/
theorem up_set {R : Reg} (hR : R.ok) (hS : SimpleP R) {H : List Int} (h : HP R H) {k : Nat} {s : Sd} (hs : (sidesOf R)[k]? = some s) (hup : ByUp R H s) :
    ∃ a b : Nat, a ≠ b ∧ a < R.C.length ∧ b < R.C.length ∧ (s.ly * R.W + s.lx).toNat = a ∧ (s.ry * R.W + s.rx).toNat = b ∧ ∀ L, byS R H L s = (L.set a ((tilH R H).getD a 0)).set b ((tilH R H).getD b 0) := by
  have bd : ∀ {x y : Nat}, R.cu x y = true → -60 ≤ R.ht H x y ∧ R.ht H x y ≤ 60 := fun hu => by have := hp_bd hR hS.1 h hu; omega
  obtain ⟨x, y, hx, hy, hc⟩ := sd_cases hs
  rcases hc with ⟨hu, rfl⟩ | ⟨hu, rfl⟩
  · obtain ⟨_, _, _, ha, hlt⟩ := sd_e hR hx hy hu
    have hup' := (byUp_of ha).1 hup
    rw [sdD_ht (bd (cu_e hu).1) (bd (cu_e hu).2), inn_e] at hup'
    obtain ⟨⟨c1, c2⟩, hd⟩ := hup'
    obtain ⟨a', b, e1, e2, hxa, hb, _⟩ := at_cell hR c2
    obtain rfl : x = a' := by omega
    obtain rfl : y = b + 1 := by omega
    rw [show ((b + 1 : Nat) : Int) - 1 = (b : Int) by omega] at c2
    obtain ⟨a', b', e1, e2, _, hb', _⟩ := at_cell hR c1
    have hby : b + 1 < R.T := by omega
    have hs1 := sg_or x ((b + 1 : Nat) : Int)
    have he := h.e x (b + 1) hlt hy hu
    have w1 := (wayH_at h hlt hby c1).s.2 (by rcases he with he | ⟨_, _, he⟩ <;> omega)
    have s2 : sg x ((b + 1 : Nat) : Int) = - sg x b := by rw [show ((b + 1 : Nat) : Int) = (b : Int) + 1 by omega, sg_n]
    have w2 := (wayH_at h hlt hb c2).n.2 (by rcases he with he | ⟨_, _, he⟩ <;> omega)
    have t1 := way_tilH_at hR (H := H) c1
    have t2 := way_tilH_at hR (H := H) c2
    rw [way_in hlt hby, w1] at t1
    rw [way_in hlt hb, w2] at t2
    have i1 : ((sdOf R x (b + 1) 0).ly * R.W + (sdOf R x (b + 1) 0).lx).toNat = (b + 1) * R.W + x := by
      rw [sdOf_0]
      show ((((b + 1 : Nat) : Int)) * (R.W : Int) + (x : Int)).toNat = _
      have : (((b + 1 : Nat) : Int)) * (R.W : Int) + (x : Int) = (((b + 1) * R.W + x : Nat) : Int) := by simp
      rw [this]; rfl
    have i2 : ((sdOf R x (b + 1) 0).ry * R.W + (sdOf R x (b + 1) 0).rx).toNat = b * R.W + x := by
      rw [sdOf_0]
      show (((((b + 1 : Nat) : Int)) - 1) * (R.W : Int) + (x : Int)).toNat = _
      have : ((((b + 1 : Nat) : Int)) - 1) * (R.W : Int) + (x : Int) = ((b * R.W + x : Nat) : Int) := by rw [show (((b + 1 : Nat) : Int)) - 1 = (b : Int) by omega]; simp
      rw [this]; rfl
    refine ⟨_, _, ?_, idx_lt hR hlt hby, idx_lt hR hlt hb, i1, i2, fun L => ?_⟩
    · have := hR.1
      rw [Nat.add_mul]; omega
    · rw [byS_yes hup, i1, i2, byWays_s hR hlt, t1, t2]
  · obtain ⟨_, _, _, ha, hlt⟩ := sd_n hR hx hy hu
    have hup' := (byUp_of ha).1 hup
    rw [sdD_ht (bd (cu_n hu).1) (bd (cu_n hu).2), inn_n] at hup'
    obtain ⟨⟨c2, c1⟩, hd⟩ := hup'
    obtain ⟨a, b', e1, e2, hxa, hb, _⟩ := at_cell hR c2
    obtain rfl : x = a + 1 := by omega
    rw [show ((a + 1 : Nat) : Int) - 1 = (a : Int) by omega] at c2
    obtain ⟨a', b', e1, e2, hxa', hb', _⟩ := at_cell hR c1
    have hax : a + 1 < R.W := by omega
    have he := h.n (a + 1) y hx hlt hu
    rw [show ((a + 1 : Nat) : Int) - 1 = (a : Int) by omega] at he
    have hs1 := sg_or a y
    have w1 := (wayH_at h (show a < R.W by omega) hlt c2).e.2 (by rcases he with he | ⟨_, _, he⟩ <;> omega)
    have s2 : sg ((a + 1 : Nat) : Int) y = - sg a y := by rw [show ((a + 1 : Nat) : Int) = (a : Int) + 1 by omega, sg_e]
    have w2 := (wayH_at h hax hlt c1).w.2 (by rcases he with he | ⟨_, _, he⟩ <;> omega)
    have t1 := way_tilH_at hR (H := H) c2
    have t2 := way_tilH_at hR (H := H) c1
    rw [way_in (show a < R.W by omega) hlt, w1] at t1
    rw [way_in hax hlt, w2] at t2
    have i1 : ((sdOf R (a + 1) y 1).ly * R.W + (sdOf R (a + 1) y 1).lx).toNat = y * R.W + a := by
      rw [sdOf_1]
      show (((y : Nat) : Int) * (R.W : Int) + (((a + 1 : Nat) : Int) - 1)).toNat = _
      have : ((y : Nat) : Int) * (R.W : Int) + (((a + 1 : Nat) : Int) - 1) = ((y * R.W + a : Nat) : Int) := by rw [show ((a + 1 : Nat) : Int) - 1 = (a : Int) by omega]; simp
      rw [this]; rfl
    have i2 : ((sdOf R (a + 1) y 1).ry * R.W + (sdOf R (a + 1) y 1).rx).toNat = y * R.W + (a + 1) := by
      rw [sdOf_1]
      show (((y : Nat) : Int) * (R.W : Int) + ((a + 1 : Nat) : Int)).toNat = _
      have : ((y : Nat) : Int) * (R.W : Int) + ((a + 1 : Nat) : Int) = ((y * R.W + (a + 1) : Nat) : Int) := by simp
      rw [this]; rfl
    refine ⟨_, _, ?_, idx_lt hR (by omega) hlt, idx_lt hR hax hlt, i1, i2, fun L => ?_⟩
    · omega
    · rw [byS_yes hup, i1, i2, byWays_e hax, t1, t2]

theorem byTo_inv {R : Reg} (hR : R.ok) (hS : SimpleP R) {H : List Int} (h : HP R H) : ∀ k, k ≤ (sidesOf R).length →
    (∀ c, (byTo R H k).getD c 0 = 0 ∨ (byTo R H k).getD c 0 = (tilH R H).getD c 0) ∧
    ∀ (j : Nat) s, j < k → (sidesOf R)[j]? = some s → ByUp R H s → (byTo R H k).getD (s.ly * R.W + s.lx).toNat 0 = (tilH R H).getD (s.ly * R.W + s.lx).toNat 0 ∧ (byTo R H k).getD (s.ry * R.W + s.rx).toNat 0 = (tilH R H).getD (s.ry * R.W + s.rx).toNat 0 := by
  intro k
  induction k with
  | zero =>
    intro _
    refine ⟨fun c => .inl ?_, fun j s hj => by omega⟩
    simp only [byTo, List.take_zero, List.foldl_nil, List.getD_eq_getElem?_getD, List.getElem?_replicate]
    split <;> rfl
  | succ k ih =>
    intro hk
    obtain ⟨i1, i2⟩ := ih (by omega)
    obtain ⟨s, hs⟩ : ∃ s, (sidesOf R)[k]? = some s := ⟨_, List.getElem?_eq_getElem (by omega)⟩
    rw [byTo_succ hs]
    have hl := byTo_len R H k
    by_cases hup : ByUp R H s
    · obtain ⟨a, b, hne, ha, hb, ea, eb, hset⟩ := up_set hR hS h hs hup
      rw [hset]
      have gd : ∀ c, (((byTo R H k).set a ((tilH R H).getD a 0)).set b ((tilH R H).getD b 0)).getD c 0 = if b = c then (tilH R H).getD b 0 else if a = c then (tilH R H).getD a 0 else (byTo R H k).getD c 0 := by
        intro c
        rw [getD_set (by simp; omega), getD_set (by omega)]
      refine ⟨fun c => ?_, fun j s' hj hjs hup' => ?_⟩
      · rw [gd]
        split
        · rename_i e; subst e; exact .inr rfl
        · split
          · rename_i e; subst e; exact .inr rfl
          · exact i1 c
      · have fin : ∀ c, (byTo R H k).getD c 0 = (tilH R H).getD c 0 ∨ c = a ∨ c = b → (if b = c then (tilH R H).getD b 0 else if a = c then (tilH R H).getD a 0 else (byTo R H k).getD c 0) = (tilH R H).getD c 0 := by
          intro c hc
          split
          · rename_i e; rw [e]
          · split
            · rename_i e; rw [e]
            · rcases hc with hc | hc | hc
              · exact hc
              · omega
              · omega
        rw [gd, gd]
        by_cases hjk : j = k
        · subst hjk
          rw [hs] at hjs
          injection hjs with hjs
          subst hjs
          exact ⟨fin _ (.inr (.inl ea)), fin _ (.inr (.inr eb))⟩
        · obtain ⟨k1, k2⟩ := i2 j s' (by omega) hjs hup'
          exact ⟨fin _ (.inl k1), fin _ (.inl k2)⟩
    · rw [byS_no hup]
      refine ⟨i1, fun j s' hj hjs hup' => ?_⟩
      by_cases hjk : j = k
      · subst hjk
        rw [hs] at hjs
        injection hjs with hjs
        subst hjs
        exact absurd hup' hup
      · exact i2 j s' (by omega) hjs hup'

/-- What by computes of right heights. -/
theorem byTo_til {R : Reg} (hR : R.ok) (hS : SimpleP R) {H : List Int} (h : HP R H) : byTo R H (sidesOf R).length = tilH R H := by
  have bd : ∀ {x y : Nat}, R.cu x y = true → -60 ≤ R.ht H x y ∧ R.ht H x y ≤ 60 := fun hu => by have := hp_bd hR hS.1 h hu; omega
  obtain ⟨i1, i2⟩ := byTo_inv hR hS h _ (Nat.le_refl _)
  have hT := lay_tilH hR h
  have key : ∀ x y : Nat, x < R.W → y < R.T → (byTo R H (sidesOf R).length).getD (y * R.W + x) 0 = (tilH R H).getD (y * R.W + x) 0 := by
    intro x y hx hy
    by_cases hc : R.at x y = true
    · have hW := wayH_at h hx hy hc
      have ht := way_tilH_at hR (H := H) hc
      have hlo := hW.lo
      have hhi := hW.hi
      have hs := sg_or x y
      have h4 : wayH R H x y = 1 ∨ wayH R H x y = 2 ∨ wayH R H x y = 3 ∨ wayH R H x y = 4 := by omega
      rcases h4 with hw | hw | hw | hw
      · have hd := hW.e.1 hw
        have hc2 := hT.at_ _ _ (by rw [(hT.hor x y).1 (by rw [ht, hw])]; decide)
        have hu : R.at ((x + 1 : Nat) : Int) y = true ∨ R.at (((x + 1 : Nat) : Int) - 1) y = true := .inl hc2
        obtain ⟨k, hk, hks, ha, _⟩ := sd_n hR (x := x + 1) (y := y) (by omega) (by omega) hu
        have hup : ByUp R H (sdOf R (x + 1) y 1) := (byUp_of ha).2 ⟨inn_n.2 ⟨by rw [show ((x + 1 : Nat) : Int) - 1 = (x : Int) by omega]; exact hc, hc2⟩, by rw [sdD_ht (bd (cu_n hu).1) (bd (cu_n hu).2)]; omega⟩
        have := (i2 k _ hk hks hup).1
        have e : ((sdOf R (x + 1) y 1).ly * R.W + (sdOf R (x + 1) y 1).lx).toNat = y * R.W + x := by
          rw [sdOf_1]
          show (((y : Nat) : Int) * (R.W : Int) + (((x + 1 : Nat) : Int) - 1)).toNat = _
          have : ((y : Nat) : Int) * (R.W : Int) + (((x + 1 : Nat) : Int) - 1) = ((y * R.W + x : Nat) : Int) := by rw [show ((x + 1 : Nat) : Int) - 1 = (x : Int) by omega]; simp
          rw [this]; rfl
        rwa [e] at this
      · have hd := hW.n.1 hw
        have hc2 := hT.at_ _ _ (by rw [(hT.ver x y).1 (by rw [ht, hw])]; decide)
        have hu : R.at x ((y + 1 : Nat) : Int) = true ∨ R.at x (((y + 1 : Nat) : Int) - 1) = true := .inl hc2
        obtain ⟨k, hk, hks, ha, _⟩ := sd_e hR (x := x) (y := y + 1) (by omega) (by omega) hu
        have hup : ByUp R H (sdOf R x (y + 1) 0) := (byUp_of ha).2 ⟨inn_e.2 ⟨hc2, by rw [show ((y + 1 : Nat) : Int) - 1 = (y : Int) by omega]; exact hc⟩, by rw [sdD_ht (bd (cu_e hu).1) (bd (cu_e hu).2)]; omega⟩
        have := (i2 k _ hk hks hup).2
        have e : ((sdOf R x (y + 1) 0).ry * R.W + (sdOf R x (y + 1) 0).rx).toNat = y * R.W + x := by
          rw [sdOf_0]
          show ((((y + 1 : Nat) : Int) - 1) * (R.W : Int) + (x : Int)).toNat = _
          have : (((y + 1 : Nat) : Int) - 1) * (R.W : Int) + (x : Int) = ((y * R.W + x : Nat) : Int) := by rw [show ((y + 1 : Nat) : Int) - 1 = (y : Int) by omega]; simp
          rw [this]; rfl
        rwa [e] at this
      · have hd := hW.w.1 hw
        have hc2 := hT.at_ _ _ (by rw [(hT.hor ((x : Int) - 1) y).2 (by rw [show (x : Int) - 1 + 1 = x by omega, ht, hw])]; decide)
        have hu : R.at x y = true ∨ R.at ((x : Int) - 1) y = true := .inl hc
        obtain ⟨k, hk, hks, ha, _⟩ := sd_n hR (x := x) (y := y) (by omega) (by omega) hu
        have hup : ByUp R H (sdOf R x y 1) := (byUp_of ha).2 ⟨inn_n.2 ⟨hc2, hc⟩, by rw [sdD_ht (bd (cu_n hu).1) (bd (cu_n hu).2)]; omega⟩
        have := (i2 k _ hk hks hup).2
        have e : ((sdOf R x y 1).ry * R.W + (sdOf R x y 1).rx).toNat = y * R.W + x := by
          rw [sdOf_1]
          show (((y : Nat) : Int) * (R.W : Int) + (x : Int)).toNat = _
          have : ((y : Nat) : Int) * (R.W : Int) + (x : Int) = ((y * R.W + x : Nat) : Int) := by simp
          rw [this]; rfl
        rwa [e] at this
      · have hd := hW.s.1 hw
        have hc2 := hT.at_ _ _ (by rw [(hT.ver x ((y : Int) - 1)).2 (by rw [show (y : Int) - 1 + 1 = y by omega, ht, hw])]; decide)
        have hu : R.at x y = true ∨ R.at x ((y : Int) - 1) = true := .inl hc
        obtain ⟨k, hk, hks, ha, _⟩ := sd_e hR (x := x) (y := y) (by omega) (by omega) hu
        have hup : ByUp R H (sdOf R x y 0) := (byUp_of ha).2 ⟨inn_e.2 ⟨hc, hc2⟩, by rw [sdD_ht (bd (cu_e hu).1) (bd (cu_e hu).2)]; omega⟩
        have := (i2 k _ hk hks hup).1
        have e : ((sdOf R x y 0).ly * R.W + (sdOf R x y 0).lx).toNat = y * R.W + x := by
          rw [sdOf_0]
          show (((y : Nat) : Int) * (R.W : Int) + (x : Int)).toNat = _
          have : ((y : Nat) : Int) * (R.W : Int) + (x : Int) = ((y * R.W + x : Nat) : Int) := by simp
          rw [this]; rfl
        rwa [e] at this
    · have h0 : (tilH R H).getD (y * R.W + x) 0 = 0 := by
        have := way_tilH hR H hx hy
        rw [if_neg hc, way_in hx hy] at this
        exact this
      rw [h0]
      rcases i1 (y * R.W + x) with h | h
      · exact h
      · rw [h, h0]
  apply List.ext_getElem (by rw [byTo_len, tilH_len])
  intro i hi hi'
  obtain ⟨hx, hy⟩ := xy_lt hR (c := i) (by rw [byTo_len] at hi; exact hi)
  have := key _ _ hx hy
  rw [xy_eq] at this
  simpa [List.getD_eq_getElem?_getD, List.getElem?_eq_getElem hi, List.getElem?_eq_getElem hi'] using this

/-! ### The low and the high one of two tilings -/
theorem htsOf_hp {R : Reg} (hR : R.ok) {L : List Int} (h : tiledB R.W R.T R.C L = true) : HP R (htsOf R.W R.T R.C L) := by
  obtain ⟨hS, hL, hF⟩ := (tiled_ok hR).1 h
  exact hp_of_hts hL (htsOf_yes hR hS hL hF)
theorem htsOf_til {R : Reg} (hR : R.ok) (hS : SimpleP R) {H : List Int} (h : HP R H) : htsOf R.W R.T R.C (tilH R H) = H :=
  hts_one hR hS.1 (htsOf_yes hR hS (lay_tilH hR h) (full_tilH hR h)) (hts_tilH hR h)
theorem tiled_tilH {R : Reg} (hR : R.ok) (hS : SimpleP R) {H : List Int} (h : HP R H) : tiledB R.W R.T R.C (tilH R H) = true := (tiled_ok hR).2 ⟨hS, lay_tilH hR h, full_tilH hR h⟩
theorem tilH_hts {R : Reg} (hR : R.ok) {L : List Int} (h : tiledB R.W R.T R.C L = true) : tilH R (htsOf R.W R.T R.C L) = L := by
  obtain ⟨hS, hL, hF⟩ := (tiled_ok hR).1 h
  exact hts_tilH_of hR hL hF (htsOf_yes hR hS hL hF)
theorem hokB_nil (W T : Int) (bs : List Bool) : hokB W T bs [] = false := by
  cases h : hokB W T bs [] with
  | false => rfl
  | true =>
    obtain ⟨R, hR, _, _, _, _, hk⟩ := hokB_iff.1 h
    have := hk.len
    have := cn_bd hR
    simp at *
    omega
theorem hokB_hp {R : Reg} (hR : R.ok) (hS : SimpleP R) {H : List Int} : hokB R.W R.T R.C H = true ↔ HP R H := by rw [hokB_ok hR hS, hok_iff hR hS]
theorem byV_til {R : Reg} (hR : R.ok) (hS : SimpleP R) {H : List Int} (h : HP R H) : byV R.W R.T R.C H = tilH R H := by
  rw [byV_yes ((hokB_hp hR hS).2 h), byTo_til hR hS h]

end Go.Proofs.Ytpeifojfpkkcpaa

/-
  YtpeifojfpkkcpaaTl: TilingLow and TilingHigh, of the program and of the reference.
-/
namespace Go.Proofs.Ytpeifojfpkkcpaa
open Go.RowKit

/-- The tiling of heights that are picked of those of two tilings. -/
noncomputable def twoV (f : Int → Int → Int) (W T : Int) (bs : List Bool) (a b : List Int) : List Int :=
  if tiledB W T bs a = true ∧ tiledB W T bs b = true then tilH ⟨W.toNat, T.toNat, bs⟩ (List.zipWith f (htsOf W T bs a) (htsOf W T bs b)) else []
noncomputable def twoB (W T : Int) (bs : List Bool) (a b : List Int) : Bool := tiledB W T bs a && tiledB W T bs b
theorem twoV_no1 {f : Int → Int → Int} {W T : Int} {bs : List Bool} {a b : List Int} (h : tiledB W T bs a = false) : twoV f W T bs a b = [] := by unfold twoV; rw [h]; simp
theorem twoV_no2 {f : Int → Int → Int} {W T : Int} {bs : List Bool} {a b : List Int} (h : tiledB W T bs b = false) : twoV f W T bs a b = [] := by unfold twoV; rw [h]; simp
theorem twoV_yes {f : Int → Int → Int} {R : Reg} {a b : List Int} (h : tiledB R.W R.T R.C a = true) (h' : tiledB R.W R.T R.C b = true) : twoV f R.W R.T R.C a b = tilH R (List.zipWith f (htsOf R.W R.T R.C a) (htsOf R.W R.T R.C b)) := by
  unfold twoV; rw [if_pos ⟨h, h'⟩]; rfl
theorem twoV_len {f : Int → Int → Int} {W T : Int} {bs : List Bool} {a b : List Int} : (twoV f W T bs a b).length ≤ 36 := by
  cases h : tiledB W T bs a with
  | false => rw [twoV_no1 h]; simp
  | true =>
    cases h' : tiledB W T bs b with
    | false => rw [twoV_no2 h']; simp
    | true =>
      obtain ⟨R, hR, rfl, rfl, rfl, _⟩ := tiled_cases h
      rw [twoV_yes h h', tilH_len]
      exact (len_bd hR).2

/-- What a choice of heights must keep. -/
def Keeps (f : Int → Int → Int) : Prop := ∀ {R : Reg} {H G : List Int}, R.ok → InConn R → HP R H → HP R G → HP R (List.zipWith f H G)
theorem keeps_min : Keeps min := fun hR hI h g => hp_min hR hI h g
theorem keeps_max : Keeps max := fun hR hI h g => hp_max hR hI h g

def PickAny (fv : Value) (f : Int → Int → Int) : Prop := ∀ (A D : Option Addr) (c d B : Nat) (L M : List Int) (n : Nat) (_ : L.length = n) (_ : M.length = n) (_ : n ≤ 1048576) (w : World) (_ : Reads w B 1 A n (L.map (Value.int .i64))) (_ : Reads w B 1 D n (M.map (Value.int .i64))) (_ : B ≤ w.heap.size),
  Calls Try.prog 102 #[.slice A n c, .slice D n d, fv] w (IntsRet w (List.zipWith f L M))

set_option maxHeartbeats 1000000 in
set_option maxRecDepth 20000 in
theorem bound_any (fv : Value) (f : Int → Int → Int) (hpk0 : PickAny fv f) (hf : Keeps f) (W T : Int) (A : Option Addr) (n c B : Nat) (bs : List Bool) (L1 : List Int) (D1 : Option Addr) (m1 d1 : Nat) (L2 : List Int) (D2 : Option Addr) (m2 d2 : Nat) (w : World) (hbl : bs.length = n) (hL1 : L1.length = m1) (hL2 : L2.length = m2)
    (hr : Reads w B 1 A n (bs.map Value.bool)) (h1 : Reads w B 1 D1 m1 (L1.map (Value.int .i64))) (h2 : Reads w B 1 D2 m2 (L2.map (Value.int .i64))) (hB : B ≤ w.heap.size) (hn : n ≤ 9223372036854775807) (hm1 : m1 ≤ 9223372036854775807) (hm2 : m2 ≤ 9223372036854775807) :
    Calls Try.prog 133 #[.agg #[.int .i64 W, .int .i64 T, .slice A n c], .slice D1 m1 d1, .slice D2 m2 d2, fv] w (RetIB w (twoV f W T bs L1 L2) (twoB W T bs L1 L2)) := by
  have hT1 := fun w' (h : Below w.heap.size w w') => hide (tiled_any W T A n c B bs L1 D1 m1 d1 w' hbl hL1 (hr.below (h.mono hB)) (h1.below (h.mono hB)) (Nat.le_trans hB h.size) hn hm1)
  have hT2 := fun w' (h : Below w.heap.size w w') => hide (tiled_any W T A n c B bs L2 D2 m2 d2 w' hbl hL2 (hr.below (h.mono hB)) (h2.below (h.mono hB)) (Nat.le_trans hB h.size) hn hm2)
  have hb0 : Below w.heap.size w (w.alloc (boxR W T A n c)) := (Below.refl _ _).alloc (Nat.le_refl _) _
  have HPK := Lib.hid hpk0
  clear hpk0
  cases ht1 : tiledB W T bs L1 with
  | false =>
    clear hf
    simp only [ht1] at hT1
    have hb : twoB W T bs L1 L2 = false := by unfold twoB; rw [ht1]; rfl
    rw [twoV_no1 ht1, hb]
    clear hb ht1 hT2
    go_enter Try.func133, Try.ntmps133
    go_wp2_with fail
    refine (unhide (hT1 _ hb0)).mono ?_
    rintro e w1 ⟨rfl, hb1⟩
    go_wp2_with fail
    go_ret2
    exact ⟨none, 0, 0, rfl, ⟨rfl, .inl ⟨rfl, rfl⟩⟩, (box_keep hb1).1⟩
  | true =>
    simp only [ht1] at hT1
    cases ht2 : tiledB W T bs L2 with
    | false =>
      simp only [ht2] at hT2
      have hb : twoB W T bs L1 L2 = false := by unfold twoB; rw [ht1, ht2]; rfl
      rw [twoV_no2 ht2, hb]
      clear hb ht1 ht2
      go_enter Try.func133, Try.ntmps133
      go_wp2_with fail
      refine (unhide (hT1 _ hb0)).mono ?_
      rintro e w1 ⟨rfl, hb1⟩
      obtain ⟨hB1, hk1, b0, b1, b2⟩ := box_keep hb1
      go_wp2_with fail
      refine (unhide (hT2 _ hB1)).mono ?_
      rintro e w2 ⟨rfl, hb2⟩
      go_wp2_with fail
      go_ret2
      exact ⟨none, 0, 0, rfl, ⟨rfl, .inl ⟨rfl, rfl⟩⟩, hB1.trans (hb2.mono hB1.size)⟩
    | true =>
      simp only [ht2] at hT2
      have hb : twoB W T bs L1 L2 = true := by unfold twoB; rw [ht1, ht2]; rfl
      obtain ⟨R, hR, rfl, rfl, rfl, hS, hLy1, hF1⟩ := tiled_cases ht1
      obtain ⟨_, hLy2, hF2⟩ := (tiled_ok hR).1 ht2
      have hH1 := htsOf_yes hR hS hLy1 hF1
      have hH2 := htsOf_yes hR hS hLy2 hF2
      have hZP := hf hR hS.1 (htsOf_hp hR ht1) (htsOf_hp hR ht2)
      have hres : twoV f R.W R.T R.C L1 L2 = byTo R (List.zipWith f (htsOf R.W R.T R.C L1) (htsOf R.W R.T R.C L2)) (sidesOf R).length := by rw [twoV_yes ht1 ht2, byTo_til hR hS hZP]
      rw [hres, hb]
      subst hbl hL1 hL2
      have hHT1 := fun w' (h : Below w.heap.size w w') => hide (heights_any R hR hS A c B L1 D1 d1 hLy1 hF1 _ hH1 w' (hr.below (h.mono hB)) (h1.below (h.mono hB)) (Nat.le_trans hB h.size))
      have hHT2 := fun w' (h : Below w.heap.size w w') => hide (heights_any R hR hS A c B L2 D2 d2 hLy2 hF2 _ hH2 w' (hr.below (h.mono hB)) (h2.below (h.mono hB)) (Nat.le_trans hB h.size))
      have hX := hH1.len
      have hY := hH2.len
      generalize htsOf R.W R.T R.C L1 = X at *
      generalize htsOf R.W R.T R.C L2 = Y at *
      have hcn := cn_bd hR
      obtain ⟨Z, hZ⟩ : ∃ Z, Z = List.zipWith f X Y := ⟨_, rfl⟩
      rw [← hZ] at hZP ⊢
      have hzl : Z.length = R.cn := hZP.len
      have hHT1' : ∀ w', Below w.heap.size w w' → Hid (Calls Try.prog 103 #[.agg #[.int .i64 R.W, .int .i64 R.T, .slice A R.C.length c], .slice D1 L1.length d1] w' fun e w'' => ∃ g, e = .returned (.slice (some ⟨g, 0, none⟩) R.cn R.cn) ∧ Reads w'' w''.heap.size 1 (some ⟨g, 0, none⟩) R.cn (X.map (Value.int .i64)) ∧ Below w'.heap.size w' w'') := fun w' h => hide ((unhide (hHT1 w' h)).mono fun e w'' hh => by
        obtain ⟨g, rfl, ho, hb⟩ := hh
        rw [hX] at ho ⊢
        exact ⟨g, rfl, Reads.of_own ho, hb⟩)
      have hHT2' : ∀ w', Below w.heap.size w w' → Hid (Calls Try.prog 103 #[.agg #[.int .i64 R.W, .int .i64 R.T, .slice A R.C.length c], .slice D2 L2.length d2] w' fun e w'' => ∃ g, e = .returned (.slice (some ⟨g, 0, none⟩) R.cn R.cn) ∧ Reads w'' w''.heap.size 1 (some ⟨g, 0, none⟩) R.cn (Y.map (Value.int .i64)) ∧ Below w'.heap.size w' w'') := fun w' h => hide ((unhide (hHT2 w' h)).mono fun e w'' hh => by
        obtain ⟨g, rfl, ho, hb⟩ := hh
        rw [hY] at ho ⊢
        exact ⟨g, rfl, Reads.of_own ho, hb⟩)
      have hpk' : ∀ (g3 g4 : Nat) w', Reads w' w'.heap.size 1 (some ⟨g3, 0, none⟩) R.cn (X.map (Value.int .i64)) → Reads w' w'.heap.size 1 (some ⟨g4, 0, none⟩) R.cn (Y.map (Value.int .i64)) →
          Hid (Calls Try.prog 102 #[.slice (some ⟨g3, 0, none⟩) R.cn R.cn, .slice (some ⟨g4, 0, none⟩) R.cn R.cn, fv] w' fun e w'' => ∃ g, e = .returned (.slice (some ⟨g, 0, none⟩) R.cn R.cn) ∧ Reads w'' w''.heap.size 1 (some ⟨g, 0, none⟩) R.cn (Z.map (Value.int .i64)) ∧ Below w'.heap.size w' w'') := by
        intro g3 g4 w' a b
        refine hide ((HPK.out (some ⟨g3, 0, none⟩) (some ⟨g4, 0, none⟩) R.cn R.cn w'.heap.size X Y R.cn hX hY (by omega) w' a b (Nat.le_refl _)).mono fun e w'' hh => ?_)
        obtain ⟨g, rfl, ho, hb⟩ := hh
        rw [← hZ, hzl] at ho ⊢
        exact ⟨g, rfl, Reads.of_own ho, hb⟩
      have hBY := fun (g5 : Nat) w' (h : Below w.heap.size w w') (ha : Reads w' w'.heap.size 1 (some ⟨g5, 0, none⟩) R.cn (Z.map (Value.int .i64))) => hide (by_any R hR A c w'.heap.size Z ⟨g5, 0, none⟩ R.cn (hok_of_hp hR hS hZP) w' ((hr.below (h.mono hB)).more (Nat.le_trans hB h.size)) ha (Nat.le_refl _))
      clear hres ht1 ht2 hH1 hH2 hX hY hZ hHT1 hHT2 hzl hZP hb hf
      go_enter Try.func133, Try.ntmps133
      go_wp2_with fail
      refine (unhide (hT1 _ hb0)).mono ?_
      rintro e w1 ⟨rfl, hb1⟩
      obtain ⟨hB1, hk1, b0, b1, b2⟩ := box_keep hb1
      go_wp2_with fail
      refine (unhide (hT2 _ hB1)).mono ?_
      rintro e w2 ⟨rfl, hb2⟩
      have hB2 := hB1.trans (hb2.mono hB1.size)
      clear b0 b1 b2
      obtain ⟨hk2, b0, b1, b2⟩ := blk_keep hk1 hb2
      clear hk1 hb1 hb2 hB1 hT1 hT2
      go_upto_region 3 with fail
      go_region_held3 (fun w' => w'.cell? ⟨w.heap.size, 0, none⟩ = some (.int .i64 R.W) ∧ w'.cell? ⟨w.heap.size, 1, none⟩ = some (.int .i64 R.T) ∧ w'.cell? ⟨w.heap.size, 2, none⟩ = some (.slice A R.C.length c))
        (first
          | exact ⟨b0, b1, b2⟩
          | exact ⟨cell_kept (w := w2.drew) b0 hb3, cell_kept (w := w2.drew) b1 hb3, cell_kept (w := w2.drew) b2 hb3⟩
          | exact ⟨cell_kept (cell_kept (w := w2.drew) b0 hb3) hb4, cell_kept (cell_kept (w := w2.drew) b1 hb3) hb4, cell_kept (cell_kept (w := w2.drew) b2 hb3) hb4⟩
          | exact ⟨cell_kept (cell_kept (cell_kept (w := w2.drew) b0 hb3) hb4) hb5, cell_kept (cell_kept (cell_kept (w := w2.drew) b1 hb3) hb4) hb5, cell_kept (cell_kept (cell_kept (w := w2.drew) b2 hb3) hb4) hb5⟩
          | exact ⟨cell_kept (cell_kept (cell_kept (cell_kept (w := w2.drew) b0 hb3) hb4) hb5) hb6, cell_kept (cell_kept (cell_kept (cell_kept (w := w2.drew) b1 hb3) hb4) hb5) hb6, cell_kept (cell_kept (cell_kept (cell_kept (w := w2.drew) b2 hb3) hb4) hb5) hb6⟩)
        (first
          | (go_at_call 103; (with_reducible refine (unhide (hHT1' _ hB2.drew)).mono ?_); rintro e w3 ⟨g3, rfl, hr3, hb3⟩)
          | (go_at_call 103; (with_reducible refine (unhide (hHT2' _ (hB2.drew.trans (hb3.mono hB2.drew.size)))).mono ?_); rintro e w4 ⟨g4, rfl, hr4, hb4⟩)
          | (go_at_call 102; (with_reducible refine (unhide (hpk' _ _ _ ((hr3.below hb4).more hb4.size) hr4)).mono ?_); rintro e w5 ⟨g5, rfl, hr5, hb5⟩)
          | (go_at_call 126; (with_reducible refine (unhide (hBY _ _ ((hB2.drew.trans (hb3.mono hB2.drew.size)).trans (Below.mono (hb4.trans (hb5.mono hb4.size)) (hB2.drew.trans (hb3.mono hB2.drew.size)).size)) hr5)).mono ?_); rintro e w6 ⟨g6, rfl, ho6, hb6⟩))
      have hB3 := hB2.drew.trans (hb3.mono hB2.drew.size)
      have hB4 := hB3.trans (hb4.mono hB3.size)
      have hB5 := hB4.trans (hb5.mono hB4.size)
      go_wp2_with fail
      go_ret2
      exact ⟨_, _, _, rfl, own_mono ho6 hB5.size, hB5.trans (hb6.mono hB5.size)⟩

theorem pickLesser : PickAny (.func (.func 120) #[] #[]) min := fun A D c d B L M n h1 h2 h3 w h4 h5 h6 => pick_lesser A D c d B L M n h1 h2 h3 w h4 h5 h6
theorem pickGreater : PickAny (.func (.func 118) #[] #[]) max := fun A D c d B L M n h1 h2 h3 w h4 h5 h6 => pick_greater A D c d B L M n h1 h2 h3 w h4 h5 h6

theorem tilingLowI_any (W T : Int) (A : Option Addr) (n c B : Nat) (bs : List Bool) (L1 : List Int) (D1 : Option Addr) (m1 d1 : Nat) (L2 : List Int) (D2 : Option Addr) (m2 d2 : Nat) (w : World) (hbl : bs.length = n) (hL1 : L1.length = m1) (hL2 : L2.length = m2)
    (hr : Reads w B 1 A n (bs.map Value.bool)) (h1 : Reads w B 1 D1 m1 (L1.map (Value.int .i64))) (h2 : Reads w B 1 D2 m2 (L2.map (Value.int .i64))) (hB : B ≤ w.heap.size) (hn : n ≤ 9223372036854775807) (hm1 : m1 ≤ 9223372036854775807) (hm2 : m2 ≤ 9223372036854775807) :
    Calls Try.prog 66 #[.agg #[.int .i64 W, .int .i64 T, .slice A n c], .slice D1 m1 d1, .slice D2 m2 d2] w (RetIB w (twoV min W T bs L1 L2) (twoB W T bs L1 L2)) := by
  have hb0 : Below w.heap.size w (w.alloc (boxR W T A n c)) := (Below.refl _ _).alloc (Nat.le_refl _) _
  have HB := hide (bound_any _ _ pickLesser keeps_min W T A n c B bs L1 D1 m1 d1 L2 D2 m2 d2 _ hbl hL1 hL2 (hr.below (hb0.mono hB)) (h1.below (hb0.mono hB)) (h2.below (hb0.mono hB)) (Nat.le_trans hB hb0.size) hn hm1 hm2)
  go_enter Try.func66, Try.ntmps66
  go_wp2_with fail
  refine (unhide HB).mono ?_
  rintro e w1 ⟨Ar, c1, c2, rfl, ho, hb1⟩
  go_wp2_with fail
  go_ret2
  exact ⟨_, _, _, rfl, own_mono ho hb0.size, hb0.trans (hb1.mono hb0.size)⟩

/-! ### The reference -/
theorem htsOf_mty {W T : Int} {bs : List Bool} {L : List Int} (h : tiledB W T bs L = false) : hokB W T bs (htsOf W T bs L) = false := by rw [htsOf_no h, hokB_nil]
theorem htsOf_hok {W T : Int} {bs : List Bool} {L : List Int} (h : tiledB W T bs L = true) : hokB W T bs (htsOf W T bs L) = true := by
  obtain ⟨R, hR, rfl, rfl, rfl, hS, _⟩ := tiled_cases h
  exact (hokB_hp hR hS).2 (htsOf_hp hR h)
theorem low_val (W T : Int) (bs : List Bool) (a b : List Int) :
    byV W T bs (lowL W T bs (htsOf W T bs a) (htsOf W T bs b)) = twoV min W T bs a b ∧ hokB W T bs (lowL W T bs (htsOf W T bs a) (htsOf W T bs b)) = twoB W T bs a b := by
  cases h : tiledB W T bs a with
  | false =>
    rw [lowL_a (htsOf_mty h), twoV_no1 h, byV_no (hokB_nil _ _ _), hokB_nil]
    exact ⟨rfl, by unfold twoB; rw [h]; rfl⟩
  | true =>
    cases h' : tiledB W T bs b with
    | false =>
      rw [lowL_b (htsOf_mty h'), twoV_no2 h', byV_no (hokB_nil _ _ _), hokB_nil]
      exact ⟨rfl, by unfold twoB; rw [h, h']; rfl⟩
    | true =>
      rw [lowL_yes (htsOf_hok h) (htsOf_hok h')]
      obtain ⟨R, hR, rfl, rfl, rfl, hS, _⟩ := tiled_cases h
      have hZ := hp_min hR hS.1 (htsOf_hp hR h) (htsOf_hp hR h')
      rw [twoV_yes h h', byV_til hR hS hZ, (hokB_hp hR hS).2 hZ]
      exact ⟨rfl, by unfold twoB; rw [h, h']; rfl⟩
theorem high_val (W T : Int) (bs : List Bool) (a b : List Int) :
    byV W T bs (highL W T bs (htsOf W T bs a) (htsOf W T bs b)) = twoV max W T bs a b ∧ hokB W T bs (highL W T bs (htsOf W T bs a) (htsOf W T bs b)) = twoB W T bs a b := by
  cases h : tiledB W T bs a with
  | false =>
    rw [highL_a (htsOf_mty h), twoV_no1 h, byV_no (hokB_nil _ _ _), hokB_nil]
    exact ⟨rfl, by unfold twoB; rw [h]; rfl⟩
  | true =>
    cases h' : tiledB W T bs b with
    | false =>
      rw [highL_b (htsOf_mty h'), twoV_no2 h', byV_no (hokB_nil _ _ _), hokB_nil]
      exact ⟨rfl, by unfold twoB; rw [h, h']; rfl⟩
    | true =>
      rw [highL_yes (htsOf_hok h) (htsOf_hok h')]
      obtain ⟨R, hR, rfl, rfl, rfl, hS, _⟩ := tiled_cases h
      have hZ := hp_max hR hS.1 (htsOf_hp hR h) (htsOf_hp hR h')
      rw [twoV_yes h h', byV_til hR hS hZ, (hokB_hp hR hS).2 hZ]
      exact ⟨rfl, by unfold twoB; rw [h, h']; rfl⟩

end Go.Proofs.Ytpeifojfpkkcpaa

/-
  YtpeifojfpkkcpaaLa: what the property laws on heights and on the order say, of the values. Plain Lean.
-/
namespace Go.Proofs.Ytpeifojfpkkcpaa

theorem hokB_cases {W T : Int} {bs : List Bool} {hs : List Int} (h : hokB W T bs hs = true) : ∃ R : Reg, R.ok ∧ W = (R.W : Int) ∧ T = (R.T : Int) ∧ bs = R.C ∧ SimpleP R ∧ HP R hs := by
  obtain ⟨R, hR, hS, h1, h2, h3, h4⟩ := hokB_iff.1 h
  exact ⟨R, hR, h1, h2, h3, hS, hp_of_hok hR h4⟩
theorem tiledB_tiling {W T : Int} {bs : List Bool} {L : List Int} (h : tiledB W T bs L = true) : tilingB W T bs L = true := by
  unfold tiledB at h; rw [Bool.and_eq_true] at h; exact h.2
/-- TilingBy of right heights is a tiling, and its heights are these. -/
theorem law_by {W T : Int} {bs : List Bool} {hs : List Int} (h : hokB W T bs hs = true) : tilingB W T bs (byV W T bs hs) = true ∧ htsOf W T bs (byV W T bs hs) = hs := by
  obtain ⟨R, hR, rfl, rfl, rfl, hS, hH⟩ := hokB_cases h
  rw [byV_til hR hS hH]
  exact ⟨tiledB_tiling (tiled_tilH hR hS hH), htsOf_til hR hS hH⟩
/-- A tiling's heights are right, and TilingBy leads back. -/
theorem law_hts {W T : Int} {bs : List Bool} {L : List Int} (h : tiledB W T bs L = true) : hokB W T bs (htsOf W T bs L) = true ∧ byV W T bs (htsOf W T bs L) = L := by
  obtain ⟨R, hR, rfl, rfl, rfl, hS, _, _⟩ := tiled_cases h
  have hH := htsOf_hp hR h
  exact ⟨(hokB_hp hR hS).2 hH, by rw [byV_til hR hS hH]; exact tilH_hts hR h⟩
theorem hok_two {W T : Int} {bs : List Bool} {a b : List Int} (h : hokB W T bs a = true) (g : hokB W T bs b = true) : ∃ R : Reg, R.ok ∧ W = (R.W : Int) ∧ T = (R.T : Int) ∧ bs = R.C ∧ SimpleP R ∧ HP R a ∧ HP R b := by
  obtain ⟨R, hR, rfl, rfl, rfl, hS, hH⟩ := hokB_cases h
  exact ⟨R, hR, rfl, rfl, rfl, hS, hH, (hokB_hp hR hS).1 g⟩
theorem law_low {W T : Int} {bs : List Bool} {a b : List Int} (h : hokB W T bs a = true) (g : hokB W T bs b = true) : hokB W T bs (List.zipWith min a b) = true ∧ hokB W T bs (List.zipWith max a b) = true ∧ a.length = b.length := by
  obtain ⟨R, hR, rfl, rfl, rfl, hS, hH, hG⟩ := hok_two h g
  exact ⟨(hokB_hp hR hS).2 (hp_min hR hS.1 hH hG), (hokB_hp hR hS).2 (hp_max hR hS.1 hH hG), by rw [hH.len, hG.len]⟩
theorem zip_getD {f : Int → Int → Int} {a b : List Int} {k : Nat} (ha : k < a.length) (hb : k < b.length) : (List.zipWith f a b).getD k 0 = f (a.getD k 0) (b.getD k 0) := by
  rw [List.getD_eq_getElem?_getD, List.getD_eq_getElem?_getD, List.getD_eq_getElem?_getD, List.getElem?_zipWith, List.getElem?_eq_getElem ha, List.getElem?_eq_getElem hb]
  rfl
theorem zip_comm {f : Int → Int → Int} (hf : ∀ x y, f x y = f y x) : ∀ (a b : List Int), List.zipWith f a b = List.zipWith f b a
  | [], [] => rfl
  | [], _ :: _ => rfl
  | _ :: _, [] => rfl
  | x :: a, y :: b => by simp only [List.zipWith_cons_cons, zip_comm hf a b, hf x y]
theorem zip_self {f : Int → Int → Int} (hf : ∀ x, f x x = x) : ∀ (a : List Int), List.zipWith f a a = a
  | [] => rfl
  | x :: a => by simp only [List.zipWith_cons_cons, zip_self hf a, hf x]

/-! ### Two tilings of a simple region -/
theorem two_cases {W T : Int} {bs : List Bool} {a b : List Int} (h : tiledB W T bs a = true) (g : tiledB W T bs b = true) : ∃ R : Reg, R.ok ∧ W = (R.W : Int) ∧ T = (R.T : Int) ∧ bs = R.C ∧ SimpleP R ∧ Tile R a ∧ Tile R b := by
  obtain ⟨R, hR, rfl, rfl, rfl, hS, h1, h2⟩ := tiled_cases h
  obtain ⟨_, h3, h4⟩ := (tiled_ok hR).1 g
  exact ⟨R, hR, rfl, rfl, rfl, hS, ⟨h1, h2⟩, h3, h4⟩
theorem tiled_tile {R : Reg} (hR : R.ok) (hS : SimpleP R) {L : List Int} (h : Tile R L) : tiledB R.W R.T R.C L = true := (tiled_ok hR).2 ⟨hS, h.1, h.2⟩
/-- The low one and the high one, by their heights. -/
theorem two_hts {f : Int → Int → Int} (hf : Keeps f) {R : Reg} (hR : R.ok) (hS : SimpleP R) {a b : List Int} (ha : Tile R a) (hb : Tile R b) :
    Tile R (twoV f R.W R.T R.C a b) ∧ htsOf R.W R.T R.C (twoV f R.W R.T R.C a b) = List.zipWith f (htsOf R.W R.T R.C a) (htsOf R.W R.T R.C b) := by
  have h1 := tiled_tile hR hS ha
  have h2 := tiled_tile hR hS hb
  have hH : HP R (List.zipWith f (htsOf R.W R.T R.C a) (htsOf R.W R.T R.C b)) := hf hR hS.1 (htsOf_hp hR h1) (htsOf_hp hR h2)
  rw [twoV_yes h1 h2]
  exact ⟨⟨lay_tilH hR hH, full_tilH hR hH⟩, htsOf_til hR hS hH⟩
theorem hts_len {R : Reg} (hR : R.ok) (hS : SimpleP R) {a : List Int} (ha : Tile R a) : (htsOf R.W R.T R.C a).length = R.cn := (hp_of_tile hR hS ha).len
/-- Below, by heights. -/
theorem below_iff {R : Reg} (hR : R.ok) (hS : SimpleP R) {a b : List Int} (ha : Tile R a) (hb : Tile R b) :
    belowB R.W R.T R.C a b = true ↔ ∀ k, k < R.cn → (htsOf R.W R.T R.C a).getD k 0 ≤ (htsOf R.W R.T R.C b).getD k 0 := by
  unfold belowB
  rw [tiled_tile hR hS ha, tiled_tile hR hS hb, Bool.true_and, Bool.true_and]
  unfold leB
  rw [List.all_eq_true, hts_len hR hS ha]
  constructor
  · intro h k hk
    exact of_decide_eq_true (h k (List.mem_range.2 hk))
  · intro h k hk
    exact decide_eq_true (h k (List.mem_range.1 hk))
theorem hts_ext {R : Reg} (hR : R.ok) (hS : SimpleP R) {a b : List Int} (ha : Tile R a) (hb : Tile R b) (h : ∀ k, k < R.cn → (htsOf R.W R.T R.C a).getD k 0 = (htsOf R.W R.T R.C b).getD k 0) : a = b := by
  refine tile_ext hR hS ha hb ?_
  have l1 := hts_len hR hS ha
  have l2 := hts_len hR hS hb
  apply List.ext_getElem (by rw [l1, l2])
  intro k h1 h2
  have := h k (by omega)
  rw [List.getD_eq_getElem?_getD, List.getD_eq_getElem?_getD, List.getElem?_eq_getElem h1, List.getElem?_eq_getElem h2] at this
  exact this
theorem two_at {f : Int → Int → Int} (hf : Keeps f) {R : Reg} (hR : R.ok) (hS : SimpleP R) {a b : List Int} (ha : Tile R a) (hb : Tile R b) {k : Nat} (hk : k < R.cn) :
    (htsOf R.W R.T R.C (twoV f R.W R.T R.C a b)).getD k 0 = f ((htsOf R.W R.T R.C a).getD k 0) ((htsOf R.W R.T R.C b).getD k 0) := by
  rw [(two_hts hf hR hS ha hb).2]
  exact zip_getD (by rw [hts_len hR hS ha]; exact hk) (by rw [hts_len hR hS hb]; exact hk)
theorem twoB_iff {W T : Int} {bs : List Bool} {a b : List Int} : twoB W T bs a b = true ↔ tiledB W T bs a = true ∧ tiledB W T bs b = true := by unfold twoB; rw [Bool.and_eq_true]
theorem twoV_mty {f : Int → Int → Int} {W T : Int} {bs : List Bool} {a b : List Int} (h : twoB W T bs a b = false) : twoV f W T bs a b = [] := by
  cases h1 : tiledB W T bs a with
  | false => exact twoV_no1 h1
  | true =>
    cases h2 : tiledB W T bs b with
    | false => exact twoV_no2 h2
    | true => rw [twoB_iff.2 ⟨h1, h2⟩] at h; cases h
/-- TilingHigh. -/
theorem law_high {W T : Int} {bs : List Bool} {a b : List Int} (h : twoB W T bs a b = true) :
    tilingB W T bs (twoV max W T bs a b) = true ∧ belowB W T bs a (twoV max W T bs a b) = true ∧ belowB W T bs b (twoV max W T bs a b) = true ∧ twoV max W T bs b a = twoV max W T bs a b ∧ twoV max W T bs a a = a := by
  obtain ⟨h1, h2⟩ := twoB_iff.1 h
  obtain ⟨R, hR, rfl, rfl, rfl, hS, ha, hb⟩ := two_cases h1 h2
  obtain ⟨t1, e1⟩ := two_hts keeps_max hR hS ha hb
  refine ⟨tiledB_tiling (tiled_tile hR hS t1), (below_iff hR hS ha t1).2 fun k hk => ?_, (below_iff hR hS hb t1).2 fun k hk => ?_, ?_, ?_⟩
  · rw [two_at keeps_max hR hS ha hb hk]; omega
  · rw [two_at keeps_max hR hS ha hb hk]; omega
  · rw [twoV_yes h1 h2, twoV_yes h2 h1, zip_comm (fun x y => by omega)]
  · rw [twoV_yes h1 h1, zip_self (fun x => by omega)]
    exact tilH_hts hR h1
/-- Below: no circle; and the low one. -/
theorem law_below {W T : Int} {bs : List Bool} {a b : List Int} :
    (belowB W T bs a b = true → belowB W T bs b a = true → a = b) ∧ (twoB W T bs a b = true → belowB W T bs a b = (twoV min W T bs a b == a)) ∧ (belowB W T bs a b = true → twoB W T bs a b = true) := by
  have key : belowB W T bs a b = true → tiledB W T bs a = true ∧ tiledB W T bs b = true := fun h => by
    unfold belowB at h
    rw [Bool.and_eq_true, Bool.and_eq_true] at h
    exact h.1
  refine ⟨fun h g => ?_, fun h => ?_, fun h => twoB_iff.2 (key h)⟩
  · obtain ⟨h1, h2⟩ := key h
    obtain ⟨R, hR, rfl, rfl, rfl, hS, ha, hb⟩ := two_cases h1 h2
    have e1 := (below_iff hR hS ha hb).1 h
    have e2 := (below_iff hR hS hb ha).1 g
    exact hts_ext hR hS ha hb fun k hk => by have := e1 k hk; have := e2 k hk; omega
  · obtain ⟨h1, h2⟩ := twoB_iff.1 h
    obtain ⟨R, hR, rfl, rfl, rfl, hS, ha, hb⟩ := two_cases h1 h2
    obtain ⟨t1, _⟩ := two_hts keeps_min hR hS ha hb
    rw [Bool.eq_iff_iff, below_iff hR hS ha hb, beq_iff_eq]
    constructor
    · intro h
      refine hts_ext hR hS t1 ha fun k hk => ?_
      rw [two_at keeps_min hR hS ha hb hk]
      have := h k hk
      omega
    · intro h k hk
      have := two_at keeps_min hR hS ha hb hk
      rw [h] at this
      omega

end Go.Proofs.Ytpeifojfpkkcpaa

/-
  YtpeifojfpkkcpaaLb: what the property laws on flips and on how far tilings are apart say, of the values. Plain Lean.
-/
namespace Go.Proofs.Ytpeifojfpkkcpaa

/-! ### A flip and back -/
theorem upd_back {w : Int → Int → Int} {a b n0 n1 n2 n3 m0 m1 m2 m3 : Int} (h0 : w a b = m0) (h1 : w (a + 1) b = m1) (h2 : w a (b + 1) = m2) (h3 : w (a + 1) (b + 1) = m3) (x y : Int) :
    upd (fun x y => upd w a b n0 n1 n2 n3 x y) a b m0 m1 m2 m3 x y = w x y := by
  have ha : ¬ a + 1 = a := by omega
  have hb : ¬ b + 1 = b := by omega
  unfold upd
  by_cases hy : y = b
  · subst hy
    by_cases hx : x = a
    · subst hx; simp [h0]
    · by_cases hx2 : x = a + 1
      · subst hx2; rw [if_pos rfl, if_neg ha, if_pos rfl, h1]
      · simp [hx, hx2]
  · by_cases hy2 : y = b + 1
    · subst hy2
      by_cases hx : x = a
      · subst hx; rw [if_neg hb, if_pos rfl, if_pos rfl, h2]
      · by_cases hx2 : x = a + 1
        · subst hx2; rw [if_neg hb, if_pos rfl, if_neg ha, if_pos rfl, h3]
        · simp [hx, hx2]
    · simp [hy, hy2]
theorem set4_ways {R : Reg} (hR : R.ok) {L : List Int} (hL : L.length = R.C.length) {a b : Nat} (ha : a + 1 < R.W) (hb : b + 1 < R.T) (n0 n1 n2 n3 : Int) :
    R.way (set4 R L (b * R.W + a) n0 n1 n2 n3) a b = n0 ∧ R.way (set4 R L (b * R.W + a) n0 n1 n2 n3) ((a : Int) + 1) b = n1 ∧ R.way (set4 R L (b * R.W + a) n0 n1 n2 n3) a ((b : Int) + 1) = n2 := by
  refine ⟨?_, ?_, ?_⟩ <;> rw [way_set4 hR hL ha hb] <;> unfold upd <;> simp
  all_goals omega
theorem flV_back {R : Reg} (hR : R.ok) {L : List Int} (hL : Lay R L) {k : Int} (h : flB R L k = true) :
    flB R (flV R L k) k = true ∧ flV R (flV R L k) k = L ∧ fl1 R (flV R L k) k = fl2 R L k ∧ fl2 R (flV R L k) k = fl1 R L k := by
  obtain ⟨a, b, ha, hb, rfl, hc⟩ := fl_cases h
  have hLy := lay_flV hR hL (R.ci (a + 1) (b + 1) : Nat)
  have hback : ∀ m0 m1 m2 m3 n0 n1 n2 n3 : Int, R.way L a b = m0 → R.way L ((a : Int) + 1) b = m1 → R.way L a ((b : Int) + 1) = m2 → R.way L ((a : Int) + 1) ((b : Int) + 1) = m3 →
      ∀ x y, R.way (set4 R (set4 R L (b * R.W + a) n0 n1 n2 n3) (b * R.W + a) m0 m1 m2 m3) x y = R.way L x y := by
    intro m0 m1 m2 m3 n0 n1 n2 n3 h0 h1 h2 h3 x y
    rw [way_set4 hR (by rw [set4_len]; exact hL.len) ha hb]
    have e : (fun x y => R.way (set4 R L (b * R.W + a) n0 n1 n2 n3) x y) = fun x y => upd (fun x y => R.way L x y) a b n0 n1 n2 n3 x y := by
      funext x y
      exact way_set4 hR hL.len ha hb n0 n1 n2 n3 x y
    have := upd_back (w := fun x y => R.way L x y) (n0 := n0) (n1 := n1) (n2 := n2) (n3 := n3) h0 h1 h2 h3 x y
    rw [← e] at this
    exact this
  rcases hc with ⟨h1, h2⟩ | ⟨h1, h2⟩
  · obtain ⟨w0, w1, w2, w3⟩ := flat_four hL h1
    rw [h2] at hLy ⊢
    obtain ⟨v0, v1, v2⟩ := set4_ways hR hL.len ha hb 2 2 4 4
    have f2 : fl2 R (set4 R L (b * R.W + a) 2 2 4 4) (R.ci (a + 1) (b + 1) : Nat) = true := (fl2_at ha hb).2 ⟨v0, v1⟩
    have f1 : fl1 R (set4 R L (b * R.W + a) 2 2 4 4) (R.ci (a + 1) (b + 1) : Nat) = false := by
      rw [Bool.eq_false_iff]
      intro hf
      have := ((fl1_at ha hb).1 hf).1
      omega
    have g1 : fl1 R L (R.ci (a + 1) (b + 1) : Nat) = true := (fl1_at ha hb).2 h1
    have g2 := fl12 g1
    refine ⟨by unfold flB; rw [f2, Bool.or_true], ?_, by rw [f1, g2], by rw [f2, g1]⟩
    have hv : flV R (set4 R L (b * R.W + a) 2 2 4 4) (R.ci (a + 1) (b + 1) : Nat) = set4 R (set4 R L (b * R.W + a) 2 2 4 4) (b * R.W + a) 1 3 1 3 := by
      unfold flV
      rw [if_neg (by rw [f1]; decide), if_pos f2, Int.toNat_natCast, (ab_ins ha hb).2]
    have hL2 := lay_flV hR hLy (R.ci (a + 1) (b + 1) : Nat)
    rw [hv] at hL2 ⊢
    exact lay_ext hR hL2 hL fun x y _ => hback _ _ _ _ _ _ _ _ w0 w1 w2 w3 x y
  · obtain ⟨w0, w1, w2, w3⟩ := upr_four hL h1
    rw [h2] at hLy ⊢
    obtain ⟨v0, v1, v2⟩ := set4_ways hR hL.len ha hb 1 3 1 3
    have f1 : fl1 R (set4 R L (b * R.W + a) 1 3 1 3) (R.ci (a + 1) (b + 1) : Nat) = true := (fl1_at ha hb).2 ⟨v0, v2⟩
    have f2 := fl12 f1
    have g2 : fl2 R L (R.ci (a + 1) (b + 1) : Nat) = true := (fl2_at ha hb).2 h1
    have g1 : fl1 R L (R.ci (a + 1) (b + 1) : Nat) = false := by
      rw [Bool.eq_false_iff]
      intro hf
      have := ((fl1_at ha hb).1 hf).1
      omega
    refine ⟨by unfold flB; rw [f1, Bool.true_or], ?_, by rw [f1, g2], by rw [f2, g1]⟩
    have hv : flV R (set4 R L (b * R.W + a) 1 3 1 3) (R.ci (a + 1) (b + 1) : Nat) = set4 R (set4 R L (b * R.W + a) 1 3 1 3) (b * R.W + a) 2 2 4 4 := by
      unfold flV
      rw [if_pos f1, Int.toNat_natCast, (ab_ins ha hb).2]
    have hL2 := lay_flV hR hLy (R.ci (a + 1) (b + 1) : Nat)
    rw [hv] at hL2 ⊢
    exact lay_ext hR hL2 hL fun x y _ => hback _ _ _ _ _ _ _ _ w0 w1 w2 w3 x y
theorem rsV_back {R : Reg} (hR : R.ok) {L : List Int} (hL : Lay R L) {k : Nat} (h : flB R L (k : Int) = true) : rsV R (flV R L (k : Int)) k = - rsV R L k := by
  obtain ⟨_, _, e1, e2⟩ := flV_back hR hL h
  unfold rsV
  rw [e1, e2]
  cases h1 : fl1 R L (k : Int) with
  | true => rw [fl12 h1]; simp; omega
  | false =>
    unfold flB at h
    rw [h1, Bool.false_or] at h
    rw [h]
    simp only [if_true, Bool.false_eq_true, if_false]
    omega

/-! ### Sums of differences -/
theorem dif_comm (x y : Int) : dif x y = dif y x := by unfold dif; omega
theorem dif_self (x : Int) : dif x x = 0 := by unfold dif; omega
theorem sum_dif_min : ∀ (X Y : List Int), (List.zipWith dif X Y).sum = (List.zipWith dif X (List.zipWith min X Y)).sum + (List.zipWith dif (List.zipWith min X Y) Y).sum
  | [], _ => by simp
  | _ :: _, [] => by simp
  | x :: X, y :: Y => by
    have ih := sum_dif_min X Y
    simp only [List.zipWith_cons_cons, List.sum_cons]
    rw [ih]
    unfold dif
    omega
theorem sum_dif_tri : ∀ (X Y Z : List Int), X.length = Z.length → Y.length = Z.length → (List.zipWith dif X Y).sum ≤ (List.zipWith dif X Z).sum + (List.zipWith dif Z Y).sum
  | [], _, _, _, _ => by
    rename_i Y Z h g
    cases Z with
    | nil => simp
    | cons z Z => simp at h
  | _ :: _, [], Z, _, g => by
    cases Z with
    | nil => simp
    | cons z Z => simp at g
  | _ :: _, _ :: _, [], h, _ => by simp at h
  | x :: X, y :: Y, z :: Z, h, g => by
    have ih := sum_dif_tri X Y Z (by simpa using h) (by simpa using g)
    simp only [List.zipWith_cons_cons, List.sum_cons]
    have : dif x y ≤ dif x z + dif z y := by unfold dif; omega
    omega
theorem sum_mod4 : ∀ (X : List Int), (∀ k, k < X.length → X.getD k 0 % 4 = 0) → X.sum % 4 = 0
  | [], _ => rfl
  | x :: X, h => by
    have ih := sum_mod4 X fun k hk => by have := h (k + 1) (by simpa using hk); simpa using this
    have h0 := h 0 (by simp)
    simp only [List.getD_cons_zero] at h0
    rw [List.sum_cons]
    omega
theorem dsum_mod {R : Reg} (hR : R.ok) (hS : SimpleP R) {M N : List Int} (h : Tile R M) (g : Tile R N) : dsum R N M % 4 = 0 := by
  unfold dsum
  refine sum_mod4 _ fun k hk => ?_
  have l1 := hts_len hR hS h
  have l2 := hts_len hR hS g
  rw [List.length_zipWith, l1, l2, Nat.min_self] at hk
  rw [zip_getD (by rw [l1]; exact hk) (by rw [l2]; exact hk)]
  have := getD_mod hR hS h g hk
  unfold dif
  omega
theorem apartV_tile {R : Reg} (hR : R.ok) (hS : SimpleP R) {a b : List Int} (ha : Tile R a) (hb : Tile R b) : apartV R.W R.T R.C a b = dsum R b a / 4 := by
  unfold apartV
  rw [tiled_tile hR hS ha, tiled_tile hR hS hb]
  rfl
theorem apartV_no {W T : Int} {bs : List Bool} {a b : List Int} (h : twoB W T bs a b = false) : apartV W T bs a b = -1 := by
  unfold apartV
  unfold twoB at h
  rw [h]; rfl
/-- Apart: both ways; over the low one; 0 for equal ones alone; and over a third one. -/
theorem law_apart {W T : Int} {bs : List Bool} {a b : List Int} (h : twoB W T bs a b = true) :
    0 ≤ apartV W T bs a b ∧ apartV W T bs b a = apartV W T bs a b ∧ apartV W T bs a (twoV min W T bs a b) + apartV W T bs (twoV min W T bs a b) b = apartV W T bs a b ∧
    (apartV W T bs a b = 0 ↔ a = b) ∧ (∀ c, tiledB W T bs c = true → apartV W T bs a b ≤ apartV W T bs a c + apartV W T bs c b) ∧ apartV W T bs a b ≤ 1838 ∧
    (∀ c, tiledB W T bs c = true → 0 ≤ apartV W T bs a c ∧ apartV W T bs a c ≤ 1838 ∧ 0 ≤ apartV W T bs c b ∧ apartV W T bs c b ≤ 1838) := by
  obtain ⟨h1, h2⟩ := twoB_iff.1 h
  obtain ⟨R, hR, rfl, rfl, rfl, hS, ha, hb⟩ := two_cases h1 h2
  obtain ⟨t1, e1⟩ := two_hts keeps_min hR hS ha hb
  have hbd := dsum_bd hR hS ha hb
  have hm := dsum_mod hR hS ha hb
  rw [apartV_tile hR hS ha hb, apartV_tile hR hS hb ha, apartV_tile hR hS ha t1, apartV_tile hR hS t1 hb]
  refine ⟨by omega, ?_, ?_, ?_, fun c hc => ?_, by omega, fun c hc => ?_⟩
  · unfold dsum; rw [zip_comm dif_comm]
  · have hs := sum_dif_min (htsOf R.W R.T R.C a) (htsOf R.W R.T R.C b)
    rw [← e1] at hs
    have m1 := dsum_mod hR hS ha t1
    have m2 := dsum_mod hR hS t1 hb
    have hs' : dsum R b a = dsum R (twoV min R.W R.T R.C a b) a + dsum R b (twoV min R.W R.T R.C a b) := hs
    omega
  · have := dsum_pos hR hS ha hb
    constructor
    · intro h0
      exact Classical.byContradiction fun hne => by have := this.2 hne; omega
    · rintro rfl
      have hz : ¬ 0 < dsum R a a / 4 := fun h => (dsum_pos hR hS ha ha).1 h rfl
      omega
  · obtain ⟨_, hc1, hc2⟩ := (tiled_ok hR).1 hc
    have tc : Tile R c := ⟨hc1, hc2⟩
    rw [apartV_tile hR hS ha tc, apartV_tile hR hS tc hb]
    have hs : dsum R b a ≤ dsum R c a + dsum R b c := sum_dif_tri _ _ _ (by rw [hts_len hR hS ha, hts_len hR hS tc]) (by rw [hts_len hR hS hb, hts_len hR hS tc])
    have m1 := dsum_mod hR hS ha tc
    have m2 := dsum_mod hR hS tc hb
    omega
  · obtain ⟨_, hc1, hc2⟩ := (tiled_ok hR).1 hc
    have tc : Tile R c := ⟨hc1, hc2⟩
    rw [apartV_tile hR hS ha tc, apartV_tile hR hS tc hb]
    have b1 := dsum_bd hR hS ha tc
    have b2 := dsum_bd hR hS tc hb
    omega
/-- FlipRise. -/
theorem frV_tile {R : Reg} (hR : R.ok) (hS : SimpleP R) {L : List Int} (h : Tile R L) (k : Int) : frV R.W R.T R.C L k = rsZ R L k := frV_yes (tiled_tile hR hS h)
theorem law_rise {R : Reg} (hR : R.ok) (hS : SimpleP R) {L : List Int} (h : Tile R L) {k : Int} (hn : rsZ R L k ≠ 0) :
    ∃ m : Nat, k = (m : Int) ∧ m < R.cn ∧ flB R L k = true ∧ (rsZ R L k = 4 ∨ rsZ R L k = -4) ∧ Tile R (flV R L k) ∧
    htsOf R.W R.T R.C (flV R L k) = (htsOf R.W R.T R.C L).set m ((htsOf R.W R.T R.C L).getD m 0 + rsZ R L k) ∧
    frV R.W R.T R.C (flV R L k) k = - rsZ R L k ∧ apartV R.W R.T R.C L (flV R L k) = 1 := by
  have hfb : flB R L k = true := by
    cases hb : flB R L k with
    | true => rfl
    | false => exact absurd (rsZ_no hb) hn
  obtain ⟨m, rfl, hm, he⟩ := flB_nat hfb
  have ht := tile_flV hR h (m : Int)
  have hr := rsV_or hfb
  refine ⟨m, rfl, hm, hfb, by rw [he]; exact hr, ht, by rw [he]; exact hts_step hR hS h hfb, ?_, ?_⟩
  · rw [frV_tile hR hS ht, rsZ_nat, he, rsV_back hR h.1 hfb]
  · rw [apartV_tile hR hS h ht]
    have hl := hts_len hR hS h
    have hp : wyP R (flV R L (m : Int)) L m = true := by
      unfold wyP
      rw [he, hts_step hR hS h hfb]
      have hg : ((htsOf R.W R.T R.C L).set m ((htsOf R.W R.T R.C L).getD m 0 + rsV R L m)).getD m 0 = (htsOf R.W R.T R.C L).getD m 0 + rsV R L m := by
        rw [List.getD_eq_getElem?_getD, List.getElem?_set_self (by rw [hl]; exact hm)]; rfl
      rw [hg]
      rcases hr with hr | hr <;> rw [hr] <;> simp <;> omega
    have h1 := dsum_step hR hS h ht hm hfb hp
    have h2 : dsum R (flV R L (m : Int)) (flV R L (m : Int)) = 0 := by
      unfold dsum
      have : ∀ X : List Int, (List.zipWith dif X X).sum = 0 := fun X => by
        induction X with
        | nil => rfl
        | cons x X ih => simp only [List.zipWith_cons_cons, List.sum_cons, ih, dif_self]; rfl
      exact this _
    omega

end Go.Proofs.Ytpeifojfpkkcpaa

/-
  YtpeifojfpkkcpaaLc: how many cells a flip changes, and how many flat dominoes. Plain Lean.
-/
namespace Go.Proofs.Ytpeifojfpkkcpaa

theorem countP_range_upd {p q : Nat → Bool} {k : Nat} (h1 : ∀ j, j ≠ k → q j = p j) (hp : p k = false) (hq : q k = true) : ∀ n, k < n → (List.range n).countP q = (List.range n).countP p + 1
  | 0, h => by omega
  | n + 1, h => by
    rw [List.range_succ, List.countP_append, List.countP_append]
    by_cases hkn : k = n
    · subst hkn
      have hsame : (List.range k).countP q = (List.range k).countP p := by
        apply List.countP_congr
        intro j hj
        rw [h1 j (by have := List.mem_range.1 hj; omega)]
      rw [hsame]
      simp [hp, hq]
    · have := countP_range_upd h1 hp hq n (by omega)
      rw [this]
      simp [h1 n (by omega)]
      omega
/-- How many entries below n differ. -/
def chg (X L : List Int) (n : Nat) : Nat := (List.range n).countP fun j => X.getD j 0 != L.getD j 0
theorem chg_succ (X L : List Int) (n : Nat) : chg X L (n + 1) = chg X L n + (if (X.getD n 0 != L.getD n 0) = true then 1 else 0) := by
  unfold chg
  rw [List.range_succ, List.countP_append, List.countP_cons, List.countP_nil, Nat.zero_add]
theorem chg_le (X L : List Int) (n : Nat) : chg X L n ≤ n := by
  have := List.countP_le_length (p := fun j => X.getD j 0 != L.getD j 0) (l := List.range n)
  simpa [chg] using this
theorem chg_self (L : List Int) (n : Nat) : chg L L n = 0 := by
  unfold chg
  rw [List.countP_eq_zero]
  intro j _
  simp
theorem getD_set_ne {X : List Int} {k j : Nat} {v : Int} (h : j ≠ k) : (X.set k v).getD j 0 = X.getD j 0 := by
  rw [List.getD_eq_getElem?_getD, List.getD_eq_getElem?_getD, List.getElem?_set_ne (Ne.symm h)]
theorem getD_set_eq {X : List Int} {k : Nat} {v : Int} (h : k < X.length) : (X.set k v).getD k 0 = v := by
  rw [List.getD_eq_getElem?_getD, List.getElem?_set_self h]; rfl
theorem chg_set {X L : List Int} {n k : Nat} {v : Int} (hk : k < n) (hX : k < X.length) (h1 : X.getD k 0 = L.getD k 0) (h2 : v ≠ L.getD k 0) : chg (X.set k v) L n = chg X L n + 1 := by
  unfold chg
  refine countP_range_upd (k := k) (fun j hj => by rw [getD_set_ne hj]) (by rw [h1]; simp) ?_ n hk
  rw [getD_set_eq hX]
  simpa using h2
/-- How many of the first n entries are 1. -/
def ones (X : List Int) (n : Nat) : Nat := (List.range n).countP fun j => X.getD j 0 == 1
theorem ones_succ (X : List Int) (n : Nat) : ones X (n + 1) = ones X n + (if (X.getD n 0 == 1) = true then 1 else 0) := by
  unfold ones
  rw [List.range_succ, List.countP_append, List.countP_cons, List.countP_nil, Nat.zero_add]
theorem ones_le (X : List Int) (n : Nat) : ones X n ≤ n := by
  have := List.countP_le_length (p := fun j => X.getD j 0 == 1) (l := List.range n)
  simpa [ones] using this
theorem ones_keep {X : List Int} {n k : Nat} {v : Int} (hX : k < X.length) (h1 : X.getD k 0 ≠ 1) (h2 : v ≠ 1) : ones (X.set k v) n = ones X n := by
  unfold ones
  apply List.countP_congr
  intro j _
  by_cases hj : j = k
  · subst hj
    rw [getD_set_eq hX, beq_eq_false_iff_ne.2 h2, beq_eq_false_iff_ne.2 h1]
  · rw [getD_set_ne hj]
theorem ones_up {X : List Int} {n k : Nat} (hk : k < n) (hX : k < X.length) (h1 : X.getD k 0 ≠ 1) : ones (X.set k 1) n = ones X n + 1 := by
  unfold ones
  exact countP_range_upd (k := k) (fun j hj => by rw [getD_set_ne hj]) (by simpa using h1) (by rw [getD_set_eq hX]; rfl) n hk
theorem ones_dn {X : List Int} {n k : Nat} {v : Int} (hk : k < n) (hX : k < X.length) (h1 : X.getD k 0 = 1) (h2 : v ≠ 1) : ones X n = ones (X.set k v) n + 1 := by
  unfold ones
  exact countP_range_upd (k := k) (fun j hj => by rw [getD_set_ne hj]) (by rw [getD_set_eq hX]; simpa using h2) (by rw [h1]; rfl) n hk

theorem chg_four {L : List Int} {n s s1 s2 s3 : Nat} {n0 n1 n2 n3 : Int} (hn : L.length = n) (hs : s < s1 ∧ s1 < s2 ∧ s2 < s3 ∧ s3 < n) (h0 : n0 ≠ L.getD s 0) (h1 : n1 ≠ L.getD s1 0) (h2 : n2 ≠ L.getD s2 0) (h3 : n3 ≠ L.getD s3 0) :
    chg ((((L.set s n0).set s1 n1).set s2 n2).set s3 n3) L n = 4 := by
  rw [chg_set (by omega) (by simp; omega) (by rw [getD_set_ne (by omega), getD_set_ne (by omega), getD_set_ne (by omega)]) h3,
    chg_set (by omega) (by simp; omega) (by rw [getD_set_ne (by omega), getD_set_ne (by omega)]) h2,
    chg_set (by omega) (by simp; omega) (by rw [getD_set_ne (by omega)]) h1,
    chg_set (by omega) (by omega) rfl h0, chg_self]
/-- A flip changes four cells, and turns two dominoes. -/
theorem law_flip {R : Reg} (hR : R.ok) {L : List Int} (hL : Lay R L) {k : Int} (h : flB R L k = true) :
    chg (flV R L k) L R.C.length = 4 ∧ ((ones (flV R L k) R.C.length : Int) - ones L R.C.length = 2 ∨ (ones (flV R L k) R.C.length : Int) - ones L R.C.length = -2) := by
  obtain ⟨a, b, ha, hb, rfl, hc⟩ := fl_cases h
  have hn : L.length = R.C.length := hL.len
  have hlt : b * R.W + a + R.W + 1 < R.C.length := by
    have h5 : R.C.length = R.W * R.T := hR.2.2.2.2.1
    have h6 : R.W * (b + 2) ≤ R.W * R.T := Nat.mul_le_mul_left _ (by omega)
    have h7 : R.W * (b + 2) = b * R.W + 2 * R.W := by rw [Nat.mul_add, Nat.mul_comm, Nat.mul_comm R.W 2]
    omega
  obtain ⟨v0, v1, v2⟩ := ways4 (L := L) ha hb
  have v3 : L.getD (b * R.W + a + R.W + 1) 0 = R.way L ((a : Int) + 1) ((b : Int) + 1) := by
    rw [show (a : Int) + 1 = ((a + 1 : Nat) : Int) by omega, show (b : Int) + 1 = ((b + 1 : Nat) : Int) by omega, way_in ha hb, Nat.add_mul]
    congr 1; omega
  rcases hc with ⟨h1, h2⟩ | ⟨h1, h2⟩
  · obtain ⟨w0, w1, w2, w3⟩ := flat_four hL h1
    rw [w0] at v0
    rw [w1] at v1
    rw [w2] at v2
    rw [w3] at v3
    rw [h2]
    unfold set4
    refine ⟨chg_four hn (by omega) (by rw [v0]; decide) (by rw [v1]; decide) (by rw [v2]; decide) (by rw [v3]; decide), .inr ?_⟩
    have e1 := ones_dn (X := L) (n := R.C.length) (k := b * R.W + a) (v := 2) (by omega) (by omega) v0 (by decide)
    have e2 := ones_keep (X := L.set (b * R.W + a) 2) (n := R.C.length) (k := b * R.W + a + 1) (v := 2) (by simp; omega) (by rw [getD_set_ne (by omega), v1]; decide) (by decide)
    have e3 := ones_dn (X := (L.set (b * R.W + a) 2).set (b * R.W + a + 1) 2) (n := R.C.length) (k := b * R.W + a + R.W) (v := 4) (by omega) (by simp; omega) (by rw [getD_set_ne (by omega), getD_set_ne (by omega)]; exact v2) (by decide)
    have e4 := ones_keep (X := ((L.set (b * R.W + a) 2).set (b * R.W + a + 1) 2).set (b * R.W + a + R.W) 4) (n := R.C.length) (k := b * R.W + a + R.W + 1) (v := 4) (by simp; omega) (by rw [getD_set_ne (by omega), getD_set_ne (by omega), getD_set_ne (by omega), v3]; decide) (by decide)
    omega
  · obtain ⟨w0, w1, w2, w3⟩ := upr_four hL h1
    rw [w0] at v0
    rw [w1] at v1
    rw [w2] at v2
    rw [w3] at v3
    rw [h2]
    unfold set4
    refine ⟨chg_four hn (by omega) (by rw [v0]; decide) (by rw [v1]; decide) (by rw [v2]; decide) (by rw [v3]; decide), .inl ?_⟩
    have e1 := ones_up (X := L) (n := R.C.length) (k := b * R.W + a) (by omega) (by omega) (by rw [v0]; decide)
    have e2 := ones_keep (X := L.set (b * R.W + a) 1) (n := R.C.length) (k := b * R.W + a + 1) (v := 3) (by simp; omega) (by rw [getD_set_ne (by omega), v1]; decide) (by decide)
    have e3 := ones_up (X := (L.set (b * R.W + a) 1).set (b * R.W + a + 1) 3) (n := R.C.length) (k := b * R.W + a + R.W) (by omega) (by simp; omega) (by rw [getD_set_ne (by omega), getD_set_ne (by omega), v2]; decide)
    have e4 := ones_keep (X := ((L.set (b * R.W + a) 1).set (b * R.W + a + 1) 3).set (b * R.W + a + R.W) 1) (n := R.C.length) (k := b * R.W + a + R.W + 1) (v := 3) (by simp; omega) (by rw [getD_set_ne (by omega), getD_set_ne (by omega), getD_set_ne (by omega), v3]; decide) (by decide)
    omega

end Go.Proofs.Ytpeifojfpkkcpaa

/-
  YtpeifojfpkkcpaaWy: FlatMany of the program.
-/
namespace Go.Proofs.Ytpeifojfpkkcpaa
open Go.RowKit

end Go.Proofs.Ytpeifojfpkkcpaa
