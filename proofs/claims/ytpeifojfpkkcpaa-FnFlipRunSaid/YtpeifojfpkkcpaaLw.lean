/-
  YtpeifojfpkkcpaaLw: the texts Si, Ls in one file.
-/
import Derived.Test.YtpeifojfpkkcpaaHS
import Derived.Test.YtpeifojfpkkcpaaDq
import Derived.Test.YtpeifojfpkkcpaaRep

/-
  YtpeifojfpkkcpaaSi: the laws' sameInts.
-/
namespace Go.Proofs.Ytpeifojfpkkcpaa
open Go.RowKit

theorem ints_ext {a b : List Int} (hl : a.length = b.length) (h : ∀ j, j < a.length → a.getD j 0 = b.getD j 0) : a = b := by
  apply List.ext_getElem hl
  intro j h1 h2
  have := h j h1
  rw [List.getD_eq_getElem?_getD, List.getD_eq_getElem?_getD, List.getElem?_eq_getElem h1, List.getElem?_eq_getElem h2] at this
  exact this

set_option maxHeartbeats 1000000 in
theorem sameInts_any (a b : List Int) (D1 D2 : Option Addr) (m1 d1 m2 d2 B : Nat) (w : World) (hL1 : a.length = m1) (hL2 : b.length = m2) (h1 : Reads w B 1 D1 m1 (a.map (Value.int .i64))) (h2 : Reads w B 1 D2 m2 (b.map (Value.int .i64))) (hm1 : m1 ≤ 1048576) (_hm2 : m2 ≤ 1048576) :
    Calls Try.prog 17 #[.slice D1 m1 d1, .slice D2 m2 d2] w fun e w' => e = .returned (.bool (a == b)) ∧ Below w.heap.size w w' := by
  have HL1 := Lib.hid hL1
  have HL2 := Lib.hid hL2
  clear hL1 hL2
  obtain ⟨v, hv⟩ : ∃ v, v = (a == b) := ⟨_, rfl⟩
  rw [← hv]
  have HV := Lib.hid hv
  clear hv
  have HLG := fun k (hk : k < m1) => h1.getI hk
  have HLH := fun k (hk : k < m2) => h2.getI hk
  by_cases hm : m1 = m2
  · have hmd : ((m1 : Int) != (m2 : Int)) = false := by simp; omega
    go_enter Try.func17, Try.ntmps17
    go_wp2_with fail
    go_loopg [5] m1 (fun r s3 wr => ∃ k q : Nat, k + r = m1 ∧ s3 = .int .i64 (k : Nat) ∧ (∀ j, j < k → a.getD j 0 = b.getD j 0) ∧ wr = w.drewN q)
    case atStart => exact ⟨0, 0, by omega, rfl, fun j hj => by omega, rfl⟩
    case round =>
      obtain ⟨k, q, hk, rfl, hall, rfl⟩ := hrel
      have HK := Lib.hid hk
      have HALL := Lib.hid hall
      have HMM := Lib.hid hm
      clear hk hall
      by_cases hlt : k < m1
      · have hlt2 : k < m2 := by omega
        obtain ⟨ad, rfl, _, hc1⟩ := HLG k hlt
        obtain ⟨ad2, rfl, _, hc2⟩ := HLH k hlt2
        have x1 := (cell_kept hc1 (below_drewN (Below.refl w.heap.size w) q))
        have x2 := (cell_kept hc2 (below_drewN (Below.refl w.heap.size w) q))
        have hbq := below_drewN (Below.refl w.heap.size w) q
        clear hm
        cases hne : (a.getD k 0 != b.getD k 0) with
        | true =>
          have hres : (a == b) = false := by
            simp only [beq_eq_false_iff_ne]
            rintro rfl
            simp at hne
          have HRES : Hid (v = false) := Lib.hid (by rw [HV.out, hres])
          clear hres HLG HLH
          generalize a.getD k 0 = x at *
          generalize b.getD k 0 = y at *
          go_wp2
          go_quiet (fail)
          go_wp2_with fail
          go_ret
          exact ⟨ret_bool (by rw [HRES.out]), below_drewN (below_drewN (Below.refl _ _) _) _⟩
        | false =>
          have hxy : a.getD k 0 = b.getD k 0 := by simpa using hne
          have HXY := Lib.hid hxy
          clear hxy HLG HLH
          generalize hx : a.getD k 0 = x at *
          generalize hy : b.getD k 0 = y at *
          have HX := Lib.hid hx
          have HY := Lib.hid hy
          clear hx hy
          go_wp2
          go_quiet (fail)
          go_wp2_with fail
          go_roundg (m1 - (k + 1))
          case measure => have := HK.out; omega
          case rel =>
            refine ⟨k + 1, _, by have := HK.out; omega, by go_num, fun j hj => ?_, rfl⟩
            by_cases hjk : j = k
            · subst hjk; rw [HX.out, HY.out]; exact HXY.out
            · exact HALL.out j (by omega)
      · have hab : a = b := ints_ext (by rw [HL1.out, HL2.out]; exact hm) fun j hj => HALL.out j (by have := HL1.out; omega)
        have HRES : Hid (v = true) := Lib.hid (by rw [HV.out, hab]; simp)
        clear hm hab HLG HLH
        go_wp2_with fail
        go_ret
        exact ⟨ret_bool (by rw [HRES.out]), below_drewN (Below.refl _ _) _⟩
  · have hmd : ((m1 : Int) != (m2 : Int)) = true := by simp; omega
    have hres : (a == b) = false := by
      simp only [beq_eq_false_iff_ne]
      rintro rfl
      have := HL1.out
      have := HL2.out
      omega
    have HRES : Hid (v = false) := Lib.hid (by rw [HV.out, hres])
    clear hm hres HLG HLH
    go_enter Try.func17, Try.ntmps17
    go_wp2_with fail
    go_ret
    exact ⟨ret_bool (by rw [HRES.out]), Below.refl _ _⟩

end Go.Proofs.Ytpeifojfpkkcpaa

/-
  YtpeifojfpkkcpaaLs: the walks of the property laws: where a law stands.
-/
namespace Go.Proofs.Ytpeifojfpkkcpaa
open Go.RowKit

/-- A law's region: its block x, its cells. -/
structure LS (w wr : World) (x : Nat) (W T : Int) (A2 : Option Addr) (c2 : Nat) (bs : List Bool) : Prop where
  bel : Below w.heap.size w wr
  reg : Blk wr x 25 #[.int .i64 W, .int .i64 T, .slice A2 bs.length c2]
  own : RegAt wr w.heap.size (.slice A2 bs.length c2) bs
section
variable {w wr w2 : World} {x : Nat} {W T : Int} {A2 : Option Addr} {c2 : Nat} {bs : List Bool}
theorem LS.below (h : LS w wr x W T A2 c2 bs) (hb : Below wr.heap.size wr w2) : LS w w2 x W T A2 c2 bs :=
  ⟨h.bel.trans (hb.mono h.bel.size), h.reg.below hb h.reg.lt, own_below h.own.1 hb (Nat.le_refl _), h.own.2⟩
theorem LS.start (hb : Below w.heap.size w wr) (ho : RegAt wr w.heap.size (.slice A2 bs.length c2) bs) : LS w (wr.alloc (.cells #[.int .i64 W, .int .i64 T, .slice A2 bs.length c2] 25)) wr.heap.size W T A2 c2 bs :=
  ⟨hb.alloc hb.size _, Blk.new _ _ _, ho.1.alloc _, ho.2⟩
theorem LS.rd (h : LS w wr x W T A2 c2 bs) : Reads wr wr.heap.size 1 A2 bs.length (bs.map Value.bool) := Reads.of_own h.own.1
theorem LS.len (h : LS w wr x W T A2 c2 bs) : bs.length ≤ 64 := h.own.2
theorem LS.cells (h : LS w wr x W T A2 c2 bs) : wr.cell? ⟨x, 0, none⟩ = some (.int .i64 W) ∧ wr.cell? ⟨x, 1, none⟩ = some (.int .i64 T) ∧ wr.cell? ⟨x, 2, none⟩ = some (.slice A2 bs.length c2) := by
  have a0 := h.reg.cell 0
  have a1 := h.reg.cell 1
  have a2 := h.reg.cell 2
  simp at a0 a1 a2
  exact ⟨a0, a1, a2⟩
end
/-- A list of a law. -/
abbrev LI (w wr : World) (D : Option Addr) (d : Nat) (L : List Int) : Prop := LiAt wr w.heap.size (.slice D L.length d) L
section
variable {w wr w2 : World} {D : Option Addr} {d d' : Nat} {L : List Int}
theorem LI.below (h : LI w wr D d L) (hb : Below wr.heap.size wr w2) : LI w w2 D d L := LiAt.below h hb
theorem LI.rd (h : LI w wr D d L) : Reads wr wr.heap.size 1 D L.length (L.map (Value.int .i64)) := by
  obtain ⟨A, c1, c3, e, ho⟩ := h
  simp only [Value.slice.injEq] at e
  obtain ⟨rfl, _, rfl⟩ := e
  exact Reads.of_own ho
theorem LI.plain (h : LI w wr D d L) : Plain D := by
  obtain ⟨A, c1, c3, e, ho⟩ := h
  simp only [Value.slice.injEq] at e
  obtain ⟨rfl, _, rfl⟩ := e
  rcases ho.2 with ⟨e, _⟩ | ⟨g, cap, cur, e, _⟩
  · simp only [Value.slice.injEq] at e
    exact .inl e.1
  · simp only [Value.slice.injEq] at e
    exact .inr ⟨g, 0, e.1⟩
theorem LI.of (hb : w.heap.size ≤ wr.heap.size) (h : w2.ownsRow wr.heap.size 3 1 (.slice D L.length d) L.length (L.map (Value.int .i64))) : LI w w2 D d' L := ⟨D, d', d, rfl, own_mono h hb⟩
theorem LI.cell (h : LI w wr D d L) {k : Nat} (hk : k < L.length) : ∃ gl, D = some ⟨gl, 0, none⟩ ∧ wr.cell? ⟨gl, k, none⟩ = some (.int .i64 (L.getD k 0)) := by
  obtain ⟨A, c1, c3, e, ho⟩ := h
  simp only [Value.slice.injEq] at e
  obtain ⟨rfl, _, rfl⟩ := e
  obtain ⟨g, cg, hs, _⟩ := own_shape ho (by omega)
  simp only [Value.slice.injEq, true_and] at hs
  obtain ⟨rfl, rfl⟩ := hs
  refine ⟨g, rfl, (ho.cellAt k (by omega)).trans ?_⟩
  rw [List.getElem?_map, List.getD_eq_getElem?_getD, List.getElem?_eq_getElem hk]; rfl
end
theorem beq_self_list (a : List Int) : (a == a) = true := by simp

end Go.Proofs.Ytpeifojfpkkcpaa
