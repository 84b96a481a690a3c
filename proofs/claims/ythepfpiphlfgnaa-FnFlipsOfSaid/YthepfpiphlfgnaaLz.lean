/-
  YthepfpiphlfgnaaLz: the texts Si, Ls, Hl, Hh, Q3, Tl, La, Lb, Lc, Wy in one file.
-/
import Derived.Deep.RegionHeldLaw
import Derived.Deep.AppendLies
import Derived.Deep.RegionHeld3
import Derived.Test.YthepfpiphlfgnaaHS
import Derived.Test.YthepfpiphlfgnaaDq
import Derived.Test.YthepfpiphlfgnaaRep
import Derived.Test.YthepfpiphlfgnaaHkS
import Derived.Test.YthepfpiphlfgnaaPk
import Derived.Test.YthepfpiphlfgnaaMa
import Derived.Test.YthepfpiphlfgnaaByS
import Derived.Test.YthepfpiphlfgnaaFm

/-
  YthepfpiphlfgnaaSi: the laws' sameInts.
-/
namespace Go.Proofs.Ythepfpiphlfgnaa
open Go.RowKit

theorem ints_ext {a b : List Int} (hl : a.length = b.length) (h : ∀ j, j < a.length → a.getD j 0 = b.getD j 0) : a = b := by
  apply List.ext_getElem hl
  intro j h1 h2
  have := h j h1
  rw [List.getD_eq_getElem?_getD, List.getD_eq_getElem?_getD, List.getElem?_eq_getElem h1, List.getElem?_eq_getElem h2] at this
  exact this

set_option maxHeartbeats 1000000 in
theorem sameInts_any (a b : List Int) (D1 D2 : Option Addr) (m1 d1 m2 d2 B : Nat) (w : World) (hL1 : a.length = m1) (hL2 : b.length = m2) (h1 : Reads w B 1 D1 m1 (a.map (Value.int .i64))) (h2 : Reads w B 1 D2 m2 (b.map (Value.int .i64))) (hm1 : m1 ≤ 1048576) (_hm2 : m2 ≤ 1048576) :
    Calls Try.prog 16 #[.slice D1 m1 d1, .slice D2 m2 d2] w fun e w' => e = .returned (.bool (a == b)) ∧ Below w.heap.size w w' := by
  have HL1 := Lib.hid hL1
  have HL2 := Lib.hid hL2
  clear hL1 hL2
  obtain ⟨v, hv⟩ : ∃ v, v = (a == b) := ⟨_, rfl⟩
  rw [← hv]
  have HV := Lib.hid hv
  clear hv
  have HLG := fun k (hk : k < m1) => h1.getI hk
  have HLH := fun k (hk : k < m2) => h2.getI hk
  by_cases hm : m1 = m2
  · have hmd : ((m1 : Int) != (m2 : Int)) = false := by simp; omega
    go_enter Try.func16, Try.ntmps16
    go_wp2_with fail
    go_loopg [5] m1 (fun r s3 wr => ∃ k q : Nat, k + r = m1 ∧ s3 = .int .i64 (k : Nat) ∧ (∀ j, j < k → a.getD j 0 = b.getD j 0) ∧ wr = w.drewN q)
    case atStart => exact ⟨0, 0, by omega, rfl, fun j hj => by omega, rfl⟩
    case round =>
      obtain ⟨k, q, hk, rfl, hall, rfl⟩ := hrel
      have HK := Lib.hid hk
      have HALL := Lib.hid hall
      have HMM := Lib.hid hm
      clear hk hall
      by_cases hlt : k < m1
      · have hlt2 : k < m2 := by omega
        obtain ⟨ad, rfl, _, hc1⟩ := HLG k hlt
        obtain ⟨ad2, rfl, _, hc2⟩ := HLH k hlt2
        have x1 := (cell_kept hc1 (below_drewN (Below.refl w.heap.size w) q))
        have x2 := (cell_kept hc2 (below_drewN (Below.refl w.heap.size w) q))
        have hbq := below_drewN (Below.refl w.heap.size w) q
        clear hm
        cases hne : (a.getD k 0 != b.getD k 0) with
        | true =>
          have hres : (a == b) = false := by
            simp only [beq_eq_false_iff_ne]
            rintro rfl
            simp at hne
          have HRES : Hid (v = false) := Lib.hid (by rw [HV.out, hres])
          clear hres HLG HLH
          generalize a.getD k 0 = x at *
          generalize b.getD k 0 = y at *
          go_wp2
          go_quiet (fail)
          go_wp2_with fail
          go_ret
          exact ⟨ret_bool (by rw [HRES.out]), below_drewN (below_drewN (Below.refl _ _) _) _⟩
        | false =>
          have hxy : a.getD k 0 = b.getD k 0 := by simpa using hne
          have HXY := Lib.hid hxy
          clear hxy HLG HLH
          generalize hx : a.getD k 0 = x at *
          generalize hy : b.getD k 0 = y at *
          have HX := Lib.hid hx
          have HY := Lib.hid hy
          clear hx hy
          go_wp2
          go_quiet (fail)
          go_wp2_with fail
          go_roundg (m1 - (k + 1))
          case measure => have := HK.out; omega
          case rel =>
            refine ⟨k + 1, _, by have := HK.out; omega, by go_num, fun j hj => ?_, rfl⟩
            by_cases hjk : j = k
            · subst hjk; rw [HX.out, HY.out]; exact HXY.out
            · exact HALL.out j (by omega)
      · have hab : a = b := ints_ext (by rw [HL1.out, HL2.out]; exact hm) fun j hj => HALL.out j (by have := HL1.out; omega)
        have HRES : Hid (v = true) := Lib.hid (by rw [HV.out, hab]; simp)
        clear hm hab HLG HLH
        go_wp2_with fail
        go_ret
        exact ⟨ret_bool (by rw [HRES.out]), below_drewN (Below.refl _ _) _⟩
  · have hmd : ((m1 : Int) != (m2 : Int)) = true := by simp; omega
    have hres : (a == b) = false := by
      simp only [beq_eq_false_iff_ne]
      rintro rfl
      have := HL1.out
      have := HL2.out
      omega
    have HRES : Hid (v = false) := Lib.hid (by rw [HV.out, hres])
    clear hm hres HLG HLH
    go_enter Try.func16, Try.ntmps16
    go_wp2_with fail
    go_ret
    exact ⟨ret_bool (by rw [HRES.out]), Below.refl _ _⟩

end Go.Proofs.Ythepfpiphlfgnaa

/-
  YthepfpiphlfgnaaLs: the walks of the property laws: where a law stands.
-/
namespace Go.Proofs.Ythepfpiphlfgnaa
open Go.RowKit

/-- A law's region: its block x, its cells. -/
structure LS (w wr : World) (x : Nat) (W T : Int) (A2 : Option Addr) (c2 : Nat) (bs : List Bool) : Prop where
  bel : Below w.heap.size w wr
  reg : Blk wr x 25 #[.int .i64 W, .int .i64 T, .slice A2 bs.length c2]
  own : RegAt wr w.heap.size (.slice A2 bs.length c2) bs
section
variable {w wr w2 : World} {x : Nat} {W T : Int} {A2 : Option Addr} {c2 : Nat} {bs : List Bool}
theorem LS.below (h : LS w wr x W T A2 c2 bs) (hb : Below wr.heap.size wr w2) : LS w w2 x W T A2 c2 bs :=
  ⟨h.bel.trans (hb.mono h.bel.size), h.reg.below hb h.reg.lt, own_below h.own.1 hb (Nat.le_refl _), h.own.2⟩
theorem LS.start (hb : Below w.heap.size w wr) (ho : RegAt wr w.heap.size (.slice A2 bs.length c2) bs) : LS w (wr.alloc (.cells #[.int .i64 W, .int .i64 T, .slice A2 bs.length c2] 25)) wr.heap.size W T A2 c2 bs :=
  ⟨hb.alloc hb.size _, Blk.new _ _ _, ho.1.alloc _, ho.2⟩
theorem LS.rd (h : LS w wr x W T A2 c2 bs) : Reads wr wr.heap.size 1 A2 bs.length (bs.map Value.bool) := Reads.of_own h.own.1
theorem LS.len (h : LS w wr x W T A2 c2 bs) : bs.length ≤ 64 := h.own.2
theorem LS.cells (h : LS w wr x W T A2 c2 bs) : wr.cell? ⟨x, 0, none⟩ = some (.int .i64 W) ∧ wr.cell? ⟨x, 1, none⟩ = some (.int .i64 T) ∧ wr.cell? ⟨x, 2, none⟩ = some (.slice A2 bs.length c2) := by
  have a0 := h.reg.cell 0
  have a1 := h.reg.cell 1
  have a2 := h.reg.cell 2
  simp at a0 a1 a2
  exact ⟨a0, a1, a2⟩
end
/-- A list of a law. -/
abbrev LI (w wr : World) (D : Option Addr) (d : Nat) (L : List Int) : Prop := LiAt wr w.heap.size (.slice D L.length d) L
section
variable {w wr w2 : World} {D : Option Addr} {d d' : Nat} {L : List Int}
theorem LI.below (h : LI w wr D d L) (hb : Below wr.heap.size wr w2) : LI w w2 D d L := LiAt.below h hb
theorem LI.rd (h : LI w wr D d L) : Reads wr wr.heap.size 1 D L.length (L.map (Value.int .i64)) := by
  obtain ⟨A, c1, c3, e, ho⟩ := h
  simp only [Value.slice.injEq] at e
  obtain ⟨rfl, _, rfl⟩ := e
  exact Reads.of_own ho
theorem LI.plain (h : LI w wr D d L) : Plain D := by
  obtain ⟨A, c1, c3, e, ho⟩ := h
  simp only [Value.slice.injEq] at e
  obtain ⟨rfl, _, rfl⟩ := e
  rcases ho.2 with ⟨e, _⟩ | ⟨g, cap, cur, e, _⟩
  · simp only [Value.slice.injEq] at e
    exact .inl e.1
  · simp only [Value.slice.injEq] at e
    exact .inr ⟨g, 0, e.1⟩
theorem LI.of (hb : w.heap.size ≤ wr.heap.size) (h : w2.ownsRow wr.heap.size 3 1 (.slice D L.length d) L.length (L.map (Value.int .i64))) : LI w w2 D d' L := ⟨D, d', d, rfl, own_mono h hb⟩
theorem LI.cell (h : LI w wr D d L) {k : Nat} (hk : k < L.length) : ∃ gl, D = some ⟨gl, 0, none⟩ ∧ wr.cell? ⟨gl, k, none⟩ = some (.int .i64 (L.getD k 0)) := by
  obtain ⟨A, c1, c3, e, ho⟩ := h
  simp only [Value.slice.injEq] at e
  obtain ⟨rfl, _, rfl⟩ := e
  obtain ⟨g, cg, hs, _⟩ := own_shape ho (by omega)
  simp only [Value.slice.injEq, true_and] at hs
  obtain ⟨rfl, rfl⟩ := hs
  refine ⟨g, rfl, (ho.cellAt k (by omega)).trans ?_⟩
  rw [List.getElem?_map, List.getD_eq_getElem?_getD, List.getElem?_eq_getElem hk]; rfl
end
theorem beq_self_list (a : List Int) : (a == a) = true := by simp

end Go.Proofs.Ythepfpiphlfgnaa

/-
  YthepfpiphlfgnaaHl: HeightsLow: the program's and the reference's.
-/
namespace Go.Proofs.Ythepfpiphlfgnaa
open Go.RowKit




end Go.Proofs.Ythepfpiphlfgnaa

/-
  YthepfpiphlfgnaaHh: HeightsHigh: the program's and the reference's.
-/
namespace Go.Proofs.Ythepfpiphlfgnaa
open Go.RowKit




end Go.Proofs.Ythepfpiphlfgnaa

/-
  YthepfpiphlfgnaaQ3: right heights, told by sides; the tiling that by computes of them. Plain Lean.
-/
namespace Go.Proofs.Ythepfpiphlfgnaa





/-! ### by -/




/-! ### The low and the high one of two tilings -/
theorem htsOf_til {R : Reg} (hR : R.ok) (hS : SimpleP R) {H : List Int} (h : HP R H) : htsOf R.W R.T R.C (tilH R H) = H :=
  hts_one hR hS.1 (htsOf_yes hR hS (lay_tilH hR h) (full_tilH hR h)) (hts_tilH hR h)

end Go.Proofs.Ythepfpiphlfgnaa

/-
  YthepfpiphlfgnaaTl: TilingLow and TilingHigh, of the program and of the reference.
-/
namespace Go.Proofs.Ythepfpiphlfgnaa
open Go.RowKit


/-- What a choice of heights must keep. -/
def Keeps (f : Int → Int → Int) : Prop := ∀ {R : Reg} {H G : List Int}, R.ok → InConn R → HP R H → HP R G → HP R (List.zipWith f H G)
theorem keeps_min : Keeps min := fun hR hI h g => hp_min hR hI h g
theorem keeps_max : Keeps max := fun hR hI h g => hp_max hR hI h g






/-! ### The reference -/



end Go.Proofs.Ythepfpiphlfgnaa

/-
  YthepfpiphlfgnaaLa: what the property laws on heights and on the order say, of the values. Plain Lean.
-/
namespace Go.Proofs.Ythepfpiphlfgnaa

theorem zip_getD {f : Int → Int → Int} {a b : List Int} {k : Nat} (ha : k < a.length) (hb : k < b.length) : (List.zipWith f a b).getD k 0 = f (a.getD k 0) (b.getD k 0) := by
  rw [List.getD_eq_getElem?_getD, List.getD_eq_getElem?_getD, List.getD_eq_getElem?_getD, List.getElem?_zipWith, List.getElem?_eq_getElem ha, List.getElem?_eq_getElem hb]
  rfl

/-! ### Two tilings of a simple region -/
theorem hts_len {R : Reg} (hR : R.ok) (hS : SimpleP R) {a : List Int} (ha : Tile R a) : (htsOf R.W R.T R.C a).length = R.cn := (hp_of_tile hR hS ha).len
theorem hts_ext {R : Reg} (hR : R.ok) (hS : SimpleP R) {a b : List Int} (ha : Tile R a) (hb : Tile R b) (h : ∀ k, k < R.cn → (htsOf R.W R.T R.C a).getD k 0 = (htsOf R.W R.T R.C b).getD k 0) : a = b := by
  refine tile_ext hR hS ha hb ?_
  have l1 := hts_len hR hS ha
  have l2 := hts_len hR hS hb
  apply List.ext_getElem (by rw [l1, l2])
  intro k h1 h2
  have := h k (by omega)
  rw [List.getD_eq_getElem?_getD, List.getD_eq_getElem?_getD, List.getElem?_eq_getElem h1, List.getElem?_eq_getElem h2] at this
  exact this

end Go.Proofs.Ythepfpiphlfgnaa

/-
  YthepfpiphlfgnaaLb: what the property laws on flips and on how far tilings are apart say, of the values. Plain Lean.
-/
namespace Go.Proofs.Ythepfpiphlfgnaa

/-! ### A flip and back -/
theorem upd_back {w : Int → Int → Int} {a b n0 n1 n2 n3 m0 m1 m2 m3 : Int} (h0 : w a b = m0) (h1 : w (a + 1) b = m1) (h2 : w a (b + 1) = m2) (h3 : w (a + 1) (b + 1) = m3) (x y : Int) :
    upd (fun x y => upd w a b n0 n1 n2 n3 x y) a b m0 m1 m2 m3 x y = w x y := by
  have ha : ¬ a + 1 = a := by omega
  have hb : ¬ b + 1 = b := by omega
  unfold upd
  by_cases hy : y = b
  · subst hy
    by_cases hx : x = a
    · subst hx; simp [h0]
    · by_cases hx2 : x = a + 1
      · subst hx2; rw [if_pos rfl, if_neg ha, if_pos rfl, h1]
      · simp [hx, hx2]
  · by_cases hy2 : y = b + 1
    · subst hy2
      by_cases hx : x = a
      · subst hx; rw [if_neg hb, if_pos rfl, if_pos rfl, h2]
      · by_cases hx2 : x = a + 1
        · subst hx2; rw [if_neg hb, if_pos rfl, if_neg ha, if_pos rfl, h3]
        · simp [hx, hx2]
    · simp [hy, hy2]
theorem set4_ways {R : Reg} (hR : R.ok) {L : List Int} (hL : L.length = R.C.length) {a b : Nat} (ha : a + 1 < R.W) (hb : b + 1 < R.T) (n0 n1 n2 n3 : Int) :
    R.way (set4 R L (b * R.W + a) n0 n1 n2 n3) a b = n0 ∧ R.way (set4 R L (b * R.W + a) n0 n1 n2 n3) ((a : Int) + 1) b = n1 ∧ R.way (set4 R L (b * R.W + a) n0 n1 n2 n3) a ((b : Int) + 1) = n2 := by
  refine ⟨?_, ?_, ?_⟩ <;> rw [way_set4 hR hL ha hb] <;> unfold upd <;> simp
  all_goals omega
theorem flV_back {R : Reg} (hR : R.ok) {L : List Int} (hL : Lay R L) {k : Int} (h : flB R L k = true) :
    flB R (flV R L k) k = true ∧ flV R (flV R L k) k = L ∧ fl1 R (flV R L k) k = fl2 R L k ∧ fl2 R (flV R L k) k = fl1 R L k := by
  obtain ⟨a, b, ha, hb, rfl, hc⟩ := fl_cases h
  have hLy := lay_flV hR hL (R.ci (a + 1) (b + 1) : Nat)
  have hback : ∀ m0 m1 m2 m3 n0 n1 n2 n3 : Int, R.way L a b = m0 → R.way L ((a : Int) + 1) b = m1 → R.way L a ((b : Int) + 1) = m2 → R.way L ((a : Int) + 1) ((b : Int) + 1) = m3 →
      ∀ x y, R.way (set4 R (set4 R L (b * R.W + a) n0 n1 n2 n3) (b * R.W + a) m0 m1 m2 m3) x y = R.way L x y := by
    intro m0 m1 m2 m3 n0 n1 n2 n3 h0 h1 h2 h3 x y
    rw [way_set4 hR (by rw [set4_len]; exact hL.len) ha hb]
    have e : (fun x y => R.way (set4 R L (b * R.W + a) n0 n1 n2 n3) x y) = fun x y => upd (fun x y => R.way L x y) a b n0 n1 n2 n3 x y := by
      funext x y
      exact way_set4 hR hL.len ha hb n0 n1 n2 n3 x y
    have := upd_back (w := fun x y => R.way L x y) (n0 := n0) (n1 := n1) (n2 := n2) (n3 := n3) h0 h1 h2 h3 x y
    rw [← e] at this
    exact this
  rcases hc with ⟨h1, h2⟩ | ⟨h1, h2⟩
  · obtain ⟨w0, w1, w2, w3⟩ := flat_four hL h1
    rw [h2] at hLy ⊢
    obtain ⟨v0, v1, v2⟩ := set4_ways hR hL.len ha hb 2 2 4 4
    have f2 : fl2 R (set4 R L (b * R.W + a) 2 2 4 4) (R.ci (a + 1) (b + 1) : Nat) = true := (fl2_at ha hb).2 ⟨v0, v1⟩
    have f1 : fl1 R (set4 R L (b * R.W + a) 2 2 4 4) (R.ci (a + 1) (b + 1) : Nat) = false := by
      rw [Bool.eq_false_iff]
      intro hf
      have := ((fl1_at ha hb).1 hf).1
      omega
    have g1 : fl1 R L (R.ci (a + 1) (b + 1) : Nat) = true := (fl1_at ha hb).2 h1
    have g2 := fl12 g1
    refine ⟨by unfold flB; rw [f2, Bool.or_true], ?_, by rw [f1, g2], by rw [f2, g1]⟩
    have hv : flV R (set4 R L (b * R.W + a) 2 2 4 4) (R.ci (a + 1) (b + 1) : Nat) = set4 R (set4 R L (b * R.W + a) 2 2 4 4) (b * R.W + a) 1 3 1 3 := by
      unfold flV
      rw [if_neg (by rw [f1]; decide), if_pos f2, Int.toNat_natCast, (ab_ins ha hb).2]
    have hL2 := lay_flV hR hLy (R.ci (a + 1) (b + 1) : Nat)
    rw [hv] at hL2 ⊢
    exact lay_ext hR hL2 hL fun x y _ => hback _ _ _ _ _ _ _ _ w0 w1 w2 w3 x y
  · obtain ⟨w0, w1, w2, w3⟩ := upr_four hL h1
    rw [h2] at hLy ⊢
    obtain ⟨v0, v1, v2⟩ := set4_ways hR hL.len ha hb 1 3 1 3
    have f1 : fl1 R (set4 R L (b * R.W + a) 1 3 1 3) (R.ci (a + 1) (b + 1) : Nat) = true := (fl1_at ha hb).2 ⟨v0, v2⟩
    have f2 := fl12 f1
    have g2 : fl2 R L (R.ci (a + 1) (b + 1) : Nat) = true := (fl2_at ha hb).2 h1
    have g1 : fl1 R L (R.ci (a + 1) (b + 1) : Nat) = false := by
      rw [Bool.eq_false_iff]
      intro hf
      have := ((fl1_at ha hb).1 hf).1
      omega
    refine ⟨by unfold flB; rw [f1, Bool.true_or], ?_, by rw [f1, g2], by rw [f2, g1]⟩
    have hv : flV R (set4 R L (b * R.W + a) 1 3 1 3) (R.ci (a + 1) (b + 1) : Nat) = set4 R (set4 R L (b * R.W + a) 1 3 1 3) (b * R.W + a) 2 2 4 4 := by
      unfold flV
      rw [if_pos f1, Int.toNat_natCast, (ab_ins ha hb).2]
    have hL2 := lay_flV hR hLy (R.ci (a + 1) (b + 1) : Nat)
    rw [hv] at hL2 ⊢
    exact lay_ext hR hL2 hL fun x y _ => hback _ _ _ _ _ _ _ _ w0 w1 w2 w3 x y

/-! ### Sums of differences -/

end Go.Proofs.Ythepfpiphlfgnaa

/-
  YthepfpiphlfgnaaLc: left out.
-/
namespace Go.Proofs.Ythepfpiphlfgnaa

end Go.Proofs.Ythepfpiphlfgnaa

/-
  YthepfpiphlfgnaaWy: left out.
-/
namespace Go.Proofs.Ythepfpiphlfgnaa

end Go.Proofs.Ythepfpiphlfgnaa
