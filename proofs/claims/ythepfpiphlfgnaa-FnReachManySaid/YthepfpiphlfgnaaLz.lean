/-
  YthepfpiphlfgnaaLz: the texts Si, Ls, Hl, Hh, Q3, Tl, La, Lb, Lc, Wy in one file.
-/
import Derived.Deep.RegionHeldLaw
import Derived.Deep.AppendLies
import Derived.Deep.RegionHeld3
import Derived.Test.YthepfpiphlfgnaaHS
import Derived.Test.YthepfpiphlfgnaaDq
import Derived.Test.YthepfpiphlfgnaaRep
import Derived.Test.YthepfpiphlfgnaaHkS
import Derived.Test.YthepfpiphlfgnaaPk
import Derived.Test.YthepfpiphlfgnaaMa
import Derived.Test.YthepfpiphlfgnaaByS
import Derived.Test.YthepfpiphlfgnaaFm

/-
  YthepfpiphlfgnaaSi: the laws' sameInts.
-/
namespace Go.Proofs.Ythepfpiphlfgnaa
open Go.RowKit



end Go.Proofs.Ythepfpiphlfgnaa

/-
  YthepfpiphlfgnaaLs: the walks of the property laws: where a law stands.
-/
namespace Go.Proofs.Ythepfpiphlfgnaa
open Go.RowKit

/-- A law's region: its block x, its cells. -/
structure LS (w wr : World) (x : Nat) (W T : Int) (A2 : Option Addr) (c2 : Nat) (bs : List Bool) : Prop where
  bel : Below w.heap.size w wr
  reg : Blk wr x 25 #[.int .i64 W, .int .i64 T, .slice A2 bs.length c2]
  own : RegAt wr w.heap.size (.slice A2 bs.length c2) bs
section
variable {w wr w2 : World} {x : Nat} {W T : Int} {A2 : Option Addr} {c2 : Nat} {bs : List Bool}
theorem LS.below (h : LS w wr x W T A2 c2 bs) (hb : Below wr.heap.size wr w2) : LS w w2 x W T A2 c2 bs :=
  ⟨h.bel.trans (hb.mono h.bel.size), h.reg.below hb h.reg.lt, own_below h.own.1 hb (Nat.le_refl _), h.own.2⟩
theorem LS.start (hb : Below w.heap.size w wr) (ho : RegAt wr w.heap.size (.slice A2 bs.length c2) bs) : LS w (wr.alloc (.cells #[.int .i64 W, .int .i64 T, .slice A2 bs.length c2] 25)) wr.heap.size W T A2 c2 bs :=
  ⟨hb.alloc hb.size _, Blk.new _ _ _, ho.1.alloc _, ho.2⟩
theorem LS.rd (h : LS w wr x W T A2 c2 bs) : Reads wr wr.heap.size 1 A2 bs.length (bs.map Value.bool) := Reads.of_own h.own.1
theorem LS.len (h : LS w wr x W T A2 c2 bs) : bs.length ≤ 64 := h.own.2
theorem LS.cells (h : LS w wr x W T A2 c2 bs) : wr.cell? ⟨x, 0, none⟩ = some (.int .i64 W) ∧ wr.cell? ⟨x, 1, none⟩ = some (.int .i64 T) ∧ wr.cell? ⟨x, 2, none⟩ = some (.slice A2 bs.length c2) := by
  have a0 := h.reg.cell 0
  have a1 := h.reg.cell 1
  have a2 := h.reg.cell 2
  simp at a0 a1 a2
  exact ⟨a0, a1, a2⟩
end
/-- A list of a law. -/
abbrev LI (w wr : World) (D : Option Addr) (d : Nat) (L : List Int) : Prop := LiAt wr w.heap.size (.slice D L.length d) L
section
variable {w wr w2 : World} {D : Option Addr} {d d' : Nat} {L : List Int}
theorem LI.below (h : LI w wr D d L) (hb : Below wr.heap.size wr w2) : LI w w2 D d L := LiAt.below h hb
theorem LI.rd (h : LI w wr D d L) : Reads wr wr.heap.size 1 D L.length (L.map (Value.int .i64)) := by
  obtain ⟨A, c1, c3, e, ho⟩ := h
  simp only [Value.slice.injEq] at e
  obtain ⟨rfl, _, rfl⟩ := e
  exact Reads.of_own ho
theorem LI.plain (h : LI w wr D d L) : Plain D := by
  obtain ⟨A, c1, c3, e, ho⟩ := h
  simp only [Value.slice.injEq] at e
  obtain ⟨rfl, _, rfl⟩ := e
  rcases ho.2 with ⟨e, _⟩ | ⟨g, cap, cur, e, _⟩
  · simp only [Value.slice.injEq] at e
    exact .inl e.1
  · simp only [Value.slice.injEq] at e
    exact .inr ⟨g, 0, e.1⟩
theorem LI.of (hb : w.heap.size ≤ wr.heap.size) (h : w2.ownsRow wr.heap.size 3 1 (.slice D L.length d) L.length (L.map (Value.int .i64))) : LI w w2 D d' L := ⟨D, d', d, rfl, own_mono h hb⟩
theorem LI.cell (h : LI w wr D d L) {k : Nat} (hk : k < L.length) : ∃ gl, D = some ⟨gl, 0, none⟩ ∧ wr.cell? ⟨gl, k, none⟩ = some (.int .i64 (L.getD k 0)) := by
  obtain ⟨A, c1, c3, e, ho⟩ := h
  simp only [Value.slice.injEq] at e
  obtain ⟨rfl, _, rfl⟩ := e
  obtain ⟨g, cg, hs, _⟩ := own_shape ho (by omega)
  simp only [Value.slice.injEq, true_and] at hs
  obtain ⟨rfl, rfl⟩ := hs
  refine ⟨g, rfl, (ho.cellAt k (by omega)).trans ?_⟩
  rw [List.getElem?_map, List.getD_eq_getElem?_getD, List.getElem?_eq_getElem hk]; rfl
end

end Go.Proofs.Ythepfpiphlfgnaa

/-
  YthepfpiphlfgnaaHl: HeightsLow: the program's and the reference's.
-/
namespace Go.Proofs.Ythepfpiphlfgnaa
open Go.RowKit




end Go.Proofs.Ythepfpiphlfgnaa

/-
  YthepfpiphlfgnaaHh: HeightsHigh: the program's and the reference's.
-/
namespace Go.Proofs.Ythepfpiphlfgnaa
open Go.RowKit




end Go.Proofs.Ythepfpiphlfgnaa

/-
  YthepfpiphlfgnaaQ3: right heights, told by sides; the tiling that by computes of them. Plain Lean.
-/
namespace Go.Proofs.Ythepfpiphlfgnaa





/-! ### by -/




/-! ### The low and the high one of two tilings -/

end Go.Proofs.Ythepfpiphlfgnaa

/-
  YthepfpiphlfgnaaTl: TilingLow and TilingHigh, of the program and of the reference.
-/
namespace Go.Proofs.Ythepfpiphlfgnaa
open Go.RowKit


/-- What a choice of heights must keep. -/
def Keeps (f : Int → Int → Int) : Prop := ∀ {R : Reg} {H G : List Int}, R.ok → InConn R → HP R H → HP R G → HP R (List.zipWith f H G)






/-! ### The reference -/



end Go.Proofs.Ythepfpiphlfgnaa

/-
  YthepfpiphlfgnaaLa: what the property laws on heights and on the order say, of the values. Plain Lean.
-/
namespace Go.Proofs.Ythepfpiphlfgnaa


/-! ### Two tilings of a simple region -/
theorem tiled_tile {R : Reg} (hR : R.ok) (hS : SimpleP R) {L : List Int} (h : Tile R L) : tiledB R.W R.T R.C L = true := (tiled_ok hR).2 ⟨hS, h.1, h.2⟩

end Go.Proofs.Ythepfpiphlfgnaa

/-
  YthepfpiphlfgnaaLb: what the property laws on flips and on how far tilings are apart say, of the values. Plain Lean.
-/
namespace Go.Proofs.Ythepfpiphlfgnaa

/-! ### A flip and back -/
theorem upd_back {w : Int → Int → Int} {a b n0 n1 n2 n3 m0 m1 m2 m3 : Int} (h0 : w a b = m0) (h1 : w (a + 1) b = m1) (h2 : w a (b + 1) = m2) (h3 : w (a + 1) (b + 1) = m3) (x y : Int) :
    upd (fun x y => upd w a b n0 n1 n2 n3 x y) a b m0 m1 m2 m3 x y = w x y := by
  have ha : ¬ a + 1 = a := by omega
  have hb : ¬ b + 1 = b := by omega
  unfold upd
  by_cases hy : y = b
  · subst hy
    by_cases hx : x = a
    · subst hx; simp [h0]
    · by_cases hx2 : x = a + 1
      · subst hx2; rw [if_pos rfl, if_neg ha, if_pos rfl, h1]
      · simp [hx, hx2]
  · by_cases hy2 : y = b + 1
    · subst hy2
      by_cases hx : x = a
      · subst hx; rw [if_neg hb, if_pos rfl, if_pos rfl, h2]
      · by_cases hx2 : x = a + 1
        · subst hx2; rw [if_neg hb, if_pos rfl, if_neg ha, if_pos rfl, h3]
        · simp [hx, hx2]
    · simp [hy, hy2]
theorem set4_ways {R : Reg} (hR : R.ok) {L : List Int} (hL : L.length = R.C.length) {a b : Nat} (ha : a + 1 < R.W) (hb : b + 1 < R.T) (n0 n1 n2 n3 : Int) :
    R.way (set4 R L (b * R.W + a) n0 n1 n2 n3) a b = n0 ∧ R.way (set4 R L (b * R.W + a) n0 n1 n2 n3) ((a : Int) + 1) b = n1 ∧ R.way (set4 R L (b * R.W + a) n0 n1 n2 n3) a ((b : Int) + 1) = n2 := by
  refine ⟨?_, ?_, ?_⟩ <;> rw [way_set4 hR hL ha hb] <;> unfold upd <;> simp
  all_goals omega
theorem flV_back {R : Reg} (hR : R.ok) {L : List Int} (hL : Lay R L) {k : Int} (h : flB R L k = true) :
    flB R (flV R L k) k = true ∧ flV R (flV R L k) k = L ∧ fl1 R (flV R L k) k = fl2 R L k ∧ fl2 R (flV R L k) k = fl1 R L k := by
  obtain ⟨a, b, ha, hb, rfl, hc⟩ := fl_cases h
  have hLy := lay_flV hR hL (R.ci (a + 1) (b + 1) : Nat)
  have hback : ∀ m0 m1 m2 m3 n0 n1 n2 n3 : Int, R.way L a b = m0 → R.way L ((a : Int) + 1) b = m1 → R.way L a ((b : Int) + 1) = m2 → R.way L ((a : Int) + 1) ((b : Int) + 1) = m3 →
      ∀ x y, R.way (set4 R (set4 R L (b * R.W + a) n0 n1 n2 n3) (b * R.W + a) m0 m1 m2 m3) x y = R.way L x y := by
    intro m0 m1 m2 m3 n0 n1 n2 n3 h0 h1 h2 h3 x y
    rw [way_set4 hR (by rw [set4_len]; exact hL.len) ha hb]
    have e : (fun x y => R.way (set4 R L (b * R.W + a) n0 n1 n2 n3) x y) = fun x y => upd (fun x y => R.way L x y) a b n0 n1 n2 n3 x y := by
      funext x y
      exact way_set4 hR hL.len ha hb n0 n1 n2 n3 x y
    have := upd_back (w := fun x y => R.way L x y) (n0 := n0) (n1 := n1) (n2 := n2) (n3 := n3) h0 h1 h2 h3 x y
    rw [← e] at this
    exact this
  rcases hc with ⟨h1, h2⟩ | ⟨h1, h2⟩
  · obtain ⟨w0, w1, w2, w3⟩ := flat_four hL h1
    rw [h2] at hLy ⊢
    obtain ⟨v0, v1, v2⟩ := set4_ways hR hL.len ha hb 2 2 4 4
    have f2 : fl2 R (set4 R L (b * R.W + a) 2 2 4 4) (R.ci (a + 1) (b + 1) : Nat) = true := (fl2_at ha hb).2 ⟨v0, v1⟩
    have f1 : fl1 R (set4 R L (b * R.W + a) 2 2 4 4) (R.ci (a + 1) (b + 1) : Nat) = false := by
      rw [Bool.eq_false_iff]
      intro hf
      have := ((fl1_at ha hb).1 hf).1
      omega
    have g1 : fl1 R L (R.ci (a + 1) (b + 1) : Nat) = true := (fl1_at ha hb).2 h1
    have g2 := fl12 g1
    refine ⟨by unfold flB; rw [f2, Bool.or_true], ?_, by rw [f1, g2], by rw [f2, g1]⟩
    have hv : flV R (set4 R L (b * R.W + a) 2 2 4 4) (R.ci (a + 1) (b + 1) : Nat) = set4 R (set4 R L (b * R.W + a) 2 2 4 4) (b * R.W + a) 1 3 1 3 := by
      unfold flV
      rw [if_neg (by rw [f1]; decide), if_pos f2, Int.toNat_natCast, (ab_ins ha hb).2]
    have hL2 := lay_flV hR hLy (R.ci (a + 1) (b + 1) : Nat)
    rw [hv] at hL2 ⊢
    exact lay_ext hR hL2 hL fun x y _ => hback _ _ _ _ _ _ _ _ w0 w1 w2 w3 x y
  · obtain ⟨w0, w1, w2, w3⟩ := upr_four hL h1
    rw [h2] at hLy ⊢
    obtain ⟨v0, v1, v2⟩ := set4_ways hR hL.len ha hb 1 3 1 3
    have f1 : fl1 R (set4 R L (b * R.W + a) 1 3 1 3) (R.ci (a + 1) (b + 1) : Nat) = true := (fl1_at ha hb).2 ⟨v0, v2⟩
    have f2 := fl12 f1
    have g2 : fl2 R L (R.ci (a + 1) (b + 1) : Nat) = true := (fl2_at ha hb).2 h1
    have g1 : fl1 R L (R.ci (a + 1) (b + 1) : Nat) = false := by
      rw [Bool.eq_false_iff]
      intro hf
      have := ((fl1_at ha hb).1 hf).1
      omega
    refine ⟨by unfold flB; rw [f1, Bool.true_or], ?_, by rw [f1, g2], by rw [f2, g1]⟩
    have hv : flV R (set4 R L (b * R.W + a) 1 3 1 3) (R.ci (a + 1) (b + 1) : Nat) = set4 R (set4 R L (b * R.W + a) 1 3 1 3) (b * R.W + a) 2 2 4 4 := by
      unfold flV
      rw [if_pos f1, Int.toNat_natCast, (ab_ins ha hb).2]
    have hL2 := lay_flV hR hLy (R.ci (a + 1) (b + 1) : Nat)
    rw [hv] at hL2 ⊢
    exact lay_ext hR hL2 hL fun x y _ => hback _ _ _ _ _ _ _ _ w0 w1 w2 w3 x y

/-! ### Sums of differences -/
theorem dif_self (x : Int) : dif x x = 0 := by unfold dif; omega
theorem apartV_tile {R : Reg} (hR : R.ok) (hS : SimpleP R) {a b : List Int} (ha : Tile R a) (hb : Tile R b) : apartV R.W R.T R.C a b = dsum R b a / 4 := by
  unfold apartV
  rw [tiled_tile hR hS ha, tiled_tile hR hS hb]
  rfl

end Go.Proofs.Ythepfpiphlfgnaa

/-
  YthepfpiphlfgnaaLc: left out.
-/
namespace Go.Proofs.Ythepfpiphlfgnaa

end Go.Proofs.Ythepfpiphlfgnaa

/-
  YthepfpiphlfgnaaWy: left out.
-/
namespace Go.Proofs.Ythepfpiphlfgnaa

end Go.Proofs.Ythepfpiphlfgnaa
