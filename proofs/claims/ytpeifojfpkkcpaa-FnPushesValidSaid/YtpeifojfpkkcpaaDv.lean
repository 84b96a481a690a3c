/-
  YtpeifojfpkkcpaaDv: the texts Da, Db, Dc, De, Df, Dg in one file.
-/
import Derived.Test.YtpeifojfpkkcpaaD8
import Derived.Test.YtpeifojfpkkcpaaFk
import Derived.Test.YtpeifojfpkkcpaaPv
import Derived.Test.YtpeifojfpkkcpaaD9

/-
  YtpeifojfpkkcpaaDa: drawing: a corner.
-/
namespace Go.Proofs.Ytpeifojfpkkcpaa
open Go.RowKit
attribute [local go_sem ↓] Go.wp_at_zero Go.wp_at_succ

theorem fsV_bd {W T : Int} {bs : List Bool} {L : List Int} {z : Int} (h : z ∈ fsV W T bs L) : 0 ≤ z ∧ z ≤ 49 := by
  cases hv : laidB W T bs L with
  | false => rw [fsV_no hv] at h; cases h
  | true =>
    obtain ⟨R, hR, rfl, rfl, rfl, _⟩ := laid_cases hv
    rw [fsV_yes hv] at h
    obtain ⟨j, rfl, hj, _⟩ := flTo_in h
    have h1 := hR.2.1
    have h2 := hR.2.2.2.1
    have : R.cn ≤ 7 * 7 := Nat.mul_le_mul (by omega) (by omega)
    omega
/-- A drawn number. -/
def DrawnI (w : World) (g B : Nat) (A : Option Addr) (n c p d : Nat) (zs : List Int) (e : Ending) (w' : World) : Prop :=
  ∃ k : Int, e = .returned (.int .i64 k) ∧ -1000 ≤ k ∧ k ≤ 1000 ∧ Stepped w g B A n c p d zs w'

set_option maxHeartbeats 4000000 in
set_option maxRecDepth 20000 in
theorem drawCorner_any (g B : Nat) (A : Option Addr) (n c p : Nat) (zs : List Int) (W T : Int) (A2 : Option Addr) (c2 : Nat) (bs : List Bool) (D : Option Addr) (m d bb : Nat) (L : List Int) (w : World) (h : Rd w g B A n c p zs) (hp : p ≤ 10000000)
    (hreg : RegAt w bb (.slice A2 bs.length c2) bs) (hli : LiAt w bb (.slice D m d) L) (hgb : g < bb) (hL : L.length ≤ 99) :
    Calls Try.prog 97 #[.pointer (some ⟨g, 0, none⟩), .agg #[.int .i64 W, .int .i64 T, .slice A2 bs.length c2], .slice D m d] w (DrawnI w g B A n c p 3 zs) := by
  have hglt := h.lt
  have hb0 : Below w.heap.size w (w.alloc (boxR W T A2 bs.length c2)) := (Below.refl _ _).alloc (Nat.le_refl _) _
  have k0 : Blk (w.alloc (boxR W T A2 bs.length c2)) w.heap.size 25 #[.int .i64 W, .int .i64 T, .slice A2 bs.length c2] := Blk.new _ _ _
  obtain ⟨hlm, hlr⟩ := hli.reads
  have hbl := hreg.2
  have hFS := hide (flipsOfS_any W T A2 bs.length c2 w.heap.size bs L D m d (w.alloc (boxR W T A2 bs.length c2)) rfl hlm ((Reads.of_own hreg.1).alloc (Nat.le_refl _) _) (hlr.alloc (Nat.le_refl _) _) (by simp) (by omega) (by omega))
  have hfb : ∀ z ∈ fsV W T bs L, 0 ≤ z ∧ z ≤ 49 := fun z hz => fsV_bd hz
  generalize fsV W T bs L = F at *
  have hcb := cornersB_bd W T bs
  clear hli hlr hlm
  go_enter Try.func97, Try.ntmps97
  go_wp2_with fail
  refine (unhide hFS).mono ?_
  rintro e w1 ⟨A7, c7, c7', rfl, ho7, hb1⟩
  have hB1 := hb0.trans (hb1.mono hb0.size)
  have k1 := k0.below hb1 k0.lt
  have h1 := h.below hB1 hglt
  have hreg1 : RegAt w1 bb (.slice A2 bs.length c2) bs := ⟨own_below hreg.1 hB1 (Nat.le_refl _), hbl⟩
  have hg1 : w.grownBy w1 (some g) := only_of_below hB1 (some g)
  have ho1 := own_mono ho7 hb0.size
  clear hFS hb1 k0 hb0 h hreg ho7 hB1
  have HF : Hid (∀ z ∈ F, 0 ≤ z ∧ z ≤ 49) := Lib.hid hfb
  clear hfb
  obtain ⟨q, hq⟩ : ∃ q, F.length = q := ⟨_, rfl⟩
  rw [hq] at ho1 ⊢
  have HQ := Lib.hid hq
  clear hq
  go_upto_region 2 with fail
  go_cut [18] (fun s18 wx => ∃ b : Bool, s18 = .bool b ∧ (b = true → 0 < q) ∧ Stepped w g B A n c p 1 zs wx ∧ Blk wx w.heap.size 25 #[.int .i64 W, .int .i64 T, .slice A2 bs.length c2] ∧ RegAt wx bb (.slice A2 bs.length c2) bs ∧ wx.ownsRow w.heap.size 3 1 (.slice A7 q c7) q (F.map (Value.int .i64)))
  case first =>
    rcases (show q = 0 ∨ 0 < q by omega) with rfl | h0
    · go_wp2_with fail
      go_meet
      exact ⟨false, rfl, (fun h => by cases h), ⟨p, by omega, by omega, h1, hg1⟩, k1, hreg1, ho1⟩
    · have hqd : decide (0 < (q : Int)) = true := decide_eq_true (by omega)
      go_wp2_with fail
      refine (pick_any g B A n c p zs 3 _ h1 (by omega)).mono ?_
      rintro e w2 ⟨x2, rfl, a2, b2, _, h2, g2⟩
      go_wp2_with fail
      go_meet
      exact ⟨_, rfl, fun _ => h0, ⟨p + 1, by omega, by omega, h2, hg1.trans g2⟩, k1.grown g2 (by simp; omega), hreg1.step g2 hgb, own_step ho1 g2 hglt⟩
  case rest =>
    clear h1 hg1 k1 hreg1 ho1
    obtain ⟨b, rfl, hbq, hst, k2, hreg2, ho2⟩ := hcut
    obtain ⟨p2, hp1, hp2, hR2, hgr2⟩ := hst
    cases b with
    | true =>
      have h0 := hbq rfl
      clear hbq
      obtain ⟨gF, cF, hsF, _⟩ := own_shape ho2 h0
      simp only [Value.slice.injEq, true_and] at hsF
      obtain ⟨rfl, _⟩ := hsF
      go_wp2_with fail
      refine (pick_any g B A n c p2 zs (q : Int) _ hR2 (by omega)).mono ?_
      rintro e w3 ⟨x3, rfl, a3, b3, _, h3, g3⟩
      have b3 := b3 (by omega)
      obtain ⟨j, rfl⟩ := Int.eq_ofNat_of_zero_le a3
      have hj : j < q := by omega
      have ho3 := own_step ho2 g3 hglt
      have hjF : j < F.length := by rw [HQ.out]; exact hj
      have hc := ho3.cellAt j (by omega)
      rw [List.getElem?_map, List.getElem?_eq_getElem hjF] at hc
      have hz := HF.out _ (List.getElem_mem hjF)
      generalize F[j] = z at hc hz
      simp only [Option.map_some] at hc
      go_wp2_with fail
      go_ret
      exact ⟨z, rfl, by omega, by omega, p2 + 1, by omega, by omega, h3, hgr2.trans g3⟩
    | false =>
      clear hbq
      have hCM := cornerManyS_any W T A2 bs.length c2 wc.heap.size bs wc rfl (Reads.of_own hreg2.1) (Nat.le_refl _) (by have := hreg2.2; omega)
      obtain ⟨b0', b1', b2'⟩ := blk3 k2
      generalize cornersB W T bs = cm at *
      go_wp2_with fail
      refine hCM.mono ?_
      rintro e w3 ⟨rfl, hb3⟩
      have hR3 := hR2.below hb3 hR2.lt
      have hgr3 : w.grownBy w3 (some g) := hgr2.trans (only_of_below hb3 _)
      clear hCM hR2 hgr2 hreg2 ho2 b0' b1' b2' k2 HF
      go_wp2_with fail
      refine (pick_any g B A n c p2 zs _ _ hR3 (by omega)).mono ?_
      rintro e w4 ⟨x4, rfl, a4, b4, _, h4, g4⟩
      have b4 := b4 (by omega)
      go_wp2_with fail
      refine (pick_any g B A n c (p2 + 1) zs 20 _ h4 (by omega)).mono ?_
      rintro e w5 ⟨x5, rfl, a5, b5, _, h5, g5⟩
      have b5 := b5 (by omega)
      have hd : x5.tdiv 19 = x5 / 19 := Int.tdiv_eq_ediv_of_nonneg a5
      go_wp2_with fail
      go_ret
      exact ⟨_, rfl, by omega, by omega, p2 + 1 + 1, by omega, by omega, h5, (hgr3.trans g4).trans g5⟩

end Go.Proofs.Ytpeifojfpkkcpaa

/-
  YtpeifojfpkkcpaaDb: drawing: what FnFlipOne draws.
-/
namespace Go.Proofs.Ytpeifojfpkkcpaa
open Go.RowKit
attribute [local go_sem ↓] Go.wp_at_zero Go.wp_at_succ

theorem LiAt.far3' {w : World} {b k : Nat} {vl : Value} {L : List Int} {cs : Array Value} {u0 u1 u2 : Value} (h : LiAt w b vl L) (hk : Blk w k 25 cs) : LiAt (((w.setCell ⟨k, 0, none⟩ u0).setCell ⟨k, 1, none⟩ u1).setCell ⟨k, 2, none⟩ u2) b vl L := by
  obtain ⟨A', c2, c3, e, ho⟩ := h
  have hne := own_blk_ne ho hk (by decide)
  exact ⟨A', c2, c3, e, ownsRow_setCell_other (ownsRow_setCell_other (ownsRow_setCell_other ho (a := ⟨k, 0, none⟩) hne u0) (a := ⟨k, 1, none⟩) hne u1) (a := ⟨k, 2, none⟩) hne u2⟩
theorem RegAt.far3' {w : World} {b k : Nat} {v : Value} {bs : List Bool} {cs : Array Value} {u0 u1 u2 : Value} (h : RegAt w b v bs) (hk : Blk w k 25 cs) : RegAt (((w.setCell ⟨k, 0, none⟩ u0).setCell ⟨k, 1, none⟩ u1).setCell ⟨k, 2, none⟩ u2) b v bs := by
  have hne := own_blk_ne h.1 hk (by decide)
  exact ⟨ownsRow_setCell_other (ownsRow_setCell_other (ownsRow_setCell_other h.1 (a := ⟨k, 0, none⟩) hne u0) (a := ⟨k, 1, none⟩) hne u1) (a := ⟨k, 2, none⟩) hne u2, h.2⟩
theorem below3' {w w' : World} {B k : Nat} {v0 v1 v2 : Value} (h : Below B w w') (hk : B ≤ k) : Below B w (((w'.setCell ⟨k, 0, none⟩ v0).setCell ⟨k, 1, none⟩ v1).setCell ⟨k, 2, none⟩ v2) :=
  ((h.setCell (p := ⟨k, 0, none⟩) hk v0).setCell (p := ⟨k, 1, none⟩) hk v1).setCell (p := ⟨k, 2, none⟩) hk v2
theorem set3' {w : World} {k : Nat} {u0 u1 u2 v0 v1 v2 : Value} {t : TypeId} (h : Blk w k t #[u0, u1, u2]) : Blk (((w.setCell ⟨k, 0, none⟩ v0).setCell ⟨k, 1, none⟩ v1).setCell ⟨k, 2, none⟩ v2) k t #[v0, v1, v2] := by
  have := ((h.set_ 0 v0).set_ 1 v1).set_ 2 v2
  simpa using this


end Go.Proofs.Ytpeifojfpkkcpaa

/-
  YtpeifojfpkkcpaaDc: drawing: a region and two lists of heights.
-/
namespace Go.Proofs.Ytpeifojfpkkcpaa
open Go.RowKit
attribute [local go_sem ↓] Go.wp_at_zero Go.wp_at_succ

/-- A store into a list of a drawing: another list that lies higher is as it was. -/
theorem DR.store {w wr : World} {g B : Nat} {A : Option Addr} {n c p d : Nat} {zs : List Int} {x : Nat} {W T : Int} {v : Value} {bs : List Bool} {gl m c1 b2 : Nat} {L L2 : List Int} {v2 : Value} (h : DR w wr g B A n c p d zs x W T v bs) (hl : LiAt wr w.heap.size (.slice (some ⟨gl, 0, none⟩) m c1) L) (h2 : LiAt wr b2 v2 L2) (hb2 : gl < b2) (hw2 : w.heap.size ≤ b2) {q : Nat} (hq : q < m) (z : Int) :
    (∃ z0, wr.cell? ⟨gl, q, none⟩ = some (.int .i64 z0)) ∧ wr.frozen? ⟨gl, q, none⟩ = false ∧ DR w (wr.setCell ⟨gl, q, none⟩ (.int .i64 z)) g B A n c p d zs x W T v bs ∧ LiAt (wr.setCell ⟨gl, q, none⟩ (.int .i64 z)) w.heap.size (.slice (some ⟨gl, 0, none⟩) m c1) (L.set q z) ∧ LiAt (wr.setCell ⟨gl, q, none⟩ (.int .i64 z)) w.heap.size v2 L2 := by
  obtain ⟨A', c2, c3, e, ho⟩ := hl
  simp only [Value.slice.injEq] at e
  obtain ⟨rfl, rfl, rfl⟩ := e
  have hb := own_lt ho rfl
  have hne1 : gl ≠ w.heap.size := by have := own_blk_ne ho h.res (by decide); simpa [Value.ownBlock] using this
  have hne2 : gl ≠ x := by have := own_blk_ne ho h.reg (by decide); simpa [Value.ownBlock] using this
  have hne3 : v.ownBlock ≠ some gl := by
    rcases own_far h.own.1 ho (by decide) with h1 | h1
    · rw [h1]; simp
    · simpa [Value.ownBlock] using h1
  have hc := ho.cellAt q (by omega)
  refine ⟨?_, ho.frozenAt q, ⟨h.st.put h.glt (a := ⟨gl, q, none⟩) hb.1 _, h.glt, h.res.far (p := ⟨gl, q, none⟩) (Ne.symm hne1) _, h.reg.far (p := ⟨gl, q, none⟩) (Ne.symm hne2) _, ⟨ownsRow_setCell_other h.own.1 (a := ⟨gl, q, none⟩) hne3 _, h.own.2⟩, h.xlt⟩, ?_, ?_⟩
  · rw [List.getElem?_map, List.getElem?_eq_getElem hq] at hc
    exact ⟨_, by simpa using hc⟩
  · refine ⟨some ⟨gl, 0, none⟩, c1, c3, by rw [List.length_set], ?_⟩
    rw [List.length_set, List.map_set]
    exact (ho.stored q _).1
  · obtain ⟨A4, c4, c5, e, ho2⟩ := h2
    refine ⟨A4, c4, c5, e, ownsRow_setCell_other (own_mono ho2 hw2) (a := ⟨gl, q, none⟩) ?_ _⟩
    intro hbk
    have := own_lt ho2 hbk
    simp at this
    omega


end Go.Proofs.Ytpeifojfpkkcpaa

/-
  YtpeifojfpkkcpaaDe: drawing: what the laws on heights and on the order draw.
-/
namespace Go.Proofs.Ytpeifojfpkkcpaa
open Go.RowKit
attribute [local go_sem ↓] Go.wp_at_zero Go.wp_at_succ

/-- A region and two lists. -/
def Drawn2 (w : World) (e : Ending) (w' : World) : Prop :=
  ∃ (W T : Int) (A2 : Option Addr) (c2 : Nat) (Da : Option Addr) (da : Nat) (Db : Option Addr) (db : Nat) (bs : List Bool) (La Lb : List Int), e = .returned (.tuple #[.agg #[.int .i64 W, .int .i64 T, .slice A2 bs.length c2], .slice Da La.length da, .slice Db Lb.length db]) ∧ RegAt w' w.heap.size (.slice A2 bs.length c2) bs ∧ LiAt w' w.heap.size (.slice Da La.length da) La ∧ La.length ≤ 99 ∧ LiAt w' w.heap.size (.slice Db Lb.length db) Lb ∧ Lb.length ≤ 99 ∧ Below w.heap.size w w'
/-- A region and a list. -/
def Drawn1 (w : World) (e : Ending) (w' : World) : Prop :=
  ∃ (W T : Int) (A2 : Option Addr) (c2 : Nat) (Da : Option Addr) (da : Nat) (bs : List Bool) (La : List Int), e = .returned (.tuple #[.agg #[.int .i64 W, .int .i64 T, .slice A2 bs.length c2], .slice Da La.length da]) ∧ RegAt w' w.heap.size (.slice A2 bs.length c2) bs ∧ LiAt w' w.heap.size (.slice Da La.length da) La ∧ La.length ≤ 99 ∧ Below w.heap.size w w'













end Go.Proofs.Ytpeifojfpkkcpaa

/-
  YtpeifojfpkkcpaaDf: left out.
-/
namespace Go.Proofs.Ytpeifojfpkkcpaa

end Go.Proofs.Ytpeifojfpkkcpaa

/-
  YtpeifojfpkkcpaaDg: left out.
-/
namespace Go.Proofs.Ytpeifojfpkkcpaa

end Go.Proofs.Ytpeifojfpkkcpaa
