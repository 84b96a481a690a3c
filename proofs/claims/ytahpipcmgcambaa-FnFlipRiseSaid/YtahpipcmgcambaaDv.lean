/-
  YtahpipcmgcambaaDv: the texts Dc, De, Df, Dg in one file.
-/
import Derived.Test.YtahpipcmgcambaaD9
import Derived.Test.YtahpipcmgcambaaDu
import Derived.Test.YtahpipcmgcambaaLz

/-
  YtahpipcmgcambaaDc: drawing: a region and two lists of heights.
-/
namespace Go.Proofs.Ytahpipcmgcambaa
open Go.RowKit
attribute [local go_sem ↓] Go.wp_at_zero Go.wp_at_succ

/-- A drawn region with two lists of heights. -/
def DrawnHH (w : World) (g B : Nat) (A : Option Addr) (n c p d : Nat) (zs : List Int) (e : Ending) (w' : World) : Prop :=
  ∃ (W T : Int) (v va vb : Value) (bs : List Bool) (La Lb : List Int), e = .returned (.tuple #[.agg #[.int .i64 W, .int .i64 T, v], va, vb]) ∧ RegAt w' w.heap.size v bs ∧ LiAt w' w.heap.size va La ∧ La.length ≤ 99 ∧ LiAt w' w.heap.size vb Lb ∧ Lb.length ≤ 99 ∧ Stepped w g B A n c p d zs w'
/-- A store into a list of a drawing: another list that lies higher is as it was. -/
theorem DR.store {w wr : World} {g B : Nat} {A : Option Addr} {n c p d : Nat} {zs : List Int} {x : Nat} {W T : Int} {v : Value} {bs : List Bool} {gl m c1 b2 : Nat} {L L2 : List Int} {v2 : Value} (h : DR w wr g B A n c p d zs x W T v bs) (hl : LiAt wr w.heap.size (.slice (some ⟨gl, 0, none⟩) m c1) L) (h2 : LiAt wr b2 v2 L2) (hb2 : gl < b2) (hw2 : w.heap.size ≤ b2) {q : Nat} (hq : q < m) (z : Int) :
    (∃ z0, wr.cell? ⟨gl, q, none⟩ = some (.int .i64 z0)) ∧ wr.frozen? ⟨gl, q, none⟩ = false ∧ DR w (wr.setCell ⟨gl, q, none⟩ (.int .i64 z)) g B A n c p d zs x W T v bs ∧ LiAt (wr.setCell ⟨gl, q, none⟩ (.int .i64 z)) w.heap.size (.slice (some ⟨gl, 0, none⟩) m c1) (L.set q z) ∧ LiAt (wr.setCell ⟨gl, q, none⟩ (.int .i64 z)) w.heap.size v2 L2 := by
  obtain ⟨A', c2, c3, e, ho⟩ := hl
  simp only [Value.slice.injEq] at e
  obtain ⟨rfl, rfl, rfl⟩ := e
  have hb := own_lt ho rfl
  have hne1 : gl ≠ w.heap.size := by have := own_blk_ne ho h.res (by decide); simpa [Value.ownBlock] using this
  have hne2 : gl ≠ x := by have := own_blk_ne ho h.reg (by decide); simpa [Value.ownBlock] using this
  have hne3 : v.ownBlock ≠ some gl := by
    rcases own_far h.own.1 ho (by decide) with h1 | h1
    · rw [h1]; simp
    · simpa [Value.ownBlock] using h1
  have hc := ho.cellAt q (by omega)
  refine ⟨?_, ho.frozenAt q, ⟨h.st.put h.glt (a := ⟨gl, q, none⟩) hb.1 _, h.glt, h.res.far (p := ⟨gl, q, none⟩) (Ne.symm hne1) _, h.reg.far (p := ⟨gl, q, none⟩) (Ne.symm hne2) _, ⟨ownsRow_setCell_other h.own.1 (a := ⟨gl, q, none⟩) hne3 _, h.own.2⟩, h.xlt⟩, ?_, ?_⟩
  · rw [List.getElem?_map, List.getElem?_eq_getElem hq] at hc
    exact ⟨_, by simpa using hc⟩
  · refine ⟨some ⟨gl, 0, none⟩, c1, c3, by rw [List.length_set], ?_⟩
    rw [List.length_set, List.map_set]
    exact (ho.stored q _).1
  · obtain ⟨A4, c4, c5, e, ho2⟩ := h2
    refine ⟨A4, c4, c5, e, ownsRow_setCell_other (own_mono ho2 hw2) (a := ⟨gl, q, none⟩) ?_ _⟩
    intro hbk
    have := own_lt ho2 hbk
    simp at this
    omega

set_option maxHeartbeats 4000000 in
set_option maxRecDepth 100000 in
theorem drawHeights_any (g B : Nat) (A : Option Addr) (n c p : Nat) (zs : List Int) (w : World) (h : Rd w g B A n c p zs) (hp : p ≤ 1000000) :
    Calls Try.prog 60 #[.pointer (some ⟨g, 0, none⟩)] w (DrawnHH w g B A n c p 500 zs) := by
  have hglt := h.lt
  go_enter Try.func60, Try.ntmps60
  go_wp2_with fail
  refine (drawTwo_any g B A n c p zs _ (h.alloc _) (by omega)).mono ?_
  rintro e w1 ⟨W, T, v, va, vb, bs, La, Lb, rfl, hreg, hla, hll, hlb, hllb, hst⟩
  obtain ⟨A2, c2, rfl, _, _⟩ := own_form hreg.1
  obtain ⟨p1, hp1, hp2, hR1, hg1⟩ := hst
  have hsz := hg1.size
  simp at hsz
  have hD0 : DR w (w1.alloc (.cells #[.int .i64 W, .int .i64 T, .slice A2 bs.length c2] 25)) g B A n c p 400 zs w1.heap.size W T (.slice A2 bs.length c2) bs :=
    ⟨Stepped.calm ⟨p1, hp1, hp2, hR1, only_alloc_start hg1⟩ ((Below.refl _ _).alloc (Nat.le_refl _) _), hglt, ((Blk.new w _ _).grown hg1 (by simp; omega)).alloc _, Blk.new _ _ _, (hreg.mono (by simp)).below ((Below.refl _ _).alloc (Nat.le_refl _) _), by omega⟩
  have hla1 := (hla.mono (b' := w.heap.size) (by simp)).below ((Below.refl w1.heap.size w1).alloc (Nat.le_refl _) (.cells #[.int .i64 W, .int .i64 T, .slice A2 bs.length c2] 25))
  have hlb1 := (hlb.mono (b' := w.heap.size) (by simp)).below ((Below.refl w1.heap.size w1).alloc (Nat.le_refl _) (.cells #[.int .i64 W, .int .i64 T, .slice A2 bs.length c2] 25))
  obtain ⟨Da, da, da', rfl, _⟩ := id hla
  obtain ⟨Db, db, db', rfl, _⟩ := id hlb
  clear hreg hla hlb hR1 hg1 h
  go_upto_region 2 with fail
  generalize w1.alloc (.cells #[.int .i64 W, .int .i64 T, .slice A2 bs.length c2] 25) = w2 at *
  generalize w1.heap.size = x at *
  have hbs := hD0.own.2
  have hC2 := heightsOfS_any W T A2 bs.length c2 w2.heap.size bs La Da La.length da w2 rfl rfl (Reads.of_own hD0.own.1) hla1.reads.2 (Nat.le_refl _) (by omega) (by omega)
  have hH1 := htsOf_len (W := W) (T := T) (bs := bs) (L := La)
  have hH2 := htsOf_len (W := W) (T := T) (bs := bs) (L := Lb)
  obtain ⟨⟨a0, a1, a2⟩, _, _, _⟩ := hD0.cells
  generalize htsOf W T bs La = H1 at *
  go_wp2_with fail
  refine hC2.mono ?_
  rintro e w3 ⟨A3, c3, rfl, _, ho3, hb3⟩
  have hD3 := hD0.calm hb3
  have hlb3 := hlb1.below hb3
  have hz3 : w.heap.size ≤ w2.heap.size := by obtain ⟨_, _, _, _, hq⟩ := hD0.st; exact hq.size
  have hh3 : LiAt w3 w.heap.size (.slice A3 H1.length c3) H1 := ⟨A3, c3, c3, rfl, own_mono ho3 hz3⟩
  have hzz : w2.heap.size ≤ w3.heap.size := hb3.size
  clear hD0 hla1 hlb1 hb3 ho3 hC2 a0 a1 a2
  have hC3 := heightsOfS_any W T A2 bs.length c2 w3.heap.size bs Lb Db Lb.length db w3 rfl rfl (Reads.of_own hD3.own.1) hlb3.reads.2 (Nat.le_refl _) (by omega) (by omega)
  obtain ⟨⟨a0, a1, a2⟩, _, _, _⟩ := hD3.cells
  generalize htsOf W T bs Lb = H2 at *
  go_wp2_with fail
  refine hC3.mono ?_
  rintro e w4 ⟨A4, c4, rfl, _, ho4, hb4⟩
  have hD4 := hD3.calm hb4
  have hh4 := hh3.below hb4
  have hz4 : w.heap.size ≤ w3.heap.size := Nat.le_trans hz3 hzz
  have hk4 : LiAt w4 w3.heap.size (.slice A4 H2.length c4) H2 := ⟨A4, c4, c4, rfl, ho4⟩
  have hgl : ∀ gl, A3 = some ⟨gl, 0, none⟩ → gl < w3.heap.size := fun gl e => by
    obtain ⟨A', c5, c6, e2, ho⟩ := hh3
    simp only [Value.slice.injEq] at e2
    obtain ⟨rfl, _, rfl⟩ := e2
    subst e
    exact (own_lt ho rfl).2
  clear hD3 hlb3 hh3 hb4 ho4 hC3 a0 a1 a2
  obtain ⟨p5, hp5, hp6, hR5, hgr5⟩ := hD4.st
  go_wp2_with fail
  refine (odd_any g B A n c p5 zs 6 _ hR5 (by omega)).mono ?_
  rintro e w5 ⟨b5, rfl, p6, hp7, hp8, h5, g5⟩
  have hD5 := hD4.step (d2 := 1) ⟨hp5, hp6⟩ hgr5 ⟨p6, hp7, hp8, h5, g5⟩
  have hh5 := hh4.step g5 hglt
  have hk5 := hk4.step g5 (by omega)
  have hgr6 := hgr5.trans g5
  clear hD4 hh4 hk4 hR5 hgr5 g5
  by_cases hgo : b5 = true ∧ 0 < H1.length
  · obtain ⟨rfl, hm0⟩ := hgo
    obtain ⟨gl, rfl⟩ := hh5.some hm0
    have hgl3 := hgl gl rfl
    go_upto_region 5 with fail
    go_wp2_with fail
    refine (pick_any g B A n c p6 zs (H1.length : Int) _ h5 (by omega)).mono ?_
    rintro e w6 ⟨x6, rfl, a6, b6, _, h6, g6⟩
    have b6 := b6 (by omega)
    have hD6 := hD5.step (d2 := 1) (p' := p6) (by omega) hgr6 ⟨p6 + 1, by omega, by omega, h6, g6⟩
    have hh6 := hh5.step g6 hglt
    have hk6 := hk5.step g6 (by omega)
    have hgr7 := hgr6.trans g6
    clear hD5 hh5 hk5 h5 hgr6 g6
    go_wp2_with fail
    refine (pick_any g B A n c (p6 + 1) zs 9 _ h6 (by omega)).mono ?_
    rintro e w7 ⟨x7, rfl, a7, b7, _, h7, g7⟩
    have b7 := b7 (by omega)
    have hD7 := hD6.step (d2 := 1) (p' := p6 + 1) (by omega) hgr7 ⟨p6 + 1 + 1, by omega, by omega, h7, g7⟩
    have hh7 := hh6.step g7 hglt
    have hk7 := hk6.step g7 (by omega)
    clear hD6 hh6 hk6 h6 hgr7 g7 h7
    obtain ⟨q, rfl⟩ := Int.eq_ofNat_of_zero_le a6
    have hq : q < H1.length := by omega
    obtain ⟨⟨z0, hz0⟩, hfz, hDs, hLs, hKs⟩ := hD7.store hh7 hk7 hgl3 hz4 hq (x7 - 4)
    clear hD7 hh7 hk7
    obtain ⟨⟨a0, a1, a2⟩, _, ⟨r0, r1, r2⟩, q0, q1, q2⟩ := hDs.cells
    obtain ⟨o1, o2⟩ := out_any (hDs.st.more (e := 500) (by omega)) hglt hDs.res hDs.own (.int .i64 W) (.int .i64 T) (.slice A2 bs.length c2)
    have o3 := hLs.far3 (u0 := .int .i64 W) (u1 := .int .i64 T) (u2 := .slice A2 bs.length c2) hDs.res
    have o4 := hKs.far3 (u0 := .int .i64 W) (u1 := .int .i64 T) (u2 := .slice A2 bs.length c2) hDs.res
    clear hDs hLs hKs
    go_wp2_with fail
    exact bodyPost_ret (v := .tuple #[.agg #[.int .i64 W, .int .i64 T, .slice A2 bs.length c2], .slice (some ⟨gl, 0, none⟩) H1.length c3, .slice A4 H2.length c4]) (by simp [results, Try.results60, go_sem, r0, r1, r2]) rfl ⟨W, T, _, _, _, bs, _, H2, rfl, o1, o3, by rw [List.length_set]; omega, o4, by omega, o2⟩
  · obtain ⟨⟨a0, a1, a2⟩, _, ⟨r0, r1, r2⟩, q0, q1, q2⟩ := hD5.cells
    obtain ⟨o1, o2⟩ := out_any (hD5.st.more (e := 500) (by omega)) hglt hD5.res hD5.own (.int .i64 W) (.int .i64 T) (.slice A2 bs.length c2)
    have o3 := hh5.far3 (u0 := .int .i64 W) (u1 := .int .i64 T) (u2 := .slice A2 bs.length c2) hD5.res
    have o4 := (hk5.mono (b' := w.heap.size) hz4).far3 (u0 := .int .i64 W) (u1 := .int .i64 T) (u2 := .slice A2 bs.length c2) hD5.res
    obtain ⟨m0, hm0⟩ : ∃ m0, H1.length = m0 := ⟨_, rfl⟩
    rw [hm0] at hgo o3 ⊢
    have hH1' : H1.length ≤ 99 := by omega
    clear hD5 hh5 hk5 h5 hgr6 hm0
    have hgo2 : b5 = false ∨ (b5 = true ∧ m0 = 0) := by
      cases b5 with
      | false => exact .inl rfl
      | true => exact .inr ⟨rfl, Nat.eq_zero_of_not_pos fun h => hgo ⟨rfl, h⟩⟩
    clear hgo
    rcases hgo2 with rfl | ⟨rfl, rfl⟩
    all_goals
      go_wp2_with fail
      exact bodyPost_ret (v := .tuple #[.agg #[.int .i64 W, .int .i64 T, .slice A2 bs.length c2], .slice A3 _ c3, .slice A4 H2.length c4]) (by simp [results, Try.results60, go_sem, r0, r1, r2]) rfl ⟨W, T, _, _, _, bs, H1, H2, rfl, o1, o3, hH1', o4, by omega, o2⟩

end Go.Proofs.Ytahpipcmgcambaa

/-
  YtahpipcmgcambaaDe: drawing: what the laws on heights and on the order draw.
-/
namespace Go.Proofs.Ytahpipcmgcambaa
open Go.RowKit
attribute [local go_sem ↓] Go.wp_at_zero Go.wp_at_succ

/-- A region and two lists. -/
def Drawn2 (w : World) (e : Ending) (w' : World) : Prop :=
  ∃ (W T : Int) (A2 : Option Addr) (c2 : Nat) (Da : Option Addr) (da : Nat) (Db : Option Addr) (db : Nat) (bs : List Bool) (La Lb : List Int), e = .returned (.tuple #[.agg #[.int .i64 W, .int .i64 T, .slice A2 bs.length c2], .slice Da La.length da, .slice Db Lb.length db]) ∧ RegAt w' w.heap.size (.slice A2 bs.length c2) bs ∧ LiAt w' w.heap.size (.slice Da La.length da) La ∧ La.length ≤ 99 ∧ LiAt w' w.heap.size (.slice Db Lb.length db) Lb ∧ Lb.length ≤ 99 ∧ Below w.heap.size w w'
/-- A region and a list. -/
def Drawn1 (w : World) (e : Ending) (w' : World) : Prop :=
  ∃ (W T : Int) (A2 : Option Addr) (c2 : Nat) (Da : Option Addr) (da : Nat) (bs : List Bool) (La : List Int), e = .returned (.tuple #[.agg #[.int .i64 W, .int .i64 T, .slice A2 bs.length c2], .slice Da La.length da]) ∧ RegAt w' w.heap.size (.slice A2 bs.length c2) bs ∧ LiAt w' w.heap.size (.slice Da La.length da) La ∧ La.length ≤ 99 ∧ Below w.heap.size w w'

set_option maxHeartbeats 4000000 in
set_option maxRecDepth 20000 in
theorem drawTilingHigh_any (A : Option Addr) (n c : Nat) (zs : List Int) (w : World) (hr : Reads w w.heap.size 1 A n (zs.map (Value.int .u8))) (hnc : n ≤ c) (hn : n ≤ 1048576) (hwz : ∀ z ∈ zs, (Lit.int .u8 z).wf = true) :
    Calls Try.prog 31 #[.slice A n c] w (Drawn2 w) := by
  have hb0 : Below w.heap.size w (w.alloc (boxR 0 0 none 0 0)) := (Below.refl _ _).alloc (Nat.le_refl _) _
  have k0 : Blk (w.alloc (boxR 0 0 none 0 0)) w.heap.size 25 #[.int .i64 0, .int .i64 0, .slice none 0 0] := Blk.new _ _ _
  have hOP := hide (open_any A n c zs (w.alloc (boxR 0 0 none 0 0)) ((hr.alloc (Nat.le_refl _) _).more (by simp)) hnc hn hwz)
  go_enter Try.func31, Try.ntmps31
  go_wp2_with fail
  refine (unhide hOP).mono ?_
  rintro e w1 ⟨g, n', zs', rfl, h1, b1⟩
  have hgB := h1.out
  have hb01 : w.heap.size ≤ w1.heap.size := (hb0.trans (b1.mono (by simp))).size
  have hglt := h1.lt
  simp at hgB
  have k1 := k0.below b1 k0.lt
  have hB1 := hb0.trans (b1.mono (by simp))
  clear hOP k0 hb0 b1
  go_wp2_with fail
  refine (drawTwo_any g _ A n' c 0 zs' _ h1 (by omega)).mono ?_
  rintro e w2 ⟨W, T, v, va, vb, bs, La, Lb, rfl, hreg, hla, hll, hlb, hllb, p2, hp1, hp2, h2, g2⟩
  obtain ⟨A2, c2, rfl, _, _⟩ := own_form hreg.1
  obtain ⟨Da, da, da', rfl, _⟩ := id hla
  obtain ⟨Db, db, db', rfl, _⟩ := id hlb
  have k2 := k1.grown g2 (by simp; omega)
  have hB2 := hB1.grown g2 hB1.size (fun k hk => by injection hk with hk; omega)
  obtain ⟨r0, r1, r2⟩ := blk3 k2
  have f0 := k2.frozen 0
  have f1 := k2.frozen 1
  have f2 := k2.frozen 2
  have o1 := ((hreg.mono hb01).far3' (u0 := .int .i64 W) (u1 := .int .i64 T) (u2 := .slice A2 bs.length c2) k2)
  have o2 := ((hla.mono hb01).far3' (u0 := .int .i64 W) (u1 := .int .i64 T) (u2 := .slice A2 bs.length c2) k2)
  have o3 := ((hlb.mono hb01).far3' (u0 := .int .i64 W) (u1 := .int .i64 T) (u2 := .slice A2 bs.length c2) k2)
  have o4 := below3' (v0 := .int .i64 W) (v1 := .int .i64 T) (v2 := .slice A2 bs.length c2) hB2 (Nat.le_refl _)
  obtain ⟨q0, q1, q2⟩ := blk3 (set3' (v0 := .int .i64 W) (v1 := .int .i64 T) (v2 := .slice A2 bs.length c2) k2)
  clear h1 k1 hB1 hreg hla hlb h2 g2 hB2
  go_wp2_with fail
  exact bodyPost_ret (v := .tuple #[.agg #[.int .i64 W, .int .i64 T, .slice A2 bs.length c2], .slice Da La.length da, .slice Db Lb.length db]) (by simp [results, Try.results31, go_sem, q0, q1, q2]) rfl ⟨W, T, A2, c2, Da, da, Db, db, bs, La, Lb, rfl, o1, o2, by omega, o3, by omega, o4⟩

set_option maxHeartbeats 4000000 in
set_option maxRecDepth 20000 in
theorem drawApart_any (A : Option Addr) (n c : Nat) (zs : List Int) (w : World) (hr : Reads w w.heap.size 1 A n (zs.map (Value.int .u8))) (hnc : n ≤ c) (hn : n ≤ 1048576) (hwz : ∀ z ∈ zs, (Lit.int .u8 z).wf = true) :
    Calls Try.prog 58 #[.slice A n c] w (Drawn2 w) := by
  have hb0 : Below w.heap.size w (w.alloc (boxR 0 0 none 0 0)) := (Below.refl _ _).alloc (Nat.le_refl _) _
  have k0 : Blk (w.alloc (boxR 0 0 none 0 0)) w.heap.size 25 #[.int .i64 0, .int .i64 0, .slice none 0 0] := Blk.new _ _ _
  have hOP := hide (open_any A n c zs (w.alloc (boxR 0 0 none 0 0)) ((hr.alloc (Nat.le_refl _) _).more (by simp)) hnc hn hwz)
  go_enter Try.func58, Try.ntmps58
  go_wp2_with fail
  refine (unhide hOP).mono ?_
  rintro e w1 ⟨g, n', zs', rfl, h1, b1⟩
  have hgB := h1.out
  have hb01 : w.heap.size ≤ w1.heap.size := (hb0.trans (b1.mono (by simp))).size
  have hglt := h1.lt
  simp at hgB
  have k1 := k0.below b1 k0.lt
  have hB1 := hb0.trans (b1.mono (by simp))
  clear hOP k0 hb0 b1
  go_wp2_with fail
  refine (drawTwo_any g _ A n' c 0 zs' _ h1 (by omega)).mono ?_
  rintro e w2 ⟨W, T, v, va, vb, bs, La, Lb, rfl, hreg, hla, hll, hlb, hllb, p2, hp1, hp2, h2, g2⟩
  obtain ⟨A2, c2, rfl, _, _⟩ := own_form hreg.1
  obtain ⟨Da, da, da', rfl, _⟩ := id hla
  obtain ⟨Db, db, db', rfl, _⟩ := id hlb
  have k2 := k1.grown g2 (by simp; omega)
  have hB2 := hB1.grown g2 hB1.size (fun k hk => by injection hk with hk; omega)
  obtain ⟨r0, r1, r2⟩ := blk3 k2
  have f0 := k2.frozen 0
  have f1 := k2.frozen 1
  have f2 := k2.frozen 2
  have o1 := ((hreg.mono hb01).far3' (u0 := .int .i64 W) (u1 := .int .i64 T) (u2 := .slice A2 bs.length c2) k2)
  have o2 := ((hla.mono hb01).far3' (u0 := .int .i64 W) (u1 := .int .i64 T) (u2 := .slice A2 bs.length c2) k2)
  have o3 := ((hlb.mono hb01).far3' (u0 := .int .i64 W) (u1 := .int .i64 T) (u2 := .slice A2 bs.length c2) k2)
  have o4 := below3' (v0 := .int .i64 W) (v1 := .int .i64 T) (v2 := .slice A2 bs.length c2) hB2 (Nat.le_refl _)
  obtain ⟨q0, q1, q2⟩ := blk3 (set3' (v0 := .int .i64 W) (v1 := .int .i64 T) (v2 := .slice A2 bs.length c2) k2)
  clear h1 k1 hB1 hreg hla hlb h2 g2 hB2
  go_wp2_with fail
  exact bodyPost_ret (v := .tuple #[.agg #[.int .i64 W, .int .i64 T, .slice A2 bs.length c2], .slice Da La.length da, .slice Db Lb.length db]) (by simp [results, Try.results58, go_sem, q0, q1, q2]) rfl ⟨W, T, A2, c2, Da, da, Db, db, bs, La, Lb, rfl, o1, o2, by omega, o3, by omega, o4⟩

set_option maxHeartbeats 4000000 in
set_option maxRecDepth 20000 in
theorem drawHeightsHigh_any (A : Option Addr) (n c : Nat) (zs : List Int) (w : World) (hr : Reads w w.heap.size 1 A n (zs.map (Value.int .u8))) (hnc : n ≤ c) (hn : n ≤ 1048576) (hwz : ∀ z ∈ zs, (Lit.int .u8 z).wf = true) :
    Calls Try.prog 25 #[.slice A n c] w (Drawn2 w) := by
  have hb0 : Below w.heap.size w (w.alloc (boxR 0 0 none 0 0)) := (Below.refl _ _).alloc (Nat.le_refl _) _
  have k0 : Blk (w.alloc (boxR 0 0 none 0 0)) w.heap.size 25 #[.int .i64 0, .int .i64 0, .slice none 0 0] := Blk.new _ _ _
  have hOP := hide (open_any A n c zs (w.alloc (boxR 0 0 none 0 0)) ((hr.alloc (Nat.le_refl _) _).more (by simp)) hnc hn hwz)
  go_enter Try.func25, Try.ntmps25
  go_wp2_with fail
  refine (unhide hOP).mono ?_
  rintro e w1 ⟨g, n', zs', rfl, h1, b1⟩
  have hgB := h1.out
  have hb01 : w.heap.size ≤ w1.heap.size := (hb0.trans (b1.mono (by simp))).size
  have hglt := h1.lt
  simp at hgB
  have k1 := k0.below b1 k0.lt
  have hB1 := hb0.trans (b1.mono (by simp))
  clear hOP k0 hb0 b1
  go_wp2_with fail
  refine (drawHeights_any g _ A n' c 0 zs' _ h1 (by omega)).mono ?_
  rintro e w2 ⟨W, T, v, va, vb, bs, La, Lb, rfl, hreg, hla, hll, hlb, hllb, p2, hp1, hp2, h2, g2⟩
  obtain ⟨A2, c2, rfl, _, _⟩ := own_form hreg.1
  obtain ⟨Da, da, da', rfl, _⟩ := id hla
  obtain ⟨Db, db, db', rfl, _⟩ := id hlb
  have k2 := k1.grown g2 (by simp; omega)
  have hB2 := hB1.grown g2 hB1.size (fun k hk => by injection hk with hk; omega)
  obtain ⟨r0, r1, r2⟩ := blk3 k2
  have f0 := k2.frozen 0
  have f1 := k2.frozen 1
  have f2 := k2.frozen 2
  have o1 := ((hreg.mono hb01).far3' (u0 := .int .i64 W) (u1 := .int .i64 T) (u2 := .slice A2 bs.length c2) k2)
  have o2 := ((hla.mono hb01).far3' (u0 := .int .i64 W) (u1 := .int .i64 T) (u2 := .slice A2 bs.length c2) k2)
  have o3 := ((hlb.mono hb01).far3' (u0 := .int .i64 W) (u1 := .int .i64 T) (u2 := .slice A2 bs.length c2) k2)
  have o4 := below3' (v0 := .int .i64 W) (v1 := .int .i64 T) (v2 := .slice A2 bs.length c2) hB2 (Nat.le_refl _)
  obtain ⟨q0, q1, q2⟩ := blk3 (set3' (v0 := .int .i64 W) (v1 := .int .i64 T) (v2 := .slice A2 bs.length c2) k2)
  clear h1 k1 hB1 hreg hla hlb h2 g2 hB2
  go_wp2_with fail
  exact bodyPost_ret (v := .tuple #[.agg #[.int .i64 W, .int .i64 T, .slice A2 bs.length c2], .slice Da La.length da, .slice Db Lb.length db]) (by simp [results, Try.results25, go_sem, q0, q1, q2]) rfl ⟨W, T, A2, c2, Da, da, Db, db, bs, La, Lb, rfl, o1, o2, by omega, o3, by omega, o4⟩

set_option maxHeartbeats 4000000 in
set_option maxRecDepth 20000 in
theorem drawHeightsLow_any (A : Option Addr) (n c : Nat) (zs : List Int) (w : World) (hr : Reads w w.heap.size 1 A n (zs.map (Value.int .u8))) (hnc : n ≤ c) (hn : n ≤ 1048576) (hwz : ∀ z ∈ zs, (Lit.int .u8 z).wf = true) :
    Calls Try.prog 28 #[.slice A n c] w (Drawn2 w) := by
  have hb0 : Below w.heap.size w (w.alloc (boxR 0 0 none 0 0)) := (Below.refl _ _).alloc (Nat.le_refl _) _
  have k0 : Blk (w.alloc (boxR 0 0 none 0 0)) w.heap.size 25 #[.int .i64 0, .int .i64 0, .slice none 0 0] := Blk.new _ _ _
  have hOP := hide (open_any A n c zs (w.alloc (boxR 0 0 none 0 0)) ((hr.alloc (Nat.le_refl _) _).more (by simp)) hnc hn hwz)
  go_enter Try.func28, Try.ntmps28
  go_wp2_with fail
  refine (unhide hOP).mono ?_
  rintro e w1 ⟨g, n', zs', rfl, h1, b1⟩
  have hgB := h1.out
  have hb01 : w.heap.size ≤ w1.heap.size := (hb0.trans (b1.mono (by simp))).size
  have hglt := h1.lt
  simp at hgB
  have k1 := k0.below b1 k0.lt
  have hB1 := hb0.trans (b1.mono (by simp))
  clear hOP k0 hb0 b1
  go_wp2_with fail
  refine (drawHeights_any g _ A n' c 0 zs' _ h1 (by omega)).mono ?_
  rintro e w2 ⟨W, T, v, va, vb, bs, La, Lb, rfl, hreg, hla, hll, hlb, hllb, p2, hp1, hp2, h2, g2⟩
  obtain ⟨A2, c2, rfl, _, _⟩ := own_form hreg.1
  obtain ⟨Da, da, da', rfl, _⟩ := id hla
  obtain ⟨Db, db, db', rfl, _⟩ := id hlb
  have k2 := k1.grown g2 (by simp; omega)
  have hB2 := hB1.grown g2 hB1.size (fun k hk => by injection hk with hk; omega)
  obtain ⟨r0, r1, r2⟩ := blk3 k2
  have f0 := k2.frozen 0
  have f1 := k2.frozen 1
  have f2 := k2.frozen 2
  have o1 := ((hreg.mono hb01).far3' (u0 := .int .i64 W) (u1 := .int .i64 T) (u2 := .slice A2 bs.length c2) k2)
  have o2 := ((hla.mono hb01).far3' (u0 := .int .i64 W) (u1 := .int .i64 T) (u2 := .slice A2 bs.length c2) k2)
  have o3 := ((hlb.mono hb01).far3' (u0 := .int .i64 W) (u1 := .int .i64 T) (u2 := .slice A2 bs.length c2) k2)
  have o4 := below3' (v0 := .int .i64 W) (v1 := .int .i64 T) (v2 := .slice A2 bs.length c2) hB2 (Nat.le_refl _)
  obtain ⟨q0, q1, q2⟩ := blk3 (set3' (v0 := .int .i64 W) (v1 := .int .i64 T) (v2 := .slice A2 bs.length c2) k2)
  clear h1 k1 hB1 hreg hla hlb h2 g2 hB2
  go_wp2_with fail
  exact bodyPost_ret (v := .tuple #[.agg #[.int .i64 W, .int .i64 T, .slice A2 bs.length c2], .slice Da La.length da, .slice Db Lb.length db]) (by simp [results, Try.results28, go_sem, q0, q1, q2]) rfl ⟨W, T, A2, c2, Da, da, Db, db, bs, La, Lb, rfl, o1, o2, by omega, o3, by omega, o4⟩

set_option maxHeartbeats 4000000 in
set_option maxRecDepth 20000 in
theorem drawHeightsOf_any (A : Option Addr) (n c : Nat) (zs : List Int) (w : World) (hr : Reads w w.heap.size 1 A n (zs.map (Value.int .u8))) (hnc : n ≤ c) (hn : n ≤ 1048576) (hwz : ∀ z ∈ zs, (Lit.int .u8 z).wf = true) :
    Calls Try.prog 55 #[.slice A n c] w (Drawn1 w) := by
  have hb0 : Below w.heap.size w (w.alloc (boxR 0 0 none 0 0)) := (Below.refl _ _).alloc (Nat.le_refl _) _
  have k0 : Blk (w.alloc (boxR 0 0 none 0 0)) w.heap.size 25 #[.int .i64 0, .int .i64 0, .slice none 0 0] := Blk.new _ _ _
  have hOP := hide (open_any A n c zs (w.alloc (boxR 0 0 none 0 0)) ((hr.alloc (Nat.le_refl _) _).more (by simp)) hnc hn hwz)
  go_enter Try.func55, Try.ntmps55
  go_wp2_with fail
  refine (unhide hOP).mono ?_
  rintro e w1 ⟨g, n', zs', rfl, h1, b1⟩
  have hgB := h1.out
  have hb01 : w.heap.size ≤ w1.heap.size := (hb0.trans (b1.mono (by simp))).size
  have hglt := h1.lt
  simp at hgB
  have k1 := k0.below b1 k0.lt
  have hB1 := hb0.trans (b1.mono (by simp))
  clear hOP k0 hb0 b1
  go_wp2_with fail
  refine (drawTwo_any g _ A n' c 0 zs' _ h1 (by omega)).mono ?_
  rintro e w2 ⟨W, T, v, va, vb, bs, La, Lb, rfl, hreg, hla, hll, hlb, hllb, p2, hp1, hp2, h2, g2⟩
  obtain ⟨A2, c2, rfl, _, _⟩ := own_form hreg.1
  obtain ⟨Da, da, da', rfl, _⟩ := id hla
  have k2 := k1.grown g2 (by simp; omega)
  have hB2 := hB1.grown g2 hB1.size (fun k hk => by injection hk with hk; omega)
  have hal : Below w2.heap.size w2 (w2.alloc (.cells #[.int .i64 W, .int .i64 T, .slice A2 bs.length c2] 25)) := (Below.refl _ _).alloc (Nat.le_refl _) _
  obtain ⟨x0, x1, x2⟩ := blk3 (Blk.new w2 25 #[.int .i64 W, .int .i64 T, .slice A2 bs.length c2])
  have k3 := k2.alloc (.cells #[.int .i64 W, .int .i64 T, .slice A2 bs.length c2] 25)
  have hB3 := hB2.alloc hB2.size (.cells #[.int .i64 W, .int .i64 T, .slice A2 bs.length c2] 25)
  have hreg3 := hreg.below hal
  have hla3 := hla.below hal
  clear hreg hla k2 hB2 hal
  obtain ⟨r0, r1, r2⟩ := blk3 k3
  have f0 := k3.frozen 0
  have f1 := k3.frozen 1
  have f2 := k3.frozen 2
  have o1 := ((hreg3.mono hb01).far3' (u0 := .int .i64 W) (u1 := .int .i64 T) (u2 := .slice A2 bs.length c2) k3)
  have o2 := ((hla3.mono hb01).far3' (u0 := .int .i64 W) (u1 := .int .i64 T) (u2 := .slice A2 bs.length c2) k3)
  have o4 := below3' (v0 := .int .i64 W) (v1 := .int .i64 T) (v2 := .slice A2 bs.length c2) hB3 (Nat.le_refl _)
  obtain ⟨q0, q1, q2⟩ := blk3 (set3' (v0 := .int .i64 W) (v1 := .int .i64 T) (v2 := .slice A2 bs.length c2) k3)
  clear h1 k1 hB1 hreg3 hla3 hlb h2 g2 hB3
  go_wp2_with fail
  exact bodyPost_ret (v := .tuple #[.agg #[.int .i64 W, .int .i64 T, .slice A2 bs.length c2], .slice Da La.length da]) (by simp [results, Try.results55, go_sem, q0, q1, q2]) rfl ⟨W, T, A2, c2, Da, da, bs, La, rfl, o1, o2, by omega, o4⟩

set_option maxHeartbeats 4000000 in
set_option maxRecDepth 20000 in
theorem drawTilingBy_any (A : Option Addr) (n c : Nat) (zs : List Int) (w : World) (hr : Reads w w.heap.size 1 A n (zs.map (Value.int .u8))) (hnc : n ≤ c) (hn : n ≤ 1048576) (hwz : ∀ z ∈ zs, (Lit.int .u8 z).wf = true) :
    Calls Try.prog 15 #[.slice A n c] w (Drawn1 w) := by
  have hb0 : Below w.heap.size w (w.alloc (boxR 0 0 none 0 0)) := (Below.refl _ _).alloc (Nat.le_refl _) _
  have k0 : Blk (w.alloc (boxR 0 0 none 0 0)) w.heap.size 25 #[.int .i64 0, .int .i64 0, .slice none 0 0] := Blk.new _ _ _
  have hOP := hide (open_any A n c zs (w.alloc (boxR 0 0 none 0 0)) ((hr.alloc (Nat.le_refl _) _).more (by simp)) hnc hn hwz)
  go_enter Try.func15, Try.ntmps15
  go_wp2_with fail
  refine (unhide hOP).mono ?_
  rintro e w1 ⟨g, n', zs', rfl, h1, b1⟩
  have hgB := h1.out
  have hb01 : w.heap.size ≤ w1.heap.size := (hb0.trans (b1.mono (by simp))).size
  have hglt := h1.lt
  simp at hgB
  have k1 := k0.below b1 k0.lt
  have hB1 := hb0.trans (b1.mono (by simp))
  clear hOP k0 hb0 b1
  go_wp2_with fail
  refine (drawHeights_any g _ A n' c 0 zs' _ h1 (by omega)).mono ?_
  rintro e w2 ⟨W, T, v, va, vb, bs, La, Lb, rfl, hreg, hla, hll, hlb, hllb, p2, hp1, hp2, h2, g2⟩
  obtain ⟨A2, c2, rfl, _, _⟩ := own_form hreg.1
  obtain ⟨Da, da, da', rfl, _⟩ := id hla
  have k2 := k1.grown g2 (by simp; omega)
  have hB2 := hB1.grown g2 hB1.size (fun k hk => by injection hk with hk; omega)
  have hal : Below w2.heap.size w2 (w2.alloc (.cells #[.int .i64 W, .int .i64 T, .slice A2 bs.length c2] 25)) := (Below.refl _ _).alloc (Nat.le_refl _) _
  obtain ⟨x0, x1, x2⟩ := blk3 (Blk.new w2 25 #[.int .i64 W, .int .i64 T, .slice A2 bs.length c2])
  have k3 := k2.alloc (.cells #[.int .i64 W, .int .i64 T, .slice A2 bs.length c2] 25)
  have hB3 := hB2.alloc hB2.size (.cells #[.int .i64 W, .int .i64 T, .slice A2 bs.length c2] 25)
  have hreg3 := hreg.below hal
  have hla3 := hla.below hal
  clear hreg hla k2 hB2 hal
  obtain ⟨r0, r1, r2⟩ := blk3 k3
  have f0 := k3.frozen 0
  have f1 := k3.frozen 1
  have f2 := k3.frozen 2
  have o1 := ((hreg3.mono hb01).far3' (u0 := .int .i64 W) (u1 := .int .i64 T) (u2 := .slice A2 bs.length c2) k3)
  have o2 := ((hla3.mono hb01).far3' (u0 := .int .i64 W) (u1 := .int .i64 T) (u2 := .slice A2 bs.length c2) k3)
  have o4 := below3' (v0 := .int .i64 W) (v1 := .int .i64 T) (v2 := .slice A2 bs.length c2) hB3 (Nat.le_refl _)
  obtain ⟨q0, q1, q2⟩ := blk3 (set3' (v0 := .int .i64 W) (v1 := .int .i64 T) (v2 := .slice A2 bs.length c2) k3)
  clear h1 k1 hB1 hreg3 hla3 hlb h2 g2 hB3
  go_wp2_with fail
  exact bodyPost_ret (v := .tuple #[.agg #[.int .i64 W, .int .i64 T, .slice A2 bs.length c2], .slice Da La.length da]) (by simp [results, Try.results15, go_sem, q0, q1, q2]) rfl ⟨W, T, A2, c2, Da, da, bs, La, rfl, o1, o2, by omega, o4⟩

set_option maxHeartbeats 4000000 in
set_option maxRecDepth 20000 in
theorem drawHeightsOk_any (A : Option Addr) (n c : Nat) (zs : List Int) (w : World) (hr : Reads w w.heap.size 1 A n (zs.map (Value.int .u8))) (hnc : n ≤ c) (hn : n ≤ 1048576) (hwz : ∀ z ∈ zs, (Lit.int .u8 z).wf = true) :
    Calls Try.prog 22 #[.slice A n c] w (Drawn1 w) := by
  have hb0 : Below w.heap.size w (w.alloc (boxR 0 0 none 0 0)) := (Below.refl _ _).alloc (Nat.le_refl _) _
  have k0 : Blk (w.alloc (boxR 0 0 none 0 0)) w.heap.size 25 #[.int .i64 0, .int .i64 0, .slice none 0 0] := Blk.new _ _ _
  have hOP := hide (open_any A n c zs (w.alloc (boxR 0 0 none 0 0)) ((hr.alloc (Nat.le_refl _) _).more (by simp)) hnc hn hwz)
  go_enter Try.func22, Try.ntmps22
  go_wp2_with fail
  refine (unhide hOP).mono ?_
  rintro e w1 ⟨g, n', zs', rfl, h1, b1⟩
  have hgB := h1.out
  have hb01 : w.heap.size ≤ w1.heap.size := (hb0.trans (b1.mono (by simp))).size
  have hglt := h1.lt
  simp at hgB
  have k1 := k0.below b1 k0.lt
  have hB1 := hb0.trans (b1.mono (by simp))
  clear hOP k0 hb0 b1
  go_wp2_with fail
  refine (drawHeights_any g _ A n' c 0 zs' _ h1 (by omega)).mono ?_
  rintro e w2 ⟨W, T, v, va, vb, bs, La, Lb, rfl, hreg, hla, hll, hlb, hllb, p2, hp1, hp2, h2, g2⟩
  obtain ⟨A2, c2, rfl, _, _⟩ := own_form hreg.1
  obtain ⟨Da, da, da', rfl, _⟩ := id hla
  have k2 := k1.grown g2 (by simp; omega)
  have hB2 := hB1.grown g2 hB1.size (fun k hk => by injection hk with hk; omega)
  have hal : Below w2.heap.size w2 (w2.alloc (.cells #[.int .i64 W, .int .i64 T, .slice A2 bs.length c2] 25)) := (Below.refl _ _).alloc (Nat.le_refl _) _
  obtain ⟨x0, x1, x2⟩ := blk3 (Blk.new w2 25 #[.int .i64 W, .int .i64 T, .slice A2 bs.length c2])
  have k3 := k2.alloc (.cells #[.int .i64 W, .int .i64 T, .slice A2 bs.length c2] 25)
  have hB3 := hB2.alloc hB2.size (.cells #[.int .i64 W, .int .i64 T, .slice A2 bs.length c2] 25)
  have hreg3 := hreg.below hal
  have hla3 := hla.below hal
  clear hreg hla k2 hB2 hal
  obtain ⟨r0, r1, r2⟩ := blk3 k3
  have f0 := k3.frozen 0
  have f1 := k3.frozen 1
  have f2 := k3.frozen 2
  have o1 := ((hreg3.mono hb01).far3' (u0 := .int .i64 W) (u1 := .int .i64 T) (u2 := .slice A2 bs.length c2) k3)
  have o2 := ((hla3.mono hb01).far3' (u0 := .int .i64 W) (u1 := .int .i64 T) (u2 := .slice A2 bs.length c2) k3)
  have o4 := below3' (v0 := .int .i64 W) (v1 := .int .i64 T) (v2 := .slice A2 bs.length c2) hB3 (Nat.le_refl _)
  obtain ⟨q0, q1, q2⟩ := blk3 (set3' (v0 := .int .i64 W) (v1 := .int .i64 T) (v2 := .slice A2 bs.length c2) k3)
  clear h1 k1 hB1 hreg3 hla3 hlb h2 g2 hB3
  go_wp2_with fail
  exact bodyPost_ret (v := .tuple #[.agg #[.int .i64 W, .int .i64 T, .slice A2 bs.length c2], .slice Da La.length da]) (by simp [results, Try.results22, go_sem, q0, q1, q2]) rfl ⟨W, T, A2, c2, Da, da, bs, La, rfl, o1, o2, by omega, o4⟩

end Go.Proofs.Ytahpipcmgcambaa

/-
  YtahpipcmgcambaaDf: drawing: what FnBelow and FnFlipRise draw.
-/
namespace Go.Proofs.Ytahpipcmgcambaa
open Go.RowKit
attribute [local go_sem ↓] Go.wp_at_zero Go.wp_at_succ

theorem twoV_len36 {f : Int → Int → Int} (hf : Keeps f) {W T : Int} {bs : List Bool} {a b : List Int} : (twoV f W T bs a b).length ≤ 36 := by
  cases h : twoB W T bs a b with
  | false => rw [twoV_mty h]; simp
  | true =>
    obtain ⟨h1, h2⟩ := twoB_iff.1 h
    obtain ⟨R, hR, rfl, rfl, rfl, hS, ha, hb⟩ := two_cases h1 h2
    rw [(two_hts hf hR hS ha hb).1.1.len]
    exact (len_bd hR).2

set_option maxHeartbeats 4000000 in
set_option maxRecDepth 20000 in
theorem drawBelow_any (A : Option Addr) (n c : Nat) (zs : List Int) (w : World) (hr : Reads w w.heap.size 1 A n (zs.map (Value.int .u8))) (hnc : n ≤ c) (hn : n ≤ 1048576) (hwz : ∀ z ∈ zs, (Lit.int .u8 z).wf = true) :
    Calls Try.prog 35 #[.slice A n c] w (Drawn2 w) := by
  have hb0 : Below w.heap.size w (w.alloc (boxR 0 0 none 0 0)) := (Below.refl _ _).alloc (Nat.le_refl _) _
  have k0 : Blk (w.alloc (boxR 0 0 none 0 0)) w.heap.size 25 #[.int .i64 0, .int .i64 0, .slice none 0 0] := Blk.new _ _ _
  have hOP := hide (open_any A n c zs (w.alloc (boxR 0 0 none 0 0)) ((hr.alloc (Nat.le_refl _) _).more (by simp)) hnc hn hwz)
  go_enter Try.func35, Try.ntmps35
  go_wp2_with fail
  refine (unhide hOP).mono ?_
  rintro e w1 ⟨g, n', zs', rfl, h1, b1⟩
  have hgB := h1.out
  have hb01 : w.heap.size ≤ w1.heap.size := (hb0.trans (b1.mono (by simp))).size
  have hglt := h1.lt
  simp at hgB
  have k1 := k0.below b1 k0.lt
  have hB1 := hb0.trans (b1.mono (by simp))
  clear hOP k0 hb0 b1
  go_wp2_with fail
  refine (drawTwo_any g _ A n' c 0 zs' _ h1 (by omega)).mono ?_
  rintro e w2 ⟨W, T, v, va, vb, bs, La, Lb, rfl, hreg, hla, hll, hlb, hllb, p2, hp1, hp2, h2, g2⟩
  obtain ⟨A2, c2, rfl, _, _⟩ := own_form hreg.1
  obtain ⟨Da, da, da', rfl, _⟩ := id hla
  obtain ⟨Db, db, db', rfl, _⟩ := id hlb
  have k2 := k1.grown g2 (by simp; omega)
  have hB2 := hB1.grown g2 hB1.size (fun k hk => by injection hk with hk; omega)
  have hal : Below w2.heap.size w2 (w2.alloc (.cells #[.int .i64 W, .int .i64 T, .slice A2 bs.length c2] 25)) := (Below.refl _ _).alloc (Nat.le_refl _) _
  have kx := Blk.new w2 25 #[.int .i64 W, .int .i64 T, .slice A2 bs.length c2]
  have k3 := k2.alloc (.cells #[.int .i64 W, .int .i64 T, .slice A2 bs.length c2] 25)
  have hB3 := hB2.alloc hB2.size (.cells #[.int .i64 W, .int .i64 T, .slice A2 bs.length c2] 25)
  have hreg3 := hreg.below hal
  have hla3 := hla.below hal
  have hlb3 := hlb.below hal
  have h3 := h2.alloc (.cells #[.int .i64 W, .int .i64 T, .slice A2 bs.length c2] 25)
  have hxg : w2.heap.size ≠ g := by have := h2.lt; omega
  clear hreg hla hlb k2 hB2 hal h1 k1 hB1 h2 g2
  go_upto_region 3 with fail
  generalize w2.alloc (.cells #[.int .i64 W, .int .i64 T, .slice A2 bs.length c2] 25) = w3 at *
  generalize w2.heap.size = x at *
  have hbs := hreg3.2
  have hLO := tilingLowS_any W T A2 bs.length c2 w3.heap.size bs La Da La.length da Lb Db Lb.length db w3 rfl rfl rfl (Reads.of_own hreg3.1) hla3.reads.2 hlb3.reads.2 (Nat.le_refl _) (by omega) (by omega) (by omega)
  have hMl := twoV_len36 keeps_min (W := W) (T := T) (bs := bs) (a := La) (b := Lb)
  generalize twoV min W T bs La Lb = M at *
  generalize twoB W T bs La Lb = tb at *
  obtain ⟨x0, x1, x2⟩ := blk3 kx
  go_wp2_with fail
  refine hLO.mono ?_
  rintro e w4 ⟨A4, c4, c4', rfl, ho4, hb4⟩
  have kx4 := kx.below hb4 kx.lt
  have k4 := k3.below hb4 k3.lt
  have hB4 := hB3.trans (hb4.mono hB3.size)
  have hreg4 := hreg3.below hb4
  have hla4 := hla3.below hb4
  have hlb4 := hlb3.below hb4
  have h4 := h3.below hb4 h3.lt
  have hm4 : LiAt w4 w.heap.size (.slice A4 M.length c4') M := ⟨A4, c4', c4, rfl, own_mono ho4 hB3.size⟩
  clear hLO kx k3 hB3 hreg3 hla3 hlb3 h3 hb4 ho4 x0 x1 x2
  cases tb with
  | false =>
    obtain ⟨x0, x1, x2⟩ := blk3 kx4
    obtain ⟨r0, r1, r2⟩ := blk3 k4
    have f0 := k4.frozen 0
    have f1 := k4.frozen 1
    have f2 := k4.frozen 2
    have o1 := ((hreg4.mono hb01).far3' (u0 := .int .i64 W) (u1 := .int .i64 T) (u2 := .slice A2 bs.length c2) k4)
    have o2 := ((hla4.mono hb01).far3' (u0 := .int .i64 W) (u1 := .int .i64 T) (u2 := .slice A2 bs.length c2) k4)
    have o3 := ((hlb4.mono hb01).far3' (u0 := .int .i64 W) (u1 := .int .i64 T) (u2 := .slice A2 bs.length c2) k4)
    have o4 := below3' (v0 := .int .i64 W) (v1 := .int .i64 T) (v2 := .slice A2 bs.length c2) hB4 (Nat.le_refl _)
    obtain ⟨q0, q1, q2⟩ := blk3 (set3' (v0 := .int .i64 W) (v1 := .int .i64 T) (v2 := .slice A2 bs.length c2) k4)
    clear kx4 k4 hB4 hreg4 hla4 hlb4 h4 hm4
    go_wp2_with fail
    exact bodyPost_ret (v := .tuple #[.agg #[.int .i64 W, .int .i64 T, .slice A2 bs.length c2], .slice Da La.length da, .slice Db Lb.length db]) (by simp [results, Try.results35, go_sem, q0, q1, q2]) rfl ⟨W, T, A2, c2, _, _, Db, db, bs, La, Lb, rfl, o1, o2, by omega, o3, by omega, o4⟩
  | true =>
    go_wp2_with fail
    refine (pick_any g _ A n' c p2 zs' 3 _ h4 (by omega)).mono ?_
    rintro e w5 ⟨y, rfl, a5, b5, _, h5, g5⟩
    have kx5 := kx4.grown g5 (by simpa using hxg)
    have k5 := k4.grown g5 (by simp; omega)
    have hB5 := hB4.grown g5 hB4.size (fun k hk => by injection hk with hk; omega)
    have hreg5 := hreg4.step g5 hglt
    have hla5 := hla4.step g5 hglt
    have hlb5 := hlb4.step g5 hglt
    have hm5 : LiAt w5 w.heap.size (.slice A4 M.length c4') M := by
      obtain ⟨A6, c6, c7, e6, ho6⟩ := hm4
      exact ⟨A6, c6, c7, e6, own_grown ho6 g5 (by
        right
        intro hbk
        exact own_blk_ne ho6 h4.blk (by decide) hbk)⟩
    clear kx4 k4 hB4 hreg4 hla4 hlb4 h4 hm4 h5 g5 a5 b5
    by_cases hy : y = 0
    · subst hy
      obtain ⟨x0, x1, x2⟩ := blk3 kx5
      obtain ⟨r0, r1, r2⟩ := blk3 k5
      have f0 := k5.frozen 0
      have f1 := k5.frozen 1
      have f2 := k5.frozen 2
      have o1 := ((hreg5.mono hb01).far3' (u0 := .int .i64 W) (u1 := .int .i64 T) (u2 := .slice A2 bs.length c2) k5)
      have o2 := ((hm5).far3' (u0 := .int .i64 W) (u1 := .int .i64 T) (u2 := .slice A2 bs.length c2) k5)
      have o3 := ((hlb5.mono hb01).far3' (u0 := .int .i64 W) (u1 := .int .i64 T) (u2 := .slice A2 bs.length c2) k5)
      have o4 := below3' (v0 := .int .i64 W) (v1 := .int .i64 T) (v2 := .slice A2 bs.length c2) hB5 (Nat.le_refl _)
      obtain ⟨q0, q1, q2⟩ := blk3 (set3' (v0 := .int .i64 W) (v1 := .int .i64 T) (v2 := .slice A2 bs.length c2) k5)
      clear kx5 k5 hB5 hreg5 hla5 hlb5 hm5
      go_wp2_with fail
      exact bodyPost_ret (v := .tuple #[.agg #[.int .i64 W, .int .i64 T, .slice A2 bs.length c2], .slice A4 M.length c4', .slice Db Lb.length db]) (by simp [results, Try.results35, go_sem, q0, q1, q2]) rfl ⟨W, T, A2, c2, _, _, Db, db, bs, M, Lb, rfl, o1, o2, by omega, o3, by omega, o4⟩
    · have hyd : (y == 0) = false := by simpa using hy
      clear hy
      obtain ⟨x0, x1, x2⟩ := blk3 kx5
      obtain ⟨r0, r1, r2⟩ := blk3 k5
      have f0 := k5.frozen 0
      have f1 := k5.frozen 1
      have f2 := k5.frozen 2
      have o1 := ((hreg5.mono hb01).far3' (u0 := .int .i64 W) (u1 := .int .i64 T) (u2 := .slice A2 bs.length c2) k5)
      have o2 := ((hla5.mono hb01).far3' (u0 := .int .i64 W) (u1 := .int .i64 T) (u2 := .slice A2 bs.length c2) k5)
      have o3 := ((hlb5.mono hb01).far3' (u0 := .int .i64 W) (u1 := .int .i64 T) (u2 := .slice A2 bs.length c2) k5)
      have o4 := below3' (v0 := .int .i64 W) (v1 := .int .i64 T) (v2 := .slice A2 bs.length c2) hB5 (Nat.le_refl _)
      obtain ⟨q0, q1, q2⟩ := blk3 (set3' (v0 := .int .i64 W) (v1 := .int .i64 T) (v2 := .slice A2 bs.length c2) k5)
      clear kx5 k5 hB5 hreg5 hla5 hlb5 hm5
      go_wp2_with fail
      exact bodyPost_ret (v := .tuple #[.agg #[.int .i64 W, .int .i64 T, .slice A2 bs.length c2], .slice Da La.length da, .slice Db Lb.length db]) (by simp [results, Try.results35, go_sem, q0, q1, q2]) rfl ⟨W, T, A2, c2, _, _, Db, db, bs, La, Lb, rfl, o1, o2, by omega, o3, by omega, o4⟩

end Go.Proofs.Ytahpipcmgcambaa

/-
  YtahpipcmgcambaaDg: drawing: what FnFlipRise draws.
-/
namespace Go.Proofs.Ytahpipcmgcambaa
open Go.RowKit
attribute [local go_sem ↓] Go.wp_at_zero Go.wp_at_succ

set_option maxHeartbeats 4000000 in
set_option maxRecDepth 20000 in
theorem drawFlipRise_any (A : Option Addr) (n c : Nat) (zs : List Int) (w : World) (hr : Reads w w.heap.size 1 A n (zs.map (Value.int .u8))) (hnc : n ≤ c) (hn : n ≤ 1048576) (hwz : ∀ z ∈ zs, (Lit.int .u8 z).wf = true) :
    Calls Try.prog 38 #[.slice A n c] w (DrawnK w) := by
  have hb0 : Below w.heap.size w (w.alloc (boxR 0 0 none 0 0)) := (Below.refl _ _).alloc (Nat.le_refl _) _
  have k0 : Blk (w.alloc (boxR 0 0 none 0 0)) w.heap.size 25 #[.int .i64 0, .int .i64 0, .slice none 0 0] := Blk.new _ _ _
  have hOP := hide (open_any A n c zs (w.alloc (boxR 0 0 none 0 0)) ((hr.alloc (Nat.le_refl _) _).more (by simp)) hnc hn hwz)
  go_enter Try.func38, Try.ntmps38
  go_wp2_with fail
  refine (unhide hOP).mono ?_
  rintro e w1 ⟨g, n', zs', rfl, h1, b1⟩
  have hgB := h1.out
  have hb01 : w.heap.size ≤ w1.heap.size := (hb0.trans (b1.mono (by simp))).size
  have hglt := h1.lt
  simp at hgB
  have k1 := k0.below b1 k0.lt
  have hB1 := hb0.trans (b1.mono (by simp))
  clear hOP k0 hb0 b1
  go_wp2_with fail
  refine (drawTwo_any g _ A n' c 0 zs' _ h1 (by omega)).mono ?_
  rintro e w2 ⟨W, T, v, va, vb, bs, La, Lb, rfl, hreg, hla, hll, hlb, hllb, p2, hp1, hp2, h2, g2⟩
  obtain ⟨A2, c2, rfl, _, _⟩ := own_form hreg.1
  obtain ⟨Da, da, da', rfl, _⟩ := id hla
  obtain ⟨Db, db, db', rfl, _⟩ := id hlb
  have k2 := k1.grown g2 (by simp; omega)
  have hB2 := hB1.grown g2 hB1.size (fun k hk => by injection hk with hk; omega)
  have hal : Below w2.heap.size w2 (w2.alloc (.cells #[.int .i64 W, .int .i64 T, .slice A2 bs.length c2] 25)) := (Below.refl _ _).alloc (Nat.le_refl _) _
  have kx := Blk.new w2 25 #[.int .i64 W, .int .i64 T, .slice A2 bs.length c2]
  have k3 := k2.alloc (.cells #[.int .i64 W, .int .i64 T, .slice A2 bs.length c2] 25)
  have hB3 := hB2.alloc hB2.size (.cells #[.int .i64 W, .int .i64 T, .slice A2 bs.length c2] 25)
  have hreg3 := hreg.below hal
  have hla3 := hla.below hal
  have hlb3 := hlb.below hal
  have h3 := h2.alloc (.cells #[.int .i64 W, .int .i64 T, .slice A2 bs.length c2] 25)
  have hxg : w2.heap.size ≠ g := by have := h2.lt; omega
  clear hreg hla hlb k2 hB2 hal h1 k1 hB1 h2 g2
  go_upto_region 3 with fail
  generalize w2.alloc (.cells #[.int .i64 W, .int .i64 T, .slice A2 bs.length c2] 25) = w3 at *
  generalize w2.heap.size = x at *
  have hbs := hreg3.2
  have hd := (Below.refl w3.heap.size w3).drew
  have hCO := hide (drawCorner_any g _ A n' c p2 zs' W T A2 c2 bs Da La.length da w1.heap.size La w3.drew h3.drewR (by omega) (hreg3.below hd) (hla3.below hd) hglt (by omega))
  obtain ⟨x0, x1, x2⟩ := blk3 kx
  obtain ⟨y0, y1, y2⟩ := blk3 kx.drew
  go_region_law
    (first
      | ((rw [if_pos (by rfl)]); go_simp; (with_reducible refine (unhide hCO).mono ?_); rintro e w5 ⟨k, rfl, hk1, hk2, p5, hp5, hp6, h5, g5⟩; have kx5 := kx.drew.grown g5 (by simp; omega); have k5 := k3.drew.grown g5 (by simp; omega); obtain ⟨z0, z1, z2⟩ := blk3 kx5; obtain ⟨r0, r1, r2⟩ := blk3 k5; have f0 := k5.frozen 0; have f1 := k5.frozen 1; have f2 := k5.frozen 2; go_simp))
  all_goals
    have hB5 := hB3.drew.grown g5 hB3.drew.size (fun k hk => by injection hk with hk; omega)
    have hsz3 := hB3.size
    have o1 := ((((hreg3.below hd).step g5 hglt).mono (Nat.le_trans hb01 (Nat.le_refl _))).far3' (u0 := .int .i64 W) (u1 := .int .i64 T) (u2 := .slice A2 bs.length c2) k5)
    have o2 := ((((hla3.below hd).step g5 hglt).mono (Nat.le_trans hb01 (Nat.le_refl _))).far3' (u0 := .int .i64 W) (u1 := .int .i64 T) (u2 := .slice A2 bs.length c2) k5)
    have o3 := below3' (v0 := .int .i64 W) (v1 := .int .i64 T) (v2 := .slice A2 bs.length c2) hB5 (Nat.le_refl _)
    obtain ⟨q0, q1, q2⟩ := blk3 (set3' (v0 := .int .i64 W) (v1 := .int .i64 T) (v2 := .slice A2 bs.length c2) k5)
    clear hCO kx k3 h3 hreg3 hla3 x0 x1 x2 y0 y1 y2 z0 z1 z2 r0 r1 r2 f0 f1 f2 kx5 k5 h5 g5 hB5 hB3
    go_wp2_with fail
    exact bodyPost_ret (v := .tuple #[.agg #[.int .i64 W, .int .i64 T, .slice A2 bs.length c2], .slice Da La.length da, .int .i64 k]) (by simp [results, Try.results38, go_sem, q0, q1, q2]) rfl ⟨W, T, A2, c2, Da, da, bs, La, k, rfl, o1, o2, by omega, hk1, hk2, o3⟩

end Go.Proofs.Ytahpipcmgcambaa
