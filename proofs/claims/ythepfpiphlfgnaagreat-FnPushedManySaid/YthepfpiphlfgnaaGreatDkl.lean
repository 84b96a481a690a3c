/-
  YthepfpiphlfgnaaGreatDkl: the texts Dk, Dl, Dr, Dy, Du in one file.
-/
import Derived.Deep.RegionHeld
import Derived.Test.YthepfpiphlfgnaaGreatDv
import Derived.Test.YthepfpiphlfgnaaGreatPv
import Derived.Test.YthepfpiphlfgnaaGreatDp

/-
  YthepfpiphlfgnaaGreatDk: drawing: pushes.
-/
namespace Go.Proofs.YthepfpiphlfgnaaGreat
open Go.RowKit
attribute [local go_sem ↓] Go.wp_at_zero Go.wp_at_succ

theorem pc_app (ps : List (Int × Bool)) (z : Int) (b : Bool) : pc (ps ++ [(z, b)]) = pc ps ++ [.int .i64 z, .bool b] := by simp [pc]
theorem own_cap_le {w : World} {base n c size : Nat} {A : Option Addr} {e : TypeId} {xs : List Value} (h : w.ownsRow base e size (.slice A n c) n xs) : n ≤ c := by
  rcases h.2 with ⟨h0, _⟩ | ⟨g, cap, cur, hv, _, _, h3, _⟩
  · injection h0; omega
  · simp only [Value.slice.injEq] at hv
    omega
/-- A row of pushes. -/
abbrev PuAt (w : World) (b : Nat) (v : Value) (ps : List (Int × Bool)) : Prop := w.ownsRow b 33 2 v ps.length (pc ps)
theorem PuAt.below {w w' : World} {b : Nat} {v : Value} {ps : List (Int × Bool)} (h : PuAt w b v ps) (hb : Below w.heap.size w w') : PuAt w' b v ps := own_below h hb (Nat.le_refl _)
theorem PuAt.step {w w' : World} {b g : Nat} {v : Value} {ps : List (Int × Bool)} (h : PuAt w b v ps) (hg : w.grownBy w' (some g)) (hb : g < b) : PuAt w' b v ps := own_step h hg hb
theorem PuAt.far3' {w : World} {b k : Nat} {v : Value} {ps : List (Int × Bool)} {cs : Array Value} {u0 u1 u2 : Value} (h : PuAt w b v ps) (hk : Blk w k 25 cs) : PuAt (((w.setCell ⟨k, 0, none⟩ u0).setCell ⟨k, 1, none⟩ u1).setCell ⟨k, 2, none⟩ u2) b v ps := by
  have hne := own_blk_ne h hk (by decide)
  exact ownsRow_setCell_other (ownsRow_setCell_other (ownsRow_setCell_other h (a := ⟨k, 0, none⟩) hne u0) (a := ⟨k, 1, none⟩) hne u1) (a := ⟨k, 2, none⟩) hne u2
/-- Drawing pushes: where it stands. -/
structure PS (w wr : World) (g B : Nat) (A : Option Addr) (n c p : Nat) (zs : List Int) (gc cc : Nat) (W T : Int) (A2 : Option Addr) (c2 : Nat) (bs : List Bool) (bb : Nat) (ps : List (Int × Bool)) : Prop where
  rd : Rd wr g B A n c p zs
  gr : w.grownBy wr (some g)
  reg : Blk wr w.heap.size 25 #[.int .i64 W, .int .i64 T, .slice A2 bs.length c2]
  own : RegAt wr bb (.slice A2 bs.length c2) bs
  cor : wr.ownsRow (w.heap.size + 1) 33 2 (.slice (some ⟨gc, 0, none⟩) ps.length cc) ps.length (pc ps)
  gb : g < bb ∧ g < w.heap.size ∧ B ≤ g
section
variable {w wr w2 : World} {g B : Nat} {A : Option Addr} {n c p p' : Nat} {zs : List Int} {gc cc : Nat} {W T : Int} {A2 : Option Addr} {c2 : Nat} {bs : List Bool} {bb : Nat} {ps : List (Int × Bool)}
theorem PS.below (h : PS w wr g B A n c p zs gc cc W T A2 c2 bs bb ps) (hb : Below wr.heap.size wr w2) : PS w w2 g B A n c p zs gc cc W T A2 c2 bs bb ps :=
  ⟨h.rd.below hb h.rd.lt, h.gr.trans (only_of_below hb _), h.reg.below hb h.reg.lt, ⟨own_below h.own.1 hb (Nat.le_refl _), h.own.2⟩, own_below h.cor hb (Nat.le_refl _), h.gb⟩
theorem PS.pick (h : PS w wr g B A n c p zs gc cc W T A2 c2 bs bb ps) (hR : Rd w2 g B A n c p' zs) (hg : wr.grownBy w2 (some g)) : PS w w2 g B A n c p' zs gc cc W T A2 c2 bs bb ps := by
  obtain ⟨g1, g2, g3⟩ := h.gb
  exact ⟨hR, h.gr.trans hg, h.reg.grown hg (by simp; omega), h.own.step hg g1, own_step h.cor hg (by omega), h.gb⟩
theorem PS.app (h : PS w wr g B A n c p zs gc cc W T A2 c2 bs bb ps) {g' c' : Nat} {z : Int} {b : Bool} {o : Obj} (hown : w2.ownsRow (w.heap.size + 1) 33 2 (.slice (some ⟨g', 0, none⟩) (ps.length + 1) c') (ps.length + 1) (pc ps ++ [.int .i64 z, .bool b])) (hg : (wr.alloc o).grownBy w2 (some gc)) : PS w w2 g B A n c p zs g' c' W T A2 c2 bs bb (ps ++ [(z, b)]) := by
  obtain ⟨g1, g2, g3⟩ := h.gb
  have hb : w.heap.size + 1 ≤ gc ∧ gc < wr.heap.size := own_lt h.cor rfl
  have hne1 : w.heap.size ≠ gc := by omega
  have hgg : g ≠ gc := by omega
  refine ⟨(h.rd.alloc o).grown hg (by simpa using hgg) (fun k hk => by injection hk with hk; omega), (only_alloc h.gr o).andThen hg (fun j hj => by injection hj with hj; left; omega), (h.reg.alloc o).grown hg (by simpa using hne1), ⟨own_grown (h.own.1.alloc o) hg (own_far (h.own.1.alloc o) (h.cor.alloc o) (by decide)), h.own.2⟩, by rw [pc_app]; simpa using hown, h.gb⟩
end
/-- Drawn pushes. -/
def DrawnP (w : World) (g B : Nat) (A : Option Addr) (n c p d : Nat) (zs : List Int) (e : Ending) (w' : World) : Prop :=
  ∃ (gp k : Nat) (ps : List (Int × Bool)), e = .returned (.slice (some ⟨gp, 0, none⟩) ps.length k) ∧ w'.ownsRow w.heap.size 33 2 (.slice (some ⟨gp, 0, none⟩) ps.length k) ps.length (pc ps) ∧ ps.length ≤ 60 ∧ (∀ q ∈ ps, -2000 ≤ q.1 ∧ q.1 ≤ 2000) ∧ Stepped w g B A n c p d zs w'

set_option maxHeartbeats 4000000 in
set_option maxRecDepth 20000 in
theorem drawPushes_any (g B : Nat) (A : Option Addr) (n c p : Nat) (zs : List Int) (W T : Int) (A2 : Option Addr) (c2 bb : Nat) (bs : List Bool) (most : Nat) (hmost : most ≤ 60) (w : World) (h : Rd w g B A n c p zs) (hp : p ≤ 1000000)
    (hreg : RegAt w bb (.slice A2 bs.length c2) bs) (hgb : g < bb) :
    Calls Tryz.prog 13 #[.pointer (some ⟨g, 0, none⟩), .agg #[.int .i64 W, .int .i64 T, .slice A2 bs.length c2], .int .i64 (most : Nat)] w (DrawnP w g B A n c p 1000 zs) := by
  have hglt := h.lt
  have hbs := hreg.2
  have hP0 : PS w ((w.alloc (boxR W T A2 bs.length c2)).alloc (.cells #[] 33)) g B A n c p zs (w.heap.size + 1) 0 W T A2 c2 bs bb [] := by
    refine ⟨(h.alloc _).alloc _, only_alloc (only_alloc (World.grownBy.refl _ _) _) _, (Blk.new _ _ _).alloc _, ⟨(hreg.1.alloc _).alloc _, hbs⟩, ?_, ⟨hgb, hglt, h.out⟩⟩
    have := World.ownsRow_made (base := w.heap.size + 1) (e := 33) (size := 2) (w.alloc (boxR W T A2 bs.length c2)) #[] 0 (by simp) (by simp [maxLen]) (by simp)
    simpa [pc] using this
  clear hreg h
  go_enter Tryz.func13, Tryz.ntmps13
  go_wp2_with fail
  refine (pick_any g B A n c p zs _ _ hP0.rd (by omega)).mono ?_
  rintro e w1 ⟨y, rfl, a1, b1, _, h1, g1⟩
  have b1 := b1 (by omega)
  obtain ⟨q, rfl⟩ := Int.eq_ofNat_of_zero_le a1
  have hP1 := hP0.pick h1 g1
  have hq : q ≤ 60 := by omega
  clear hP0 h1 g1 a1 b1
  go_wp2_with fail
  go_loopg [7, 8] q (fun r s7 s8 wr => ∃ (k gc cc p5 : Nat) (ps : List (Int × Bool)), k = r ∧ k ≤ q ∧ s8 = .int .i64 (k : Nat) ∧ s7 = .slice (some ⟨gc, 0, none⟩) ps.length cc ∧ p ≤ p5 ∧ p5 + 3 * k ≤ p + 1 + 3 * q ∧ ps.length + k = q ∧ (∀ z ∈ ps, -2000 ≤ z.1 ∧ z.1 ≤ 2000) ∧ PS w wr g B A n c p5 zs gc cc W T A2 c2 bs bb ps)
  case atStart => exact ⟨q, _, 0, p + 1, [], rfl, Nat.le_refl _, rfl, rfl, by omega, by omega, by simp, by simp, hP1⟩
  case round =>
    clear hP1
    obtain ⟨k, gc, cc, p5, ps, hk, hkq, rfl, rfl, hp5, hp6, hcl, hcz, hF⟩ := hrel
    have HK := Lib.hid hk
    have HCL := Lib.hid hcl
    have HCZ := Lib.hid hcz
    clear hk hcz
    by_cases hk0 : 0 < k
    · have hCM := cornerManyS_any W T A2 bs.length c2 wr.heap.size bs wr rfl (Reads.of_own hF.own.1) (Nat.le_refl _) (by omega)
      have hcb := cornersB_bd W T bs
      obtain ⟨x0, x1, x2⟩ := blk3 hF.reg
      clear hcl
      generalize cornersB W T bs = cm at *
      go_wp2_with fail
      refine hCM.mono ?_
      rintro e w5 ⟨rfl, hw5⟩
      have hF5 := hF.below hw5
      clear hF hw5 hCM x0 x1 x2
      go_wp2_with fail
      refine (pick_any g B A n c p5 zs _ _ hF5.rd (by omega)).mono ?_
      rintro e w6 ⟨z, rfl, a6, b6, _, h6, g6⟩
      have b6 := b6 (by omega)
      have hF6 := hF5.pick h6 g6
      have hz : 0 ≤ z ∧ z ≤ 1000 := by omega
      clear hF5 h6 g6 b6 a6
      go_wp2_with fail
      refine (pick_any g B A n c (p5 + 1) zs 200 _ hF6.rd (by omega)).mono ?_
      rintro e w7 ⟨z7, rfl, a7, b7, _, h7, g7⟩
      have b7 := b7 (by omega)
      have hF7 := hF6.pick h7 g7
      have hd7 : z7.tdiv 199 = z7 / 199 := Int.tdiv_eq_ediv_of_nonneg a7
      clear hF6 h7 g7
      go_wp2_with fail
      refine (pick_any g B A n c (p5 + 1 + 1) zs 2 _ hF7.rd (by omega)).mono ?_
      rintro e w8 ⟨z8, rfl, a8, b8, _, h8, g8⟩
      have hF8 := hF7.pick h8 g8
      have hlt6 : w.heap.size + 1 ≤ gc ∧ gc < w8.heap.size := own_lt hF8.cor rfl
      have hc20 : ps.length ≤ 60 := by have := HCL.out; omega
      clear hF7 h8 g8
      go_wp2_with (at_builtin; refine wpList_app_blk rfl _ _ _ rfl (w.heap.size + 1) 33 _ 2 16 Tryz.underlying26 info_push rfl (by omega) (by omega) _ _ _ rfl (hF8.cor.alloc _) w8.heap.size 33 #[.int .i64 (z + z7 / 199 * 60), .bool (z8 == 0)] rfl (Blk.new _ _ _) rfl (by simp [Value.oneCell']) (by omega) (by simp; omega) ?_)
      rintro g9 c9 w9 hown hgr _ _ _
      have hF9 := hF8.app (z := z + z7 / 199 * 60) (b := z8 == 0) hown hgr
      have hzz : -2000 ≤ z + z7 / 199 * 60 ∧ z + z7 / 199 * 60 ≤ 2000 := by omega
      clear hF8 hown hgr
      generalize z + z7 / 199 * 60 = zz at *
      go_wp2_with fail
      go_roundg (k - 1)
      case measure => have := HK.out; omega
      case rel => exact ⟨k - 1, g9, c9, p5 + 3, ps ++ [(zz, z8 == 0)], rfl, by omega, by congr 1; omega, by simp, by omega, by omega, by have := HCL.out; simp; omega, (fun y hy => by rcases List.mem_append.1 hy with h | h; exact HCZ.out y h; simp at h; rw [h]; exact hzz), hF9⟩
    · obtain rfl : k = 0 := by omega
      have hcz := HCZ.out
      have hc60 : ps.length ≤ 60 := by have := HCL.out; omega
      clear HK HCL HCZ hcl
      go_wp2_with fail
      go_ret
      exact ⟨gc, cc, ps, rfl, own_mono hF.cor (by omega), hc60, hcz, p5, by omega, by omega, hF.rd, hF.gr⟩

end Go.Proofs.YthepfpiphlfgnaaGreat

/-
  YthepfpiphlfgnaaGreatDl: drawing: what FnPushesValid and FnPushesBy draw.
-/
namespace Go.Proofs.YthepfpiphlfgnaaGreat
open Go.RowKit
attribute [local go_sem ↓] Go.wp_at_zero Go.wp_at_succ

/-- A region and pushes. -/
def DrawnRP (w : World) (e : Ending) (w' : World) : Prop :=
  ∃ (W T : Int) (A2 : Option Addr) (c2 : Nat) (P : Option Addr) (pd : Nat) (bs : List Bool) (ps : List (Int × Bool)), e = .returned (.tuple #[.agg #[.int .i64 W, .int .i64 T, .slice A2 bs.length c2], .slice P ps.length pd]) ∧ RegAt w' w.heap.size (.slice A2 bs.length c2) bs ∧ PuAt w' w.heap.size (.slice P ps.length pd) ps ∧ ps.length ≤ 61 ∧ ps.length ≤ pd ∧ (∀ q ∈ ps, -2000 ≤ q.1 ∧ q.1 ≤ 2000) ∧ Below w.heap.size w w'



end Go.Proofs.YthepfpiphlfgnaaGreat

/-
  YthepfpiphlfgnaaGreatDr: left out.
-/
namespace Go.Proofs.YthepfpiphlfgnaaGreat

end Go.Proofs.YthepfpiphlfgnaaGreat

/-
  YthepfpiphlfgnaaGreatDy: left out.
-/
namespace Go.Proofs.YthepfpiphlfgnaaGreat

end Go.Proofs.YthepfpiphlfgnaaGreat

/-
  YthepfpiphlfgnaaGreatDu: drawing: what FnPushedMany draws.
-/
namespace Go.Proofs.YthepfpiphlfgnaaGreat
open Go.RowKit
attribute [local go_sem ↓] Go.wp_at_zero Go.wp_at_succ

set_option maxHeartbeats 4000000 in
set_option maxRecDepth 20000 in
theorem drawPushedMany_any (A : Option Addr) (n c : Nat) (zs : List Int) (w : World) (hr : Reads w w.heap.size 1 A n (zs.map (Value.int .u8))) (hnc : n ≤ c) (hn : n ≤ 1048576) (hwz : ∀ z ∈ zs, (Lit.int .u8 z).wf = true) :
    Calls Tryz.prog 4 #[.slice A n c] w (DrawnRP w) := by
  have hb0 : Below w.heap.size w (w.alloc (boxR 0 0 none 0 0)) := (Below.refl _ _).alloc (Nat.le_refl _) _
  have k0 : Blk (w.alloc (boxR 0 0 none 0 0)) w.heap.size 25 #[.int .i64 0, .int .i64 0, .slice none 0 0] := Blk.new _ _ _
  have hOP := hide (open_any A n c zs (w.alloc (boxR 0 0 none 0 0)) ((hr.alloc (Nat.le_refl _) _).more (by simp)) hnc hn hwz)
  go_enter Tryz.func4, Tryz.ntmps4
  go_wp2_with fail
  refine (unhide hOP).mono ?_
  rintro e w1 ⟨g, n', zs', rfl, h1, b1⟩
  have hgB := h1.out
  have hb01 : w.heap.size ≤ w1.heap.size := (hb0.trans (b1.mono (by simp))).size
  have hglt := h1.lt
  simp at hgB
  have k1 := k0.below b1 k0.lt
  have hB1 := hb0.trans (b1.mono (by simp))
  clear hOP k0 hb0 b1
  go_wp2_with fail
  refine (drawPlain_any g _ A n' c 0 zs' 12 _ h1 (by omega)).mono ?_
  rintro e w2 ⟨W, T, v, bs, rfl, hreg, p2, hp1, hp2, h2, g2⟩
  obtain ⟨A2, c2, rfl, _, _⟩ := own_form hreg.1
  have k2 := k1.grown g2 (by simp; omega)
  have hB2 := hB1.grown g2 hB1.size (fun k hk => by injection hk with hk; omega)
  have hbs := hreg.2
  have hsz12 := g2.size
  clear h1 k1 hB1 g2
  go_upto_region 3 with fail
  have h3 := h2.alloc (.cells #[.int .i64 W, .int .i64 T, .slice A2 bs.length c2] 25)
  have kx := Blk.new w2 25 #[.int .i64 W, .int .i64 T, .slice A2 bs.length c2]
  have hB3 := hB2.alloc hB2.size (.cells #[.int .i64 W, .int .i64 T, .slice A2 bs.length c2] 25)
  have k3 := k2.alloc (.cells #[.int .i64 W, .int .i64 T, .slice A2 bs.length c2] 25)
  have hal : Below w2.heap.size w2 (w2.alloc (.cells #[.int .i64 W, .int .i64 T, .slice A2 bs.length c2] 25)) := (Below.refl _ _).alloc (Nat.le_refl _) _
  have hreg3 := hreg.below hal
  have hxg : w2.heap.size ≠ g := by have := h2.lt; omega
  have hxr : w.heap.size ≠ w2.heap.size := by omega
  clear hreg h2 k2 hB2 hal
  generalize w2.alloc (.cells #[.int .i64 W, .int .i64 T, .slice A2 bs.length c2] 25) = w3 at *
  generalize w2.heap.size = x at *
  have hd := (Below.refl w3.heap.size w3).drew
  have h4 := h3.below hd h3.lt
  have kx4 := kx.below hd kx.lt
  have hB4 := hB3.trans (hd.mono hB3.size)
  have k4 := k3.below hd k3.lt
  have hreg4 := hreg3.below hd
  clear h3 kx hB3 k3 hreg3
  have hsz4 : w.heap.size ≤ w3.drew.heap.size := hB4.size
  have hPU := hide (drawPushes_any g _ A n' c p2 zs' W T A2 c2 w1.heap.size bs 24 (by omega) w3.drew h4 (by omega) hreg4 hglt)
  refine wp_region_held_drew (S := (fun w' => w'.cell? ⟨x, 0, none⟩ = some (.int .i64 W) ∧ w'.cell? ⟨x, 1, none⟩ = some (.int .i64 T) ∧ w'.cell? ⟨x, 2, none⟩ = some (.slice A2 bs.length c2))) (by kernel_rfl) (blk3 kx4) ?_
  intro hHeld
  refine wpAnyH_take (i := 0) (v := ?_) rfl (by kernel_rfl) (by kernel_rfl) (by kernel_rfl) (fun _ _ _ h => h) (Or.inl ⟨by kernel_rfl, ?_⟩) hHeld ?_
  rotate_left
  · intro w' hS'
    obtain ⟨x0, x1, x2⟩ := hS'
    go_simp
    try with_reducible rfl
  refine wpAnyH_take (i := 1) (v := ?_) rfl (by kernel_rfl) (by kernel_rfl) (by kernel_rfl) (fun _ _ _ h => h) (Or.inl ⟨by kernel_rfl, ?_⟩) hHeld ?_
  rotate_left
  · intro w' hS'
    clear hS'
    go_simp
    try with_reducible rfl
  refine wpAnyH_take (i := 2) (v := ?_) rfl (by kernel_rfl) (by kernel_rfl) (by kernel_rfl) (fun _ _ _ h => h) (Or.inl ⟨by kernel_rfl, ?_⟩) hHeld ?_
  rotate_left
  · intro w' hS'
    obtain ⟨x0, x1, x2⟩ := hS'
    go_simp
    try with_reducible rfl
  refine wpAnyH_ready (rs := [3]) (by kernel_rfl) (by simp) ?_
  refine AllReadyH.cons rfl (fun K hK => ?_) AllReadyH.nil
  go_simp
  go_at_call 13
  (refine (unhide hPU).mono ?_)
  rintro e w5 ⟨gp, kp, ps, rfl, hps, hpl, hpz, p5, hp3, hp4, h5, g5⟩
  have k5 := k4.grown g5 (by simp; omega)
  have kx5 := kx4.grown g5 (by simpa using hxg)
  have hreg5 := hreg4.step g5 hglt
  have hB5 := hB4.grown g5 hB4.size (fun k hk => by injection hk with hk; omega)
  have hps5 : PuAt w5 w.heap.size _ ps := own_mono hps hsz4
  obtain ⟨r0, r1, r2⟩ := blk3 k5
  have f0 := k5.frozen 0
  have f1 := k5.frozen 1
  have f2 := k5.frozen 2
  obtain ⟨y0, y1, y2⟩ := blk3 kx5
  refine hK.out _ _ ?_ ?_
  · exact ⟨y0, y1, y2⟩
  clear hHeld
  intro hHeld
  clear hK K
  refine wpAnyH_ready (rs := [4]) (by kernel_rfl) (by simp) ?_
  refine AllReadyH.cons rfl (fun K hK => ?_) AllReadyH.nil
  go_simp
  refine hK.out _ _ ?_ ?_
  · exact (by refine ⟨?_, ?_, ?_⟩ <;> simp [World.cell?_setCell_far, hxr, y0, y1, y2])
  clear hHeld
  intro hHeld
  clear hK K
  refine wpAnyH_take (i := 5) (v := ?_) rfl (by kernel_rfl) (by kernel_rfl) (by kernel_rfl) (fun _ _ _ h => h) (Or.inl ⟨by kernel_rfl, ?_⟩) hHeld ?_
  rotate_left
  · intro w' hS'
    clear hS'
    go_simp
    try with_reducible rfl
  refine wpAnyH_done (by kernel_rfl) ?_ _
  have o1 := ((hreg5.mono hb01).far3' (u0 := .int .i64 W) (u1 := .int .i64 T) (u2 := .slice A2 bs.length c2) k5)
  have o3 := hps5.far3' (u0 := .int .i64 W) (u1 := .int .i64 T) (u2 := .slice A2 bs.length c2) k5
  have o4 := below3' (v0 := .int .i64 W) (v1 := .int .i64 T) (v2 := .slice A2 bs.length c2) hB5 (Nat.le_refl _)
  have hcap := own_cap_le hps5
  obtain ⟨q0, q1, q2⟩ := blk3 (set3' (v0 := .int .i64 W) (v1 := .int .i64 T) (v2 := .slice A2 bs.length c2) k5)
  clear hreg5 hps5 hB5 k5 kx5 hPU hHeld hps
  go_simp
  go_wp2_with fail
  exact bodyPost_ret (v := .tuple #[.agg #[.int .i64 W, .int .i64 T, .slice A2 bs.length c2], .slice (some ⟨gp, 0, none⟩) ps.length kp]) (by simp [results, Tryz.results4, go_sem, q0, q1, q2]) rfl ⟨W, T, A2, c2, _, kp, bs, ps, rfl, o1, o3, by omega, hcap, hpz, o4⟩

end Go.Proofs.YthepfpiphlfgnaaGreat
