/-
  YthepfpiphlfgnaaDkl: the texts Dk, Dl, Dr, Dy in one file.
-/
import Derived.Deep.RegionHeld
import Derived.Test.YthepfpiphlfgnaaDv
import Derived.Test.YthepfpiphlfgnaaPv
import Derived.Test.YthepfpiphlfgnaaDp

/-
  YthepfpiphlfgnaaDk: drawing: pushes.
-/
namespace Go.Proofs.Ythepfpiphlfgnaa
open Go.RowKit
attribute [local go_sem ↓] Go.wp_at_zero Go.wp_at_succ

theorem pc_app (ps : List (Int × Bool)) (z : Int) (b : Bool) : pc (ps ++ [(z, b)]) = pc ps ++ [.int .i64 z, .bool b] := by simp [pc]
/-- A row of pushes. -/
abbrev PuAt (w : World) (b : Nat) (v : Value) (ps : List (Int × Bool)) : Prop := w.ownsRow b 100 2 v ps.length (pc ps)
theorem PuAt.below {w w' : World} {b : Nat} {v : Value} {ps : List (Int × Bool)} (h : PuAt w b v ps) (hb : Below w.heap.size w w') : PuAt w' b v ps := own_below h hb (Nat.le_refl _)
theorem PuAt.step {w w' : World} {b g : Nat} {v : Value} {ps : List (Int × Bool)} (h : PuAt w b v ps) (hg : w.grownBy w' (some g)) (hb : g < b) : PuAt w' b v ps := own_step h hg hb
theorem PuAt.far3' {w : World} {b k : Nat} {v : Value} {ps : List (Int × Bool)} {cs : Array Value} {u0 u1 u2 : Value} (h : PuAt w b v ps) (hk : Blk w k 25 cs) : PuAt (((w.setCell ⟨k, 0, none⟩ u0).setCell ⟨k, 1, none⟩ u1).setCell ⟨k, 2, none⟩ u2) b v ps := by
  have hne := own_blk_ne h hk (by decide)
  exact ownsRow_setCell_other (ownsRow_setCell_other (ownsRow_setCell_other h (a := ⟨k, 0, none⟩) hne u0) (a := ⟨k, 1, none⟩) hne u1) (a := ⟨k, 2, none⟩) hne u2
/-- Drawing pushes: where it stands. -/
structure PS (w wr : World) (g B : Nat) (A : Option Addr) (n c p : Nat) (zs : List Int) (gc cc : Nat) (W T : Int) (A2 : Option Addr) (c2 : Nat) (bs : List Bool) (bb : Nat) (ps : List (Int × Bool)) : Prop where
  rd : Rd wr g B A n c p zs
  gr : w.grownBy wr (some g)
  reg : Blk wr w.heap.size 25 #[.int .i64 W, .int .i64 T, .slice A2 bs.length c2]
  own : RegAt wr bb (.slice A2 bs.length c2) bs
  cor : wr.ownsRow (w.heap.size + 1) 100 2 (.slice (some ⟨gc, 0, none⟩) ps.length cc) ps.length (pc ps)
  gb : g < bb ∧ g < w.heap.size ∧ B ≤ g
section
variable {w wr w2 : World} {g B : Nat} {A : Option Addr} {n c p p' : Nat} {zs : List Int} {gc cc : Nat} {W T : Int} {A2 : Option Addr} {c2 : Nat} {bs : List Bool} {bb : Nat} {ps : List (Int × Bool)}
theorem PS.below (h : PS w wr g B A n c p zs gc cc W T A2 c2 bs bb ps) (hb : Below wr.heap.size wr w2) : PS w w2 g B A n c p zs gc cc W T A2 c2 bs bb ps :=
  ⟨h.rd.below hb h.rd.lt, h.gr.trans (only_of_below hb _), h.reg.below hb h.reg.lt, ⟨own_below h.own.1 hb (Nat.le_refl _), h.own.2⟩, own_below h.cor hb (Nat.le_refl _), h.gb⟩
theorem PS.pick (h : PS w wr g B A n c p zs gc cc W T A2 c2 bs bb ps) (hR : Rd w2 g B A n c p' zs) (hg : wr.grownBy w2 (some g)) : PS w w2 g B A n c p' zs gc cc W T A2 c2 bs bb ps := by
  obtain ⟨g1, g2, g3⟩ := h.gb
  exact ⟨hR, h.gr.trans hg, h.reg.grown hg (by simp; omega), h.own.step hg g1, own_step h.cor hg (by omega), h.gb⟩
theorem PS.app (h : PS w wr g B A n c p zs gc cc W T A2 c2 bs bb ps) {g' c' : Nat} {z : Int} {b : Bool} {o : Obj} (hown : w2.ownsRow (w.heap.size + 1) 100 2 (.slice (some ⟨g', 0, none⟩) (ps.length + 1) c') (ps.length + 1) (pc ps ++ [.int .i64 z, .bool b])) (hg : (wr.alloc o).grownBy w2 (some gc)) : PS w w2 g B A n c p zs g' c' W T A2 c2 bs bb (ps ++ [(z, b)]) := by
  obtain ⟨g1, g2, g3⟩ := h.gb
  have hb : w.heap.size + 1 ≤ gc ∧ gc < wr.heap.size := own_lt h.cor rfl
  have hne1 : w.heap.size ≠ gc := by omega
  have hgg : g ≠ gc := by omega
  refine ⟨(h.rd.alloc o).grown hg (by simpa using hgg) (fun k hk => by injection hk with hk; omega), (only_alloc h.gr o).andThen hg (fun j hj => by injection hj with hj; left; omega), (h.reg.alloc o).grown hg (by simpa using hne1), ⟨own_grown (h.own.1.alloc o) hg (own_far (h.own.1.alloc o) (h.cor.alloc o) (by decide)), h.own.2⟩, by rw [pc_app]; simpa using hown, h.gb⟩
end


end Go.Proofs.Ythepfpiphlfgnaa

/-
  YthepfpiphlfgnaaDl: drawing: what FnPushesValid and FnPushesBy draw.
-/
namespace Go.Proofs.Ythepfpiphlfgnaa
open Go.RowKit
attribute [local go_sem ↓] Go.wp_at_zero Go.wp_at_succ




end Go.Proofs.Ythepfpiphlfgnaa

/-
  YthepfpiphlfgnaaDr: drawing: what FnLowest, FnHighest, FnFlipLines, FnFlipsOf, FnPushedMany and FnHeightSum draw.
-/
namespace Go.Proofs.Ythepfpiphlfgnaa
open Go.RowKit
attribute [local go_sem ↓] Go.wp_at_zero Go.wp_at_succ

/-- A region. -/
def Drawn0 (w : World) (e : Ending) (w' : World) : Prop :=
  ∃ (W T : Int) (A2 : Option Addr) (c2 : Nat) (bs : List Bool), e = .returned (.agg #[.int .i64 W, .int .i64 T, .slice A2 bs.length c2]) ∧ RegAt w' w.heap.size (.slice A2 bs.length c2) bs ∧ Below w.heap.size w w'
/-- A region and a number. -/
def DrawnRK (w : World) (e : Ending) (w' : World) : Prop :=
  ∃ (W T : Int) (A2 : Option Addr) (c2 : Nat) (bs : List Bool) (k : Int), e = .returned (.tuple #[.agg #[.int .i64 W, .int .i64 T, .slice A2 bs.length c2], .int .i64 k]) ∧ RegAt w' w.heap.size (.slice A2 bs.length c2) bs ∧ -100 ≤ k ∧ k ≤ 100 ∧ Below w.heap.size w w'

set_option maxHeartbeats 4000000 in
set_option maxRecDepth 20000 in
theorem drawLowest_any (A : Option Addr) (n c : Nat) (zs : List Int) (w : World) (hr : Reads w w.heap.size 1 A n (zs.map (Value.int .u8))) (hnc : n ≤ c) (hn : n ≤ 1048576) (hwz : ∀ z ∈ zs, (Lit.int .u8 z).wf = true) :
    Calls Try.prog 23 #[.slice A n c] w (Drawn0 w) := by
  have hb0 : Below w.heap.size w (w.alloc (boxR 0 0 none 0 0)) := (Below.refl _ _).alloc (Nat.le_refl _) _
  have k0 : Blk (w.alloc (boxR 0 0 none 0 0)) w.heap.size 25 #[.int .i64 0, .int .i64 0, .slice none 0 0] := Blk.new _ _ _
  have hOP := hide (open_any A n c zs (w.alloc (boxR 0 0 none 0 0)) ((hr.alloc (Nat.le_refl _) _).more (by simp)) hnc hn hwz)
  go_enter Try.func23, Try.ntmps23
  go_wp2_with fail
  refine (unhide hOP).mono ?_
  rintro e w1 ⟨g, n', zs', rfl, h1, b1⟩
  have hgB := h1.out
  have hb01 : w.heap.size ≤ w1.heap.size := (hb0.trans (b1.mono (by simp))).size
  have hglt := h1.lt
  simp at hgB
  have k1 := k0.below b1 k0.lt
  have hB1 := hb0.trans (b1.mono (by simp))
  clear hOP k0 hb0 b1
  go_wp2_with fail
  refine (drawTwo_any g _ A n' c 0 zs' _ h1 (by omega)).mono ?_
  rintro e w2 ⟨W, T, v, va, vb, bs, La, Lb, rfl, hreg, hla, hll, hlb, hllb, p2, hp1, hp2, h2, g2⟩
  obtain ⟨A2, c2, rfl, _, _⟩ := own_form hreg.1
  have k2 := k1.grown g2 (by simp; omega)
  have hB2 := hB1.grown g2 hB1.size (fun k hk => by injection hk with hk; omega)
  have hal : Below w2.heap.size w2 (w2.alloc (.cells #[.int .i64 W, .int .i64 T, .slice A2 bs.length c2] 25)) := (Below.refl _ _).alloc (Nat.le_refl _) _
  obtain ⟨x0, x1, x2⟩ := blk3 (Blk.new w2 25 #[.int .i64 W, .int .i64 T, .slice A2 bs.length c2])
  have k3 := k2.alloc (.cells #[.int .i64 W, .int .i64 T, .slice A2 bs.length c2] 25)
  have hB3 := hB2.alloc hB2.size (.cells #[.int .i64 W, .int .i64 T, .slice A2 bs.length c2] 25)
  have hreg3 := hreg.below hal
  clear hreg k2 hB2 hal
  obtain ⟨r0, r1, r2⟩ := blk3 k3
  have f0 := k3.frozen 0
  have f1 := k3.frozen 1
  have f2 := k3.frozen 2
  have o1 := ((hreg3.mono hb01).far3' (u0 := .int .i64 W) (u1 := .int .i64 T) (u2 := .slice A2 bs.length c2) k3)
  have o4 := below3' (v0 := .int .i64 W) (v1 := .int .i64 T) (v2 := .slice A2 bs.length c2) hB3 (Nat.le_refl _)
  obtain ⟨q0, q1, q2⟩ := blk3 (set3' (v0 := .int .i64 W) (v1 := .int .i64 T) (v2 := .slice A2 bs.length c2) k3)
  clear h1 k1 hB1 hreg3 hla hlb h2 g2 hB3
  go_wp2_with fail
  exact bodyPost_ret (v := .agg #[.int .i64 W, .int .i64 T, .slice A2 bs.length c2]) (by simp [results, Try.results23, go_sem, q0, q1, q2]) rfl ⟨W, T, A2, c2, bs, rfl, o1, o4⟩

set_option maxHeartbeats 4000000 in
set_option maxRecDepth 20000 in
theorem drawHighest_any (A : Option Addr) (n c : Nat) (zs : List Int) (w : World) (hr : Reads w w.heap.size 1 A n (zs.map (Value.int .u8))) (hnc : n ≤ c) (hn : n ≤ 1048576) (hwz : ∀ z ∈ zs, (Lit.int .u8 z).wf = true) :
    Calls Try.prog 32 #[.slice A n c] w (Drawn0 w) := by
  have hb0 : Below w.heap.size w (w.alloc (boxR 0 0 none 0 0)) := (Below.refl _ _).alloc (Nat.le_refl _) _
  have k0 : Blk (w.alloc (boxR 0 0 none 0 0)) w.heap.size 25 #[.int .i64 0, .int .i64 0, .slice none 0 0] := Blk.new _ _ _
  have hOP := hide (open_any A n c zs (w.alloc (boxR 0 0 none 0 0)) ((hr.alloc (Nat.le_refl _) _).more (by simp)) hnc hn hwz)
  go_enter Try.func32, Try.ntmps32
  go_wp2_with fail
  refine (unhide hOP).mono ?_
  rintro e w1 ⟨g, n', zs', rfl, h1, b1⟩
  have hgB := h1.out
  have hb01 : w.heap.size ≤ w1.heap.size := (hb0.trans (b1.mono (by simp))).size
  have hglt := h1.lt
  simp at hgB
  have k1 := k0.below b1 k0.lt
  have hB1 := hb0.trans (b1.mono (by simp))
  clear hOP k0 hb0 b1
  go_wp2_with fail
  refine (drawTwo_any g _ A n' c 0 zs' _ h1 (by omega)).mono ?_
  rintro e w2 ⟨W, T, v, va, vb, bs, La, Lb, rfl, hreg, hla, hll, hlb, hllb, p2, hp1, hp2, h2, g2⟩
  obtain ⟨A2, c2, rfl, _, _⟩ := own_form hreg.1
  have k2 := k1.grown g2 (by simp; omega)
  have hB2 := hB1.grown g2 hB1.size (fun k hk => by injection hk with hk; omega)
  have hal : Below w2.heap.size w2 (w2.alloc (.cells #[.int .i64 W, .int .i64 T, .slice A2 bs.length c2] 25)) := (Below.refl _ _).alloc (Nat.le_refl _) _
  obtain ⟨x0, x1, x2⟩ := blk3 (Blk.new w2 25 #[.int .i64 W, .int .i64 T, .slice A2 bs.length c2])
  have k3 := k2.alloc (.cells #[.int .i64 W, .int .i64 T, .slice A2 bs.length c2] 25)
  have hB3 := hB2.alloc hB2.size (.cells #[.int .i64 W, .int .i64 T, .slice A2 bs.length c2] 25)
  have hreg3 := hreg.below hal
  clear hreg k2 hB2 hal
  obtain ⟨r0, r1, r2⟩ := blk3 k3
  have f0 := k3.frozen 0
  have f1 := k3.frozen 1
  have f2 := k3.frozen 2
  have o1 := ((hreg3.mono hb01).far3' (u0 := .int .i64 W) (u1 := .int .i64 T) (u2 := .slice A2 bs.length c2) k3)
  have o4 := below3' (v0 := .int .i64 W) (v1 := .int .i64 T) (v2 := .slice A2 bs.length c2) hB3 (Nat.le_refl _)
  obtain ⟨q0, q1, q2⟩ := blk3 (set3' (v0 := .int .i64 W) (v1 := .int .i64 T) (v2 := .slice A2 bs.length c2) k3)
  clear h1 k1 hB1 hreg3 hla hlb h2 g2 hB3
  go_wp2_with fail
  exact bodyPost_ret (v := .agg #[.int .i64 W, .int .i64 T, .slice A2 bs.length c2]) (by simp [results, Try.results32, go_sem, q0, q1, q2]) rfl ⟨W, T, A2, c2, bs, rfl, o1, o4⟩



end Go.Proofs.Ythepfpiphlfgnaa

/-
  YthepfpiphlfgnaaDy: drawing: what FnHeightSum draws.
-/
namespace Go.Proofs.Ythepfpiphlfgnaa
open Go.RowKit
attribute [local go_sem ↓] Go.wp_at_zero Go.wp_at_succ

set_option maxHeartbeats 4000000 in
set_option maxRecDepth 20000 in
theorem drawHeightSum_any (A : Option Addr) (n c : Nat) (zs : List Int) (w : World) (hr : Reads w w.heap.size 1 A n (zs.map (Value.int .u8))) (hnc : n ≤ c) (hn : n ≤ 1048576) (hwz : ∀ z ∈ zs, (Lit.int .u8 z).wf = true) :
    Calls Try.prog 27 #[.slice A n c] w (DrawnRK w) := by
  have hb0 : Below w.heap.size w (w.alloc (boxR 0 0 none 0 0)) := (Below.refl _ _).alloc (Nat.le_refl _) _
  have k0 : Blk (w.alloc (boxR 0 0 none 0 0)) w.heap.size 25 #[.int .i64 0, .int .i64 0, .slice none 0 0] := Blk.new _ _ _
  have hOP := hide (open_any A n c zs (w.alloc (boxR 0 0 none 0 0)) ((hr.alloc (Nat.le_refl _) _).more (by simp)) hnc hn hwz)
  go_enter Try.func27, Try.ntmps27
  go_wp2_with fail
  refine (unhide hOP).mono ?_
  rintro e w1 ⟨g, n', zs', rfl, h1, b1⟩
  have hgB := h1.out
  have hb01 : w.heap.size ≤ w1.heap.size := (hb0.trans (b1.mono (by simp))).size
  have hglt := h1.lt
  simp at hgB
  have k1 := k0.below b1 k0.lt
  have hB1 := hb0.trans (b1.mono (by simp))
  clear hOP k0 hb0 b1
  go_wp2_with fail
  refine (drawPlain_any g _ A n' c 0 zs' 9 _ h1 (by omega)).mono ?_
  rintro e w2 ⟨W, T, v, bs, rfl, hreg, p2, hp1, hp2, h2, g2⟩
  obtain ⟨A2, c2, rfl, _, _⟩ := own_form hreg.1
  have k2 := k1.grown g2 (by simp; omega)
  have hB2 := hB1.grown g2 hB1.size (fun k hk => by injection hk with hk; omega)
  have hbs := hreg.2
  have hsz12 := g2.size
  clear h1 k1 hB1 g2
  go_upto_region 3 with fail
  have h3 := h2.alloc (.cells #[.int .i64 W, .int .i64 T, .slice A2 bs.length c2] 25)
  have kx := Blk.new w2 25 #[.int .i64 W, .int .i64 T, .slice A2 bs.length c2]
  have hB3 := hB2.alloc hB2.size (.cells #[.int .i64 W, .int .i64 T, .slice A2 bs.length c2] 25)
  have k3 := k2.alloc (.cells #[.int .i64 W, .int .i64 T, .slice A2 bs.length c2] 25)
  have hal : Below w2.heap.size w2 (w2.alloc (.cells #[.int .i64 W, .int .i64 T, .slice A2 bs.length c2] 25)) := (Below.refl _ _).alloc (Nat.le_refl _) _
  have hreg3 := hreg.below hal
  have hxg : w2.heap.size ≠ g := by have := h2.lt; omega
  have hxr : w.heap.size ≠ w2.heap.size := by omega
  clear hreg h2 k2 hB2 hal
  generalize w2.alloc (.cells #[.int .i64 W, .int .i64 T, .slice A2 bs.length c2] 25) = w3 at *
  generalize w2.heap.size = x at *
  have hd := (Below.refl w3.heap.size w3).drew
  have h4 := h3.below hd h3.lt
  have kx4 := kx.below hd kx.lt
  have hB4 := hB3.trans (hd.mono hB3.size)
  have k4 := k3.below hd k3.lt
  have hreg4 := hreg3.below hd
  clear h3 kx hB3 k3 hreg3
  have hsz4 : w.heap.size ≤ w3.drew.heap.size := hB4.size
  have hCM := cornerManyS_any W T A2 bs.length c2 w3.drew.heap.size bs w3.drew rfl (Reads.of_own hreg4.1) (Nat.le_refl _) (by omega)
  have hcb := cornersB_bd W T bs
  generalize cornersB W T bs = cor at *
  have hcw : IntKind.i64.wrap (max cor 0 + 1) = max cor 0 + 1 := IntWalk.i64_in _ (by omega)
  refine wp_region_held_drew (S := (fun w' => w'.cell? ⟨x, 0, none⟩ = some (.int .i64 W) ∧ w'.cell? ⟨x, 1, none⟩ = some (.int .i64 T) ∧ w'.cell? ⟨x, 2, none⟩ = some (.slice A2 bs.length c2))) (by kernel_rfl) (blk3 kx4) ?_
  intro hHeld
  refine wpAnyH_take (i := 0) (v := ?_) rfl (by kernel_rfl) (by kernel_rfl) (by kernel_rfl) (fun _ _ _ h => h) (Or.inl ⟨by kernel_rfl, ?_⟩) hHeld ?_
  rotate_left
  · intro w' hS'
    obtain ⟨x0, x1, x2⟩ := hS'
    go_simp
    try with_reducible rfl
  refine wpAnyH_take (i := 1) (v := ?_) rfl (by kernel_rfl) (by kernel_rfl) (by kernel_rfl) (fun _ _ _ h => h) (Or.inl ⟨by kernel_rfl, ?_⟩) hHeld ?_
  rotate_left
  · intro w' hS'
    clear hS'
    go_simp
    try with_reducible rfl
  refine wpAnyH_take (i := 2) (v := ?_) rfl (by kernel_rfl) (by kernel_rfl) (by kernel_rfl) (fun _ _ _ h => h) (Or.inl ⟨by kernel_rfl, ?_⟩) hHeld ?_
  rotate_left
  · intro w' hS'
    obtain ⟨x0, x1, x2⟩ := hS'
    go_simp
    try with_reducible rfl
  refine wpAnyH_take (i := 7) (v := ?_) rfl (by kernel_rfl) (by kernel_rfl) (by kernel_rfl) (fun _ _ _ h => h) (Or.inl ⟨by kernel_rfl, ?_⟩) hHeld ?_
  rotate_left
  · intro w' hS'
    clear hS'
    go_simp
    try with_reducible rfl
  refine wpAnyH_ready (rs := [3]) (by kernel_rfl) (by simp) ?_
  refine AllReadyH.cons rfl (fun K hK => ?_) AllReadyH.nil
  go_simp
  go_at_call 89
  (with_reducible refine hCM.mono ?_)
  rintro e w5 ⟨rfl, hb5⟩
  have k5 := k4.below hb5 k4.lt
  have kx5 := kx4.below hb5 kx4.lt
  have hreg5 := hreg4.below hb5
  have hB5 := hB4.trans (hb5.mono hB4.size)
  have h5 := h4.below hb5 h4.lt
  refine hK.out _ _ ?_ ?_
  · exact blk3 kx5
  clear hHeld
  intro hHeld
  clear hK K
  refine wpAnyH_take (i := 4) (v := ?_) rfl (by kernel_rfl) (by kernel_rfl) (by kernel_rfl) (fun _ _ _ h => h) (Or.inl ⟨by kernel_rfl, ?_⟩) hHeld ?_
  rotate_left
  · intro w' hS'
    clear hS'
    go_simp
    try with_reducible rfl
  refine wpAnyH_take (i := 5) (v := ?_) rfl (by kernel_rfl) (by kernel_rfl) (by kernel_rfl) (fun _ _ _ h => h) (Or.inl ⟨by kernel_rfl, ?_⟩) hHeld ?_
  rotate_left
  · intro w' hS'
    clear hS'
    go_simp
    try with_reducible rfl
  refine wpAnyH_ready (rs := [6]) (by kernel_rfl) (by simp) ?_
  refine AllReadyH.cons rfl (fun K hK => ?_) AllReadyH.nil
  go_simp
  go_at_call 88
  (with_reducible refine (pick_any g _ A n' c p2 zs' (max cor 0 + 1) _ h5 (by omega)).mono ?_)
  rintro e w6 ⟨z6, rfl, za6, zb6, _, h6, g6⟩
  have k6 := k5.grown g6 (by simp; omega)
  have kx6 := kx5.grown g6 (by simpa using hxg)
  have hreg6 := hreg5.step g6 hglt
  have hB6 := hB5.grown g6 hB5.size (fun k hk => by injection hk with hk; omega)
  refine hK.out _ _ ?_ ?_
  · exact blk3 kx6
  clear hHeld
  intro hHeld
  clear hK K
  refine wpAnyH_ready (rs := [8]) (by kernel_rfl) (by simp) ?_
  refine AllReadyH.cons rfl (fun K hK => ?_) AllReadyH.nil
  go_simp
  go_at_call 88
  (with_reducible refine (pick_any g _ A n' c (p2 + 1) zs' 20 _ h6 (by omega)).mono ?_)
  rintro e w7 ⟨z7, rfl, za7, zb7, _, h7, g7⟩
  have zb6 := zb6 (by omega)
  have zb7 := zb7 (by omega)
  have hz0 : z7.tdiv 19 = z7 / 19 := Int.tdiv_eq_ediv_of_nonneg za7
  have hz1 : IntKind.i64.wrap (z7 / 19) = z7 / 19 := IntWalk.i64_in _ (by omega)
  have hz2 : IntKind.i64.wrap (z6 - z7 / 19) = z6 - z7 / 19 := IntWalk.i64_in _ (by omega)
  have k7 := k6.grown g7 (by simp; omega)
  have kx7 := kx6.grown g7 (by simpa using hxg)
  have hreg7 := hreg6.step g7 hglt
  have hB7 := hB6.grown g7 hB6.size (fun k hk => by injection hk with hk; omega)
  obtain ⟨r0, r1, r2⟩ := blk3 k7
  have f0 := k7.frozen 0
  have f1 := k7.frozen 1
  have f2 := k7.frozen 2
  obtain ⟨y0, y1, y2⟩ := blk3 kx7
  refine hK.out _ _ ?_ ?_
  · exact ⟨y0, y1, y2⟩
  clear hHeld
  intro hHeld
  clear hK K
  refine wpAnyH_take (i := 9) (v := ?_) rfl (by kernel_rfl) (by kernel_rfl) (by kernel_rfl) (fun _ _ _ h => h) (Or.inl ⟨by kernel_rfl, ?_⟩) hHeld ?_
  rotate_left
  · intro w' hS'
    clear hS'
    go_simp
    try with_reducible rfl
  refine wpAnyH_take (i := 10) (v := ?_) rfl (by kernel_rfl) (by kernel_rfl) (by kernel_rfl) (fun _ _ _ h => h) (Or.inl ⟨by kernel_rfl, ?_⟩) hHeld ?_
  rotate_left
  · intro w' hS'
    clear hS'
    go_simp
    try with_reducible rfl
  refine wpAnyH_ready (rs := [11]) (by kernel_rfl) (by simp) ?_
  refine AllReadyH.cons rfl (fun K hK => ?_) AllReadyH.nil
  go_simp
  refine hK.out _ _ ?_ ?_
  · exact (by refine ⟨?_, ?_, ?_⟩ <;> simp [World.cell?_setCell_far, hxr, y0, y1, y2])
  clear hHeld
  intro hHeld
  clear hK K
  refine wpAnyH_take (i := 12) (v := ?_) rfl (by kernel_rfl) (by kernel_rfl) (by kernel_rfl) (fun _ _ _ h => h) (Or.inl ⟨by kernel_rfl, ?_⟩) hHeld ?_
  rotate_left
  · intro w' hS'
    clear hS'
    go_simp
    try with_reducible rfl
  refine wpAnyH_done (by kernel_rfl) ?_ _
  have o1 := ((hreg7.mono hb01).far3' (u0 := .int .i64 W) (u1 := .int .i64 T) (u2 := .slice A2 bs.length c2) k7)
  have o4 := below3' (v0 := .int .i64 W) (v1 := .int .i64 T) (v2 := .slice A2 bs.length c2) hB7 (Nat.le_refl _)
  obtain ⟨q0, q1, q2⟩ := blk3 (set3' (v0 := .int .i64 W) (v1 := .int .i64 T) (v2 := .slice A2 bs.length c2) k7)
  clear hreg7 hB7 k7 kx7 hHeld
  go_simp
  go_wp2_with fail
  exact bodyPost_ret (v := .tuple #[.agg #[.int .i64 W, .int .i64 T, .slice A2 bs.length c2], .int .i64 (z6 - z7 / 19)]) (by simp [results, Try.results27, go_sem, q0, q1, q2]) rfl ⟨W, T, A2, c2, bs, _, rfl, o1, by omega, by omega, o4⟩

end Go.Proofs.Ythepfpiphlfgnaa
