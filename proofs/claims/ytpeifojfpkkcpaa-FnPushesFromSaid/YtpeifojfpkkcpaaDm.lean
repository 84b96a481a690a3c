/-
  YtpeifojfpkkcpaaDm: drawing: what FnPushesInto and FnPushesFrom draw.
-/
import Derived.Test.YtpeifojfpkkcpaaDp
import Derived.Test.YtpeifojfpkkcpaaDv
import Derived.Test.YtpeifojfpkkcpaaFq
import Derived.Deep.RegionHeld
namespace Go.Proofs.Ytpeifojfpkkcpaa
open Go.RowKit
attribute [local go_sem ↓] Go.wp_at_zero Go.wp_at_succ

set_option maxHeartbeats 4000000 in
set_option maxRecDepth 20000 in
theorem drawPushesInto_any (A : Option Addr) (n c : Nat) (zs : List Int) (w : World) (hr : Reads w w.heap.size 1 A n (zs.map (Value.int .u8))) (hnc : n ≤ c) (hn : n ≤ 1048576) (hwz : ∀ z ∈ zs, (Lit.int .u8 z).wf = true) :
    Calls Try.prog 36 #[.slice A n c] w (Drawn1 w) := by
  have hb0 : Below w.heap.size w (w.alloc (boxR 0 0 none 0 0)) := (Below.refl _ _).alloc (Nat.le_refl _) _
  have k0 : Blk (w.alloc (boxR 0 0 none 0 0)) w.heap.size 25 #[.int .i64 0, .int .i64 0, .slice none 0 0] := Blk.new _ _ _
  have hOP := hide (open_any A n c zs (w.alloc (boxR 0 0 none 0 0)) ((hr.alloc (Nat.le_refl _) _).more (by simp)) hnc hn hwz)
  go_enter Try.func36, Try.ntmps36
  go_wp2_with fail
  refine (unhide hOP).mono ?_
  rintro e w1 ⟨g, n', zs', rfl, h1, b1⟩
  have hgB := h1.out
  have hb01 : w.heap.size ≤ w1.heap.size := (hb0.trans (b1.mono (by simp))).size
  have hglt := h1.lt
  simp at hgB
  have k1 := k0.below b1 k0.lt
  have hB1 := hb0.trans (b1.mono (by simp))
  clear hOP k0 hb0 b1
  go_wp2_with fail
  refine (drawPlain_any g _ A n' c 0 zs' 12 _ h1 (by omega)).mono ?_
  rintro e w2 ⟨W, T, v, bs, rfl, hreg, p2, hp1, hp2, h2, g2⟩
  obtain ⟨A2, c2, rfl, _, _⟩ := own_form hreg.1
  have k2 := k1.grown g2 (by simp; omega)
  have hB2 := hB1.grown g2 hB1.size (fun k hk => by injection hk with hk; omega)
  have hbs := hreg.2
  have hsz12 := g2.size
  clear h1 k1 hB1 g2
  go_upto_region 3 with fail
  have hxw : w1.heap.size ≤ w2.heap.size := hsz12
  have h3 := h2.alloc (.cells #[.int .i64 W, .int .i64 T, .slice A2 bs.length c2] 25)
  have kx := Blk.new w2 25 #[.int .i64 W, .int .i64 T, .slice A2 bs.length c2]
  have hB3 := hB2.alloc hB2.size (.cells #[.int .i64 W, .int .i64 T, .slice A2 bs.length c2] 25)
  have k3 := k2.alloc (.cells #[.int .i64 W, .int .i64 T, .slice A2 bs.length c2] 25)
  have hal : Below w2.heap.size w2 (w2.alloc (.cells #[.int .i64 W, .int .i64 T, .slice A2 bs.length c2] 25)) := (Below.refl _ _).alloc (Nat.le_refl _) _
  have hreg3 := hreg.below hal
  have hxg : w2.heap.size ≠ g := by have := h2.lt; omega
  have hxr : w2.heap.size ≠ w.heap.size := by omega
  clear hsz12 hreg h2 k2 hB2 hal
  generalize w2.alloc (.cells #[.int .i64 W, .int .i64 T, .slice A2 bs.length c2] 25) = w3 at *
  generalize w2.heap.size = x at *
  have kx3 := kx
  clear kx
  have hd3 := (Below.refl w3.heap.size w3).drew
  have hk3 := k3.below hd3 k3.lt
  have k4 := k3.below hd3 k3.lt
  have kx4 := kx3.below hd3 kx3.lt
  have hreg4 := hreg3.below hd3
  have hB4 := hB3.trans (hd3.mono hB3.size)
  have h4 := h3.below hd3 h3.lt
  refine wp_region_held_drew (S := (fun w' => w'.cell? ⟨x, 0, none⟩ = some (.int .i64 W) ∧ w'.cell? ⟨x, 1, none⟩ = some (.int .i64 T) ∧ w'.cell? ⟨x, 2, none⟩ = some (.slice A2 bs.length c2))) (by kernel_rfl) (blk3 kx4) ?_
  intro hHeld
  refine wpAnyH_take (i := 0) (v := ?_) rfl (by kernel_rfl) (by kernel_rfl) (by kernel_rfl) (fun _ _ _ h => h) (Or.inl ⟨by kernel_rfl, ?_⟩) hHeld ?_
  rotate_left
  · intro w' hS'
    obtain ⟨x0, x1, x2⟩ := hS'
    go_simp
    try with_reducible rfl
  refine wpAnyH_take (i := 1) (v := ?_) rfl (by kernel_rfl) (by kernel_rfl) (by kernel_rfl) (fun _ _ _ h => h) (Or.inl ⟨by kernel_rfl, ?_⟩) hHeld ?_
  rotate_left
  · intro w' hS'
    clear hS'
    go_simp
    try with_reducible rfl
  refine wpAnyH_take (i := 3) (v := ?_) rfl (by kernel_rfl) (by kernel_rfl) (by kernel_rfl) (fun _ _ _ h => h) (Or.inl ⟨by kernel_rfl, ?_⟩) hHeld ?_
  rotate_left
  · intro w' hS'
    obtain ⟨x0, x1, x2⟩ := hS'
    go_simp
    try with_reducible rfl
  refine wpAnyH_ready (rs := [2]) (by kernel_rfl) (by simp) ?_
  refine AllReadyH.cons rfl (fun K hK => ?_) AllReadyH.nil
  go_simp
  go_at_call 69
  (with_reducible refine (pick_any g _ A n' c p2 zs' 256 _ h4 (by omega)).mono ?_)
  rintro e w5 ⟨y5, rfl, ya5, yb5, _, h5, g5⟩
  have k5 := k4.grown g5 (by simp; omega)
  have kx5 := kx4.grown g5 (by simpa using hxg)
  have hreg5 := hreg4.step g5 hglt
  have hB5 := hB4.grown g5 hB4.size (fun k hk => by injection hk with hk; omega)
  have hTM := tilingsManyS_any W T A2 bs.length c2 w5.heap.size bs w5 rfl (Reads.of_own hreg5.1) (Nat.le_refl _) (by omega)
  have htb := tmV_bd W T bs
  generalize tmV W T bs = tm at *
  have hmx : ¬ max tm 1 = 0 := by omega
  refine hK.out _ _ ?_ ?_
  · exact blk3 kx5
  clear hHeld
  intro hHeld
  clear hK K
  refine wpAnyH_ready (rs := [4]) (by kernel_rfl) (by simp) ?_
  refine AllReadyH.cons rfl (fun K hK => ?_) AllReadyH.nil
  go_simp
  go_at_call 96
  (with_reducible refine hTM.mono ?_)
  rintro e w6 ⟨rfl, hb6⟩
  have k6 := k5.below hb6 k5.lt
  have kx6 := kx5.below hb6 kx5.lt
  have hreg6 := hreg5.below hb6
  have hB6 := hB5.trans (hb6.mono hB5.size)
  have h6 := h5.below hb6 h5.lt
  have hTO := fun rank => hide (tilingOfS_any W T A2 bs.length c2 w6.heap.size bs rank w6 rfl (Reads.of_own hreg6.1) (Nat.le_refl _) (by omega))
  refine hK.out _ _ ?_ ?_
  · exact blk3 kx6
  clear hHeld
  intro hHeld
  clear hK K
  refine wpAnyH_take (i := 5) (v := ?_) rfl (by kernel_rfl) (by kernel_rfl) (by kernel_rfl) (fun _ _ _ h => h) (Or.inl ⟨by kernel_rfl, ?_⟩) hHeld ?_
  rotate_left
  · intro w' hS'
    clear hS'
    go_simp
    try with_reducible rfl
  refine wpAnyH_take (i := 6) (v := ?_) rfl (by kernel_rfl) (by kernel_rfl) (by kernel_rfl) (fun _ _ _ h => h) (Or.inl ⟨by kernel_rfl, ?_⟩) hHeld ?_
  rotate_left
  · intro w' hS'
    clear hS'
    go_simp
    try with_reducible rfl
  refine wpAnyH_ready (rs := [7]) (by kernel_rfl) (by simp) ?_
  refine AllReadyH.cons rfl (fun K hK => ?_) AllReadyH.nil
  go_simp
  go_at_call 95
  (with_reducible refine (unhide (hTO _)).mono ?_)
  rintro e w7 ⟨va, oka, La, rfl, hla7, hlla, hb7⟩
  have k7 := k6.below hb7 k6.lt
  have kx7 := kx6.below hb7 kx6.lt
  have hreg7 := hreg6.below hb7
  have hB7 := hB6.trans (hb7.mono hB6.size)
  have h7 := h6.below hb7 h6.lt
  have hla7 := hla7.mono (b' := w1.heap.size) (by have := hB6.size; have hq := kx6.lt; have := hxw; omega)
  refine hK.out _ _ ?_ ?_
  · exact blk3 kx7
  clear hHeld
  intro hHeld
  clear hK K
  refine wpAnyH_take (i := 8) (v := ?_) rfl (by kernel_rfl) (by kernel_rfl) (by kernel_rfl) (fun _ _ _ h => h) (Or.inl ⟨by kernel_rfl, ?_⟩) hHeld ?_
  rotate_left
  · intro w' hS'
    clear hS'
    go_simp
    try with_reducible rfl
  refine wpAnyH_take (i := 9) (v := ?_) rfl (by kernel_rfl) (by kernel_rfl) (by kernel_rfl) (fun _ _ _ h => h) (Or.inl ⟨by kernel_rfl, ?_⟩) hHeld ?_
  rotate_left
  · intro w' hS'
    clear hS'
    go_simp
    try with_reducible rfl
  refine wpAnyH_take (i := 10) (v := ?_) rfl (by kernel_rfl) (by kernel_rfl) (by kernel_rfl) (fun _ _ _ h => h) (Or.inl ⟨by kernel_rfl, ?_⟩) hHeld ?_
  rotate_left
  · intro w' hS'
    clear hS'
    go_simp
    try with_reducible rfl
  refine wpAnyH_take (i := 11) (v := ?_) rfl (by kernel_rfl) (by kernel_rfl) (by kernel_rfl) (fun _ _ _ h => h) (Or.inl ⟨by kernel_rfl, ?_⟩) hHeld ?_
  rotate_left
  · intro w' hS'
    clear hS'
    go_simp
    try with_reducible rfl
  refine wpAnyH_take (i := 12) (v := ?_) rfl (by kernel_rfl) (by kernel_rfl) (by kernel_rfl) (fun _ _ _ h => h) (Or.inl ⟨by kernel_rfl, ?_⟩) hHeld ?_
  rotate_left
  · intro w' hS'
    clear hS'
    go_simp
    try with_reducible rfl
  refine wpAnyH_done (by kernel_rfl) ?_ _
  clear hTM hTO hd3 hk3 hHeld h4 k4 kx4 hreg4 hB4 h5 k5 kx5 hreg5 hB5 h6 k6 kx6 hreg6 hB6 
  go_simp
  obtain ⟨Da, da, dax, rfl, _⟩ := id hla7
  obtain ⟨x0, x1, x2⟩ := blk3 kx7
  obtain ⟨r0, r1, r2⟩ := blk3 k7
  have f0 := k7.frozen 0
  have f1 := k7.frozen 1
  have f2 := k7.frozen 2
  have o1 := ((hreg7.mono hb01).far3' (u0 := .int .i64 W) (u1 := .int .i64 T) (u2 := .slice A2 bs.length c2) k7)
  have q0' := ((hla7.mono hb01).far3' (u0 := .int .i64 W) (u1 := .int .i64 T) (u2 := .slice A2 bs.length c2) k7)
  have o4 := below3' (v0 := .int .i64 W) (v1 := .int .i64 T) (v2 := .slice A2 bs.length c2) hB7 (Nat.le_refl _)
  obtain ⟨q0, q1, q2⟩ := blk3 (set3' (v0 := .int .i64 W) (v1 := .int .i64 T) (v2 := .slice A2 bs.length c2) k7)
  clear hreg7 hB7 k7 kx7 hla7
  go_wp2_with fail
  exact bodyPost_ret (v := .tuple #[.agg #[.int .i64 W, .int .i64 T, .slice A2 bs.length c2], .slice Da La.length da]) (by simp [results, Try.results36, go_sem, q0, q1, q2]) rfl ⟨W, T, A2, c2, _, da, bs, La, rfl, o1, q0', by omega, o4⟩

set_option maxHeartbeats 4000000 in
set_option maxRecDepth 20000 in
theorem drawPushesFrom_any (A : Option Addr) (n c : Nat) (zs : List Int) (w : World) (hr : Reads w w.heap.size 1 A n (zs.map (Value.int .u8))) (hnc : n ≤ c) (hn : n ≤ 1048576) (hwz : ∀ z ∈ zs, (Lit.int .u8 z).wf = true) :
    Calls Try.prog 30 #[.slice A n c] w (Drawn2 w) := by
  have hb0 : Below w.heap.size w (w.alloc (boxR 0 0 none 0 0)) := (Below.refl _ _).alloc (Nat.le_refl _) _
  have k0 : Blk (w.alloc (boxR 0 0 none 0 0)) w.heap.size 25 #[.int .i64 0, .int .i64 0, .slice none 0 0] := Blk.new _ _ _
  have hOP := hide (open_any A n c zs (w.alloc (boxR 0 0 none 0 0)) ((hr.alloc (Nat.le_refl _) _).more (by simp)) hnc hn hwz)
  go_enter Try.func30, Try.ntmps30
  go_wp2_with fail
  refine (unhide hOP).mono ?_
  rintro e w1 ⟨g, n', zs', rfl, h1, b1⟩
  have hgB := h1.out
  have hb01 : w.heap.size ≤ w1.heap.size := (hb0.trans (b1.mono (by simp))).size
  have hglt := h1.lt
  simp at hgB
  have k1 := k0.below b1 k0.lt
  have hB1 := hb0.trans (b1.mono (by simp))
  clear hOP k0 hb0 b1
  go_wp2_with fail
  refine (drawPlain_any g _ A n' c 0 zs' 12 _ h1 (by omega)).mono ?_
  rintro e w2 ⟨W, T, v, bs, rfl, hreg, p2, hp1, hp2, h2, g2⟩
  obtain ⟨A2, c2, rfl, _, _⟩ := own_form hreg.1
  have k2 := k1.grown g2 (by simp; omega)
  have hB2 := hB1.grown g2 hB1.size (fun k hk => by injection hk with hk; omega)
  have hbs := hreg.2
  have hsz12 := g2.size
  clear h1 k1 hB1 g2
  go_upto_region 3 with fail
  have hxw : w1.heap.size ≤ w2.heap.size := hsz12
  have h3 := h2.alloc (.cells #[.int .i64 W, .int .i64 T, .slice A2 bs.length c2] 25)
  have kx := Blk.new w2 25 #[.int .i64 W, .int .i64 T, .slice A2 bs.length c2]
  have hB3 := hB2.alloc hB2.size (.cells #[.int .i64 W, .int .i64 T, .slice A2 bs.length c2] 25)
  have k3 := k2.alloc (.cells #[.int .i64 W, .int .i64 T, .slice A2 bs.length c2] 25)
  have hal : Below w2.heap.size w2 (w2.alloc (.cells #[.int .i64 W, .int .i64 T, .slice A2 bs.length c2] 25)) := (Below.refl _ _).alloc (Nat.le_refl _) _
  have hreg3 := hreg.below hal
  have hxg : w2.heap.size ≠ g := by have := h2.lt; omega
  have hxr : w2.heap.size ≠ w.heap.size := by omega
  clear hsz12 hreg h2 k2 hB2 hal
  generalize w2.alloc (.cells #[.int .i64 W, .int .i64 T, .slice A2 bs.length c2] 25) = w3 at *
  generalize w2.heap.size = x at *
  have kx3 := kx
  clear kx
  have hd3 := (Below.refl w3.heap.size w3).drew
  have hk3 := k3.below hd3 k3.lt
  have k4 := k3.below hd3 k3.lt
  have kx4 := kx3.below hd3 kx3.lt
  have hreg4 := hreg3.below hd3
  have hB4 := hB3.trans (hd3.mono hB3.size)
  have h4 := h3.below hd3 h3.lt
  refine wp_region_held_drew (S := (fun w' => w'.cell? ⟨x, 0, none⟩ = some (.int .i64 W) ∧ w'.cell? ⟨x, 1, none⟩ = some (.int .i64 T) ∧ w'.cell? ⟨x, 2, none⟩ = some (.slice A2 bs.length c2))) (by kernel_rfl) (blk3 kx4) ?_
  intro hHeld
  refine wpAnyH_take (i := 0) (v := ?_) rfl (by kernel_rfl) (by kernel_rfl) (by kernel_rfl) (fun _ _ _ h => h) (Or.inl ⟨by kernel_rfl, ?_⟩) hHeld ?_
  rotate_left
  · intro w' hS'
    obtain ⟨x0, x1, x2⟩ := hS'
    go_simp
    try with_reducible rfl
  refine wpAnyH_take (i := 1) (v := ?_) rfl (by kernel_rfl) (by kernel_rfl) (by kernel_rfl) (fun _ _ _ h => h) (Or.inl ⟨by kernel_rfl, ?_⟩) hHeld ?_
  rotate_left
  · intro w' hS'
    clear hS'
    go_simp
    try with_reducible rfl
  refine wpAnyH_take (i := 3) (v := ?_) rfl (by kernel_rfl) (by kernel_rfl) (by kernel_rfl) (fun _ _ _ h => h) (Or.inl ⟨by kernel_rfl, ?_⟩) hHeld ?_
  rotate_left
  · intro w' hS'
    obtain ⟨x0, x1, x2⟩ := hS'
    go_simp
    try with_reducible rfl
  refine wpAnyH_ready (rs := [2]) (by kernel_rfl) (by simp) ?_
  refine AllReadyH.cons rfl (fun K hK => ?_) AllReadyH.nil
  go_simp
  go_at_call 69
  (with_reducible refine (pick_any g _ A n' c p2 zs' 256 _ h4 (by omega)).mono ?_)
  rintro e w5 ⟨y5, rfl, ya5, yb5, _, h5, g5⟩
  have k5 := k4.grown g5 (by simp; omega)
  have kx5 := kx4.grown g5 (by simpa using hxg)
  have hreg5 := hreg4.step g5 hglt
  have hB5 := hB4.grown g5 hB4.size (fun k hk => by injection hk with hk; omega)
  have hTM := tilingsManyS_any W T A2 bs.length c2 w5.heap.size bs w5 rfl (Reads.of_own hreg5.1) (Nat.le_refl _) (by omega)
  have htb := tmV_bd W T bs
  generalize tmV W T bs = tm at *
  have hmx : ¬ max tm 1 = 0 := by omega
  refine hK.out _ _ ?_ ?_
  · exact blk3 kx5
  clear hHeld
  intro hHeld
  clear hK K
  refine wpAnyH_ready (rs := [4]) (by kernel_rfl) (by simp) ?_
  refine AllReadyH.cons rfl (fun K hK => ?_) AllReadyH.nil
  go_simp
  go_at_call 96
  (with_reducible refine hTM.mono ?_)
  rintro e w6 ⟨rfl, hb6⟩
  have k6 := k5.below hb6 k5.lt
  have kx6 := kx5.below hb6 kx5.lt
  have hreg6 := hreg5.below hb6
  have hB6 := hB5.trans (hb6.mono hB5.size)
  have h6 := h5.below hb6 h5.lt
  have hTO := fun rank => hide (tilingOfS_any W T A2 bs.length c2 w6.heap.size bs rank w6 rfl (Reads.of_own hreg6.1) (Nat.le_refl _) (by omega))
  refine hK.out _ _ ?_ ?_
  · exact blk3 kx6
  clear hHeld
  intro hHeld
  clear hK K
  refine wpAnyH_take (i := 5) (v := ?_) rfl (by kernel_rfl) (by kernel_rfl) (by kernel_rfl) (fun _ _ _ h => h) (Or.inl ⟨by kernel_rfl, ?_⟩) hHeld ?_
  rotate_left
  · intro w' hS'
    clear hS'
    go_simp
    try with_reducible rfl
  refine wpAnyH_take (i := 6) (v := ?_) rfl (by kernel_rfl) (by kernel_rfl) (by kernel_rfl) (fun _ _ _ h => h) (Or.inl ⟨by kernel_rfl, ?_⟩) hHeld ?_
  rotate_left
  · intro w' hS'
    clear hS'
    go_simp
    try with_reducible rfl
  refine wpAnyH_ready (rs := [7]) (by kernel_rfl) (by simp) ?_
  refine AllReadyH.cons rfl (fun K hK => ?_) AllReadyH.nil
  go_simp
  go_at_call 95
  (with_reducible refine (unhide (hTO _)).mono ?_)
  rintro e w7 ⟨va, oka, La, rfl, hla7, hlla, hb7⟩
  have k7 := k6.below hb7 k6.lt
  have kx7 := kx6.below hb7 kx6.lt
  have hreg7 := hreg6.below hb7
  have hB7 := hB6.trans (hb7.mono hB6.size)
  have h7 := h6.below hb7 h6.lt
  have hla7 := hla7.mono (b' := w1.heap.size) (by have := hB6.size; have hq := kx6.lt; have := hxw; omega)
  refine hK.out _ _ ?_ ?_
  · exact blk3 kx7
  clear hHeld
  intro hHeld
  clear hK K
  refine wpAnyH_take (i := 8) (v := ?_) rfl (by kernel_rfl) (by kernel_rfl) (by kernel_rfl) (fun _ _ _ h => h) (Or.inl ⟨by kernel_rfl, ?_⟩) hHeld ?_
  rotate_left
  · intro w' hS'
    clear hS'
    go_simp
    try with_reducible rfl
  refine wpAnyH_take (i := 9) (v := ?_) rfl (by kernel_rfl) (by kernel_rfl) (by kernel_rfl) (fun _ _ _ h => h) (Or.inl ⟨by kernel_rfl, ?_⟩) hHeld ?_
  rotate_left
  · intro w' hS'
    clear hS'
    go_simp
    try with_reducible rfl
  refine wpAnyH_take (i := 10) (v := ?_) rfl (by kernel_rfl) (by kernel_rfl) (by kernel_rfl) (fun _ _ _ h => h) (Or.inl ⟨by kernel_rfl, ?_⟩) hHeld ?_
  rotate_left
  · intro w' hS'
    clear hS'
    go_simp
    try with_reducible rfl
  refine wpAnyH_take (i := 11) (v := ?_) rfl (by kernel_rfl) (by kernel_rfl) (by kernel_rfl) (fun _ _ _ h => h) (Or.inl ⟨by kernel_rfl, ?_⟩) hHeld ?_
  rotate_left
  · intro w' hS'
    clear hS'
    go_simp
    try with_reducible rfl
  refine wpAnyH_take (i := 12) (v := ?_) rfl (by kernel_rfl) (by kernel_rfl) (by kernel_rfl) (fun _ _ _ h => h) (Or.inl ⟨by kernel_rfl, ?_⟩) hHeld ?_
  rotate_left
  · intro w' hS'
    clear hS'
    go_simp
    try with_reducible rfl
  refine wpAnyH_done (by kernel_rfl) ?_ _
  clear hTM hTO hd3 hk3 hHeld h4 k4 kx4 hreg4 hB4 h5 k5 kx5 hreg5 hB5 h6 k6 kx6 hreg6 hB6 
  go_simp
  go_upto_region 4 with fail
  have hd7 := (Below.refl w7.heap.size w7).drew
  have hk7 := k7.below hd7 k7.lt
  have k8 := k7.below hd7 k7.lt
  have kx8 := kx7.below hd7 kx7.lt
  have hreg8 := hreg7.below hd7
  have hB8 := hB7.trans (hd7.mono hB7.size)
  have h8 := h7.below hd7 h7.lt
  have hla8 := hla7.below hd7
  refine wp_region_held_drew (S := (fun w' => w'.cell? ⟨x, 0, none⟩ = some (.int .i64 W) ∧ w'.cell? ⟨x, 1, none⟩ = some (.int .i64 T) ∧ w'.cell? ⟨x, 2, none⟩ = some (.slice A2 bs.length c2))) (by kernel_rfl) (blk3 kx8) ?_
  intro hHeld
  refine wpAnyH_take (i := 0) (v := ?_) rfl (by kernel_rfl) (by kernel_rfl) (by kernel_rfl) (fun _ _ _ h => h) (Or.inl ⟨by kernel_rfl, ?_⟩) hHeld ?_
  rotate_left
  · intro w' hS'
    obtain ⟨x0, x1, x2⟩ := hS'
    go_simp
    try with_reducible rfl
  refine wpAnyH_take (i := 1) (v := ?_) rfl (by kernel_rfl) (by kernel_rfl) (by kernel_rfl) (fun _ _ _ h => h) (Or.inl ⟨by kernel_rfl, ?_⟩) hHeld ?_
  rotate_left
  · intro w' hS'
    clear hS'
    go_simp
    try with_reducible rfl
  refine wpAnyH_take (i := 3) (v := ?_) rfl (by kernel_rfl) (by kernel_rfl) (by kernel_rfl) (fun _ _ _ h => h) (Or.inl ⟨by kernel_rfl, ?_⟩) hHeld ?_
  rotate_left
  · intro w' hS'
    obtain ⟨x0, x1, x2⟩ := hS'
    go_simp
    try with_reducible rfl
  refine wpAnyH_ready (rs := [2]) (by kernel_rfl) (by simp) ?_
  refine AllReadyH.cons rfl (fun K hK => ?_) AllReadyH.nil
  go_simp
  go_at_call 69
  (with_reducible refine (pick_any g _ A n' c (p2 + 1) zs' 256 _ h8 (by omega)).mono ?_)
  rintro e w9 ⟨y9, rfl, ya9, yb9, _, h9, g9⟩
  have k9 := k8.grown g9 (by simp; omega)
  have kx9 := kx8.grown g9 (by simpa using hxg)
  have hreg9 := hreg8.step g9 hglt
  have hB9 := hB8.grown g9 hB8.size (fun k hk => by injection hk with hk; omega)
  have hla9 := hla8.step g9 hglt
  have hTM := tilingsManyS_any W T A2 bs.length c2 w9.heap.size bs w9 rfl (Reads.of_own hreg9.1) (Nat.le_refl _) (by omega)
  have htb := tmV_bd W T bs
  generalize tmV W T bs = tm at *
  have hmx : ¬ max tm 1 = 0 := by omega
  refine hK.out _ _ ?_ ?_
  · exact blk3 kx9
  clear hHeld
  intro hHeld
  clear hK K
  refine wpAnyH_ready (rs := [4]) (by kernel_rfl) (by simp) ?_
  refine AllReadyH.cons rfl (fun K hK => ?_) AllReadyH.nil
  go_simp
  go_at_call 96
  (with_reducible refine hTM.mono ?_)
  rintro e w10 ⟨rfl, hb10⟩
  have k10 := k9.below hb10 k9.lt
  have kx10 := kx9.below hb10 kx9.lt
  have hreg10 := hreg9.below hb10
  have hB10 := hB9.trans (hb10.mono hB9.size)
  have h10 := h9.below hb10 h9.lt
  have hla10 := hla9.below hb10
  have hTO := fun rank => hide (tilingOfS_any W T A2 bs.length c2 w10.heap.size bs rank w10 rfl (Reads.of_own hreg10.1) (Nat.le_refl _) (by omega))
  refine hK.out _ _ ?_ ?_
  · exact blk3 kx10
  clear hHeld
  intro hHeld
  clear hK K
  refine wpAnyH_take (i := 5) (v := ?_) rfl (by kernel_rfl) (by kernel_rfl) (by kernel_rfl) (fun _ _ _ h => h) (Or.inl ⟨by kernel_rfl, ?_⟩) hHeld ?_
  rotate_left
  · intro w' hS'
    clear hS'
    go_simp
    try with_reducible rfl
  refine wpAnyH_take (i := 6) (v := ?_) rfl (by kernel_rfl) (by kernel_rfl) (by kernel_rfl) (fun _ _ _ h => h) (Or.inl ⟨by kernel_rfl, ?_⟩) hHeld ?_
  rotate_left
  · intro w' hS'
    clear hS'
    go_simp
    try with_reducible rfl
  refine wpAnyH_ready (rs := [7]) (by kernel_rfl) (by simp) ?_
  refine AllReadyH.cons rfl (fun K hK => ?_) AllReadyH.nil
  go_simp
  go_at_call 95
  (with_reducible refine (unhide (hTO _)).mono ?_)
  rintro e w11 ⟨vb, okb, Lb, rfl, hlb11, hllb, hb11⟩
  have k11 := k10.below hb11 k10.lt
  have kx11 := kx10.below hb11 kx10.lt
  have hreg11 := hreg10.below hb11
  have hB11 := hB10.trans (hb11.mono hB10.size)
  have h11 := h10.below hb11 h10.lt
  have hla11 := hla10.below hb11
  have hlb11 := hlb11.mono (b' := w1.heap.size) (by have := hB10.size; have hq := kx10.lt; have := hxw; omega)
  refine hK.out _ _ ?_ ?_
  · exact blk3 kx11
  clear hHeld
  intro hHeld
  clear hK K
  refine wpAnyH_take (i := 8) (v := ?_) rfl (by kernel_rfl) (by kernel_rfl) (by kernel_rfl) (fun _ _ _ h => h) (Or.inl ⟨by kernel_rfl, ?_⟩) hHeld ?_
  rotate_left
  · intro w' hS'
    clear hS'
    go_simp
    try with_reducible rfl
  refine wpAnyH_take (i := 9) (v := ?_) rfl (by kernel_rfl) (by kernel_rfl) (by kernel_rfl) (fun _ _ _ h => h) (Or.inl ⟨by kernel_rfl, ?_⟩) hHeld ?_
  rotate_left
  · intro w' hS'
    clear hS'
    go_simp
    try with_reducible rfl
  refine wpAnyH_take (i := 10) (v := ?_) rfl (by kernel_rfl) (by kernel_rfl) (by kernel_rfl) (fun _ _ _ h => h) (Or.inl ⟨by kernel_rfl, ?_⟩) hHeld ?_
  rotate_left
  · intro w' hS'
    clear hS'
    go_simp
    try with_reducible rfl
  refine wpAnyH_take (i := 11) (v := ?_) rfl (by kernel_rfl) (by kernel_rfl) (by kernel_rfl) (fun _ _ _ h => h) (Or.inl ⟨by kernel_rfl, ?_⟩) hHeld ?_
  rotate_left
  · intro w' hS'
    clear hS'
    go_simp
    try with_reducible rfl
  refine wpAnyH_take (i := 12) (v := ?_) rfl (by kernel_rfl) (by kernel_rfl) (by kernel_rfl) (fun _ _ _ h => h) (Or.inl ⟨by kernel_rfl, ?_⟩) hHeld ?_
  rotate_left
  · intro w' hS'
    clear hS'
    go_simp
    try with_reducible rfl
  refine wpAnyH_done (by kernel_rfl) ?_ _
  clear hTM hTO hd7 hk7 hHeld h8 k8 kx8 hreg8 hB8 h9 k9 kx9 hreg9 hB9 h10 k10 kx10 hreg10 hB10 hla8 hla9 hla10
  go_simp
  obtain ⟨Da, da, dax, rfl, _⟩ := id hla11
  obtain ⟨Db, db, dbx, rfl, _⟩ := id hlb11
  go_upto_region 5 with fail
  have hd11 := (Below.refl w11.heap.size w11).drew
  have k12 := k11.below hd11 k11.lt
  have kx12 := kx11.below hd11 kx11.lt
  have hreg12 := hreg11.below hd11
  have hB12 := hB11.trans (hd11.mono hB11.size)
  have h12 := h11.below hd11 h11.lt
  have hla12 := hla11.below hd11
  have hlb12 := hlb11.below hd11
  have hCO := hide (drawCorner_any g _ A n' c ((p2 + 1) + 1) zs' W T A2 c2 bs Da La.length da w1.heap.size La w11.drew h12 (by omega) hreg12 hla12 hglt (by omega))
  refine wp_region_held_drew (S := (fun w' => w'.cell? ⟨x, 0, none⟩ = some (.int .i64 W) ∧ w'.cell? ⟨x, 1, none⟩ = some (.int .i64 T) ∧ w'.cell? ⟨x, 2, none⟩ = some (.slice A2 bs.length c2))) (by kernel_rfl) (blk3 kx12) ?_
  intro hHeld
  refine wpAnyH_take (i := 0) (v := ?_) rfl (by kernel_rfl) (by kernel_rfl) (by kernel_rfl) (fun _ _ _ h => h) (Or.inl ⟨by kernel_rfl, ?_⟩) hHeld ?_
  rotate_left
  · intro w' hS'
    obtain ⟨x0, x1, x2⟩ := hS'
    go_simp
    try with_reducible rfl
  refine wpAnyH_take (i := 1) (v := ?_) rfl (by kernel_rfl) (by kernel_rfl) (by kernel_rfl) (fun _ _ _ h => h) (Or.inl ⟨by kernel_rfl, ?_⟩) hHeld ?_
  rotate_left
  · intro w' hS'
    clear hS'
    go_simp
    try with_reducible rfl
  refine wpAnyH_take (i := 2) (v := ?_) rfl (by kernel_rfl) (by kernel_rfl) (by kernel_rfl) (fun _ _ _ h => h) (Or.inl ⟨by kernel_rfl, ?_⟩) hHeld ?_
  rotate_left
  · intro w' hS'
    clear hS'
    go_simp
    try with_reducible rfl
  refine wpAnyH_take (i := 3) (v := ?_) rfl (by kernel_rfl) (by kernel_rfl) (by kernel_rfl) (fun _ _ _ h => h) (Or.inl ⟨by kernel_rfl, ?_⟩) hHeld ?_
  rotate_left
  · intro w' hS'
    obtain ⟨x0, x1, x2⟩ := hS'
    go_simp
    try with_reducible rfl
  refine wpAnyH_take (i := 4) (v := ?_) rfl (by kernel_rfl) (by kernel_rfl) (by kernel_rfl) (fun _ _ _ h => h) (Or.inl ⟨by kernel_rfl, ?_⟩) hHeld ?_
  rotate_left
  · intro w' hS'
    clear hS'
    go_simp
    try with_reducible rfl
  refine wpAnyH_ready (rs := [5]) (by kernel_rfl) (by simp) ?_
  refine AllReadyH.cons rfl (fun K hK => ?_) AllReadyH.nil
  go_simp
  go_at_call 97
  (with_reducible refine (unhide hCO).mono ?_)
  rintro e w13 ⟨ck, rfl, hck1, hck2, p5, hp5, hp6, h13, g13⟩
  have k13 := k12.grown g13 (by simp; omega)
  have kx13 := kx12.grown g13 (by simpa using hxg)
  have hreg13 := hreg12.step g13 hglt
  have hB13 := hB12.grown g13 hB12.size (fun k hk => by injection hk with hk; omega)
  have hla13 := hla12.step g13 hglt
  have hlb13 := hlb12.step g13 hglt
  have hFO := hide (flipOneS_any W T A2 bs.length c2 w13.heap.size bs La Da La.length da ck w13 rfl rfl (Reads.of_own hreg13.1) hla13.reads.2 (Nat.le_refl _) (by omega) (by omega))
  have hYl := foV_len (W := W) (T := T) (bs := bs) (L := La) (k := ck)
  refine hK.out _ _ ?_ ?_
  · exact blk3 kx13
  clear hHeld
  intro hHeld
  clear hK K
  refine wpAnyH_ready (rs := [6]) (by kernel_rfl) (by simp) ?_
  refine AllReadyH.cons rfl (fun K hK => ?_) AllReadyH.nil
  go_simp
  go_at_call 74
  (with_reducible refine (unhide hFO).mono ?_)
  rintro e w14 ⟨Dy, dyx, dy, rfl, hoy, hb14⟩
  have k14 := k13.below hb14 k13.lt
  have kx14 := kx13.below hb14 kx13.lt
  have hreg14 := hreg13.below hb14
  have hB14 := hB13.trans (hb14.mono hB13.size)
  have h14 := h13.below hb14 h13.lt
  have hla14 := hla13.below hb14
  have hlb14 := hlb13.below hb14
  have hly14 : LiAt w14 w1.heap.size (.slice Dy (foV W T bs La ck).length dy) (foV W T bs La ck) := ⟨Dy, dy, dyx, rfl, own_mono hoy (by have := hB13.size; have hq := kx13.lt; have := hxw; omega)⟩
  refine hK.out _ _ ?_ ?_
  · exact blk3 kx14
  clear hHeld
  intro hHeld
  clear hK K
  refine wpAnyH_take (i := 7) (v := ?_) rfl (by kernel_rfl) (by kernel_rfl) (by kernel_rfl) (fun _ _ _ h => h) (Or.inl ⟨by kernel_rfl, ?_⟩) hHeld ?_
  rotate_left
  · intro w' hS'
    clear hS'
    go_simp
    try with_reducible rfl
  refine wpAnyH_take (i := 8) (v := ?_) rfl (by kernel_rfl) (by kernel_rfl) (by kernel_rfl) (fun _ _ _ h => h) (Or.inl ⟨by kernel_rfl, ?_⟩) hHeld ?_
  rotate_left
  · intro w' hS'
    clear hS'
    go_simp
    try with_reducible rfl
  refine wpAnyH_take (i := 9) (v := ?_) rfl (by kernel_rfl) (by kernel_rfl) (by kernel_rfl) (fun _ _ _ h => h) (Or.inl ⟨by kernel_rfl, ?_⟩) hHeld ?_
  rotate_left
  · intro w' hS'
    clear hS'
    go_simp
    try with_reducible rfl
  refine wpAnyH_take (i := 10) (v := ?_) rfl (by kernel_rfl) (by kernel_rfl) (by kernel_rfl) (fun _ _ _ h => h) (Or.inl ⟨by kernel_rfl, ?_⟩) hHeld ?_
  rotate_left
  · intro w' hS'
    clear hS'
    go_simp
    try with_reducible rfl
  refine wpAnyH_take (i := 11) (v := ?_) rfl (by kernel_rfl) (by kernel_rfl) (by kernel_rfl) (fun _ _ _ h => h) (Or.inl ⟨by kernel_rfl, ?_⟩) hHeld ?_
  rotate_left
  · intro w' hS'
    clear hS'
    go_simp
    try with_reducible rfl
  refine wpAnyH_done (by kernel_rfl) ?_ _
  clear hCO hFO hd11 hHeld hoy hb14 g13 h12 k12 kx12 hreg12 hB12 h13 k13 kx13 hreg13 hB13 hla12 hla13 hlb12 hlb13
  generalize foV W T bs La ck = Ly at *
  generalize foB W T bs La ck = okf at *
  go_simp
  cases okf with
  | false =>
    obtain ⟨x0, x1, x2⟩ := blk3 kx14
    obtain ⟨r0, r1, r2⟩ := blk3 k14
    have f0 := k14.frozen 0
    have f1 := k14.frozen 1
    have f2 := k14.frozen 2
    have o1 := ((hreg14.mono hb01).far3' (u0 := .int .i64 W) (u1 := .int .i64 T) (u2 := .slice A2 bs.length c2) k14)
    have q0' := ((hla14.mono hb01).far3' (u0 := .int .i64 W) (u1 := .int .i64 T) (u2 := .slice A2 bs.length c2) k14)
    have q1' := ((hlb14.mono hb01).far3' (u0 := .int .i64 W) (u1 := .int .i64 T) (u2 := .slice A2 bs.length c2) k14)
    have o4 := below3' (v0 := .int .i64 W) (v1 := .int .i64 T) (v2 := .slice A2 bs.length c2) hB14 (Nat.le_refl _)
    obtain ⟨q0, q1, q2⟩ := blk3 (set3' (v0 := .int .i64 W) (v1 := .int .i64 T) (v2 := .slice A2 bs.length c2) k14)
    clear hreg14 hB14 k14 kx14 hla14 hlb14 hly14
    go_wp2_with fail
    exact bodyPost_ret (v := .tuple #[.agg #[.int .i64 W, .int .i64 T, .slice A2 bs.length c2], .slice Da La.length da, .slice Db Lb.length db]) (by simp [results, Try.results30, go_sem, q0, q1, q2]) rfl ⟨W, T, A2, c2, _, da, _, db, bs, La, Lb, rfl, o1, q0', by omega, q1', by omega, o4⟩
  | true =>
    go_wp2_with fail
    refine (pick_any g _ A n' c p5 zs' 3 _ h14 (by omega)).mono ?_
    rintro e w15 ⟨y15, rfl, ya15, yb15, _, h15, g15⟩
    have k15 := k14.grown g15 (by simp; omega)
    have kx15 := kx14.grown g15 (by simpa using hxg)
    have hreg15 := hreg14.step g15 hglt
    have hB15 := hB14.grown g15 hB14.size (fun k hk => by injection hk with hk; omega)
    have hla15 := hla14.step g15 hglt
    have hlb15 := hlb14.step g15 hglt
    have hly15 := hly14.step g15 hglt
    clear k14 kx14 hreg14 hB14 h14 hla14 hlb14 hly14 g15 h15
    by_cases hy0 : 0 < y15
    ·
      obtain ⟨x0, x1, x2⟩ := blk3 kx15
      obtain ⟨r0, r1, r2⟩ := blk3 k15
      have f0 := k15.frozen 0
      have f1 := k15.frozen 1
      have f2 := k15.frozen 2
      have o1 := ((hreg15.mono hb01).far3' (u0 := .int .i64 W) (u1 := .int .i64 T) (u2 := .slice A2 bs.length c2) k15)
      have q0' := ((hla15.mono hb01).far3' (u0 := .int .i64 W) (u1 := .int .i64 T) (u2 := .slice A2 bs.length c2) k15)
      have q1' := ((hly15.mono hb01).far3' (u0 := .int .i64 W) (u1 := .int .i64 T) (u2 := .slice A2 bs.length c2) k15)
      have o4 := below3' (v0 := .int .i64 W) (v1 := .int .i64 T) (v2 := .slice A2 bs.length c2) hB15 (Nat.le_refl _)
      obtain ⟨q0, q1, q2⟩ := blk3 (set3' (v0 := .int .i64 W) (v1 := .int .i64 T) (v2 := .slice A2 bs.length c2) k15)
      clear hreg15 hB15 k15 kx15 hla15 hlb15 hly15
      go_wp2_with fail
      exact bodyPost_ret (v := .tuple #[.agg #[.int .i64 W, .int .i64 T, .slice A2 bs.length c2], .slice Da La.length da, .slice Dy Ly.length dy]) (by simp [results, Try.results30, go_sem, q0, q1, q2]) rfl ⟨W, T, A2, c2, _, da, _, dy, bs, La, Ly, rfl, o1, q0', by omega, q1', by omega, o4⟩
    ·
      obtain ⟨x0, x1, x2⟩ := blk3 kx15
      obtain ⟨r0, r1, r2⟩ := blk3 k15
      have f0 := k15.frozen 0
      have f1 := k15.frozen 1
      have f2 := k15.frozen 2
      have o1 := ((hreg15.mono hb01).far3' (u0 := .int .i64 W) (u1 := .int .i64 T) (u2 := .slice A2 bs.length c2) k15)
      have q0' := ((hla15.mono hb01).far3' (u0 := .int .i64 W) (u1 := .int .i64 T) (u2 := .slice A2 bs.length c2) k15)
      have q1' := ((hlb15.mono hb01).far3' (u0 := .int .i64 W) (u1 := .int .i64 T) (u2 := .slice A2 bs.length c2) k15)
      have o4 := below3' (v0 := .int .i64 W) (v1 := .int .i64 T) (v2 := .slice A2 bs.length c2) hB15 (Nat.le_refl _)
      obtain ⟨q0, q1, q2⟩ := blk3 (set3' (v0 := .int .i64 W) (v1 := .int .i64 T) (v2 := .slice A2 bs.length c2) k15)
      clear hreg15 hB15 k15 kx15 hla15 hlb15 hly15
      go_wp2_with fail
      exact bodyPost_ret (v := .tuple #[.agg #[.int .i64 W, .int .i64 T, .slice A2 bs.length c2], .slice Da La.length da, .slice Db Lb.length db]) (by simp [results, Try.results30, go_sem, q0, q1, q2]) rfl ⟨W, T, A2, c2, _, da, _, db, bs, La, Lb, rfl, o1, q0', by omega, q1', by omega, o4⟩

end Go.Proofs.Ytpeifojfpkkcpaa
