/-
  YtpeifojfpkkcpaaDl: drawing: what FnPushesValid and FnPushesBy draw.
-/
import Derived.Test.YtpeifojfpkkcpaaDp
import Derived.Test.YtpeifojfpkkcpaaDk
namespace Go.Proofs.Ytpeifojfpkkcpaa
open Go.RowKit
attribute [local go_sem ↓] Go.wp_at_zero Go.wp_at_succ

/-- A region and pushes. -/
def DrawnRP (w : World) (e : Ending) (w' : World) : Prop :=
  ∃ (W T : Int) (A2 : Option Addr) (c2 : Nat) (P : Option Addr) (pd : Nat) (bs : List Bool) (ps : List (Int × Bool)), e = .returned (.tuple #[.agg #[.int .i64 W, .int .i64 T, .slice A2 bs.length c2], .slice P ps.length pd]) ∧ RegAt w' w.heap.size (.slice A2 bs.length c2) bs ∧ PuAt w' w.heap.size (.slice P ps.length pd) ps ∧ ps.length ≤ 61 ∧ ps.length ≤ pd ∧ (∀ q ∈ ps, -2000 ≤ q.1 ∧ q.1 ≤ 2000) ∧ Below w.heap.size w w'

set_option maxHeartbeats 4000000 in
set_option maxRecDepth 20000 in
theorem drawPushesValid_any (A : Option Addr) (n c : Nat) (zs : List Int) (w : World) (hr : Reads w w.heap.size 1 A n (zs.map (Value.int .u8))) (hnc : n ≤ c) (hn : n ≤ 1048576) (hwz : ∀ z ∈ zs, (Lit.int .u8 z).wf = true) :
    Calls Try.prog 22 #[.slice A n c] w (DrawnRP w) := by
  have hb0 : Below w.heap.size w (w.alloc (boxR 0 0 none 0 0)) := (Below.refl _ _).alloc (Nat.le_refl _) _
  have k0 : Blk (w.alloc (boxR 0 0 none 0 0)) w.heap.size 25 #[.int .i64 0, .int .i64 0, .slice none 0 0] := Blk.new _ _ _
  have hOP := hide (open_any A n c zs (w.alloc (boxR 0 0 none 0 0)) ((hr.alloc (Nat.le_refl _) _).more (by simp)) hnc hn hwz)
  go_enter Try.func22, Try.ntmps22
  go_wp2_with fail
  refine (unhide hOP).mono ?_
  rintro e w1 ⟨g, n', zs', rfl, h1, b1⟩
  have hgB := h1.out
  have hb01 : w.heap.size ≤ w1.heap.size := (hb0.trans (b1.mono (by simp))).size
  have hglt := h1.lt
  simp at hgB
  have k1 := k0.below b1 k0.lt
  have hB1 := hb0.trans (b1.mono (by simp))
  clear hOP k0 hb0 b1
  go_wp2_with fail
  refine (drawPlain_any g _ A n' c 0 zs' 6 _ h1 (by omega)).mono ?_
  rintro e w2 ⟨W, T, v, bs, rfl, hreg, p2, hp1, hp2, h2, g2⟩
  obtain ⟨A2, c2, rfl, _, _⟩ := own_form hreg.1
  have k2 := k1.grown g2 (by simp; omega)
  have hB2 := hB1.grown g2 hB1.size (fun k hk => by injection hk with hk; omega)
  have hbs := hreg.2
  have hsz12 := g2.size
  clear h1 k1 hB1 g2
  go_upto_region 3 with fail
  have h3 := h2.alloc (.cells #[.int .i64 W, .int .i64 T, .slice A2 bs.length c2] 25)
  have kx := Blk.new w2 25 #[.int .i64 W, .int .i64 T, .slice A2 bs.length c2]
  have hB3 := hB2.alloc hB2.size (.cells #[.int .i64 W, .int .i64 T, .slice A2 bs.length c2] 25)
  have k3 := k2.alloc (.cells #[.int .i64 W, .int .i64 T, .slice A2 bs.length c2] 25)
  have hal : Below w2.heap.size w2 (w2.alloc (.cells #[.int .i64 W, .int .i64 T, .slice A2 bs.length c2] 25)) := (Below.refl _ _).alloc (Nat.le_refl _) _
  have hreg3 := hreg.below hal
  have hxg : w2.heap.size ≠ g := by have := h2.lt; omega
  have hxr : w2.heap.size ≠ w.heap.size := by omega
  clear hreg h2 k2 hB2 hal
  generalize w2.alloc (.cells #[.int .i64 W, .int .i64 T, .slice A2 bs.length c2] 25) = w3 at *
  generalize w2.heap.size = x at *
  have hPU := drawPushes_any g _ A n' c p2 zs' W T A2 c2 w1.heap.size bs 9 (by omega) w3 h3 (by omega) hreg3 hglt
  obtain ⟨x0, x1, x2⟩ := blk3 kx
  have hsz3 : w.heap.size ≤ w3.heap.size := hB3.size
  go_wp2_with fail
  refine hPU.mono ?_
  rintro e w4 ⟨gp, kp, ps, rfl, hps, hpl, hpz, p4, hp3, hp4, h4, g4⟩
  have k4 := k3.grown g4 (by simp; omega)
  have kx4 := kx.grown g4 (by simpa using hxg)
  have hreg4 := hreg3.step g4 hglt
  have hB4 := hB3.grown g4 hB3.size (fun k hk => by injection hk with hk; omega)
  have hps4b := hps
  have hgx : g < w3.heap.size := h3.lt
  have hxl3 : x < w3.heap.size := kx.lt
  clear hPU k3 kx hreg3 hB3 hps g4 h3 x0 x1 x2
  go_wp2_with fail
  refine (odd_any g _ A n' c p4 zs' 6 _ h4 (by omega)).mono ?_
  rintro e w5 ⟨b5, rfl, p6, _, _, h5, g5⟩
  have k5 := k4.grown g5 (by simp; omega)
  have kx5 := kx4.grown g5 (by simpa using hxg)
  have hreg5 := hreg4.step g5 hglt
  have hB5 := hB4.grown g5 hB4.size (fun k hk => by injection hk with hk; omega)
  have hps5 : PuAt w5 w.heap.size _ ps := own_mono (own_step hps4b g5 hgx) hsz3
  clear k4 kx4 hreg4 hB4 h4 g5 h5
  cases b5 with
  | false =>
      obtain ⟨x0, x1, x2⟩ := blk3 kx5
      obtain ⟨r0, r1, r2⟩ := blk3 k5
      have f0 := k5.frozen 0
      have f1 := k5.frozen 1
      have f2 := k5.frozen 2
      have o1 := ((hreg5.mono hb01).far3' (u0 := .int .i64 W) (u1 := .int .i64 T) (u2 := .slice A2 bs.length c2) k5)
      have o2 := (hps5.far3' (u0 := .int .i64 W) (u1 := .int .i64 T) (u2 := .slice A2 bs.length c2) k5)
      have o4 := below3' (v0 := .int .i64 W) (v1 := .int .i64 T) (v2 := .slice A2 bs.length c2) hB5 (Nat.le_refl _)
      obtain ⟨q0, q1, q2⟩ := blk3 (set3' (v0 := .int .i64 W) (v1 := .int .i64 T) (v2 := .slice A2 bs.length c2) k5)
      have hcap := own_cap_le hps5
      clear hreg5 hps5 hB5 k5 kx5
      go_wp2_with fail
      exact bodyPost_ret (v := .tuple #[.agg #[.int .i64 W, .int .i64 T, .slice A2 bs.length c2], .slice (some ⟨gp, 0, none⟩) ps.length kp]) (by simp [results, Try.results22, go_sem, q0, q1, q2]) rfl ⟨W, T, A2, c2, _, kp, bs, ps, rfl, o1, o2, by omega, hcap, hpz, o4⟩
  | true =>
    have hlt6 : w.heap.size ≤ gp ∧ gp < w5.heap.size := own_lt hps5 rfl
    have hlt7 : w3.heap.size ≤ gp ∧ gp < w4.heap.size := own_lt hps4b rfl
    have hxl : x < w3.heap.size := hxl3
    go_wp2_with (at_builtin; refine wpList_app_blk rfl _ _ _ rfl w.heap.size 40 _ 2 16 Try.underlying35 info_push rfl (by omega) (by omega) _ _ _ rfl (hps5.alloc _) w5.heap.size 40 #[.int .i64 (-1), .bool false] rfl (Blk.new _ _ _) rfl (by simp [Value.oneCell']) (by omega) (by simp; omega) ?_)
    rintro g7 c7 w7 hown hgr _ _ _
    have k7 := (k5.alloc _).grown hgr (by simp [Value.ownBlock]; omega)
    have kx7 := (kx5.alloc _).grown hgr (by simp [Value.ownBlock]; omega)
    have hreg7 : RegAt w7 w1.heap.size (.slice A2 bs.length c2) bs := ⟨own_grown (hreg5.1.alloc (.cells #[.int .i64 (-1), .bool false] 40)) hgr (own_far (hreg5.1.alloc (.cells #[.int .i64 (-1), .bool false] 40)) (hps5.alloc (.cells #[.int .i64 (-1), .bool false] 40)) (by decide)), hbs⟩
    have hgr7 : (w5.alloc (.cells #[.int .i64 (-1), .bool false] 40)).grownBy w7 (some gp) := hgr
    have hB7 := (hB5.alloc hB5.size _).grown hgr7 (by have := hB5.size; simp; omega) (fun k hk => by injection hk with hk; omega)
    have hps7 : PuAt w7 w.heap.size (.slice (some ⟨g7, 0, none⟩) (ps ++ [(-1, false)]).length c7) (ps ++ [(-1, false)]) := by
      show World.ownsRow _ _ _ _ _ _ _
      rw [pc_app, List.length_append]
      simpa using hown
    have hzz : ∀ q ∈ ps ++ [(-1, false)], -2000 ≤ q.1 ∧ q.1 ≤ 2000 := fun q hq => by
      rcases List.mem_append.1 hq with h | h
      · exact hpz q h
      · simp at h; rw [h]; simp
    clear hps4b hps5 hown hgr hgr7 k5 kx5 hreg5 hB5
    obtain ⟨x0, x1, x2⟩ := blk3 kx7
    obtain ⟨r0, r1, r2⟩ := blk3 k7
    have f0 := k7.frozen 0
    have f1 := k7.frozen 1
    have f2 := k7.frozen 2
    have o1 := ((hreg7.mono hb01).far3' (u0 := .int .i64 W) (u1 := .int .i64 T) (u2 := .slice A2 bs.length c2) k7)
    have o2 := (hps7.far3' (u0 := .int .i64 W) (u1 := .int .i64 T) (u2 := .slice A2 bs.length c2) k7)
    have o4 := below3' (v0 := .int .i64 W) (v1 := .int .i64 T) (v2 := .slice A2 bs.length c2) hB7 (Nat.le_refl _)
    obtain ⟨q0, q1, q2⟩ := blk3 (set3' (v0 := .int .i64 W) (v1 := .int .i64 T) (v2 := .slice A2 bs.length c2) k7)
    have hcap := own_cap_le hps7
    clear hreg7 hps7 hB7 k7 kx7
    go_wp2_with fail
    exact bodyPost_ret (v := .tuple #[.agg #[.int .i64 W, .int .i64 T, .slice A2 bs.length c2], .slice (some ⟨g7, 0, none⟩) (ps.length + 1) c7]) (by simp [results, Try.results22, go_sem, q0, q1, q2]) rfl ⟨W, T, A2, c2, _, c7, bs, _, by simp, o1, o2, by simp; omega, hcap, hzz, o4⟩


end Go.Proofs.Ytpeifojfpkkcpaa
