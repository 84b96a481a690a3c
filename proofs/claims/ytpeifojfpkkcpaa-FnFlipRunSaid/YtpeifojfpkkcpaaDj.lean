/-
  YtpeifojfpkkcpaaDj: drawing: what FnFlipRun draws.
-/
import Derived.Test.YtpeifojfpkkcpaaDu
namespace Go.Proofs.Ytpeifojfpkkcpaa
open Go.RowKit
attribute [local go_sem ↓] Go.wp_at_zero Go.wp_at_succ

theorem own_len_cap {w : World} {base n c size : Nat} {A : Option Addr} {e : TypeId} {xs : List Value} (h : w.ownsRow base e size (.slice A n c) n xs) : n ≤ c := by
  rcases h.2 with ⟨h0, _⟩ | ⟨g, cap, cur, hv, _, _, h3, _⟩
  · injection h0; omega
  · simp only [Value.slice.injEq] at hv
    omega
/-- A region and two lists, of small numbers the second. -/
def DrawnR2 (w : World) (e : Ending) (w' : World) : Prop :=
  ∃ (W T : Int) (A2 : Option Addr) (c2 : Nat) (Da : Option Addr) (da : Nat) (Db : Option Addr) (db : Nat) (bs : List Bool) (La Lb : List Int), e = .returned (.tuple #[.agg #[.int .i64 W, .int .i64 T, .slice A2 bs.length c2], .slice Da La.length da, .slice Db Lb.length db]) ∧ RegAt w' w.heap.size (.slice A2 bs.length c2) bs ∧ LiAt w' w.heap.size (.slice Da La.length da) La ∧ La.length ≤ 99 ∧ LiAt w' w.heap.size (.slice Db Lb.length db) Lb ∧ Lb.length ≤ 99 ∧ Lb.length ≤ db ∧ (∀ z ∈ Lb, 0 ≤ z ∧ z ≤ 1000) ∧ Below w.heap.size w w'
theorem step_make_ints' {w : World} {ops : Array Oper} {o : Oper} {a : Act} {K : Act → World → Prop} {Q : Exit → Act → World → Prop} {F : Prop}
    (hgd : o.guard = none) (l c : Operand) (hop : o.op = Op.makeSlice 26 l c) (n : Nat) (hn : n ≤ 4194304) (hl : a.eval l = .int .i64 (n : Int)) (hc : a.eval c = .int .i64 (n : Int))
    (hK : ∀ w', w'.ownsRow w.heap.size 3 1 (.slice (some ⟨w.heap.size, 0, none⟩) n n) n ((List.replicate n (0 : Int)).map (Value.int .i64)) → Below w.heap.size w w' → K (a.put o.dst (.slice (some ⟨w.heap.size, 0, none⟩) n n)) w') :
    if Region.wanted o (yielded ops a.tmps) = true then Oper.wp Try.prog o a w K Q else F := by
  have hw : Region.wanted o (yielded ops a.tmps) = true := by simp [Region.wanted, hgd]
  rw [if_pos hw]
  obtain ⟨w', hrun, r1, r2⟩ := make_ints n hn w
  unfold Oper.wp
  simp [execOp, hop, hl, hc, hrun, Result.andThen]
  exact hK w' r1 r2

theorem cell_new1' (w : World) (u : Value) (t : TypeId) : (w.alloc (.cells #[u] t)).cell? ⟨w.heap.size, 0, none⟩ = some u := (Blk.new w t #[u]).cell 0
/-- Where the drawing stands: the corners lie above all else. -/
structure FR (w wr : World) (g B : Nat) (A : Option Addr) (n c p : Nat) (zs : List Int) (x b bc gc cc : Nat) (W T : Int) (A2 : Option Addr) (c2 : Nat) (bs : List Bool) (vl : Value) (L cs : List Int) : Prop where
  rd : Rd wr g B A n c p zs
  bel : Below w.heap.size w wr
  res : Blk wr w.heap.size 25 #[.int .i64 0, .int .i64 0, .slice none 0 0]
  reg : Blk wr x 25 #[.int .i64 W, .int .i64 T, .slice A2 bs.length c2]
  own : RegAt wr b (.slice A2 bs.length c2) bs
  li : ∃ (D : Option Addr) (d d' : Nat), vl = .slice D L.length d ∧ wr.ownsRow b 3 1 (.slice D L.length d') L.length (L.map (Value.int .i64)) ∧ ∀ k, (Value.slice D L.length d').ownBlock = some k → k < bc
  cor : wr.ownsRow bc 3 1 (.slice (some ⟨gc, 0, none⟩) cs.length cc) cs.length (cs.map (Value.int .i64))
  gb : g < b ∧ b ≤ bc ∧ w.heap.size < g ∧ x < bc
section
variable {w wr w2 : World} {g B : Nat} {A : Option Addr} {n c p p' : Nat} {zs : List Int} {x b bc gc cc : Nat} {W T : Int} {A2 : Option Addr} {c2 : Nat} {bs : List Bool} {vl : Value} {L cs : List Int}
theorem FR.below (h : FR w wr g B A n c p zs x b bc gc cc W T A2 c2 bs vl L cs) (hb : Below wr.heap.size wr w2) : FR w w2 g B A n c p zs x b bc gc cc W T A2 c2 bs vl L cs := by
  obtain ⟨D, d, d', e, ho, hk⟩ := h.li
  exact ⟨h.rd.below hb h.rd.lt, h.bel.trans (hb.mono h.bel.size), h.res.below hb h.res.lt, h.reg.below hb h.reg.lt, h.own.below hb, ⟨D, d, d', e, own_below ho hb (Nat.le_refl _), hk⟩, own_below h.cor hb (Nat.le_refl _), h.gb⟩
theorem FR.pick (h : FR w wr g B A n c p zs x b bc gc cc W T A2 c2 bs vl L cs) (hR : Rd w2 g B A n c p' zs) (hg : wr.grownBy w2 (some g)) : FR w w2 g B A n c p' zs x b bc gc cc W T A2 c2 bs vl L cs := by
  obtain ⟨D, d, d', e, ho, hk⟩ := h.li
  obtain ⟨g1, g2, g3, g4⟩ := h.gb
  refine ⟨hR, h.bel.grown hg h.bel.size (fun k hk => by injection hk with hk; omega), h.res.grown hg (by simp; omega), h.reg.grown hg ?_, h.own.step hg g1, ⟨D, d, d', e, own_step ho hg g1, hk⟩, own_step h.cor hg (by omega), h.gb⟩
  intro e
  injection e with e
  have h1 := h.reg
  have h2 := h.rd.blk
  rw [e] at h1
  have e3 := h1.symm.trans h2
  simp at e3
theorem FR.app (h : FR w wr g B A n c p zs x b bc gc cc W T A2 c2 bs vl L cs) {g' c' : Nat} {z : Int} {o : Obj} (hown : w2.ownsRow bc 3 1 (.slice (some ⟨g', 0, none⟩) (cs.length + 1) c') (cs.length + 1) (cs.map (Value.int .i64) ++ [.int .i64 z])) (hg : (wr.alloc o).grownBy w2 (some gc)) : FR w w2 g B A n c p zs x b bc g' c' W T A2 c2 bs vl L (cs ++ [z]) := by
  obtain ⟨D, d, d', e, ho, hk⟩ := h.li
  obtain ⟨g1, g2, g3, g4⟩ := h.gb
  have hb : bc ≤ gc ∧ gc < wr.heap.size := own_lt h.cor rfl
  have hne1 : w.heap.size ≠ gc := by omega
  have hne2 : x ≠ gc := by omega
  refine ⟨(h.rd.alloc o).grown hg (by simp; omega) (fun k hk => by injection hk with hk; have := h.rd.out; omega), (h.bel.alloc h.bel.size o).grown hg (by have := h.bel.size; simp; omega) (fun k hk => by injection hk with hk; omega), (h.res.alloc o).grown hg (by simpa using hne1), (h.reg.alloc o).grown hg (by simpa using hne2), ⟨own_grown (h.own.1.alloc o) hg (own_far (h.own.1.alloc o) (h.cor.alloc o) (by decide)), h.own.2⟩, ⟨D, d, d', e, own_grown (ho.alloc o) hg ?_, hk⟩, by simpa using hown, h.gb⟩
  right
  intro hbk
  have := hk _ hbk
  omega
end

set_option maxHeartbeats 4000000 in
set_option maxRecDepth 20000 in
theorem drawFlipRun_any (A : Option Addr) (n c : Nat) (zs : List Int) (w : World) (hr : Reads w w.heap.size 1 A n (zs.map (Value.int .u8))) (hnc : n ≤ c) (hn : n ≤ 1048576) (hwz : ∀ z ∈ zs, (Lit.int .u8 z).wf = true) :
    Calls Try.prog 14 #[.slice A n c] w (DrawnR2 w) := by
  have hb0 : Below w.heap.size w (w.alloc (boxR 0 0 none 0 0)) := (Below.refl _ _).alloc (Nat.le_refl _) _
  have k0 : Blk (w.alloc (boxR 0 0 none 0 0)) w.heap.size 25 #[.int .i64 0, .int .i64 0, .slice none 0 0] := Blk.new _ _ _
  have hOP := hide (open_any A n c zs (w.alloc (boxR 0 0 none 0 0)) ((hr.alloc (Nat.le_refl _) _).more (by simp)) hnc hn hwz)
  go_enter Try.func14, Try.ntmps14
  go_wp2_with fail
  refine (unhide hOP).mono ?_
  rintro e w1 ⟨g, n', zs', rfl, h1, b1⟩
  have hgB := h1.out
  have hb01 : w.heap.size ≤ w1.heap.size := (hb0.trans (b1.mono (by simp))).size
  have hglt := h1.lt
  simp at hgB
  have k1 := k0.below b1 k0.lt
  have hB1 := hb0.trans (b1.mono (by simp))
  clear hOP k0 hb0 b1
  go_wp2_with fail
  refine (drawLaid_any g _ A n' c 0 zs' 12 (by omega) _ h1 (by omega)).mono ?_
  rintro e w2 ⟨W, T, v, vl, bs, L, rfl, hreg, hli, hL, p2, hp1, hp2, h2, g2⟩
  obtain ⟨A2, c2, rfl, _, _⟩ := own_form hreg.1
  obtain ⟨D, d, d', rfl, hlo⟩ := id hli
  have k2 := k1.grown g2 (by simp; omega)
  have hB2 := hB1.grown g2 hB1.size (fun k hk => by injection hk with hk; omega)
  clear h1 k1 hlo
  go_upto_region 3 with fail
  have h3 := h2.alloc (.cells #[.int .i64 W, .int .i64 T, .slice A2 bs.length c2] 25)
  have kx := Blk.new w2 25 #[.int .i64 W, .int .i64 T, .slice A2 bs.length c2]
  have hsz2 := g2.size
  have hB3 := hB2.alloc hB2.size (.cells #[.int .i64 W, .int .i64 T, .slice A2 bs.length c2] 25)
  have k3 := k2.alloc (.cells #[.int .i64 W, .int .i64 T, .slice A2 bs.length c2] 25)
  have hreg3 := hreg.below ((Below.refl _ _).alloc (Nat.le_refl _) (.cells #[.int .i64 W, .int .i64 T, .slice A2 bs.length c2] 25))
  have hli3 := hli.below ((Below.refl _ _).alloc (Nat.le_refl _) (.cells #[.int .i64 W, .int .i64 T, .slice A2 bs.length c2] 25))
  have hxl := kx.lt
  clear hreg hli h2 g2 k2 hB2
  generalize w2.alloc (.cells #[.int .i64 W, .int .i64 T, .slice A2 bs.length c2] 25) = w3 at *
  generalize w2.heap.size = x at *
  have hF0 : FR w (w3.alloc (.cells #[] 3)) g (w.alloc (boxR 0 0 none 0 0)).heap.size A n' c p2 zs' x w1.heap.size w3.heap.size w3.heap.size 0 W T A2 c2 bs (.slice D L.length d) L [] := by
    obtain ⟨D8, d8, d9, e8, ho8⟩ := hli3
    simp only [Value.slice.injEq, true_and] at e8
    obtain ⟨rfl, rfl⟩ := e8
    refine ⟨h3.alloc _, hB3.alloc hB3.size _, k3.alloc _, kx.alloc _, hreg3.below ((Below.refl _ _).alloc (Nat.le_refl _) _), ⟨D, d, d9, rfl, ho8.alloc _, fun k hk => (own_lt ho8 hk).2⟩, ?_, ⟨hglt, by omega, by omega, hxl⟩⟩
    simpa using World.ownsRow_made (base := w3.heap.size) (e := 3) (size := 1) w3 #[] 0 (Nat.le_refl _) (by simp [maxLen]) (by simp)
  have hbs := hreg3.2
  clear h3 kx k3 hB3 hreg3 hli3
  go_wp2_with fail
  refine (pick_any g _ A n' c p2 zs' 20 _ hF0.rd (by omega)).mono ?_
  rintro e w4 ⟨y, rfl, a4, b4, _, h4, g4⟩
  have b4 := b4 (by omega)
  obtain ⟨q, rfl⟩ := Int.eq_ofNat_of_zero_le a4
  have hF4 := hF0.pick h4 g4
  have hq : q < 20 := by omega
  clear hF0 h4 g4 a4 b4
  go_wp2_with fail
  go_loopg [8, 9] q (fun r s8 s9 wr => ∃ (k gc cc p5 : Nat) (cs : List Int), k = r ∧ k ≤ q ∧ s9 = .int .i64 (k : Nat) ∧ s8 = .slice (some ⟨gc, 0, none⟩) cs.length cc ∧ p5 ≤ 600 + (q - k) ∧ cs.length + k = q ∧ (∀ z ∈ cs, 0 ≤ z ∧ z ≤ 1000) ∧ FR w wr g (w.alloc (boxR 0 0 none 0 0)).heap.size A n' c p5 zs' x w1.heap.size w3.heap.size gc cc W T A2 c2 bs (.slice D L.length d) L cs)
  case atStart => exact ⟨q, _, 0, p2 + 1, [], rfl, Nat.le_refl _, rfl, rfl, by omega, by simp, by simp, hF4⟩
  case round =>
    clear hF4
    obtain ⟨k, gc, cc, p5, cs, hk, hkq, rfl, rfl, hp5, hcl, hcz, hF⟩ := hrel
    have HK := Lib.hid hk
    have HCL := Lib.hid hcl
    have HCZ := Lib.hid hcz
    clear hk hcz
    by_cases hk0 : 0 < k
    · have hCM := cornerManyS_any W T A2 bs.length c2 wr.heap.size bs wr rfl (Reads.of_own hF.own.1) (Nat.le_refl _) (by omega)
      have hcb := cornersB_bd W T bs
      obtain ⟨x0, x1, x2⟩ := blk3 hF.reg
      clear hcl
      generalize cornersB W T bs = cm at *
      go_wp2_with fail
      refine hCM.mono ?_
      rintro e w5 ⟨rfl, hw5⟩
      have hF5 := hF.below hw5
      clear hF hw5 hCM x0 x1 x2
      go_wp2_with fail
      refine (pick_any g _ A n' c p5 zs' _ _ hF5.rd (by omega)).mono ?_
      rintro e w6 ⟨z, rfl, a6, b6, _, h6, g6⟩
      have b6 := b6 (by omega)
      have hF6 := hF5.pick h6 g6
      have hz : 0 ≤ z ∧ z ≤ 1000 := by omega
      have hsz6 := hF6.cor
      have hgb6 := hF6.gb
      have hlt6 : w3.heap.size ≤ gc ∧ gc < w6.heap.size := own_lt hF6.cor rfl
      have hc20 : cs.length ≤ 20 := by have := HCL.out; omega
      clear hF5 h6 g6 b6 hsz6
      go_wp2_with (at_builtin; refine wpList_app rfl _ _ _ rfl w3.heap.size 3 (.int .i64 0) 8 Try.underlying26 info_int rfl (by omega) (.slice (some ⟨gc, 0, none⟩) cs.length cc) cs.length _ rfl (hF6.cor.alloc _) _ _ rfl (cell_new1' _ _ _) rfl (by omega) ?c2 ?_)
      case c2 => simp; omega
      rintro g7 c7 w7 hown hgr _ _ _
      have hF7 := hF6.app hown hgr
      clear hF6 hown hgr
      go_wp2_with fail
      go_roundg (k - 1)
      case measure => have := HK.out; omega
      case rel => exact ⟨k - 1, g7, c7, p5 + 1, cs ++ [z], rfl, by omega, by congr 1; omega, by simp, by omega, by have := HCL.out; simp; omega, (fun y hy => by rcases List.mem_append.1 hy with h | h; exact HCZ.out y h; simp at h; rw [h]; exact hz), hF7⟩
    · obtain rfl : k = 0 := by omega
      go_wp2_with fail
      refine (odd_any g _ A n' c p5 zs' 30 _ hF.rd (by omega)).mono ?_
      rintro e w5 ⟨b5, rfl, p6, _, _, h5, g5⟩
      have hF5 := hF.pick h5 g5
      have hzc := HCZ.out
      have hc20 : cs.length ≤ 99 := by have := HCL.out; omega
      have hgb5 := hF5.gb
      have hcap := own_len_cap hF5.cor
      clear hF h5 g5 HK HCL HCZ hcl
      obtain ⟨x0, x1, x2⟩ := blk3 hF5.reg
      obtain ⟨r0, r1, r2⟩ := blk3 hF5.res
      have f0 := hF5.res.frozen 0
      have f1 := hF5.res.frozen 1
      have f2 := hF5.res.frozen 2
      have hl5 : LiAt w5 w.heap.size (.slice D L.length d) L := by
        obtain ⟨D8, d8, d9, e8, ho8, _⟩ := hF5.li
        simp only [Value.slice.injEq, true_and] at e8
        obtain ⟨rfl, rfl⟩ := e8
        exact ⟨D, d, d9, rfl, own_mono ho8 hb01⟩
      have hc5 : LiAt w5 w.heap.size (.slice (some ⟨gc, 0, none⟩) cs.length cc) cs := ⟨_, cc, cc, rfl, own_mono hF5.cor (by omega)⟩
      cases b5 with
      | false =>
        have o1 := ((hF5.own.mono hb01).far3' (u0 := .int .i64 W) (u1 := .int .i64 T) (u2 := .slice A2 bs.length c2) hF5.res)
        have o2 := hl5.far3' (u0 := .int .i64 W) (u1 := .int .i64 T) (u2 := .slice A2 bs.length c2) hF5.res
        have o3 := hc5.far3' (u0 := .int .i64 W) (u1 := .int .i64 T) (u2 := .slice A2 bs.length c2) hF5.res
        have o4 := below3' (v0 := .int .i64 W) (v1 := .int .i64 T) (v2 := .slice A2 bs.length c2) hF5.bel (Nat.le_refl _)
        obtain ⟨q0, q1, q2⟩ := blk3 (set3' (v0 := .int .i64 W) (v1 := .int .i64 T) (v2 := .slice A2 bs.length c2) hF5.res)
        clear hF5 hl5 hc5
        go_wp2_with fail
        exact bodyPost_ret (v := .tuple #[.agg #[.int .i64 W, .int .i64 T, .slice A2 bs.length c2], .slice D L.length d, .slice (some ⟨gc, 0, none⟩) cs.length cc]) (by simp [results, Try.results14, go_sem, q0, q1, q2]) rfl ⟨W, T, A2, c2, D, d, _, cc, bs, L, cs, rfl, o1, o2, hL, o3, hc20, hcap, hzc, o4⟩
      | true =>
        go_upto_region 9 with fail
        have hd := (Below.refl w5.heap.size w5).drew
        have hFd := hF5.below hd
        have hld := hl5.below hd
        clear hc5
        obtain ⟨y0, y1, y2⟩ := blk3 hFd.reg
        obtain ⟨s0, s1, s2⟩ := blk3 hFd.res
        refine wp_region_any (by kernel_rfl) ?_
        change wpAny _ _ _ _ _ _ _ (World.drew _)
        refine wpAny_take (i := 1) (v := ?_) rfl (by kernel_rfl) (by kernel_rfl) (by kernel_rfl) (fun _ _ _ h => h) (Or.inl ⟨by kernel_rfl, ?_⟩) ?_
        rotate_left
        · intro w
          go_simp
          try with_reducible rfl
        refine wpAny_ready (rs := [0, 2]) (by kernel_rfl) (by simp) ?_
        refine AllReady.cons rfl (fun K hK => ?_) (AllReady.cons rfl (fun K hK => ?_) AllReady.nil)
        · go_simp
          refine hK _ _ ?_
          clear hK K
          refine wpAny_ready (rs := [2, 3]) (by kernel_rfl) (by simp) ?_
          refine AllReady.cons rfl (fun K hK => ?_) (AllReady.cons rfl (fun K hK => ?_) AllReady.nil)
          · refine step_make_ints' rfl _ _ rfl 61 (by omega) rfl rfl ?_
            intro w7 ho7 hb7
            have hF7 := hFd.below hb7
            have hl7 := hld.below hb7
            have hm7 : LiAt w7 w.heap.size (.slice (some ⟨w5.drew.heap.size, 0, none⟩) (List.replicate 61 (0 : Int)).length 61) (List.replicate 61 (0 : Int)) := ⟨_, 61, 61, rfl, by simpa using own_mono ho7 hFd.bel.size⟩
            obtain ⟨z0, z1, z2⟩ := blk3 hF7.reg
            obtain ⟨t0, t1, t2⟩ := blk3 hF7.res
            have e0 := hF7.res.frozen 0
            have e1 := hF7.res.frozen 1
            have e2 := hF7.res.frozen 2
            have o1 := ((hF7.own.mono hb01).far3' (u0 := .int .i64 W) (u1 := .int .i64 T) (u2 := .slice A2 bs.length c2) hF7.res)
            have o2 := hl7.far3' (u0 := .int .i64 W) (u1 := .int .i64 T) (u2 := .slice A2 bs.length c2) hF7.res
            have o3 := hm7.far3' (u0 := .int .i64 W) (u1 := .int .i64 T) (u2 := .slice A2 bs.length c2) hF7.res
            have o4 := below3' (v0 := .int .i64 W) (v1 := .int .i64 T) (v2 := .slice A2 bs.length c2) hF7.bel (Nat.le_refl _)
            obtain ⟨q0, q1, q2⟩ := blk3 (set3' (v0 := .int .i64 W) (v1 := .int .i64 T) (v2 := .slice A2 bs.length c2) hF7.res)
            refine hK _ _ ?_
            clear hK K
            refine wpAny_ready (rs := [3]) (by kernel_rfl) (by simp) ?_
            refine AllReady.cons rfl (fun K hK => ?_) AllReady.nil
            go_simp
            refine hK _ _ ?_
            clear hK K
            refine wpAny_take (i := 4) (v := ?_) rfl (by kernel_rfl) (by kernel_rfl) (by kernel_rfl) (fun _ _ _ h => h) (Or.inl ⟨by kernel_rfl, ?_⟩) ?_
            rotate_left
            · intro w
              go_simp
              try with_reducible rfl
            refine wpAny_take (i := 5) (v := ?_) rfl (by kernel_rfl) (by kernel_rfl) (by kernel_rfl) (fun _ _ _ h => h) (Or.inl ⟨by kernel_rfl, ?_⟩) ?_
            rotate_left
            · intro w
              go_simp
              try with_reducible rfl
            refine wpAny_done (by kernel_rfl) ?_ _
            clear hF5 hl5 hFd hld
            go_simp
            go_wp2_with fail
            exact bodyPost_ret (v := .tuple #[.agg #[.int .i64 W, .int .i64 T, .slice A2 bs.length c2], .slice D L.length d, .slice (some ⟨w5.drew.heap.size, 0, none⟩) (List.replicate 61 (0 : Int)).length 61]) (by simp [results, Try.results14, go_sem, q0, q1, q2]) rfl ⟨W, T, A2, c2, D, d, _, 61, bs, L, _, rfl, o1, o2, hL, o3, by simp, by simp, (fun z hz => by have := List.eq_of_mem_replicate hz; omega), o4⟩
          · go_simp
            refine hK _ _ ?_
            clear hK K
            refine wpAny_take (i := 4) (v := ?_) rfl (by kernel_rfl) (by kernel_rfl) (by kernel_rfl) (fun _ _ _ h => h) (Or.inl ⟨by kernel_rfl, ?_⟩) ?_
            rotate_left
            · intro w
              go_simp
              try with_reducible rfl
            refine wpAny_ready (rs := [2]) (by kernel_rfl) (by simp) ?_
            refine AllReady.cons rfl (fun K hK => ?_) AllReady.nil
            refine step_make_ints' rfl _ _ rfl 61 (by omega) rfl rfl ?_
            intro w7 ho7 hb7
            have hBS := below3' (v0 := .int .i64 W) (v1 := .int .i64 T) (v2 := .slice A2 bs.length c2) hFd.bel (Nat.le_refl w.heap.size)
            have o1 := ((hFd.own.mono hb01).far3' (u0 := .int .i64 W) (u1 := .int .i64 T) (u2 := .slice A2 bs.length c2) hFd.res).below hb7
            have o2 := (hld.far3' (u0 := .int .i64 W) (u1 := .int .i64 T) (u2 := .slice A2 bs.length c2) hFd.res).below hb7
            have o3 : LiAt w7 w.heap.size (.slice (some ⟨w5.drew.heap.size, 0, none⟩) (List.replicate 61 (0 : Int)).length 61) (List.replicate 61 (0 : Int)) := ⟨_, 61, 61, rfl, by simpa using own_mono ho7 hBS.size⟩
            have o4 := hBS.trans (hb7.mono hBS.size)
            obtain ⟨q0, q1, q2⟩ := blk3 ((set3' (v0 := .int .i64 W) (v1 := .int .i64 T) (v2 := .slice A2 bs.length c2) hFd.res).below hb7 (set3' (v0 := .int .i64 W) (v1 := .int .i64 T) (v2 := .slice A2 bs.length c2) hFd.res).lt)
            refine hK _ _ ?_
            clear hK K
            refine wpAny_take (i := 5) (v := ?_) rfl (by kernel_rfl) (by kernel_rfl) (by kernel_rfl) (fun _ _ _ h => h) (Or.inl ⟨by kernel_rfl, ?_⟩) ?_
            rotate_left
            · intro w
              go_simp
              try with_reducible rfl
            refine wpAny_done (by kernel_rfl) ?_ _
            clear hF5 hl5 hFd hld
            go_simp
            go_wp2_with fail
            exact bodyPost_ret (v := .tuple #[.agg #[.int .i64 W, .int .i64 T, .slice A2 bs.length c2], .slice D L.length d, .slice (some ⟨w5.drew.heap.size, 0, none⟩) (List.replicate 61 (0 : Int)).length 61]) (by simp [results, Try.results14, go_sem, q0, q1, q2]) rfl ⟨W, T, A2, c2, D, d, _, 61, bs, L, _, rfl, o1, o2, hL, o3, by simp, by simp, (fun z hz => by have := List.eq_of_mem_replicate hz; omega), o4⟩
        · refine step_make_ints' rfl _ _ rfl 61 (by omega) rfl rfl ?_
          intro w7 ho7 hb7
          have hF7 := hFd.below hb7
          have hl7 := hld.below hb7
          have hm7 : LiAt w7 w.heap.size (.slice (some ⟨w5.drew.heap.size, 0, none⟩) (List.replicate 61 (0 : Int)).length 61) (List.replicate 61 (0 : Int)) := ⟨_, 61, 61, rfl, by simpa using own_mono ho7 hFd.bel.size⟩
          obtain ⟨z0, z1, z2⟩ := blk3 hF7.reg
          obtain ⟨t0, t1, t2⟩ := blk3 hF7.res
          have e0 := hF7.res.frozen 0
          have e1 := hF7.res.frozen 1
          have e2 := hF7.res.frozen 2
          have o1 := ((hF7.own.mono hb01).far3' (u0 := .int .i64 W) (u1 := .int .i64 T) (u2 := .slice A2 bs.length c2) hF7.res)
          have o2 := hl7.far3' (u0 := .int .i64 W) (u1 := .int .i64 T) (u2 := .slice A2 bs.length c2) hF7.res
          have o3 := hm7.far3' (u0 := .int .i64 W) (u1 := .int .i64 T) (u2 := .slice A2 bs.length c2) hF7.res
          have o4 := below3' (v0 := .int .i64 W) (v1 := .int .i64 T) (v2 := .slice A2 bs.length c2) hF7.bel (Nat.le_refl _)
          obtain ⟨q0, q1, q2⟩ := blk3 (set3' (v0 := .int .i64 W) (v1 := .int .i64 T) (v2 := .slice A2 bs.length c2) hF7.res)
          refine hK _ _ ?_
          clear hK K
          refine wpAny_ready (rs := [0]) (by kernel_rfl) (by simp) ?_
          refine AllReady.cons rfl (fun K hK => ?_) AllReady.nil
          go_simp
          refine hK _ _ ?_
          clear hK K
          refine wpAny_ready (rs := [3]) (by kernel_rfl) (by simp) ?_
          refine AllReady.cons rfl (fun K hK => ?_) AllReady.nil
          go_simp
          refine hK _ _ ?_
          clear hK K
          refine wpAny_take (i := 4) (v := ?_) rfl (by kernel_rfl) (by kernel_rfl) (by kernel_rfl) (fun _ _ _ h => h) (Or.inl ⟨by kernel_rfl, ?_⟩) ?_
          rotate_left
          · intro w
            go_simp
            try with_reducible rfl
          refine wpAny_take (i := 5) (v := ?_) rfl (by kernel_rfl) (by kernel_rfl) (by kernel_rfl) (fun _ _ _ h => h) (Or.inl ⟨by kernel_rfl, ?_⟩) ?_
          rotate_left
          · intro w
            go_simp
            try with_reducible rfl
          refine wpAny_done (by kernel_rfl) ?_ _
          clear hF5 hl5 hFd hld
          go_simp
          go_wp2_with fail
          exact bodyPost_ret (v := .tuple #[.agg #[.int .i64 W, .int .i64 T, .slice A2 bs.length c2], .slice D L.length d, .slice (some ⟨w5.drew.heap.size, 0, none⟩) (List.replicate 61 (0 : Int)).length 61]) (by simp [results, Try.results14, go_sem, q0, q1, q2]) rfl ⟨W, T, A2, c2, D, d, _, 61, bs, L, _, rfl, o1, o2, hL, o3, by simp, by simp, (fun z hz => by have := List.eq_of_mem_replicate hz; omega), o4⟩

end Go.Proofs.Ytpeifojfpkkcpaa
