/-
  YthepfpiphlfgnaaDt: drawing: a tiling of some region; what FnFrozen draws.
-/
import Derived.Test.YthepfpiphlfgnaaD8
import Derived.Test.YthepfpiphlfgnaaCz
import Derived.Test.YthepfpiphlfgnaaTt
import Derived.Test.YthepfpiphlfgnaaDv
import Derived.Deep.RegionHeld
namespace Go.Proofs.Ythepfpiphlfgnaa
open Go.RowKit
attribute [local go_sem ↓] Go.wp_at_zero Go.wp_at_succ

/-- All tilings of any region. -/
def AllAt (w : World) (e : Ending) (w' : World) : Prop :=
  ∃ A c m, e = .returned (.slice A m c) ∧ Below w.heap.size w w' ∧ m ≤ 262144 ∧ (0 < m → ∃ xs Ts n, Ts.length = m ∧ n ≤ 36 ∧ (∀ M ∈ Ts, M.length = n) ∧ RowsOf w' w.heap.size n (.slice A m c) xs Ts)
theorem tilingsAllS_any (W T : Int) (A : Option Addr) (n c B : Nat) (bs : List Bool) (w : World) (hbl : bs.length = n) (hr : Reads w B 1 A n (bs.map Value.bool)) (hB : B ≤ w.heap.size) (hn : n ≤ 9223372036854775807) :
    Calls Try.prog 84 #[.agg #[.int .i64 W, .int .i64 T, .slice A n c]] w (AllAt w) := by
  cases hv : validB W T bs with
  | false =>
    refine (tilingsAllS_no W T A n c B bs hv w hr hB hn).mono ?_
    rintro e w' ⟨g, rfl, hb⟩
    exact ⟨_, _, 0, rfl, hb, by omega, fun h => by omega⟩
  | true =>
    obtain ⟨R, hR, rfl, rfl, rfl⟩ := reg_of_valid hv
    subst hbl
    refine (tilingsAllS_ok R hR A c B w hr hB).mono ?_
    rintro e w' ⟨A3, c3, xs, rfl, hR3, hb, _⟩
    exact ⟨_, _, _, rfl, hb, tilT_len R, fun _ => ⟨xs, tilT R, R.C.length, rfl, (len_bd hR).2, fun M hM => ((tilT_iff hR).1 hM).1.len, hR3⟩⟩

set_option maxHeartbeats 8000000 in
set_option maxRecDepth 100000 in
theorem drawTilingL_any (g B : Nat) (A : Option Addr) (n c p : Nat) (zs : List Int) (w : World) (h : Rd w g B A n c p zs) (hp : p ≤ 10000000) :
    Calls Try.prog 93 #[.pointer (some ⟨g, 0, none⟩)] w (DrawnL w g B A n c p 800 zs) := by
  have hglt := h.lt
  go_enter Try.func93, Try.ntmps93
  go_wp2_with fail
  refine (drawSome_any g B A n c p zs 14 _ (h.alloc _) (by omega)).mono ?_
  intro e w1 hd
  have hres := hd.blk (Blk.new w 25 #[.int .i64 0, .int .i64 0, .slice none 0 0]) (by omega)
  obtain ⟨W, T, v, bs, rfl, hreg, hst⟩ := hd.more (w0 := w) (p := p) (d := 170) (only_alloc (World.grownBy.refl w _) _) (by omega)
  obtain ⟨A2, c2, rfl, hc2, _⟩ := own_form hreg.1
  have hD0 : DR w (w1.alloc (.cells #[.int .i64 W, .int .i64 T, .slice A2 bs.length c2] 25)) g B A n c p 170 zs w1.heap.size W T (.slice A2 bs.length c2) bs :=
    ⟨hst.calm ((Below.refl _ _).alloc (Nat.le_refl _) _), hglt, hres.alloc _, Blk.new _ _ _, hreg.below ((Below.refl _ _).alloc (Nat.le_refl _) _), hres.lt⟩
  clear hd hres hreg hst h
  go_upto_region 2 with fail
  have hTA := hide (tilingsAllS_any W T A2 bs.length c2 _ bs _ rfl (Reads.of_own hD0.own.1) (Nat.le_refl _) (by have := hD0.own.2; omega))
  generalize w1.alloc (.cells #[.int .i64 W, .int .i64 T, .slice A2 bs.length c2] 25) = w2 at *
  generalize w1.heap.size = x at *
  obtain ⟨⟨a0, a1, a2⟩, _, _, _⟩ := hD0.cells
  go_wp2_with fail
  refine (unhide hTA).mono ?_
  rintro e w3 ⟨A3, c3, m, rfl, hb3, hm, hrows⟩
  have hD3 := hD0.calm hb3
  have hw2g : g < w2.heap.size := by obtain ⟨_, _, _, h4, _⟩ := hD0.st; exact h4.lt
  have hw22 : w.heap.size ≤ w2.heap.size := by obtain ⟨_, _, _, _, hq⟩ := hD0.st; exact hq.size
  have HRO := Lib.hid hrows
  clear hD0 hb3 hTA a0 a1 a2 hrows
  go_upto_region 3 with fail
  go_cut [17] (fun s17 wx => ∃ b : Bool, s17 = .bool b ∧ (b = true → 0 < m) ∧ DR w wx g B A n c p 171 zs x W T (.slice A2 bs.length c2) bs ∧ (∀ k, w2.heap.size ≤ k → k < w3.heap.size → wx.heap[k]? = w3.heap[k]?) ∧ w3.heap.size ≤ wx.heap.size)
  case first =>
    by_cases hm0 : 0 < m
    · obtain ⟨p2, hp1, hp2, hR3, hgr⟩ := hD3.st
      go_wp2_with fail
      refine (pick_any g B A n c p2 zs 8 _ hR3 (by omega)).mono ?_
      rintro e w4 ⟨x4, rfl, _, _, _, h4, g4⟩
      have hD4 := hD3.step (d2 := 1) ⟨hp1, hp2⟩ hgr ⟨p2 + 1, by omega, by omega, h4, g4⟩
      have hk4 : ∀ k, w2.heap.size ≤ k → k < w3.heap.size → w4.heap[k]? = w3.heap[k]? := fun k h1 h2 => g4.block k h2 (by simp; omega)
      have hs4 := g4.size
      clear hD3 hR3 hgr h4 g4
      go_wp2_with fail
      go_meet
      exact ⟨_, rfl, fun _ => hm0, hD4, hk4, hs4⟩
    · obtain rfl : m = 0 := by omega
      go_wp2_with fail
      go_meet
      exact ⟨false, rfl, (fun h => by cases h), hD3.more (by omega), fun _ _ _ => rfl, Nat.le_refl _⟩
  case rest =>
    obtain ⟨b, rfl, hbm, hD, hkp, hsx⟩ := hcut
    have HBM := Lib.hid hbm
    have HKP := Lib.hid hkp
    clear hD3 hbm hkp
    cases b with
    | true =>
      have hm0 := HBM.out rfl
      obtain ⟨xs, Ts, nn, hTm, hnn, hTn, hR⟩ := HRO.out hm0
      have hRx := hR.keep HKP.out
      have hown := hRx.own
      rw [hRx.len, hTm] at hown
      obtain ⟨g3, cg3, hsh3, hc3, hg3, _⟩ := own_shape hown (by omega)
      simp only [Value.slice.injEq, true_and] at hsh3
      obtain ⟨rfl, rfl⟩ := hsh3
      have hxsl := hRx.len
      rw [hTm] at hxsl
      have HTN := Lib.hid hTn
      have HIN := Lib.hid hRx.inn
      have HTM := Lib.hid hTm
      clear HRO HBM HKP hR hRx hTn hTm
      obtain ⟨p2, hp3, hp4, hR5, hgr⟩ := hD.st
      go_upto_region 4 with fail
      obtain ⟨mi, hmi⟩ : ∃ mi, min (m : Int) 256 = mi := ⟨_, rfl⟩
      have hmi2 : 1 ≤ mi ∧ mi ≤ m := by omega
      have hd0 := (Below.refl wc.heap.size wc).drew
      have hDd := hD.calm hd0
      have hRd := hR5.below hd0 hR5.lt
      have hgrd : w.grownBy wc.drew (some g) := only_drew hgr
      have hxres : w.heap.size ≠ x := by have := hD.xlt; omega
      have hg3r : g3 ≠ w.heap.size := fun e => own_blk_ne hown hD.res (by decide) (by rw [e]; rfl)
      have hrow : ∀ q v, xs[q]? = some v → wc.drew.cell? ⟨g3, q, none⟩ = some v := fun q v hq => by
        have hql := (List.getElem?_eq_some_iff.1 hq).1
        have := hown.cellAt q (by omega)
        exact this.trans hq
      have hpk := hide (pick_any g B A n c p2 zs mi _ hRd (by omega))
      refine wp_region_held_drew (S := (fun w' => (w'.cell? ⟨x, 0, none⟩ = some (.int .i64 W) ∧ w'.cell? ⟨x, 1, none⟩ = some (.int .i64 T) ∧ w'.cell? ⟨x, 2, none⟩ = some (.slice A2 bs.length c2)) ∧ ∀ q v, xs[q]? = some v → w'.cell? ⟨g3, q, none⟩ = some v)) (by kernel_rfl) ⟨(hDd.cells).1, hrow⟩ ?_
      intro hHeld
      refine wpAnyH_take (i := 0) (v := ?_) rfl (by kernel_rfl) (by kernel_rfl) (by kernel_rfl) (fun _ _ _ h => h) (Or.inl ⟨by kernel_rfl, ?_⟩) hHeld ?_
      rotate_left
      · intro w' hS'
        obtain ⟨⟨x0, x1, x2⟩, x3⟩ := id hS'
        try replace x3 := x3 q _ hqx
        obtain ⟨_, _⟩ := hS'
        go_simp
        try with_reducible rfl
      refine wpAnyH_take (i := 1) (v := ?_) rfl (by kernel_rfl) (by kernel_rfl) (by kernel_rfl) (fun _ _ _ h => h) (Or.inl ⟨by kernel_rfl, ?_⟩) hHeld ?_
      rotate_left
      · intro w' hS'
        clear hS'
        go_simp
        try with_reducible rfl
      refine wpAnyH_take (i := 2) (v := ?_) rfl (by kernel_rfl) (by kernel_rfl) (by kernel_rfl) (fun _ _ _ h => h) (Or.inl ⟨by kernel_rfl, ?_⟩) hHeld ?_
      rotate_left
      · intro w' hS'
        clear hS'
        go_simp
        try with_reducible rfl
      refine wpAnyH_take (i := 3) (v := ?_) rfl (by kernel_rfl) (by kernel_rfl) (by kernel_rfl) (fun _ _ _ h => h) (Or.inl ⟨by kernel_rfl, ?_⟩) hHeld ?_
      rotate_left
      · intro w' hS'
        clear hS'
        go_simp
        try with_reducible rfl
      refine wpAnyH_take (i := 4) (v := ?_) rfl (by kernel_rfl) (by kernel_rfl) (by kernel_rfl) (fun _ _ _ h => h) (Or.inl ⟨by kernel_rfl, ?_⟩) hHeld ?_
      rotate_left
      · intro w' hS'
        clear hS'
        go_simp
        try with_reducible rfl
      refine wpAnyH_take (i := 5) (v := ?_) rfl (by kernel_rfl) (by kernel_rfl) (by kernel_rfl) (fun _ _ _ h => h) (Or.inl ⟨by kernel_rfl, ?_⟩) hHeld ?_
      rotate_left
      · intro w' hS'
        clear hS'
        go_simp
        try with_reducible rfl
      refine wpAnyH_ready (rs := [6]) (by kernel_rfl) (by simp) ?_
      refine AllReadyH.cons rfl (fun K hK => ?_) AllReadyH.nil
      go_simp
      go_at_call 88
      (with_reducible refine (unhide hpk).mono ?_)
      rintro e w5 ⟨z5, rfl, a5, b5, _, h5, g5⟩
      have b5 := b5 (by omega)
      obtain ⟨q, rfl⟩ := Int.eq_ofNat_of_zero_le a5
      have hq : q < m := by omega
      obtain ⟨v, hqx⟩ : ∃ v, xs[q]? = some v := ⟨_, List.getElem?_eq_getElem (by omega)⟩
      obtain ⟨L, hqT⟩ : ∃ L, Ts[q]? = some L := ⟨_, List.getElem?_eq_getElem (by have := HTM.out; omega)⟩
      have hD5 := hDd.step (d2 := 1) ⟨hp3, hp4⟩ hgrd ⟨p2 + 1, by omega, by omega, h5, g5⟩
      have hLn := HTN.out L (List.mem_of_getElem? hqT)
      obtain ⟨gy, cy, cy2, rfl, hoy⟩ := HIN.out q _ L hqx hqT
      have hoy5 := own_step (own_below hoy hd0 (Nat.le_refl _)) g5 hw2g
      have hrow5 : ∀ q v, xs[q]? = some v → w5.cell? ⟨g3, q, none⟩ = some v := fun q v hq => (World.cell?_of_block (w := wc.drew) (a := ⟨g3, q, none⟩) (g5.block g3 (hown.lt g3 rfl).2 (by simp; omega))).trans (hrow q v hq)
      obtain ⟨y0, y1, y2⟩ := (hD5.cells).1
      obtain ⟨_, _, _, f0, f1, f2⟩ := hD5.cells
      refine hK.out _ _ ?_ ?_
      · exact ⟨⟨y0, y1, y2⟩, hrow5⟩
      clear hHeld
      intro hHeld
      clear hK K
      refine wpAnyH_take (i := 7) (v := ?_) rfl (by kernel_rfl) (by kernel_rfl) (by kernel_rfl) (fun _ _ _ h => h) (Or.inl ⟨by kernel_rfl, ?_⟩) hHeld ?_
      rotate_left
      · intro w' hS'
        clear hS'
        go_simp
        try with_reducible rfl
      refine wpAnyH_take (i := 8) (v := ?_) rfl (by kernel_rfl) (by kernel_rfl) (by kernel_rfl) (fun _ _ _ h => h) (Or.inl ⟨by kernel_rfl, ?_⟩) hHeld ?_
      rotate_left
      · intro w' hS'
        obtain ⟨⟨x0, x1, x2⟩, x3⟩ := id hS'
        try replace x3 := x3 q _ hqx
        obtain ⟨_, _⟩ := hS'
        go_simp
        try with_reducible rfl
      refine wpAnyH_ready (rs := [9]) (by kernel_rfl) (by simp) ?_
      refine AllReadyH.cons rfl (fun K hK => ?_) AllReadyH.nil
      go_simp
      refine hK.out _ _ ?_ ?_
      · exact (And.intro (by refine ⟨?_, ?_, ?_⟩ <;> simp [World.cell?_setCell_far, hxres, y0, y1, y2]) (fun q v hq => by simp [World.cell?_setCell_far, hg3r.symm]; exact hrow5 q v hq))
      clear hHeld
      intro hHeld
      clear hK K
      refine wpAnyH_take (i := 10) (v := ?_) rfl (by kernel_rfl) (by kernel_rfl) (by kernel_rfl) (fun _ _ _ h => h) (Or.inl ⟨by kernel_rfl, ?_⟩) hHeld ?_
      rotate_left
      · intro w' hS'
        clear hS'
        go_simp
        try with_reducible rfl
      refine wpAnyH_done (by kernel_rfl) ?_ _
      have hLi : LiAt w5 w.heap.size (.slice (some ⟨gy, 0, none⟩) nn cy2) L := ⟨some ⟨gy, 0, none⟩, _, _, by rw [hLn], by rw [hLn]; exact own_mono hoy5 hw22⟩
      obtain ⟨o1, o3, o2⟩ := (hD5.more (e := 800) (by omega)).outL hLi (.int .i64 W) (.int .i64 T) (.slice A2 bs.length c2)
      have hR6 := set3' (v0 := .int .i64 W) (v1 := .int .i64 T) (v2 := .slice A2 bs.length c2) hD5.res
      obtain ⟨q0, q1, q2⟩ := blk3 hR6
      clear hHeld hD5 hDd hD hR5 hRd hgr hgrd h5 g5 hrow5 hrow hown hoy hoy5 hpk hLi hR6
      go_simp
      go_wp2_with fail
      exact bodyPost_ret (v := .tuple #[.agg #[.int .i64 W, .int .i64 T, .slice A2 bs.length c2], .slice (some ⟨gy, 0, none⟩) nn cy2]) (by simp [results, Try.results93, go_sem, q0, q1, q2]) rfl ⟨W, T, _, _, bs, L, rfl, o1, o3, by omega, o2⟩
    | false =>
      obtain ⟨p2, hp3, hp4, hR5, hgr⟩ := hD.st
      clear HRO HBM HKP
      go_wp2_with fail
      refine (drawLaid_any g B A n c p2 zs 9 (by omega) _ hR5 (by omega)).mono ?_
      rintro e w5 ⟨W5, T5, v5, vl5, bs5, L5, rfl, hreg5, hl5, hn5, hst5⟩
      have hwc : w.heap.size ≤ wc.heap.size := hgr.size
      have hres5 : Blk w5 w.heap.size 25 #[.int .i64 0, .int .i64 0, .slice none 0 0] := by
        obtain ⟨_, _, _, _, h5⟩ := id hst5
        exact hD.res.grown h5 (by simp; omega)
      have hst6 : Stepped w g B A n c p 800 zs w5 := (Stepped.and_ ⟨hp3, hp4⟩ hgr hst5).more (by omega)
      obtain ⟨A5, c5, rfl, _, _⟩ := own_form hreg5.1
      obtain ⟨D5, d5, d5', rfl, _⟩ := id hl5
      have hreg6 := hreg5.mono (b' := w.heap.size) hwc
      have hl6 := hl5.mono (b' := w.heap.size) hwc
      obtain ⟨o1, o2⟩ := out_any hst6 hglt hres5 hreg6 (.int .i64 W5) (.int .i64 T5) (.slice A5 bs5.length c5)
      have o3 := hl6.far3' (u0 := .int .i64 W5) (u1 := .int .i64 T5) (u2 := .slice A5 bs5.length c5) hres5
      obtain ⟨r0, r1, r2⟩ := blk3 hres5
      have f0 := hres5.frozen 0
      have f1 := hres5.frozen 1
      have f2 := hres5.frozen 2
      obtain ⟨q0, q1, q2⟩ := blk3 (set3' (v0 := .int .i64 W5) (v1 := .int .i64 T5) (v2 := .slice A5 bs5.length c5) hres5)
      clear hD hR5 hgr hreg5 hl5 hst5 hst6 hreg6 hl6 hres5
      go_wp2_with fail
      exact bodyPost_ret (v := .tuple #[.agg #[.int .i64 W5, .int .i64 T5, .slice A5 bs5.length c5], .slice D5 L5.length d5]) (by simp [results, Try.results93, go_sem, q0, q1, q2]) rfl ⟨W5, T5, _, _, bs5, L5, rfl, o1, o3, hn5, o2⟩

set_option maxHeartbeats 4000000 in
set_option maxRecDepth 20000 in
theorem drawFrozen_any (A : Option Addr) (n c : Nat) (zs : List Int) (w : World) (hr : Reads w w.heap.size 1 A n (zs.map (Value.int .u8))) (hnc : n ≤ c) (hn : n ≤ 1048576) (hwz : ∀ z ∈ zs, (Lit.int .u8 z).wf = true) :
    Calls Try.prog 34 #[.slice A n c] w (Drawn1 w) := by
  have hb0 : Below w.heap.size w (w.alloc (boxR 0 0 none 0 0)) := (Below.refl _ _).alloc (Nat.le_refl _) _
  have k0 : Blk (w.alloc (boxR 0 0 none 0 0)) w.heap.size 25 #[.int .i64 0, .int .i64 0, .slice none 0 0] := Blk.new _ _ _
  have hOP := hide (open_any A n c zs (w.alloc (boxR 0 0 none 0 0)) ((hr.alloc (Nat.le_refl _) _).more (by simp)) hnc hn hwz)
  go_enter Try.func34, Try.ntmps34
  go_wp2_with fail
  refine (unhide hOP).mono ?_
  rintro e w1 ⟨g, n', zs', rfl, h1, b1⟩
  have hgB := h1.out
  have hb01 : w.heap.size ≤ w1.heap.size := (hb0.trans (b1.mono (by simp))).size
  have hglt := h1.lt
  simp at hgB
  have k1 := k0.below b1 k0.lt
  have hB1 := hb0.trans (b1.mono (by simp))
  clear hOP k0 hb0 b1
  go_wp2_with fail
  refine (drawTilingL_any g _ A n' c 0 zs' _ h1 (by omega)).mono ?_
  rintro e w2 ⟨W, T, v, vl, bs, L, rfl, hreg, hli, hL, p2, hp1, hp2, h2, g2⟩
  obtain ⟨A2, c2, rfl, _, _⟩ := own_form hreg.1
  obtain ⟨D, d, d', rfl, hlo⟩ := id hli
  have k2 := k1.grown g2 (by simp; omega)
  have hB2 := hB1.grown g2 hB1.size (fun k hk => by injection hk with hk; omega)
  obtain ⟨r0, r1, r2⟩ := blk3 k2
  have f0 := k2.frozen 0
  have f1 := k2.frozen 1
  have f2 := k2.frozen 2
  have o1 := ((hreg.mono hb01).far3' (u0 := .int .i64 W) (u1 := .int .i64 T) (u2 := .slice A2 bs.length c2) k2)
  have o2 := ((hli.mono hb01).far3' (u0 := .int .i64 W) (u1 := .int .i64 T) (u2 := .slice A2 bs.length c2) k2)
  have o4 := below3' (v0 := .int .i64 W) (v1 := .int .i64 T) (v2 := .slice A2 bs.length c2) hB2 (Nat.le_refl _)
  obtain ⟨q0, q1, q2⟩ := blk3 (set3' (v0 := .int .i64 W) (v1 := .int .i64 T) (v2 := .slice A2 bs.length c2) k2)
  clear h1 k1 hB1 hreg h2 g2 hB2 hli hlo
  go_wp2_with fail
  exact bodyPost_ret (v := .tuple #[.agg #[.int .i64 W, .int .i64 T, .slice A2 bs.length c2], .slice D L.length d]) (by simp [results, Try.results34, go_sem, q0, q1, q2]) rfl ⟨W, T, A2, c2, D, d, bs, L, rfl, o1, o2, by omega, o4⟩

end Go.Proofs.Ythepfpiphlfgnaa
