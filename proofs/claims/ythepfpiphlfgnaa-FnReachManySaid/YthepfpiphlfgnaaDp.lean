/-
  YthepfpiphlfgnaaDp: the texts Dh, Di in one file.
-/
import Derived.Test.YthepfpiphlfgnaaD9

/-
  YthepfpiphlfgnaaDh: drawing: a small region.
-/
namespace Go.Proofs.Ythepfpiphlfgnaa
open Go.RowKit
attribute [local go_sem ↓] Go.wp_at_zero Go.wp_at_succ

theorem tab4h (x : Int) (h0 : 0 ≤ x) (h1 : x < 4) : ∃ q y : Nat, x = (q : Nat) ∧ q < 4 ∧ (1 ≤ y ∧ y ≤ 6) ∧ (#[.int .i64 2, .int .i64 4, .int .i64 4, .int .i64 5] : Array Value)[q]? = some (.int .i64 (y : Nat)) := by
  rcases (show x = 0 ∨ x = 1 ∨ x = 2 ∨ x = 3 by omega) with rfl | rfl | rfl | rfl
  · exact ⟨0, 2, rfl, by omega, by omega, rfl⟩
  · exact ⟨1, 4, rfl, by omega, by omega, rfl⟩
  · exact ⟨2, 4, rfl, by omega, by omega, rfl⟩
  · exact ⟨3, 5, rfl, by omega, by omega, rfl⟩
theorem tab2h (x : Int) (h0 : 0 ≤ x) (h1 : x < 2) : ∃ q y : Nat, x = (q : Nat) ∧ q < 2 ∧ (1 ≤ y ∧ y ≤ 6) ∧ (#[.int .i64 2, .int .i64 3] : Array Value)[q]? = some (.int .i64 (y : Nat)) := by
  rcases (show x = 0 ∨ x = 1 by omega) with rfl | rfl
  · exact ⟨0, 2, rfl, by omega, by omega, rfl⟩
  · exact ⟨1, 3, rfl, by omega, by omega, rfl⟩
theorem cmS_ok (R : Reg) (hR : R.ok) (A : Option Addr) (c B : Nat) (w : World) (hr : Reads w B 1 A R.C.length (R.C.map Value.bool)) (hB : B ≤ w.heap.size) :
    Calls Try.prog 105 #[.agg #[.int .i64 R.W, .int .i64 R.T, .slice A R.C.length c]] w fun e w' => e = .returned (.int .i64 (cnt R.C)) ∧ Below w.heap.size w w' := by
  have hl36 := (len_bd hR).2
  have hb0 : Below w.heap.size w (w.alloc (boxR R.W R.T A R.C.length c)) := (Below.refl _ _).alloc (Nat.le_refl _) _
  have k0 : Blk (w.alloc (boxR R.W R.T A R.C.length c)) w.heap.size 25 #[.int .i64 R.W, .int .i64 R.T, .slice A R.C.length c] := Blk.new _ _ _
  have HV := hide (validS_any R.W R.T A R.C.length c B R.C _ (hr.below (hb0.mono hB)) (Nat.le_trans hB hb0.size) (by omega))
  rw [valid_of_ok hR] at HV
  have HM := fun w' (h : Below w.heap.size w w') => hide (countS_any A R.C.length c B R.C w' (hr.below (h.mono hB)) (by omega))
  generalize cnt R.C = cb at *
  clear hr
  go_enter Try.func105, Try.ntmps105
  go_wp2_with fail
  refine (unhide HV).mono ?_
  rintro e w1 ⟨rfl, hb1⟩
  have hB1 := hb0.trans (hb1.mono hb0.size)
  obtain ⟨b0, b1, b2⟩ := blk3 (k0.below hb1 k0.lt)
  have hM1 := HM _ hB1
  clear hb1 hb0 k0 HM HV
  go_wp2_with fail
  refine (unhide hM1).mono ?_
  rintro e w2 ⟨rfl, rfl⟩
  go_wp2_with fail
  go_ret
  exact ⟨rfl, hB1⟩
def SomeI (w : World) (e : Ending) (w' : World) : Prop := ∃ k : Int, e = .returned (.int .i64 k) ∧ Below w.heap.size w w'
theorem cmS_any (W T : Int) (A : Option Addr) (n c B : Nat) (bs : List Bool) (w : World) (hbl : bs.length = n) (hr : Reads w B 1 A n (bs.map Value.bool)) (hB : B ≤ w.heap.size) (hn : n ≤ 9223372036854775807) :
    Calls Try.prog 105 #[.agg #[.int .i64 W, .int .i64 T, .slice A n c]] w (SomeI w) := by
  cases hv : validB W T bs with
  | true =>
    obtain ⟨R, hR, rfl, rfl, rfl⟩ := reg_of_valid hv
    subst hbl
    refine (cmS_ok R hR A c B w hr hB).mono ?_
    rintro e w' ⟨rfl, h⟩
    exact ⟨_, rfl, h⟩
  | false =>
    have HV := hide (validS_any W T A n c B bs (w.alloc (boxR W T A n c)) (hr.alloc hB _) (by simp; omega) hn)
    rw [hv] at HV
    clear hv
    go_enter Try.func105, Try.ntmps105
    go_wp2_with fail
    refine (unhide HV).mono ?_
    rintro e w1 ⟨rfl, hb1⟩
    obtain ⟨hB1, hk1, b0, b1, b2⟩ := box_keep hb1
    go_wp2_with fail
    go_ret
    exact ⟨_, rfl, hB1⟩

set_option maxHeartbeats 16000000 in
set_option maxRecDepth 100000 in
theorem drawSmall_any (g B : Nat) (A : Option Addr) (n c p : Nat) (zs : List Int) (m : Int) (w : World) (h : Rd w g B A n c p zs) (hp : p ≤ 100000000) :
    Calls Try.prog 97 #[.pointer (some ⟨g, 0, none⟩), .int .i64 m] w (DrawnR w g B A n c p 180 zs) := by
  have hglt := h.lt
  go_enter Try.func97, Try.ntmps97
  go_wp2_with fail
  refine (drawSome_any g B A n c p zs m _ (h.alloc _) (by omega)).mono ?_
  intro e w1 hd
  have hres := hd.blk (Blk.new w 25 #[.int .i64 0, .int .i64 0, .slice none 0 0]) (by omega)
  obtain ⟨W, T, A2, c2, bs, rfl, hreg, hst⟩ := hd.form (w0 := w) (p := p) (d := 170) (only_alloc (World.grownBy.refl w _) _) (by omega)
  have hD0 : DR w (w1.alloc (.cells #[.int .i64 W, .int .i64 T, .slice A2 bs.length c2] 25)) g B A n c p 170 zs w1.heap.size W T (.slice A2 bs.length c2) bs :=
    ⟨hst.calm ((Below.refl _ _).alloc (Nat.le_refl _) _), hglt, hres.alloc _, Blk.new _ _ _, hreg.below ((Below.refl _ _).alloc (Nat.le_refl _) _), hres.lt⟩
  clear hd hres hreg hst h
  go_upto_region 2 with fail
  generalize w1.alloc (.cells #[.int .i64 W, .int .i64 T, .slice A2 bs.length c2] 25) = w2 at *
  generalize w1.heap.size = x at *
  have hbs := hD0.own.2
  go_cut [16] (fun s16 wx => ∃ b : Bool, s16 = .bool b ∧ DR w wx g B A n c p 171 zs x W T (.slice A2 bs.length c2) bs)
  case first =>
    have hCM := cmS_any W T A2 bs.length c2 w2.heap.size bs w2 rfl (Reads.of_own hD0.own.1) (Nat.le_refl _) (by omega)
    obtain ⟨⟨a0, a1, a2⟩, _, _, _⟩ := hD0.cells
    go_wp2_with fail
    refine hCM.mono ?_
    rintro e w3 ⟨k, rfl, hb3⟩
    have hD3 := hD0.calm hb3
    clear hD0 hb3 hCM a0 a1 a2
    by_cases hk : 16 < k
    · obtain ⟨p3, hp3, hp4, hR, hgr⟩ := hD3.st
      go_wp2_with fail
      refine (pick_any g B A n c p3 zs 12 _ hR (by omega)).mono ?_
      rintro e w4 ⟨y, rfl, _, _, _, h4, g4⟩
      have hD4 := hD3.step (d2 := 1) ⟨hp3, hp4⟩ hgr ⟨p3 + 1, by omega, by omega, h4, g4⟩
      clear hD3 hR hgr h4 g4
      go_wp2_with fail
      go_meet
      exact ⟨_, rfl, hD4⟩
    · go_wp2_with fail
      go_meet
      exact ⟨false, rfl, hD3.more (by omega)⟩
  case rest =>
    clear hD0
    obtain ⟨b, rfl, hD⟩ := hcut
    cases b with
    | false =>
      obtain ⟨⟨a0, a1, a2⟩, _, ⟨r0, r1, r2⟩, q0, q1, q2⟩ := hD.cells
      obtain ⟨o1, o2⟩ := out_any (hD.st.more (e := 180) (by omega)) hglt hD.res hD.own (.int .i64 W) (.int .i64 T) (.slice A2 bs.length c2)
      clear hD
      go_wp2_with fail
      exact bodyPost_ret (v := .agg #[.int .i64 W, .int .i64 T, .slice A2 bs.length c2]) (by simp [results, Try.results97, go_sem, r0, r1, r2]) rfl ⟨W, T, _, bs, rfl, o1, o2⟩
    | true =>
      obtain ⟨p3, hp3, hp4, hR, hgr⟩ := hD.st
      have hres := hD.res
      have hgw := hR.lt
      have hpp : p3 ≤ 1000000000000 := by omega
      have hpp2 : p3 + 1 ≤ 1000000000000 := by omega
      clear hD
      go_upto_region 3 with fail
      go_region_law
        (first
          | ((rw [if_pos (by rfl)]); go_simp; (with_reducible refine (pick_any g B A n c (p3) zs 4 _ (by first | exact hR.drewR | exact (hR.alloc _).drewR | exact ((hR.alloc _).alloc _).drewR) hpp).mono ?_); rintro e w5 ⟨x5, rfl, a5, b5, _, h5, g5⟩; have b5 := b5 (by omega); obtain ⟨q5, y5, rfl, hq5, hy5, hv5⟩ := tab4h x5 a5 b5; have l5 := h5.lt; have G5 : w.grownBy w5 (some g) := (by first | exact (only_drew hgr).trans g5 | exact (only_drew (only_alloc hgr _)).trans g5 | exact (only_drew (only_alloc (only_alloc hgr _) _)).trans g5); have hres5 : Blk w5 w.heap.size 25 #[.int .i64 0, .int .i64 0, .slice none 0 0] := (by first | exact hres.drew.grown g5 (by simp; omega) | exact (hres.alloc _).drew.grown g5 (by simp; omega) | exact ((hres.alloc _).alloc _).drew.grown g5 (by simp; omega)); clear a5 b5; (try (refine with_ (P := w5.cell? ⟨wc.heap.size, q5, none⟩ = some (.int .i64 (y5 : Nat))) ?_ (fun hx => ?_); focus (refine (blk_at (t := 3) (cs := #[.int .i64 2, .int .i64 4, .int .i64 4, .int .i64 5]) ?_).trans hv5; (repeat' (first | exact Blk.new _ _ _ | exact Blk.new1 _ _ _ _ | refine Blk.alloc ?_ _ | refine Blk.grown (Blk.drew ?_) g5 (some_ne ?_) | omega)); done))); (try (refine with_ (P := (w5.alloc (.cells #[.int .i64 2, .int .i64 3] 3)).cell? ⟨wc.heap.size, q5, none⟩ = some (.int .i64 (y5 : Nat))) ?_ (fun hx => ?_); focus (refine (blk_at (t := 3) (cs := #[.int .i64 2, .int .i64 4, .int .i64 4, .int .i64 5]) ?_).trans hv5; (repeat' (first | exact Blk.new _ _ _ | exact Blk.new1 _ _ _ _ | refine Blk.alloc ?_ _ | refine Blk.grown (Blk.drew ?_) g5 (some_ne ?_) | omega)); done))); (try (refine with_ (P := w5.cell? ⟨wc.heap.size + 1, q5, none⟩ = some (.int .i64 (y5 : Nat))) ?_ (fun hx => ?_); focus (refine (blk_at (t := 3) (cs := #[.int .i64 2, .int .i64 4, .int .i64 4, .int .i64 5]) ?_).trans hv5; (repeat' (first | exact Blk.new _ _ _ | exact Blk.new1 _ _ _ _ | refine Blk.alloc ?_ _ | refine Blk.grown (Blk.drew ?_) g5 (some_ne ?_) | omega)); done))); (try (refine with_ (P := (w5.alloc (.cells #[.int .i64 2, .int .i64 3] 3)).cell? ⟨wc.heap.size + 1, q5, none⟩ = some (.int .i64 (y5 : Nat))) ?_ (fun hx => ?_); focus (refine (blk_at (t := 3) (cs := #[.int .i64 2, .int .i64 4, .int .i64 4, .int .i64 5]) ?_).trans hv5; (repeat' (first | exact Blk.new _ _ _ | exact Blk.new1 _ _ _ _ | refine Blk.alloc ?_ _ | refine Blk.grown (Blk.drew ?_) g5 (some_ne ?_) | omega)); done))); (try (refine with_ (P := (w5.alloc (.cells #[.int .i64 2, .int .i64 4, .int .i64 4, .int .i64 5] 3)).cell? ⟨w5.heap.size, q5, none⟩ = some (.int .i64 (y5 : Nat))) ?_ (fun hx => ?_); focus (refine (blk_at (t := 3) (cs := #[.int .i64 2, .int .i64 4, .int .i64 4, .int .i64 5]) ?_).trans hv5; (repeat' (first | exact Blk.new _ _ _ | exact Blk.new1 _ _ _ _ | refine Blk.alloc ?_ _)); done))); (try (refine with_ (P := ((w5.alloc (.cells #[.int .i64 2, .int .i64 4, .int .i64 4, .int .i64 5] 3)).alloc (.cells #[.int .i64 2, .int .i64 3] 3)).cell? ⟨w5.heap.size, q5, none⟩ = some (.int .i64 (y5 : Nat))) ?_ (fun hx => ?_); focus (refine (blk_at (t := 3) (cs := #[.int .i64 2, .int .i64 4, .int .i64 4, .int .i64 5]) ?_).trans hv5; (repeat' (first | exact Blk.new _ _ _ | exact Blk.new1 _ _ _ _ | refine Blk.alloc ?_ _)); done))); (try (refine with_ (P := ((w5.alloc (.cells #[.int .i64 2, .int .i64 3] 3)).alloc (.cells #[.int .i64 2, .int .i64 4, .int .i64 4, .int .i64 5] 3)).cell? ⟨w5.heap.size + 1, q5, none⟩ = some (.int .i64 (y5 : Nat))) ?_ (fun hx => ?_); focus (refine (blk_at (t := 3) (cs := #[.int .i64 2, .int .i64 4, .int .i64 4, .int .i64 5]) ?_).trans hv5; (repeat' (first | exact Blk.new _ _ _ | exact Blk.new1 _ _ _ _ | refine Blk.alloc ?_ _)); done))); go_simp)
          | ((rw [if_pos (by rfl)]); go_simp; (with_reducible refine (pick_any g B A n c (p3 + 1) zs 2 _ (by first | exact h5 | exact (h5.alloc _) | exact ((h5.alloc _).alloc _)) hpp2).mono ?_); rintro e w6 ⟨x6, rfl, a6, b6, _, h6, g6⟩; (repeat clear hx); have b6 := b6 (by omega); obtain ⟨q6, y6, rfl, hq6, hy6, hv6⟩ := tab2h x6 a6 b6; have l6 := h6.lt; have G6 : w.grownBy w6 (some g) := (by first | exact G5.trans g6 | exact (only_alloc G5 _).trans g6 | exact (only_alloc (only_alloc G5 _) _).trans g6); have hres6 : Blk w6 w.heap.size 25 #[.int .i64 0, .int .i64 0, .slice none 0 0] := (by first | exact hres5.grown g6 (by simp; omega) | exact (hres5.alloc _).grown g6 (by simp; omega) | exact ((hres5.alloc _).alloc _).grown g6 (by simp; omega)); clear a6 b6; (try (refine with_ (P := w6.cell? ⟨wc.heap.size, q5, none⟩ = some (.int .i64 (y5 : Nat))) ?_ (fun hx => ?_); focus (refine (blk_at (t := 3) (cs := #[.int .i64 2, .int .i64 4, .int .i64 4, .int .i64 5]) ?_).trans hv5; (repeat' (first | exact Blk.new _ _ _ | exact Blk.new1 _ _ _ _ | refine Blk.alloc ?_ _ | refine Blk.grown ?_ g6 (some_ne ?_) | omega | refine Blk.grown (Blk.drew ?_) g5 (some_ne ?_) | omega)); done))); (try (refine with_ (P := (w6.alloc (.cells #[.int .i64 2, .int .i64 3] 3)).cell? ⟨wc.heap.size, q5, none⟩ = some (.int .i64 (y5 : Nat))) ?_ (fun hx => ?_); focus (refine (blk_at (t := 3) (cs := #[.int .i64 2, .int .i64 4, .int .i64 4, .int .i64 5]) ?_).trans hv5; (repeat' (first | exact Blk.new _ _ _ | exact Blk.new1 _ _ _ _ | refine Blk.alloc ?_ _ | refine Blk.grown ?_ g6 (some_ne ?_) | omega | refine Blk.grown (Blk.drew ?_) g5 (some_ne ?_) | omega)); done))); (try (refine with_ (P := w6.cell? ⟨wc.heap.size + 1, q5, none⟩ = some (.int .i64 (y5 : Nat))) ?_ (fun hx => ?_); focus (refine (blk_at (t := 3) (cs := #[.int .i64 2, .int .i64 4, .int .i64 4, .int .i64 5]) ?_).trans hv5; (repeat' (first | exact Blk.new _ _ _ | exact Blk.new1 _ _ _ _ | refine Blk.alloc ?_ _ | refine Blk.grown ?_ g6 (some_ne ?_) | omega | refine Blk.grown (Blk.drew ?_) g5 (some_ne ?_) | omega)); done))); (try (refine with_ (P := (w6.alloc (.cells #[.int .i64 2, .int .i64 3] 3)).cell? ⟨wc.heap.size + 1, q5, none⟩ = some (.int .i64 (y5 : Nat))) ?_ (fun hx => ?_); focus (refine (blk_at (t := 3) (cs := #[.int .i64 2, .int .i64 4, .int .i64 4, .int .i64 5]) ?_).trans hv5; (repeat' (first | exact Blk.new _ _ _ | exact Blk.new1 _ _ _ _ | refine Blk.alloc ?_ _ | refine Blk.grown ?_ g6 (some_ne ?_) | omega | refine Blk.grown (Blk.drew ?_) g5 (some_ne ?_) | omega)); done))); (try (refine with_ (P := w6.cell? ⟨w5.heap.size, q5, none⟩ = some (.int .i64 (y5 : Nat))) ?_ (fun hx => ?_); focus (refine (blk_at (t := 3) (cs := #[.int .i64 2, .int .i64 4, .int .i64 4, .int .i64 5]) ?_).trans hv5; (repeat' (first | exact Blk.new _ _ _ | exact Blk.new1 _ _ _ _ | refine Blk.alloc ?_ _ | refine Blk.grown ?_ g6 (some_ne ?_) | omega | refine Blk.grown (Blk.drew ?_) g5 (some_ne ?_) | omega)); done))); (try (refine with_ (P := (w6.alloc (.cells #[.int .i64 2, .int .i64 3] 3)).cell? ⟨w5.heap.size, q5, none⟩ = some (.int .i64 (y5 : Nat))) ?_ (fun hx => ?_); focus (refine (blk_at (t := 3) (cs := #[.int .i64 2, .int .i64 4, .int .i64 4, .int .i64 5]) ?_).trans hv5; (repeat' (first | exact Blk.new _ _ _ | exact Blk.new1 _ _ _ _ | refine Blk.alloc ?_ _ | refine Blk.grown ?_ g6 (some_ne ?_) | omega | refine Blk.grown (Blk.drew ?_) g5 (some_ne ?_) | omega)); done))); (try (refine with_ (P := w6.cell? ⟨w5.heap.size + 1, q5, none⟩ = some (.int .i64 (y5 : Nat))) ?_ (fun hx => ?_); focus (refine (blk_at (t := 3) (cs := #[.int .i64 2, .int .i64 4, .int .i64 4, .int .i64 5]) ?_).trans hv5; (repeat' (first | exact Blk.new _ _ _ | exact Blk.new1 _ _ _ _ | refine Blk.alloc ?_ _ | refine Blk.grown ?_ g6 (some_ne ?_) | omega | refine Blk.grown (Blk.drew ?_) g5 (some_ne ?_) | omega)); done))); (try (refine with_ (P := (w6.alloc (.cells #[.int .i64 2, .int .i64 3] 3)).cell? ⟨w5.heap.size + 1, q5, none⟩ = some (.int .i64 (y5 : Nat))) ?_ (fun hx => ?_); focus (refine (blk_at (t := 3) (cs := #[.int .i64 2, .int .i64 4, .int .i64 4, .int .i64 5]) ?_).trans hv5; (repeat' (first | exact Blk.new _ _ _ | exact Blk.new1 _ _ _ _ | refine Blk.alloc ?_ _ | refine Blk.grown ?_ g6 (some_ne ?_) | omega | refine Blk.grown (Blk.drew ?_) g5 (some_ne ?_) | omega)); done))); (try (refine with_ (P := (w6.alloc (.cells #[.int .i64 2, .int .i64 4, .int .i64 4, .int .i64 5] 3)).cell? ⟨w6.heap.size, q5, none⟩ = some (.int .i64 (y5 : Nat))) ?_ (fun hx => ?_); focus (refine (blk_at (t := 3) (cs := #[.int .i64 2, .int .i64 4, .int .i64 4, .int .i64 5]) ?_).trans hv5; (repeat' (first | exact Blk.new _ _ _ | exact Blk.new1 _ _ _ _ | refine Blk.alloc ?_ _)); done))); (try (refine with_ (P := ((w6.alloc (.cells #[.int .i64 2, .int .i64 4, .int .i64 4, .int .i64 5] 3)).alloc (.cells #[.int .i64 2, .int .i64 3] 3)).cell? ⟨w6.heap.size, q5, none⟩ = some (.int .i64 (y5 : Nat))) ?_ (fun hx => ?_); focus (refine (blk_at (t := 3) (cs := #[.int .i64 2, .int .i64 4, .int .i64 4, .int .i64 5]) ?_).trans hv5; (repeat' (first | exact Blk.new _ _ _ | exact Blk.new1 _ _ _ _ | refine Blk.alloc ?_ _)); done))); (try (refine with_ (P := ((w6.alloc (.cells #[.int .i64 2, .int .i64 3] 3)).alloc (.cells #[.int .i64 2, .int .i64 4, .int .i64 4, .int .i64 5] 3)).cell? ⟨w6.heap.size + 1, q5, none⟩ = some (.int .i64 (y5 : Nat))) ?_ (fun hx => ?_); focus (refine (blk_at (t := 3) (cs := #[.int .i64 2, .int .i64 4, .int .i64 4, .int .i64 5]) ?_).trans hv5; (repeat' (first | exact Blk.new _ _ _ | exact Blk.new1 _ _ _ _ | refine Blk.alloc ?_ _)); done))); (try (refine with_ (P := w6.cell? ⟨wc.heap.size, q6, none⟩ = some (.int .i64 (y6 : Nat))) ?_ (fun hx => ?_); focus (refine (blk_at (t := 3) (cs := #[.int .i64 2, .int .i64 3]) ?_).trans hv6; (repeat' (first | exact Blk.new _ _ _ | exact Blk.new1 _ _ _ _ | refine Blk.alloc ?_ _ | refine Blk.grown ?_ g6 (some_ne ?_) | omega | refine Blk.grown (Blk.drew ?_) g5 (some_ne ?_) | omega)); done))); (try (refine with_ (P := (w6.alloc (.cells #[.int .i64 2, .int .i64 4, .int .i64 4, .int .i64 5] 3)).cell? ⟨wc.heap.size, q6, none⟩ = some (.int .i64 (y6 : Nat))) ?_ (fun hx => ?_); focus (refine (blk_at (t := 3) (cs := #[.int .i64 2, .int .i64 3]) ?_).trans hv6; (repeat' (first | exact Blk.new _ _ _ | exact Blk.new1 _ _ _ _ | refine Blk.alloc ?_ _ | refine Blk.grown ?_ g6 (some_ne ?_) | omega | refine Blk.grown (Blk.drew ?_) g5 (some_ne ?_) | omega)); done))); (try (refine with_ (P := w6.cell? ⟨wc.heap.size + 1, q6, none⟩ = some (.int .i64 (y6 : Nat))) ?_ (fun hx => ?_); focus (refine (blk_at (t := 3) (cs := #[.int .i64 2, .int .i64 3]) ?_).trans hv6; (repeat' (first | exact Blk.new _ _ _ | exact Blk.new1 _ _ _ _ | refine Blk.alloc ?_ _ | refine Blk.grown ?_ g6 (some_ne ?_) | omega | refine Blk.grown (Blk.drew ?_) g5 (some_ne ?_) | omega)); done))); (try (refine with_ (P := (w6.alloc (.cells #[.int .i64 2, .int .i64 4, .int .i64 4, .int .i64 5] 3)).cell? ⟨wc.heap.size + 1, q6, none⟩ = some (.int .i64 (y6 : Nat))) ?_ (fun hx => ?_); focus (refine (blk_at (t := 3) (cs := #[.int .i64 2, .int .i64 3]) ?_).trans hv6; (repeat' (first | exact Blk.new _ _ _ | exact Blk.new1 _ _ _ _ | refine Blk.alloc ?_ _ | refine Blk.grown ?_ g6 (some_ne ?_) | omega | refine Blk.grown (Blk.drew ?_) g5 (some_ne ?_) | omega)); done))); (try (refine with_ (P := w6.cell? ⟨w5.heap.size, q6, none⟩ = some (.int .i64 (y6 : Nat))) ?_ (fun hx => ?_); focus (refine (blk_at (t := 3) (cs := #[.int .i64 2, .int .i64 3]) ?_).trans hv6; (repeat' (first | exact Blk.new _ _ _ | exact Blk.new1 _ _ _ _ | refine Blk.alloc ?_ _ | refine Blk.grown ?_ g6 (some_ne ?_) | omega | refine Blk.grown (Blk.drew ?_) g5 (some_ne ?_) | omega)); done))); (try (refine with_ (P := (w6.alloc (.cells #[.int .i64 2, .int .i64 4, .int .i64 4, .int .i64 5] 3)).cell? ⟨w5.heap.size, q6, none⟩ = some (.int .i64 (y6 : Nat))) ?_ (fun hx => ?_); focus (refine (blk_at (t := 3) (cs := #[.int .i64 2, .int .i64 3]) ?_).trans hv6; (repeat' (first | exact Blk.new _ _ _ | exact Blk.new1 _ _ _ _ | refine Blk.alloc ?_ _ | refine Blk.grown ?_ g6 (some_ne ?_) | omega | refine Blk.grown (Blk.drew ?_) g5 (some_ne ?_) | omega)); done))); (try (refine with_ (P := w6.cell? ⟨w5.heap.size + 1, q6, none⟩ = some (.int .i64 (y6 : Nat))) ?_ (fun hx => ?_); focus (refine (blk_at (t := 3) (cs := #[.int .i64 2, .int .i64 3]) ?_).trans hv6; (repeat' (first | exact Blk.new _ _ _ | exact Blk.new1 _ _ _ _ | refine Blk.alloc ?_ _ | refine Blk.grown ?_ g6 (some_ne ?_) | omega | refine Blk.grown (Blk.drew ?_) g5 (some_ne ?_) | omega)); done))); (try (refine with_ (P := (w6.alloc (.cells #[.int .i64 2, .int .i64 4, .int .i64 4, .int .i64 5] 3)).cell? ⟨w5.heap.size + 1, q6, none⟩ = some (.int .i64 (y6 : Nat))) ?_ (fun hx => ?_); focus (refine (blk_at (t := 3) (cs := #[.int .i64 2, .int .i64 3]) ?_).trans hv6; (repeat' (first | exact Blk.new _ _ _ | exact Blk.new1 _ _ _ _ | refine Blk.alloc ?_ _ | refine Blk.grown ?_ g6 (some_ne ?_) | omega | refine Blk.grown (Blk.drew ?_) g5 (some_ne ?_) | omega)); done))); (try (refine with_ (P := (w6.alloc (.cells #[.int .i64 2, .int .i64 3] 3)).cell? ⟨w6.heap.size, q6, none⟩ = some (.int .i64 (y6 : Nat))) ?_ (fun hx => ?_); focus (refine (blk_at (t := 3) (cs := #[.int .i64 2, .int .i64 3]) ?_).trans hv6; (repeat' (first | exact Blk.new _ _ _ | exact Blk.new1 _ _ _ _ | refine Blk.alloc ?_ _)); done))); (try (refine with_ (P := ((w6.alloc (.cells #[.int .i64 2, .int .i64 3] 3)).alloc (.cells #[.int .i64 2, .int .i64 4, .int .i64 4, .int .i64 5] 3)).cell? ⟨w6.heap.size, q6, none⟩ = some (.int .i64 (y6 : Nat))) ?_ (fun hx => ?_); focus (refine (blk_at (t := 3) (cs := #[.int .i64 2, .int .i64 3]) ?_).trans hv6; (repeat' (first | exact Blk.new _ _ _ | exact Blk.new1 _ _ _ _ | refine Blk.alloc ?_ _)); done))); (try (refine with_ (P := ((w6.alloc (.cells #[.int .i64 2, .int .i64 4, .int .i64 4, .int .i64 5] 3)).alloc (.cells #[.int .i64 2, .int .i64 3] 3)).cell? ⟨w6.heap.size + 1, q6, none⟩ = some (.int .i64 (y6 : Nat))) ?_ (fun hx => ?_); focus (refine (blk_at (t := 3) (cs := #[.int .i64 2, .int .i64 3]) ?_).trans hv6; (repeat' (first | exact Blk.new _ _ _ | exact Blk.new1 _ _ _ _ | refine Blk.alloc ?_ _)); done))); go_simp)
          | ((rw [if_pos (by rfl)]); go_simp; (with_reducible refine (boxS_any g B A n c (p3 + 1 + 1) zs y5 y6 hy5 hy6 _ (by first | exact h6 | exact (h6.alloc _) | exact ((h6.alloc _).alloc _))).mono ?_); intro e w7 hd; (repeat clear hx); have hres7 := hd.blk (k := w.heap.size) (t := 25) (cs := #[.int .i64 0, .int .i64 0, .slice none 0 0]) (by first | exact hres6 | exact (hres6.alloc _) | exact ((hres6.alloc _).alloc _)) (by omega); obtain ⟨r0, r1, r2⟩ := blk3 hres7; have f0 := hres7.frozen 0; have f1 := hres7.frozen 1; have f2 := hres7.frozen 2; obtain ⟨W7, T7, A7, c7, b7, rfl, hreg7, hst7⟩ := hd.form (w0 := w) (p := p) (d := 180) (by first | exact G6 | exact (only_alloc G6 _) | exact (only_alloc (only_alloc G6 _) _)) (by omega); go_simp))
      all_goals
        obtain ⟨o1, o2⟩ := out_any hst7 hglt hres7 hreg7 (.int .i64 W7) (.int .i64 T7) (.slice A7 b7.length c7)
        go_wp2_with fail
        exact bodyPost_ret (v := .agg #[.int .i64 W7, .int .i64 T7, .slice A7 b7.length c7]) (by simp [results, Try.results97, go_sem, r0, r1, r2]) rfl ⟨W7, T7, _, b7, rfl, o1, o2⟩

end Go.Proofs.Ythepfpiphlfgnaa

/-
  YthepfpiphlfgnaaDi: drawing: a simple region with few tilings.
-/
namespace Go.Proofs.Ythepfpiphlfgnaa
open Go.RowKit
attribute [local go_sem ↓] Go.wp_at_zero Go.wp_at_succ

theorem tab4i (x : Int) (h0 : 0 ≤ x) (h1 : x < 4) : ∃ q y : Nat, x = (q : Nat) ∧ q < 4 ∧ (1 ≤ y ∧ y ≤ 6) ∧ (#[.int .i64 2, .int .i64 3, .int .i64 4, .int .i64 5] : Array Value)[q]? = some (.int .i64 (y : Nat)) := by
  rcases (show x = 0 ∨ x = 1 ∨ x = 2 ∨ x = 3 by omega) with rfl | rfl | rfl | rfl
  · exact ⟨0, 2, rfl, by omega, by omega, rfl⟩
  · exact ⟨1, 3, rfl, by omega, by omega, rfl⟩
  · exact ⟨2, 4, rfl, by omega, by omega, rfl⟩
  · exact ⟨3, 5, rfl, by omega, by omega, rfl⟩

set_option maxHeartbeats 16000000 in
set_option maxRecDepth 100000 in
theorem drawPlain_any (g B : Nat) (A : Option Addr) (n c p : Nat) (zs : List Int) (m : Int) (w : World) (h : Rd w g B A n c p zs) (hp : p ≤ 10000000) :
    Calls Try.prog 87 #[.pointer (some ⟨g, 0, none⟩), .int .i64 m] w (DrawnR w g B A n c p 300 zs) := by
  have hglt := h.lt
  go_enter Try.func87, Try.ntmps87
  go_wp2_with fail
  refine (drawSmall_any g B A n c p zs 0 _ (h.alloc _) (by omega)).mono ?_
  intro e w1 hd
  have hres := hd.blk (Blk.new w 25 #[.int .i64 0, .int .i64 0, .slice none 0 0]) (by omega)
  obtain ⟨W, T, A2, c2, bs, rfl, hreg, hst⟩ := hd.form (w0 := w) (p := p) (d := 180) (only_alloc (World.grownBy.refl w _) _) (by omega)
  have hD0 : DR w (w1.alloc (.cells #[.int .i64 W, .int .i64 T, .slice A2 bs.length c2] 25)) g B A n c p 180 zs w1.heap.size W T (.slice A2 bs.length c2) bs :=
    ⟨hst.calm ((Below.refl _ _).alloc (Nat.le_refl _) _), hglt, hres.alloc _, Blk.new _ _ _, hreg.below ((Below.refl _ _).alloc (Nat.le_refl _) _), hres.lt⟩
  clear hd hres hreg hst h
  go_upto_region 2 with fail
  generalize w1.alloc (.cells #[.int .i64 W, .int .i64 T, .slice A2 bs.length c2] 25) = w2 at *
  generalize w1.heap.size = x at *
  have hbs := hD0.own.2
  go_cut [15] (fun s15 wx => ∃ b : Bool, s15 = .bool b ∧ DR w wx g B A n c p 180 zs x W T (.slice A2 bs.length c2) bs)
  case first =>
    have hSI := SimpleS_any W T A2 bs.length c2 w2.heap.size bs w2 (Reads.of_own hD0.own.1) (Nat.le_refl _) (by have := hD0.own.2; omega)
    obtain ⟨⟨a0, a1, a2⟩, _, _, _⟩ := hD0.cells
    obtain ⟨sb, hsb⟩ : ∃ sb, simpleB W T bs = sb := ⟨_, rfl⟩
    rw [hsb] at hSI
    clear hsb
    go_wp2_with fail
    refine hSI.mono ?_
    rintro e w3 ⟨rfl, hb3⟩
    have hD3 := hD0.calm hb3
    clear hD0 hb3 hSI a0 a1 a2
    cases sb with
    | false =>
      go_wp2_with fail
      go_meet
      exact ⟨true, rfl, hD3⟩
    | true =>
      have hTM := tilingsManyS_any W T A2 bs.length c2 w3.heap.size bs w3 rfl (Reads.of_own hD3.own.1) (Nat.le_refl _) (by have := hD3.own.2; omega)
      obtain ⟨⟨a0, a1, a2⟩, _, _, _⟩ := hD3.cells
      generalize tmV W T bs = tm at *
      go_wp2_with fail
      refine hTM.mono ?_
      rintro e w4 ⟨rfl, hb4⟩
      have hD4 := hD3.calm hb4
      clear hD3 hb4 hTM a0 a1 a2
      go_wp2_with fail
      go_meet
      exact ⟨_, rfl, hD4⟩
  case rest =>
    obtain ⟨b, rfl, hD⟩ := hcut
    clear hD0
    go_upto_if 15 with fail
    go_cut [] (fun wx => ∃ (W T : Int) (A2 : Option Addr) (c2 : Nat) (bs : List Bool), DR w wx g B A n c p 190 zs x W T (.slice A2 bs.length c2) bs)
    case first =>
      cases b with
      | false =>
        go_wp2_with fail
        go_meet
        exact ⟨W, T, A2, c2, bs, hD.more (by omega)⟩
      | true =>
        have hal : Below wc.heap.size wc (wc.alloc (.cells #[.int .i64 2, .int .i64 3, .int .i64 4, .int .i64 5] 3)) := (Below.refl _ _).alloc (Nat.le_refl _) _
        have hD2 := hD.calm hal
        have hSt := Blk.new wc 3 #[.int .i64 2, .int .i64 3, .int .i64 4, .int .i64 5]
        obtain ⟨p3, hp3, hp4, hR, hgr⟩ := hD2.st
        have hwg : wc.heap.size ≠ g := by obtain ⟨_, _, _, hq, _⟩ := hD.st; have := hq.lt; omega
        have hxg : x ≠ g := by have := hD.xlt; omega
        have hwz : w.heap.size ≠ g := by omega
        clear hD hal
        go_upto_region 3 with fail
        go_wp2_with fail
        refine (pick_any g B A n c p3 zs 4 _ hR (by omega)).mono ?_
        rintro e w4 ⟨y, rfl, a4, b4, _, h4, g4⟩
        have b4 := b4 (by omega)
        obtain ⟨q, yy, rfl, hq4, hy, hv⟩ := tab4i y a4 b4
        have hS4 := hSt.grown g4 (by simpa using hwg)
        have hcell : w4.cell? ⟨wc.heap.size, q, none⟩ = some (.int .i64 (yy : Nat)) := (hS4.cell q).trans hv
        have hD4 := hD2.step (d2 := 1) ⟨hp3, hp4⟩ hgr ⟨p3 + 1, by omega, by omega, h4, g4⟩
        have G4 := hgr.trans g4
        clear hD2 hSt hS4 hR hgr g4 a4 b4 hv
        go_wp2_with fail
        refine (boxS_any g B A n c (p3 + 1) zs yy 2 hy (by omega) _ h4).mono ?_
        intro e w7 hd
        have hres := hd.blk hD4.res hwz
        have hreX := hd.blk hD4.reg hxg
        obtain ⟨W7, T7, A7, c7, b7, rfl, hreg7, hst7⟩ := hd.form (w0 := w) (p := p) (d := 190) G4 (by omega)
        have hD8 := DR.renew (W := W7) (T := T7) hst7 hglt hD4.xlt hres hreX hreg7
        obtain ⟨r0, r1, r2⟩ := blk3 hreX
        have f0 := hreX.frozen 0
        have f1 := hreX.frozen 1
        have f2 := hreX.frozen 2
        clear hD4 hd hres hreg7 hst7 hreX h4 G4 hcell
        go_wp2_with fail
        go_meet
        exact ⟨W7, T7, A7, c7, b7, hD8⟩
    case rest =>
      clear hD
      obtain ⟨W, T, A2, c2, bs, hD⟩ := hcut
      obtain ⟨p5, hp5, hp6, hR5, hgr5⟩ := hD.st
      go_wp2_with fail
      refine (odd_any g B A n c p5 zs m _ hR5 (by omega)).mono ?_
      rintro e w5 ⟨b5, rfl, p6, hp7, hp8, h5, g5⟩
      have hD5 := hD.step (d2 := 1) ⟨hp5, hp6⟩ hgr5 ⟨p6, hp7, hp8, h5, g5⟩
      have hgr6 := hgr5.trans g5
      clear hD hR5 hgr5 g5
      cases b5 with
      | false =>
        obtain ⟨⟨a0, a1, a2⟩, _, ⟨r0, r1, r2⟩, q0, q1, q2⟩ := hD5.cells
        obtain ⟨o1, o2⟩ := out_any (hD5.st.more (e := 300) (by omega)) hglt hD5.res hD5.own (.int .i64 W) (.int .i64 T) (.slice A2 bs.length c2)
        clear hD5
        go_wp2_with fail
        exact bodyPost_ret (v := .agg #[.int .i64 W, .int .i64 T, .slice A2 bs.length c2]) (by simp [results, Try.results87, go_sem, r0, r1, r2]) rfl ⟨W, T, _, bs, rfl, o1, o2⟩
      | true =>
        have hwz : w.heap.size ≠ g := by omega
        go_wp2_with fail
        refine (drawRegion_any g B A n c p6 zs 4 _ h5 (by omega)).mono ?_
        intro e w7 hd
        have hres7 := hd.blk hD5.res hwz
        obtain ⟨r0, r1, r2⟩ := blk3 hres7
        have f0 := hres7.frozen 0
        have f1 := hres7.frozen 1
        have f2 := hres7.frozen 2
        obtain ⟨W7, T7, A7, c7, b7, rfl, hreg7, hst7⟩ := hd.form (w0 := w) (p := p) (d := 300) hgr6 (by omega)
        obtain ⟨o1, o2⟩ := out_any hst7 hglt hres7 hreg7 (.int .i64 W7) (.int .i64 T7) (.slice A7 b7.length c7)
        clear hD5 hd h5 hgr6
        go_wp2_with fail
        exact bodyPost_ret (v := .agg #[.int .i64 W7, .int .i64 T7, .slice A7 b7.length c7]) (by simp [results, Try.results87, go_sem, r0, r1, r2]) rfl ⟨W7, T7, _, b7, rfl, o1, o2⟩

end Go.Proofs.Ythepfpiphlfgnaa
