/-
  YthepfpiphlfgnaaTuz: the texts Tu, My in one file.
-/
import Derived.Deep.RegionHeld
import Derived.Test.YthepfpiphlfgnaaCz
import Derived.Test.YthepfpiphlfgnaaLee
import Derived.Test.YthepfpiphlfgnaaDq

/-
  YthepfpiphlfgnaaTu: RegionTurn and TilingTurn of the program.
-/
namespace Go.Proofs.Ythepfpiphlfgnaa
open Go.RowKit

theorem un_to {R : Reg} (h : R.sh) {p : Nat} (hp : p < R.C.length) : R.un p < R.C.length ∧ R.to (R.un p) = p := by
  have hc2 : p < R.T * R.W := by rw [Nat.mul_comm, ← h.2.2.2.2]; exact hp
  have hx : p % R.T < R.T := Nat.mod_lt _ h.2.2.1
  have hy : p / R.T < R.W := Nat.div_lt_of_lt_mul hc2
  have e : p / R.T * R.T + p % R.T = p := by rw [Nat.mul_comm]; exact Nat.div_add_mod p R.T
  unfold Reg.un
  obtain ⟨a, ha⟩ : ∃ a, p % R.T = a := ⟨_, rfl⟩
  obtain ⟨b, hb⟩ : ∃ b, p / R.T = b := ⟨_, rfl⟩
  rw [ha] at hx e
  rw [hb] at hy e
  rw [ha, hb]
  refine ⟨by rw [h.2.2.2.2]; exact idx_sh hy (by omega), ?_⟩
  rw [to_at _ hy, show R.T - 1 - (R.T - 1 - a) = a by omega, e]
/-- What is put to its new place, up to cell k. -/
def tnL {α : Type} (R : Reg) (d : α) (f : Nat → α) : Nat → List α
  | 0 => List.replicate R.C.length d
  | k + 1 => (tnL R d f k).set (R.to k) (f k)
theorem tnL_len {α : Type} (R : Reg) (d : α) (f : Nat → α) : ∀ k, (tnL R d f k).length = R.C.length
  | 0 => by simp [tnL]
  | k + 1 => by rw [tnL, List.length_set, tnL_len R d f k]
theorem tnL_at {α : Type} {R : Reg} (h : R.sh) (d : α) (f : Nat → α) : ∀ k, k ≤ R.C.length → ∀ p, p < R.C.length → (tnL R d f k)[p]? = some (if R.un p < k then f (R.un p) else d)
  | 0, _, p, hp => by rw [tnL, if_neg (by omega), List.getElem?_replicate, if_pos hp]
  | k + 1, hk, p, hp => by
    have hl := tnL_len R d f k
    obtain ⟨t1, t2⟩ := to_un h (show k < R.C.length by omega)
    by_cases e : R.to k = p
    · subst e
      rw [tnL, List.getElem?_set_self (by rw [hl]; exact hp), t2, if_pos (by omega)]
    · have hne : R.un p ≠ k := fun e2 => e (by rw [← e2]; exact (un_to h hp).2)
      rw [tnL, List.getElem?_set_ne e, tnL_at h d f k (by omega) p hp]
      by_cases hu : R.un p < k
      · rw [if_pos hu, if_pos (by omega)]
      · rw [if_neg hu, if_neg (by omega)]
theorem tnL_all {α : Type} {R : Reg} (h : R.sh) (d : α) (f : Nat → α) : tnL R d f R.C.length = (List.range R.C.length).map fun p => f (R.un p) := by
  apply List.ext_getElem?
  intro p
  by_cases hp : p < R.C.length
  · rw [tnL_at h d f _ (Nat.le_refl _) p hp, if_pos (un_to h hp).1, List.getElem?_map, List.getElem?_range hp]; rfl
  · rw [List.getElem?_eq_none (by rw [tnL_len]; omega), List.getElem?_eq_none (by simp; omega)]

theorem to_lt {R : Reg} (hR : R.ok) {k : Nat} (hk : k < R.C.length) : R.to k < R.C.length := (to_un (sh_of_ok hR) hk).1

set_option maxHeartbeats 1000000 in
theorem turned_any (R : Reg) (hR : R.ok) (A : Option Addr) (n c k : Nat) (hk : k < R.C.length) (w : World) :
    Calls Try.prog 115 #[.agg #[.int .i64 R.W, .int .i64 R.T, .slice A n c], .int .i64 (k : Nat)] w fun e w' => e = .returned (.int .i64 (R.to k : Nat)) ∧ Below w.heap.size w w' := by
  have hP := place_of hR hk
  have ht : R.to k = k % R.W * R.T + (R.T - 1 - k / R.W) := rfl
  generalize k % R.W = x at *
  generalize k / R.W = y at *
  have hx := hP.col
  have hy := hP.row
  have hW6 := hR.2.1
  have hT6 := hR.2.2.2.1
  have hb0 : Below w.heap.size w (w.alloc (boxR R.W R.T A n c)) := (Below.refl _ _).alloc (Nat.le_refl _) _
  have k0 : Blk (w.alloc (boxR R.W R.T A n c)) w.heap.size 25 #[.int .i64 R.W, .int .i64 R.T, .slice A n c] := Blk.new _ _ _
  have hXY := fun w' => hide (xy_any R hR A n c k x y hP w')
  obtain ⟨p0, p1⟩ := prod_bd (a := x) (b := R.T) (by omega) (by omega)
  have hz : (x : Int) * (R.T : Int) + (R.T : Int) - 1 - (y : Int) = ((R.to k : Nat) : Int) := by
    rw [ht]
    have : ((x * R.T + (R.T - 1 - y) : Nat) : Int) = (x : Int) * (R.T : Int) + ((R.T - 1 - y : Nat) : Int) := by simp
    omega
  have HZ := Lib.hid hz
  have hw1 : IntKind.i64.wrap ((x : Int) * (R.T : Int)) = (x : Int) * (R.T : Int) := IntWalk.i64_in _ (by omega)
  have hw2 : IntKind.i64.wrap ((x : Int) * (R.T : Int) + (R.T : Int)) = (x : Int) * (R.T : Int) + (R.T : Int) := IntWalk.i64_in _ (by omega)
  have hw3 : IntKind.i64.wrap ((x : Int) * (R.T : Int) + (R.T : Int) - 1) = (x : Int) * (R.T : Int) + (R.T : Int) - 1 := IntWalk.i64_in _ (by omega)
  have hw4 : IntKind.i64.wrap ((x : Int) * (R.T : Int) + (R.T : Int) - 1 - (y : Int)) = (x : Int) * (R.T : Int) + (R.T : Int) - 1 - (y : Int) := IntWalk.i64_in _ (by omega)
  clear hz ht hP
  go_enter Try.func115, Try.ntmps115
  go_wp2_with fail
  refine (unhide (hXY _)).mono ?_
  rintro e w1 ⟨rfl, hb1⟩
  obtain ⟨b0, b1, b2⟩ := blk3 (k0.below hb1 k0.lt)
  have hB1 := hb0.trans (hb1.mono hb0.size)
  clear hXY k0 hb0 hb1
  go_wp2_with fail
  go_ret
  exact ⟨ret_int (by first | exact HZ.out | (rw [← HZ.out]) | (have := HZ.out; omega)), hB1⟩

-- WALKS

theorem below3u {w w' : World} {B k : Nat} {v0 v1 v2 : Value} (h : Below B w w') (hk : B ≤ k) : Below B w (((w'.setCell ⟨k, 0, none⟩ v0).setCell ⟨k, 1, none⟩ v1).setCell ⟨k, 2, none⟩ v2) :=
  ((h.setCell (p := ⟨k, 0, none⟩) hk v0).setCell (p := ⟨k, 1, none⟩) hk v1).setCell (p := ⟨k, 2, none⟩) hk v2
theorem set3u {w : World} {k : Nat} {u0 u1 u2 v0 v1 v2 : Value} {t : TypeId} (h : Blk w k t #[u0, u1, u2]) : Blk (((w.setCell ⟨k, 0, none⟩ v0).setCell ⟨k, 1, none⟩ v1).setCell ⟨k, 2, none⟩ v2) k t #[v0, v1, v2] := by
  have := ((h.set_ 0 v0).set_ 1 v1).set_ 2 v2
  simpa using this

set_option maxHeartbeats 2000000 in
set_option maxRecDepth 20000 in
theorem put_turned (R : Reg) (hR : R.ok) (A : Option Addr) (c B : Nat) (w : World) (hr : Reads w B 1 A R.C.length (R.C.map Value.bool)) (hB : B ≤ w.heap.size) :
    Calls Try.prog 114 #[.agg #[.int .i64 R.W, .int .i64 R.T, .slice A R.C.length c], .int .i64 R.T, .int .i64 R.W, .func (.func 115) #[.agg #[.int .i64 R.W, .int .i64 R.T, .slice A R.C.length c]] #[]] w
      fun e w' => ∃ g c', e = .returned (.agg #[.int .i64 R.T, .int .i64 R.W, .slice (some ⟨g, 0, none⟩) R.C.length c']) ∧ w'.ownsRow w.heap.size 4 1 (.slice (some ⟨g, 0, none⟩) R.C.length c') R.C.length ((turnR R).C.map Value.bool) ∧ Below w.heap.size w w' := by
  have hl36 := (len_bd hR).2
  have hl1 := (len_bd hR).1
  have hFI := fun w' => hide (field_any R.T R.W ⟨hR.2.2.1, hR.2.2.2.1⟩ ⟨hR.1, hR.2.1⟩ w')
  have hTR := fun (k : Nat) (hk : k < R.C.length) w' => hide (turned_any R hR A R.C.length c k hk w')
  have hlen : R.T * R.W = R.C.length := by rw [Nat.mul_comm]; exact hR.2.2.2.2.1.symm
  simp only [hlen] at hFI
  have hrc := fun w' (h : Below w.heap.size w w') => hr.below (h.mono hB)
  have hb0 : Below w.heap.size w ((w.alloc (boxR R.W R.T A R.C.length c)).alloc (boxR 0 0 none 0 0)) := ((Below.refl _ _).alloc (Nat.le_refl _) _).alloc (by simp) _
  have k0 : Blk ((w.alloc (boxR R.W R.T A R.C.length c)).alloc (boxR 0 0 none 0 0)) w.heap.size 25 #[.int .i64 R.W, .int .i64 R.T, .slice A R.C.length c] := (Blk.new _ _ _).alloc _
  have k1 : Blk ((w.alloc (boxR R.W R.T A R.C.length c)).alloc (boxR 0 0 none 0 0)) (w.heap.size + 1) 25 #[.int .i64 0, .int .i64 0, .slice none 0 0] := by
    have := Blk.new (w.alloc (boxR R.W R.T A R.C.length c)) 25 #[.int .i64 0, .int .i64 0, .slice none 0 0]
    simpa using this
  have hall := tnL_all (sh_of_ok hR) false fun k => R.C.getD k false
  have HALL : Hid (tnL R false (fun k => R.C.getD k false) R.C.length = (turnR R).C) := Lib.hid hall
  clear hr hlen hall
  go_enter Try.func114, Try.ntmps114
  go_wp2_with fail
  refine (unhide (hFI _)).mono ?_
  rintro e w1 ⟨g, cg, rfl, ho1, hb1⟩
  have hB1 := hb0.trans (hb1.mono hb0.size)
  have k01 := k0.below hb1 k0.lt
  have k11 := k1.below hb1 k1.lt
  have ho1' := own_mono ho1 hb0.size
  clear hb0 k0 k1 ho1 hb1 hFI
  go_upto_region 2 with fail
  have hB2 := hB1.alloc hB1.size (.cells #[.int .i64 R.T, .int .i64 R.W, .slice (some ⟨g, 0, none⟩) R.C.length cg] 25)
  have k02 := k01.alloc (.cells #[.int .i64 R.T, .int .i64 R.W, .slice (some ⟨g, 0, none⟩) R.C.length cg] 25)
  have k12 := k11.alloc (.cells #[.int .i64 R.T, .int .i64 R.W, .slice (some ⟨g, 0, none⟩) R.C.length cg] 25)
  have ho2 := ho1'.alloc (.cells #[.int .i64 R.T, .int .i64 R.W, .slice (some ⟨g, 0, none⟩) R.C.length cg] 25)
  have kq2 := Blk.new w1 25 #[.int .i64 R.T, .int .i64 R.W, .slice (some ⟨g, 0, none⟩) R.C.length cg]
  have hq1 : w.heap.size + 1 < w1.heap.size := k11.lt
  clear hB1 k01 k11 ho1'
  generalize w1.alloc (.cells #[.int .i64 R.T, .int .i64 R.W, .slice (some ⟨g, 0, none⟩) R.C.length cg] 25) = w2 at *
  generalize w1.heap.size = q at *
  obtain ⟨b0, b1, b2⟩ := blk3 k02
  have hgm : w.heap.size ≤ g := (own_in ho2 rfl).1
  go_wp2_with fail
  go_loopg [18] R.C.length (fun r s18 wr => ∃ k : Nat, k + r = R.C.length ∧ s18 = .int .i64 (k : Nat) ∧ Below w.heap.size w wr ∧ Blk wr (w.heap.size + 1) 25 #[.int .i64 0, .int .i64 0, .slice none 0 0] ∧ Blk wr q 25 #[.int .i64 R.T, .int .i64 R.W, .slice (some ⟨g, 0, none⟩) R.C.length cg] ∧ wr.ownsRow w.heap.size 4 1 (.slice (some ⟨g, 0, none⟩) R.C.length cg) R.C.length ((tnL R false (fun k => R.C.getD k false) k).map Value.bool))
  case atStart => exact ⟨0, by omega, rfl, hB2, k12, kq2, ho2⟩
  case round =>
    clear hB2 k12 kq2 ho2 k02 b0 b1 b2
    obtain ⟨k, hk, rfl, hBw, k1w, kqw, how⟩ := hrel
    have HK := Lib.hid hk
    clear hk
    by_cases hlt : k < R.C.length
    · obtain ⟨ad, u, rfl, _, hu, hcell⟩ := (hrc _ hBw).at_ hlt
      have hu' : u = .bool (R.C.getD k false) := by
        rw [List.getElem?_map, List.getElem?_eq_getElem hlt] at hu
        injection hu with hu
        rw [← hu, List.getD_eq_getElem?_getD, List.getElem?_eq_getElem hlt]; rfl
      subst hu'
      have hsu : tnL R false (fun k => R.C.getD k false) (k + 1) = (tnL R false (fun k => R.C.getD k false) k).set (R.to k) (R.C.getD k false) := rfl
      have HSU := Lib.hid hsu
      have hTk := hTR k hlt
      have htl := to_lt hR hlt
      clear hu hsu hTR hrc
      generalize tnL R false (fun k => R.C.getD k false) k = l at *
      generalize R.C.getD k false = bk at *
      generalize R.to k = tk at *
      have kq2 := kqw.cell 2
      simp at kq2
      have hd0 := (Below.refl wr.heap.size wr).drew
      go_upto_region 5 with fail
      refine wp_region_held_drew (S := (fun w' => w'.cell? ⟨q, 2, none⟩ = some (.slice (some ⟨g, 0, none⟩) R.C.length cg))) (by kernel_rfl) (cell_kept kq2 hd0) ?_
      intro hHeld
      refine wpAnyH_take (i := 0) (v := ?_) rfl (by kernel_rfl) (by kernel_rfl) (by kernel_rfl) (fun _ _ _ h => h) (Or.inl ⟨by kernel_rfl, ?_⟩) hHeld ?_
      rotate_left
      · intro w' hS'
        clear hS'
        go_simp
        try with_reducible rfl
      refine wpAnyH_take (i := 1) (v := ?_) rfl (by kernel_rfl) (by kernel_rfl) (by kernel_rfl) (fun _ _ _ h => h) (Or.inl ⟨by kernel_rfl, ?_⟩) hHeld ?_
      rotate_left
      · intro w' hS'
        obtain x2 := hS'
        go_simp
        try with_reducible rfl
      refine wpAnyH_take (i := 2) (v := ?_) rfl (by kernel_rfl) (by kernel_rfl) (by kernel_rfl) (fun _ _ _ h => h) (Or.inl ⟨by kernel_rfl, ?_⟩) hHeld ?_
      rotate_left
      · intro w' hS'
        clear hS'
        go_simp
        try with_reducible rfl
      refine wpAnyH_take (i := 3) (v := ?_) rfl (by kernel_rfl) (by kernel_rfl) (by kernel_rfl) (fun _ _ _ h => h) (Or.inl ⟨by kernel_rfl, ?_⟩) hHeld ?_
      rotate_left
      · intro w' hS'
        clear hS'
        go_simp
        try with_reducible rfl
      refine wpAnyH_take (i := 5) (v := ?_) rfl (by kernel_rfl) (by kernel_rfl) (by kernel_rfl) (fun _ _ _ h => h) (Or.inl ⟨by kernel_rfl, ?_⟩) hHeld ?_
      rotate_left
      · intro w' hS'
        clear hS'
        go_simp
        try with_reducible rfl
      refine wpAnyH_ready (rs := [4]) (by kernel_rfl) (by simp) ?_
      refine AllReadyH.cons rfl (fun K hK => ?_) AllReadyH.nil
      go_simp
      go_at_call 115
      (with_reducible refine (unhide (hTk _)).mono ?_)
      rintro e w5 ⟨rfl, hb5⟩
      have hc5 := hd0.trans (hb5.mono hd0.size)
      have ho5 := own_below how hc5 (Nat.le_refl _)
      have hfr := ho5.frozenAt tk
      have hcl := ho5.cellAt tk (by omega)
      have hkq5 := cell_kept kq2 hc5
      obtain ⟨u, hu⟩ : ∃ u, w5.cell? ⟨g, tk, none⟩ = some u := by
        rw [hcl]
        have := ho5.1
        exact ⟨_, List.getElem?_eq_getElem (by omega)⟩
      refine hK.out _ _ ?_ ?_
      · exact hkq5
      clear hHeld
      intro hHeld
      clear hK K
      refine wpAnyH_take (i := 6) (v := ?_) rfl (by kernel_rfl) (by kernel_rfl) (by kernel_rfl) (fun _ _ _ h => h) (Or.inl ⟨by kernel_rfl, ?_⟩) hHeld ?_
      rotate_left
      · intro w' hS'
        clear hS'
        go_simp
        try with_reducible rfl
      refine wpAnyH_ready (rs := [7]) (by kernel_rfl) (by simp) ?_
      refine AllReadyH.cons rfl (fun K hK => ?_) AllReadyH.nil
      clear hcl
      go_simp
      have ho6 := (ho5.stored tk (.bool bk)).1
      have hgq : g ≠ q := fun e => own_blk_ne ho5 (kqw.below hc5 kqw.lt) (by decide) (by rw [e]; rfl)
      refine hK.out _ _ ?_ ?_
      · exact (by rw [World.cell?_setCell_far] <;> simp_all)
      clear hHeld
      intro hHeld
      clear hK K
      refine wpAnyH_done (by kernel_rfl) ?_ _
      have hB6 := (hBw.trans (hc5.mono hBw.size)).setCell (p := ⟨g, tk, none⟩) hgm (.bool bk)
      have hg1 : g ≠ w.heap.size + 1 := fun e => own_blk_ne ho5 (k1w.below hc5 k1w.lt) (by decide) (by rw [e]; rfl)
      have k16 := (k1w.below hc5 k1w.lt).far (p := ⟨g, tk, none⟩) (by simpa using hg1.symm) (.bool bk)
      have kq6 := (kqw.below hc5 kqw.lt).far (p := ⟨g, tk, none⟩) (by simpa using hgq.symm) (.bool bk)
      clear hHeld hu hfr hkq5 ho5 hc5 hb5 hTk hBw how kqw k1w kq2 hcell
      go_simp
      go_wp2_with fail
      go_roundg (R.C.length - (k + 1))
      case measure => have := HK.out; omega
      case rel => exact ⟨k + 1, by have := HK.out; omega, by go_num, hB6, k16, kq6, by rw [HSU.out, List.map_set]; exact ho6⟩
    · obtain rfl : k = R.C.length := by have := HK.out; omega
      rw [HALL.out] at how
      obtain ⟨q0, q1, q2⟩ := blk3 kqw
      obtain ⟨z0, z1, z2⟩ := blk3 k1w
      have f0 := k1w.frozen 0
      have f1 := k1w.frozen 1
      have f2 := k1w.frozen 2
      have hne := own_blk_ne how k1w (by decide)
      have ho6 := ownsRow_setCell_other (ownsRow_setCell_other (ownsRow_setCell_other how (a := ⟨w.heap.size + 1, 0, none⟩) hne (.int .i64 R.T)) (a := ⟨w.heap.size + 1, 1, none⟩) hne (.int .i64 R.W)) (a := ⟨w.heap.size + 1, 2, none⟩) hne (.slice (some ⟨g, 0, none⟩) R.C.length cg)
      have hB6 := below3u (k := w.heap.size + 1) (v0 := .int .i64 R.T) (v1 := .int .i64 R.W) (v2 := .slice (some ⟨g, 0, none⟩) R.C.length cg) hBw (by omega)
      obtain ⟨r0, r1, r2⟩ := blk3 (set3u (v0 := .int .i64 R.T) (v1 := .int .i64 R.W) (v2 := .slice (some ⟨g, 0, none⟩) R.C.length cg) k1w)
      clear hTR hrc hBw k1w kqw how
      go_wp2_with fail
      exact bodyPost_ret (v := .agg #[.int .i64 R.T, .int .i64 R.W, .slice (some ⟨g, 0, none⟩) R.C.length cg]) (by simp [results, Try.results114, go_sem, r0, r1, r2]) rfl ⟨g, cg, rfl, ho6, hB6⟩

theorem ways_at (y : Nat) (hy : y < 5) : (#[.int .i64 0, .int .i64 2, .int .i64 3, .int .i64 4, .int .i64 1] : Array Value)[y]? = some (.int .i64 (tuW (y : Int))) := by
  rcases (show y = 0 ∨ y = 1 ∨ y = 2 ∨ y = 3 ∨ y = 4 by omega) with rfl | rfl | rfl | rfl | rfl <;> rfl

set_option maxHeartbeats 2000000 in
set_option maxRecDepth 20000 in
theorem carry_turned (R : Reg) (hR : R.ok) (A : Option Addr) (c B : Nat) (L : List Int) (hL : Lay R L) (D : Option Addr) (d gw : Nat) (w : World) (hd : Reads w B 1 D R.C.length (L.map (Value.int .i64))) (hB : B ≤ w.heap.size)
    (hW : Blk w gw 3 #[.int .i64 0, .int .i64 2, .int .i64 3, .int .i64 4, .int .i64 1]) :
    Calls Try.prog 116 #[.slice D R.C.length d, .func (.func 115) #[.agg #[.int .i64 R.W, .int .i64 R.T, .slice A R.C.length c]] #[], .slice (some ⟨gw, 0, none⟩) 5 5] w
      fun e w' => ∃ g, e = .returned (.slice (some ⟨g, 0, none⟩) R.C.length R.C.length) ∧ w'.ownsRow w.heap.size 3 1 (.slice (some ⟨g, 0, none⟩) R.C.length R.C.length) R.C.length ((tuL R L).map (Value.int .i64)) ∧ Below w.heap.size w w' := by
  have hl36 := (len_bd hR).2
  have hl1 := (len_bd hR).1
  have hTR := fun (k : Nat) (hk : k < R.C.length) w' => hide (turned_any R hR A R.C.length c k hk w')
  have hrc := fun w' (h : Below w.heap.size w w') => hd.below (h.mono hB)
  have hwl := hW.lt
  have hwy : ∀ k, ∃ y : Nat, y < 5 ∧ L.getD k 0 = (y : Int) := fun k => by
    have := hL.rng ((k % R.W : Nat) : Int) ((k / R.W : Nat) : Int)
    by_cases hk : k < R.C.length
    · obtain ⟨hx, hy⟩ := xy_lt hR hk
      rw [way_in hx hy, xy_eq] at this
      exact ⟨(L.getD k 0).toNat, by omega, by omega⟩
    · refine ⟨0, by omega, ?_⟩
      rw [List.getD_eq_getElem?_getD, List.getElem?_eq_none (by rw [hL.len]; omega)]; rfl
  have HWY := Lib.hid hwy
  have hall := tnL_all (sh_of_ok hR) (0 : Int) fun k => tuW (L.getD k 0)
  have HALL : Hid (tnL R (0 : Int) (fun k => tuW (L.getD k 0)) R.C.length = tuL R L) := Lib.hid hall
  clear hd hall hwy
  go_enter Try.func116, Try.ntmps116
  go_wp2_with (at_make; refine wpList_make_ints rfl _ _ rfl R.C.length (by omega) rfl rfl rfl rfl ?_; intro w2 ho2 hB2)
  obtain ⟨g, hgz⟩ : ∃ g, w.heap.size = g := ⟨_, rfl⟩
  rw [hgz] at ho2 hB2 hwl ⊢
  have HGZ := Lib.hid hgz
  clear hgz
  have hW2 := hW.below hB2 hwl
  clear hW
  go_wp2_with fail
  go_loopg [15] R.C.length (fun r s15 wr => ∃ k : Nat, k + r = R.C.length ∧ s15 = .int .i64 (k : Nat) ∧ Below g w wr ∧ Blk wr gw 3 #[.int .i64 0, .int .i64 2, .int .i64 3, .int .i64 4, .int .i64 1] ∧ wr.ownsRow g 3 1 (.slice (some ⟨g, 0, none⟩) R.C.length R.C.length) R.C.length ((tnL R (0 : Int) (fun k => tuW (L.getD k 0)) k).map (Value.int .i64)))
  case atStart => exact ⟨0, by omega, rfl, hB2, hW2, ho2⟩
  case round =>
    clear hB2 hW2 ho2
    obtain ⟨k, hk, rfl, hBw, hWw, how⟩ := hrel
    have HK := Lib.hid hk
    clear hk
    by_cases hlt : k < R.C.length
    · obtain ⟨ad, rfl, _, hcell⟩ := (hrc _ (by rw [HGZ.out]; exact hBw)).getI hlt
      have hsu : tnL R (0 : Int) (fun k => tuW (L.getD k 0)) (k + 1) = (tnL R (0 : Int) (fun k => tuW (L.getD k 0)) k).set (R.to k) (tuW (L.getD k 0)) := rfl
      have HSU := Lib.hid hsu
      have hTk := hTR k hlt
      have htl := to_lt hR hlt
      obtain ⟨y, hy5, hy⟩ := HWY.out k
      have hwc : wr.cell? ⟨gw, y, none⟩ = some (.int .i64 (tuW (y : Int))) := by rw [hWw.cell y]; exact ways_at y hy5
      clear hsu hTR hrc
      generalize tnL R (0 : Int) (fun k => tuW (L.getD k 0)) k = l at *
      rw [hy] at hcell HSU
      clear hy
      generalize tuW (y : Int) = z at *
      generalize R.to k = tk at *
      have hd0 := (Below.refl wr.heap.size wr).drew
      have hy0 : (0 : Int) ≤ (y : Int) := by omega
      have hy6 : (y : Int) < 5 := by omega
      have hgw : g ≠ gw := by omega
      go_upto_region 5 with fail
      refine wp_region_held_drew (S := (fun w' => w'.cell? ⟨gw, y, none⟩ = some (.int .i64 z))) (by kernel_rfl) (cell_kept hwc hd0) ?_
      intro hHeld
      refine wpAnyH_take (i := 0) (v := ?_) rfl (by kernel_rfl) (by kernel_rfl) (by kernel_rfl) (fun _ _ _ h => h) (Or.inl ⟨by kernel_rfl, ?_⟩) hHeld ?_
      rotate_left
      · intro w' hS'
        clear hS'
        go_simp
        try with_reducible rfl
      refine wpAnyH_take (i := 1) (v := ?_) rfl (by kernel_rfl) (by kernel_rfl) (by kernel_rfl) (fun _ _ _ h => h) (Or.inl ⟨by kernel_rfl, ?_⟩) hHeld ?_
      rotate_left
      · intro w' hS'
        clear hS'
        go_simp
        try with_reducible rfl
      refine wpAnyH_take (i := 2) (v := ?_) rfl (by kernel_rfl) (by kernel_rfl) (by kernel_rfl) (fun _ _ _ h => h) (Or.inl ⟨by kernel_rfl, ?_⟩) hHeld ?_
      rotate_left
      · intro w' hS'
        clear hS'
        go_simp
        try with_reducible rfl
      refine wpAnyH_take (i := 4) (v := ?_) rfl (by kernel_rfl) (by kernel_rfl) (by kernel_rfl) (fun _ _ _ h => h) (Or.inl ⟨by kernel_rfl, ?_⟩) hHeld ?_
      rotate_left
      · intro w' hS'
        clear hS'
        go_simp
        try with_reducible rfl
      refine wpAnyH_take (i := 5) (v := ?_) rfl (by kernel_rfl) (by kernel_rfl) (by kernel_rfl) (fun _ _ _ h => h) (Or.inl ⟨by kernel_rfl, ?_⟩) hHeld ?_
      rotate_left
      · intro w' hS'
        clear hS'
        go_simp
        try with_reducible rfl
      refine wpAnyH_take (i := 6) (v := ?_) rfl (by kernel_rfl) (by kernel_rfl) (by kernel_rfl) (fun _ _ _ h => h) (Or.inl ⟨by kernel_rfl, ?_⟩) hHeld ?_
      rotate_left
      · intro w' hS'
        clear hS'
        go_simp
        try with_reducible rfl
      refine wpAnyH_take (i := 7) (v := ?_) rfl (by kernel_rfl) (by kernel_rfl) (by kernel_rfl) (fun _ _ _ h => h) (Or.inl ⟨by kernel_rfl, ?_⟩) hHeld ?_
      rotate_left
      · intro w' hS'
        obtain x2 := hS'
        go_simp
        try with_reducible rfl
      refine wpAnyH_ready (rs := [3]) (by kernel_rfl) (by simp) ?_
      refine AllReadyH.cons rfl (fun K hK => ?_) AllReadyH.nil
      go_simp
      go_at_call 115
      (with_reducible refine (unhide (hTk _)).mono ?_)
      rintro e w5 ⟨rfl, hb5⟩
      have hc5 := hd0.trans (hb5.mono hd0.size)
      have ho5 := own_below how hc5 (Nat.le_refl _)
      have hfr := ho5.frozenAt tk
      have hcl := ho5.cellAt tk (by omega)
      have hkq5 := cell_kept hwc hc5
      obtain ⟨u, hu⟩ : ∃ u, w5.cell? ⟨g, tk, none⟩ = some u := by
        rw [hcl]
        have := ho5.1
        exact ⟨_, List.getElem?_eq_getElem (by omega)⟩
      refine hK.out _ _ ?_ ?_
      · exact hkq5
      clear hHeld
      intro hHeld
      clear hK K
      refine wpAnyH_take (i := 8) (v := ?_) rfl (by kernel_rfl) (by kernel_rfl) (by kernel_rfl) (fun _ _ _ h => h) (Or.inl ⟨by kernel_rfl, ?_⟩) hHeld ?_
      rotate_left
      · intro w' hS'
        clear hS'
        go_simp
        try with_reducible rfl
      refine wpAnyH_ready (rs := [9]) (by kernel_rfl) (by simp) ?_
      refine AllReadyH.cons rfl (fun K hK => ?_) AllReadyH.nil
      clear hcl
      go_simp
      have ho6 := (ho5.stored tk (.int .i64 z)).1
      refine hK.out _ _ ?_ ?_
      · exact (by rw [World.cell?_setCell_far] <;> simp_all)
      clear hHeld
      intro hHeld
      clear hK K
      refine wpAnyH_done (by kernel_rfl) ?_ _
      have hB6 := (hBw.trans (hc5.mono (by have := hBw.size; have := HGZ.out; omega))).setCell (p := ⟨g, tk, none⟩) (Nat.le_refl g) (.int .i64 z)
      have hW6 := (hWw.below hc5 hWw.lt).far (p := ⟨g, tk, none⟩) (by simpa using hgw.symm) (.int .i64 z)
      clear hHeld hu hfr hkq5 ho5 hc5 hb5 hTk hBw how hWw hwc hcell
      go_simp
      go_wp2_with fail
      go_roundg (R.C.length - (k + 1))
      case measure => have := HK.out; omega
      case rel => exact ⟨k + 1, by have := HK.out; omega, by go_num, hB6, hW6, by rw [HSU.out, List.map_set]; exact ho6⟩
    · obtain rfl : k = R.C.length := by have := HK.out; omega
      rw [HALL.out] at how
      clear hTR hrc hWw
      go_wp2_with fail
      go_ret
      exact ⟨g, rfl, by rw [HGZ.out]; exact how, by rw [HGZ.out]; exact hBw⟩

/-- RegionTurn of a valid region. -/
def TurnRet (R : Reg) (w : World) (e : Ending) (w' : World) : Prop :=
  ∃ g c', e = .returned (.agg #[.int .i64 R.T, .int .i64 R.W, .slice (some ⟨g, 0, none⟩) R.C.length c']) ∧ w'.ownsRow w.heap.size 4 1 (.slice (some ⟨g, 0, none⟩) R.C.length c') R.C.length ((turnR R).C.map Value.bool) ∧ Below w.heap.size w w'

set_option maxHeartbeats 2000000 in
set_option maxRecDepth 20000 in
theorem turnI_ok (R : Reg) (hR : R.ok) (A : Option Addr) (c B : Nat) (w : World) (hr : Reads w B 1 A R.C.length (R.C.map Value.bool)) (hB : B ≤ w.heap.size) :
    Calls Try.prog 48 #[.agg #[.int .i64 R.W, .int .i64 R.T, .slice A R.C.length c]] w (TurnRet R w) := by
  have hl36 := (len_bd hR).2
  have hmf : ∀ (fn : Fn) (first cap : Array Value) (w : World), (Instr.makeFunc fn first cap).run Try.prog w = .ok (.func fn first cap) w := fun _ _ _ _ => rfl
  have hb0 : Below w.heap.size w ((w.alloc (boxR R.W R.T A R.C.length c)).alloc (boxR 0 0 none 0 0)) := ((Below.refl _ _).alloc (Nat.le_refl _) _).alloc (by simp) _
  have k0 : Blk ((w.alloc (boxR R.W R.T A R.C.length c)).alloc (boxR 0 0 none 0 0)) w.heap.size 25 #[.int .i64 R.W, .int .i64 R.T, .slice A R.C.length c] := (Blk.new _ _ _).alloc _
  have k1 : Blk ((w.alloc (boxR R.W R.T A R.C.length c)).alloc (boxR 0 0 none 0 0)) (w.heap.size + 1) 25 #[.int .i64 0, .int .i64 0, .slice none 0 0] := by
    have := Blk.new (w.alloc (boxR R.W R.T A R.C.length c)) 25 #[.int .i64 0, .int .i64 0, .slice none 0 0]
    simpa using this
  have hV := hide (valid_any R.W R.T A R.C.length c B R.C _ (hr.below (hb0.mono hB)) (Nat.le_trans hB hb0.size) (by omega))
  rw [valid_of_ok hR] at hV
  have hPU := fun w' (h : Below w.heap.size w w') => hide (put_turned R hR A c B w' (hr.below (h.mono hB)) (Nat.le_trans hB h.size))
  clear hr
  go_enter Try.func48, Try.ntmps48
  go_wp2_with fail
  refine (unhide hV).mono ?_
  rintro e w1 ⟨rfl, hb1⟩
  have hB1 := hb0.trans (hb1.mono hb0.size)
  have k01 := k0.below hb1 k0.lt
  have k11 := k1.below hb1 k1.lt
  obtain ⟨b0, b1, b2⟩ := blk3 k01
  clear hb0 k0 k1 hb1 hV
  go_wp2_with fail
  refine (unhide (hPU _ hB1)).mono ?_
  rintro e w2 ⟨g, cg, rfl, ho, hb2⟩
  have k12 := k11.below hb2 k11.lt
  have ho' := own_mono ho hB1.size
  have hB2 := hB1.trans (hb2.mono hB1.size)
  obtain ⟨z0, z1, z2⟩ := blk3 k12
  have f0 := k12.frozen 0
  have f1 := k12.frozen 1
  have f2 := k12.frozen 2
  have hne := own_blk_ne ho' k12 (by decide)
  have ho6 := ownsRow_setCell_other (ownsRow_setCell_other (ownsRow_setCell_other ho' (a := ⟨w.heap.size + 1, 0, none⟩) hne (.int .i64 R.T)) (a := ⟨w.heap.size + 1, 1, none⟩) hne (.int .i64 R.W)) (a := ⟨w.heap.size + 1, 2, none⟩) hne (.slice (some ⟨g, 0, none⟩) R.C.length cg)
  have hB6 := below3u (k := w.heap.size + 1) (v0 := .int .i64 R.T) (v1 := .int .i64 R.W) (v2 := .slice (some ⟨g, 0, none⟩) R.C.length cg) hB2 (by omega)
  obtain ⟨r0, r1, r2⟩ := blk3 (set3u (v0 := .int .i64 R.T) (v1 := .int .i64 R.W) (v2 := .slice (some ⟨g, 0, none⟩) R.C.length cg) k12)
  clear hPU hB1 k01 k11 b0 b1 b2 ho ho' hb2 k12 hB2
  go_wp2_with fail
  exact bodyPost_ret (v := .agg #[.int .i64 R.T, .int .i64 R.W, .slice (some ⟨g, 0, none⟩) R.C.length cg]) (by simp [results, Try.results48, go_sem, r0, r1, r2]) rfl ⟨g, cg, rfl, ho6, hB6⟩

/-- TilingTurn of a list that lays dominoes on a valid region. -/
def TiTurnRet (R : Reg) (L : List Int) (w : World) (e : Ending) (w' : World) : Prop :=
  ∃ g, e = .returned (.slice (some ⟨g, 0, none⟩) R.C.length R.C.length) ∧ w'.ownsRow w.heap.size 3 1 (.slice (some ⟨g, 0, none⟩) R.C.length R.C.length) R.C.length ((tuL R L).map (Value.int .i64)) ∧ Below w.heap.size w w'

set_option maxHeartbeats 2000000 in
set_option maxRecDepth 20000 in
theorem tilingTurnI_ok (R : Reg) (hR : R.ok) (A : Option Addr) (c B : Nat) (L : List Int) (hL : Lay R L) (D : Option Addr) (d : Nat) (w : World) (hr : Reads w B 1 A R.C.length (R.C.map Value.bool)) (hd : Reads w B 1 D R.C.length (L.map (Value.int .i64))) (hB : B ≤ w.heap.size) :
    Calls Try.prog 49 #[.agg #[.int .i64 R.W, .int .i64 R.T, .slice A R.C.length c], .slice D R.C.length d] w (TiTurnRet R L w) := by
  have hl36 := (len_bd hR).2
  have hmf : ∀ (fn : Fn) (first cap : Array Value) (w : World), (Instr.makeFunc fn first cap).run Try.prog w = .ok (.func fn first cap) w := fun _ _ _ _ => rfl
  have hb0 : Below w.heap.size w (w.alloc (boxR R.W R.T A R.C.length c)) := (Below.refl _ _).alloc (Nat.le_refl _) _
  have k0 : Blk (w.alloc (boxR R.W R.T A R.C.length c)) w.heap.size 25 #[.int .i64 R.W, .int .i64 R.T, .slice A R.C.length c] := Blk.new _ _ _
  have hLO := hide (laidOkI_any R.W R.T A R.C.length c B R.C L D R.C.length d _ rfl hL.len (hr.below (hb0.mono hB)) (hd.below (hb0.mono hB)) (Nat.le_trans hB hb0.size) (by omega) (by omega))
  have hlb : laidB R.W R.T R.C L = true := by rw [laidB_ok hR]; exact (laysB_iff hR).2 hL
  rw [hlb] at hLO
  have hCA := fun gw w' (h : Below w.heap.size w w') hW => hide (carry_turned R hR A c B L hL D d gw w' (hd.below (h.mono hB)) (Nat.le_trans hB h.size) hW)
  clear hr hd hlb
  go_enter Try.func49, Try.ntmps49
  go_wp2_with fail
  refine (unhide hLO).mono ?_
  rintro e w1 ⟨rfl, hb1⟩
  have hB1 := hb0.trans (hb1.mono hb0.size)
  obtain ⟨b0, b1, b2⟩ := blk3 (k0.below hb1 k0.lt)
  have hB2 := hB1.alloc hB1.size (.cells #[.int .i64 0, .int .i64 2, .int .i64 3, .int .i64 4, .int .i64 1] 3)
  have hC2 := hCA _ _ hB2 (Blk.new _ _ _)
  clear hb0 k0 hb1 hLO hCA
  go_wp2_with fail
  refine (unhide hC2).mono ?_
  rintro e w2 ⟨g, rfl, ho, hb2⟩
  clear hC2 b0 b1 b2
  go_wp2_with fail
  go_ret
  exact ⟨g, rfl, own_mono ho hB2.size, hB2.trans (hb2.mono hB2.size)⟩

end Go.Proofs.Ythepfpiphlfgnaa

/-
  YthepfpiphlfgnaaMy: FlipMay of the program; the corners that can be flipped, as a list.
-/
namespace Go.Proofs.Ythepfpiphlfgnaa
open Go.RowKit

set_option maxHeartbeats 1000000 in
theorem flipMayI_ok (R : Reg) (hR : R.ok) (A : Option Addr) (c B : Nat) (L : List Int) (D : Option Addr) (d : Nat) (k : Int) (hk9 : k ≤ 9223372036854775807) (hL : Lay R L) (w : World) (hr : Reads w B 1 A R.C.length (R.C.map Value.bool)) (hd : Reads w B 1 D R.C.length (L.map (Value.int .i64))) (hB : B ≤ w.heap.size) :
    Calls Try.prog 46 #[.agg #[.int .i64 R.W, .int .i64 R.T, .slice A R.C.length c], .slice D R.C.length d, .int .i64 k] w fun e w' => e = .returned (.bool (flB R L k)) ∧ Below w.heap.size w w' := by
  have hl36 := (len_bd hR).2
  have hb0 : Below w.heap.size w (w.alloc (boxR R.W R.T A R.C.length c)) := (Below.refl _ _).alloc (Nat.le_refl _) _
  have k0 : Blk (w.alloc (boxR R.W R.T A R.C.length c)) w.heap.size 25 #[.int .i64 R.W, .int .i64 R.T, .slice A R.C.length c] := Blk.new _ _ _
  have hLO := hide (laidOkI_any R.W R.T A R.C.length c B R.C L D R.C.length d _ rfl hL.len (hr.below (hb0.mono hB)) (hd.below (hb0.mono hB)) (Nat.le_trans hB hb0.size) (by omega) (by omega))
  have hlb : laidB R.W R.T R.C L = true := by rw [laidB_ok hR]; exact (laysB_iff hR).2 hL
  rw [hlb] at hLO
  have hFP := fun w' (h : Below w.heap.size w w') => hide (flippable_any R hR A R.C.length c B L D d k hk9 w' (hd.below (h.mono hB)) (Nat.le_trans hB h.size))
  have hfb : flB R L k = (fl1 R L k || fl2 R L k) := rfl
  rw [hfb]
  generalize fl1 R L k = x1 at *
  generalize fl2 R L k = x2 at *
  clear hr hd hlb hfb
  go_enter Try.func46, Try.ntmps46
  go_wp2_with fail
  refine (unhide hLO).mono ?_
  rintro e w1 ⟨rfl, hb1⟩
  have hB1 := hb0.trans (hb1.mono hb0.size)
  obtain ⟨b0, b1, b2⟩ := blk3 (k0.below hb1 k0.lt)
  have hF1 := hFP _ hB1
  clear hb0 k0 hb1 hLO hFP
  go_wp2_with fail
  refine (unhide hF1).mono ?_
  rintro e w2 ⟨rfl, hb2⟩
  clear hF1 b0 b1 b2
  cases x1 <;> cases x2 <;>
  · go_wp2_with fail
    go_ret
    exact ⟨rfl, hB1.trans (hb2.mono hB1.size)⟩

/-- A corner is in the list of those that can be flipped exactly if it can be. -/
theorem fs_mem {R : Reg} {L : List Int} {k : Nat} (hk : k < R.cn) : decide ((k : Int) ∈ flL R L fun _ => true) = flB R L (k : Int) := by
  cases h : flB R L (k : Int) with
  | true =>
    refine decide_eq_true ?_
    unfold flL flTo
    exact List.mem_map.2 ⟨k, List.mem_filter.2 ⟨List.mem_range.2 hk, by rw [h]; rfl⟩, rfl⟩
  | false =>
    refine decide_eq_false fun hm => ?_
    obtain ⟨j, e, _, hj, _⟩ := flTo_in (k := R.cn) hm
    have : j = k := by omega
    subst this
    rw [h] at hj
    cases hj

end Go.Proofs.Ythepfpiphlfgnaa
