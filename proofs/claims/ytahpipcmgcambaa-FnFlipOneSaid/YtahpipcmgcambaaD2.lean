/-
  YtahpipcmgcambaaD2: drawing: a box.
-/
import Derived.Test.YtahpipcmgcambaaD1
namespace Go.Proofs.Ytahpipcmgcambaa
open Go.RowKit
attribute [local go_sem ↓] Go.wp_at_zero Go.wp_at_succ

theorem own_step {w w2 : World} {g base : Nat} {e : TypeId} {size : Nat} {v : Value} {n : Nat} {xs : List Value} (h : w.ownsRow base e size v n xs) (hg : w.grownBy w2 (some g)) (hb : g < base) : w2.ownsRow base e size v n xs := by
  refine own_grown h hg ?_
  cases hv : v.ownBlock with
  | none => exact .inl rfl
  | some k =>
    have := own_in h hv
    right; simp; omega
theorem Stepped.start {w wr : World} {g B : Nat} {A : Option Addr} {n c p : Nat} {zs : List Int} (h : Rd wr g B A n c p zs) (hg : w.grownBy wr (some g)) : Stepped w g B A n c p 0 zs wr := ⟨p, by omega, by omega, h, hg⟩
theorem Stepped.calm {w wr w2 : World} {g B : Nat} {A : Option Addr} {n c p d : Nat} {zs : List Int} (h : Stepped w g B A n c p d zs wr) (hb : Below wr.heap.size wr w2) : Stepped w g B A n c p d zs w2 := by
  obtain ⟨p', h1, h2, h3, h4⟩ := h
  exact ⟨p', h1, h2, h3.below hb h3.lt, h4.trans (only_of_below hb _)⟩
theorem Stepped.and_ {w wr w2 : World} {g B : Nat} {A : Option Addr} {n c p p' d d2 : Nat} {zs : List Int} (hp : p ≤ p' ∧ p' ≤ p + d) (hg : w.grownBy wr (some g)) (h : Stepped wr g B A n c p' d2 zs w2) : Stepped w g B A n c p (d + d2) zs w2 := by
  obtain ⟨p2, h1, h2, h3, h4⟩ := h
  exact ⟨p2, by omega, by omega, h3, hg.trans h4⟩
theorem RegAt.step {w w2 : World} {g b : Nat} {v : Value} {bs : List Bool} (h : RegAt w b v bs) (hg : w.grownBy w2 (some g)) (hb : g < b) : RegAt w2 b v bs := ⟨own_step h.1 hg hb, h.2⟩
theorem RegAt.mono {w : World} {b b' : Nat} {v : Value} {bs : List Bool} (h : RegAt w b v bs) (hb : b' ≤ b) : RegAt w b' v bs := ⟨own_mono h.1 hb, h.2⟩
/-- A region's three cells written into the result's block. -/
theorem out_any {w wr : World} {g B : Nat} {A : Option Addr} {n c p d b : Nat} {zs : List Int} {v : Value} {bs : List Bool} {cs : Array Value} (hst : Stepped w g B A n c p d zs wr) (hglt : g < w.heap.size) (hres : Blk wr w.heap.size 25 cs) (hreg : RegAt wr b v bs) (u0 u1 u2 : Value) :
    RegAt (((wr.setCell ⟨w.heap.size, 0, none⟩ u0).setCell ⟨w.heap.size, 1, none⟩ u1).setCell ⟨w.heap.size, 2, none⟩ u2) b v bs ∧ Stepped w g B A n c p d zs (((wr.setCell ⟨w.heap.size, 0, none⟩ u0).setCell ⟨w.heap.size, 1, none⟩ u1).setCell ⟨w.heap.size, 2, none⟩ u2) := by
  have hne : v.ownBlock ≠ some w.heap.size := own_blk_ne hreg.1 hres (by decide)
  exact ⟨⟨ownsRow_setCell_other (ownsRow_setCell_other (ownsRow_setCell_other hreg.1 (a := ⟨w.heap.size, 0, none⟩) hne u0) (a := ⟨w.heap.size, 1, none⟩) hne u1) (a := ⟨w.heap.size, 2, none⟩) hne u2, hreg.2⟩,
    ((hst.put hglt (a := ⟨w.heap.size, 0, none⟩) (Nat.le_refl _) u0).put hglt (a := ⟨w.heap.size, 1, none⟩) (Nat.le_refl _) u1).put hglt (a := ⟨w.heap.size, 2, none⟩) (Nat.le_refl _) u2⟩

set_option maxHeartbeats 2000000 in
set_option maxRecDepth 100000 in
theorem boxS_any (g B : Nat) (A : Option Addr) (n c p : Nat) (zs : List Int) (a b : Nat) (ha : 1 ≤ a ∧ a ≤ 6) (hb : 1 ≤ b ∧ b ≤ 6) (w : World) (h : Rd w g B A n c p zs) :
    Calls Try.prog 125 #[.int .i64 (a : Nat), .int .i64 (b : Nat)] w (DrawnR w g B A n c p 0 zs) := by
  have hglt := h.lt
  have I1 : inB (a : Int) 1 6 = true := by unfold inB; simp; omega
  have I2 : inB (b : Int) 1 6 = true := by unfold inB; simp; omega
  have mE := mulc a b
  have hm36 : a * b ≤ 36 := Nat.mul_le_mul ha.2 hb.2
  have m0 : 0 ≤ (a : Int) * (b : Int) := by omega
  have m1 : (a : Int) * (b : Int) ≤ 36 := by omega
  by_cases hbig : 24 < a * b
  · have hd : decide ((24 : Int) < (a : Int) * (b : Int)) = true := decide_eq_true (by omega)
    clear hbig hm36
    have MM := Lib.hid mE
    clear mE
    go_enter Try.func125, Try.ntmps125
    go_wp2_with (first
      | (go_at_call 78; refine (l1In_any _ _ _ _).mono ?_; rintro e w' ⟨rfl, rfl⟩))
    exact bodyPost_ret (v := .agg #[.int .i64 0, .int .i64 0, .slice none 0 0]) (by simp [results, Try.results125, go_sem]) rfl
      ⟨0, 0, _, [], rfl, ⟨⟨rfl, .inl ⟨rfl, rfl⟩⟩, by simp⟩, Stepped.start (h.alloc _) (only_alloc (World.grownBy.refl w _) _)⟩
  · have hd : decide ((24 : Int) < (a : Int) * (b : Int)) = false := decide_eq_false (by omega)
    have m2 : (a : Int) * (b : Int) ≤ 24 := by omega
    have MM := Lib.hid mE
    have MH := Lib.hid hbig
    clear mE hbig m1 hm36
    go_enter Try.func125, Try.ntmps125
    go_wp2_with (first
      | (go_at_call 78; refine (l1In_any _ _ _ _).mono ?_; rintro e w' ⟨rfl, rfl⟩))
    have hD0 : DS w ((w.alloc (.cells #[.int .i64 0, .int .i64 0, .slice none 0 0] 25)).alloc (.cells #[.int .i64 (a : Nat), .int .i64 (b : Nat), .slice none 0 0] 25)) g B A n c p 0 zs (w.heap.size + 1) a b (.slice none 0 0) [] := by
      refine ⟨Stepped.start ((h.alloc _).alloc _) (only_alloc (only_alloc (World.grownBy.refl w _) _) _), hglt, (Blk.new w _ _).alloc _, ?_, ⟨rfl, .inl ⟨rfl, rfl⟩⟩, by omega⟩
      have := Blk.new (w.alloc (.cells #[.int .i64 0, .int .i64 0, .slice none 0 0] 25)) 25 #[.int .i64 (a : Nat), .int .i64 (b : Nat), .slice none 0 0]
      simpa using this
    generalize (w.alloc (.cells #[.int .i64 0, .int .i64 0, .slice none 0 0] 25)).alloc (.cells #[.int .i64 (a : Nat), .int .i64 (b : Nat), .slice none 0 0] 25) = w2 at *
    generalize w.heap.size + 1 = x at *
    clear hd I1 I2
    go_loopg [6] (a * b) (fun r s6 wr => ∃ (j : Nat) (v : Value) (cs : List Bool), j + r = a * b ∧ s6 = .int .i64 (j : Nat) ∧ cs.length = j ∧ DS w wr g B A n c p 0 zs x a b v cs)
    case atStart => exact ⟨0, _, [], by omega, rfl, rfl, hD0⟩
    case round =>
      clear hD0
      obtain ⟨j, v, cs, hj, rfl, hcl, hD⟩ := hrel
      have HJ := Lib.hid hj
      have HCL := Lib.hid hcl
      clear hj hcl
      by_cases hjm : j < a * b
      · obtain ⟨⟨a0, a1, a2⟩, ⟨f0, f1, f2⟩, _, _⟩ := hD.cells
        have hjl : decide ((j : Int) < (a : Int) * (b : Int)) = true := decide_eq_true (by have := MM.out; omega)
        go_wp2_with (at_builtin; refine wpList_app rfl _ _ _ rfl w.heap.size 4 (.bool false) 1 Try.underlying23 info_bool rfl (by omega) v cs.length _ rfl (hD.own.alloc _) wr.heap.size (.bool true) rfl ?c1 rfl (by have := HCL.out; have := MH.out; omega) ?c2 ?_)
        case c1 => simp
        case c2 => have := hD.res.lt; simp; omega
        rintro g' cc' w8 hown hgr _ _ _
        have hD8 := hD.app hown hgr
        obtain ⟨c5, f5⟩ := hD.kept hgr
        clear a0 a1 a2 f0 f1 f2 hD hown hgr
        go_wp2_with fail
        go_roundg (a * b - (j + 1))
        case measure => have := HJ.out; omega
        case rel => exact ⟨j + 1, _, _, by have := HJ.out; omega, by go_num, by simp [HCL.out], hD8⟩
      · obtain ⟨A3, c3, rfl, hc3, _⟩ := own_form hD.own
        obtain ⟨⟨a0, a1, a2⟩, ⟨f0, f1, f2⟩, ⟨r0, r1, r2⟩, q0, q1, q2⟩ := hD.cells
        have hjl : decide ((j : Int) < (a : Int) * (b : Int)) = false := decide_eq_false (by have := MM.out; omega)
        obtain ⟨o1, o2⟩ := hD.out (by have := HCL.out; have := HJ.out; have := MH.out; omega) (e := 0) (by omega) (.int .i64 a) (.int .i64 b) (.slice A3 cs.length c3)
        go_wp2_with fail
        exact bodyPost_ret (v := .agg #[.int .i64 a, .int .i64 b, .slice A3 cs.length c3]) (by simp [results, Try.results125, go_sem, r0, r1, r2]) rfl ⟨a, b, _, _, rfl, o1, o2⟩

end Go.Proofs.Ytahpipcmgcambaa
