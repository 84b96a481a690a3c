/-
  YthepfpiphlfgnaaRd: the reader of codes: l20Open, pick, odd.
-/
import Derived.Test.YthepfpiphlfgnaaWa
import Derived.Laws.BitsAllLaws
import Derived.Laws.BitsLemmas
import Derived.OpenShut
namespace Go.Proofs.Ythepfpiphlfgnaa
open Go.RowKit

theorem ofInt_i64 (a : Nat) (ha : a < 9223372036854775808) : (BitVec.ofInt 64 (a : Int)).toNat = a := by
  rw [BitVec.ofInt_natCast, BitVec.toNat_ofNat]; exact Nat.mod_eq_of_lt (by omega)
theorem i64_xor_nat (a b : Nat) (ha : a < 9223372036854775808) (hb : b < 9223372036854775808) : bits .xor .i64 (a : Int) (b : Int) = ((a ^^^ b : Nat) : Int) := by
  have hx : a ^^^ b < 2 ^ 63 := Nat.xor_lt_two_pow (by omega) (by omega)
  show IntKind.i64.wrap ((BitVec.ofInt 64 (a : Int) ^^^ BitVec.ofInt 64 (b : Int)).toNat : Int) = _
  rw [BitVec.toNat_xor, ofInt_i64 a ha, ofInt_i64 b hb, IntKind.wrap_i64]
  omega
theorem xor_some (a b : Int) (ha : 0 ≤ a) (hb : 0 ≤ b) (ha' : a ≤ 1000000000000000) (hb' : b ≤ 1000000000000000) : ∃ c : Nat, bits .xor .i64 a b = (c : Int) ∧ c ≤ 9223372036854775807 := by
  obtain ⟨a, rfl⟩ := Int.eq_ofNat_of_zero_le ha
  obtain ⟨b, rfl⟩ := Int.eq_ofNat_of_zero_le hb
  refine ⟨a ^^^ b, i64_xor_nat a b (by omega) (by omega), ?_⟩
  have hx : a ^^^ b < 2 ^ 63 := Nat.xor_lt_two_pow (by omega) (by omega)
  omega

/-- A reader: block g holds the code and the place; 'B': below it lies the code. -/
structure Rd (w : World) (g B : Nat) (A : Option Addr) (n c p : Nat) (zs : List Int) : Prop where
  blk : Blk w g 108 #[.slice A n c, .int .i64 p]
  code : Reads w B 1 A n (zs.map (Value.int .u8))
  len : n ≤ 2000
  out : B ≤ g
  wf : ∀ z ∈ zs, 0 ≤ z ∧ z ≤ 255

theorem Rd.lt {w : World} {g B : Nat} {A : Option Addr} {n c p : Nat} {zs : List Int} (h : Rd w g B A n c p zs) : g < w.heap.size := h.blk.lt
theorem Rd.grown {w w' : World} {g B : Nat} {A : Option Addr} {n c p : Nat} {zs : List Int} {row : Option Nat} (h : Rd w g B A n c p zs) (hg : w.grownBy w' row) (hr : some g ≠ row) (hr2 : ∀ k, row = some k → B ≤ k) : Rd w' g B A n c p zs :=
  ⟨h.blk.grown hg hr, h.code.grown hg (by have := h.lt; have := h.out; omega) hr2, h.len, h.out, h.wf⟩
theorem Rd.below {w w' : World} {g B C : Nat} {A : Option Addr} {n c p : Nat} {zs : List Int} (h : Rd w g B A n c p zs) (hb : Below C w w') (hC : g < C) : Rd w' g B A n c p zs :=
  ⟨h.blk.below hb hC, h.code.below (hb.mono (by have := h.out; omega)), h.len, h.out, h.wf⟩
theorem Rd.alloc {w : World} {g B : Nat} {A : Option Addr} {n c p : Nat} {zs : List Int} (h : Rd w g B A n c p zs) (o : Obj) : Rd (w.alloc o) g B A n c p zs :=
  ⟨h.blk.alloc o, h.code.alloc (by have := h.lt; have := h.out; omega) o, h.len, h.out, h.wf⟩
theorem Rd.set_ {w : World} {g B : Nat} {A : Option Addr} {n c p : Nat} {zs : List Int} (h : Rd w g B A n c p zs) {a : Addr} (hg : g ≠ a.block) (hB : B ≤ a.block) (u : Value) : Rd (w.setCell a u) g B A n c p zs :=
  ⟨h.blk.far hg u, h.code.setCell hB u, h.len, h.out, h.wf⟩
theorem Rd.cells {w : World} {g B : Nat} {A : Option Addr} {n c p : Nat} {zs : List Int} (h : Rd w g B A n c p zs) : w.cell? ⟨g, 0, none⟩ = some (.slice A n c) ∧ w.cell? ⟨g, 1, none⟩ = some (.int .i64 p) ∧ w.frozen? ⟨g, 1, none⟩ = false := by
  refine ⟨?_, ?_, h.blk.frozen 1⟩
  · have := h.blk.cell 0; simpa using this
  · have := h.blk.cell 1; simpa using this

theorem rd_byte {w : World} {g B : Nat} {A : Option Addr} {n c p : Nat} {zs : List Int} (h : Rd w g B A n c p zs) {k : Nat} (hk : k < n) : ∃ ad z, A = some ad ∧ ad.block < B ∧ w.cell? (ad.add k) = some (.int .u8 z) ∧ 0 ≤ z ∧ z ≤ 255 := by
  obtain ⟨ad, u, hA, hb, hx, hc⟩ := h.code.at_ hk
  rw [List.getElem?_map] at hx
  cases hz : zs[k]? with
  | none => rw [hz] at hx; cases hx
  | some z =>
    rw [hz] at hx
    injection hx with hx
    subst hx
    have := h.wf z (List.mem_of_getElem? hz)
    exact ⟨ad, z, hA, hb, hc, this.1, this.2⟩

/-- What a pick leaves: a number in its range, and the reader one place on; nothing else that was there has turned. -/
def Picked (w : World) (g B : Nat) (A : Option Addr) (n c p : Nat) (zs : List Int) (m : Int) (e : Ending) (w' : World) : Prop :=
  ∃ x : Int, e = .returned (.int .i64 x) ∧ 0 ≤ x ∧ (1 ≤ m → x < m) ∧ (m < 1 → x = 0) ∧ Rd w' g B A n c (p + 1) zs ∧ w.grownBy w' (some g)

theorem rd_step {w : World} {g B : Nat} {A : Option Addr} {n c p : Nat} {zs : List Int} (h : Rd w g B A n c p zs) : Rd (w.setCell ⟨g, 1, none⟩ (.int .i64 ((p : Int) + 1))) g B A n c (p + 1) zs ∧ w.grownBy (w.setCell ⟨g, 1, none⟩ (.int .i64 ((p : Int) + 1))) (some g) := by
  refine ⟨⟨?_, h.code.setCell (p := ⟨g, 1, none⟩) h.out _, h.len, h.out, h.wf⟩, ⟨rfl, rfl, rfl, by simp [World.setCell], fun k _ hk => Below.heap_setCell _ _ _ _ (fun e => hk (by simp [e]))⟩⟩
  have := h.blk.set_ 1 (.int .i64 ((p : Int) + 1))
  simpa using this

set_option maxHeartbeats 400000 in
theorem pick_any (g B : Nat) (A : Option Addr) (n c p : Nat) (zs : List Int) (m : Int) (w : World) (h : Rd w g B A n c p zs) (hp : p ≤ 1000000000000) :
    Calls Try.prog 88 #[.pointer (some ⟨g, 0, none⟩), .int .i64 m] w (Picked w g B A n c p zs m) := by
  obtain ⟨c0, c1, f1⟩ := h.cells
  obtain ⟨hR, hG⟩ := rd_step h
  have hlen := h.len
  by_cases hm : m < 1
  · go_enter Try.func88, Try.ntmps88
    go_wp2
    go_ret
    exact ⟨0, rfl, by omega, by omega, by omega, hR, hG⟩
  · have hm' : 1 ≤ m := by omega
    clear hm
    by_cases hn : n = 0
    · subst hn
      have hn0 : ((0 : Int) == 0) = true := rfl
      go_enter Try.func88, Try.ntmps88
      go_wp2
      go_ret
      exact ⟨0, rfl, by omega, by omega, by omega, hR, hG⟩
    · have hn0 : ((n : Int) == 0) = false := by simp; omega
      have hn1 : 1 ≤ n := by omega
      clear hn
      by_cases hk : p < n
      · obtain ⟨ad, z, rfl, hab, hcz, hz0, hz1⟩ := rd_byte h hk
        have hcz' : (w.setCell ⟨g, 1, none⟩ (.int .i64 ((p : Int) + 1))).cell? (ad.add p) = some (.int .u8 z) :=
          (World.cell?_setCell_other w _ _ _ (fun e => by have := h.out; have := congrArg Addr.block e; rw [block_of_add] at this; simp at this; omega)).trans hcz
        go_enter Try.func88, Try.ntmps88
        go_wp2
        go_ret
        exact ⟨_, rfl, Int.emod_nonneg _ (by omega), fun _ => Int.emod_lt_of_pos _ (by omega), by omega, hR, hG⟩
      · have hk' : n ≤ p := by omega
        have hki : ((n : Int) ≤ (p : Int)) := by omega
        clear hk
        obtain ⟨ad, z, rfl, hab, hcz, hz0, hz1⟩ := rd_byte h (k := p % n) (Nat.mod_lt _ (by omega))
        obtain ⟨ad', y, hA, _, hcy, hy0, hy1⟩ := rd_byte h (k := (p * 7 + 3) % n) (Nat.mod_lt _ (by omega))
        injection hA with hA
        subst hA
        have hcz' : (w.setCell ⟨g, 1, none⟩ (.int .i64 ((p : Int) + 1))).cell? (ad.add (p % n)) = some (.int .u8 z) :=
          (World.cell?_setCell_other w _ _ _ (fun e => by have := h.out; have := congrArg Addr.block e; rw [block_of_add] at this; simp at this; omega)).trans hcz
        have hcy' : (w.setCell ⟨g, 1, none⟩ (.int .i64 ((p : Int) + 1))).cell? (ad.add ((p * 7 + 3) % n)) = some (.int .u8 y) :=
          (World.cell?_setCell_other w _ _ _ (fun e => by have := h.out; have := congrArg Addr.block e; rw [block_of_add] at this; simp at this; omega)).trans hcy
        clear hcz hcy
        have d0 : 0 ≤ (p : Int) / (n : Int) := Int.ediv_nonneg (by omega) (by omega)
        have d1 : (p : Int) / (n : Int) ≤ p := Int.ediv_le_self _ (by omega)
        have m0 : 0 ≤ (p : Int) % (n : Int) := Int.emod_nonneg _ (by omega)
        have m1 : (p : Int) % (n : Int) < n := Int.emod_lt_of_pos _ (by omega)
        have l0 : 0 ≤ ((p : Int) * 7 + 3) % (n : Int) := Int.emod_nonneg _ (by omega)
        have l1 : ((p : Int) * 7 + 3) % (n : Int) < n := Int.emod_lt_of_pos _ (by omega)
        go_enter Try.func88, Try.ntmps88
        go_wp2
        go_quiet (fail)
        clear d0 m0 m1 l0 l1 hcz' hcy'
        have x0 : 0 ≤ z * 131 + y * 1117 + (p : Int) * 29 + (p : Int) / (n : Int) * 53 := by
          have : 0 ≤ (p : Int) / (n : Int) := Int.ediv_nonneg (by omega) (by omega)
          omega
        have x1 : z * 131 + y * 1117 + (p : Int) * 29 + (p : Int) / (n : Int) * 53 ≤ 900000000000000 := by omega
        generalize z * 131 + y * 1117 + (p : Int) * 29 + (p : Int) / (n : Int) * 53 = X at x0 x1 ⊢
        obtain ⟨r, hr, hr'⟩ := xor_some X (X / 64) x0 (by omega) (by omega) (by omega)
        clear d1
        go_wp2
        go_ret
        exact ⟨_, rfl, Int.emod_nonneg _ (by omega), fun _ => Int.emod_lt_of_pos _ (by omega), by omega, ⟨hR.blk, hR.code, hR.len, hR.out, hR.wf⟩, only_drewN hG _⟩

/-- What a reader's step leaves: a value, and the reader some places on. -/
def Stepped (w : World) (g B : Nat) (A : Option Addr) (n c p d : Nat) (zs : List Int) (w' : World) : Prop :=
  ∃ p', p ≤ p' ∧ p' ≤ p + d ∧ Rd w' g B A n c p' zs ∧ w.grownBy w' (some g)

def SteppedB (w : World) (g B : Nat) (A : Option Addr) (n c p d : Nat) (zs : List Int) (e : Ending) (w' : World) : Prop :=
  ∃ b : Bool, e = .returned (.bool b) ∧ Stepped w g B A n c p d zs w'

theorem odd_any (g B : Nat) (A : Option Addr) (n c p : Nat) (zs : List Int) (m : Int) (w : World) (h : Rd w g B A n c p zs) (hp : p ≤ 1000000000000) :
    Calls Try.prog 130 #[.pointer (some ⟨g, 0, none⟩), .int .i64 m] w (SteppedB w g B A n c p 1 zs) := by
  by_cases hm : 0 < m
  · go_enter Try.func130, Try.ntmps130
    go_wp2_with fail
    refine (pick_any g B A n c p zs m _ h hp).mono ?_
    rintro e w1 ⟨x, rfl, _, _, _, h1, h2⟩
    go_wp2
    go_ret
    exact ⟨_, rfl, p + 1, by omega, by omega, h1, h2⟩
  · go_enter Try.func130, Try.ntmps130
    go_wp2_with fail
    go_ret
    exact ⟨_, rfl, p, by omega, by omega, h, World.grownBy.refl _ _⟩

theorem Reads_take {w : World} {B n k : Nat} {A : Option Addr} {xs : List Value} (h : Reads w B 1 A n xs) (hk : k ≤ n) : Reads w B 1 A k (xs.take k) := by
  have hl := h.1
  refine ⟨by simp; omega, fun hn => ?_⟩
  obtain ⟨ad, e, hb, hc⟩ := h.2 (by omega)
  refine ⟨ad, e, hb, fun j u hu => hc j u ?_⟩
  by_cases hj : j < k
  · rwa [List.getElem?_take_of_lt hj] at hu
  · rw [List.getElem?_eq_none (by simp; omega)] at hu; cases hu

def Opened (w : World) (A : Option Addr) (c : Nat) (e : Ending) (w' : World) : Prop :=
  ∃ g n zs, e = .returned (.pointer (some ⟨g, 0, none⟩)) ∧ Rd w' g w.heap.size A n c 0 zs ∧ Below w.heap.size w w'

theorem open_any (A : Option Addr) (n c : Nat) (zs : List Int) (w : World) (hr : Reads w w.heap.size 1 A n (zs.map (Value.int .u8))) (hnc : n ≤ c) (hn : n ≤ 1048576) (hwz : ∀ z ∈ zs, (Lit.int .u8 z).wf = true) :
    Calls Try.prog 64 #[.slice A n c] w (Opened w A c) := by
  have hz : ∀ z ∈ zs, 0 ≤ z ∧ z ≤ 255 := fun z hz => by
    have := bounds_u8 (hwz z hz)
    exact ⟨this.1, this.2⟩
  by_cases h : 2000 < n
  · go_enter Try.func64, Try.ntmps64
    go_wp2
    go_ret
    exact ⟨_, 2000, zs.take 2000, rfl, ⟨Blk.new _ _ _, by rw [List.map_take]; exact Reads_take (hr.alloc (Nat.le_refl _) _) (by omega), by omega, Nat.le_refl _, fun z h => hz z (List.mem_of_mem_take h)⟩, (Below.refl _ _).alloc (Nat.le_refl _) _⟩
  · go_enter Try.func64, Try.ntmps64
    go_wp2
    go_ret
    exact ⟨_, n, zs, rfl, ⟨Blk.new _ _ _, (hr.alloc (Nat.le_refl _) _), by omega, Nat.le_refl _, hz⟩, (Below.refl _ _).alloc (Nat.le_refl _) _⟩

def SteppedI (w : World) (g B : Nat) (A : Option Addr) (n c p d : Nat) (zs : List Int) (e : Ending) (w' : World) : Prop :=
  ∃ x : Int, e = .returned (.int .i64 x) ∧ -9000000000 ≤ x ∧ x ≤ 9000000000 ∧ Stepped w g B A n c p d zs w'

def IntBelow (w : World) (lo hi : Int) (e : Ending) (w' : World) : Prop := ∃ x : Int, e = .returned (.int .i64 x) ∧ lo ≤ x ∧ x ≤ hi ∧ Below w.heap.size w w'

end Go.Proofs.Ythepfpiphlfgnaa
