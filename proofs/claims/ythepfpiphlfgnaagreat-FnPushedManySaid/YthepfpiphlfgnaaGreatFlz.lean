/-
  YthepfpiphlfgnaaGreatFlz: the texts Fl, Q4 in one file.
-/
import Derived.BigRegion
import Derived.Test.YthepfpiphlfgnaaGreatMa
import Derived.Test.YthepfpiphlfgnaaGreatEx
import Derived.Test.YthepfpiphlfgnaaGreatRb

/-
  YthepfpiphlfgnaaGreatFl: flips of the program: around, flippable, flip.
-/
namespace Go.Proofs.YthepfpiphlfgnaaGreat
open Go.RowKit

/-- Does a corner lie inside of the field? -/
def insB (R : Reg) (k : Nat) : Bool := decide (1 ≤ k % (R.W + 1) ∧ k % (R.W + 1) + 1 ≤ R.W ∧ 1 ≤ k / (R.W + 1) ∧ k / (R.W + 1) + 1 ≤ R.T)
/-- The cell in its south-west. -/
def swc (R : Reg) (k : Nat) : Nat := (k / (R.W + 1) - 1) * R.W + (k % (R.W + 1) - 1)

theorem blk3 {w : World} {x : Nat} {ty : TypeId} {a b c : Value} (H : Blk w x ty #[a, b, c]) : w.cell? ⟨x, 0, none⟩ = some a ∧ w.cell? ⟨x, 1, none⟩ = some b ∧ w.cell? ⟨x, 2, none⟩ = some c := by
  have h0 := H.cell 0
  have h1 := H.cell 1
  have h2 := H.cell 2
  simp at h0 h1 h2
  exact ⟨h0, h1, h2⟩
theorem blk4 {w : World} {x : Nat} {ty : TypeId} {a b c d : Value} (H : Blk w x ty #[a, b, c, d]) : w.cell? ⟨x, 0, none⟩ = some a ∧ w.cell? ⟨x, 1, none⟩ = some b ∧ w.cell? ⟨x, 2, none⟩ = some c ∧ w.cell? ⟨x, 3, none⟩ = some d := by
  have h0 := H.cell 0
  have h1 := H.cell 1
  have h2 := H.cell 2
  have h3 := H.cell 3
  simp at h0 h1 h2 h3
  exact ⟨h0, h1, h2, h3⟩

abbrev arr4 (a b c d : Int) : Value := .agg #[.int .i64 a, .int .i64 b, .int .i64 c, .int .i64 d]

set_option maxRecDepth 20000 in
theorem around_yes (R : Reg) (hR : R.ok) (A : Option Addr) (n c : Nat) (k : Nat) (hk : insB R k = true) (w : World) :
    Calls Tryz.prog 93 #[.agg #[.int .i64 R.W, .int .i64 R.T, .slice A n c], .int .i64 (k : Nat)] w fun e w' =>
      e = .returned (.tuple #[arr4 (swc R k : Nat) ((swc R k : Nat) + 1) ((swc R k : Nat) + R.W) ((swc R k : Nat) + R.W + 1), .bool true]) ∧ Below w.heap.size w w' := by
  unfold insB at hk
  have hk' := of_decide_eq_true hk
  obtain ⟨k1, k2, k3, k4⟩ := hk'
  have hW6 := hR.2.1
  have hT6 := hR.2.2.2.1
  have hmod : Int.tmod (k : Int) ((R.W : Int) + 1) = ((k % (R.W + 1) : Nat) : Int) := by
    rw [show (R.W : Int) + 1 = ((R.W + 1 : Nat) : Int) by omega]; rfl
  have hdiv : Int.tdiv (k : Int) ((R.W : Int) + 1) = ((k / (R.W + 1) : Nat) : Int) := by
    rw [show (R.W : Int) + 1 = ((R.W + 1 : Nat) : Int) by omega]; rfl
  have hswc : ((swc R k : Nat) : Int) = (((k / (R.W + 1) : Nat) : Int) - 1) * R.W + ((k % (R.W + 1) : Nat) : Int) - 1 := by
    unfold swc
    obtain ⟨a, ha⟩ : ∃ a, k / (R.W + 1) = a + 1 := ⟨k / (R.W + 1) - 1, by omega⟩
    obtain ⟨b, hb⟩ : ∃ b, k % (R.W + 1) = b + 1 := ⟨k % (R.W + 1) - 1, by omega⟩
    rw [ha, hb]
    simp
    omega
  have HS := Lib.hid hswc
  generalize k % (R.W + 1) = x at *
  generalize k / (R.W + 1) = y at *
  generalize swc R k = s at *
  clear hk hswc
  go_enter Tryz.func93, Tryz.ntmps93
  go_upto_region 1 with fail
  obtain ⟨hb0, hk0, b0, b1, b2⟩ := box_keep (w := w) (W := R.W) (T := R.T) (A := A) (n := n) (c := c) (((Below.refl (w.alloc (boxR R.W R.T A n c)).heap.size (w.alloc (boxR R.W R.T A n c))).alloc (Nat.le_refl _) (.cells #[.int .i64 0, .int .i64 0, .int .i64 0, .int .i64 0] 94)))
  have hq0 : Blk ((w.alloc (boxR R.W R.T A n c)).alloc (.cells #[.int .i64 0, .int .i64 0, .int .i64 0, .int .i64 0] 94)) (w.heap.size + 1) 94 #[.int .i64 0, .int .i64 0, .int .i64 0, .int .i64 0] := by
    simpa using Blk.new (w.alloc (boxR R.W R.T A n c)) 94 #[.int .i64 0, .int .i64 0, .int .i64 0, .int .i64 0]
  have u1 : IntKind.i64.wrap ((R.W : Int) + 1) = (R.W : Int) + 1 := IntWalk.i64_in _ (by omega)
  generalize (w.alloc (boxR R.W R.T A n c)).alloc (.cells #[.int .i64 0, .int .i64 0, .int .i64 0, .int .i64 0] 94) = w1 at *
  have I1 := Lib.hid (inB_t (n := (x : Int)) (lo := 1) (hi := (R.W : Int) - 1) (by omega))
  have I2 := Lib.hid (inB_t (n := (y : Int)) (lo := 1) (hi := (R.T : Int) - 1) (by omega))
  have hpb : 0 ≤ ((y : Int) - 1) * (R.W : Int) ∧ ((y : Int) - 1) * (R.W : Int) ≤ 49 := by
    obtain ⟨z, hz⟩ : ∃ z : Nat, (y : Int) - 1 = z := ⟨y - 1, by omega⟩
    rw [hz]
    exact prod_bd (by omega) (by omega)
  obtain ⟨p0, p1⟩ := hpb
  go_quiet (fail)
  have hb1 := hb0.trans (below_drewN (Below.refl w1.heap.size w1) nq |>.mono hb0.size)
  have hk1 := hk0.below (below_drewN (Below.refl w1.heap.size w1) nq) hk0.lt
  have hq1 := hq0.below (below_drewN (Below.refl w1.heap.size w1) nq) hq0.lt
  clear hk0 hq0 hb0 b0 b1 b2
  generalize w1.drewN nq = w2 at *
  obtain ⟨b0, b1, b2⟩ := blk3 hk1
  obtain ⟨a0, a1, a2, a3⟩ := blk4 hq1
  have f0 := hq1.frozen 0
  have f1 := hq1.frozen 1
  have f2 := hq1.frozen 2
  have f3 := hq1.frozen 3
  go_wp2_with (go_at_call 32; refine (in_any _ _ _ _).mono ?_; rintro e w' ⟨rfl, rfl⟩; first | rw [I1.out] | rw [I2.out])
  have e0 : ((y : Int) - 1) * (R.W : Int) + (x : Int) - 1 = (s : Int) := HS.out.symm
  have e1 : ((y : Int) - 1) * (R.W : Int) + (x : Int) = (s : Int) + 1 := by rw [HS.out]; omega
  rw [e0, e1]
  have hq2 := (((hq1.set_ 0 (.int .i64 s)).set_ 1 (.int .i64 ((s : Int) + 1))).set_ 2 (.int .i64 ((s : Int) + R.W))).set_ 3 (.int .i64 ((s : Int) + R.W + 1))
  clear a0 a1 a2 a3 b0 b1 b2 f0 f1 f2 f3
  simp at hq2
  have hb2 : Below w.heap.size w ((((w2.setCell ⟨w.heap.size + 1, 0, none⟩ (.int .i64 s)).setCell ⟨w.heap.size + 1, 1, none⟩ (.int .i64 ((s : Int) + 1))).setCell ⟨w.heap.size + 1, 2, none⟩ (.int .i64 ((s : Int) + R.W))).setCell ⟨w.heap.size + 1, 3, none⟩ (.int .i64 ((s : Int) + R.W + 1))) :=
    (((hb1.setCell (by simp) _).setCell (by simp) _).setCell (by simp) _).setCell (by simp) _
  generalize (((w2.setCell ⟨w.heap.size + 1, 0, none⟩ (.int .i64 s)).setCell ⟨w.heap.size + 1, 1, none⟩ (.int .i64 ((s : Int) + 1))).setCell ⟨w.heap.size + 1, 2, none⟩ (.int .i64 ((s : Int) + R.W))).setCell ⟨w.heap.size + 1, 3, none⟩ (.int .i64 ((s : Int) + R.W + 1)) = w3 at *
  obtain ⟨a0, a1, a2, a3⟩ := blk4 hq2
  refine bodyPost_ret (v := .tuple #[arr4 s ((s : Int) + 1) ((s : Int) + R.W) ((s : Int) + R.W + 1), .bool true]) (by simp [results, Tryz.results93, go_sem, a0, a1, a2, a3]) rfl ⟨rfl, hb2⟩

def insZ (R : Reg) (k : Int) : Bool := decide (0 ≤ k) && insB R k.toNat

set_option maxRecDepth 20000 in
theorem around_no (R : Reg) (hR : R.ok) (A : Option Addr) (n c : Nat) (k : Int) (hk9 : k ≤ 9223372036854775807) (hk : insZ R k = false) (w : World) :
    Calls Tryz.prog 93 #[.agg #[.int .i64 R.W, .int .i64 R.T, .slice A n c], .int .i64 k] w fun e w' =>
      e = .returned (.tuple #[arr4 0 0 0 0, .bool false]) ∧ Below w.heap.size w w' := by
  have hW6 := hR.2.1
  have hT6 := hR.2.2.2.1
  obtain ⟨x, hx⟩ : ∃ x, x = Int.tmod k ((R.W : Int) + 1) := ⟨_, rfl⟩
  obtain ⟨y, hy⟩ : ∃ y, y = wrap64 (Int.tdiv k ((R.W : Int) + 1)) := ⟨_, rfl⟩
  have hcase : decide (k < 0) = true ∨ (decide (k < 0) = false ∧ (inB x 1 ((R.W : Int) - 1) = false ∨ (inB x 1 ((R.W : Int) - 1) = true ∧ inB y 1 ((R.T : Int) - 1) = false))) := by
    by_cases h0 : k < 0
    · exact .inl (decide_eq_true h0)
    · refine .inr ⟨decide_eq_false h0, ?_⟩
      obtain ⟨m, rfl⟩ := Int.eq_ofNat_of_zero_le (show 0 ≤ k by omega)
      have hmod : Int.tmod (m : Int) ((R.W : Int) + 1) = ((m % (R.W + 1) : Nat) : Int) := by
        rw [show (R.W : Int) + 1 = ((R.W + 1 : Nat) : Int) by omega]; rfl
      have hdiv : Int.tdiv (m : Int) ((R.W : Int) + 1) = ((m / (R.W + 1) : Nat) : Int) := by
        rw [show (R.W : Int) + 1 = ((R.W + 1 : Nat) : Int) by omega]; rfl
      have hle : m / (R.W + 1) ≤ m := Nat.div_le_self _ _
      rw [hmod] at hx
      have hw : wrap64 ((m / (R.W + 1) : Nat) : Int) = ((m / (R.W + 1) : Nat) : Int) := by
        generalize m / (R.W + 1) = q at hle
        exact IntWalk.wrap64_in _ (by omega)
      rw [hdiv, hw] at hy
      unfold insZ at hk
      rw [decide_eq_true (by omega), Bool.true_and] at hk
      have hk' := of_decide_eq_false (show decide _ = false from hk)
      simp only [Int.toNat_natCast] at hk'
      subst hx hy
      by_cases h1 : 1 ≤ m % (R.W + 1) ∧ m % (R.W + 1) + 1 ≤ R.W
      · exact .inr ⟨inB_t (by omega), inB_f (by omega)⟩
      · exact .inl (inB_f (by omega))
  have HC := Lib.hid hcase
  have hz : ((R.W : Int) + 1 == 0) = false := by simp; omega
  clear hcase hk
  go_enter Tryz.func93, Tryz.ntmps93
  go_upto_region 1 with fail
  obtain ⟨hb0, hk0, b0, b1, b2⟩ := box_keep (w := w) (W := R.W) (T := R.T) (A := A) (n := n) (c := c) (((Below.refl (w.alloc (boxR R.W R.T A n c)).heap.size (w.alloc (boxR R.W R.T A n c))).alloc (Nat.le_refl _) (.cells #[.int .i64 0, .int .i64 0, .int .i64 0, .int .i64 0] 94)))
  have hq0 : Blk ((w.alloc (boxR R.W R.T A n c)).alloc (.cells #[.int .i64 0, .int .i64 0, .int .i64 0, .int .i64 0] 94)) (w.heap.size + 1) 94 #[.int .i64 0, .int .i64 0, .int .i64 0, .int .i64 0] := by
    simpa using Blk.new (w.alloc (boxR R.W R.T A n c)) 94 #[.int .i64 0, .int .i64 0, .int .i64 0, .int .i64 0]
  have u1 : IntKind.i64.wrap ((R.W : Int) + 1) = (R.W : Int) + 1 := IntWalk.i64_in _ (by omega)
  generalize (w.alloc (boxR R.W R.T A n c)).alloc (.cells #[.int .i64 0, .int .i64 0, .int .i64 0, .int .i64 0] 94) = w1 at *
  go_quiet (fail)
  rw [← hx, ← hy]
  have hb1 := hb0.trans (below_drewN (Below.refl w1.heap.size w1) nq |>.mono hb0.size)
  have hk1 := hk0.below (below_drewN (Below.refl w1.heap.size w1) nq) hk0.lt
  have hq1 := hq0.below (below_drewN (Below.refl w1.heap.size w1) nq) hq0.lt
  clear hk0 hq0 hb0 b0 b1 b2 hx hy hz u1
  generalize w1.drewN nq = w2 at *
  obtain ⟨b0, b1, b2⟩ := blk3 hk1
  obtain ⟨a0, a1, a2, a3⟩ := blk4 hq1
  have f0 := hq1.frozen 0
  have f1 := hq1.frozen 1
  have f2 := hq1.frozen 2
  have f3 := hq1.frozen 3
  have fin : ∀ w3 : World, w3 = (((w2.setCell ⟨w.heap.size + 1, 0, none⟩ (.int .i64 0)).setCell ⟨w.heap.size + 1, 1, none⟩ (.int .i64 0)).setCell ⟨w.heap.size + 1, 2, none⟩ (.int .i64 0)).setCell ⟨w.heap.size + 1, 3, none⟩ (.int .i64 0) →
      w3.cell? ⟨w.heap.size + 1, 0, none⟩ = some (.int .i64 0) ∧ w3.cell? ⟨w.heap.size + 1, 1, none⟩ = some (.int .i64 0) ∧ w3.cell? ⟨w.heap.size + 1, 2, none⟩ = some (.int .i64 0) ∧ w3.cell? ⟨w.heap.size + 1, 3, none⟩ = some (.int .i64 0) ∧ Below w.heap.size w w3 := by
    rintro w3 rfl
    have hq2 := (((hq1.set_ 0 (.int .i64 0)).set_ 1 (.int .i64 0)).set_ 2 (.int .i64 0)).set_ 3 (.int .i64 0)
    simp at hq2
    obtain ⟨g0, g1, g2, g3⟩ := blk4 hq2
    exact ⟨g0, g1, g2, g3, (((hb1.setCell (by simp) _).setCell (by simp) _).setCell (by simp) _).setCell (by simp) _⟩
  have FIN := Lib.hid fin
  clear fin
  rcases HC.out with d0 | ⟨d0, I1 | ⟨I1, I2⟩⟩
  · go_wp2_with fail
    obtain ⟨w3, hw3⟩ : ∃ w3, w3 = (((w2.setCell ⟨w.heap.size + 1, 0, none⟩ (.int .i64 0)).setCell ⟨w.heap.size + 1, 1, none⟩ (.int .i64 0)).setCell ⟨w.heap.size + 1, 2, none⟩ (.int .i64 0)).setCell ⟨w.heap.size + 1, 3, none⟩ (.int .i64 0) := ⟨_, rfl⟩
    obtain ⟨g0, g1, g2, g3, hb3⟩ := FIN.out w3 hw3
    rw [← hw3]
    refine bodyPost_ret (v := .tuple #[arr4 0 0 0 0, .bool false]) (by simp [results, Tryz.results93, go_sem, g0, g1, g2, g3]) rfl ⟨rfl, hb3⟩
  · go_wp2_with (go_at_call 32; refine (in_any _ _ _ _).mono ?_; rintro e w' ⟨rfl, rfl⟩; first | rw [I1])
    obtain ⟨w3, hw3⟩ : ∃ w3, w3 = (((w2.setCell ⟨w.heap.size + 1, 0, none⟩ (.int .i64 0)).setCell ⟨w.heap.size + 1, 1, none⟩ (.int .i64 0)).setCell ⟨w.heap.size + 1, 2, none⟩ (.int .i64 0)).setCell ⟨w.heap.size + 1, 3, none⟩ (.int .i64 0) := ⟨_, rfl⟩
    obtain ⟨g0, g1, g2, g3, hb3⟩ := FIN.out w3 hw3
    rw [← hw3]
    refine bodyPost_ret (v := .tuple #[arr4 0 0 0 0, .bool false]) (by simp [results, Tryz.results93, go_sem, g0, g1, g2, g3]) rfl ⟨rfl, hb3⟩
  · go_wp2_with (go_at_call 32; refine (in_any _ _ _ _).mono ?_; rintro e w' ⟨rfl, rfl⟩; first | rw [I1] | rw [I2])
    obtain ⟨w3, hw3⟩ : ∃ w3, w3 = (((w2.setCell ⟨w.heap.size + 1, 0, none⟩ (.int .i64 0)).setCell ⟨w.heap.size + 1, 1, none⟩ (.int .i64 0)).setCell ⟨w.heap.size + 1, 2, none⟩ (.int .i64 0)).setCell ⟨w.heap.size + 1, 3, none⟩ (.int .i64 0) := ⟨_, rfl⟩
    obtain ⟨g0, g1, g2, g3, hb3⟩ := FIN.out w3 hw3
    rw [← hw3]
    refine bodyPost_ret (v := .tuple #[arr4 0 0 0 0, .bool false]) (by simp [results, Tryz.results93, go_sem, g0, g1, g2, g3]) rfl ⟨rfl, hb3⟩

theorem around_any (R : Reg) (hR : R.ok) (A : Option Addr) (n c : Nat) (k : Int) (hk9 : k ≤ 9223372036854775807) (w : World) :
    Calls Tryz.prog 93 #[.agg #[.int .i64 R.W, .int .i64 R.T, .slice A n c], .int .i64 k] w fun e w' =>
      e = .returned (.tuple #[if insZ R k = true then arr4 (swc R k.toNat : Nat) ((swc R k.toNat : Nat) + 1) ((swc R k.toNat : Nat) + R.W) ((swc R k.toNat : Nat) + R.W + 1) else arr4 0 0 0 0, .bool (insZ R k)]) ∧ Below w.heap.size w w' := by
  cases h : insZ R k with
  | false => exact around_no R hR A n c k hk9 h w
  | true =>
    unfold insZ at h
    rw [Bool.and_eq_true, decide_eq_true_eq] at h
    obtain ⟨m, rfl⟩ := Int.eq_ofNat_of_zero_le h.1
    exact around_yes R hR A n c m h.2 w

theorem ins_cells {R : Reg} (hR : R.ok) {k : Nat} (h : insB R k = true) : swc R k + R.W + 1 < R.C.length := by
  have h' := of_decide_eq_true (show decide _ = true from h)
  have := idx_lt hR (x := k % (R.W + 1)) (y := k / (R.W + 1)) (by omega) (by omega)
  unfold swc
  obtain ⟨a, ha⟩ : ∃ a, k / (R.W + 1) = a + 1 := ⟨k / (R.W + 1) - 1, by omega⟩
  obtain ⟨b, hb⟩ : ∃ b, k % (R.W + 1) = b + 1 := ⟨k % (R.W + 1) - 1, by omega⟩
  rw [ha, hb, Nat.add_mul] at this
  rw [ha, hb]
  simp only [Nat.add_sub_cancel]
  omega
def fl1 (R : Reg) (L : List Int) (k : Int) : Bool := insZ R k && (L.getD (swc R k.toNat) 0 == 1 && L.getD (swc R k.toNat + R.W) 0 == 1)
def fl2 (R : Reg) (L : List Int) (k : Int) : Bool := insZ R k && (L.getD (swc R k.toNat) 0 == 2 && L.getD (swc R k.toNat + 1) 0 == 2)

set_option maxRecDepth 20000 in
theorem flippable_any (R : Reg) (hR : R.ok) (A : Option Addr) (n c B : Nat) (L : List Int) (D : Option Addr) (d : Nat) (k : Int) (hk9 : k ≤ 9223372036854775807) (w : World)
    (hd : Reads w B 1 D R.C.length (L.map (Value.int .i64))) (_hB : B ≤ w.heap.size) :
    Calls Tryz.prog 92 #[.agg #[.int .i64 R.W, .int .i64 R.T, .slice A n c], .slice D R.C.length d, .int .i64 k] w fun e w' =>
      e = .returned (.tuple #[.bool (fl1 R L k), .bool (fl2 R L k)]) ∧ Below w.heap.size w w' := by
  have hW6 := hR.2.1
  have hl36 := (len_bd hR).2
  have HA := fun w' => hide (around_any R hR A n c k hk9 w')
  have H1 : Hid (fl1 R L k = (insZ R k && (L.getD (swc R k.toNat) 0 == 1 && L.getD (swc R k.toNat + R.W) 0 == 1))) := Lib.hid rfl
  have H2 : Hid (fl2 R L k = (insZ R k && (L.getD (swc R k.toNat) 0 == 2 && L.getD (swc R k.toNat + 1) 0 == 2))) := Lib.hid rfl
  cases hin : insZ R k with
  | false =>
    simp only [hin] at HA
    rw [H1.out, H2.out, hin]
    clear hin H1 H2
    go_enter Tryz.func92, Tryz.ntmps92
    go_wp2_with fail
    refine (unhide (HA _)).mono ?_
    rintro e w1 ⟨rfl, hb1⟩
    obtain ⟨hB1, hk1, b0, b1, b2⟩ := box_keep hb1
    go_wp2_with fail
    go_ret2
    exact ⟨rfl, hB1.alloc hB1.size _⟩
  | true =>
    have hin' := hin
    unfold insZ at hin'
    rw [Bool.and_eq_true, decide_eq_true_eq] at hin'
    have hcl := ins_cells hR hin'.2
    simp only [hin, if_true] at HA
    rw [hin] at H1 H2
    generalize swc R k.toNat = s at *
    obtain ⟨c1, hc1⟩ : ∃ c1 : Nat, s + 1 = c1 := ⟨_, rfl⟩
    obtain ⟨c2, hc2⟩ : ∃ c2 : Nat, s + R.W = c2 := ⟨_, rfl⟩
    obtain ⟨c3, hc3⟩ : ∃ c3 : Nat, s + R.W + 1 = c3 := ⟨_, rfl⟩
    simp only [show (s : Int) + 1 = (c1 : Nat) by omega, show (s : Int) + (R.W : Int) = (c2 : Nat) by omega, show (c2 : Int) + 1 = (c3 : Nat) by omega] at HA
    rw [hc2] at H1
    rw [hc1] at H2
    rw [Bool.true_and] at H1 H2
    rw [H1.out, H2.out]
    have l0 : s < R.C.length := by omega
    have l1 : c1 < R.C.length := by omega
    have l2 : c2 < R.C.length := by omega
    obtain ⟨ad, rfl, _, r0⟩ := hd.getI l0
    obtain ⟨ad1, e1, _, r1⟩ := hd.getI l1
    obtain ⟨ad2, e2, _, r2⟩ := hd.getI l2
    obtain rfl : ad = ad1 := by injection e1
    obtain rfl : ad = ad2 := by injection e2
    clear hin hin' H1 H2 e1 e2 hd hc1 hc2 hc3
    generalize L.getD s 0 = v0 at *
    generalize L.getD c1 0 = v1 at *
    generalize L.getD c2 0 = v2 at *
    go_enter Tryz.func92, Tryz.ntmps92
    go_wp2_with fail
    refine (unhide (HA _)).mono ?_
    rintro e w1 ⟨rfl, hb1⟩
    obtain ⟨hB1, hk1, b0, b1, b2⟩ := box_keep hb1
    go_upto_region 4 with fail
    have hq := Blk.new w1 94 #[.int .i64 s, .int .i64 c1, .int .i64 c2, .int .i64 c3]
    have hB2 := hB1.alloc hB1.size (.cells #[.int .i64 s, .int .i64 c1, .int .i64 c2, .int .i64 c3] 94)
    clear hb1 hk1 b0 b1 b2 HA
    generalize w1.alloc (.cells #[.int .i64 s, .int .i64 c1, .int .i64 c2, .int .i64 c3] 94) = w2 at *
    obtain ⟨a0, a1, a2, a3⟩ := blk4 hq
    have d0 := (hB2.cell (p := ad.add s) (World.block_lt_of_cell? w _ r0)).trans r0
    have d1 := (hB2.cell (p := ad.add c1) (World.block_lt_of_cell? w _ r1)).trans r1
    have d2 := (hB2.cell (p := ad.add c2) (World.block_lt_of_cell? w _ r2)).trans r2
    clear hq
    cases h1 : v0 == 1 with
    | true =>
      have h2 : (v0 == 2) = false := by simp at h1 ⊢; omega
      go_quiet (fail)
      go_wp2_with fail
      go_ret2
      exact ⟨by rw [h1, h2]; rfl, below_drewN hB2 _⟩
    | false =>
      cases h2 : v0 == 2 with
      | true =>
        go_quiet (fail)
        go_wp2_with fail
        go_ret2
        exact ⟨by rw [h1, h2]; rfl, below_drewN hB2 _⟩
      | false =>
        go_quiet (fail)
        go_wp2_with fail
        go_ret2
        exact ⟨by rw [h1, h2]; rfl, below_drewN hB2 _⟩

def set4 (R : Reg) (L : List Int) (s : Nat) (a b c d : Int) : List Int := (((L.set s a).set (s + 1) b).set (s + R.W) c).set (s + R.W + 1) d
def flV (R : Reg) (L : List Int) (k : Int) : List Int :=
  if fl1 R L k = true then set4 R L (swc R k.toNat) 2 2 4 4 else if fl2 R L k = true then set4 R L (swc R k.toNat) 1 3 1 3 else L
def flB (R : Reg) (L : List Int) (k : Int) : Bool := fl1 R L k || fl2 R L k
theorem set4_len (R : Reg) (L : List Int) (s : Nat) (a b c d : Int) : (set4 R L s a b c d).length = L.length := by simp [set4]
theorem flV_len (R : Reg) (L : List Int) (k : Int) : (flV R L k).length = L.length := by
  unfold flV
  split
  · exact set4_len ..
  · split
    · exact set4_len ..
    · rfl
theorem fl1_ins {R : Reg} {L : List Int} {k : Int} (h : fl1 R L k = true) : insZ R k = true := by unfold fl1 at h; rw [Bool.and_eq_true] at h; exact h.1
theorem fl2_ins {R : Reg} {L : List Int} {k : Int} (h : fl2 R L k = true) : insZ R k = true := by unfold fl2 at h; rw [Bool.and_eq_true] at h; exact h.1
theorem fl12 {R : Reg} {L : List Int} {k : Int} (h : fl1 R L k = true) : fl2 R L k = false := by
  unfold fl1 at h
  unfold fl2
  simp only [Bool.and_eq_true, beq_iff_eq] at h
  rw [h.2.1]
  simp

theorem own_set {w : World} {base g n c : Nat} {O : List Int} (h : w.ownsRow base 3 1 (.slice (some ⟨g, 0, none⟩) n c) n (O.map (Value.int .i64))) (j : Nat) (v : Int) :
    (w.setCell ⟨g, j, none⟩ (.int .i64 v)).ownsRow base 3 1 (.slice (some ⟨g, 0, none⟩) n c) n ((O.set j v).map (Value.int .i64)) := by
  have := (h.stored j (.int .i64 v)).1
  rwa [← List.map_set] at this
theorem own_drew {w : World} {base n : Nat} {v : Value} {xs : List Value} (h : w.ownsRow base 3 1 v n xs) : w.drew.ownsRow base 3 1 v n xs := own_below h (Below.refl _ _).drew (Nat.le_refl _)

set_option maxHeartbeats 1000000 in
set_option maxRecDepth 20000 in
theorem flip_any (R : Reg) (hR : R.ok) (A : Option Addr) (n c B : Nat) (L : List Int) (D : Option Addr) (d : Nat) (k : Int) (hk9 : k ≤ 9223372036854775807) (hP : Plain D) (hL : L.length = R.C.length) (w : World)
    (hd : Reads w B 1 D R.C.length (L.map (Value.int .i64))) (hB : B ≤ w.heap.size) :
    Calls Tryz.prog 71 #[.agg #[.int .i64 R.W, .int .i64 R.T, .slice A n c], .slice D R.C.length d, .int .i64 k] w (RetIB w (flV R L k) (flB R L k)) := by
  have hW6 := hR.2.1
  have hl36 := (len_bd hR).2
  have hl1 := (len_bd hR).1
  have HA := fun w' => hide (around_any R hR A n c k hk9 w')
  have HF := fun w' (h : Below w.heap.size w w') => hide (flippable_any R hR A n c B L D d k hk9 w' (hd.below (h.mono hB)) (Nat.le_trans hB h.size))
  have HC := fun w' (h : Below w.heap.size w w') => hide (clone_any D d B L w' hP (by rw [hL]; exact hd.below (h.mono hB)) (by omega))
  simp only [hL] at HC
  have hb0 : Below w.heap.size w (w.alloc (boxR R.W R.T A n c)) := (Below.refl _ _).alloc (Nat.le_refl _) _
  cases h1 : fl1 R L k with
  | true =>
    have h2 := fl12 h1
    have hin := fl1_ins h1
    have hv : flV R L k = set4 R L (swc R k.toNat) 2 2 4 4 := by unfold flV; rw [if_pos h1]
    have hb : flB R L k = true := by unfold flB; rw [h1]; rfl
    rw [hv, hb]
    have hin' := hin
    unfold insZ at hin'
    rw [Bool.and_eq_true, decide_eq_true_eq] at hin'
    have hcl := ins_cells hR hin'.2
    have hW2 : 2 ≤ R.W := by
      have := of_decide_eq_true (show decide _ = true from hin'.2)
      omega
    simp only [hin, if_true] at HA
    simp only [h1, h2] at HF
    unfold set4
    generalize swc R k.toNat = s at *
    obtain ⟨c1, hc1⟩ : ∃ c1 : Nat, s + 1 = c1 := ⟨_, rfl⟩
    obtain ⟨c2, hc2⟩ : ∃ c2 : Nat, s + R.W = c2 := ⟨_, rfl⟩
    obtain ⟨c3, hc3⟩ : ∃ c3 : Nat, c2 + 1 = c3 := ⟨_, rfl⟩
    simp only [show (s : Int) + 1 = (c1 : Nat) by omega, show (s : Int) + (R.W : Int) = (c2 : Nat) by omega, show (c2 : Int) + 1 = (c3 : Nat) by omega] at HA
    rw [hc1, hc2, hc3]
    have l0 : s < R.C.length := by omega
    have l1 : c1 < R.C.length := by omega
    have l2 : c2 < R.C.length := by omega
    have l3 : c3 < R.C.length := by omega
    have n1 : c1 ≠ s := by omega
    have n2 : c2 ≠ s := by omega
    have n3 : c3 ≠ s := by omega
    have n4 : c2 ≠ c1 := by omega
    have n5 : c3 ≠ c1 := by omega
    have n6 : c3 ≠ c2 := by omega
    clear hin hin' hv hb h1 h2 hc1 hc2 hc3
    go_enter Tryz.func71, Tryz.ntmps71
    go_wp2_with fail
    refine (unhide (HC _ hb0)).mono ?_
    rintro e w1 ⟨A', c', rfl, ho1, hb1⟩
    obtain ⟨hB1, hk1, b0, b1, b2⟩ := box_keep hb1
    rw [hL] at ho1 ⊢
    obtain ⟨g, cg, hsh, _, hg1, hg2⟩ := own_shape ho1 hl1
    simp only [Value.slice.injEq, true_and] at hsh
    obtain ⟨rfl, rfl⟩ := hsh
    have ho1' := own_mono ho1 hb0.size
    clear ho1 hb1 HC
    go_wp2_with fail
    refine (unhide (HF _ hB1)).mono ?_
    rintro e w2 ⟨rfl, hb2⟩
    have hB2 := hB1.trans (hb2.mono hB1.size)
    have ho2 := own_below ho1' hb2 (Nat.le_refl _)
    clear b0 b1 b2
    obtain ⟨hk2, b0, b1, b2⟩ := blk_keep hk1 hb2
    have hg3 : g < w2.heap.size := Nat.lt_of_lt_of_le hg2 hb2.size
    clear ho1' hb2 hk1 hB1 hg2 HF
    go_wp2_with fail
    refine (unhide (HA _)).mono ?_
    rintro e w3 ⟨rfl, hb3⟩
    have hB3 := hB2.trans (hb3.mono hB2.size)
    have ho3 := own_below ho2 hb3 (Nat.le_refl _)
    have hg4 : g < w3.heap.size := Nat.lt_of_lt_of_le hg3 hb3.size
    clear b0 b1 b2 hk2 hb3 hB2 ho2 hg3 HA
    go_upto_region 5 with fail
    have hq := Blk.new w3 94 #[.int .i64 s, .int .i64 c1, .int .i64 c2, .int .i64 c3]
    have hB4 := hB3.alloc hB3.size (.cells #[.int .i64 s, .int .i64 c1, .int .i64 c2, .int .i64 c3] 94)
    have ho4 := own_below ho3 ((Below.refl _ _).alloc (Nat.le_refl _) (.cells #[.int .i64 s, .int .i64 c1, .int .i64 c2, .int .i64 c3] 94)) (Nat.le_refl _)
    have hne : w3.heap.size ≠ g := by omega
    clear hB3 ho3
    generalize w3.alloc (.cells #[.int .i64 s, .int .i64 c1, .int .i64 c2, .int .i64 c3] 94) = w4 at *
    generalize w3.heap.size = q at *
    obtain ⟨a0, a1, a2, a3⟩ := blk4 hq
    have q0 := ho4.cellAt s (by omega)
    have q1 := ho4.cellAt c1 (by omega)
    have q2 := ho4.cellAt c2 (by omega)
    have q3 := ho4.cellAt c3 (by omega)
    have f0 := ho4.frozenAt s
    have f1 := ho4.frozenAt c1
    have f2 := ho4.frozenAt c2
    have f3 := ho4.frozenAt c3
    rw [List.getElem?_map, List.getElem?_eq_getElem (by omega)] at q0 q1 q2 q3
    simp only [Option.map_some] at q0 q1 q2 q3
    go_region
    have hB5 := (((hB4.setCell (p := ⟨g, s, none⟩) (by have := hB4.size; simp at hg1; simp; omega) (.int .i64 2)).setCell (p := ⟨g, c1, none⟩) (by simp at hg1; simp; omega) (.int .i64 2)).setCell (p := ⟨g, c2, none⟩) (by simp at hg1; simp; omega) (.int .i64 4)).setCell (p := ⟨g, c3, none⟩) (by simp at hg1; simp; omega) (.int .i64 4) |>.drew
    have ho5 := own_drew (own_set (own_set (own_set (own_set ho4 s 2) c1 2) c2 4) c3 4)
    clear q0 q1 q2 q3 f0 f1 f2 f3 a0 a1 a2 a3 hq ho4 hB4
    generalize ((((w4.setCell ⟨g, s, none⟩ (.int .i64 2)).setCell ⟨g, c1, none⟩ (.int .i64 2)).setCell ⟨g, c2, none⟩ (.int .i64 4)).setCell ⟨g, c3, none⟩ (.int .i64 4)).drew = w6 at *
    go_wp2_with fail
    go_ret2
    have hlen : ((((L.set s 2).set c1 2).set c2 4).set c3 4).length = R.C.length := by simp [hL]
    refine ⟨some ⟨g, 0, none⟩, c', R.C.length, by rw [hlen]; rfl, by rw [hlen]; exact ho5, hB5⟩
  | false =>
    cases h2 : fl2 R L k with
    | true =>
      have hin := fl2_ins h2
      have hv : flV R L k = set4 R L (swc R k.toNat) 1 3 1 3 := by unfold flV; rw [if_neg (by rw [h1]; decide), if_pos h2]
      have hb : flB R L k = true := by unfold flB; rw [h1, h2]; rfl
      rw [hv, hb]
      have hin' := hin
      unfold insZ at hin'
      rw [Bool.and_eq_true, decide_eq_true_eq] at hin'
      have hcl := ins_cells hR hin'.2
      have hW2 : 2 ≤ R.W := by
        have := of_decide_eq_true (show decide _ = true from hin'.2)
        omega
      simp only [hin, if_true] at HA
      simp only [h1, h2] at HF
      unfold set4
      generalize swc R k.toNat = s at *
      obtain ⟨c1, hc1⟩ : ∃ c1 : Nat, s + 1 = c1 := ⟨_, rfl⟩
      obtain ⟨c2, hc2⟩ : ∃ c2 : Nat, s + R.W = c2 := ⟨_, rfl⟩
      obtain ⟨c3, hc3⟩ : ∃ c3 : Nat, c2 + 1 = c3 := ⟨_, rfl⟩
      simp only [show (s : Int) + 1 = (c1 : Nat) by omega, show (s : Int) + (R.W : Int) = (c2 : Nat) by omega, show (c2 : Int) + 1 = (c3 : Nat) by omega] at HA
      rw [hc1, hc2, hc3]
      have l0 : s < R.C.length := by omega
      have l1 : c1 < R.C.length := by omega
      have l2 : c2 < R.C.length := by omega
      have l3 : c3 < R.C.length := by omega
      have n1 : c1 ≠ s := by omega
      have n2 : c2 ≠ s := by omega
      have n3 : c3 ≠ s := by omega
      have n4 : c2 ≠ c1 := by omega
      have n5 : c3 ≠ c1 := by omega
      have n6 : c3 ≠ c2 := by omega
      clear hin hin' hv hb h1 h2 hc1 hc2 hc3
      go_enter Tryz.func71, Tryz.ntmps71
      go_wp2_with fail
      refine (unhide (HC _ hb0)).mono ?_
      rintro e w1 ⟨A', c', rfl, ho1, hb1⟩
      obtain ⟨hB1, hk1, b0, b1, b2⟩ := box_keep hb1
      rw [hL] at ho1 ⊢
      obtain ⟨g, cg, hsh, _, hg1, hg2⟩ := own_shape ho1 hl1
      simp only [Value.slice.injEq, true_and] at hsh
      obtain ⟨rfl, rfl⟩ := hsh
      have ho1' := own_mono ho1 hb0.size
      clear ho1 hb1 HC
      go_wp2_with fail
      refine (unhide (HF _ hB1)).mono ?_
      rintro e w2 ⟨rfl, hb2⟩
      have hB2 := hB1.trans (hb2.mono hB1.size)
      have ho2 := own_below ho1' hb2 (Nat.le_refl _)
      clear b0 b1 b2
      obtain ⟨hk2, b0, b1, b2⟩ := blk_keep hk1 hb2
      have hg3 : g < w2.heap.size := Nat.lt_of_lt_of_le hg2 hb2.size
      clear ho1' hb2 hk1 hB1 hg2 HF
      go_wp2_with fail
      refine (unhide (HA _)).mono ?_
      rintro e w3 ⟨rfl, hb3⟩
      have hB3 := hB2.trans (hb3.mono hB2.size)
      have ho3 := own_below ho2 hb3 (Nat.le_refl _)
      have hg4 : g < w3.heap.size := Nat.lt_of_lt_of_le hg3 hb3.size
      clear b0 b1 b2 hk2 hb3 hB2 ho2 hg3 HA
      go_upto_region 7 with fail
      have hq := Blk.new w3 94 #[.int .i64 s, .int .i64 c1, .int .i64 c2, .int .i64 c3]
      have hB4 := hB3.alloc hB3.size (.cells #[.int .i64 s, .int .i64 c1, .int .i64 c2, .int .i64 c3] 94)
      have ho4 := own_below ho3 ((Below.refl _ _).alloc (Nat.le_refl _) (.cells #[.int .i64 s, .int .i64 c1, .int .i64 c2, .int .i64 c3] 94)) (Nat.le_refl _)
      have hne : w3.heap.size ≠ g := by omega
      clear hB3 ho3
      generalize w3.alloc (.cells #[.int .i64 s, .int .i64 c1, .int .i64 c2, .int .i64 c3] 94) = w4 at *
      generalize w3.heap.size = q at *
      obtain ⟨a0, a1, a2, a3⟩ := blk4 hq
      have q0 := ho4.cellAt s (by omega)
      have q1 := ho4.cellAt c1 (by omega)
      have q2 := ho4.cellAt c2 (by omega)
      have q3 := ho4.cellAt c3 (by omega)
      have f0 := ho4.frozenAt s
      have f1 := ho4.frozenAt c1
      have f2 := ho4.frozenAt c2
      have f3 := ho4.frozenAt c3
      rw [List.getElem?_map, List.getElem?_eq_getElem (by omega)] at q0 q1 q2 q3
      simp only [Option.map_some] at q0 q1 q2 q3
      go_region
      have hB5 := (((hB4.setCell (p := ⟨g, s, none⟩) (by have := hB4.size; simp at hg1; simp; omega) (.int .i64 1)).setCell (p := ⟨g, c1, none⟩) (by simp at hg1; simp; omega) (.int .i64 3)).setCell (p := ⟨g, c2, none⟩) (by simp at hg1; simp; omega) (.int .i64 1)).setCell (p := ⟨g, c3, none⟩) (by simp at hg1; simp; omega) (.int .i64 3) |>.drew
      have ho5 := own_drew (own_set (own_set (own_set (own_set ho4 s 1) c1 3) c2 1) c3 3)
      clear q0 q1 q2 q3 f0 f1 f2 f3 a0 a1 a2 a3 hq ho4 hB4
      generalize ((((w4.setCell ⟨g, s, none⟩ (.int .i64 1)).setCell ⟨g, c1, none⟩ (.int .i64 3)).setCell ⟨g, c2, none⟩ (.int .i64 1)).setCell ⟨g, c3, none⟩ (.int .i64 3)).drew = w6 at *
      go_wp2_with fail
      go_ret2
      have hlen : ((((L.set s 1).set c1 3).set c2 1).set c3 3).length = R.C.length := by simp [hL]
      refine ⟨some ⟨g, 0, none⟩, c', R.C.length, by rw [hlen]; rfl, by rw [hlen]; exact ho5, hB5⟩
    | false =>
      have hv : flV R L k = L := by unfold flV; rw [if_neg (by rw [h1]; decide), if_neg (by rw [h2]; decide)]
      have hb : flB R L k = false := by unfold flB; rw [h1, h2]; rfl
      rw [hv, hb]
      simp only [h1, h2] at HF
      clear hv hb h1 h2
      obtain ⟨r0, r1, r2, r3, rb, HAR⟩ : ∃ (r0 r1 r2 r3 : Int) (rb : Bool), ∀ w', Hid (Calls Tryz.prog 93 #[.agg #[.int .i64 R.W, .int .i64 R.T, .slice A n c], .int .i64 k] w' fun e w'' => e = .returned (.tuple #[arr4 r0 r1 r2 r3, .bool rb]) ∧ Below w'.heap.size w' w'') := by
        cases hin : insZ R k with
        | true => simp only [hin, if_true] at HA; exact ⟨_, _, _, _, _, HA⟩
        | false => simp only [hin, Bool.false_eq_true, if_false] at HA; exact ⟨_, _, _, _, _, HA⟩
      go_enter Tryz.func71, Tryz.ntmps71
      go_wp2_with fail
      refine (unhide (HC _ hb0)).mono ?_
      rintro e w1 ⟨A', c', rfl, ho1, hb1⟩
      obtain ⟨hB1, hk1, b0, b1, b2⟩ := box_keep hb1
      rw [hL] at ho1 ⊢
      have ho1' := own_mono ho1 hb0.size
      clear ho1 hb1 HC
      go_wp2_with fail
      refine (unhide (HF _ hB1)).mono ?_
      rintro e w2 ⟨rfl, hb2⟩
      have hB2 := hB1.trans (hb2.mono hB1.size)
      have ho2 := own_below ho1' hb2 (Nat.le_refl _)
      clear b0 b1 b2
      obtain ⟨hk2, b0, b1, b2⟩ := blk_keep hk1 hb2
      clear ho1' hb2 hk1 hB1 HF
      go_wp2_with fail
      refine (unhide (HAR _)).mono ?_
      rintro e w3 ⟨rfl, hb3⟩
      have hB3 := hB2.trans (hb3.mono hB2.size)
      have ho3 := own_below ho2 hb3 (Nat.le_refl _)
      clear b0 b1 b2 hk2 hb3 hB2 ho2 HAR HA
      go_wp2_with fail
      go_ret2
      have hB4 := hB3.alloc hB3.size (.cells #[.int .i64 r0, .int .i64 r1, .int .i64 r2, .int .i64 r3] 94)
      have ho4 := own_below ho3 ((Below.refl _ _).alloc (Nat.le_refl _) (.cells #[.int .i64 r0, .int .i64 r1, .int .i64 r2, .int .i64 r3] 94)) (Nat.le_refl _)
      exact ⟨A', c', R.C.length, by rw [hL]; rfl, by rw [hL]; exact ho4, hB4⟩

end Go.Proofs.YthepfpiphlfgnaaGreat

/-
  YthepfpiphlfgnaaGreatQ4: flips keep tilings; a flip changes one height by 4. Plain Lean.
-/
namespace Go.Proofs.YthepfpiphlfgnaaGreat

/-- Four values changed. -/
def upd (w : Int → Int → Int) (a b n0 n1 n2 n3 x y : Int) : Int :=
  if y = b then (if x = a then n0 else if x = a + 1 then n1 else w x y) else if y = b + 1 then (if x = a then n2 else if x = a + 1 then n3 else w x y) else w x y

theorem way_set4 {R : Reg} (hR : R.ok) {L : List Int} (hL : L.length = R.C.length) {a b : Nat} (ha : a + 1 < R.W) (hb : b + 1 < R.T) (n0 n1 n2 n3 x y : Int) :
    R.way (set4 R L (b * R.W + a) n0 n1 n2 n3) x y = upd (R.way L) a b n0 n1 n2 n3 x y := by
  by_cases hin : 0 ≤ x ∧ x < R.W ∧ 0 ≤ y ∧ y < R.T
  · obtain ⟨p, rfl⟩ := Int.eq_ofNat_of_zero_le hin.1
    obtain ⟨q, rfl⟩ := Int.eq_ofNat_of_zero_le hin.2.2.1
    have hp : p < R.W := by omega
    have hq : q < R.T := by omega
    have i0 := idx_lt hR (x := a) (y := b) (by omega) (by omega)
    have i1 := idx_lt hR (x := a + 1) (y := b) (by omega) (by omega)
    have i2 := idx_lt hR (x := a) (y := b + 1) (by omega) (by omega)
    have i3 := idx_lt hR (x := a + 1) (y := b + 1) (by omega) (by omega)
    have hm : (b + 1) * R.W = b * R.W + R.W := by rw [Nat.add_mul, Nat.one_mul]
    rw [hm] at i2 i3
    have g : (set4 R L (b * R.W + a) n0 n1 n2 n3).getD (q * R.W + p) 0 = if b * R.W + a + R.W + 1 = q * R.W + p then n3 else if b * R.W + a + R.W = q * R.W + p then n2 else if b * R.W + a + 1 = q * R.W + p then n1 else if b * R.W + a = q * R.W + p then n0 else L.getD (q * R.W + p) 0 := by
      unfold set4
      rw [getD_set (by simp; omega), getD_set (by simp; omega), getD_set (by simp; omega), getD_set (by omega)]
    rw [way_in hp hq, g]
    unfold upd
    rw [way_in hp hq]
    have d0 := mk_div q hp
    have d1 := mk_div (x := a) b (show a < R.W by omega)
    have d2 := mk_div (x := a + 1) b ha
    have d3 := mk_div (x := a) (b + 1) (show a < R.W by omega)
    have d4 := mk_div (x := a + 1) (b + 1) ha
    rw [hm] at d3 d4
    by_cases h1 : q = b
    · subst h1
      rw [if_pos rfl, if_neg (by omega), if_neg (by omega)]
      by_cases h2 : p = a
      · subst h2; rw [if_neg (by omega), if_pos rfl, if_pos rfl]
      · rw [if_neg (show ¬ ((p : Int) = (a : Int)) by omega)]
        by_cases h3 : p = a + 1
        · subst h3; rw [if_pos (by omega), if_pos (by omega)]
        · rw [if_neg (by omega), if_neg (by omega), if_neg (by omega)]
    · rw [if_neg (show ¬ ((q : Int) = (b : Int)) by omega)]
      have e1 : ¬ (b * R.W + a + 1 = q * R.W + p) := by
        intro h
        rw [← h, show b * R.W + a + 1 = b * R.W + (a + 1) by omega, d2] at d0
        exact h1 d0.symm
      have e0 : ¬ (b * R.W + a = q * R.W + p) := by
        intro h
        rw [← h, d1] at d0
        exact h1 d0.symm
      by_cases h2 : q = b + 1
      · subst h2
        have t1 : ((b + 1 : Nat) : Int) = (b : Int) + 1 := by omega
        rw [hm] at e0 e1 ⊢
        by_cases h3 : p = a
        · have t2 : ¬ (b * R.W + a + R.W + 1 = b * R.W + R.W + p) := by omega
          have t3 : b * R.W + a + R.W = b * R.W + R.W + p := by omega
          have t4 : (p : Int) = (a : Int) := by omega
          simp only [if_pos t1, if_neg t2, if_pos t3, if_pos t4]
        · have t4 : ¬ ((p : Int) = (a : Int)) := by omega
          by_cases h4 : p = a + 1
          · have t2 : b * R.W + a + R.W + 1 = b * R.W + R.W + p := by omega
            have t5 : (p : Int) = (a : Int) + 1 := by omega
            simp only [if_pos t1, if_pos t2, if_neg t4, if_pos t5]
          · have t2 : ¬ (b * R.W + a + R.W + 1 = b * R.W + R.W + p) := by omega
            have t3 : ¬ (b * R.W + a + R.W = b * R.W + R.W + p) := by omega
            have t5 : ¬ ((p : Int) = (a : Int) + 1) := by omega
            simp only [if_pos t1, if_neg t2, if_neg t3, if_neg e0, if_neg e1, if_neg t4, if_neg t5]
      · rw [if_neg (show ¬ ((q : Int) = (b : Int) + 1) by omega)]
        have e3 : ¬ (b * R.W + a + R.W + 1 = q * R.W + p) := by
          intro h
          rw [← h, show b * R.W + a + R.W + 1 = b * R.W + R.W + (a + 1) by omega, d4] at d0
          exact h2 d0.symm
        have e2 : ¬ (b * R.W + a + R.W = q * R.W + p) := by
          intro h
          rw [← h, show b * R.W + a + R.W = b * R.W + R.W + a by omega, d3] at d0
          exact h2 d0.symm
        rw [if_neg e3, if_neg e2, if_neg e1, if_neg e0]
  · rw [way_out hin]
    unfold upd
    rw [way_out hin]
    split
    · split
      · omega
      · split
        · omega
        · rfl
    · split
      · split
        · omega
        · split
          · omega
          · rfl
      · rfl

theorem upd_hor {w : Int → Int → Int} (h : ∀ x y, w x y = 1 ↔ w (x + 1) y = 3) {a b n0 n1 n2 n3 : Int} (h0 : w a b ≠ 3) (h1 : w (a + 1) b ≠ 1) (h2 : w a (b + 1) ≠ 3) (h3 : w (a + 1) (b + 1) ≠ 1)
    (k0 : n0 ≠ 3) (k1 : n1 ≠ 1) (k2 : n2 ≠ 3) (k3 : n3 ≠ 1) (e1 : n0 = 1 ↔ n1 = 3) (e2 : n2 = 1 ↔ n3 = 3) (x y : Int) : upd w a b n0 n1 n2 n3 x y = 1 ↔ upd w a b n0 n1 n2 n3 (x + 1) y = 3 := by
  have hx := h x y
  unfold upd
  by_cases hy : y = b
  · subst hy
    rw [if_pos rfl, if_pos rfl]
    by_cases c1 : x = a
    · subst c1; rw [if_pos rfl, if_neg (by omega), if_pos rfl]; exact e1
    · by_cases c2 : x + 1 = a
      · subst c2
        rw [if_neg (by omega), if_neg (by omega), if_pos rfl]
        exact ⟨fun hh => absurd (hx.1 hh) h0, fun hh => absurd hh k0⟩
      · by_cases c3 : x = a + 1
        · subst c3
          rw [if_neg (by omega), if_pos rfl, if_neg (by omega), if_neg (by omega)]
          exact ⟨fun hh => absurd hh k1, fun hh => absurd (hx.2 hh) h1⟩
        · rw [if_neg c1, if_neg c3, if_neg c2, if_neg (by omega)]; exact hx
  · rw [if_neg hy, if_neg hy]
    by_cases hy2 : y = b + 1
    · subst hy2
      rw [if_pos rfl, if_pos rfl]
      by_cases c1 : x = a
      · subst c1; rw [if_pos rfl, if_neg (by omega), if_pos rfl]; exact e2
      · by_cases c2 : x + 1 = a
        · subst c2
          rw [if_neg (by omega), if_neg (by omega), if_pos rfl]
          exact ⟨fun hh => absurd (hx.1 hh) h2, fun hh => absurd hh k2⟩
        · by_cases c3 : x = a + 1
          · subst c3
            rw [if_neg (by omega), if_pos rfl, if_neg (by omega), if_neg (by omega)]
            exact ⟨fun hh => absurd hh k3, fun hh => absurd (hx.2 hh) h3⟩
          · rw [if_neg c1, if_neg c3, if_neg c2, if_neg (by omega)]; exact hx
    · rw [if_neg hy2, if_neg hy2]; exact hx
theorem upd_ver {w : Int → Int → Int} (h : ∀ x y, w x y = 2 ↔ w x (y + 1) = 4) {a b n0 n1 n2 n3 : Int} (h0 : w a b ≠ 4) (h1 : w (a + 1) b ≠ 4) (h2 : w a (b + 1) ≠ 2) (h3 : w (a + 1) (b + 1) ≠ 2)
    (k0 : n0 ≠ 4) (k1 : n1 ≠ 4) (k2 : n2 ≠ 2) (k3 : n3 ≠ 2) (e1 : n0 = 2 ↔ n2 = 4) (e2 : n1 = 2 ↔ n3 = 4) (x y : Int) : upd w a b n0 n1 n2 n3 x y = 2 ↔ upd w a b n0 n1 n2 n3 x (y + 1) = 4 := by
  have hx := h x y
  unfold upd
  by_cases hy : y = b
  · have t1 : ¬ (y + 1 = b) := by omega
    have t2 : y + 1 = b + 1 := by omega
    by_cases c1 : x = a
    · simp only [if_pos hy, if_neg t1, if_pos t2, if_pos c1]; exact e1
    · by_cases c2 : x = a + 1
      · simp only [if_pos hy, if_neg t1, if_pos t2, if_neg c1, if_pos c2]; exact e2
      · simp only [if_pos hy, if_neg t1, if_pos t2, if_neg c1, if_neg c2]; exact hx
  · by_cases hy2 : y + 1 = b
    · have t1 : ¬ (y = b + 1) := by omega
      by_cases c1 : x = a
      · simp only [if_neg hy, if_pos hy2, if_neg t1, if_pos c1]
        subst c1 hy2
        exact ⟨fun hh => absurd (hx.1 hh) h0, fun hh => absurd hh k0⟩
      · by_cases c2 : x = a + 1
        · simp only [if_neg hy, if_pos hy2, if_neg t1, if_neg c1, if_pos c2]
          subst c2 hy2
          exact ⟨fun hh => absurd (hx.1 hh) h1, fun hh => absurd hh k1⟩
        · simp only [if_neg hy, if_pos hy2, if_neg t1, if_neg c1, if_neg c2]; exact hx
    · by_cases hy3 : y = b + 1
      · have t1 : ¬ (y + 1 = b + 1) := by omega
        by_cases c1 : x = a
        · simp only [if_neg hy, if_neg hy2, if_pos hy3, if_neg t1, if_pos c1]
          subst c1 hy3
          exact ⟨fun hh => absurd hh k2, fun hh => absurd (hx.2 hh) h2⟩
        · by_cases c2 : x = a + 1
          · simp only [if_neg hy, if_neg hy2, if_pos hy3, if_neg t1, if_neg c1, if_pos c2]
            subst c2 hy3
            exact ⟨fun hh => absurd hh k3, fun hh => absurd (hx.2 hh) h3⟩
          · simp only [if_neg hy, if_neg hy2, if_pos hy3, if_neg t1, if_neg c1, if_neg c2]; exact hx
      · have t1 : ¬ (y + 1 = b + 1) := by omega
        simp only [if_neg hy, if_neg hy2, if_neg hy3, if_neg t1]; exact hx

/-! ### A corner by its cell in the south-west -/
theorem ins_ab {R : Reg} {k : Nat} (h : insB R k = true) : ∃ a b : Nat, a + 1 < R.W ∧ b + 1 < R.T ∧ k = R.ci (a + 1) (b + 1) ∧ swc R k = b * R.W + a := by
  have h' := of_decide_eq_true (show decide _ = true from h)
  refine ⟨k % (R.W + 1) - 1, k / (R.W + 1) - 1, by omega, by omega, ?_, rfl⟩
  rw [show k % (R.W + 1) - 1 + 1 = k % (R.W + 1) by omega, show k / (R.W + 1) - 1 + 1 = k / (R.W + 1) by omega, ci_of]
theorem insZ_ab {R : Reg} {k : Int} (h : insZ R k = true) : ∃ a b : Nat, a + 1 < R.W ∧ b + 1 < R.T ∧ k = (R.ci (a + 1) (b + 1) : Nat) ∧ swc R k.toNat = b * R.W + a := by
  unfold insZ at h
  rw [Bool.and_eq_true, decide_eq_true_eq] at h
  obtain ⟨m, rfl⟩ := Int.eq_ofNat_of_zero_le h.1
  obtain ⟨a, b, h1, h2, h3, h4⟩ := ins_ab h.2
  rw [Int.toNat_natCast] at h3
  exact ⟨a, b, h1, h2, by rw [h3], h4⟩
theorem ab_ins {R : Reg} {a b : Nat} (ha : a + 1 < R.W) (hb : b + 1 < R.T) : insZ R (R.ci (a + 1) (b + 1) : Nat) = true ∧ swc R (R.ci (a + 1) (b + 1)) = b * R.W + a := by
  have h1 := ci_mod (R := R) (x := a + 1) (b + 1) (by omega)
  have h2 := ci_div (R := R) (x := a + 1) (b + 1) (by omega)
  constructor
  · unfold insZ insB
    rw [Int.toNat_natCast, h1, h2, Bool.and_eq_true]
    exact ⟨decide_eq_true (by omega), decide_eq_true (by omega)⟩
  · unfold swc
    rw [h1, h2, Nat.add_sub_cancel, Nat.add_sub_cancel]
theorem ways4 {R : Reg} {L : List Int} {a b : Nat} (ha : a + 1 < R.W) (hb : b + 1 < R.T) :
    L.getD (b * R.W + a) 0 = R.way L a b ∧ L.getD (b * R.W + a + 1) 0 = R.way L ((a : Int) + 1) b ∧ L.getD (b * R.W + a + R.W) 0 = R.way L a ((b : Int) + 1) := by
  refine ⟨(way_in (by omega) (by omega)).symm, ?_, ?_⟩
  · rw [show (a : Int) + 1 = ((a + 1 : Nat) : Int) by omega, way_in ha (by omega)]; rfl
  · rw [show (b : Int) + 1 = ((b + 1 : Nat) : Int) by omega, way_in (by omega) hb, Nat.add_mul]
    congr 1; omega
theorem fl1_at {R : Reg} {L : List Int} {a b : Nat} (ha : a + 1 < R.W) (hb : b + 1 < R.T) : fl1 R L (R.ci (a + 1) (b + 1) : Nat) = true ↔ FlatAt R L a b := by
  obtain ⟨h1, h2⟩ := ab_ins ha hb
  obtain ⟨w1, w2, w3⟩ := ways4 (L := L) ha hb
  unfold fl1 FlatAt
  rw [h1, Int.toNat_natCast, h2, w1, w3]
  simp
theorem fl2_at {R : Reg} {L : List Int} {a b : Nat} (ha : a + 1 < R.W) (hb : b + 1 < R.T) : fl2 R L (R.ci (a + 1) (b + 1) : Nat) = true ↔ UprAt R L a b := by
  obtain ⟨h1, h2⟩ := ab_ins ha hb
  obtain ⟨w1, w2, w3⟩ := ways4 (L := L) ha hb
  unfold fl2 UprAt
  rw [h1, Int.toNat_natCast, h2, w1, w2]
  simp
/-- What a flip is. -/
theorem fl_cases {R : Reg} {L : List Int} {k : Int} (h : flB R L k = true) : ∃ a b : Nat, a + 1 < R.W ∧ b + 1 < R.T ∧ k = (R.ci (a + 1) (b + 1) : Nat) ∧
    ((FlatAt R L a b ∧ flV R L k = set4 R L (b * R.W + a) 2 2 4 4) ∨ (UprAt R L a b ∧ flV R L k = set4 R L (b * R.W + a) 1 3 1 3)) := by
  unfold flB at h
  rw [Bool.or_eq_true] at h
  have hin : insZ R k = true := by
    rcases h with h | h
    · exact fl1_ins h
    · exact fl2_ins h
  obtain ⟨a, b, h1, h2, rfl, h4⟩ := insZ_ab hin
  refine ⟨a, b, h1, h2, rfl, ?_⟩
  by_cases h5 : fl1 R L (R.ci (a + 1) (b + 1) : Nat) = true
  · exact .inl ⟨(fl1_at h1 h2).1 h5, by unfold flV; rw [if_pos h5, h4]⟩
  · have h6 := h.resolve_left h5
    exact .inr ⟨(fl2_at h1 h2).1 h6, by unfold flV; rw [if_neg h5, if_pos h6, h4]⟩
theorem flV_no {R : Reg} {L : List Int} {k : Int} (h : flB R L k = false) : flV R L k = L := by
  unfold flB at h
  rw [Bool.or_eq_false_iff] at h
  unfold flV
  rw [if_neg (by rw [h.1]; decide), if_neg (by rw [h.2]; decide)]

theorem flat_four {R : Reg} {L : List Int} (hL : Lay R L) {a b : Nat} (h : FlatAt R L a b) : R.way L a b = 1 ∧ R.way L ((a : Int) + 1) b = 3 ∧ R.way L a ((b : Int) + 1) = 1 ∧ R.way L ((a : Int) + 1) ((b : Int) + 1) = 3 :=
  ⟨h.1, (hL.hor _ _).1 h.1, h.2, (hL.hor _ _).1 h.2⟩
theorem upr_four {R : Reg} {L : List Int} (hL : Lay R L) {a b : Nat} (h : UprAt R L a b) : R.way L a b = 2 ∧ R.way L ((a : Int) + 1) b = 2 ∧ R.way L a ((b : Int) + 1) = 4 ∧ R.way L ((a : Int) + 1) ((b : Int) + 1) = 4 :=
  ⟨h.1, h.2, (hL.ver _ _).1 h.1, (hL.ver _ _).1 h.2⟩
theorem inner_of_four {R : Reg} {L : List Int} (hL : Lay R L) {a b : Nat} (h0 : R.way L a b ≠ 0) (h1 : R.way L ((a : Int) + 1) b ≠ 0) (h2 : R.way L a ((b : Int) + 1) ≠ 0) (h3 : R.way L ((a : Int) + 1) ((b : Int) + 1) ≠ 0) : R.inner ((a + 1 : Nat) : Int) ((b + 1 : Nat) : Int) := by
  unfold Reg.inner
  rw [show ((a + 1 : Nat) : Int) - 1 = (a : Int) by omega, show ((b + 1 : Nat) : Int) - 1 = (b : Int) by omega, show ((a + 1 : Nat) : Int) = (a : Int) + 1 by omega, show ((b + 1 : Nat) : Int) = (b : Int) + 1 by omega]
  exact ⟨hL.at_ _ _ h3, hL.at_ _ _ h2, hL.at_ _ _ h1, hL.at_ _ _ h0⟩
theorem fl_inner {R : Reg} {L : List Int} (hL : Lay R L) {a b : Nat} (h : FlatAt R L a b ∨ UprAt R L a b) : R.inner ((a + 1 : Nat) : Int) ((b + 1 : Nat) : Int) := by
  rcases h with h | h
  · obtain ⟨h0, h1, h2, h3⟩ := flat_four hL h
    exact inner_of_four hL (by omega) (by omega) (by omega) (by omega)
  · obtain ⟨h0, h1, h2, h3⟩ := upr_four hL h
    exact inner_of_four hL (by omega) (by omega) (by omega) (by omega)

/-- Four changed cells of a region that had dominoes keep a list that lays dominoes one. -/
theorem lay_set4 {R : Reg} (hR : R.ok) {L : List Int} (hL : Lay R L) {a b : Nat} (ha : a + 1 < R.W) (hb : b + 1 < R.T) (hin : R.inner ((a + 1 : Nat) : Int) ((b + 1 : Nat) : Int)) {n0 n1 n2 n3 : Int}
    (r0 : 0 ≤ n0 ∧ n0 ≤ 4) (r1 : 0 ≤ n1 ∧ n1 ≤ 4) (r2 : 0 ≤ n2 ∧ n2 ≤ 4) (r3 : 0 ≤ n3 ∧ n3 ≤ 4)
    (hh : ∀ x y, upd (R.way L) a b n0 n1 n2 n3 x y = 1 ↔ upd (R.way L) a b n0 n1 n2 n3 (x + 1) y = 3) (hv : ∀ x y, upd (R.way L) a b n0 n1 n2 n3 x y = 2 ↔ upd (R.way L) a b n0 n1 n2 n3 x (y + 1) = 4) :
    Lay R (set4 R L (b * R.W + a) n0 n1 n2 n3) := by
  unfold Reg.inner at hin
  rw [show ((a + 1 : Nat) : Int) - 1 = (a : Int) by omega, show ((b + 1 : Nat) : Int) - 1 = (b : Int) by omega, show ((a + 1 : Nat) : Int) = (a : Int) + 1 by omega, show ((b + 1 : Nat) : Int) = (b : Int) + 1 by omega] at hin
  obtain ⟨i3, i2, i1, i0⟩ := hin
  refine ⟨by rw [set4_len]; exact hL.len, fun x y => ?_, fun x y => ?_, fun x y => ?_, fun x y => ?_⟩
  · rw [way_set4 hR hL.len ha hb]
    unfold upd
    intro h
    have hx := hL.at_ x y
    split at h
    · rename_i e; subst e
      split at h
      · rename_i e; subst e; exact i0
      · split at h
        · rename_i e; subst e; exact i1
        · exact hx h
    · split at h
      · rename_i e; subst e
        split at h
        · rename_i e; subst e; exact i2
        · split at h
          · rename_i e; subst e; exact i3
          · exact hx h
      · exact hx h
  · rw [way_set4 hR hL.len ha hb]
    have hx := hL.rng x y
    unfold upd
    split
    · split
      · exact r0
      · split
        · exact r1
        · exact hx
    · split
      · split
        · exact r2
        · split
          · exact r3
          · exact hx
      · exact hx
  · rw [way_set4 hR hL.len ha hb, way_set4 hR hL.len ha hb]; exact hh x y
  · rw [way_set4 hR hL.len ha hb, way_set4 hR hL.len ha hb]; exact hv x y
theorem lay_flV {R : Reg} (hR : R.ok) {L : List Int} (hL : Lay R L) (k : Int) : Lay R (flV R L k) := by
  cases h : flB R L k with
  | false => rw [flV_no h]; exact hL
  | true =>
    obtain ⟨a, b, ha, hb, rfl, h | h⟩ := fl_cases h
    · rw [h.2]
      obtain ⟨h0, h1, h2, h3⟩ := flat_four hL h.1
      exact lay_set4 hR hL ha hb (fl_inner hL (.inl h.1)) (by omega) (by omega) (by omega) (by omega)
        (upd_hor hL.hor (by omega) (by omega) (by omega) (by omega) (by omega) (by omega) (by omega) (by omega) (by omega) (by omega))
        (upd_ver hL.ver (by omega) (by omega) (by omega) (by omega) (by omega) (by omega) (by omega) (by omega) (by omega) (by omega))
    · rw [h.2]
      obtain ⟨h0, h1, h2, h3⟩ := upr_four hL h.1
      exact lay_set4 hR hL ha hb (fl_inner hL (.inr h.1)) (by omega) (by omega) (by omega) (by omega)
        (upd_hor hL.hor (by omega) (by omega) (by omega) (by omega) (by omega) (by omega) (by omega) (by omega) (by omega) (by omega))
        (upd_ver hL.ver (by omega) (by omega) (by omega) (by omega) (by omega) (by omega) (by omega) (by omega) (by omega) (by omega))
theorem full_set4 {R : Reg} (hR : R.ok) {L : List Int} (hL : L.length = R.C.length) {a b : Nat} (ha : a + 1 < R.W) (hb : b + 1 < R.T) {n0 n1 n2 n3 : Int} (r0 : n0 ≠ 0) (r1 : n1 ≠ 0) (r2 : n2 ≠ 0) (r3 : n3 ≠ 0)
    (h0 : R.way L a b ≠ 0) (h1 : R.way L ((a : Int) + 1) b ≠ 0) (h2 : R.way L a ((b : Int) + 1) ≠ 0) (h3 : R.way L ((a : Int) + 1) ((b : Int) + 1) ≠ 0) (x y : Int) : R.way (set4 R L (b * R.W + a) n0 n1 n2 n3) x y ≠ 0 ↔ R.way L x y ≠ 0 := by
  rw [way_set4 hR hL ha hb]
  unfold upd
  split
  · rename_i e; subst e
    split
    · rename_i e; subst e; exact ⟨fun _ => h0, fun _ => r0⟩
    · split
      · rename_i e; subst e; exact ⟨fun _ => h1, fun _ => r1⟩
      · exact Iff.rfl
  · split
    · rename_i e; subst e
      split
      · rename_i e; subst e; exact ⟨fun _ => h2, fun _ => r2⟩
      · split
        · rename_i e; subst e; exact ⟨fun _ => h3, fun _ => r3⟩
        · exact Iff.rfl
    · exact Iff.rfl
theorem way_flV_ne {R : Reg} (hR : R.ok) {L : List Int} (hL : Lay R L) (k : Int) (x y : Int) : R.way (flV R L k) x y ≠ 0 ↔ R.way L x y ≠ 0 := by
  cases h : flB R L k with
  | false => rw [flV_no h]
  | true =>
    obtain ⟨a, b, ha, hb, rfl, h | h⟩ := fl_cases h
    · rw [h.2]
      obtain ⟨h0, h1, h2, h3⟩ := flat_four hL h.1
      exact full_set4 hR hL.len ha hb (by omega) (by omega) (by omega) (by omega) (by omega) (by omega) (by omega) (by omega) x y
    · rw [h.2]
      obtain ⟨h0, h1, h2, h3⟩ := upr_four hL h.1
      exact full_set4 hR hL.len ha hb (by omega) (by omega) (by omega) (by omega) (by omega) (by omega) (by omega) (by omega) x y
theorem full_flV {R : Reg} (hR : R.ok) {L : List Int} (hL : Lay R L) (k : Int) : Full R (flV R L k) ↔ Full R L :=
  ⟨fun h x y hc => (way_flV_ne hR hL k x y).1 (h x y hc), fun h x y hc => (way_flV_ne hR hL k x y).2 (h x y hc)⟩

/-! ### Heights behind a flip -/
theorem ht_set {R : Reg} {H : List Int} (hH : H.length = R.cn) {u v : Nat} (hu : u ≤ R.W) (hv : v ≤ R.T) (z : Int) {x y : Nat} (hx : x ≤ R.W) (_hy : y ≤ R.T) :
    R.ht (H.set (R.ci u v) z) x y = if x = u ∧ y = v then z else R.ht H x y := by
  unfold Reg.ht
  rw [getD_set (by rw [hH]; exact ci_lt hu hv)]
  by_cases h : x = u ∧ y = v
  · obtain ⟨rfl, rfl⟩ := h
    rw [if_pos rfl, if_pos ⟨rfl, rfl⟩]
  · rw [if_neg h, if_neg fun e => h (by obtain ⟨e1, e2⟩ := ci_inj hu hx e; exact ⟨e1.symm, e2.symm⟩)]
theorem sg_ab (a b : Int) : sg (a + 1) (b + 1) = sg a b := by rw [sg_e, sg_n]; omega

theorem hts_set4 {R : Reg} (hR : R.ok) {L H : List Int} (hL : Lay R L) (hH : Hts R L H) {a b : Nat} (ha : a + 1 < R.W) (hb : b + 1 < R.T) (hin : R.inner ((a + 1 : Nat) : Int) ((b + 1 : Nat) : Int)) {n0 n1 n2 n3 d : Int}
    (hw : (R.way L a b = 1 ∧ R.way L ((a : Int) + 1) b = 3 ∧ R.way L a ((b : Int) + 1) = 1 ∧ R.way L ((a : Int) + 1) ((b : Int) + 1) = 3 ∧ n0 = 2 ∧ n1 = 2 ∧ n2 = 4 ∧ n3 = 4 ∧ d = 4 * sg a b) ∨
      (R.way L a b = 2 ∧ R.way L ((a : Int) + 1) b = 2 ∧ R.way L a ((b : Int) + 1) = 4 ∧ R.way L ((a : Int) + 1) ((b : Int) + 1) = 4 ∧ n0 = 1 ∧ n1 = 3 ∧ n2 = 1 ∧ n3 = 3 ∧ d = -4 * sg a b)) :
    Hts R (set4 R L (b * R.W + a) n0 n1 n2 n3) (H.set (R.ci (a + 1) (b + 1)) (R.ht H (a + 1) (b + 1) + d)) := by
  have hu : R.cu ((a + 1 : Nat) : Int) ((b + 1 : Nat) : Int) = true := cu_ne hin.1
  refine ⟨by rw [List.length_set]; exact hH.len, fun x y hx hy hc => ?_, fun x y h0 => ?_, fun x y hx hy hc => ?_, fun x y hx hy hc => ?_⟩
  · rw [ht_set hH.len (by omega) (by omega) _ hx hy, if_neg, hH.no x y hx hy hc]
    rintro ⟨rfl, rfl⟩
    rw [hu] at hc; cases hc
  · rw [ht_set hH.len (by omega) (by omega) _ h0.1 h0.2.1, if_neg, hH.first x y h0]
    rintro ⟨rfl, rfl⟩
    exact first_out hR h0 hin
  · rw [ht_set hH.len (by omega) (by omega) _ (by omega) hy, ht_set hH.len (by omega) (by omega) _ (by omega) hy]
    have he := hH.e x y hx hy hc
    simp only [tform] at he ⊢
    rw [way_set4 hR hL.len ha hb]
    unfold upd
    by_cases c1 : y = b + 1
    · subst c1
      rw [if_pos (show ((b + 1 : Nat) : Int) - 1 = (b : Int) by omega)]
      rw [show ((b + 1 : Nat) : Int) - 1 = (b : Int) by omega] at he ⊢
      by_cases c2 : x = a
      · subst c2
        have hs : sg x ((b + 1 : Nat) : Int) = - sg x b := by rw [show ((b + 1 : Nat) : Int) = (b : Int) + 1 by omega, sg_n]
        have t1 : ¬ (x = x + 1 ∧ b + 1 = b + 1) := by omega
        have t2 : x + 1 = x + 1 ∧ b + 1 = b + 1 := ⟨rfl, rfl⟩
        rw [if_neg t1, if_pos t2]
        simp only [if_true]
        rw [hs] at he ⊢
        rcases hw with ⟨w0, w1, w2, w3, rfl, rfl, rfl, rfl, rfl⟩ | ⟨w0, w1, w2, w3, rfl, rfl, rfl, rfl, rfl⟩
        · rw [w0] at he; simp at he ⊢; omega
        · rw [w0] at he; simp at he ⊢; omega
      · by_cases c3 : x = a + 1
        · subst c3
          have hs : sg ((a + 1 : Nat) : Int) ((b + 1 : Nat) : Int) = sg a b := by rw [show ((b + 1 : Nat) : Int) = (b : Int) + 1 by omega, show ((a + 1 : Nat) : Int) = (a : Int) + 1 by omega, sg_ab]
          have t1 : ¬ (a + 1 + 1 = a + 1 ∧ b + 1 = b + 1) := by omega
          have t2 : a + 1 = a + 1 ∧ b + 1 = b + 1 := ⟨rfl, rfl⟩
          have t3 : ¬ (((a + 1 : Nat) : Int) = (a : Int)) := by omega
          have t4 : ((a + 1 : Nat) : Int) = (a : Int) + 1 := by omega
          rw [if_neg t1, if_pos t2, if_neg t3, if_pos t4]
          rw [hs, show ((a + 1 : Nat) : Int) = (a : Int) + 1 by omega] at he
          rw [hs]
          rcases hw with ⟨w0, w1, w2, w3, rfl, rfl, rfl, rfl, rfl⟩ | ⟨w0, w1, w2, w3, rfl, rfl, rfl, rfl, rfl⟩
          · rw [w1] at he; simp at he ⊢; omega
          · rw [w1] at he; simp at he ⊢; omega
        · have t1 : ¬ (x + 1 = a + 1 ∧ b + 1 = b + 1) := by omega
          have t2 : ¬ (x = a + 1 ∧ b + 1 = b + 1) := by omega
          have t3 : ¬ ((x : Int) = (a : Int)) := by omega
          have t4 : ¬ ((x : Int) = (a : Int) + 1) := by omega
          rw [if_neg t1, if_neg t2, if_neg t3, if_neg t4]
          exact he
    · have u1 : ¬ (x + 1 = a + 1 ∧ y = b + 1) := by omega
      have u2 : ¬ (x = a + 1 ∧ y = b + 1) := by omega
      have u3 : ¬ ((y : Int) - 1 = (b : Int)) := by omega
      simp only [if_neg u1, if_neg u2, if_neg u3]
      by_cases c2 : y = b + 2
      · subst c2
        rw [if_pos (show ((b + 2 : Nat) : Int) - 1 = (b : Int) + 1 by omega)]
        rw [show ((b + 2 : Nat) : Int) - 1 = (b : Int) + 1 by omega] at he ⊢
        by_cases c3 : x = a
        · subst c3
          rw [if_pos rfl]
          rcases hw with ⟨w0, w1, w2, w3, rfl, rfl, rfl, rfl, rfl⟩ | ⟨w0, w1, w2, w3, rfl, rfl, rfl, rfl, rfl⟩
          · rw [w2] at he; simp at he ⊢; omega
          · rw [w2] at he; simp at he ⊢; omega
        · rw [if_neg (show ¬ ((x : Int) = (a : Int)) by omega)]
          by_cases c4 : x = a + 1
          · subst c4
            rw [if_pos (show ((a + 1 : Nat) : Int) = (a : Int) + 1 by omega)]
            rw [show ((a + 1 : Nat) : Int) = (a : Int) + 1 by omega] at he ⊢
            rcases hw with ⟨w0, w1, w2, w3, rfl, rfl, rfl, rfl, rfl⟩ | ⟨w0, w1, w2, w3, rfl, rfl, rfl, rfl, rfl⟩
            · rw [w3] at he; simp at he ⊢; omega
            · rw [w3] at he; simp at he ⊢; omega
          · rw [if_neg (show ¬ ((x : Int) = (a : Int) + 1) by omega)]
            exact he
      · rw [if_neg (show ¬ ((y : Int) - 1 = (b : Int) + 1) by omega)]
        exact he
  · rw [ht_set hH.len (by omega) (by omega) _ hx (by omega), ht_set hH.len (by omega) (by omega) _ hx (by omega)]
    have he := hH.n x y hx hy hc
    simp only [tform] at he ⊢
    rw [way_set4 hR hL.len ha hb]
    unfold upd
    by_cases c1 : x = a + 1
    · subst c1
      rw [show ((a + 1 : Nat) : Int) - 1 = (a : Int) by omega] at he ⊢
      by_cases c2 : y = b
      · subst c2
        have t1 : ¬ (a + 1 = a + 1 ∧ y = y + 1) := by omega
        have t2 : a + 1 = a + 1 ∧ y + 1 = y + 1 := ⟨rfl, rfl⟩
        rw [if_neg t1, if_pos t2]
        simp only [if_true]
        rcases hw with ⟨w0, w1, w2, w3, rfl, rfl, rfl, rfl, rfl⟩ | ⟨w0, w1, w2, w3, rfl, rfl, rfl, rfl, rfl⟩
        · rw [w0] at he; simp at he ⊢; omega
        · rw [w0] at he; simp at he ⊢; omega
      · by_cases c3 : y = b + 1
        · subst c3
          have hs : sg a ((b + 1 : Nat) : Int) = - sg a b := by rw [show ((b + 1 : Nat) : Int) = (b : Int) + 1 by omega, sg_n]
          have t1 : ¬ (a + 1 = a + 1 ∧ b + 1 + 1 = b + 1) := by omega
          have t2 : a + 1 = a + 1 ∧ b + 1 = b + 1 := ⟨rfl, rfl⟩
          have t3 : ¬ (((b + 1 : Nat) : Int) = (b : Int)) := by omega
          have t4 : ((b + 1 : Nat) : Int) = (b : Int) + 1 := by omega
          rw [if_neg t1, if_pos t2, if_neg t3, if_pos t4]
          simp only [if_true]
          rw [hs, show ((b + 1 : Nat) : Int) = (b : Int) + 1 by omega] at he
          rw [hs]
          rcases hw with ⟨w0, w1, w2, w3, rfl, rfl, rfl, rfl, rfl⟩ | ⟨w0, w1, w2, w3, rfl, rfl, rfl, rfl, rfl⟩
          · rw [w2] at he; simp at he ⊢; omega
          · rw [w2] at he; simp at he ⊢; omega
        · have t1 : ¬ (a + 1 = a + 1 ∧ y + 1 = b + 1) := by omega
          have t2 : ¬ (a + 1 = a + 1 ∧ y = b + 1) := by omega
          have t3 : ¬ ((y : Int) = (b : Int)) := by omega
          have t4 : ¬ ((y : Int) = (b : Int) + 1) := by omega
          rw [if_neg t1, if_neg t2, if_neg t3, if_neg t4]
          exact he
    · have u1 : ¬ (x = a + 1 ∧ y + 1 = b + 1) := by omega
      have u2 : ¬ (x = a + 1 ∧ y = b + 1) := by omega
      simp only [if_neg u1, if_neg u2]
      by_cases c2 : x = a + 2
      · subst c2
        rw [show ((a + 2 : Nat) : Int) - 1 = (a : Int) + 1 by omega] at he ⊢
        by_cases c3 : y = b
        · subst c3
          have t1 : ¬ ((a : Int) + 1 = (a : Int)) := by omega
          simp only [if_neg t1, if_true]
          rcases hw with ⟨w0, w1, w2, w3, rfl, rfl, rfl, rfl, rfl⟩ | ⟨w0, w1, w2, w3, rfl, rfl, rfl, rfl, rfl⟩
          · rw [w1] at he; simp at he ⊢; omega
          · rw [w1] at he; simp at he ⊢; omega
        · rw [if_neg (show ¬ ((y : Int) = (b : Int)) by omega)]
          by_cases c4 : y = b + 1
          · subst c4
            have t1 : ¬ ((a : Int) + 1 = (a : Int)) := by omega
            have t2 : ((b + 1 : Nat) : Int) = (b : Int) + 1 := by omega
            simp only [if_neg t1, if_pos t2, if_true]
            rw [show ((b + 1 : Nat) : Int) = (b : Int) + 1 by omega] at he ⊢
            rcases hw with ⟨w0, w1, w2, w3, rfl, rfl, rfl, rfl, rfl⟩ | ⟨w0, w1, w2, w3, rfl, rfl, rfl, rfl, rfl⟩
            · rw [w3] at he; simp at he ⊢; omega
            · rw [w3] at he; simp at he ⊢; omega
          · rw [if_neg (show ¬ ((y : Int) = (b : Int) + 1) by omega)]
            exact he
      · have e1 : ¬ ((x : Int) - 1 = (a : Int)) := by omega
        have e2 : ¬ ((x : Int) - 1 = (a : Int) + 1) := by omega
        simp only [if_neg e1, if_neg e2, ite_self]
        exact he

/-- By how much a flip changes the height of its corner. -/
def rsV (R : Reg) (L : List Int) (k : Nat) : Int := if fl1 R L k = true then 4 * sg ((k % (R.W + 1) : Nat) : Int) ((k / (R.W + 1) : Nat) : Int) else if fl2 R L k = true then -4 * sg ((k % (R.W + 1) : Nat) : Int) ((k / (R.W + 1) : Nat) : Int) else 0
theorem rsV_or {R : Reg} {L : List Int} {k : Nat} (h : flB R L k = true) : rsV R L k = 4 ∨ rsV R L k = -4 := by
  have hs := sg_or ((k % (R.W + 1) : Nat) : Int) ((k / (R.W + 1) : Nat) : Int)
  unfold flB at h
  rw [Bool.or_eq_true] at h
  unfold rsV
  split
  · omega
  · rename_i h1
    rw [if_pos (h.resolve_left h1)]; omega
theorem rsV_no {R : Reg} {L : List Int} {k : Nat} (h : flB R L k = false) : rsV R L k = 0 := by
  unfold flB at h
  rw [Bool.or_eq_false_iff] at h
  unfold rsV
  rw [if_neg (by rw [h.1]; decide), if_neg (by rw [h.2]; decide)]
theorem hts_flV {R : Reg} (hR : R.ok) {L H : List Int} (hL : Lay R L) (hH : Hts R L H) {k : Nat} (h : flB R L k = true) : Hts R (flV R L k) (H.set k (H.getD k 0 + rsV R L k)) := by
  obtain ⟨a, b, ha, hb, hk, hc⟩ := fl_cases h
  obtain rfl : k = R.ci (a + 1) (b + 1) := Int.ofNat.inj hk
  have hs : sg ((R.ci (a + 1) (b + 1) % (R.W + 1) : Nat) : Int) ((R.ci (a + 1) (b + 1) / (R.W + 1) : Nat) : Int) = sg a b := by
    rw [ci_mod _ (by omega), ci_div _ (by omega), show ((b + 1 : Nat) : Int) = (b : Int) + 1 by omega, show ((a + 1 : Nat) : Int) = (a : Int) + 1 by omega, sg_ab]
  rcases hc with ⟨h1, h2⟩ | ⟨h1, h2⟩
  · rw [h2]
    obtain ⟨w0, w1, w2, w3⟩ := flat_four hL h1
    have hr : rsV R L (R.ci (a + 1) (b + 1)) = 4 * sg a b := by unfold rsV; rw [if_pos ((fl1_at ha hb).2 h1), hs]
    rw [hr]
    exact hts_set4 hR hL hH ha hb (fl_inner hL (.inl h1)) (.inl ⟨w0, w1, w2, w3, rfl, rfl, rfl, rfl, rfl⟩)
  · rw [h2]
    obtain ⟨w0, w1, w2, w3⟩ := upr_four hL h1
    have hn : ¬ (fl1 R L (R.ci (a + 1) (b + 1) : Nat) = true) := by
      intro hf
      have := (fl1_at ha hb).1 hf
      have := this.1
      omega
    have hr : rsV R L (R.ci (a + 1) (b + 1)) = -4 * sg a b := by unfold rsV; rw [if_neg hn, if_pos ((fl2_at ha hb).2 h1), hs]
    rw [hr]
    exact hts_set4 hR hL hH ha hb (fl_inner hL (.inr h1)) (.inr ⟨w0, w1, w2, w3, rfl, rfl, rfl, rfl, rfl⟩)

end Go.Proofs.YthepfpiphlfgnaaGreat
