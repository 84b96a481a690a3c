/-
  YthepfpiphlfgnaaFl: flips of the program: around, flippable, flip.
-/
import Derived.Test.YthepfpiphlfgnaaMa
import Derived.Test.YthepfpiphlfgnaaEx
import Derived.Test.YthepfpiphlfgnaaRb
import Derived.BigRegion
namespace Go.Proofs.Ythepfpiphlfgnaa
open Go.RowKit

/-- Does a corner lie inside of the field? -/
def insB (R : Reg) (k : Nat) : Bool := decide (1 ≤ k % (R.W + 1) ∧ k % (R.W + 1) + 1 ≤ R.W ∧ 1 ≤ k / (R.W + 1) ∧ k / (R.W + 1) + 1 ≤ R.T)
/-- The cell in its south-west. -/
def swc (R : Reg) (k : Nat) : Nat := (k / (R.W + 1) - 1) * R.W + (k % (R.W + 1) - 1)

theorem blk3 {w : World} {x : Nat} {ty : TypeId} {a b c : Value} (H : Blk w x ty #[a, b, c]) : w.cell? ⟨x, 0, none⟩ = some a ∧ w.cell? ⟨x, 1, none⟩ = some b ∧ w.cell? ⟨x, 2, none⟩ = some c := by
  have h0 := H.cell 0
  have h1 := H.cell 1
  have h2 := H.cell 2
  simp at h0 h1 h2
  exact ⟨h0, h1, h2⟩
theorem blk4 {w : World} {x : Nat} {ty : TypeId} {a b c d : Value} (H : Blk w x ty #[a, b, c, d]) : w.cell? ⟨x, 0, none⟩ = some a ∧ w.cell? ⟨x, 1, none⟩ = some b ∧ w.cell? ⟨x, 2, none⟩ = some c ∧ w.cell? ⟨x, 3, none⟩ = some d := by
  have h0 := H.cell 0
  have h1 := H.cell 1
  have h2 := H.cell 2
  have h3 := H.cell 3
  simp at h0 h1 h2 h3
  exact ⟨h0, h1, h2, h3⟩

abbrev arr4 (a b c d : Int) : Value := .agg #[.int .i64 a, .int .i64 b, .int .i64 c, .int .i64 d]

set_option maxRecDepth 20000 in
theorem around_yes (R : Reg) (hR : R.ok) (A : Option Addr) (n c : Nat) (k : Nat) (hk : insB R k = true) (w : World) :
    Calls Try.prog 160 #[.agg #[.int .i64 R.W, .int .i64 R.T, .slice A n c], .int .i64 (k : Nat)] w fun e w' =>
      e = .returned (.tuple #[arr4 (swc R k : Nat) ((swc R k : Nat) + 1) ((swc R k : Nat) + R.W) ((swc R k : Nat) + R.W + 1), .bool true]) ∧ Below w.heap.size w w' := by
  unfold insB at hk
  have hk' := of_decide_eq_true hk
  obtain ⟨k1, k2, k3, k4⟩ := hk'
  have hW6 := hR.2.1
  have hT6 := hR.2.2.2.1
  have hmod : Int.tmod (k : Int) ((R.W : Int) + 1) = ((k % (R.W + 1) : Nat) : Int) := by
    rw [show (R.W : Int) + 1 = ((R.W + 1 : Nat) : Int) by omega]; rfl
  have hdiv : Int.tdiv (k : Int) ((R.W : Int) + 1) = ((k / (R.W + 1) : Nat) : Int) := by
    rw [show (R.W : Int) + 1 = ((R.W + 1 : Nat) : Int) by omega]; rfl
  have hswc : ((swc R k : Nat) : Int) = (((k / (R.W + 1) : Nat) : Int) - 1) * R.W + ((k % (R.W + 1) : Nat) : Int) - 1 := by
    unfold swc
    obtain ⟨a, ha⟩ : ∃ a, k / (R.W + 1) = a + 1 := ⟨k / (R.W + 1) - 1, by omega⟩
    obtain ⟨b, hb⟩ : ∃ b, k % (R.W + 1) = b + 1 := ⟨k % (R.W + 1) - 1, by omega⟩
    rw [ha, hb]
    simp
    omega
  have HS := Lib.hid hswc
  generalize k % (R.W + 1) = x at *
  generalize k / (R.W + 1) = y at *
  generalize swc R k = s at *
  clear hk hswc
  go_enter Try.func160, Try.ntmps160
  go_upto_region 1 with fail
  obtain ⟨hb0, hk0, b0, b1, b2⟩ := box_keep (w := w) (W := R.W) (T := R.T) (A := A) (n := n) (c := c) (((Below.refl (w.alloc (boxR R.W R.T A n c)).heap.size (w.alloc (boxR R.W R.T A n c))).alloc (Nat.le_refl _) (.cells #[.int .i64 0, .int .i64 0, .int .i64 0, .int .i64 0] 126)))
  have hq0 : Blk ((w.alloc (boxR R.W R.T A n c)).alloc (.cells #[.int .i64 0, .int .i64 0, .int .i64 0, .int .i64 0] 126)) (w.heap.size + 1) 126 #[.int .i64 0, .int .i64 0, .int .i64 0, .int .i64 0] := by
    simpa using Blk.new (w.alloc (boxR R.W R.T A n c)) 126 #[.int .i64 0, .int .i64 0, .int .i64 0, .int .i64 0]
  have u1 : IntKind.i64.wrap ((R.W : Int) + 1) = (R.W : Int) + 1 := IntWalk.i64_in _ (by omega)
  generalize (w.alloc (boxR R.W R.T A n c)).alloc (.cells #[.int .i64 0, .int .i64 0, .int .i64 0, .int .i64 0] 126) = w1 at *
  have I1 := Lib.hid (inB_t (n := (x : Int)) (lo := 1) (hi := (R.W : Int) - 1) (by omega))
  have I2 := Lib.hid (inB_t (n := (y : Int)) (lo := 1) (hi := (R.T : Int) - 1) (by omega))
  have hpb : 0 ≤ ((y : Int) - 1) * (R.W : Int) ∧ ((y : Int) - 1) * (R.W : Int) ≤ 49 := by
    obtain ⟨z, hz⟩ : ∃ z : Nat, (y : Int) - 1 = z := ⟨y - 1, by omega⟩
    rw [hz]
    exact prod_bd (by omega) (by omega)
  obtain ⟨p0, p1⟩ := hpb
  go_quiet (fail)
  have hb1 := hb0.trans (below_drewN (Below.refl w1.heap.size w1) nq |>.mono hb0.size)
  have hk1 := hk0.below (below_drewN (Below.refl w1.heap.size w1) nq) hk0.lt
  have hq1 := hq0.below (below_drewN (Below.refl w1.heap.size w1) nq) hq0.lt
  clear hk0 hq0 hb0 b0 b1 b2
  generalize w1.drewN nq = w2 at *
  obtain ⟨b0, b1, b2⟩ := blk3 hk1
  obtain ⟨a0, a1, a2, a3⟩ := blk4 hq1
  have f0 := hq1.frozen 0
  have f1 := hq1.frozen 1
  have f2 := hq1.frozen 2
  have f3 := hq1.frozen 3
  go_wp2_with (go_at_call 74; refine (in_any _ _ _ _).mono ?_; rintro e w' ⟨rfl, rfl⟩; first | rw [I1.out] | rw [I2.out])
  have e0 : ((y : Int) - 1) * (R.W : Int) + (x : Int) - 1 = (s : Int) := HS.out.symm
  have e1 : ((y : Int) - 1) * (R.W : Int) + (x : Int) = (s : Int) + 1 := by rw [HS.out]; omega
  rw [e0, e1]
  have hq2 := (((hq1.set_ 0 (.int .i64 s)).set_ 1 (.int .i64 ((s : Int) + 1))).set_ 2 (.int .i64 ((s : Int) + R.W))).set_ 3 (.int .i64 ((s : Int) + R.W + 1))
  clear a0 a1 a2 a3 b0 b1 b2 f0 f1 f2 f3
  simp at hq2
  have hb2 : Below w.heap.size w ((((w2.setCell ⟨w.heap.size + 1, 0, none⟩ (.int .i64 s)).setCell ⟨w.heap.size + 1, 1, none⟩ (.int .i64 ((s : Int) + 1))).setCell ⟨w.heap.size + 1, 2, none⟩ (.int .i64 ((s : Int) + R.W))).setCell ⟨w.heap.size + 1, 3, none⟩ (.int .i64 ((s : Int) + R.W + 1))) :=
    (((hb1.setCell (by simp) _).setCell (by simp) _).setCell (by simp) _).setCell (by simp) _
  generalize (((w2.setCell ⟨w.heap.size + 1, 0, none⟩ (.int .i64 s)).setCell ⟨w.heap.size + 1, 1, none⟩ (.int .i64 ((s : Int) + 1))).setCell ⟨w.heap.size + 1, 2, none⟩ (.int .i64 ((s : Int) + R.W))).setCell ⟨w.heap.size + 1, 3, none⟩ (.int .i64 ((s : Int) + R.W + 1)) = w3 at *
  obtain ⟨a0, a1, a2, a3⟩ := blk4 hq2
  refine bodyPost_ret (v := .tuple #[arr4 s ((s : Int) + 1) ((s : Int) + R.W) ((s : Int) + R.W + 1), .bool true]) (by simp [results, Try.results160, go_sem, a0, a1, a2, a3]) rfl ⟨rfl, hb2⟩

def insZ (R : Reg) (k : Int) : Bool := decide (0 ≤ k) && insB R k.toNat

set_option maxRecDepth 20000 in
theorem around_no (R : Reg) (hR : R.ok) (A : Option Addr) (n c : Nat) (k : Int) (hk9 : k ≤ 9223372036854775807) (hk : insZ R k = false) (w : World) :
    Calls Try.prog 160 #[.agg #[.int .i64 R.W, .int .i64 R.T, .slice A n c], .int .i64 k] w fun e w' =>
      e = .returned (.tuple #[arr4 0 0 0 0, .bool false]) ∧ Below w.heap.size w w' := by
  have hW6 := hR.2.1
  have hT6 := hR.2.2.2.1
  obtain ⟨x, hx⟩ : ∃ x, x = Int.tmod k ((R.W : Int) + 1) := ⟨_, rfl⟩
  obtain ⟨y, hy⟩ : ∃ y, y = wrap64 (Int.tdiv k ((R.W : Int) + 1)) := ⟨_, rfl⟩
  have hcase : decide (k < 0) = true ∨ (decide (k < 0) = false ∧ (inB x 1 ((R.W : Int) - 1) = false ∨ (inB x 1 ((R.W : Int) - 1) = true ∧ inB y 1 ((R.T : Int) - 1) = false))) := by
    by_cases h0 : k < 0
    · exact .inl (decide_eq_true h0)
    · refine .inr ⟨decide_eq_false h0, ?_⟩
      obtain ⟨m, rfl⟩ := Int.eq_ofNat_of_zero_le (show 0 ≤ k by omega)
      have hmod : Int.tmod (m : Int) ((R.W : Int) + 1) = ((m % (R.W + 1) : Nat) : Int) := by
        rw [show (R.W : Int) + 1 = ((R.W + 1 : Nat) : Int) by omega]; rfl
      have hdiv : Int.tdiv (m : Int) ((R.W : Int) + 1) = ((m / (R.W + 1) : Nat) : Int) := by
        rw [show (R.W : Int) + 1 = ((R.W + 1 : Nat) : Int) by omega]; rfl
      have hle : m / (R.W + 1) ≤ m := Nat.div_le_self _ _
      rw [hmod] at hx
      have hw : wrap64 ((m / (R.W + 1) : Nat) : Int) = ((m / (R.W + 1) : Nat) : Int) := by
        generalize m / (R.W + 1) = q at hle
        exact IntWalk.wrap64_in _ (by omega)
      rw [hdiv, hw] at hy
      unfold insZ at hk
      rw [decide_eq_true (by omega), Bool.true_and] at hk
      have hk' := of_decide_eq_false (show decide _ = false from hk)
      simp only [Int.toNat_natCast] at hk'
      subst hx hy
      by_cases h1 : 1 ≤ m % (R.W + 1) ∧ m % (R.W + 1) + 1 ≤ R.W
      · exact .inr ⟨inB_t (by omega), inB_f (by omega)⟩
      · exact .inl (inB_f (by omega))
  have HC := Lib.hid hcase
  have hz : ((R.W : Int) + 1 == 0) = false := by simp; omega
  clear hcase hk
  go_enter Try.func160, Try.ntmps160
  go_upto_region 1 with fail
  obtain ⟨hb0, hk0, b0, b1, b2⟩ := box_keep (w := w) (W := R.W) (T := R.T) (A := A) (n := n) (c := c) (((Below.refl (w.alloc (boxR R.W R.T A n c)).heap.size (w.alloc (boxR R.W R.T A n c))).alloc (Nat.le_refl _) (.cells #[.int .i64 0, .int .i64 0, .int .i64 0, .int .i64 0] 126)))
  have hq0 : Blk ((w.alloc (boxR R.W R.T A n c)).alloc (.cells #[.int .i64 0, .int .i64 0, .int .i64 0, .int .i64 0] 126)) (w.heap.size + 1) 126 #[.int .i64 0, .int .i64 0, .int .i64 0, .int .i64 0] := by
    simpa using Blk.new (w.alloc (boxR R.W R.T A n c)) 126 #[.int .i64 0, .int .i64 0, .int .i64 0, .int .i64 0]
  have u1 : IntKind.i64.wrap ((R.W : Int) + 1) = (R.W : Int) + 1 := IntWalk.i64_in _ (by omega)
  generalize (w.alloc (boxR R.W R.T A n c)).alloc (.cells #[.int .i64 0, .int .i64 0, .int .i64 0, .int .i64 0] 126) = w1 at *
  go_quiet (fail)
  rw [← hx, ← hy]
  have hb1 := hb0.trans (below_drewN (Below.refl w1.heap.size w1) nq |>.mono hb0.size)
  have hk1 := hk0.below (below_drewN (Below.refl w1.heap.size w1) nq) hk0.lt
  have hq1 := hq0.below (below_drewN (Below.refl w1.heap.size w1) nq) hq0.lt
  clear hk0 hq0 hb0 b0 b1 b2 hx hy hz u1
  generalize w1.drewN nq = w2 at *
  obtain ⟨b0, b1, b2⟩ := blk3 hk1
  obtain ⟨a0, a1, a2, a3⟩ := blk4 hq1
  have f0 := hq1.frozen 0
  have f1 := hq1.frozen 1
  have f2 := hq1.frozen 2
  have f3 := hq1.frozen 3
  have fin : ∀ w3 : World, w3 = (((w2.setCell ⟨w.heap.size + 1, 0, none⟩ (.int .i64 0)).setCell ⟨w.heap.size + 1, 1, none⟩ (.int .i64 0)).setCell ⟨w.heap.size + 1, 2, none⟩ (.int .i64 0)).setCell ⟨w.heap.size + 1, 3, none⟩ (.int .i64 0) →
      w3.cell? ⟨w.heap.size + 1, 0, none⟩ = some (.int .i64 0) ∧ w3.cell? ⟨w.heap.size + 1, 1, none⟩ = some (.int .i64 0) ∧ w3.cell? ⟨w.heap.size + 1, 2, none⟩ = some (.int .i64 0) ∧ w3.cell? ⟨w.heap.size + 1, 3, none⟩ = some (.int .i64 0) ∧ Below w.heap.size w w3 := by
    rintro w3 rfl
    have hq2 := (((hq1.set_ 0 (.int .i64 0)).set_ 1 (.int .i64 0)).set_ 2 (.int .i64 0)).set_ 3 (.int .i64 0)
    simp at hq2
    obtain ⟨g0, g1, g2, g3⟩ := blk4 hq2
    exact ⟨g0, g1, g2, g3, (((hb1.setCell (by simp) _).setCell (by simp) _).setCell (by simp) _).setCell (by simp) _⟩
  have FIN := Lib.hid fin
  clear fin
  rcases HC.out with d0 | ⟨d0, I1 | ⟨I1, I2⟩⟩
  · go_wp2_with fail
    obtain ⟨w3, hw3⟩ : ∃ w3, w3 = (((w2.setCell ⟨w.heap.size + 1, 0, none⟩ (.int .i64 0)).setCell ⟨w.heap.size + 1, 1, none⟩ (.int .i64 0)).setCell ⟨w.heap.size + 1, 2, none⟩ (.int .i64 0)).setCell ⟨w.heap.size + 1, 3, none⟩ (.int .i64 0) := ⟨_, rfl⟩
    obtain ⟨g0, g1, g2, g3, hb3⟩ := FIN.out w3 hw3
    rw [← hw3]
    refine bodyPost_ret (v := .tuple #[arr4 0 0 0 0, .bool false]) (by simp [results, Try.results160, go_sem, g0, g1, g2, g3]) rfl ⟨rfl, hb3⟩
  · go_wp2_with (go_at_call 74; refine (in_any _ _ _ _).mono ?_; rintro e w' ⟨rfl, rfl⟩; first | rw [I1])
    obtain ⟨w3, hw3⟩ : ∃ w3, w3 = (((w2.setCell ⟨w.heap.size + 1, 0, none⟩ (.int .i64 0)).setCell ⟨w.heap.size + 1, 1, none⟩ (.int .i64 0)).setCell ⟨w.heap.size + 1, 2, none⟩ (.int .i64 0)).setCell ⟨w.heap.size + 1, 3, none⟩ (.int .i64 0) := ⟨_, rfl⟩
    obtain ⟨g0, g1, g2, g3, hb3⟩ := FIN.out w3 hw3
    rw [← hw3]
    refine bodyPost_ret (v := .tuple #[arr4 0 0 0 0, .bool false]) (by simp [results, Try.results160, go_sem, g0, g1, g2, g3]) rfl ⟨rfl, hb3⟩
  · go_wp2_with (go_at_call 74; refine (in_any _ _ _ _).mono ?_; rintro e w' ⟨rfl, rfl⟩; first | rw [I1] | rw [I2])
    obtain ⟨w3, hw3⟩ : ∃ w3, w3 = (((w2.setCell ⟨w.heap.size + 1, 0, none⟩ (.int .i64 0)).setCell ⟨w.heap.size + 1, 1, none⟩ (.int .i64 0)).setCell ⟨w.heap.size + 1, 2, none⟩ (.int .i64 0)).setCell ⟨w.heap.size + 1, 3, none⟩ (.int .i64 0) := ⟨_, rfl⟩
    obtain ⟨g0, g1, g2, g3, hb3⟩ := FIN.out w3 hw3
    rw [← hw3]
    refine bodyPost_ret (v := .tuple #[arr4 0 0 0 0, .bool false]) (by simp [results, Try.results160, go_sem, g0, g1, g2, g3]) rfl ⟨rfl, hb3⟩

theorem around_any (R : Reg) (hR : R.ok) (A : Option Addr) (n c : Nat) (k : Int) (hk9 : k ≤ 9223372036854775807) (w : World) :
    Calls Try.prog 160 #[.agg #[.int .i64 R.W, .int .i64 R.T, .slice A n c], .int .i64 k] w fun e w' =>
      e = .returned (.tuple #[if insZ R k = true then arr4 (swc R k.toNat : Nat) ((swc R k.toNat : Nat) + 1) ((swc R k.toNat : Nat) + R.W) ((swc R k.toNat : Nat) + R.W + 1) else arr4 0 0 0 0, .bool (insZ R k)]) ∧ Below w.heap.size w w' := by
  cases h : insZ R k with
  | false => exact around_no R hR A n c k hk9 h w
  | true =>
    unfold insZ at h
    rw [Bool.and_eq_true, decide_eq_true_eq] at h
    obtain ⟨m, rfl⟩ := Int.eq_ofNat_of_zero_le h.1
    exact around_yes R hR A n c m h.2 w

theorem ins_cells {R : Reg} (hR : R.ok) {k : Nat} (h : insB R k = true) : swc R k + R.W + 1 < R.C.length := by
  have h' := of_decide_eq_true (show decide _ = true from h)
  have := idx_lt hR (x := k % (R.W + 1)) (y := k / (R.W + 1)) (by omega) (by omega)
  unfold swc
  obtain ⟨a, ha⟩ : ∃ a, k / (R.W + 1) = a + 1 := ⟨k / (R.W + 1) - 1, by omega⟩
  obtain ⟨b, hb⟩ : ∃ b, k % (R.W + 1) = b + 1 := ⟨k % (R.W + 1) - 1, by omega⟩
  rw [ha, hb, Nat.add_mul] at this
  rw [ha, hb]
  simp only [Nat.add_sub_cancel]
  omega
def fl1 (R : Reg) (L : List Int) (k : Int) : Bool := insZ R k && (L.getD (swc R k.toNat) 0 == 1 && L.getD (swc R k.toNat + R.W) 0 == 1)
def fl2 (R : Reg) (L : List Int) (k : Int) : Bool := insZ R k && (L.getD (swc R k.toNat) 0 == 2 && L.getD (swc R k.toNat + 1) 0 == 2)

set_option maxRecDepth 20000 in
theorem flippable_any (R : Reg) (hR : R.ok) (A : Option Addr) (n c B : Nat) (L : List Int) (D : Option Addr) (d : Nat) (k : Int) (hk9 : k ≤ 9223372036854775807) (w : World)
    (hd : Reads w B 1 D R.C.length (L.map (Value.int .i64))) (_hB : B ≤ w.heap.size) :
    Calls Try.prog 113 #[.agg #[.int .i64 R.W, .int .i64 R.T, .slice A n c], .slice D R.C.length d, .int .i64 k] w fun e w' =>
      e = .returned (.tuple #[.bool (fl1 R L k), .bool (fl2 R L k)]) ∧ Below w.heap.size w w' := by
  have hW6 := hR.2.1
  have hl36 := (len_bd hR).2
  have HA := fun w' => hide (around_any R hR A n c k hk9 w')
  have H1 : Hid (fl1 R L k = (insZ R k && (L.getD (swc R k.toNat) 0 == 1 && L.getD (swc R k.toNat + R.W) 0 == 1))) := Lib.hid rfl
  have H2 : Hid (fl2 R L k = (insZ R k && (L.getD (swc R k.toNat) 0 == 2 && L.getD (swc R k.toNat + 1) 0 == 2))) := Lib.hid rfl
  cases hin : insZ R k with
  | false =>
    simp only [hin] at HA
    rw [H1.out, H2.out, hin]
    clear hin H1 H2
    go_enter Try.func113, Try.ntmps113
    go_wp2_with fail
    refine (unhide (HA _)).mono ?_
    rintro e w1 ⟨rfl, hb1⟩
    obtain ⟨hB1, hk1, b0, b1, b2⟩ := box_keep hb1
    go_wp2_with fail
    go_ret2
    exact ⟨rfl, hB1.alloc hB1.size _⟩
  | true =>
    have hin' := hin
    unfold insZ at hin'
    rw [Bool.and_eq_true, decide_eq_true_eq] at hin'
    have hcl := ins_cells hR hin'.2
    simp only [hin, if_true] at HA
    rw [hin] at H1 H2
    generalize swc R k.toNat = s at *
    obtain ⟨c1, hc1⟩ : ∃ c1 : Nat, s + 1 = c1 := ⟨_, rfl⟩
    obtain ⟨c2, hc2⟩ : ∃ c2 : Nat, s + R.W = c2 := ⟨_, rfl⟩
    obtain ⟨c3, hc3⟩ : ∃ c3 : Nat, s + R.W + 1 = c3 := ⟨_, rfl⟩
    simp only [show (s : Int) + 1 = (c1 : Nat) by omega, show (s : Int) + (R.W : Int) = (c2 : Nat) by omega, show (c2 : Int) + 1 = (c3 : Nat) by omega] at HA
    rw [hc2] at H1
    rw [hc1] at H2
    rw [Bool.true_and] at H1 H2
    rw [H1.out, H2.out]
    have l0 : s < R.C.length := by omega
    have l1 : c1 < R.C.length := by omega
    have l2 : c2 < R.C.length := by omega
    obtain ⟨ad, rfl, _, r0⟩ := hd.getI l0
    obtain ⟨ad1, e1, _, r1⟩ := hd.getI l1
    obtain ⟨ad2, e2, _, r2⟩ := hd.getI l2
    obtain rfl : ad = ad1 := by injection e1
    obtain rfl : ad = ad2 := by injection e2
    clear hin hin' H1 H2 e1 e2 hd hc1 hc2 hc3
    generalize L.getD s 0 = v0 at *
    generalize L.getD c1 0 = v1 at *
    generalize L.getD c2 0 = v2 at *
    go_enter Try.func113, Try.ntmps113
    go_wp2_with fail
    refine (unhide (HA _)).mono ?_
    rintro e w1 ⟨rfl, hb1⟩
    obtain ⟨hB1, hk1, b0, b1, b2⟩ := box_keep hb1
    go_upto_region 4 with fail
    have hq := Blk.new w1 126 #[.int .i64 s, .int .i64 c1, .int .i64 c2, .int .i64 c3]
    have hB2 := hB1.alloc hB1.size (.cells #[.int .i64 s, .int .i64 c1, .int .i64 c2, .int .i64 c3] 126)
    clear hb1 hk1 b0 b1 b2 HA
    generalize w1.alloc (.cells #[.int .i64 s, .int .i64 c1, .int .i64 c2, .int .i64 c3] 126) = w2 at *
    obtain ⟨a0, a1, a2, a3⟩ := blk4 hq
    have d0 := (hB2.cell (p := ad.add s) (World.block_lt_of_cell? w _ r0)).trans r0
    have d1 := (hB2.cell (p := ad.add c1) (World.block_lt_of_cell? w _ r1)).trans r1
    have d2 := (hB2.cell (p := ad.add c2) (World.block_lt_of_cell? w _ r2)).trans r2
    clear hq
    cases h1 : v0 == 1 with
    | true =>
      have h2 : (v0 == 2) = false := by simp at h1 ⊢; omega
      go_quiet (fail)
      go_wp2_with fail
      go_ret2
      exact ⟨by rw [h1, h2]; rfl, below_drewN hB2 _⟩
    | false =>
      cases h2 : v0 == 2 with
      | true =>
        go_quiet (fail)
        go_wp2_with fail
        go_ret2
        exact ⟨by rw [h1, h2]; rfl, below_drewN hB2 _⟩
      | false =>
        go_quiet (fail)
        go_wp2_with fail
        go_ret2
        exact ⟨by rw [h1, h2]; rfl, below_drewN hB2 _⟩

def set4 (R : Reg) (L : List Int) (s : Nat) (a b c d : Int) : List Int := (((L.set s a).set (s + 1) b).set (s + R.W) c).set (s + R.W + 1) d
def flV (R : Reg) (L : List Int) (k : Int) : List Int :=
  if fl1 R L k = true then set4 R L (swc R k.toNat) 2 2 4 4 else if fl2 R L k = true then set4 R L (swc R k.toNat) 1 3 1 3 else L
def flB (R : Reg) (L : List Int) (k : Int) : Bool := fl1 R L k || fl2 R L k
theorem set4_len (R : Reg) (L : List Int) (s : Nat) (a b c d : Int) : (set4 R L s a b c d).length = L.length := by simp [set4]
theorem flV_len (R : Reg) (L : List Int) (k : Int) : (flV R L k).length = L.length := by
  unfold flV
  split
  · exact set4_len ..
  · split
    · exact set4_len ..
    · rfl
theorem fl1_ins {R : Reg} {L : List Int} {k : Int} (h : fl1 R L k = true) : insZ R k = true := by unfold fl1 at h; rw [Bool.and_eq_true] at h; exact h.1
theorem fl2_ins {R : Reg} {L : List Int} {k : Int} (h : fl2 R L k = true) : insZ R k = true := by unfold fl2 at h; rw [Bool.and_eq_true] at h; exact h.1
theorem fl12 {R : Reg} {L : List Int} {k : Int} (h : fl1 R L k = true) : fl2 R L k = false := by
  unfold fl1 at h
  unfold fl2
  simp only [Bool.and_eq_true, beq_iff_eq] at h
  rw [h.2.1]
  simp

theorem own_set {w : World} {base g n c : Nat} {O : List Int} (h : w.ownsRow base 3 1 (.slice (some ⟨g, 0, none⟩) n c) n (O.map (Value.int .i64))) (j : Nat) (v : Int) :
    (w.setCell ⟨g, j, none⟩ (.int .i64 v)).ownsRow base 3 1 (.slice (some ⟨g, 0, none⟩) n c) n ((O.set j v).map (Value.int .i64)) := by
  have := (h.stored j (.int .i64 v)).1
  rwa [← List.map_set] at this
theorem own_drew {w : World} {base n : Nat} {v : Value} {xs : List Value} (h : w.ownsRow base 3 1 v n xs) : w.drew.ownsRow base 3 1 v n xs := own_below h (Below.refl _ _).drew (Nat.le_refl _)

set_option maxHeartbeats 1000000 in
set_option maxRecDepth 20000 in
theorem flip_any (R : Reg) (hR : R.ok) (A : Option Addr) (n c B : Nat) (L : List Int) (D : Option Addr) (d : Nat) (k : Int) (hk9 : k ≤ 9223372036854775807) (hP : Plain D) (hL : L.length = R.C.length) (w : World)
    (hd : Reads w B 1 D R.C.length (L.map (Value.int .i64))) (hB : B ≤ w.heap.size) :
    Calls Try.prog 102 #[.agg #[.int .i64 R.W, .int .i64 R.T, .slice A n c], .slice D R.C.length d, .int .i64 k] w (RetIB w (flV R L k) (flB R L k)) := by
  have hW6 := hR.2.1
  have hl36 := (len_bd hR).2
  have hl1 := (len_bd hR).1
  have HA := fun w' => hide (around_any R hR A n c k hk9 w')
  have HF := fun w' (h : Below w.heap.size w w') => hide (flippable_any R hR A n c B L D d k hk9 w' (hd.below (h.mono hB)) (Nat.le_trans hB h.size))
  have HC := fun w' (h : Below w.heap.size w w') => hide (clone_any D d B L w' hP (by rw [hL]; exact hd.below (h.mono hB)) (by omega))
  simp only [hL] at HC
  have hb0 : Below w.heap.size w (w.alloc (boxR R.W R.T A n c)) := (Below.refl _ _).alloc (Nat.le_refl _) _
  cases h1 : fl1 R L k with
  | true =>
    have h2 := fl12 h1
    have hin := fl1_ins h1
    have hv : flV R L k = set4 R L (swc R k.toNat) 2 2 4 4 := by unfold flV; rw [if_pos h1]
    have hb : flB R L k = true := by unfold flB; rw [h1]; rfl
    rw [hv, hb]
    have hin' := hin
    unfold insZ at hin'
    rw [Bool.and_eq_true, decide_eq_true_eq] at hin'
    have hcl := ins_cells hR hin'.2
    have hW2 : 2 ≤ R.W := by
      have := of_decide_eq_true (show decide _ = true from hin'.2)
      omega
    simp only [hin, if_true] at HA
    simp only [h1, h2] at HF
    unfold set4
    generalize swc R k.toNat = s at *
    obtain ⟨c1, hc1⟩ : ∃ c1 : Nat, s + 1 = c1 := ⟨_, rfl⟩
    obtain ⟨c2, hc2⟩ : ∃ c2 : Nat, s + R.W = c2 := ⟨_, rfl⟩
    obtain ⟨c3, hc3⟩ : ∃ c3 : Nat, c2 + 1 = c3 := ⟨_, rfl⟩
    simp only [show (s : Int) + 1 = (c1 : Nat) by omega, show (s : Int) + (R.W : Int) = (c2 : Nat) by omega, show (c2 : Int) + 1 = (c3 : Nat) by omega] at HA
    rw [hc1, hc2, hc3]
    have l0 : s < R.C.length := by omega
    have l1 : c1 < R.C.length := by omega
    have l2 : c2 < R.C.length := by omega
    have l3 : c3 < R.C.length := by omega
    have n1 : c1 ≠ s := by omega
    have n2 : c2 ≠ s := by omega
    have n3 : c3 ≠ s := by omega
    have n4 : c2 ≠ c1 := by omega
    have n5 : c3 ≠ c1 := by omega
    have n6 : c3 ≠ c2 := by omega
    clear hin hin' hv hb h1 h2 hc1 hc2 hc3
    go_enter Try.func102, Try.ntmps102
    go_wp2_with fail
    refine (unhide (HC _ hb0)).mono ?_
    rintro e w1 ⟨A', c', rfl, ho1, hb1⟩
    obtain ⟨hB1, hk1, b0, b1, b2⟩ := box_keep hb1
    rw [hL] at ho1 ⊢
    obtain ⟨g, cg, hsh, _, hg1, hg2⟩ := own_shape ho1 hl1
    simp only [Value.slice.injEq, true_and] at hsh
    obtain ⟨rfl, rfl⟩ := hsh
    have ho1' := own_mono ho1 hb0.size
    clear ho1 hb1 HC
    go_wp2_with fail
    refine (unhide (HF _ hB1)).mono ?_
    rintro e w2 ⟨rfl, hb2⟩
    have hB2 := hB1.trans (hb2.mono hB1.size)
    have ho2 := own_below ho1' hb2 (Nat.le_refl _)
    clear b0 b1 b2
    obtain ⟨hk2, b0, b1, b2⟩ := blk_keep hk1 hb2
    have hg3 : g < w2.heap.size := Nat.lt_of_lt_of_le hg2 hb2.size
    clear ho1' hb2 hk1 hB1 hg2 HF
    go_wp2_with fail
    refine (unhide (HA _)).mono ?_
    rintro e w3 ⟨rfl, hb3⟩
    have hB3 := hB2.trans (hb3.mono hB2.size)
    have ho3 := own_below ho2 hb3 (Nat.le_refl _)
    have hg4 : g < w3.heap.size := Nat.lt_of_lt_of_le hg3 hb3.size
    clear b0 b1 b2 hk2 hb3 hB2 ho2 hg3 HA
    go_upto_region 5 with fail
    have hq := Blk.new w3 126 #[.int .i64 s, .int .i64 c1, .int .i64 c2, .int .i64 c3]
    have hB4 := hB3.alloc hB3.size (.cells #[.int .i64 s, .int .i64 c1, .int .i64 c2, .int .i64 c3] 126)
    have ho4 := own_below ho3 ((Below.refl _ _).alloc (Nat.le_refl _) (.cells #[.int .i64 s, .int .i64 c1, .int .i64 c2, .int .i64 c3] 126)) (Nat.le_refl _)
    have hne : w3.heap.size ≠ g := by omega
    clear hB3 ho3
    generalize w3.alloc (.cells #[.int .i64 s, .int .i64 c1, .int .i64 c2, .int .i64 c3] 126) = w4 at *
    generalize w3.heap.size = q at *
    obtain ⟨a0, a1, a2, a3⟩ := blk4 hq
    have q0 := ho4.cellAt s (by omega)
    have q1 := ho4.cellAt c1 (by omega)
    have q2 := ho4.cellAt c2 (by omega)
    have q3 := ho4.cellAt c3 (by omega)
    have f0 := ho4.frozenAt s
    have f1 := ho4.frozenAt c1
    have f2 := ho4.frozenAt c2
    have f3 := ho4.frozenAt c3
    rw [List.getElem?_map, List.getElem?_eq_getElem (by omega)] at q0 q1 q2 q3
    simp only [Option.map_some] at q0 q1 q2 q3
    go_region
    have hB5 := (((hB4.setCell (p := ⟨g, s, none⟩) (by have := hB4.size; simp at hg1; simp; omega) (.int .i64 2)).setCell (p := ⟨g, c1, none⟩) (by simp at hg1; simp; omega) (.int .i64 2)).setCell (p := ⟨g, c2, none⟩) (by simp at hg1; simp; omega) (.int .i64 4)).setCell (p := ⟨g, c3, none⟩) (by simp at hg1; simp; omega) (.int .i64 4) |>.drew
    have ho5 := own_drew (own_set (own_set (own_set (own_set ho4 s 2) c1 2) c2 4) c3 4)
    clear q0 q1 q2 q3 f0 f1 f2 f3 a0 a1 a2 a3 hq ho4 hB4
    generalize ((((w4.setCell ⟨g, s, none⟩ (.int .i64 2)).setCell ⟨g, c1, none⟩ (.int .i64 2)).setCell ⟨g, c2, none⟩ (.int .i64 4)).setCell ⟨g, c3, none⟩ (.int .i64 4)).drew = w6 at *
    go_wp2_with fail
    go_ret2
    have hlen : ((((L.set s 2).set c1 2).set c2 4).set c3 4).length = R.C.length := by simp [hL]
    refine ⟨some ⟨g, 0, none⟩, c', R.C.length, by rw [hlen]; rfl, by rw [hlen]; exact ho5, hB5⟩
  | false =>
    cases h2 : fl2 R L k with
    | true =>
      have hin := fl2_ins h2
      have hv : flV R L k = set4 R L (swc R k.toNat) 1 3 1 3 := by unfold flV; rw [if_neg (by rw [h1]; decide), if_pos h2]
      have hb : flB R L k = true := by unfold flB; rw [h1, h2]; rfl
      rw [hv, hb]
      have hin' := hin
      unfold insZ at hin'
      rw [Bool.and_eq_true, decide_eq_true_eq] at hin'
      have hcl := ins_cells hR hin'.2
      have hW2 : 2 ≤ R.W := by
        have := of_decide_eq_true (show decide _ = true from hin'.2)
        omega
      simp only [hin, if_true] at HA
      simp only [h1, h2] at HF
      unfold set4
      generalize swc R k.toNat = s at *
      obtain ⟨c1, hc1⟩ : ∃ c1 : Nat, s + 1 = c1 := ⟨_, rfl⟩
      obtain ⟨c2, hc2⟩ : ∃ c2 : Nat, s + R.W = c2 := ⟨_, rfl⟩
      obtain ⟨c3, hc3⟩ : ∃ c3 : Nat, c2 + 1 = c3 := ⟨_, rfl⟩
      simp only [show (s : Int) + 1 = (c1 : Nat) by omega, show (s : Int) + (R.W : Int) = (c2 : Nat) by omega, show (c2 : Int) + 1 = (c3 : Nat) by omega] at HA
      rw [hc1, hc2, hc3]
      have l0 : s < R.C.length := by omega
      have l1 : c1 < R.C.length := by omega
      have l2 : c2 < R.C.length := by omega
      have l3 : c3 < R.C.length := by omega
      have n1 : c1 ≠ s := by omega
      have n2 : c2 ≠ s := by omega
      have n3 : c3 ≠ s := by omega
      have n4 : c2 ≠ c1 := by omega
      have n5 : c3 ≠ c1 := by omega
      have n6 : c3 ≠ c2 := by omega
      clear hin hin' hv hb h1 h2 hc1 hc2 hc3
      go_enter Try.func102, Try.ntmps102
      go_wp2_with fail
      refine (unhide (HC _ hb0)).mono ?_
      rintro e w1 ⟨A', c', rfl, ho1, hb1⟩
      obtain ⟨hB1, hk1, b0, b1, b2⟩ := box_keep hb1
      rw [hL] at ho1 ⊢
      obtain ⟨g, cg, hsh, _, hg1, hg2⟩ := own_shape ho1 hl1
      simp only [Value.slice.injEq, true_and] at hsh
      obtain ⟨rfl, rfl⟩ := hsh
      have ho1' := own_mono ho1 hb0.size
      clear ho1 hb1 HC
      go_wp2_with fail
      refine (unhide (HF _ hB1)).mono ?_
      rintro e w2 ⟨rfl, hb2⟩
      have hB2 := hB1.trans (hb2.mono hB1.size)
      have ho2 := own_below ho1' hb2 (Nat.le_refl _)
      clear b0 b1 b2
      obtain ⟨hk2, b0, b1, b2⟩ := blk_keep hk1 hb2
      have hg3 : g < w2.heap.size := Nat.lt_of_lt_of_le hg2 hb2.size
      clear ho1' hb2 hk1 hB1 hg2 HF
      go_wp2_with fail
      refine (unhide (HA _)).mono ?_
      rintro e w3 ⟨rfl, hb3⟩
      have hB3 := hB2.trans (hb3.mono hB2.size)
      have ho3 := own_below ho2 hb3 (Nat.le_refl _)
      have hg4 : g < w3.heap.size := Nat.lt_of_lt_of_le hg3 hb3.size
      clear b0 b1 b2 hk2 hb3 hB2 ho2 hg3 HA
      go_upto_region 7 with fail
      have hq := Blk.new w3 126 #[.int .i64 s, .int .i64 c1, .int .i64 c2, .int .i64 c3]
      have hB4 := hB3.alloc hB3.size (.cells #[.int .i64 s, .int .i64 c1, .int .i64 c2, .int .i64 c3] 126)
      have ho4 := own_below ho3 ((Below.refl _ _).alloc (Nat.le_refl _) (.cells #[.int .i64 s, .int .i64 c1, .int .i64 c2, .int .i64 c3] 126)) (Nat.le_refl _)
      have hne : w3.heap.size ≠ g := by omega
      clear hB3 ho3
      generalize w3.alloc (.cells #[.int .i64 s, .int .i64 c1, .int .i64 c2, .int .i64 c3] 126) = w4 at *
      generalize w3.heap.size = q at *
      obtain ⟨a0, a1, a2, a3⟩ := blk4 hq
      have q0 := ho4.cellAt s (by omega)
      have q1 := ho4.cellAt c1 (by omega)
      have q2 := ho4.cellAt c2 (by omega)
      have q3 := ho4.cellAt c3 (by omega)
      have f0 := ho4.frozenAt s
      have f1 := ho4.frozenAt c1
      have f2 := ho4.frozenAt c2
      have f3 := ho4.frozenAt c3
      rw [List.getElem?_map, List.getElem?_eq_getElem (by omega)] at q0 q1 q2 q3
      simp only [Option.map_some] at q0 q1 q2 q3
      go_region
      have hB5 := (((hB4.setCell (p := ⟨g, s, none⟩) (by have := hB4.size; simp at hg1; simp; omega) (.int .i64 1)).setCell (p := ⟨g, c1, none⟩) (by simp at hg1; simp; omega) (.int .i64 3)).setCell (p := ⟨g, c2, none⟩) (by simp at hg1; simp; omega) (.int .i64 1)).setCell (p := ⟨g, c3, none⟩) (by simp at hg1; simp; omega) (.int .i64 3) |>.drew
      have ho5 := own_drew (own_set (own_set (own_set (own_set ho4 s 1) c1 3) c2 1) c3 3)
      clear q0 q1 q2 q3 f0 f1 f2 f3 a0 a1 a2 a3 hq ho4 hB4
      generalize ((((w4.setCell ⟨g, s, none⟩ (.int .i64 1)).setCell ⟨g, c1, none⟩ (.int .i64 3)).setCell ⟨g, c2, none⟩ (.int .i64 1)).setCell ⟨g, c3, none⟩ (.int .i64 3)).drew = w6 at *
      go_wp2_with fail
      go_ret2
      have hlen : ((((L.set s 1).set c1 3).set c2 1).set c3 3).length = R.C.length := by simp [hL]
      refine ⟨some ⟨g, 0, none⟩, c', R.C.length, by rw [hlen]; rfl, by rw [hlen]; exact ho5, hB5⟩
    | false =>
      have hv : flV R L k = L := by unfold flV; rw [if_neg (by rw [h1]; decide), if_neg (by rw [h2]; decide)]
      have hb : flB R L k = false := by unfold flB; rw [h1, h2]; rfl
      rw [hv, hb]
      simp only [h1, h2] at HF
      clear hv hb h1 h2
      obtain ⟨r0, r1, r2, r3, rb, HAR⟩ : ∃ (r0 r1 r2 r3 : Int) (rb : Bool), ∀ w', Hid (Calls Try.prog 160 #[.agg #[.int .i64 R.W, .int .i64 R.T, .slice A n c], .int .i64 k] w' fun e w'' => e = .returned (.tuple #[arr4 r0 r1 r2 r3, .bool rb]) ∧ Below w'.heap.size w' w'') := by
        cases hin : insZ R k with
        | true => simp only [hin, if_true] at HA; exact ⟨_, _, _, _, _, HA⟩
        | false => simp only [hin, Bool.false_eq_true, if_false] at HA; exact ⟨_, _, _, _, _, HA⟩
      go_enter Try.func102, Try.ntmps102
      go_wp2_with fail
      refine (unhide (HC _ hb0)).mono ?_
      rintro e w1 ⟨A', c', rfl, ho1, hb1⟩
      obtain ⟨hB1, hk1, b0, b1, b2⟩ := box_keep hb1
      rw [hL] at ho1 ⊢
      have ho1' := own_mono ho1 hb0.size
      clear ho1 hb1 HC
      go_wp2_with fail
      refine (unhide (HF _ hB1)).mono ?_
      rintro e w2 ⟨rfl, hb2⟩
      have hB2 := hB1.trans (hb2.mono hB1.size)
      have ho2 := own_below ho1' hb2 (Nat.le_refl _)
      clear b0 b1 b2
      obtain ⟨hk2, b0, b1, b2⟩ := blk_keep hk1 hb2
      clear ho1' hb2 hk1 hB1 HF
      go_wp2_with fail
      refine (unhide (HAR _)).mono ?_
      rintro e w3 ⟨rfl, hb3⟩
      have hB3 := hB2.trans (hb3.mono hB2.size)
      have ho3 := own_below ho2 hb3 (Nat.le_refl _)
      clear b0 b1 b2 hk2 hb3 hB2 ho2 HAR HA
      go_wp2_with fail
      go_ret2
      have hB4 := hB3.alloc hB3.size (.cells #[.int .i64 r0, .int .i64 r1, .int .i64 r2, .int .i64 r3] 126)
      have ho4 := own_below ho3 ((Below.refl _ _).alloc (Nat.le_refl _) (.cells #[.int .i64 r0, .int .i64 r1, .int .i64 r2, .int .i64 r3] 126)) (Nat.le_refl _)
      exact ⟨A', c', R.C.length, by rw [hL]; rfl, by rw [hL]; exact ho4, hB4⟩

end Go.Proofs.Ythepfpiphlfgnaa
