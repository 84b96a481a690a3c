/-
  YthepfpiphlfgnaaBl: Below and Apart, of the program and of the reference.
-/
import Derived.Test.YthepfpiphlfgnaaPk
import Derived.Test.YthepfpiphlfgnaaRep
import Derived.Test.YthepfpiphlfgnaaHS
namespace Go.Proofs.Ythepfpiphlfgnaa
open Go.RowKit

theorem addr_add (g j : Nat) : (⟨g, 0, none⟩ : Addr).add j = ⟨g, j, none⟩ := by unfold Addr.add; split <;> simp_all

theorem equal_any (g g' c c' B B' : Nat) (L M : List Int) (w : World) (hr : Reads w B 1 (some ⟨g, 0, none⟩) L.length (L.map (Value.int .i64))) (hd : Reads w B' 1 (some ⟨g', 0, none⟩) M.length (M.map (Value.int .i64))) (hl : L.length ≤ 1048576) (hm : M.length ≤ 1048576) :
    Calls Try.prog 81 #[.slice (some ⟨g, 0, none⟩) L.length c, .slice (some ⟨g', 0, none⟩) M.length c'] w fun e w' => e = .returned (.bool (L == M)) ∧ Below w.heap.size w w' := by
  refine (slices_Equal_int g 0 L.length c g' 0 M.length c' L M w (Nat.le_refl _) (Nat.le_refl _) (by omega) (by omega) ?_ ?_).mono ?_
  · intro j hj
    obtain ⟨ad, e, _, hc⟩ := hr.getI hj
    injection e with e
    subst e
    rw [addr_add] at hc
    rw [Nat.zero_add]; exact hc
  · intro j hj
    obtain ⟨ad, e, _, hc⟩ := hd.getI hj
    injection e with e
    subst e
    rw [addr_add] at hc
    rw [Nat.zero_add]; exact hc
  · rintro e w' ⟨rfl, q, rfl⟩
    rw [List.take_length, List.take_length]
    exact ⟨rfl, below_drewN (Below.refl _ _) _⟩

/-! ### What they say -/
def leB (X Y : List Int) : Bool := (List.range X.length).all fun k => decide (X.getD k 0 ≤ Y.getD k 0)
theorem leB_zip {X Y : List Int} (h : X.length = Y.length) : (X == List.zipWith min X Y) = leB X Y := by
  rw [Bool.eq_iff_iff, beq_iff_eq]
  unfold leB
  rw [List.all_eq_true]
  constructor
  · intro he k hk
    have hk' := List.mem_range.1 hk
    have := zip_at (f := min) (L := X) (M := Y) hk' (by omega)
    rw [← he, List.getElem?_eq_getElem hk'] at this
    simp only [Option.some.injEq] at this
    rw [decide_eq_true_eq, List.getD_eq_getElem?_getD, List.getElem?_eq_getElem hk', Option.getD_some]
    rw [List.getD_eq_getElem?_getD, List.getElem?_eq_getElem hk', Option.getD_some] at this
    omega
  · intro ha
    apply List.ext_getElem?
    intro k
    by_cases hk : k < X.length
    · rw [zip_at hk (by omega)]
      have := ha k (List.mem_range.2 hk)
      rw [decide_eq_true_eq] at this
      rw [List.getElem?_eq_getElem hk]
      rw [List.getD_eq_getElem?_getD (l := X), List.getElem?_eq_getElem hk, Option.getD_some] at this ⊢
      congr 1
      omega
    · rw [List.getElem?_eq_none (by omega), List.getElem?_eq_none (by rw [zip_len h]; omega)]
theorem leB_no {X Y : List Int} {k : Nat} (hk : k < X.length) (h : Y.getD k 0 < X.getD k 0) : leB X Y = false := by
  unfold leB
  rw [Bool.eq_false_iff]
  intro ha
  rw [List.all_eq_true] at ha
  have := ha k (List.mem_range.2 hk)
  rw [decide_eq_true_eq] at this
  omega
theorem leB_yes {X Y : List Int} (h : ∀ k, k < X.length → X.getD k 0 ≤ Y.getD k 0) : leB X Y = true := by
  unfold leB
  rw [List.all_eq_true]
  intro k hk
  exact decide_eq_true (h k (List.mem_range.1 hk))

noncomputable def belowB (W T : Int) (bs : List Bool) (a b : List Int) : Bool := tiledB W T bs a && tiledB W T bs b && leB (htsOf W T bs a) (htsOf W T bs b)
theorem hts_len_eq {W T : Int} {bs : List Bool} {a b : List Int} (ha : tiledB W T bs a = true) (hb : tiledB W T bs b = true) : (htsOf W T bs a).length = (htsOf W T bs b).length := by
  obtain ⟨R, hR, rfl, rfl, rfl, hS, hL, hF⟩ := tiled_cases ha
  obtain ⟨_, hL2, hF2⟩ := (tiled_ok hR).1 hb
  rw [(htsOf_yes hR hS hL hF).len, (htsOf_yes hR hS hL2 hF2).len]

theorem belowI_any (W T : Int) (A : Option Addr) (n c B : Nat) (bs : List Bool) (L1 : List Int) (D1 : Option Addr) (m1 d1 : Nat) (L2 : List Int) (D2 : Option Addr) (m2 d2 : Nat) (w : World) (hbl : bs.length = n) (hL1 : L1.length = m1) (hL2 : L2.length = m2)
    (hr : Reads w B 1 A n (bs.map Value.bool)) (h1 : Reads w B 1 D1 m1 (L1.map (Value.int .i64))) (h2 : Reads w B 1 D2 m2 (L2.map (Value.int .i64))) (hB : B ≤ w.heap.size) (hn : n ≤ 9223372036854775807) (hm1 : m1 ≤ 9223372036854775807) (hm2 : m2 ≤ 9223372036854775807) :
    Calls Try.prog 22 #[.agg #[.int .i64 W, .int .i64 T, .slice A n c], .slice D1 m1 d1, .slice D2 m2 d2] w fun e w' => e = .returned (.bool (belowB W T bs L1 L2)) ∧ Below w.heap.size w w' := by
  have hT1 := fun w' (h : Below w.heap.size w w') => hide (tiled_any W T A n c B bs L1 D1 m1 d1 w' hbl hL1 (hr.below (h.mono hB)) (h1.below (h.mono hB)) (Nat.le_trans hB h.size) hn hm1)
  have hT2 := fun w' (h : Below w.heap.size w w') => hide (tiled_any W T A n c B bs L2 D2 m2 d2 w' hbl hL2 (hr.below (h.mono hB)) (h2.below (h.mono hB)) (Nat.le_trans hB h.size) hn hm2)
  have hb0 : Below w.heap.size w (w.alloc (boxR W T A n c)) := (Below.refl _ _).alloc (Nat.le_refl _) _
  cases ht1 : tiledB W T bs L1 with
  | false =>
    simp only [ht1] at hT1
    have hres : belowB W T bs L1 L2 = false := by unfold belowB; rw [ht1]; rfl
    rw [hres]
    clear hres ht1 hT2
    go_enter Try.func22, Try.ntmps22
    go_wp2_with fail
    refine (unhide (hT1 _ hb0)).mono ?_
    rintro e w1 ⟨rfl, hb1⟩
    go_wp2_with fail
    go_ret
    exact ⟨rfl, (box_keep hb1).1⟩
  | true =>
    simp only [ht1] at hT1
    cases ht2 : tiledB W T bs L2 with
    | false =>
      simp only [ht2] at hT2
      have hres : belowB W T bs L1 L2 = false := by unfold belowB; rw [ht1, ht2]; rfl
      rw [hres]
      clear hres ht1 ht2
      go_enter Try.func22, Try.ntmps22
      go_wp2_with fail
      refine (unhide (hT1 _ hb0)).mono ?_
      rintro e w1 ⟨rfl, hb1⟩
      obtain ⟨hB1, hk1, b0, b1, b2⟩ := box_keep hb1
      go_wp2_with fail
      refine (unhide (hT2 _ hB1)).mono ?_
      rintro e w2 ⟨rfl, hb2⟩
      go_wp2_with fail
      go_ret
      exact ⟨rfl, hB1.trans (hb2.mono hB1.size)⟩
    | true =>
      simp only [ht2] at hT2
      have hlen := hts_len_eq ht1 ht2
      have hl49 := htsOf_len (W := W) (T := T) (bs := bs) (L := L1)
      have hres : belowB W T bs L1 L2 = (htsOf W T bs L1 == List.zipWith min (htsOf W T bs L1) (htsOf W T bs L2)) := by
        unfold belowB; rw [ht1, ht2, Bool.true_and, Bool.true_and, leB_zip hlen]
      rw [hres]
      obtain ⟨R, hR, rfl, rfl, rfl, hS, hLy1, hF1⟩ := tiled_cases ht1
      obtain ⟨_, hLy2, hF2⟩ := (tiled_ok hR).1 ht2
      have hH1 := htsOf_yes hR hS hLy1 hF1
      have hH2 := htsOf_yes hR hS hLy2 hF2
      subst hbl hL1 hL2
      have hHT1 := fun w' (h : Below w.heap.size w w') => hide (heights_any R hR hS A c B L1 D1 d1 hLy1 hF1 _ hH1 w' (hr.below (h.mono hB)) (h1.below (h.mono hB)) (Nat.le_trans hB h.size))
      have hHT2 := fun w' (h : Below w.heap.size w w') => hide (heights_any R hR hS A c B L2 D2 d2 hLy2 hF2 _ hH2 w' (hr.below (h.mono hB)) (h2.below (h.mono hB)) (Nat.le_trans hB h.size))
      generalize htsOf R.W R.T R.C L1 = X at *
      generalize htsOf R.W R.T R.C L2 = Y at *
      have HLEN := Lib.hid hlen
      have hzl : (List.zipWith min X Y).length ≤ 1048576 := by rw [zip_len hlen]; omega
      obtain ⟨Z, hZ⟩ : ∃ Z, Z = List.zipWith min X Y := ⟨_, rfl⟩
      rw [← hZ] at hzl ⊢
      have HZ := Lib.hid hZ
      clear hres ht1 ht2 hlen hH1 hH2 hZ
      go_enter Try.func22, Try.ntmps22
      go_wp2_with fail
      refine (unhide (hT1 _ hb0)).mono ?_
      rintro e w1 ⟨rfl, hb1⟩
      obtain ⟨hB1, hk1, b0, b1, b2⟩ := box_keep hb1
      go_wp2_with fail
      refine (unhide (hT2 _ hB1)).mono ?_
      rintro e w2 ⟨rfl, hb2⟩
      have hB2 := hB1.trans (hb2.mono hB1.size)
      clear b0 b1 b2
      obtain ⟨hk2, b0, b1, b2⟩ := blk_keep hk1 hb2
      go_wp2_with fail
      refine (unhide (hHT1 _ hB2)).mono ?_
      rintro e w3 ⟨g3, rfl, ho3, hb3⟩
      have hB3 := hB2.trans (hb3.mono hB2.size)
      clear b0 b1 b2
      obtain ⟨hk3, b0, b1, b2⟩ := blk_keep hk2 hb3
      go_wp2_with fail
      refine (unhide (hHT2 _ hB3)).mono ?_
      rintro e w4 ⟨g4, rfl, ho4, hb4⟩
      have hB4 := hB3.trans (hb4.mono hB3.size)
      have ho3 := own_below ho3 hb4 (Nat.le_refl _)
      clear b0 b1 b2
      go_wp2_with fail
      have hp := pick_lesser (some ⟨g3, 0, none⟩) (some ⟨g4, 0, none⟩) X.length Y.length w4.heap.size X Y X.length rfl HLEN.out.symm (by omega) w4 (Reads.of_own ho3) (by have := Reads.of_own ho4; rw [← HLEN.out] at this; exact this) (Nat.le_refl _)
      rw [show (Value.slice (some ⟨g4, 0, none⟩) X.length Y.length) = Value.slice (some ⟨g4, 0, none⟩) Y.length Y.length by rw [HLEN.out]] at hp
      rw [← HZ.out] at hp
      refine hp.mono ?_
      clear hp
      rintro e w5 ⟨g5, rfl, ho5, hb5⟩
      have hB5 := hB4.trans (hb5.mono hB4.size)
      have ho3 := own_below ho3 hb5 (Nat.le_refl _)
      have hxl : X.length ≤ 1048576 := by omega
      have hq := hide (equal_any g3 g5 X.length Z.length w5.heap.size w5.heap.size X Z w5 (Reads.of_own ho3) (Reads.of_own ho5) hxl hzl)
      clear hzl hxl ho5
      go_wp2_with fail
      refine (unhide hq).mono ?_
      rintro e w6 ⟨rfl, hb6⟩
      go_wp2_with fail
      go_ret
      exact ⟨rfl, hB5.trans (hb6.mono hB5.size)⟩

/-! ### Apart -/
noncomputable def apartV (W T : Int) (bs : List Bool) (a b : List Int) : Int := if tiledB W T bs a && tiledB W T bs b then (List.zipWith dif (htsOf W T bs a) (htsOf W T bs b)).sum / 4 else -1

theorem htsOf_bd {W T : Int} {bs : List Bool} {L : List Int} : ∀ z ∈ htsOf W T bs L, -51 ≤ z ∧ z ≤ 99 := by
  intro z hz
  cases h : tiledB W T bs L with
  | false => rw [htsOf_no h] at hz; simp at hz
  | true =>
    obtain ⟨R, hR, rfl, rfl, rfl, hS, hL, hF⟩ := tiled_cases h
    have hH := htsOf_yes hR hS hL hF
    obtain ⟨c, hc, rfl⟩ := List.mem_iff_getElem.1 hz
    have hc' : c < R.cn := by rw [← hH.len]; exact hc
    obtain ⟨hx, hy⟩ := ci_in hc'
    have e : (htsOf R.W R.T R.C L)[c] = R.ht (htsOf R.W R.T R.C L) (c % (R.W + 1)) (c / (R.W + 1)) := by
      unfold Reg.ht
      rw [ci_of, List.getD_eq_getElem?_getD, List.getElem?_eq_getElem hc]; rfl
    rw [e]
    cases hu : R.cu ((c % (R.W + 1) : Nat) : Int) ((c / (R.W + 1) : Nat) : Int) with
    | false => rw [hH.no _ _ hx hy hu]; omega
    | true => have := hts_bd hR hS.1 hL hF hH hu; omega

theorem sum_take_succ {L : List Int} {k : Nat} {z : Int} (h : L[k]? = some z) : (L.take (k + 1)).sum = (L.take k).sum + z := by
  rw [List.take_add_one, h]
  simp
theorem sum_take_bd {L : List Int} {b : Int} (hb : 0 ≤ b) (hL : ∀ z ∈ L, 0 ≤ z ∧ z ≤ b) : ∀ k, 0 ≤ (L.take k).sum ∧ (L.take k).sum ≤ b * (k : Int) := by
  intro k
  induction k with
  | zero => simp
  | succ k ih =>
    have e : b * ((k + 1 : Nat) : Int) = b * (k : Int) + b := by rw [Int.natCast_add, Int.mul_add]; simp
    cases h : L[k]? with
    | none =>
      have hle : L.length ≤ k := by
        rcases Nat.lt_or_ge k L.length with h1 | h1
        · rw [List.getElem?_eq_getElem h1] at h; cases h
        · exact h1
      rw [List.take_of_length_le (show L.length ≤ k + 1 by omega)]
      rw [List.take_of_length_le hle] at ih
      omega
    | some z =>
      rw [sum_take_succ h]
      have hz := hL z (List.mem_of_getElem? h)
      omega
theorem dif_bd {x y : Int} (hx : -51 ≤ x ∧ x ≤ 99) (hy : -51 ≤ y ∧ y ≤ 99) : 0 ≤ dif x y ∧ dif x y ≤ 150 := by unfold dif; omega
theorem zip_dif_bd {X Y : List Int} (hX : ∀ z ∈ X, -51 ≤ z ∧ z ≤ 99) (hY : ∀ z ∈ Y, -51 ≤ z ∧ z ≤ 99) : ∀ z ∈ List.zipWith dif X Y, 0 ≤ z ∧ z ≤ 150 := by
  intro z hz
  obtain ⟨k, hk, rfl⟩ := List.mem_iff_getElem.1 hz
  rw [List.length_zipWith] at hk
  rw [List.getElem_zipWith]
  exact dif_bd (hX _ (List.getElem_mem _)) (hY _ (List.getElem_mem _))

end Go.Proofs.Ythepfpiphlfgnaa
