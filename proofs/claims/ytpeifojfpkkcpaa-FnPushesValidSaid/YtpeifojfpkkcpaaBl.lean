/-
  YtpeifojfpkkcpaaBl: Below and Apart, of the program and of the reference.
-/
import Derived.Test.YtpeifojfpkkcpaaPk
import Derived.Test.YtpeifojfpkkcpaaRep
import Derived.Test.YtpeifojfpkkcpaaHS
namespace Go.Proofs.Ytpeifojfpkkcpaa
open Go.RowKit

theorem addr_add (g j : Nat) : (⟨g, 0, none⟩ : Addr).add j = ⟨g, j, none⟩ := by unfold Addr.add; split <;> simp_all

theorem equal_any (g g' c c' B B' : Nat) (L M : List Int) (w : World) (hr : Reads w B 1 (some ⟨g, 0, none⟩) L.length (L.map (Value.int .i64))) (hd : Reads w B' 1 (some ⟨g', 0, none⟩) M.length (M.map (Value.int .i64))) (hl : L.length ≤ 1048576) (hm : M.length ≤ 1048576) :
    Calls Try.prog 119 #[.slice (some ⟨g, 0, none⟩) L.length c, .slice (some ⟨g', 0, none⟩) M.length c'] w fun e w' => e = .returned (.bool (L == M)) ∧ Below w.heap.size w w' := by
  refine (slices_Equal_int g 0 L.length c g' 0 M.length c' L M w (Nat.le_refl _) (Nat.le_refl _) (by omega) (by omega) ?_ ?_).mono ?_
  · intro j hj
    obtain ⟨ad, e, _, hc⟩ := hr.getI hj
    injection e with e
    subst e
    rw [addr_add] at hc
    rw [Nat.zero_add]; exact hc
  · intro j hj
    obtain ⟨ad, e, _, hc⟩ := hd.getI hj
    injection e with e
    subst e
    rw [addr_add] at hc
    rw [Nat.zero_add]; exact hc
  · rintro e w' ⟨rfl, q, rfl⟩
    rw [List.take_length, List.take_length]
    exact ⟨rfl, below_drewN (Below.refl _ _) _⟩

/-! ### What they say -/
def leB (X Y : List Int) : Bool := (List.range X.length).all fun k => decide (X.getD k 0 ≤ Y.getD k 0)
theorem leB_zip {X Y : List Int} (h : X.length = Y.length) : (X == List.zipWith min X Y) = leB X Y := by
  rw [Bool.eq_iff_iff, beq_iff_eq]
  unfold leB
  rw [List.all_eq_true]
  constructor
  · intro he k hk
    have hk' := List.mem_range.1 hk
    have := zip_at (f := min) (L := X) (M := Y) hk' (by omega)
    rw [← he, List.getElem?_eq_getElem hk'] at this
    simp only [Option.some.injEq] at this
    rw [decide_eq_true_eq, List.getD_eq_getElem?_getD, List.getElem?_eq_getElem hk', Option.getD_some]
    rw [List.getD_eq_getElem?_getD, List.getElem?_eq_getElem hk', Option.getD_some] at this
    omega
  · intro ha
    apply List.ext_getElem?
    intro k
    by_cases hk : k < X.length
    · rw [zip_at hk (by omega)]
      have := ha k (List.mem_range.2 hk)
      rw [decide_eq_true_eq] at this
      rw [List.getElem?_eq_getElem hk]
      rw [List.getD_eq_getElem?_getD (l := X), List.getElem?_eq_getElem hk, Option.getD_some] at this ⊢
      congr 1
      omega
    · rw [List.getElem?_eq_none (by omega), List.getElem?_eq_none (by rw [zip_len h]; omega)]
theorem leB_no {X Y : List Int} {k : Nat} (hk : k < X.length) (h : Y.getD k 0 < X.getD k 0) : leB X Y = false := by
  unfold leB
  rw [Bool.eq_false_iff]
  intro ha
  rw [List.all_eq_true] at ha
  have := ha k (List.mem_range.2 hk)
  rw [decide_eq_true_eq] at this
  omega
theorem leB_yes {X Y : List Int} (h : ∀ k, k < X.length → X.getD k 0 ≤ Y.getD k 0) : leB X Y = true := by
  unfold leB
  rw [List.all_eq_true]
  intro k hk
  exact decide_eq_true (h k (List.mem_range.1 hk))

noncomputable def belowB (W T : Int) (bs : List Bool) (a b : List Int) : Bool := tiledB W T bs a && tiledB W T bs b && leB (htsOf W T bs a) (htsOf W T bs b)
theorem hts_len_eq {W T : Int} {bs : List Bool} {a b : List Int} (ha : tiledB W T bs a = true) (hb : tiledB W T bs b = true) : (htsOf W T bs a).length = (htsOf W T bs b).length := by
  obtain ⟨R, hR, rfl, rfl, rfl, hS, hL, hF⟩ := tiled_cases ha
  obtain ⟨_, hL2, hF2⟩ := (tiled_ok hR).1 hb
  rw [(htsOf_yes hR hS hL hF).len, (htsOf_yes hR hS hL2 hF2).len]

theorem belowI_any (W T : Int) (A : Option Addr) (n c B : Nat) (bs : List Bool) (L1 : List Int) (D1 : Option Addr) (m1 d1 : Nat) (L2 : List Int) (D2 : Option Addr) (m2 d2 : Nat) (w : World) (hbl : bs.length = n) (hL1 : L1.length = m1) (hL2 : L2.length = m2)
    (hr : Reads w B 1 A n (bs.map Value.bool)) (h1 : Reads w B 1 D1 m1 (L1.map (Value.int .i64))) (h2 : Reads w B 1 D2 m2 (L2.map (Value.int .i64))) (hB : B ≤ w.heap.size) (hn : n ≤ 9223372036854775807) (hm1 : m1 ≤ 9223372036854775807) (hm2 : m2 ≤ 9223372036854775807) :
    Calls Try.prog 50 #[.agg #[.int .i64 W, .int .i64 T, .slice A n c], .slice D1 m1 d1, .slice D2 m2 d2] w fun e w' => e = .returned (.bool (belowB W T bs L1 L2)) ∧ Below w.heap.size w w' := by
  have hT1 := fun w' (h : Below w.heap.size w w') => hide (tiled_any W T A n c B bs L1 D1 m1 d1 w' hbl hL1 (hr.below (h.mono hB)) (h1.below (h.mono hB)) (Nat.le_trans hB h.size) hn hm1)
  have hT2 := fun w' (h : Below w.heap.size w w') => hide (tiled_any W T A n c B bs L2 D2 m2 d2 w' hbl hL2 (hr.below (h.mono hB)) (h2.below (h.mono hB)) (Nat.le_trans hB h.size) hn hm2)
  have hb0 : Below w.heap.size w (w.alloc (boxR W T A n c)) := (Below.refl _ _).alloc (Nat.le_refl _) _
  cases ht1 : tiledB W T bs L1 with
  | false =>
    simp only [ht1] at hT1
    have hres : belowB W T bs L1 L2 = false := by unfold belowB; rw [ht1]; rfl
    rw [hres]
    clear hres ht1 hT2
    go_enter Try.func50, Try.ntmps50
    go_wp2_with fail
    refine (unhide (hT1 _ hb0)).mono ?_
    rintro e w1 ⟨rfl, hb1⟩
    go_wp2_with fail
    go_ret
    exact ⟨rfl, (box_keep hb1).1⟩
  | true =>
    simp only [ht1] at hT1
    cases ht2 : tiledB W T bs L2 with
    | false =>
      simp only [ht2] at hT2
      have hres : belowB W T bs L1 L2 = false := by unfold belowB; rw [ht1, ht2]; rfl
      rw [hres]
      clear hres ht1 ht2
      go_enter Try.func50, Try.ntmps50
      go_wp2_with fail
      refine (unhide (hT1 _ hb0)).mono ?_
      rintro e w1 ⟨rfl, hb1⟩
      obtain ⟨hB1, hk1, b0, b1, b2⟩ := box_keep hb1
      go_wp2_with fail
      refine (unhide (hT2 _ hB1)).mono ?_
      rintro e w2 ⟨rfl, hb2⟩
      go_wp2_with fail
      go_ret
      exact ⟨rfl, hB1.trans (hb2.mono hB1.size)⟩
    | true =>
      simp only [ht2] at hT2
      have hlen := hts_len_eq ht1 ht2
      have hl49 := htsOf_len (W := W) (T := T) (bs := bs) (L := L1)
      have hres : belowB W T bs L1 L2 = (htsOf W T bs L1 == List.zipWith min (htsOf W T bs L1) (htsOf W T bs L2)) := by
        unfold belowB; rw [ht1, ht2, Bool.true_and, Bool.true_and, leB_zip hlen]
      rw [hres]
      obtain ⟨R, hR, rfl, rfl, rfl, hS, hLy1, hF1⟩ := tiled_cases ht1
      obtain ⟨_, hLy2, hF2⟩ := (tiled_ok hR).1 ht2
      have hH1 := htsOf_yes hR hS hLy1 hF1
      have hH2 := htsOf_yes hR hS hLy2 hF2
      subst hbl hL1 hL2
      have hHT1 := fun w' (h : Below w.heap.size w w') => hide (heights_any R hR hS A c B L1 D1 d1 hLy1 hF1 _ hH1 w' (hr.below (h.mono hB)) (h1.below (h.mono hB)) (Nat.le_trans hB h.size))
      have hHT2 := fun w' (h : Below w.heap.size w w') => hide (heights_any R hR hS A c B L2 D2 d2 hLy2 hF2 _ hH2 w' (hr.below (h.mono hB)) (h2.below (h.mono hB)) (Nat.le_trans hB h.size))
      generalize htsOf R.W R.T R.C L1 = X at *
      generalize htsOf R.W R.T R.C L2 = Y at *
      have HLEN := Lib.hid hlen
      have hzl : (List.zipWith min X Y).length ≤ 1048576 := by rw [zip_len hlen]; omega
      obtain ⟨Z, hZ⟩ : ∃ Z, Z = List.zipWith min X Y := ⟨_, rfl⟩
      rw [← hZ] at hzl ⊢
      have HZ := Lib.hid hZ
      clear hres ht1 ht2 hlen hH1 hH2 hZ
      go_enter Try.func50, Try.ntmps50
      go_wp2_with fail
      refine (unhide (hT1 _ hb0)).mono ?_
      rintro e w1 ⟨rfl, hb1⟩
      obtain ⟨hB1, hk1, b0, b1, b2⟩ := box_keep hb1
      go_wp2_with fail
      refine (unhide (hT2 _ hB1)).mono ?_
      rintro e w2 ⟨rfl, hb2⟩
      have hB2 := hB1.trans (hb2.mono hB1.size)
      clear b0 b1 b2
      obtain ⟨hk2, b0, b1, b2⟩ := blk_keep hk1 hb2
      go_wp2_with fail
      refine (unhide (hHT1 _ hB2)).mono ?_
      rintro e w3 ⟨g3, rfl, ho3, hb3⟩
      have hB3 := hB2.trans (hb3.mono hB2.size)
      clear b0 b1 b2
      obtain ⟨hk3, b0, b1, b2⟩ := blk_keep hk2 hb3
      go_wp2_with fail
      refine (unhide (hHT2 _ hB3)).mono ?_
      rintro e w4 ⟨g4, rfl, ho4, hb4⟩
      have hB4 := hB3.trans (hb4.mono hB3.size)
      have ho3 := own_below ho3 hb4 (Nat.le_refl _)
      clear b0 b1 b2
      go_wp2_with fail
      have hp := pick_lesser (some ⟨g3, 0, none⟩) (some ⟨g4, 0, none⟩) X.length Y.length w4.heap.size X Y X.length rfl HLEN.out.symm (by omega) w4 (Reads.of_own ho3) (by have := Reads.of_own ho4; rw [← HLEN.out] at this; exact this) (Nat.le_refl _)
      rw [show (Value.slice (some ⟨g4, 0, none⟩) X.length Y.length) = Value.slice (some ⟨g4, 0, none⟩) Y.length Y.length by rw [HLEN.out]] at hp
      rw [← HZ.out] at hp
      refine hp.mono ?_
      clear hp
      rintro e w5 ⟨g5, rfl, ho5, hb5⟩
      have hB5 := hB4.trans (hb5.mono hB4.size)
      have ho3 := own_below ho3 hb5 (Nat.le_refl _)
      have hxl : X.length ≤ 1048576 := by omega
      have hq := hide (equal_any g3 g5 X.length Z.length w5.heap.size w5.heap.size X Z w5 (Reads.of_own ho3) (Reads.of_own ho5) hxl hzl)
      clear hzl hxl ho5
      go_wp2_with fail
      refine (unhide hq).mono ?_
      rintro e w6 ⟨rfl, hb6⟩
      go_wp2_with fail
      go_ret
      exact ⟨rfl, hB5.trans (hb6.mono hB5.size)⟩

/-! ### Apart -/
noncomputable def apartV (W T : Int) (bs : List Bool) (a b : List Int) : Int := if tiledB W T bs a && tiledB W T bs b then (List.zipWith dif (htsOf W T bs a) (htsOf W T bs b)).sum / 4 else -1

theorem htsOf_bd {W T : Int} {bs : List Bool} {L : List Int} : ∀ z ∈ htsOf W T bs L, -51 ≤ z ∧ z ≤ 99 := by
  intro z hz
  cases h : tiledB W T bs L with
  | false => rw [htsOf_no h] at hz; simp at hz
  | true =>
    obtain ⟨R, hR, rfl, rfl, rfl, hS, hL, hF⟩ := tiled_cases h
    have hH := htsOf_yes hR hS hL hF
    obtain ⟨c, hc, rfl⟩ := List.mem_iff_getElem.1 hz
    have hc' : c < R.cn := by rw [← hH.len]; exact hc
    obtain ⟨hx, hy⟩ := ci_in hc'
    have e : (htsOf R.W R.T R.C L)[c] = R.ht (htsOf R.W R.T R.C L) (c % (R.W + 1)) (c / (R.W + 1)) := by
      unfold Reg.ht
      rw [ci_of, List.getD_eq_getElem?_getD, List.getElem?_eq_getElem hc]; rfl
    rw [e]
    cases hu : R.cu ((c % (R.W + 1) : Nat) : Int) ((c / (R.W + 1) : Nat) : Int) with
    | false => rw [hH.no _ _ hx hy hu]; omega
    | true => have := hts_bd hR hS.1 hL hF hH hu; omega

theorem sum_take_succ {L : List Int} {k : Nat} {z : Int} (h : L[k]? = some z) : (L.take (k + 1)).sum = (L.take k).sum + z := by
  rw [List.take_add_one, h]
  simp
theorem sum_take_bd {L : List Int} {b : Int} (hb : 0 ≤ b) (hL : ∀ z ∈ L, 0 ≤ z ∧ z ≤ b) : ∀ k, 0 ≤ (L.take k).sum ∧ (L.take k).sum ≤ b * (k : Int) := by
  intro k
  induction k with
  | zero => simp
  | succ k ih =>
    have e : b * ((k + 1 : Nat) : Int) = b * (k : Int) + b := by rw [Int.natCast_add, Int.mul_add]; simp
    cases h : L[k]? with
    | none =>
      have hle : L.length ≤ k := by
        rcases Nat.lt_or_ge k L.length with h1 | h1
        · rw [List.getElem?_eq_getElem h1] at h; cases h
        · exact h1
      rw [List.take_of_length_le (show L.length ≤ k + 1 by omega)]
      rw [List.take_of_length_le hle] at ih
      omega
    | some z =>
      rw [sum_take_succ h]
      have hz := hL z (List.mem_of_getElem? h)
      omega
theorem dif_bd {x y : Int} (hx : -51 ≤ x ∧ x ≤ 99) (hy : -51 ≤ y ∧ y ≤ 99) : 0 ≤ dif x y ∧ dif x y ≤ 150 := by unfold dif; omega
theorem zip_dif_bd {X Y : List Int} (hX : ∀ z ∈ X, -51 ≤ z ∧ z ≤ 99) (hY : ∀ z ∈ Y, -51 ≤ z ∧ z ≤ 99) : ∀ z ∈ List.zipWith dif X Y, 0 ≤ z ∧ z ≤ 150 := by
  intro z hz
  obtain ⟨k, hk, rfl⟩ := List.mem_iff_getElem.1 hz
  rw [List.length_zipWith] at hk
  rw [List.getElem_zipWith]
  exact dif_bd (hX _ (List.getElem_mem _)) (hY _ (List.getElem_mem _))

set_option maxRecDepth 100000 in
set_option maxHeartbeats 1000000 in
theorem apartI_any (W T : Int) (A : Option Addr) (n c B : Nat) (bs : List Bool) (L1 : List Int) (D1 : Option Addr) (m1 d1 : Nat) (L2 : List Int) (D2 : Option Addr) (m2 d2 : Nat) (w : World) (hbl : bs.length = n) (hL1 : L1.length = m1) (hL2 : L2.length = m2)
    (hr : Reads w B 1 A n (bs.map Value.bool)) (h1 : Reads w B 1 D1 m1 (L1.map (Value.int .i64))) (h2 : Reads w B 1 D2 m2 (L2.map (Value.int .i64))) (hB : B ≤ w.heap.size) (hn : n ≤ 9223372036854775807) (hm1 : m1 ≤ 9223372036854775807) (hm2 : m2 ≤ 9223372036854775807) :
    Calls Try.prog 33 #[.agg #[.int .i64 W, .int .i64 T, .slice A n c], .slice D1 m1 d1, .slice D2 m2 d2] w fun e w' => e = .returned (.int .i64 (apartV W T bs L1 L2)) ∧ Below w.heap.size w w' := by
  have hT1 := fun w' (h : Below w.heap.size w w') => hide (tiled_any W T A n c B bs L1 D1 m1 d1 w' hbl hL1 (hr.below (h.mono hB)) (h1.below (h.mono hB)) (Nat.le_trans hB h.size) hn hm1)
  have hT2 := fun w' (h : Below w.heap.size w w') => hide (tiled_any W T A n c B bs L2 D2 m2 d2 w' hbl hL2 (hr.below (h.mono hB)) (h2.below (h.mono hB)) (Nat.le_trans hB h.size) hn hm2)
  have hb0 : Below w.heap.size w (w.alloc (boxR W T A n c)) := (Below.refl _ _).alloc (Nat.le_refl _) _
  cases ht1 : tiledB W T bs L1 with
  | false =>
    simp only [ht1] at hT1
    have hres : apartV W T bs L1 L2 = -1 := by unfold apartV; rw [ht1]; rfl
    rw [hres]
    clear hres ht1 hT2
    go_enter Try.func33, Try.ntmps33
    go_wp2_with fail
    refine (unhide (hT1 _ hb0)).mono ?_
    rintro e w1 ⟨rfl, hb1⟩
    go_wp2_with fail
    go_ret
    exact ⟨rfl, (box_keep hb1).1⟩
  | true =>
    simp only [ht1] at hT1
    cases ht2 : tiledB W T bs L2 with
    | false =>
      simp only [ht2] at hT2
      have hres : apartV W T bs L1 L2 = -1 := by unfold apartV; rw [ht1, ht2]; rfl
      rw [hres]
      clear hres ht1 ht2
      go_enter Try.func33, Try.ntmps33
      go_wp2_with fail
      refine (unhide (hT1 _ hb0)).mono ?_
      rintro e w1 ⟨rfl, hb1⟩
      obtain ⟨hB1, hk1, b0, b1, b2⟩ := box_keep hb1
      go_wp2_with fail
      refine (unhide (hT2 _ hB1)).mono ?_
      rintro e w2 ⟨rfl, hb2⟩
      go_wp2_with fail
      go_ret
      exact ⟨rfl, hB1.trans (hb2.mono hB1.size)⟩
    | true =>
      simp only [ht2] at hT2
      have hlen := hts_len_eq ht1 ht2
      have hl49 := htsOf_len (W := W) (T := T) (bs := bs) (L := L1)
      have hX1 := htsOf_bd (W := W) (T := T) (bs := bs) (L := L1)
      have hX2 := htsOf_bd (W := W) (T := T) (bs := bs) (L := L2)
      have hres : apartV W T bs L1 L2 = (List.zipWith dif (htsOf W T bs L1) (htsOf W T bs L2)).sum / 4 := by
        unfold apartV; rw [ht1, ht2]; rfl
      rw [hres]
      obtain ⟨R, hR, rfl, rfl, rfl, hS, hLy1, hF1⟩ := tiled_cases ht1
      obtain ⟨_, hLy2, hF2⟩ := (tiled_ok hR).1 ht2
      have hH1 := htsOf_yes hR hS hLy1 hF1
      have hH2 := htsOf_yes hR hS hLy2 hF2
      subst hbl hL1 hL2
      have hHT1 := fun w' (h : Below w.heap.size w w') => hide (heights_any R hR hS A c B L1 D1 d1 hLy1 hF1 _ hH1 w' (hr.below (h.mono hB)) (h1.below (h.mono hB)) (Nat.le_trans hB h.size))
      have hHT2 := fun w' (h : Below w.heap.size w w') => hide (heights_any R hR hS A c B L2 D2 d2 hLy2 hF2 _ hH2 w' (hr.below (h.mono hB)) (h2.below (h.mono hB)) (Nat.le_trans hB h.size))
      generalize htsOf R.W R.T R.C L1 = X at *
      generalize htsOf R.W R.T R.C L2 = Y at *
      have hzl : (List.zipWith dif X Y).length = X.length := zip_len hlen
      have hzb := zip_dif_bd hX1 hX2
      have hpk := fun (g3 g4 c3 c4 : Nat) w' (h3 : Reads w' w'.heap.size 1 (some ⟨g3, 0, none⟩) X.length (X.map (Value.int .i64))) (h4 : Reads w' w'.heap.size 1 (some ⟨g4, 0, none⟩) X.length (Y.map (Value.int .i64))) =>
        hide (pick_dif (some ⟨g3, 0, none⟩) (some ⟨g4, 0, none⟩) c3 c4 w'.heap.size X Y X.length rfl hlen.symm (by omega) (fun z hz => by have := hX1 z hz; omega) (fun z hz => by have := hX2 z hz; omega) w' h3 h4 (Nat.le_refl _))
      obtain ⟨Z, hZ⟩ : ∃ Z, Z = List.zipWith dif X Y := ⟨_, rfl⟩
      simp only [← hZ] at hpk hzl hzb ⊢
      obtain ⟨n0, hn0⟩ : ∃ n0, n0 = X.length := ⟨_, rfl⟩
      have hsb := sum_take_bd (by omega) hzb
      have HSB := Lib.hid hsb
      have HZL := Lib.hid (show Z.length = n0 by rw [hzl, hn0])
      have HXL := Lib.hid (show X.length = n0 from hn0.symm)
      have HYL := Lib.hid (show Y.length = n0 by rw [hn0, hlen])
      have hn49 : n0 ≤ 49 := by omega
      have hHT1' : ∀ w', Below w.heap.size w w' → Hid (Calls Try.prog 103 #[.agg #[.int .i64 R.W, .int .i64 R.T, .slice A R.C.length c], .slice D1 L1.length d1] w' fun e w'' => ∃ g, e = .returned (.slice (some ⟨g, 0, none⟩) n0 n0) ∧ Reads w'' w''.heap.size 1 (some ⟨g, 0, none⟩) n0 (X.map (Value.int .i64)) ∧ Below w'.heap.size w' w'') := fun w' h => hide ((unhide (hHT1 w' h)).mono fun e w'' hh => by
        obtain ⟨g, rfl, ho, hb⟩ := hh
        rw [HXL.out] at ho ⊢
        exact ⟨g, rfl, Reads.of_own ho, hb⟩)
      have hHT2' : ∀ w', Below w.heap.size w w' → Hid (Calls Try.prog 103 #[.agg #[.int .i64 R.W, .int .i64 R.T, .slice A R.C.length c], .slice D2 L2.length d2] w' fun e w'' => ∃ g, e = .returned (.slice (some ⟨g, 0, none⟩) n0 n0) ∧ Reads w'' w''.heap.size 1 (some ⟨g, 0, none⟩) n0 (Y.map (Value.int .i64)) ∧ Below w'.heap.size w' w'') := fun w' h => hide ((unhide (hHT2 w' h)).mono fun e w'' hh => by
        obtain ⟨g, rfl, ho, hb⟩ := hh
        rw [HYL.out] at ho ⊢
        exact ⟨g, rfl, Reads.of_own ho, hb⟩)
      have hpk' : ∀ (g3 g4 : Nat) w', Reads w' w'.heap.size 1 (some ⟨g3, 0, none⟩) n0 (X.map (Value.int .i64)) → Reads w' w'.heap.size 1 (some ⟨g4, 0, none⟩) n0 (Y.map (Value.int .i64)) →
          Hid (Calls Try.prog 102 #[.slice (some ⟨g3, 0, none⟩) n0 n0, .slice (some ⟨g4, 0, none⟩) n0 n0, .func (.func 104) #[] #[]] w' fun e w'' => ∃ g, e = .returned (.slice (some ⟨g, 0, none⟩) n0 n0) ∧ Reads w'' w''.heap.size 1 (some ⟨g, 0, none⟩) n0 (Z.map (Value.int .i64)) ∧ Below w'.heap.size w' w'') := by
        intro g3 g4 w' a b
        rw [hn0] at a b ⊢
        refine hide ((unhide (hpk g3 g4 X.length X.length w' a b)).mono fun e w'' hh => ?_)
        obtain ⟨g, rfl, ho, hb⟩ := hh
        rw [hzl] at ho ⊢
        exact ⟨g, rfl, Reads.of_own ho, hb⟩
      clear hres ht1 ht2 hlen hH1 hH2 hX1 hX2 hZ hHT1 hHT2 hzl hsb hzb hl49 hpk hn0
      go_enter Try.func33, Try.ntmps33
      go_wp2_with fail
      refine (unhide (hT1 _ hb0)).mono ?_
      rintro e w1 ⟨rfl, hb1⟩
      obtain ⟨hB1, hk1, b0, b1, b2⟩ := box_keep hb1
      go_wp2_with fail
      refine (unhide (hT2 _ hB1)).mono ?_
      rintro e w2 ⟨rfl, hb2⟩
      have hB2 := hB1.trans (hb2.mono hB1.size)
      clear b0 b1 b2
      obtain ⟨hk2, b0, b1, b2⟩ := blk_keep hk1 hb2
      clear hk1 hb1 hb2 hB1 hT1 hT2
      go_upto_region 4 with fail
      go_region_held3 (fun w' => w'.cell? ⟨w.heap.size, 0, none⟩ = some (.int .i64 R.W) ∧ w'.cell? ⟨w.heap.size, 1, none⟩ = some (.int .i64 R.T) ∧ w'.cell? ⟨w.heap.size, 2, none⟩ = some (.slice A R.C.length c))
        (first
          | exact ⟨b0, b1, b2⟩
          | exact ⟨cell_kept (w := w2.drew) b0 hb3, cell_kept (w := w2.drew) b1 hb3, cell_kept (w := w2.drew) b2 hb3⟩
          | exact ⟨cell_kept (cell_kept (w := w2.drew) b0 hb3) hb4, cell_kept (cell_kept (w := w2.drew) b1 hb3) hb4, cell_kept (cell_kept (w := w2.drew) b2 hb3) hb4⟩
          | exact ⟨cell_kept (cell_kept (cell_kept (w := w2.drew) b0 hb3) hb4) hb5, cell_kept (cell_kept (cell_kept (w := w2.drew) b1 hb3) hb4) hb5, cell_kept (cell_kept (cell_kept (w := w2.drew) b2 hb3) hb4) hb5⟩)
        (first
          | (go_at_call 103; (with_reducible refine (unhide (hHT1' _ hB2.drew)).mono ?_); rintro e w3 ⟨g3, rfl, hr3, hb3⟩)
          | (go_at_call 103; (with_reducible refine (unhide (hHT2' _ (hB2.drew.trans (hb3.mono hB2.drew.size)))).mono ?_); rintro e w4 ⟨g4, rfl, hr4, hb4⟩)
          | (go_at_call 102; (with_reducible refine (unhide (hpk' _ _ _ ((hr3.below hb4).more hb4.size) hr4)).mono ?_); rintro e w5 ⟨g5, rfl, hr5, hb5⟩))
      have hB3 := hB2.drew.trans (hb3.mono hB2.drew.size)
      have hB4 := hB3.trans (hb4.mono hB3.size)
      have hB5 := hB4.trans (hb5.mono hB4.size)
      go_wp2_with fail
      go_loopg [7, 28] n0 (fun r s7 s28 wr => ∃ k : Nat, k + r = n0 ∧ s28 = .int .i64 (k : Nat) ∧ s7 = .int .i64 (Z.take k).sum ∧ wr = w5)
      case atStart => exact ⟨0, by omega, rfl, by simp, rfl⟩
      case round =>
        obtain ⟨k, hk, rfl, rfl, rfl⟩ := hrel
        have HK := Lib.hid hk
        clear hk
        by_cases hlt : k < n0
        · obtain ⟨a1, e1, _, hc1⟩ := hr5.getI hlt
          injection e1 with e1
          subst e1
          rw [addr_add] at hc1
          obtain ⟨q1, q2⟩ := HSB.out k
          have hz : Z[k]? = some (Z.getD k 0) := by rw [List.getD_eq_getElem?_getD, List.getElem?_eq_getElem (show k < Z.length by rw [HZL.out]; exact hlt)]; rfl
          obtain ⟨q3, q4⟩ := HSB.out (k + 1)
          have hsn := sum_take_succ hz
          rw [hsn] at q3 q4
          have HSN := Lib.hid hsn
          have hk49 : (150 : Int) * (k : Int) ≤ 7350 := by omega
          have hk50 : (150 : Int) * ((k + 1 : Nat) : Int) ≤ 7500 := by omega
          have q5 : (Z.take k).sum + Z.getD k 0 ≤ 7500 := by omega
          have q6 : (Z.take k).sum ≤ 7350 := by omega
          have q7 : -8000 ≤ Z.getD k 0 := by omega
          have q8 : Z.getD k 0 ≤ 8000 := by omega
          clear hsn hz q2 q4 hk49 hk50
          generalize Z.getD k 0 = z at *
          generalize (Z.take k).sum = sk at *
          go_wp2_with fail
          go_roundg (n0 - (k + 1))
          case measure => have := HK.out; omega
          case rel => exact ⟨k + 1, by have := HK.out; omega, by go_num, by rw [HSN.out], rfl⟩
        · obtain rfl : k = n0 := by have := HK.out; omega
          have hall : Z.take k = Z := List.take_of_length_le (by rw [HZL.out]; omega)
          have q := HSB.out k
          rw [hall] at q ⊢
          obtain ⟨q1, q2⟩ := q
          clear hall
          obtain ⟨zs, hzs⟩ : ∃ zs, zs = Z.sum := ⟨_, rfl⟩
          rw [← hzs] at q1 q2 ⊢
          have HZS := Lib.hid hzs
          clear hzs
          go_wp2_with fail
          go_ret
          exact ⟨ret_int (by rw [HZS.out]), hB5⟩

set_option maxHeartbeats 1000000 in
theorem apartS_any (W T : Int) (A : Option Addr) (n c B : Nat) (bs : List Bool) (L1 : List Int) (D1 : Option Addr) (m1 d1 : Nat) (L2 : List Int) (D2 : Option Addr) (m2 d2 : Nat) (w : World) (hbl : bs.length = n) (hL1 : L1.length = m1) (hL2 : L2.length = m2)
    (hr : Reads w B 1 A n (bs.map Value.bool)) (h1 : Reads w B 1 D1 m1 (L1.map (Value.int .i64))) (h2 : Reads w B 1 D2 m2 (L2.map (Value.int .i64))) (hB : B ≤ w.heap.size) (hn : n ≤ 9223372036854775807) (hm1 : m1 ≤ 9223372036854775807) (hm2 : m2 ≤ 9223372036854775807) :
    Calls Try.prog 65 #[.agg #[.int .i64 W, .int .i64 T, .slice A n c], .slice D1 m1 d1, .slice D2 m2 d2] w fun e w' => e = .returned (.int .i64 (apartV W T bs L1 L2)) ∧ Below w.heap.size w w' := by
  have hE1 := fun w' (h : Below w.heap.size w w') => hide (heightsOfS_any W T A n c B bs L1 D1 m1 d1 w' hbl hL1 (hr.below (h.mono hB)) (h1.below (h.mono hB)) (Nat.le_trans hB h.size) hn hm1)
  have hE2 := fun w' (h : Below w.heap.size w w') => hide (heightsOfS_any W T A n c B bs L2 D2 m2 d2 w' hbl hL2 (hr.below (h.mono hB)) (h2.below (h.mono hB)) (Nat.le_trans hB h.size) hn hm2)
  have hb0 : Below w.heap.size w (w.alloc (boxR W T A n c)) := (Below.refl _ _).alloc (Nat.le_refl _) _
  cases ht1 : tiledB W T bs L1 with
  | false =>
    have hres : apartV W T bs L1 L2 = -1 := by unfold apartV; rw [ht1]; rfl
    have hX := htsOf_no ht1
    have hl49 := htsOf_len (W := W) (T := T) (bs := bs) (L := L2)
    rw [hres]
    simp only [hX] at hE1
    generalize htsOf W T bs L2 = Y at *
    clear hres ht1 hX
    go_enter Try.func65, Try.ntmps65
    go_wp2_with fail
    refine (unhide (hE1 _ hb0)).mono ?_
    rintro e w1 ⟨A1, e1, rfl, hc1, ho1, hb1⟩
    obtain ⟨hB1, hk1, b0, b1, b2⟩ := box_keep hb1
    go_wp2_with fail
    refine (unhide (hE2 _ hB1)).mono ?_
    rintro e w2 ⟨A2, e2, rfl, hc2, ho2, hb2⟩
    have hB2 := hB1.trans (hb2.mono hB1.size)
    have ho1 := own_below ho1 hb2 (Nat.le_refl _)
    clear b0 b1 b2 hE1 hE2
    go_wp2_with fail
    go_ret
    exact ⟨rfl, hB2⟩
  | true =>
    cases ht2 : tiledB W T bs L2 with
    | false =>
      have hres : apartV W T bs L1 L2 = -1 := by unfold apartV; rw [ht1, ht2]; rfl
      have hY := htsOf_no ht2
      have hl49 := htsOf_len (W := W) (T := T) (bs := bs) (L := L1)
      have hpos := htsOf_pos.2 ht1
      rw [hres]
      simp only [hY] at hE2
      generalize htsOf W T bs L1 = X at *
      have hxz : ((X.length : Int) == 0) = false := by rw [beq_eq_false_iff_ne]; omega
      clear hres ht1 ht2 hY
      go_enter Try.func65, Try.ntmps65
      go_wp2_with fail
      refine (unhide (hE1 _ hb0)).mono ?_
      rintro e w1 ⟨A1, e1, rfl, hc1, ho1, hb1⟩
      obtain ⟨hB1, hk1, b0, b1, b2⟩ := box_keep hb1
      go_wp2_with fail
      refine (unhide (hE2 _ hB1)).mono ?_
      rintro e w2 ⟨A2, e2, rfl, hc2, ho2, hb2⟩
      have hB2 := hB1.trans (hb2.mono hB1.size)
      have ho1 := own_below ho1 hb2 (Nat.le_refl _)
      clear b0 b1 b2 hE1 hE2
      simp only [List.length_nil]
      go_wp2_with fail
      go_ret
      exact ⟨rfl, hB2⟩
    | true =>
      have hlen := hts_len_eq ht1 ht2
      have hres : apartV W T bs L1 L2 = (List.zipWith dif (htsOf W T bs L1) (htsOf W T bs L2)).sum / 4 := by unfold apartV; rw [ht1, ht2]; rfl
      have hX1 := htsOf_bd (W := W) (T := T) (bs := bs) (L := L1)
      have hX2 := htsOf_bd (W := W) (T := T) (bs := bs) (L := L2)
      have hl49 := htsOf_len (W := W) (T := T) (bs := bs) (L := L1)
      have hpos := htsOf_pos.2 ht1
      rw [hres]
      generalize htsOf W T bs L1 = X at *
      generalize htsOf W T bs L2 = Y at *
      obtain ⟨n0, hn0⟩ : ∃ n0, n0 = X.length := ⟨_, rfl⟩
      have hX := hn0.symm
      have hY : Y.length = n0 := by rw [hn0, hlen]
      have HX := Lib.hid hX
      have HY := Lib.hid hY
      have hzb := zip_dif_bd hX1 hX2
      have hzat := fun k (hk : k < n0) => zip_at (f := dif) (L := X) (M := Y) (k := k) (by omega) (by omega)
      have hzl : (List.zipWith dif X Y).length = n0 := by rw [zip_len hlen, hX]
      obtain ⟨Z, hZ⟩ : ∃ Z, Z = List.zipWith dif X Y := ⟨_, rfl⟩
      rw [← hZ] at hzb hzl ⊢
      simp only [← hZ] at hzat
      have HSB := Lib.hid (sum_take_bd (by omega) hzb)
      have HZL := Lib.hid hzl
      have HZA := Lib.hid hzat
      have HX1 : Hid (∀ k, k < n0 → -51 ≤ X.getD k 0 ∧ X.getD k 0 ≤ 99) := Lib.hid (fun k hk => by
        rw [List.getD_eq_getElem?_getD, List.getElem?_eq_getElem (show k < X.length by omega)]
        exact hX1 _ (List.getElem_mem _))
      have HX2 : Hid (∀ k, k < n0 → -51 ≤ Y.getD k 0 ∧ Y.getD k 0 ≤ 99) := Lib.hid (fun k hk => by
        rw [List.getD_eq_getElem?_getD, List.getElem?_eq_getElem (show k < Y.length by omega)]
        exact hX2 _ (List.getElem_mem _))
      clear hzb hzl hzat hZ hX1 hX2
      rw [hX] at hl49 hpos
      have hnz : ((n0 : Int) == 0) = false := by rw [beq_eq_false_iff_ne]; omega
      have hE1' : ∀ w', Below w.heap.size w w' → Hid (Calls Try.prog 60 #[.agg #[.int .i64 W, .int .i64 T, .slice A n c], .slice D1 m1 d1] w' fun e w'' => ∃ A' c', e = .returned (.slice A' n0 c') ∧ Reads w'' w''.heap.size 1 A' n0 (X.map (Value.int .i64)) ∧ Below w'.heap.size w' w'') := fun w' h => hide ((unhide (hE1 w' h)).mono fun e w'' hh => by
        obtain ⟨A', c', rfl, _, ho, hb⟩ := hh
        rw [HX.out] at ho ⊢
        exact ⟨A', c', rfl, Reads.of_own ho, hb⟩)
      have hE2' : ∀ w', Below w.heap.size w w' → Hid (Calls Try.prog 60 #[.agg #[.int .i64 W, .int .i64 T, .slice A n c], .slice D2 m2 d2] w' fun e w'' => ∃ A' c', e = .returned (.slice A' n0 c') ∧ Reads w'' w''.heap.size 1 A' n0 (Y.map (Value.int .i64)) ∧ Below w'.heap.size w' w'') := fun w' h => hide ((unhide (hE2 w' h)).mono fun e w'' hh => by
        obtain ⟨A', c', rfl, _, ho, hb⟩ := hh
        rw [HY.out] at ho ⊢
        exact ⟨A', c', rfl, Reads.of_own ho, hb⟩)
      clear hres ht1 ht2 hlen hX hY hn0 hE1 hE2
      go_enter Try.func65, Try.ntmps65
      go_wp2_with fail
      refine (unhide (hE1' _ hb0)).mono ?_
      rintro e w1 ⟨A1, e1, rfl, hr1, hb1⟩
      obtain ⟨hB1, hk1, b0, b1, b2⟩ := box_keep hb1
      go_wp2_with fail
      refine (unhide (hE2' _ hB1)).mono ?_
      rintro e w2 ⟨A2, e2, rfl, hr2, hb2⟩
      have hB2 := hB1.trans (hb2.mono hB1.size)
      have hr1 := hr1.below hb2
      clear b0 b1 b2 hE1' hE2'
      go_wp2_with fail
      go_loopg [9, 10] n0 (fun r s9 s10 wr => ∃ k q : Nat, k + r = n0 ∧ s10 = .int .i64 (k : Nat) ∧ s9 = .int .i64 (Z.take k).sum ∧ wr = w2.drewN q)
      case atStart => exact ⟨0, 0, by omega, rfl, by simp, rfl⟩
      case round =>
        obtain ⟨k, q, hk, rfl, rfl, rfl⟩ := hrel
        have HK := Lib.hid hk
        clear hk
        by_cases hlt : k < n0
        · obtain ⟨a1, rfl, _, hc1⟩ := hr1.getI hlt
          obtain ⟨a2, rfl, _, hc2⟩ := hr2.getI hlt
          obtain ⟨q1, q2⟩ := HSB.out k
          have hz := HZA.out k hlt
          obtain ⟨q3, q4⟩ := HSB.out (k + 1)
          have hsn := sum_take_succ hz
          rw [hsn] at q3 q4
          have HSN := Lib.hid hsn
          have hk49 : (150 : Int) * (k : Int) ≤ 7350 := by omega
          have q6 : (Z.take k).sum ≤ 7350 := by omega
          obtain ⟨x1, x2⟩ := HX1.out k hlt
          obtain ⟨y1, y2⟩ := HX2.out k hlt
          clear hsn hz q2 q3 q4 hk49
          generalize hx : X.getD k 0 = x at *
          generalize hy : Y.getD k 0 = y at *
          obtain ⟨sk, hsk⟩ : ∃ sk, sk = (Z.take k).sum := ⟨_, rfl⟩
          rw [← hsk] at q1 q6 ⊢
          have HSK := Lib.hid hsk
          have ww1 : IntKind.i64.wrap (x - y) = x - y := IntWalk.i64_in _ (by omega)
          have ww2 : IntKind.i64.wrap (y - x) = y - x := IntWalk.i64_in _ (by omega)
          clear hx hy hsk
          go_wp2_with fail
          go_big_quiet (fail)
          go_wp2_with fail
          go_roundg (n0 - (k + 1))
          case measure => have := HK.out; omega
          case rel => exact ⟨k + 1, _, by have := HK.out; omega, by go_num, by rw [HSN.out, ← HSK.out]; rfl, rfl⟩
        · obtain rfl : k = n0 := by have := HK.out; omega
          have hall : Z.take k = Z := List.take_of_length_le (by rw [HZL.out]; omega)
          have q := HSB.out k
          rw [hall] at q ⊢
          obtain ⟨q1, q2⟩ := q
          clear hall
          obtain ⟨zs, hzs⟩ : ∃ zs, zs = Z.sum := ⟨_, rfl⟩
          rw [← hzs] at q1 q2 ⊢
          have HZS := Lib.hid hzs
          clear hzs
          go_wp2_with fail
          go_ret
          exact ⟨ret_int (by rw [HZS.out]), below_drewN hB2 _⟩

end Go.Proofs.Ytpeifojfpkkcpaa
