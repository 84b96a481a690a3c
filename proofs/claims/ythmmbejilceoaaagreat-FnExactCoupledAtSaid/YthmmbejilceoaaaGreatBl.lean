/-
  YthmmbejilceoaaaGreatBl: Below and Apart, of the program and of the reference.
-/
import Derived.Test.YthmmbejilceoaaaGreatPk
import Derived.Test.YthmmbejilceoaaaGreatRep
import Derived.Test.YthmmbejilceoaaaGreatHS
namespace Go.Proofs.YthmmbejilceoaaaGreat
open Go.RowKit

theorem addr_add (g j : Nat) : (⟨g, 0, none⟩ : Addr).add j = ⟨g, j, none⟩ := by unfold Addr.add; split <;> simp_all

theorem equal_any (g g' c c' B B' : Nat) (L M : List Int) (w : World) (hr : Reads w B 1 (some ⟨g, 0, none⟩) L.length (L.map (Value.int .i64))) (hd : Reads w B' 1 (some ⟨g', 0, none⟩) M.length (M.map (Value.int .i64))) (hl : L.length ≤ 1048576) (hm : M.length ≤ 1048576) :
    Calls Tryz.prog 30 #[.slice (some ⟨g, 0, none⟩) L.length c, .slice (some ⟨g', 0, none⟩) M.length c'] w fun e w' => e = .returned (.bool (L == M)) ∧ Below w.heap.size w w' := by
  refine (slices_Equal_int g 0 L.length c g' 0 M.length c' L M w (Nat.le_refl _) (Nat.le_refl _) (by omega) (by omega) ?_ ?_).mono ?_
  · intro j hj
    obtain ⟨ad, e, _, hc⟩ := hr.getI hj
    injection e with e
    subst e
    rw [addr_add] at hc
    rw [Nat.zero_add]; exact hc
  · intro j hj
    obtain ⟨ad, e, _, hc⟩ := hd.getI hj
    injection e with e
    subst e
    rw [addr_add] at hc
    rw [Nat.zero_add]; exact hc
  · rintro e w' ⟨rfl, q, rfl⟩
    rw [List.take_length, List.take_length]
    exact ⟨rfl, below_drewN (Below.refl _ _) _⟩

/-! ### What they say -/
def leB (X Y : List Int) : Bool := (List.range X.length).all fun k => decide (X.getD k 0 ≤ Y.getD k 0)
theorem leB_zip {X Y : List Int} (h : X.length = Y.length) : (X == List.zipWith min X Y) = leB X Y := by
  rw [Bool.eq_iff_iff, beq_iff_eq]
  unfold leB
  rw [List.all_eq_true]
  constructor
  · intro he k hk
    have hk' := List.mem_range.1 hk
    have := zip_at (f := min) (L := X) (M := Y) hk' (by omega)
    rw [← he, List.getElem?_eq_getElem hk'] at this
    simp only [Option.some.injEq] at this
    rw [decide_eq_true_eq, List.getD_eq_getElem?_getD, List.getElem?_eq_getElem hk', Option.getD_some]
    rw [List.getD_eq_getElem?_getD, List.getElem?_eq_getElem hk', Option.getD_some] at this
    omega
  · intro ha
    apply List.ext_getElem?
    intro k
    by_cases hk : k < X.length
    · rw [zip_at hk (by omega)]
      have := ha k (List.mem_range.2 hk)
      rw [decide_eq_true_eq] at this
      rw [List.getElem?_eq_getElem hk]
      rw [List.getD_eq_getElem?_getD (l := X), List.getElem?_eq_getElem hk, Option.getD_some] at this ⊢
      congr 1
      omega
    · rw [List.getElem?_eq_none (by omega), List.getElem?_eq_none (by rw [zip_len h]; omega)]
theorem leB_no {X Y : List Int} {k : Nat} (hk : k < X.length) (h : Y.getD k 0 < X.getD k 0) : leB X Y = false := by
  unfold leB
  rw [Bool.eq_false_iff]
  intro ha
  rw [List.all_eq_true] at ha
  have := ha k (List.mem_range.2 hk)
  rw [decide_eq_true_eq] at this
  omega
theorem leB_yes {X Y : List Int} (h : ∀ k, k < X.length → X.getD k 0 ≤ Y.getD k 0) : leB X Y = true := by
  unfold leB
  rw [List.all_eq_true]
  intro k hk
  exact decide_eq_true (h k (List.mem_range.1 hk))

noncomputable def belowB (W T : Int) (bs : List Bool) (a b : List Int) : Bool := tiledB W T bs a && tiledB W T bs b && leB (htsOf W T bs a) (htsOf W T bs b)
theorem hts_len_eq {W T : Int} {bs : List Bool} {a b : List Int} (ha : tiledB W T bs a = true) (hb : tiledB W T bs b = true) : (htsOf W T bs a).length = (htsOf W T bs b).length := by
  obtain ⟨R, hR, rfl, rfl, rfl, hS, hL, hF⟩ := tiled_cases ha
  obtain ⟨_, hL2, hF2⟩ := (tiled_ok hR).1 hb
  rw [(htsOf_yes hR hS hL hF).len, (htsOf_yes hR hS hL2 hF2).len]

/-! ### Apart -/
noncomputable def apartV (W T : Int) (bs : List Bool) (a b : List Int) : Int := if tiledB W T bs a && tiledB W T bs b then (List.zipWith dif (htsOf W T bs a) (htsOf W T bs b)).sum / 4 else -1

theorem htsOf_bd {W T : Int} {bs : List Bool} {L : List Int} : ∀ z ∈ htsOf W T bs L, -51 ≤ z ∧ z ≤ 99 := by
  intro z hz
  cases h : tiledB W T bs L with
  | false => rw [htsOf_no h] at hz; simp at hz
  | true =>
    obtain ⟨R, hR, rfl, rfl, rfl, hS, hL, hF⟩ := tiled_cases h
    have hH := htsOf_yes hR hS hL hF
    obtain ⟨c, hc, rfl⟩ := List.mem_iff_getElem.1 hz
    have hc' : c < R.cn := by rw [← hH.len]; exact hc
    obtain ⟨hx, hy⟩ := ci_in hc'
    have e : (htsOf R.W R.T R.C L)[c] = R.ht (htsOf R.W R.T R.C L) (c % (R.W + 1)) (c / (R.W + 1)) := by
      unfold Reg.ht
      rw [ci_of, List.getD_eq_getElem?_getD, List.getElem?_eq_getElem hc]; rfl
    rw [e]
    cases hu : R.cu ((c % (R.W + 1) : Nat) : Int) ((c / (R.W + 1) : Nat) : Int) with
    | false => rw [hH.no _ _ hx hy hu]; omega
    | true => have := hts_bd hR hS.1 hL hF hH hu; omega

theorem sum_take_succ {L : List Int} {k : Nat} {z : Int} (h : L[k]? = some z) : (L.take (k + 1)).sum = (L.take k).sum + z := by
  rw [List.take_add_one, h]
  simp
theorem sum_take_bd {L : List Int} {b : Int} (hb : 0 ≤ b) (hL : ∀ z ∈ L, 0 ≤ z ∧ z ≤ b) : ∀ k, 0 ≤ (L.take k).sum ∧ (L.take k).sum ≤ b * (k : Int) := by
  intro k
  induction k with
  | zero => simp
  | succ k ih =>
    have e : b * ((k + 1 : Nat) : Int) = b * (k : Int) + b := by rw [Int.natCast_add, Int.mul_add]; simp
    cases h : L[k]? with
    | none =>
      have hle : L.length ≤ k := by
        rcases Nat.lt_or_ge k L.length with h1 | h1
        · rw [List.getElem?_eq_getElem h1] at h; cases h
        · exact h1
      rw [List.take_of_length_le (show L.length ≤ k + 1 by omega)]
      rw [List.take_of_length_le hle] at ih
      omega
    | some z =>
      rw [sum_take_succ h]
      have hz := hL z (List.mem_of_getElem? h)
      omega
theorem dif_bd {x y : Int} (hx : -51 ≤ x ∧ x ≤ 99) (hy : -51 ≤ y ∧ y ≤ 99) : 0 ≤ dif x y ∧ dif x y ≤ 150 := by unfold dif; omega
theorem zip_dif_bd {X Y : List Int} (hX : ∀ z ∈ X, -51 ≤ z ∧ z ≤ 99) (hY : ∀ z ∈ Y, -51 ≤ z ∧ z ≤ 99) : ∀ z ∈ List.zipWith dif X Y, 0 ≤ z ∧ z ≤ 150 := by
  intro z hz
  obtain ⟨k, hk, rfl⟩ := List.mem_iff_getElem.1 hz
  rw [List.length_zipWith] at hk
  rw [List.getElem_zipWith]
  exact dif_bd (hX _ (List.getElem_mem _)) (hY _ (List.getElem_mem _))

end Go.Proofs.YthmmbejilceoaaaGreat
