/-
  YtldnccdlpagodaaQ5: whoever goes down again and again comes to an end. Plain Lean.
-/
import Derived.Test.YtldnccdlpagodaaFj
namespace Go.Proofs.Ytldnccdlpagodaa

theorem sum_set : ∀ {H : List Int} {k : Nat} {v : Int}, k < H.length → (H.set k v).sum = H.sum - H.getD k 0 + v
  | [], k, v, h => by simp at h
  | z :: H, 0, v, _ => by simp; omega
  | z :: H, k + 1, v, h => by
    have := sum_set (H := H) (k := k) (v := v) (by simpa using h)
    simp only [List.set_cons_succ, List.sum_cons, List.getD_cons_succ]
    omega
theorem sum_bd : ∀ {H : List Int} {a b : Int}, (∀ z ∈ H, a ≤ z ∧ z ≤ b) → a * (H.length : Int) ≤ H.sum ∧ H.sum ≤ b * (H.length : Int)
  | [], a, b, _ => by simp
  | z :: H, a, b, h => by
    have h1 := h z (by simp)
    have h2 := sum_bd (H := H) (a := a) (b := b) fun y hy => h y (by simp [hy])
    simp only [List.sum_cons, List.length_cons, Int.natCast_add, Int.natCast_one, Int.mul_add, Int.mul_one]
    omega

def Tile (R : Reg) (L : List Int) : Prop := Lay R L ∧ Full R L
theorem tile_flV {R : Reg} (hR : R.ok) {L : List Int} (h : Tile R L) (k : Int) : Tile R (flV R L k) := ⟨lay_flV hR h.1 k, (full_flV hR h.1 k).2 h.2⟩

/-- The flips down. -/
def dnL (R : Reg) (L : List Int) : List Int := flL R L fun k => rsZ R L (k : Int) == -4
def dnStep (R : Reg) (L : List Int) : List Int := match dnL R L with
  | [] => L
  | k :: _ => flV R L k
def dnIt (R : Reg) (L : List Int) : Nat → List Int
  | 0 => L
  | n + 1 => dnStep R (dnIt R L n)
theorem dn_head {R : Reg} {L : List Int} {k : Int} {l : List Int} (h : dnL R L = k :: l) : ∃ j : Nat, k = (j : Int) ∧ j < R.cn ∧ flB R L (j : Int) = true ∧ rsV R L j = -4 ∧ dnStep R L = flV R L (j : Int) := by
  have hm : k ∈ dnL R L := by rw [h]; simp
  unfold dnL flL flTo at hm
  obtain ⟨j, hj, rfl⟩ := List.mem_map.1 hm
  rw [List.mem_filter, List.mem_range, Bool.and_eq_true] at hj
  obtain ⟨h1, h2, h3⟩ := hj
  refine ⟨j, rfl, h1, h2, ?_, by unfold dnStep; rw [h]⟩
  have : rsZ R L (j : Int) = -4 := by simpa using h3
  unfold rsZ at this
  rwa [if_pos (by omega), Int.toNat_natCast] at this
theorem tile_dnStep {R : Reg} (hR : R.ok) {L : List Int} (h : Tile R L) : Tile R (dnStep R L) := by
  unfold dnStep
  split
  · exact h
  · exact tile_flV hR h _
theorem tile_dnIt {R : Reg} (hR : R.ok) {L : List Int} (h : Tile R L) : ∀ n, Tile R (dnIt R L n)
  | 0 => h
  | n + 1 => tile_dnStep hR (tile_dnIt hR h n)

noncomputable def hsum (R : Reg) (L : List Int) : Int := (htsOf R.W R.T R.C L).sum
theorem hsum_bd {R : Reg} (hR : R.ok) (hS : SimpleP R) {L : List Int} (h : Tile R L) : -2499 ≤ hsum R L ∧ hsum R L ≤ 4851 := by
  have hH := htsOf_yes hR hS h.1 h.2
  have hb := sum_bd (H := htsOf R.W R.T R.C L) (a := -51) (b := 99) (fun z hz => htsOf_bd z hz)
  have hl := hH.len
  have hcn := cn_bd hR
  unfold hsum
  rw [hl] at hb
  omega
theorem hsum_flV {R : Reg} (hR : R.ok) (hS : SimpleP R) {L : List Int} (h : Tile R L) {k : Nat} (hk : flB R L (k : Int) = true) : hsum R (flV R L (k : Int)) = hsum R L + rsV R L k := by
  have hH := htsOf_yes hR hS h.1 h.2
  have ht := tile_flV hR h (k : Int)
  have e := hts_one hR hS.1 (htsOf_yes hR hS ht.1 ht.2) (hts_flV hR h.1 hH hk)
  obtain ⟨m, hm, hmc, _⟩ := flB_nat hk
  obtain rfl : m = k := by omega
  unfold hsum
  rw [e, sum_set (by rw [hH.len]; exact hmc)]
  omega
theorem dn_down {R : Reg} (hR : R.ok) (hS : SimpleP R) {L : List Int} (h : Tile R L) : ∀ n, (∀ j, j < n → dnL R (dnIt R L j) ≠ []) → hsum R (dnIt R L n) = hsum R L - 4 * (n : Int)
  | 0, _ => by simp [dnIt]
  | n + 1, hn => by
    have ih := dn_down hR hS h n fun j hj => hn j (by omega)
    have hne := hn n (by omega)
    cases hd : dnL R (dnIt R L n) with
    | nil => exact absurd hd hne
    | cons k l =>
      obtain ⟨j, _, _, h1, h2, h3⟩ := dn_head hd
      have := hsum_flV hR hS (tile_dnIt hR h n) h1
      show hsum R (dnStep R (dnIt R L n)) = _
      rw [h3, this, ih, h2]
      omega
/-- After how many flips there is no way down. -/
theorem dn_end {R : Reg} (hR : R.ok) (hS : SimpleP R) {L : List Int} (h : Tile R L) : ∃ N, N ≤ 1838 ∧ dnL R (dnIt R L N) = [] ∧ ∀ j, j < N → dnL R (dnIt R L j) ≠ [] := by
  have hex : ∃ n, dnL R (dnIt R L n) = [] := Classical.byContradiction fun hno => by
    have h1 := dn_down hR hS h 1839 fun j _ hj => hno ⟨j, hj⟩
    have h2 := hsum_bd hR hS h
    have h3 := hsum_bd hR hS (tile_dnIt hR h 1839)
    omega
  obtain ⟨N, hN, hl⟩ := least hex
  refine ⟨N, ?_, hN, fun j hj hd => by have := hl j hd; omega⟩
  have h1 := dn_down hR hS h N fun j hj hd => by have := hl j hd; omega
  have h2 := hsum_bd hR hS h
  have h3 := hsum_bd hR hS (tile_dnIt hR h N)
  omega
open Classical in
noncomputable def dnN (R : Reg) (L : List Int) : Nat := if h : ∃ N, N ≤ 1838 ∧ dnL R (dnIt R L N) = [] ∧ ∀ j, j < N → dnL R (dnIt R L j) ≠ [] then Classical.choose h else 0
theorem dnN_spec {R : Reg} (hR : R.ok) (hS : SimpleP R) {L : List Int} (h : Tile R L) : dnN R L ≤ 1838 ∧ dnL R (dnIt R L (dnN R L)) = [] ∧ ∀ j, j < dnN R L → dnL R (dnIt R L j) ≠ [] := by
  have hex := dn_end hR hS h
  unfold dnN
  rw [dif_pos hex]
  exact Classical.choose_spec hex
noncomputable def daV (W T : Int) (bs : List Bool) (L : List Int) : List Int := if tiledB W T bs L = true then dnIt ⟨W.toNat, T.toNat, bs⟩ L (dnN ⟨W.toNat, T.toNat, bs⟩ L) else []
noncomputable def daN (W T : Int) (bs : List Bool) (L : List Int) : Int := if tiledB W T bs L = true then (dnN ⟨W.toNat, T.toNat, bs⟩ L : Nat) else 0
theorem da_yes {R : Reg} {L : List Int} (h : tiledB R.W R.T R.C L = true) : daV R.W R.T R.C L = dnIt R L (dnN R L) ∧ daN R.W R.T R.C L = (dnN R L : Nat) := by
  constructor
  · unfold daV; rw [if_pos h]; rfl
  · unfold daN; rw [if_pos h]; rfl
theorem da_no {W T : Int} {bs : List Bool} {L : List Int} (h : tiledB W T bs L = false) : daV W T bs L = [] ∧ daN W T bs L = 0 := by
  constructor
  · unfold daV; rw [h]; rfl
  · unfold daN; rw [h]; rfl

end Go.Proofs.Ytldnccdlpagodaa
