/-
  YtpeifojfpkkcpaaLi: what FnHeightsOf and FnApart want: the program's first tiling, and the heights of two tilings.
-/
import Derived.Test.YtpeifojfpkkcpaaTn
import Derived.Test.YtpeifojfpkkcpaaLz
namespace Go.Proofs.Ytpeifojfpkkcpaa
open Go.RowKit

/-- The first tiling. -/
def tfV (W T : Int) (bs : List Bool) : List Int := coV ⟨W.toNat, T.toNat, bs⟩ (bare ⟨W.toNat, T.toNat, bs⟩)
theorem law_first {W T : Int} {bs : List Bool} {L : List Int} (h : tiledB W T bs L = true) : tiledB W T bs (tfV W T bs) = true ∧ (tfV W T bs).length ≤ 36 := by
  obtain ⟨R, hR, rfl, rfl, rfl, hS, h1, h2⟩ := tiled_cases h
  have e : tfV R.W R.T R.C = coV R (bare R) := rfl
  have hm : L ∈ cT R (bare R) := (tilT_iff hR).2 ⟨h1, h2⟩
  rw [e]
  cases hc : cT R (bare R) with
  | nil => rw [hc] at hm; cases hm
  | cons M l =>
    rw [coV_cons hc]
    have hT := coV_tile hR (lay_bare hR) hc
    exact ⟨tiled_tile hR hS hT, by rw [hT.1.len]; exact (len_bd hR).2⟩
theorem tilingFirstI_t (W T : Int) (A : Option Addr) (n c B : Nat) (bs : List Bool) (L : List Int) (ht : tiledB W T bs L = true) (w : World) (hbl : bs.length = n) (hr : Reads w B 1 A n (bs.map Value.bool)) (hB : B ≤ w.heap.size) :
    Calls Try.prog 62 #[.agg #[.int .i64 W, .int .i64 T, .slice A n c]] w (RetIB w (tfV W T bs) true) := by
  obtain ⟨R, hR, rfl, rfl, rfl, hS, h1, h2⟩ := tiled_cases ht
  subst hbl
  have h := tilingFirstI_ok R hR A c B w hr hB
  have hm : L ∈ tilT R := (tilT_iff hR).2 ⟨h1, h2⟩
  have he : (!(tilT R).isEmpty) = true := by
    cases hc : tilT R with
    | nil => rw [hc] at hm; cases hm
    | cons M l => rfl
  rw [he] at h
  exact h
/-- FnHeightsOf. -/
theorem law_two_hts {W T : Int} {bs : List Bool} {a c : List Int} (h : tiledB W T bs a = true) (g : tiledB W T bs c = true) :
    (htsOf W T bs c).length = (htsOf W T bs a).length ∧ 0 < (htsOf W T bs a).length ∧ ∀ k, k < (htsOf W T bs a).length → ((htsOf W T bs a).getD k 0 - (htsOf W T bs c).getD k 0).tmod 4 = 0 ∧ (-51 ≤ (htsOf W T bs a).getD k 0 ∧ (htsOf W T bs a).getD k 0 ≤ 99) ∧ (-51 ≤ (htsOf W T bs c).getD k 0 ∧ (htsOf W T bs c).getD k 0 ≤ 99) := by
  obtain ⟨R, hR, rfl, rfl, rfl, hS, h1, h2⟩ := tiled_cases h
  obtain ⟨_, h3, h4⟩ := (tiled_ok hR).1 g
  have e1 := hts_len hR hS ⟨h1, h2⟩
  have e2 := hts_len hR hS (a := c) ⟨h3, h4⟩
  have hc := (cn_bd hR).1
  refine ⟨by omega, by omega, fun k hk => ?_⟩
  have hm := getD_mod hR hS (M := a) (N := c) ⟨h1, h2⟩ ⟨h3, h4⟩ (k := k) (by omega)
  have hb : ∀ L : List Int, k < (htsOf R.W R.T R.C L).length → -51 ≤ (htsOf R.W R.T R.C L).getD k 0 ∧ (htsOf R.W R.T R.C L).getD k 0 ≤ 99 := fun L hL => htsOf_bd _ (by rw [List.getD_eq_getElem?_getD, List.getElem?_eq_getElem hL]; exact List.getElem_mem hL)
  exact ⟨Int.tmod_eq_zero_of_dvd (Int.dvd_of_emod_eq_zero hm), hb a hk, hb c (by omega)⟩

end Go.Proofs.Ytpeifojfpkkcpaa
