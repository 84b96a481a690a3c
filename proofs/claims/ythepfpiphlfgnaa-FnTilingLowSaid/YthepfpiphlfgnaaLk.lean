/-
  YthepfpiphlfgnaaLk: the law of FnTilingLow: the low one and the high one are a lattice, and distributive.
-/
import Derived.Test.YthepfpiphlfgnaaLz
namespace Go.Proofs.Ythepfpiphlfgnaa

theorem law_tilingLow {W T : Int} {bs : List Bool} {a b c : List Int} (h : twoB W T bs a b = true) (g : tiledB W T bs c = true) :
    tilingB W T bs (twoV min W T bs a b) = true ∧ belowB W T bs (twoV min W T bs a b) a = true ∧ belowB W T bs (twoV min W T bs a b) b = true ∧ twoV min W T bs a (twoV max W T bs a b) = a ∧
    twoV min W T bs a (twoV max W T bs b c) = twoV max W T bs (twoV min W T bs a b) (twoV min W T bs a c) := by
  obtain ⟨h1, h2⟩ := twoB_iff.1 h
  obtain ⟨R, hR, rfl, rfl, rfl, hS, ha, hb⟩ := two_cases h1 h2
  obtain ⟨_, hc⟩ := (tiled_ok hR).1 g
  have tc : Tile R c := ⟨hc.1, hc.2⟩
  have t1 := (two_hts keeps_min hR hS ha hb).1
  have t2 := (two_hts keeps_max hR hS ha hb).1
  have t3 := (two_hts keeps_max hR hS hb tc).1
  have t4 := (two_hts keeps_min hR hS ha tc).1
  refine ⟨tiledB_tiling (tiled_tile hR hS t1), (below_iff hR hS t1 ha).2 fun k hk => ?_, (below_iff hR hS t1 hb).2 fun k hk => ?_, ?_, ?_⟩
  · rw [two_at keeps_min hR hS ha hb hk]; omega
  · rw [two_at keeps_min hR hS ha hb hk]; omega
  · refine hts_ext hR hS (two_hts keeps_min hR hS ha t2).1 ha fun k hk => ?_
    rw [two_at keeps_min hR hS ha t2 hk, two_at keeps_max hR hS ha hb hk]; omega
  · refine hts_ext hR hS (two_hts keeps_min hR hS ha t3).1 (two_hts keeps_max hR hS t1 t4).1 fun k hk => ?_
    rw [two_at keeps_min hR hS ha t3 hk, two_at keeps_max hR hS hb tc hk, two_at keeps_max hR hS t1 t4 hk, two_at keeps_min hR hS ha hb hk, two_at keeps_min hR hS ha tc hk]; omega

/-- What the calls of the law say of their arguments: all are tilings. -/
theorem law_tilingLowB {W T : Int} {bs : List Bool} {a b c : List Int} (h : twoB W T bs a b = true) (g : tiledB W T bs c = true) :
    twoB W T bs a (twoV max W T bs a b) = true ∧ twoB W T bs b c = true ∧ twoB W T bs a (twoV max W T bs b c) = true ∧ twoB W T bs a c = true ∧ twoB W T bs (twoV min W T bs a b) (twoV min W T bs a c) = true := by
  obtain ⟨h1, h2⟩ := twoB_iff.1 h
  obtain ⟨R, hR, rfl, rfl, rfl, hS, ha, hb⟩ := two_cases h1 h2
  obtain ⟨_, hc⟩ := (tiled_ok hR).1 g
  have tc : Tile R c := ⟨hc.1, hc.2⟩
  have tt := fun {L : List Int} (hL : Tile R L) => tiled_tile hR hS hL
  exact ⟨twoB_iff.2 ⟨h1, tt (two_hts keeps_max hR hS ha hb).1⟩, twoB_iff.2 ⟨h2, g⟩, twoB_iff.2 ⟨h1, tt (two_hts keeps_max hR hS hb tc).1⟩, twoB_iff.2 ⟨h1, g⟩, twoB_iff.2 ⟨tt (two_hts keeps_min hR hS ha hb).1, tt (two_hts keeps_min hR hS ha tc).1⟩⟩

end Go.Proofs.Ythepfpiphlfgnaa
