/-
  YthepfpiphlfgnaaTi: the program's tiled and HeightsOf.
-/
import Derived.Test.YthepfpiphlfgnaaH3
import Derived.Test.YthepfpiphlfgnaaHI
namespace Go.Proofs.Ythepfpiphlfgnaa
open Go.RowKit

/-- A fresh row of numbers. -/
def OwnInts (w : World) (L : List Int) (e : Ending) (w' : World) : Prop :=
  ∃ A c, e = .returned (.slice A L.length c) ∧ L.length ≤ c ∧ w'.ownsRow w.heap.size 3 1 (.slice A L.length c) L.length (L.map (Value.int .i64)) ∧ Below w.heap.size w w'
theorem ownInts_nil (w : World) : OwnInts w [] (.returned (.slice none 0 0)) w := ⟨none, 0, rfl, Nat.le_refl _, ⟨rfl, .inl ⟨rfl, rfl⟩⟩, Below.refl _ _⟩

abbrev boxR (W T : Int) (A : Option Addr) (n c : Nat) : Obj := .cells #[.int .i64 W, .int .i64 T, .slice A n c] 25

theorem box_keep {w w1 : World} {W T : Int} {A : Option Addr} {n c : Nat} (hb : Below (w.alloc (boxR W T A n c)).heap.size (w.alloc (boxR W T A n c)) w1) :
    Below w.heap.size w w1 ∧ Blk w1 w.heap.size 25 #[.int .i64 W, .int .i64 T, .slice A n c] ∧ w1.cell? ⟨w.heap.size, 0, none⟩ = some (.int .i64 W) ∧ w1.cell? ⟨w.heap.size, 1, none⟩ = some (.int .i64 T) ∧ w1.cell? ⟨w.heap.size, 2, none⟩ = some (.slice A n c) := by
  have hk : Blk w1 w.heap.size 25 #[.int .i64 W, .int .i64 T, .slice A n c] := (Blk.new w _ _).below hb (by simp)
  have b0 := hk.cell 0
  have b1 := hk.cell 1
  have b2 := hk.cell 2
  simp at b0 b1 b2
  exact ⟨((Below.refl w.heap.size w).alloc (Nat.le_refl _) _).trans (hb.mono (by simp)), hk, b0, b1, b2⟩
theorem blk_keep {w1 w2 : World} {g : Nat} {W T : Int} {A : Option Addr} {n c : Nat} (hk : Blk w1 g 25 #[.int .i64 W, .int .i64 T, .slice A n c]) (hb : Below w1.heap.size w1 w2) :
    Blk w2 g 25 #[.int .i64 W, .int .i64 T, .slice A n c] ∧ w2.cell? ⟨g, 0, none⟩ = some (.int .i64 W) ∧ w2.cell? ⟨g, 1, none⟩ = some (.int .i64 T) ∧ w2.cell? ⟨g, 2, none⟩ = some (.slice A n c) := by
  have hk := hk.below hb hk.lt
  have b0 := hk.cell 0
  have b1 := hk.cell 1
  have b2 := hk.cell 2
  simp at b0 b1 b2
  exact ⟨hk, b0, b1, b2⟩

theorem tiledB_s {W T : Int} {bs : List Bool} {L : List Int} (h : simpleB W T bs = false) : tiledB W T bs L = false := by unfold tiledB; rw [h]; rfl

theorem tiled_any (W T : Int) (A : Option Addr) (n c B : Nat) (bs : List Bool) (L : List Int) (D : Option Addr) (m d : Nat) (w : World) (hbl : bs.length = n) (hL : L.length = m)
    (hr : Reads w B 1 A n (bs.map Value.bool)) (hd : Reads w B 1 D m (L.map (Value.int .i64))) (hB : B ≤ w.heap.size) (hn : n ≤ 9223372036854775807) (hm : m ≤ 9223372036854775807) :
    Calls Try.prog 79 #[.agg #[.int .i64 W, .int .i64 T, .slice A n c], .slice D m d] w fun e w' => e = .returned (.bool (tiledB W T bs L)) ∧ Below w.heap.size w w' := by
  have hSI := hide (SimpleI_any W T A n c B bs (w.alloc (boxR W T A n c)) (hr.alloc hB _) (by simp; omega) hn)
  cases hs : simpleB W T bs with
  | false =>
    rw [hs] at hSI
    rw [tiledB_s hs]
    clear hs
    go_enter Try.func79, Try.ntmps79
    go_wp2_with fail
    refine (unhide hSI).mono ?_
    rintro e w0 ⟨rfl, hb0⟩
    go_wp2_with fail
    go_ret
    exact ⟨rfl, (box_keep hb0).1⟩
  | true =>
    rw [hs] at hSI
    have hv : validB W T bs = true := by
      cases hv : validB W T bs with
      | true => rfl
      | false => rw [simpleB_no hv] at hs; cases hs
    obtain ⟨R, hR, rfl, rfl, rfl⟩ := reg_of_valid hv
    subst hbl
    have hT : tiledB R.W R.T R.C L = (laysB R L && fullB R L) := by
      unfold tiledB; rw [hs, Bool.true_and, tilingB_ok hR]
    rw [hT]
    have hLY := fun w' (h : Below w.heap.size w w') => hide (lays_any R hR A c B L D m d hL hm w' (hr.below (h.mono hB)) (hd.below (h.mono hB)) (Nat.le_trans hB h.size))
    cases hl : laysB R L with
    | false =>
      simp only [hl] at hLY
      clear hT hl hs hv
      go_enter Try.func79, Try.ntmps79
      go_wp2_with fail
      refine (unhide hSI).mono ?_
      rintro e w0 ⟨rfl, hb0⟩
      obtain ⟨hB0, hk0, b0, b1, b2⟩ := box_keep hb0
      go_wp2_with fail
      refine (unhide (hLY _ hB0)).mono ?_
      rintro e w1 ⟨rfl, hb1⟩
      go_wp2_with fail
      go_ret
      exact ⟨rfl, hB0.trans (hb1.mono hB0.size)⟩
    | true =>
      have hml : m = R.C.length := by rw [← hL]; exact ((laysB_iff hR).1 hl).len
      subst hml
      simp only [hl] at hLY
      rw [Bool.true_and]
      clear hT hl hs hv
      go_enter Try.func79, Try.ntmps79
      go_wp2_with fail
      refine (unhide hSI).mono ?_
      rintro e w0 ⟨rfl, hb0⟩
      obtain ⟨hB0, hk0, b0, b1, b2⟩ := box_keep hb0
      go_wp2_with fail
      refine (unhide (hLY _ hB0)).mono ?_
      rintro e w1 ⟨rfl, hb1⟩
      have hB1 := hB0.trans (hb1.mono hB0.size)
      clear b0 b1 b2
      obtain ⟨hk1, b0, b1, b2⟩ := blk_keep hk0 hb1
      go_wp2_with fail
      refine (full_any R hR A c B L D d _ (hr.below (hB1.mono hB)) (hd.below (hB1.mono hB)) (Nat.le_trans hB hB1.size)).mono ?_
      rintro e w2 ⟨rfl, hb2⟩
      go_wp2_with fail
      go_ret
      exact ⟨rfl, hB1.trans (hb2.mono hB1.size)⟩

theorem heightsOfI_any (W T : Int) (A : Option Addr) (n c B : Nat) (bs : List Bool) (L : List Int) (D : Option Addr) (m d : Nat) (w : World) (hbl : bs.length = n) (hL : L.length = m)
    (hr : Reads w B 1 A n (bs.map Value.bool)) (hd : Reads w B 1 D m (L.map (Value.int .i64))) (hB : B ≤ w.heap.size) (hn : n ≤ 9223372036854775807) (hm : m ≤ 9223372036854775807) :
    Calls Try.prog 31 #[.agg #[.int .i64 W, .int .i64 T, .slice A n c], .slice D m d] w (OwnInts w (htsOf W T bs L)) := by
  have hTI := hide (tiled_any W T A n c B bs L D m d (w.alloc (boxR W T A n c)) hbl hL (hr.alloc hB _) (hd.alloc hB _) (by simp; omega) hn hm)
  cases ht : tiledB W T bs L with
  | false =>
    rw [ht] at hTI
    rw [htsOf_no ht]
    clear ht
    go_enter Try.func31, Try.ntmps31
    go_wp2_with fail
    refine (unhide hTI).mono ?_
    rintro e w0 ⟨rfl, hb0⟩
    go_wp2_with fail
    go_ret
    exact ⟨none, 0, rfl, Nat.le_refl _, ⟨rfl, .inl ⟨rfl, rfl⟩⟩, (box_keep hb0).1⟩
  | true =>
    rw [ht] at hTI
    obtain ⟨R, hR, rfl, rfl, rfl, hS, hLy, hF⟩ := tiled_cases ht
    subst hbl hL
    have hH := htsOf_yes hR hS hLy hF
    have hHT := fun w' (h : Below w.heap.size w w') => hide (heights_any R hR hS A c B L D d hLy hF _ hH w' (hr.below (h.mono hB)) (hd.below (h.mono hB)) (Nat.le_trans hB h.size))
    clear ht hH
    go_enter Try.func31, Try.ntmps31
    go_wp2_with fail
    refine (unhide hTI).mono ?_
    rintro e w0 ⟨rfl, hb0⟩
    obtain ⟨hB0, hk0, b0, b1, b2⟩ := box_keep hb0
    go_wp2_with fail
    refine (unhide (hHT _ hB0)).mono ?_
    rintro e w1 ⟨g, rfl, ho, hb1⟩
    go_wp2_with fail
    go_ret
    exact ⟨_, _, rfl, Nat.le_refl _, own_mono ho hB0.size, hB0.trans (hb1.mono hB0.size)⟩

end Go.Proofs.Ythepfpiphlfgnaa
