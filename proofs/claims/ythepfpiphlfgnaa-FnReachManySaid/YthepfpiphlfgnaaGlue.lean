/-
  YthepfpiphlfgnaaGlue: what the exact laws' own functions on slices and regions do: copies, sizes, equality, marks.
-/
import Derived.Test.YthepfpiphlfgnaaWa
namespace Go.Proofs.Ythepfpiphlfgnaa
open Go.RowKit

/-- A fresh row of truths. -/
def BoolsRet (w : World) (bs : List Bool) (e : Ending) (w' : World) : Prop :=
  ∃ g, e = .returned (.slice (some ⟨g, 0, none⟩) bs.length bs.length) ∧ w'.ownsRow w.heap.size 4 1 (.slice (some ⟨g, 0, none⟩) bs.length bs.length) bs.length (bs.map Value.bool) ∧ Below w.heap.size w w'

theorem set_next {α : Type} {L M : List α} {k : Nat} {x : α} (hl : L.length = M.length) (hx : M[k]? = some x) (h : ∀ j, j < k → L[j]? = M[j]?) : (L.set k x).length = M.length ∧ ∀ j, j < k + 1 → (L.set k x)[j]? = M[j]? := by
  refine ⟨by simpa using hl, fun j hj => ?_⟩
  rw [List.getElem?_set]
  by_cases hjk : k = j
  · subst hjk
    rw [if_pos rfl, if_pos (by rw [hl]; exact (List.getElem?_eq_some_iff.1 hx).1), hx]
  · rw [if_neg hjk]; exact h j (by omega)
theorem list_all {α : Type} {L M : List α} (hl : L.length = M.length) (h : ∀ j, j < M.length → L[j]? = M[j]?) : L = M := by
  apply List.ext_getElem?
  intro i
  by_cases hi : i < M.length
  · exact h i hi
  · rw [List.getElem?_eq_none (by omega), List.getElem?_eq_none (by omega)]
theorem map_some {α : Type} {f : α → Value} {L : List α} {j : Nat} {x : α} (h : L[j]? = some x) : (L.map f)[j]? = some (f x) := by rw [List.getElem?_map, h]; rfl

theorem toBoolS_any (A : Option Addr) (c B : Nat) (bs : List Bool) (w : World) (hr : Reads w B 1 A bs.length (bs.map Value.bool)) (hB : B ≤ w.heap.size) (hn : bs.length ≤ 1048576) :
    Calls Try.prog 121 #[.slice A bs.length c] w (BoolsRet w bs) := by
  go_enter Try.func121, Try.ntmps121
  go_wp2_with (at_make; refine wpList_make_bools rfl _ _ rfl bs.length (by omega) rfl rfl rfl rfl ?_; intro w1 hown hb)
  have hr1 := hr.below (hb.mono hB)
  go_loopg [4] bs.length (fun r i wr => ∃ (k : Nat) (L : List Bool), k + r = bs.length ∧ i = .int .i64 (k : Nat) ∧ L.length = bs.length ∧ (∀ j, j < k → L[j]? = bs[j]?) ∧ wr.ownsRow w.heap.size 4 1 (.slice (some ⟨w.heap.size, 0, none⟩) bs.length bs.length) bs.length (L.map Value.bool) ∧ Below w.heap.size w wr)
  case atStart => exact ⟨0, _, by omega, rfl, by simp, fun j hj => by omega, hown, hb⟩
  case round =>
    clear hown hb hr1
    obtain ⟨k, L, hk, rfl, hl, hL, hown, hb⟩ := hrel
    have HK := Lib.hid hk
    have HL := Lib.hid hL
    have HLen := Lib.hid hl
    clear hL hl hk
    by_cases hlt : k < bs.length
    · obtain ⟨ad, u, rfl, hab, hu, hcell⟩ := (hr.below (hb.mono hB)).at_ hlt
      obtain ⟨b, hb'⟩ : ∃ b, bs[k]? = some b := ⟨_, List.getElem?_eq_getElem hlt⟩
      rw [map_some hb'] at hu
      injection hu with hu
      subst hu
      obtain ⟨x0, hx0⟩ : ∃ x, L[k]? = some x := ⟨_, List.getElem?_eq_getElem (by rw [HLen.out]; exact hlt)⟩
      have hc := hown.cellAt k (by omega)
      rw [map_some hx0] at hc
      have hf := hown.frozenAt k
      have HB := Lib.hid hb'
      clear hx0 hb'
      go_wp2
      go_roundg (bs.length - (k + 1))
      case measure => have := HK.out; omega
      case rel =>
        have hs := set_next HLen.out HB.out HL.out
        have ho := (hown.stored k (.bool b)).1
        rw [← List.map_set] at ho
        exact ⟨k + 1, L.set k b, by omega, by go_num, hs.1, hs.2, ho, hb.setCell (by simp) _⟩
    · go_wp2
      go_ret
      obtain rfl : k = bs.length := by have := HK.out; omega
      have := list_all HLen.out HL.out
      subst this
      exact ⟨_, rfl, hown, hb⟩

/-- A fresh row of numbers. -/
def IntsRet (w : World) (bs : List Int) (e : Ending) (w' : World) : Prop :=
  ∃ g, e = .returned (.slice (some ⟨g, 0, none⟩) bs.length bs.length) ∧ w'.ownsRow w.heap.size 3 1 (.slice (some ⟨g, 0, none⟩) bs.length bs.length) bs.length (bs.map (Value.int .i64)) ∧ Below w.heap.size w w'

theorem toIntS_any (A : Option Addr) (c B : Nat) (bs : List Int) (w : World) (hr : Reads w B 1 A bs.length (bs.map (Value.int .i64))) (hB : B ≤ w.heap.size) (hn : bs.length ≤ 1048576) :
    Calls Try.prog 61 #[.slice A bs.length c] w (IntsRet w bs) := by
  go_enter Try.func61, Try.ntmps61
  go_wp2_with (at_make; refine wpList_make_ints rfl _ _ rfl bs.length (by omega) rfl rfl rfl rfl ?_; intro w1 hown hb)
  have hr1 := hr.below (hb.mono hB)
  go_loopg [4] bs.length (fun r i wr => ∃ (k : Nat) (L : List Int), k + r = bs.length ∧ i = .int .i64 (k : Nat) ∧ L.length = bs.length ∧ (∀ j, j < k → L[j]? = bs[j]?) ∧ wr.ownsRow w.heap.size 3 1 (.slice (some ⟨w.heap.size, 0, none⟩) bs.length bs.length) bs.length (L.map (Value.int .i64)) ∧ Below w.heap.size w wr)
  case atStart => exact ⟨0, _, by omega, rfl, by simp, fun j hj => by omega, hown, hb⟩
  case round =>
    clear hown hb hr1
    obtain ⟨k, L, hk, rfl, hl, hL, hown, hb⟩ := hrel
    have HK := Lib.hid hk
    have HL := Lib.hid hL
    have HLen := Lib.hid hl
    clear hL hl hk
    by_cases hlt : k < bs.length
    · obtain ⟨ad, u, rfl, hab, hu, hcell⟩ := (hr.below (hb.mono hB)).at_ hlt
      obtain ⟨b, hb'⟩ : ∃ b, bs[k]? = some b := ⟨_, List.getElem?_eq_getElem hlt⟩
      rw [map_some hb'] at hu
      injection hu with hu
      subst hu
      obtain ⟨x0, hx0⟩ : ∃ x, L[k]? = some x := ⟨_, List.getElem?_eq_getElem (by rw [HLen.out]; exact hlt)⟩
      have hc := hown.cellAt k (by omega)
      rw [map_some hx0] at hc
      have hf := hown.frozenAt k
      have HB := Lib.hid hb'
      clear hx0 hb'
      go_wp2
      go_roundg (bs.length - (k + 1))
      case measure => have := HK.out; omega
      case rel =>
        have hs := set_next HLen.out HB.out HL.out
        have ho := (hown.stored k (.int .i64 b)).1
        rw [← List.map_set] at ho
        exact ⟨k + 1, L.set k b, by omega, by go_num, hs.1, hs.2, ho, hb.setCell (by simp) _⟩
    · go_wp2
      go_ret
      obtain rfl : k = bs.length := by have := HK.out; omega
      have := list_all HLen.out HL.out
      subst this
      exact ⟨_, rfl, hown, hb⟩


theorem szBoolS_any (A : Option Addr) (n c : Nat) (left : Int) (w : World) (hn : n ≤ 9223372036854775807) (hl : 0 ≤ left ∧ left ≤ 1048576) :
    Calls Try.prog 117 #[.slice A n c, .int .i64 left] w fun e w' => e = .returned (.int .i64 (if left - n < 0 then -1 else left - n)) ∧ w = w' := by
  obtain ⟨h0, h1⟩ := hl
  by_cases h : left - n < 0
  · have hp : (if left - (n : Int) < 0 then (-1 : Int) else left - n) = -1 := if_pos h
    have HP := Lib.hid hp
    clear hp
    go_enter Try.func117, Try.ntmps117
    go_wp2
    go_ret
    exact ⟨ret_int (by first | rfl | exact HP.out.symm), rfl⟩
  · have hp : (if left - (n : Int) < 0 then (-1 : Int) else left - n) = left - n := if_neg h
    have HP := Lib.hid hp
    clear hp
    go_enter Try.func117, Try.ntmps117
    go_wp2
    go_ret
    exact ⟨ret_int (by first | rfl | exact HP.out.symm), rfl⟩

theorem szRegion_any (W T : Int) (A : Option Addr) (n c : Nat) (left : Int) (w : World) (hn : n ≤ 9223372036854775807) (hl : 0 ≤ left ∧ left ≤ 1048576) :
    Calls Try.prog 53 #[.agg #[.int .i64 W, .int .i64 T, .slice A n c], .int .i64 left] w fun e w' => e = .returned (.int .i64 (if left - n < 0 then -1 else left - n)) ∧ Below w.heap.size w w' := by
  have hz := szBoolS_any A n c left
  by_cases h : left - n < 0
  · rw [if_pos h] at hz ⊢
    have HZ := hide hz
    clear hz h
    go_enter Try.func53, Try.ntmps53
    go_wp2_with (go_at_call 117; refine (unhide HZ _ hn hl).mono ?_; rintro e w' ⟨rfl, rfl⟩)
    go_ret
    exact ⟨rfl, (Below.refl _ _).alloc (Nat.le_refl _) _⟩
  · rw [if_neg h] at hz ⊢
    have HZ := hide hz
    clear hz
    go_enter Try.func53, Try.ntmps53
    go_wp2_with (go_at_call 117; refine (unhide HZ _ hn hl).mono ?_; rintro e w' ⟨rfl, rfl⟩)
    go_ret
    exact ⟨rfl, (Below.refl _ _).alloc (Nat.le_refl _) _⟩

theorem eqBoolS_same (A A' : Option Addr) (c c' B B' : Nat) (bs : List Bool) (w : World) (hr : Reads w B 1 A bs.length (bs.map Value.bool)) (hr' : Reads w B' 1 A' bs.length (bs.map Value.bool)) (hn : bs.length ≤ 1048576) :
    Calls Try.prog 126 #[.slice A bs.length c, .slice A' bs.length c'] w fun e w' => e = .returned (.bool true) ∧ Below w.heap.size w w' := by
  have hne : ((bs.length : Int) != (bs.length : Int)) = false := by simp
  go_enter Try.func126, Try.ntmps126
  go_wp2
  go_loopg [5] bs.length (fun r i wr => ∃ k m : Nat, k + r = bs.length ∧ i = .int .i64 (k : Nat) ∧ wr = w.drewN m)
  case atStart => exact ⟨0, 0, by omega, rfl, rfl⟩
  case round =>
    obtain ⟨k, m, hk, rfl, rfl⟩ := hrel
    have HK := Lib.hid hk
    clear hk
    by_cases hlt : k < bs.length
    · obtain ⟨ad, u, rfl, hab, hu, hcell⟩ := hr.at_ hlt
      obtain ⟨ad', u', rfl, hab', hu', hcell'⟩ := hr'.at_ hlt
      obtain ⟨b, hb'⟩ : ∃ b, bs[k]? = some b := ⟨_, List.getElem?_eq_getElem hlt⟩
      rw [map_some hb'] at hu hu'
      injection hu with hu
      injection hu' with hu'
      subst hu hu'
      have hbb : (b != b) = false := by cases b <;> rfl
      clear hb'
      go_wp2
      go_quiet (fail)
      go_wp2
      go_roundg (bs.length - (k + 1))
      case measure => have := HK.out; omega
      case rel => exact ⟨k + 1, _, by omega, by go_num, rfl⟩
    · go_wp2
      go_ret
      exact ⟨rfl, below_drewN (Below.refl _ _) _⟩

theorem eqIntS_same (A A' : Option Addr) (c c' B B' : Nat) (bs : List Int) (w : World) (hr : Reads w B 1 A bs.length (bs.map (Value.int .i64))) (hr' : Reads w B' 1 A' bs.length (bs.map (Value.int .i64))) (hn : bs.length ≤ 1048576) :
    Calls Try.prog 62 #[.slice A bs.length c, .slice A' bs.length c'] w fun e w' => e = .returned (.bool true) ∧ Below w.heap.size w w' := by
  have hne : ((bs.length : Int) != (bs.length : Int)) = false := by simp
  go_enter Try.func62, Try.ntmps62
  go_wp2
  go_loopg [5] bs.length (fun r i wr => ∃ k m : Nat, k + r = bs.length ∧ i = .int .i64 (k : Nat) ∧ wr = w.drewN m)
  case atStart => exact ⟨0, 0, by omega, rfl, rfl⟩
  case round =>
    obtain ⟨k, m, hk, rfl, rfl⟩ := hrel
    have HK := Lib.hid hk
    clear hk
    by_cases hlt : k < bs.length
    · obtain ⟨ad, u, rfl, hab, hu, hcell⟩ := hr.at_ hlt
      obtain ⟨ad', u', rfl, hab', hu', hcell'⟩ := hr'.at_ hlt
      obtain ⟨b, hb'⟩ : ∃ b, bs[k]? = some b := ⟨_, List.getElem?_eq_getElem hlt⟩
      rw [map_some hb'] at hu hu'
      injection hu with hu
      injection hu' with hu'
      subst hu hu'
      have hbb : (b != b) = false := by simp
      clear hb'
      go_wp2
      go_quiet (fail)
      go_wp2
      go_roundg (bs.length - (k + 1))
      case measure => have := HK.out; omega
      case rel => exact ⟨k + 1, _, by omega, by go_num, rfl⟩
    · go_wp2
      go_ret
      exact ⟨rfl, below_drewN (Below.refl _ _) _⟩


theorem eqRegion_same (W T : Int) (A A' : Option Addr) (c c' B B' : Nat) (bs : List Bool) (w : World) (hr : Reads w B 1 A bs.length (bs.map Value.bool)) (hr' : Reads w B' 1 A' bs.length (bs.map Value.bool)) (hB : B ≤ w.heap.size) (hB' : B' ≤ w.heap.size) (hn : bs.length ≤ 1048576) :
    Calls Try.prog 59 #[.agg #[.int .i64 W, .int .i64 T, .slice A bs.length c], .agg #[.int .i64 W, .int .i64 T, .slice A' bs.length c']] w fun e w' => e = .returned (.bool true) ∧ Below w.heap.size w w' := by
  have h1 : (W != W) = false := by simp
  have h2 : (T != T) = false := by simp
  go_enter Try.func59, Try.ntmps59
  go_wp2_with (go_at_call 126; refine (eqBoolS_same A A' c c' B B' bs _ ((hr.alloc hB _).alloc (by simp; omega) _) ((hr'.alloc hB' _).alloc (by simp; omega) _) hn).mono ?_; rintro e w1 ⟨rfl, hb⟩)
  go_ret
  exact ⟨rfl, (((Below.refl _ _).alloc (Nat.le_refl _) _).alloc (by simp) _).trans (hb.mono (by simp; omega))⟩

/-! ### Marks -/
def BMarked (w : World) (base : Nat) (v : Value) (n : Nat) (k : Int) (e : Ending) (w' : World) : Prop :=
  ∃ bs : List Bool, e = .returned (.int .i64 (k + n)) ∧ w'.ownsRow base 4 1 v n (bs.map Value.bool) ∧ w.grownBy w' v.ownBlock

/-- The numbers that a list is marked with. -/
def marksL (k : Int) (n : Nat) : List Int := (List.range n).map fun i : Nat => k + (i : Int)
theorem marksL_len (k : Int) (n : Nat) : (marksL k n).length = n := by simp [marksL]
theorem marksL_at (k : Int) (n j : Nat) (h : j < n) : (marksL k n)[j]? = some (k + (j : Int)) := by simp [marksL, h]
def IMarked (w : World) (base : Nat) (v : Value) (n : Nat) (k : Int) (e : Ending) (w' : World) : Prop :=
  e = .returned (.int .i64 (k + n)) ∧ w'.ownsRow base 3 1 v n ((marksL k n).map (Value.int .i64)) ∧ w.grownBy w' v.ownBlock

/-! ### A region, copied -/
def RegionRet (w : World) (W T : Int) (bs : List Bool) (e : Ending) (w' : World) : Prop :=
  ∃ g, e = .returned (.agg #[.int .i64 W, .int .i64 T, .slice (some ⟨g, 0, none⟩) bs.length bs.length]) ∧ w'.ownsRow w.heap.size 4 1 (.slice (some ⟨g, 0, none⟩) bs.length bs.length) bs.length (bs.map Value.bool) ∧ Below w.heap.size w w'

theorem toRegion_any (W T : Int) (A : Option Addr) (c B : Nat) (bs : List Bool) (w : World) (hr : Reads w B 1 A bs.length (bs.map Value.bool)) (hB : B ≤ w.heap.size) (hn : bs.length ≤ 1048576) :
    Calls Try.prog 56 #[.agg #[.int .i64 W, .int .i64 T, .slice A bs.length c]] w (RegionRet w W T bs) := by
  go_enter Try.func56, Try.ntmps56
  go_wp2_with (go_at_call 121; refine (toBoolS_any A c B bs _ ((((hr.alloc hB _).alloc (by simp; omega) _).alloc (by simp; omega) _)) (by simp; omega) hn).mono ?_; rintro e w1 ⟨g, rfl, hown, hb⟩; simp only [World.size_alloc] at hown hb; obtain ⟨hc, hf⟩ := bcell hb)
  refine bodyPost_ret (v := .agg #[.int .i64 W, .int .i64 T, .slice (some ⟨g, 0, none⟩) bs.length bs.length]) (by simp [results, Try.results56, go_sem, hc]) rfl ⟨_, rfl, ?_, ?_⟩
  · refine own_mono (ownsRow_setCell_below (ownsRow_setCell_below (ownsRow_setCell_below (ownsRow_setCell_below hown ?_ _) ?_ _) ?_ _) ?_ _) (by omega) <;> (simp; try omega)
  · refine ((((Below.trans ?_ (hb.mono (show w.heap.size ≤ w.heap.size + 1 + 1 + 1 by omega))).setCell ?_ _).setCell ?_ _).setCell ?_ _).setCell ?_ _
    · exact (((Below.refl _ _).alloc (Nat.le_refl _) _).alloc (by simp) _).alloc (by simp; omega) _
    all_goals (simp; try omega)

end Go.Proofs.Ythepfpiphlfgnaa
