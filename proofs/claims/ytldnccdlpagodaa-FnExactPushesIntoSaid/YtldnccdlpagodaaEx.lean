/-
  YtldnccdlpagodaaEx: what the exact laws' walks need of rows that lie apart.
-/
import Derived.Test.YtldnccdlpagodaaTi
import Derived.Test.YtldnccdlpagodaaGlue
namespace Go.Proofs.Ytldnccdlpagodaa
open Go.RowKit

theorem own_lt {w : World} {base : Nat} {e : TypeId} {size : Nat} {v : Value} {n : Nat} {xs : List Value} (h : w.ownsRow base e size v n xs) {g : Nat} (hg : v.ownBlock = some g) : base ≤ g ∧ g < w.heap.size := by
  rcases h.2 with ⟨rfl, _⟩ | ⟨g', cap, cur, rfl, hb, hh, _⟩
  · simp [Value.ownBlock] at hg
  · have : g' = g := by simpa [Value.ownBlock] using hg
    subst this
    exact ⟨hb, (Array.getElem?_eq_some_iff.1 hh).1⟩
theorem own_sep {w w' : World} {base base' n n' size size' : Nat} {e e' : TypeId} {v v' : Value} {xs xs' : List Value} (h : w.ownsRow base e size v n xs) (h' : w'.ownsRow base' e' size' v' n' xs') (hb : w.heap.size ≤ base') : v.ownBlock = none ∨ v.ownBlock ≠ v'.ownBlock := by
  cases hv : v.ownBlock with
  | none => exact .inl rfl
  | some g =>
    right
    intro he
    have h1 := own_lt h hv
    have h2 := own_lt h' he.symm
    omega
theorem blk_sep {w w' : World} {g base' n' size' : Nat} {t e' : TypeId} {cs : Array Value} {v' : Value} {xs' : List Value} (h : Blk w g t cs) (h' : w'.ownsRow base' e' size' v' n' xs') (hb : w.heap.size ≤ base') : some g ≠ v'.ownBlock := by
  intro he
  have h1 := h.lt
  have h2 := own_lt h' he.symm
  omega
theorem sep_new {w : World} {base n size X : Nat} {e : TypeId} {v : Value} {xs : List Value} (h : w.ownsRow base e size v n xs) (hX : X = w.heap.size) : some X ≠ v.ownBlock := by
  intro he
  have := own_lt h he.symm
  omega
theorem size_sep {w' : World} {m base' n' size' : Nat} {e' : TypeId} {v' : Value} {xs' : List Value} (h' : w'.ownsRow base' e' size' v' n' xs') (hb : m ≤ base') : ∀ g, v'.ownBlock = some g → m ≤ g := by
  intro g hg
  have := own_lt h' hg
  omega
theorem sep_symm {a b : Option Nat} (h : a = none ∨ a ≠ b) : b = none ∨ b ≠ a := by
  rcases h with rfl | h
  · cases b with
    | none => exact .inl rfl
    | some g => right; simp
  · exact .inr (Ne.symm h)

/-- A fresh row of numbers, whatever capacity the slice names. -/
def RetInts (w : World) (L : List Int) (e : Ending) (w' : World) : Prop :=
  ∃ A c c', e = .returned (.slice A L.length c') ∧ w'.ownsRow w.heap.size 3 1 (.slice A L.length c) L.length (L.map (Value.int .i64)) ∧ Below w.heap.size w w'
theorem ret_own {w w' : World} {L : List Int} {e : Ending} (h : OwnInts w L e w') : RetInts w L e w' := by
  obtain ⟨A, c, h1, _, h2, h3⟩ := h
  exact ⟨A, c, c, h1, h2, h3⟩
theorem ret_clip {w w' : World} {L : List Int} {e : Ending} (h : ClipInts w L e w') : RetInts w L e w' := by
  obtain ⟨A, c, h1, h2, h3⟩ := h
  exact ⟨A, c, _, h1, h2, h3⟩
theorem ret_fresh {w w' : World} {L : List Int} {e : Ending} (h : IntsRet w L e w') : RetInts w L e w' := by
  obtain ⟨g, h1, h2, h3⟩ := h
  exact ⟨_, _, _, h1, h2, h3⟩

/-- Marks in a row that the slice names with another capacity. -/
theorem markIntC_any (A : Option Addr) (n c' c base : Nat) (zs : List Int) (k : Int) (w : World) (hown : w.ownsRow base 3 1 (.slice A n c) n (zs.map (Value.int .i64))) (hn : n ≤ 1048576) (hk : 0 ≤ k ∧ k ≤ 1000000000) :
    Calls Try.prog 21 #[.slice A n c', .int .i64 k] w (IMarked w base (.slice A n c) n k) := by
  obtain ⟨hk0, hk1⟩ := hk
  rcases Nat.eq_zero_or_pos n with hz | hpos
  · subst hz
    have hzs : zs = [] := by have := hown.1; simpa using this
    subst hzs
    go_enter Try.func21, Try.ntmps21
    go_wp2
    go_loopg [1, 5] 0 (fun _ s1 s5 wr => s1 = .int .i64 k ∧ s5 = .int .i64 0 ∧ wr = w)
    case atStart => exact ⟨rfl, rfl, rfl⟩
    case round =>
      obtain ⟨rfl, rfl, rfl⟩ := hrel
      go_wp2
      go_ret
      exact ⟨by simp, by simpa [marksL] using hown, World.grownBy.refl _ _⟩
  · obtain ⟨g, c2, hv, hc, _, _⟩ := own_shape hown hpos
    simp only [Value.slice.injEq, true_and] at hv
    obtain ⟨rfl, rfl⟩ := hv
    go_enter Try.func21, Try.ntmps21
    go_wp2
    go_loopg [1, 5] n (fun r s1 s5 wr => ∃ (j : Nat) (L : List Int), j + r = n ∧ s1 = .int .i64 (k + j) ∧ s5 = .int .i64 (j : Nat) ∧ L.length = (marksL k n).length ∧ (∀ i, i < j → L[i]? = (marksL k n)[i]?) ∧ wr.ownsRow base 3 1 (.slice (some ⟨g, 0, none⟩) n c) n (L.map (Value.int .i64)) ∧ w.grownBy wr (some g))
    case atStart => exact ⟨0, zs, by omega, by simp, rfl, by rw [marksL_len]; have := hown.1; simpa using this, fun i hi => by omega, hown, World.grownBy.refl _ _⟩
    case round =>
      clear hown
      obtain ⟨j, L, hj, rfl, rfl, hlen, hL, hown, hg⟩ := hrel
      have HJ := Lib.hid hj
      have HLen := Lib.hid hlen
      have HL := Lib.hid hL
      clear hj hlen hL
      by_cases hlt : j < n
      · obtain ⟨x0, hx0⟩ : ∃ x, L[j]? = some x := ⟨_, List.getElem?_eq_getElem (by rw [HLen.out, marksL_len]; exact hlt)⟩
        have hcell := hown.cellAt j (by omega)
        rw [map_some hx0] at hcell
        have hf := hown.frozenAt j
        clear hx0
        go_wp2
        all_goals
          go_roundg (n - (j + 1))
          case measure => have := HJ.out; omega
          case rel =>
            have ho := hown.stored j (.int .i64 (k + (j : Int)))
            have hs := set_next HLen.out (marksL_at k n j hlt) HL.out
            refine ⟨j + 1, L.set j (k + (j : Int)), by omega, by first | go_num | (congr 1; omega), by go_num, hs.1, hs.2, ?_, hg.trans ho.2⟩
            have ho1 := ho.1
            rw [← List.map_set] at ho1
            exact ho1
      · go_wp2
        go_ret
        obtain rfl : j = n := by have := HJ.out; omega
        have := list_all HLen.out (fun i hi => HL.out i (by rw [marksL_len] at hi; exact hi))
        subst this
        exact ⟨rfl, hown, hg⟩

end Go.Proofs.Ytldnccdlpagodaa
