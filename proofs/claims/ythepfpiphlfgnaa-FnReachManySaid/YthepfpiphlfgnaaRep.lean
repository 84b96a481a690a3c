/-
  YthepfpiphlfgnaaRep: slices.Repeat of a list of one number; clones of lists of numbers.
-/
import Derived.Test.YthepfpiphlfgnaaShelf
import Derived.Test.YthepfpiphlfgnaaGlue
import Derived.Test.YthepfpiphlfgnaaSd
import Derived.Laws.CopyOwn
import Derived.Deep.RegionLaw
namespace Go.Proofs.Ythepfpiphlfgnaa
open Go.RowKit

/-- A row known whole, without room behind it. -/
theorem own_whole {w : World} {base g n : Nat} {e : TypeId} {xs : List Value} (hn : xs.length = n) (hb : base ≤ g) (hm : n ≤ maxLen) (hg : w.heap[g]? = some (.cells xs.toArray e (0, 0))) : w.ownsRow base e 1 (.slice (some ⟨g, 0, none⟩) n n) n xs :=
  ⟨by omega, .inr ⟨g, n, xs.toArray, rfl, hb, hg, Nat.le_refl _, hm, by simpa using hn, by rw [List.take_of_length_le (by simp; omega)]⟩⟩
theorem own_lit {w : World} {base g n : Nat} {e : TypeId} {xs : List Value} (h : w.ownsRow base e 1 (.slice (some ⟨g, 0, none⟩) n n) n xs) : w.heap[g]? = some (.cells xs.toArray e (0, 0)) := by
  rcases h.2 with ⟨h0, _⟩ | ⟨g', cap, cur, hv, _, hh, _, _, hsz, htk⟩
  · simp at h0
  · simp only [Value.slice.injEq, Option.some.injEq, Addr.mk.injEq, and_true, true_and] at hv
    obtain ⟨rfl, rfl⟩ := hv
    rw [List.take_of_length_le (by simp; omega)] at htk
    rw [hh, ← htk]

theorem rep_step {z : Int} {n k m : Nat} {cur : List Value} (hl : cur.length = n) (ht : cur.take k = List.replicate k (Value.int .i64 z)) (hkm : k + m ≤ n) :
    (splice cur k (List.replicate m (Value.int .i64 z))).length = n ∧ (splice cur k (List.replicate m (Value.int .i64 z))).take (k + m) = List.replicate (k + m) (Value.int .i64 z) := by
  unfold splice
  rw [ht]
  refine ⟨by simp; omega, ?_⟩
  rw [← List.append_assoc, List.take_left' (by simp), ← List.replicate_append_replicate]

set_option maxRecDepth 20000 in
theorem repeat_any (h hc : Nat) (z : Int) (n : Nat) (hn1 : 1 ≤ n) (hn : n ≤ 4096) (w : World) (hcell : w.cell? ⟨h, 0, none⟩ = some (.int .i64 z)) :
    Calls Try.prog 144 #[.slice (some ⟨h, 0, none⟩) 1 hc, .int .i64 n] w (IntsRet w (List.replicate n z)) := by
  have hM : Calls Try.prog 183 #[.int .u64 1, .int .u64 n] w fun e w' => e = .returned (.tuple #[.int .u64 0, .int .u64 n]) ∧ w = w' := by
    refine (bits_Mul 1 n (by omega) (by omega) w).mono ?_
    rintro e w' ⟨rfl, rfl⟩
    refine ⟨?_, rfl⟩
    rw [show 1 * n / 18446744073709551616 = 0 by omega, show 1 * n % 18446744073709551616 = n by omega]
    rfl
  have HM := hide hM
  clear hM
  have hlt := World.block_lt_of_cell? w _ hcell
  have hmin : [Value.int .i64 z].length = Nat.min 1 n := by simp [Nat.min_eq_left hn1]
  have HMIN := Lib.hid hmin
  clear hmin
  go_enter Try.func144, Try.ntmps144
  go_wp2_with first
    | (go_at_call 183; refine (unhide HM).mono ?_; rintro e w' ⟨rfl, rfl⟩)
    | (at_make; refine wpList_make_ints rfl _ _ rfl n (by omega) rfl rfl rfl rfl ?_; intro w1 hown hb; have hg := Lib.hid (own_lit hown); have hc1 := (hb.cell (p := ⟨h, 0, none⟩) hlt).trans hcell)
    | (refine wpList_copy_splice rfl (.tmp 31) (.tmp 32) 26 26 rfl 3 Try.underlying26 (by kernel_rfl) _ _ _ _ _ _ rfl rfl w.heap.size 0 _ 3 hg.out [.int .i64 z] HMIN.out ?_ ?_ ?_ w.heap.size w hb (Nat.le_refl _) ?_)
  · intro j v hj
    match j, hj with
    | 0, hj => simp at hj; subst hj; exact hc1
  · simp; omega
  · simp [Value.oneCell']
  intro w2 hg2 hb2
  go_wp2_with fail
  have h1 : ((splice (List.replicate n (Value.int IntKind.i64 0)) 0 [Value.int IntKind.i64 z]).length = n ∧ (splice (List.replicate n (Value.int IntKind.i64 0)) 0 [Value.int IntKind.i64 z]).take 1 = List.replicate 1 (Value.int .i64 z)) :=
    rep_step (k := 0) (m := 1) (by simp) rfl (by omega)
  have H1 := Lib.hid h1
  clear h1 hg hown hb hc1 hcell HM HMIN
  go_loopg [8] (n - 1) (fun r s8 wr => ∃ (k : Nat) (cur : List Value), k + r = n ∧ s8 = .int .i64 (k : Nat) ∧ 1 ≤ k ∧ cur.length = n ∧ cur.take k = List.replicate k (Value.int .i64 z) ∧ wr.heap[w.heap.size]? = some (.cells cur.toArray 3 (0, 0)) ∧ Below w.heap.size w wr)
  case atStart => exact ⟨1, _, by omega, rfl, by omega, H1.out.1, H1.out.2, hg2.out, hb2⟩
  case round =>
    clear hg2 hb2 H1
    obtain ⟨k, cur, hk, rfl, hk1, hl, ht, hg, hb⟩ := hrel
    have HK := Lib.hid hk
    have HL := Lib.hid hl
    have HT := Lib.hid ht
    have HG := Lib.hid hg
    clear hk hl ht hg
    by_cases hkn : k < n
    · go_wp2_with fail
      obtain ⟨m, hm⟩ : ∃ m, m = Nat.min k (n - k) := ⟨_, rfl⟩
      have HMM := Lib.hid hm
      have hms : m = k ∨ m = n - k := by
        rw [hm]
        rcases Nat.le_total k (n - k) with h | h
        · exact .inl (Nat.min_eq_left h)
        · exact .inr (Nat.min_eq_right h)
      have hm2 : k + m ≤ n := by have : m ≤ n - k := by rw [hm]; exact Nat.min_le_right _ _
                                 omega
      have hm1 : m ≤ k := by rw [hm]; exact Nat.min_le_left _ _
      have hm0 : 1 ≤ m := by omega
      have hkn2 : k ≤ n := by omega
      have hnk : ¬ n = k := by omega
      clear hm hms
      have hlen : (List.replicate m (Value.int .i64 z)).length = Nat.min k (n - k) := by rw [List.length_replicate]; exact HMM.out
      have HLN := Lib.hid hlen
      have hsrc : ∀ j v, (List.replicate m (Value.int .i64 z))[j]? = some v → wr.drew.cell? ((⟨w.heap.size, 0, none⟩ : Addr).add j) = some v := by
        intro j v hj
        have hjm : j < m := by have := (List.getElem?_eq_some_iff.1 hj).1; simpa using this
        have h1 : cur[j]? = (List.replicate k (Value.int .i64 z))[j]? := by rw [← HT.out, List.getElem?_take_of_lt (by omega)]
        rw [List.getElem?_replicate, if_pos hjm] at hj
        rw [List.getElem?_replicate, if_pos (by omega), hj] at h1
        have h2 : wr.cell? ⟨w.heap.size, j, none⟩ = cur.toArray[j]? := cell_of_row wr w.heap.size j cur.toArray 3 (0, 0) HG.out
        rw [show (⟨w.heap.size, 0, none⟩ : Addr).add j = ⟨w.heap.size, j, none⟩ by unfold Addr.add; split <;> simp_all]
        show wr.cell? _ = _
        rw [h2]; simpa using h1
      have HSRC := Lib.hid hsrc
      have hfit : k + (List.replicate m (Value.int .i64 z)).length ≤ cur.length := by rw [List.length_replicate, HL.out]; exact hm2
      have HF := Lib.hid hfit
      have hone : ∀ v ∈ List.replicate m (Value.int .i64 z), v.oneCell' = true := by
        intro v hv
        rw [List.eq_of_mem_replicate hv]; rfl
      have HO := Lib.hid hone
      clear hlen hsrc hfit hone
      go_region_law (refine step_copy_splice rfl (.tmp 41) (.tmp 44) 26 26 rfl 3 Try.underlying26 (by kernel_rfl) (some ⟨w.heap.size, k, none⟩) (some ⟨w.heap.size, 0, none⟩) (n - k) (n - k) k n (by simp [Act.eval, Act.put]) (by simp [Act.eval, Act.put]) w.heap.size k _ 3 HG.out (List.replicate m (Value.int .i64 z)) HLN.out (fun _ => ⟨rfl, _, rfl, HSRC.out⟩) HF.out HO.out w.heap.size w hb.drew (Nat.le_refl _) ?_; intro w4 hg4 hb4)
      go_wp2_with fail
      go_roundg (n - (k + m))
      case measure => have := HK.out; omega
      case rel =>
        have hs := rep_step HL.out HT.out hm2
        exact ⟨k + m, _, by have := HK.out; omega, by simp; exact IntWalk.i64_in _ (by omega), by omega, hs.1, hs.2, hg4.out, hb4⟩
    · go_wp2_with fail
      go_ret
      obtain rfl : k = n := by have := HK.out; omega
      have e : cur = (List.replicate k z).map (Value.int .i64) := by
        have := HT.out
        rw [List.take_of_length_le (by rw [HL.out]; omega)] at this
        rw [this, List.map_replicate]
      refine ⟨w.heap.size, by simp, ?_, hb⟩
      have := own_whole (base := w.heap.size) HL.out (Nat.le_refl _) (by simp only [maxLen]; omega) HG.out
      rw [e] at this
      simpa using this

theorem clip_any (A : Option Addr) (n c : Nat) (hc : n ≤ c) (_hn : c ≤ 9223372036854775807) (w : World) :
    Calls Try.prog 155 #[.slice A n c] w fun e w' => e = .returned (.slice A n n) ∧ w = w' := by
  go_enter Try.func155, Try.ntmps155
  go_wp2_with fail
  go_ret
  exact ⟨rfl, rfl⟩

/-- A fresh row of numbers, perhaps with room behind it that the slice does not name. -/
def ClipInts (w : World) (L : List Int) (e : Ending) (w' : World) : Prop :=
  ∃ A c, e = .returned (.slice A L.length L.length) ∧ w'.ownsRow w.heap.size 3 1 (.slice A L.length c) L.length (L.map (Value.int .i64)) ∧ Below w.heap.size w w'

/-- An address at the head of a row's cell, not inside of one. -/
def Plain (A : Option Addr) : Prop := A = none ∨ ∃ b o, A = some ⟨b, o, none⟩

theorem cloneS_any (A : Option Addr) (c B : Nat) (L : List Int) (w : World) (hA : Plain A) (hr : Reads w B 1 A L.length (L.map (Value.int .i64))) (hn : L.length ≤ 1048576) :
    Calls Try.prog 159 #[.slice A L.length c] w fun e w' => ∃ A' c', L.length ≤ c' ∧ c' ≤ 9223372036854775807 ∧ e = .returned (.slice A' L.length c') ∧ w'.ownsRow w.heap.size 3 1 (.slice A' L.length c') L.length (L.map (Value.int .i64)) ∧ Below w.heap.size w w' := by
  rcases hA with rfl | ⟨b, o, rfl⟩
  · have h0 : L = [] := by
      rcases Nat.eq_zero_or_pos L.length with h | h
      · exact List.eq_nil_of_length_eq_zero h
      · obtain ⟨ad, h, _⟩ := hr.2 h
        cases h
    subst h0
    refine (slices_Clone_int_nil _ c w).mono ?_
    rintro e w' ⟨rfl, rfl⟩
    exact ⟨none, 0, by simp, by omega, rfl, ⟨rfl, .inl ⟨rfl, rfl⟩⟩, Below.refl _ _⟩
  · rcases Nat.eq_zero_or_pos L.length with h | h
    · have h0 : L = [] := List.eq_nil_of_length_eq_zero h
      subst h0
      refine (slices_Clone_int_zero _ c w).mono ?_
      rintro e w' ⟨v', rfl, ho, hne, hb⟩
      rcases ho.2 with ⟨rfl, _⟩ | ⟨g, cap, cur, rfl, h1, h2, h3, h4, h5⟩
      · exact absurd rfl hne
      · exact ⟨_, cap, h3, h4, rfl, ho, hb⟩
    · have hc : ∀ j, j < L.length → w.cell? ⟨b, o + j, none⟩ = some (.int .i64 (L.getD j 0)) := by
        intro j hj
        obtain ⟨ad, e, _, hcell⟩ := hr.getI hj
        injection e with e
        subst e
        rw [← hcell]
        unfold Addr.add
        split <;> simp_all
      refine (slices_Clone_int b o L.length c L w (Nat.le_refl _) (by omega) hc).mono ?_
      rintro e w' ⟨v', rfl, ho, hne, hb⟩
      rw [List.take_length] at ho
      rcases ho.2 with ⟨rfl, _⟩ | ⟨g, cap, cur, rfl, h1, h2, h3, h4, h5⟩
      · exact absurd rfl hne
      · exact ⟨_, cap, h3, h4, rfl, ho, hb⟩

theorem clone_any (A : Option Addr) (c B : Nat) (L : List Int) (w : World) (hA : Plain A) (hr : Reads w B 1 A L.length (L.map (Value.int .i64))) (hn : L.length ≤ 1048576) :
    Calls Try.prog 101 #[.slice A L.length c] w (ClipInts w L) := by
  have HC := hide (cloneS_any A c B L w hA hr hn)
  go_enter Try.func101, Try.ntmps101
  go_wp2_with first
    | (go_at_call 159; refine (unhide HC).mono ?_; rintro e w1 ⟨A', c', h1, h2, rfl, ho, hb⟩)
    | (go_at_call 155; refine (clip_any A' L.length c' h1 h2 _).mono ?_; rintro e w2 ⟨rfl, rfl⟩)
  go_ret
  exact ⟨A', c', rfl, ho, hb⟩

end Go.Proofs.Ythepfpiphlfgnaa
