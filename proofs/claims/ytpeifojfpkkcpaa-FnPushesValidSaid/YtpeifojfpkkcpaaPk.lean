/-
  YtpeifojfpkkcpaaPk: one of two heights for each corner; equal lists.
-/
import Derived.Test.YtpeifojfpkkcpaaEx
import Derived.StillTailTactics
namespace Go.Proofs.Ytpeifojfpkkcpaa
open Go.RowKit

theorem zip_at {f : Int → Int → Int} {L M : List Int} {k : Nat} (hl : k < L.length) (hm : k < M.length) : (List.zipWith f L M)[k]? = some (f (L.getD k 0) (M.getD k 0)) := by
  rw [List.getElem?_zipWith, List.getElem?_eq_getElem hl, List.getElem?_eq_getElem hm, List.getD_eq_getElem?_getD, List.getD_eq_getElem?_getD, List.getElem?_eq_getElem hl, List.getElem?_eq_getElem hm]
  rfl
theorem zip_len {f : Int → Int → Int} {L M : List Int} (h : L.length = M.length) : (List.zipWith f L M).length = L.length := by rw [List.length_zipWith, h, Nat.min_self]
def dif (x y : Int) : Int := max (x - y) (y - x)
theorem dif_of (x y : Int) : max (x - y) (y - x) = dif x y := rfl

theorem lesser_any (x y : Int) (w : World) : Calls Try.prog 120 #[.int .i64 x, .int .i64 y] w fun e w' => e = .returned (.int .i64 (min x y)) ∧ w' = w := by
  go_enter Try.func120, Try.ntmps120
  go_wp2_with fail
  all_goals go_ret
  all_goals exact ⟨ret_int (by omega), rfl⟩

set_option maxRecDepth 100000 in
set_option maxHeartbeats 400000 in
theorem pick_lesser (A D : Option Addr) (c d B : Nat) (L M : List Int) (n : Nat) (hLn : L.length = n) (hMn : M.length = n) (hn : n ≤ 1048576) (w : World) (hr : Reads w B 1 A n (L.map (Value.int .i64))) (hd : Reads w B 1 D n (M.map (Value.int .i64))) (hB : B ≤ w.heap.size) :
    Calls Try.prog 102 #[.slice A n c, .slice D n d, .func (.func 120) #[] #[]] w (IntsRet w (List.zipWith min L M)) := by
  have hzl : (List.zipWith min L M).length = n := by rw [zip_len (by rw [hLn, hMn]), hLn]
  have HZL := Lib.hid hzl
  have HLn := Lib.hid hLn
  have HMn := Lib.hid hMn
  clear hzl hLn hMn
  go_enter Try.func102, Try.ntmps102
  go_wp2_with (at_make; refine wpList_make_ints rfl _ _ rfl n (by omega) rfl rfl rfl rfl ?_; intro w1 hown hb)
  go_loopg [14] n (fun r s14 wr => ∃ (k : Nat) (O : List Int), k + r = n ∧ s14 = .int .i64 (k : Nat) ∧ O.length = (List.zipWith min L M).length ∧ (∀ j, j < k → O[j]? = (List.zipWith min L M)[j]?) ∧ wr.ownsRow w.heap.size 3 1 (.slice (some ⟨w.heap.size, 0, none⟩) n n) n (O.map (Value.int .i64)) ∧ Below w.heap.size w wr)
  case atStart => exact ⟨0, _, by omega, rfl, by rw [HZL.out]; simp, fun j hj => absurd hj (by omega), hown, hb⟩
  case round =>
    clear hown hb
    obtain ⟨k, O, hk, rfl, hl, hO, hown, hb⟩ := hrel
    have HK := Lib.hid hk
    have HL := Lib.hid hl
    have HO := Lib.hid hO
    clear hk hl hO
    by_cases hlt : k < n
    · obtain ⟨a1, rfl, hab, hc1⟩ := (hr.below (hb.mono hB)).getI hlt
      obtain ⟨a2, rfl, hab2, hc2⟩ := (hd.below (hb.mono hB)).getI hlt
      have hz := zip_at (f := min) (L := L) (M := M) (k := k) (by rw [HLn.out]; exact hlt) (by rw [HMn.out]; exact hlt)
      generalize L.getD k 0 = x at *
      generalize M.getD k 0 = y at *
      obtain ⟨o0, ho0⟩ : ∃ o, O[k]? = some o := ⟨_, List.getElem?_eq_getElem (by rw [HL.out, HZL.out]; exact hlt)⟩
      have hoc := hown.cellAt k (by omega)
      rw [map_some ho0] at hoc
      have hof := hown.frozenAt k
      have HZ := Lib.hid hz
      have hop := fun w' => hide (lesser_any x y w')
      have hown2 := hown.stored k (.int .i64 (min x y))
      clear hz ho0
      generalize hzv : min x y = zv at *
      clear hzv
      go_upto_region 5 with fail
      refine wp_region_still_tail 13 (by kernel_rfl) (by kernel_rfl) ?_
      simp only [List.take_succ_cons, List.take_zero, List.drop_succ_cons, List.drop_zero]
      still_step
      still_step
      still_step
      still_step
      still_step
      still_step
      still_step
      still_step
      still_step
      still_step
      still_step
      still_call (unhide (hop _))
      still_step
      refine wpStill_nil ?_
      change wpList _ _ _ _ _ wr.drew
      go_wp2_with fail
      go_roundg (n - (k + 1))
      case measure => have := HK.out; omega
      case rel =>
        have hs := set_next HL.out HZ.out HO.out
        have ho := hown2.1
        rw [← List.map_set] at ho
        exact ⟨k + 1, O.set k zv, by have := HK.out; omega, by go_num, hs.1, hs.2, ho, (hb.setCell (by simp) _).drew⟩
    · go_wp2_with fail
      go_ret
      obtain rfl : k = n := by have := HK.out; omega
      have := list_all HL.out (fun i hi => HO.out i (by rw [HZL.out] at hi; exact hi))
      subst this
      refine ⟨w.heap.size, by rw [HZL.out]; rfl, ?_, hb⟩
      rw [HZL.out]
      exact hown

theorem greater_any (x y : Int) (w : World) : Calls Try.prog 118 #[.int .i64 x, .int .i64 y] w fun e w' => e = .returned (.int .i64 (max x y)) ∧ w' = w := by
  go_enter Try.func118, Try.ntmps118
  go_wp2_with fail
  all_goals go_ret
  all_goals exact ⟨ret_int (by omega), rfl⟩

set_option maxRecDepth 100000 in
set_option maxHeartbeats 400000 in
theorem pick_greater (A D : Option Addr) (c d B : Nat) (L M : List Int) (n : Nat) (hLn : L.length = n) (hMn : M.length = n) (hn : n ≤ 1048576) (w : World) (hr : Reads w B 1 A n (L.map (Value.int .i64))) (hd : Reads w B 1 D n (M.map (Value.int .i64))) (hB : B ≤ w.heap.size) :
    Calls Try.prog 102 #[.slice A n c, .slice D n d, .func (.func 118) #[] #[]] w (IntsRet w (List.zipWith max L M)) := by
  have hzl : (List.zipWith max L M).length = n := by rw [zip_len (by rw [hLn, hMn]), hLn]
  have HZL := Lib.hid hzl
  have HLn := Lib.hid hLn
  have HMn := Lib.hid hMn
  clear hzl hLn hMn
  go_enter Try.func102, Try.ntmps102
  go_wp2_with (at_make; refine wpList_make_ints rfl _ _ rfl n (by omega) rfl rfl rfl rfl ?_; intro w1 hown hb)
  go_loopg [14] n (fun r s14 wr => ∃ (k : Nat) (O : List Int), k + r = n ∧ s14 = .int .i64 (k : Nat) ∧ O.length = (List.zipWith max L M).length ∧ (∀ j, j < k → O[j]? = (List.zipWith max L M)[j]?) ∧ wr.ownsRow w.heap.size 3 1 (.slice (some ⟨w.heap.size, 0, none⟩) n n) n (O.map (Value.int .i64)) ∧ Below w.heap.size w wr)
  case atStart => exact ⟨0, _, by omega, rfl, by rw [HZL.out]; simp, fun j hj => absurd hj (by omega), hown, hb⟩
  case round =>
    clear hown hb
    obtain ⟨k, O, hk, rfl, hl, hO, hown, hb⟩ := hrel
    have HK := Lib.hid hk
    have HL := Lib.hid hl
    have HO := Lib.hid hO
    clear hk hl hO
    by_cases hlt : k < n
    · obtain ⟨a1, rfl, hab, hc1⟩ := (hr.below (hb.mono hB)).getI hlt
      obtain ⟨a2, rfl, hab2, hc2⟩ := (hd.below (hb.mono hB)).getI hlt
      have hz := zip_at (f := max) (L := L) (M := M) (k := k) (by rw [HLn.out]; exact hlt) (by rw [HMn.out]; exact hlt)
      generalize L.getD k 0 = x at *
      generalize M.getD k 0 = y at *
      obtain ⟨o0, ho0⟩ : ∃ o, O[k]? = some o := ⟨_, List.getElem?_eq_getElem (by rw [HL.out, HZL.out]; exact hlt)⟩
      have hoc := hown.cellAt k (by omega)
      rw [map_some ho0] at hoc
      have hof := hown.frozenAt k
      have HZ := Lib.hid hz
      have hop := fun w' => hide (greater_any x y w')
      have hown2 := hown.stored k (.int .i64 (max x y))
      clear hz ho0
      generalize hzv : max x y = zv at *
      clear hzv
      go_upto_region 5 with fail
      refine wp_region_still_tail 13 (by kernel_rfl) (by kernel_rfl) ?_
      simp only [List.take_succ_cons, List.take_zero, List.drop_succ_cons, List.drop_zero]
      still_step
      still_step
      still_step
      still_step
      still_step
      still_step
      still_step
      still_step
      still_step
      still_step
      still_step
      still_call (unhide (hop _))
      still_step
      refine wpStill_nil ?_
      change wpList _ _ _ _ _ wr.drew
      go_wp2_with fail
      go_roundg (n - (k + 1))
      case measure => have := HK.out; omega
      case rel =>
        have hs := set_next HL.out HZ.out HO.out
        have ho := hown2.1
        rw [← List.map_set] at ho
        exact ⟨k + 1, O.set k zv, by have := HK.out; omega, by go_num, hs.1, hs.2, ho, (hb.setCell (by simp) _).drew⟩
    · go_wp2_with fail
      go_ret
      obtain rfl : k = n := by have := HK.out; omega
      have := list_all HL.out (fun i hi => HO.out i (by rw [HZL.out] at hi; exact hi))
      subst this
      refine ⟨w.heap.size, by rw [HZL.out]; rfl, ?_, hb⟩
      rw [HZL.out]
      exact hown

theorem dif_any (x y : Int) (hx : -1000 ≤ x ∧ x ≤ 1000) (hy : -1000 ≤ y ∧ y ≤ 1000) (w : World) : Calls Try.prog 104 #[.int .i64 x, .int .i64 y] w fun e w' => e = .returned (.int .i64 (dif x y)) ∧ w' = w := by
  obtain ⟨hx1, hx2⟩ := hx
  obtain ⟨hy1, hy2⟩ := hy
  go_enter Try.func104, Try.ntmps104
  go_wp2_with fail
  all_goals go_ret
  all_goals exact ⟨ret_int (by unfold dif; omega), rfl⟩

set_option maxRecDepth 100000 in
set_option maxHeartbeats 400000 in
theorem pick_dif (A D : Option Addr) (c d B : Nat) (L M : List Int) (n : Nat) (hLn : L.length = n) (hMn : M.length = n) (hn : n ≤ 1048576) (hL : ∀ z ∈ L, -1000 ≤ z ∧ z ≤ 1000) (hM : ∀ z ∈ M, -1000 ≤ z ∧ z ≤ 1000) (w : World) (hr : Reads w B 1 A n (L.map (Value.int .i64))) (hd : Reads w B 1 D n (M.map (Value.int .i64))) (hB : B ≤ w.heap.size) :
    Calls Try.prog 102 #[.slice A n c, .slice D n d, .func (.func 104) #[] #[]] w (IntsRet w (List.zipWith dif L M)) := by
  have hzl : (List.zipWith dif L M).length = n := by rw [zip_len (by rw [hLn, hMn]), hLn]
  have HZL := Lib.hid hzl
  have HLn := Lib.hid hLn
  have HMn := Lib.hid hMn
  clear hzl hLn hMn
  go_enter Try.func102, Try.ntmps102
  go_wp2_with (at_make; refine wpList_make_ints rfl _ _ rfl n (by omega) rfl rfl rfl rfl ?_; intro w1 hown hb)
  go_loopg [14] n (fun r s14 wr => ∃ (k : Nat) (O : List Int), k + r = n ∧ s14 = .int .i64 (k : Nat) ∧ O.length = (List.zipWith dif L M).length ∧ (∀ j, j < k → O[j]? = (List.zipWith dif L M)[j]?) ∧ wr.ownsRow w.heap.size 3 1 (.slice (some ⟨w.heap.size, 0, none⟩) n n) n (O.map (Value.int .i64)) ∧ Below w.heap.size w wr)
  case atStart => exact ⟨0, _, by omega, rfl, by rw [HZL.out]; simp, fun j hj => absurd hj (by omega), hown, hb⟩
  case round =>
    clear hown hb
    obtain ⟨k, O, hk, rfl, hl, hO, hown, hb⟩ := hrel
    have HK := Lib.hid hk
    have HL := Lib.hid hl
    have HO := Lib.hid hO
    clear hk hl hO
    by_cases hlt : k < n
    · obtain ⟨a1, rfl, hab, hc1⟩ := (hr.below (hb.mono hB)).getI hlt
      obtain ⟨a2, rfl, hab2, hc2⟩ := (hd.below (hb.mono hB)).getI hlt
      have hz := zip_at (f := dif) (L := L) (M := M) (k := k) (by rw [HLn.out]; exact hlt) (by rw [HMn.out]; exact hlt)
      have hx : -1000 ≤ L.getD k 0 ∧ L.getD k 0 ≤ 1000 := by
        rw [List.getD_eq_getElem?_getD, List.getElem?_eq_getElem (show k < L.length by rw [HLn.out]; exact hlt)]
        exact hL _ (List.getElem_mem _)
      have hy : -1000 ≤ M.getD k 0 ∧ M.getD k 0 ≤ 1000 := by
        rw [List.getD_eq_getElem?_getD, List.getElem?_eq_getElem (show k < M.length by rw [HMn.out]; exact hlt)]
        exact hM _ (List.getElem_mem _)
      generalize L.getD k 0 = x at *
      generalize M.getD k 0 = y at *
      obtain ⟨o0, ho0⟩ : ∃ o, O[k]? = some o := ⟨_, List.getElem?_eq_getElem (by rw [HL.out, HZL.out]; exact hlt)⟩
      have hoc := hown.cellAt k (by omega)
      rw [map_some ho0] at hoc
      have hof := hown.frozenAt k
      have HZ := Lib.hid hz
      have hop := fun w' => hide (dif_any x y hx hy w')
      have hown2 := hown.stored k (.int .i64 (dif x y))
      clear hz ho0
      generalize hzv : dif x y = zv at *
      clear hzv
      go_upto_region 5 with fail
      refine wp_region_still_tail 13 (by kernel_rfl) (by kernel_rfl) ?_
      simp only [List.take_succ_cons, List.take_zero, List.drop_succ_cons, List.drop_zero]
      still_step
      still_step
      still_step
      still_step
      still_step
      still_step
      still_step
      still_step
      still_step
      still_step
      still_step
      still_call (unhide (hop _))
      still_step
      refine wpStill_nil ?_
      change wpList _ _ _ _ _ wr.drew
      go_wp2_with fail
      go_roundg (n - (k + 1))
      case measure => have := HK.out; omega
      case rel =>
        have hs := set_next HL.out HZ.out HO.out
        have ho := hown2.1
        rw [← List.map_set] at ho
        exact ⟨k + 1, O.set k zv, by have := HK.out; omega, by go_num, hs.1, hs.2, ho, (hb.setCell (by simp) _).drew⟩
    · go_wp2_with fail
      go_ret
      obtain rfl : k = n := by have := HK.out; omega
      have := list_all HL.out (fun i hi => HO.out i (by rw [HZL.out] at hi; exact hi))
      subst this
      refine ⟨w.heap.size, by rw [HZL.out]; rfl, ?_, hb⟩
      rw [HZL.out]
      exact hown

end Go.Proofs.Ytpeifojfpkkcpaa
