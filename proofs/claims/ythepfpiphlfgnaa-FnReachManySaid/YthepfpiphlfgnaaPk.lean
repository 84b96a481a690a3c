/-
  YthepfpiphlfgnaaPk: one of two heights for each corner; equal lists.
-/
import Derived.Test.YthepfpiphlfgnaaEx
import Derived.StillTailTactics
namespace Go.Proofs.Ythepfpiphlfgnaa
open Go.RowKit

theorem zip_at {f : Int → Int → Int} {L M : List Int} {k : Nat} (hl : k < L.length) (hm : k < M.length) : (List.zipWith f L M)[k]? = some (f (L.getD k 0) (M.getD k 0)) := by
  rw [List.getElem?_zipWith, List.getElem?_eq_getElem hl, List.getElem?_eq_getElem hm, List.getD_eq_getElem?_getD, List.getD_eq_getElem?_getD, List.getElem?_eq_getElem hl, List.getElem?_eq_getElem hm]
  rfl
theorem zip_len {f : Int → Int → Int} {L M : List Int} (h : L.length = M.length) : (List.zipWith f L M).length = L.length := by rw [List.length_zipWith, h, Nat.min_self]
def dif (x y : Int) : Int := max (x - y) (y - x)
theorem dif_of (x y : Int) : max (x - y) (y - x) = dif x y := rfl

theorem lesser_any (x y : Int) (w : World) : Calls Try.prog 66 #[.int .i64 x, .int .i64 y] w fun e w' => e = .returned (.int .i64 (min x y)) ∧ w' = w := by
  go_enter Try.func66, Try.ntmps66
  go_wp2_with fail
  all_goals go_ret
  all_goals exact ⟨ret_int (by omega), rfl⟩

set_option maxRecDepth 100000 in
set_option maxHeartbeats 400000 in
theorem pick_lesser (A D : Option Addr) (c d B : Nat) (L M : List Int) (n : Nat) (hLn : L.length = n) (hMn : M.length = n) (hn : n ≤ 1048576) (w : World) (hr : Reads w B 1 A n (L.map (Value.int .i64))) (hd : Reads w B 1 D n (M.map (Value.int .i64))) (hB : B ≤ w.heap.size) :
    Calls Try.prog 82 #[.slice A n c, .slice D n d, .func (.func 66) #[] #[]] w (IntsRet w (List.zipWith min L M)) := by
  have hzl : (List.zipWith min L M).length = n := by rw [zip_len (by rw [hLn, hMn]), hLn]
  have HZL := Lib.hid hzl
  have HLn := Lib.hid hLn
  have HMn := Lib.hid hMn
  clear hzl hLn hMn
  go_enter Try.func82, Try.ntmps82
  go_wp2_with (at_make; refine wpList_make_ints rfl _ _ rfl n (by omega) rfl rfl rfl rfl ?_; intro w1 hown hb)
  go_loopg [14] n (fun r s14 wr => ∃ (k : Nat) (O : List Int), k + r = n ∧ s14 = .int .i64 (k : Nat) ∧ O.length = (List.zipWith min L M).length ∧ (∀ j, j < k → O[j]? = (List.zipWith min L M)[j]?) ∧ wr.ownsRow w.heap.size 3 1 (.slice (some ⟨w.heap.size, 0, none⟩) n n) n (O.map (Value.int .i64)) ∧ Below w.heap.size w wr)
  case atStart => exact ⟨0, _, by omega, rfl, by rw [HZL.out]; simp, fun j hj => absurd hj (by omega), hown, hb⟩
  case round =>
    clear hown hb
    obtain ⟨k, O, hk, rfl, hl, hO, hown, hb⟩ := hrel
    have HK := Lib.hid hk
    have HL := Lib.hid hl
    have HO := Lib.hid hO
    clear hk hl hO
    by_cases hlt : k < n
    · obtain ⟨a1, rfl, hab, hc1⟩ := (hr.below (hb.mono hB)).getI hlt
      obtain ⟨a2, rfl, hab2, hc2⟩ := (hd.below (hb.mono hB)).getI hlt
      have hz := zip_at (f := min) (L := L) (M := M) (k := k) (by rw [HLn.out]; exact hlt) (by rw [HMn.out]; exact hlt)
      generalize L.getD k 0 = x at *
      generalize M.getD k 0 = y at *
      obtain ⟨o0, ho0⟩ : ∃ o, O[k]? = some o := ⟨_, List.getElem?_eq_getElem (by rw [HL.out, HZL.out]; exact hlt)⟩
      have hoc := hown.cellAt k (by omega)
      rw [map_some ho0] at hoc
      have hof := hown.frozenAt k
      have HZ := Lib.hid hz
      have hop := fun w' => hide (lesser_any x y w')
      have hown2 := hown.stored k (.int .i64 (min x y))
      clear hz ho0
      generalize hzv : min x y = zv at *
      clear hzv
      go_upto_region 5 with fail
      refine wp_region_still_tail 13 (by kernel_rfl) (by kernel_rfl) ?_
      simp only [List.take_succ_cons, List.take_zero, List.drop_succ_cons, List.drop_zero]
      still_step
      still_step
      still_step
      still_step
      still_step
      still_step
      still_step
      still_step
      still_step
      still_step
      still_step
      still_call (unhide (hop _))
      still_step
      refine wpStill_nil ?_
      change wpList _ _ _ _ _ wr.drew
      go_wp2_with fail
      go_roundg (n - (k + 1))
      case measure => have := HK.out; omega
      case rel =>
        have hs := set_next HL.out HZ.out HO.out
        have ho := hown2.1
        rw [← List.map_set] at ho
        exact ⟨k + 1, O.set k zv, by have := HK.out; omega, by go_num, hs.1, hs.2, ho, (hb.setCell (by simp) _).drew⟩
    · go_wp2_with fail
      go_ret
      obtain rfl : k = n := by have := HK.out; omega
      have := list_all HL.out (fun i hi => HO.out i (by rw [HZL.out] at hi; exact hi))
      subst this
      refine ⟨w.heap.size, by rw [HZL.out]; rfl, ?_, hb⟩
      rw [HZL.out]
      exact hown

theorem greater_any (x y : Int) (w : World) : Calls Try.prog 76 #[.int .i64 x, .int .i64 y] w fun e w' => e = .returned (.int .i64 (max x y)) ∧ w' = w := by
  go_enter Try.func76, Try.ntmps76
  go_wp2_with fail
  all_goals go_ret
  all_goals exact ⟨ret_int (by omega), rfl⟩

set_option maxRecDepth 100000 in
set_option maxHeartbeats 400000 in
theorem pick_greater (A D : Option Addr) (c d B : Nat) (L M : List Int) (n : Nat) (hLn : L.length = n) (hMn : M.length = n) (hn : n ≤ 1048576) (w : World) (hr : Reads w B 1 A n (L.map (Value.int .i64))) (hd : Reads w B 1 D n (M.map (Value.int .i64))) (hB : B ≤ w.heap.size) :
    Calls Try.prog 82 #[.slice A n c, .slice D n d, .func (.func 76) #[] #[]] w (IntsRet w (List.zipWith max L M)) := by
  have hzl : (List.zipWith max L M).length = n := by rw [zip_len (by rw [hLn, hMn]), hLn]
  have HZL := Lib.hid hzl
  have HLn := Lib.hid hLn
  have HMn := Lib.hid hMn
  clear hzl hLn hMn
  go_enter Try.func82, Try.ntmps82
  go_wp2_with (at_make; refine wpList_make_ints rfl _ _ rfl n (by omega) rfl rfl rfl rfl ?_; intro w1 hown hb)
  go_loopg [14] n (fun r s14 wr => ∃ (k : Nat) (O : List Int), k + r = n ∧ s14 = .int .i64 (k : Nat) ∧ O.length = (List.zipWith max L M).length ∧ (∀ j, j < k → O[j]? = (List.zipWith max L M)[j]?) ∧ wr.ownsRow w.heap.size 3 1 (.slice (some ⟨w.heap.size, 0, none⟩) n n) n (O.map (Value.int .i64)) ∧ Below w.heap.size w wr)
  case atStart => exact ⟨0, _, by omega, rfl, by rw [HZL.out]; simp, fun j hj => absurd hj (by omega), hown, hb⟩
  case round =>
    clear hown hb
    obtain ⟨k, O, hk, rfl, hl, hO, hown, hb⟩ := hrel
    have HK := Lib.hid hk
    have HL := Lib.hid hl
    have HO := Lib.hid hO
    clear hk hl hO
    by_cases hlt : k < n
    · obtain ⟨a1, rfl, hab, hc1⟩ := (hr.below (hb.mono hB)).getI hlt
      obtain ⟨a2, rfl, hab2, hc2⟩ := (hd.below (hb.mono hB)).getI hlt
      have hz := zip_at (f := max) (L := L) (M := M) (k := k) (by rw [HLn.out]; exact hlt) (by rw [HMn.out]; exact hlt)
      generalize L.getD k 0 = x at *
      generalize M.getD k 0 = y at *
      obtain ⟨o0, ho0⟩ : ∃ o, O[k]? = some o := ⟨_, List.getElem?_eq_getElem (by rw [HL.out, HZL.out]; exact hlt)⟩
      have hoc := hown.cellAt k (by omega)
      rw [map_some ho0] at hoc
      have hof := hown.frozenAt k
      have HZ := Lib.hid hz
      have hop := fun w' => hide (greater_any x y w')
      have hown2 := hown.stored k (.int .i64 (max x y))
      clear hz ho0
      generalize hzv : max x y = zv at *
      clear hzv
      go_upto_region 5 with fail
      refine wp_region_still_tail 13 (by kernel_rfl) (by kernel_rfl) ?_
      simp only [List.take_succ_cons, List.take_zero, List.drop_succ_cons, List.drop_zero]
      still_step
      still_step
      still_step
      still_step
      still_step
      still_step
      still_step
      still_step
      still_step
      still_step
      still_step
      still_call (unhide (hop _))
      still_step
      refine wpStill_nil ?_
      change wpList _ _ _ _ _ wr.drew
      go_wp2_with fail
      go_roundg (n - (k + 1))
      case measure => have := HK.out; omega
      case rel =>
        have hs := set_next HL.out HZ.out HO.out
        have ho := hown2.1
        rw [← List.map_set] at ho
        exact ⟨k + 1, O.set k zv, by have := HK.out; omega, by go_num, hs.1, hs.2, ho, (hb.setCell (by simp) _).drew⟩
    · go_wp2_with fail
      go_ret
      obtain rfl : k = n := by have := HK.out; omega
      have := list_all HL.out (fun i hi => HO.out i (by rw [HZL.out] at hi; exact hi))
      subst this
      refine ⟨w.heap.size, by rw [HZL.out]; rfl, ?_, hb⟩
      rw [HZL.out]
      exact hown

end Go.Proofs.Ythepfpiphlfgnaa
