/-
  YtahpipcmgcambaaHx: the texts Hl, Hh in one file.
-/
import Derived.Deep.RegionHeldLaw
import Derived.Deep.AppendLies
import Derived.Test.YtahpipcmgcambaaHkS
import Derived.Test.YtahpipcmgcambaaPk

/-
  YtahpipcmgcambaaHl: HeightsLow: the program's and the reference's.
-/
namespace Go.Proofs.Ytahpipcmgcambaa
open Go.RowKit

noncomputable def lowL (W T : Int) (bs : List Bool) (a b : List Int) : List Int := if hokB W T bs a = true ∧ hokB W T bs b = true then List.zipWith min a b else []
theorem lowL_a {W T : Int} {bs : List Bool} {a b : List Int} (h : hokB W T bs a = false) : lowL W T bs a b = [] := by unfold lowL; rw [h]; simp
theorem lowL_b {W T : Int} {bs : List Bool} {a b : List Int} (h : hokB W T bs b = false) : lowL W T bs a b = [] := by unfold lowL; rw [h]; simp
theorem lowL_yes {W T : Int} {bs : List Bool} {a b : List Int} (h : hokB W T bs a = true) (h' : hokB W T bs b = true) : lowL W T bs a b = List.zipWith min a b := if_pos ⟨h, h'⟩
theorem lowL_len {W T : Int} {bs : List Bool} {a b : List Int} : (lowL W T bs a b).length ≤ a.length := by
  unfold lowL
  split
  · rw [List.length_zipWith]; omega
  · simp

theorem lowI_any (W T : Int) (A : Option Addr) (n c B : Nat) (bs : List Bool) (L : List Int) (D : Option Addr) (m d : Nat) (M : List Int) (E : Option Addr) (m2 e2 : Nat) (w : World) (hbl : bs.length = n) (hL : L.length = m) (hM : M.length = m2)
    (hr : Reads w B 1 A n (bs.map Value.bool)) (hd : Reads w B 1 D m (L.map (Value.int .i64))) (he : Reads w B 1 E m2 (M.map (Value.int .i64))) (hB : B ≤ w.heap.size) (hn : n ≤ 9223372036854775807) (hm : m ≤ 9223372036854775807) (hm2 : m2 ≤ 9223372036854775807) :
    Calls Try.prog 29 #[.agg #[.int .i64 W, .int .i64 T, .slice A n c], .slice D m d, .slice E m2 e2] w (RetInts w (lowL W T bs L M)) := by
  have hA := hide (hokI_any W T A n c B bs L D m d (w.alloc (boxR W T A n c)) hbl hL (hr.alloc hB _) (hd.alloc hB _) (by simp; omega) hn hm)
  have hE := fun w' (h : Below w.heap.size w w') => hide (hokI_any W T A n c B bs M E m2 e2 w' hbl hM (hr.below (h.mono hB)) (he.below (h.mono hB)) (Nat.le_trans hB h.size) hn hm2)
  have hnil : ∀ w1, Below w.heap.size w w1 → RetInts w [] (.returned (.slice none 0 0)) w1 := fun w1 h => ⟨none, 0, 0, rfl, ⟨rfl, .inl ⟨rfl, rfl⟩⟩, h⟩
  cases h1 : hokB W T bs L with
  | false =>
    rw [h1] at hA
    rw [lowL_a h1]
    clear h1
    go_enter Try.func29, Try.ntmps29
    go_wp2_with fail
    refine (unhide hA).mono ?_
    rintro e w0 ⟨rfl, hb0⟩
    go_wp2_with fail
    go_ret
    exact hnil _ (box_keep hb0).1
  | true =>
    rw [h1] at hA
    cases h2 : hokB W T bs M with
    | false =>
      simp only [h2] at hE
      rw [lowL_b h2]
      clear h1 h2
      go_enter Try.func29, Try.ntmps29
      go_wp2_with fail
      refine (unhide hA).mono ?_
      rintro e w0 ⟨rfl, hb0⟩
      obtain ⟨hB0, hk0, b0, b1, b2⟩ := box_keep hb0
      go_wp2_with fail
      refine (unhide (hE _ hB0)).mono ?_
      rintro e w1 ⟨rfl, hb1⟩
      go_wp2_with fail
      go_ret
      exact hnil _ (hB0.trans (hb1.mono hB0.size))
    | true =>
      simp only [h2] at hE
      rw [lowL_yes h1 h2]
      obtain ⟨R, hR, hS, rfl, rfl, rfl, hk⟩ := hokB_iff.1 h1
      have hk2 := (hokB_ok hR hS).1 h2
      have hcn := cn_bd hR
      obtain rfl : m = R.cn := by rw [← hL, hk.len]
      obtain rfl : m2 = R.cn := by rw [← hM, hk2.len]
      have HPK := fun w' (h : Below w.heap.size w w') => hide (pick_lesser D E d e2 B L M R.cn hL hM (by omega) w' (hd.below (h.mono hB)) (he.below (h.mono hB)) (Nat.le_trans hB h.size))
      generalize List.zipWith min L M = Z at *
      clear h1 h2 hk hk2 hL hM
      go_enter Try.func29, Try.ntmps29
      go_wp2_with fail
      refine (unhide hA).mono ?_
      rintro e w0 ⟨rfl, hb0⟩
      obtain ⟨hB0, hk0, b0, b1, b2⟩ := box_keep hb0
      go_wp2_with fail
      refine (unhide (hE _ hB0)).mono ?_
      rintro e w1 ⟨rfl, hb1⟩
      have hB1 := hB0.trans (hb1.mono hB0.size)
      go_wp2_with fail
      refine (unhide (HPK _ hB1)).mono ?_
      rintro e w2 ⟨g, rfl, ho, hb2⟩
      go_wp2_with fail
      go_ret
      exact ⟨_, _, _, rfl, own_mono ho hB1.size, hB1.trans (hb2.mono hB1.size)⟩

set_option maxHeartbeats 1000000 in
set_option maxRecDepth 20000 in
theorem lowS_any (W T : Int) (A : Option Addr) (n c B : Nat) (bs : List Bool) (L : List Int) (D : Option Addr) (m d : Nat) (M : List Int) (E : Option Addr) (m2 e2 : Nat) (w : World) (hbl : bs.length = n) (hL : L.length = m) (hM : M.length = m2)
    (hr : Reads w B 1 A n (bs.map Value.bool)) (hd : Reads w B 1 D m (L.map (Value.int .i64))) (he : Reads w B 1 E m2 (M.map (Value.int .i64))) (hB : B ≤ w.heap.size) (hn : n ≤ 9223372036854775807) (hm : m ≤ 9223372036854775807) (hm2 : m2 ≤ 9223372036854775807) :
    Calls Try.prog 30 #[.agg #[.int .i64 W, .int .i64 T, .slice A n c], .slice D m d, .slice E m2 e2] w (RetInts w (lowL W T bs L M)) := by
  have hA := fun w' (h : Below w.heap.size w w') => hide (hokS_any W T A n c B bs L D m d w' hbl hL (hr.below (h.mono hB)) (hd.below (h.mono hB)) (Nat.le_trans hB h.size) hn hm)
  have hE := fun w' (h : Below w.heap.size w w') => hide (hokS_any W T A n c B bs M E m2 e2 w' hbl hM (hr.below (h.mono hB)) (he.below (h.mono hB)) (Nat.le_trans hB h.size) hn hm2)
  obtain ⟨q1, q2, q3⟩ := ownInts_empty (w := w) (W := W) (T := T) (A := A) (n := n) (c := c) (Below.refl _ _)
  by_cases h0 : m = 0
  · subst h0
    have hL0 : L = [] := List.eq_nil_of_length_eq_zero hL
    have hlow : lowL W T bs L M = [] := by
      subst hL0
      have := lowL_len (W := W) (T := T) (bs := bs) (a := []) (b := M)
      exact List.eq_nil_of_length_eq_zero (by simpa using this)
    rw [hlow]
    clear hA hE hlow
    go_enter Try.func30, Try.ntmps30
    go_wp2_with fail
    go_loopg [7, 8] 0 (fun r s7 s8 wr => s7 = .slice (some ⟨w.heap.size + 1, 0, none⟩) 0 0 ∧ s8 = .int .i64 0 ∧ Below w.heap.size w wr ∧ wr.ownsRow w.heap.size 3 1 (.slice (some ⟨w.heap.size + 1, 0, none⟩) 0 0) 0 (([] : List Int).map (Value.int .i64)) ∧ Blk wr w.heap.size 25 #[.int .i64 W, .int .i64 T, .slice A n c])
    case atStart => exact ⟨rfl, rfl, q1, q2, q3⟩
    case round =>
      clear q1 q2 q3
      obtain ⟨rfl, rfl, q1, q2, q3⟩ := hrel
      go_wp2_with fail
      go_ret
      exact ⟨_, _, _, rfl, q2, q1⟩
  have d0 : decide ((0 : Int) < (m : Int)) = true := decide_eq_true (by omega)
  cases h1 : hokB W T bs L with
  | false =>
    simp only [h1] at hA
    rw [lowL_a h1]
    clear h1
    go_enter Try.func30, Try.ntmps30
    go_wp2_with fail
    go_loopg [7, 8] 0 (fun r s7 s8 wr => s7 = .slice (some ⟨w.heap.size + 1, 0, none⟩) 0 0 ∧ s8 = .int .i64 0 ∧ Below w.heap.size w wr ∧ wr.ownsRow w.heap.size 3 1 (.slice (some ⟨w.heap.size + 1, 0, none⟩) 0 0) 0 (([] : List Int).map (Value.int .i64)) ∧ Blk wr w.heap.size 25 #[.int .i64 W, .int .i64 T, .slice A n c])
    case atStart => exact ⟨rfl, rfl, q1, q2, q3⟩
    case round =>
      clear q1 q2 q3
      obtain ⟨rfl, rfl, q1, q2, q3⟩ := hrel
      have b0 := q3.cell 0
      have b1 := q3.cell 1
      have b2 := q3.cell 2
      simp at b0 b1 b2
      go_wp2_with fail
      refine (unhide (hA _ q1)).mono ?_
      rintro e w1 ⟨rfl, hb1⟩
      go_wp2_with fail
      go_ret
      exact ⟨_, _, _, rfl, own_below q2 hb1 (Nat.le_refl _), q1.trans (hb1.mono q1.size)⟩
  | true =>
    simp only [h1] at hA
    cases h2 : hokB W T bs M with
    | false =>
      simp only [h2] at hE
      rw [lowL_b h2]
      clear h1 h2
      go_enter Try.func30, Try.ntmps30
      go_wp2_with fail
      go_loopg [7, 8] 0 (fun r s7 s8 wr => s7 = .slice (some ⟨w.heap.size + 1, 0, none⟩) 0 0 ∧ s8 = .int .i64 0 ∧ Below w.heap.size w wr ∧ wr.ownsRow w.heap.size 3 1 (.slice (some ⟨w.heap.size + 1, 0, none⟩) 0 0) 0 (([] : List Int).map (Value.int .i64)) ∧ Blk wr w.heap.size 25 #[.int .i64 W, .int .i64 T, .slice A n c])
      case atStart => exact ⟨rfl, rfl, q1, q2, q3⟩
      case round =>
        clear q1 q2 q3
        obtain ⟨rfl, rfl, q1, q2, q3⟩ := hrel
        have b0 := q3.cell 0
        have b1 := q3.cell 1
        have b2 := q3.cell 2
        simp at b0 b1 b2
        go_wp2_with fail
        refine (unhide (hA _ q1)).mono ?_
        rintro e w1 ⟨rfl, hb1⟩
        obtain ⟨hk1, b0, b1, b2⟩ := blk_keep q3 hb1
        have hB1 := q1.trans (hb1.mono q1.size)
        go_wp2_with fail
        refine (unhide (hE _ hB1)).mono ?_
        rintro e w2 ⟨rfl, hb2⟩
        go_wp2_with fail
        go_ret
        exact ⟨_, _, _, rfl, own_below (own_below q2 hb1 (Nat.le_refl _)) hb2 (Nat.le_refl _), hB1.trans (hb2.mono hB1.size)⟩
    | true =>
      simp only [h2] at hE
      rw [lowL_yes h1 h2]
      obtain ⟨R, hR, hS, rfl, rfl, rfl, hk⟩ := hokB_iff.1 h1
      have hk2 := (hokB_ok hR hS).1 h2
      have hcn := cn_bd hR
      obtain rfl : m = R.cn := by rw [← hL, hk.len]
      obtain rfl : m2 = R.cn := by rw [← hM, hk2.len]
      subst hbl
      have HLn := Lib.hid hL
      have HMn := Lib.hid hM
      have hzl : (List.zipWith min L M).length = R.cn := by rw [zip_len (by rw [hL, hM]), hL]
      have HZL := Lib.hid hzl
      clear h1 h2 hk hk2 hL hM hzl
      have h00 : PG w ((w.alloc (boxR R.W R.T A R.C.length c)).alloc (.cells #[] 3)) R A c (w.heap.size + 1) 0 [] := by
        refine ⟨((Below.refl _ _).alloc (Nat.le_refl _) _).alloc (by simp) _, (Blk.new _ _ _).alloc _, ?_⟩
        have := World.ownsRow_made (base := w.heap.size + 1) (e := 3) (size := 1) (w.alloc (boxR R.W R.T A R.C.length c)) #[] 0 (by simp) (by simp [maxLen]) (by simp)
        simpa using this
      go_enter Try.func30, Try.ntmps30
      go_wp2_with fail
      go_loopg [7, 8] R.cn (fun r s7 s8 wr => ∃ (k g cc : Nat) (O : List Int), k + r = R.cn ∧ s8 = .int .i64 (k : Nat) ∧ s7 = .slice (some ⟨g, 0, none⟩) k cc ∧ PG w wr R A c g cc O ∧ O = (List.zipWith min L M).take k)
      case atStart => exact ⟨0, _, _, [], by omega, rfl, rfl, h00, by simp⟩
      case round =>
        clear h00 q1 q2 q3
        obtain ⟨k, g, cc, O, hk, rfl, rfl, hP, hO⟩ := hrel
        have HK := Lib.hid hk
        have HO := Lib.hid hO
        have HOL : Hid (O.length = k) := Lib.hid (by rw [hO, List.length_take, HZL.out]; omega)
        clear hk hO
        by_cases hlt : k < R.cn
        · obtain ⟨b0, b1, b2⟩ := hP.rcells
          go_wp2_with fail
          refine (unhide (hA _ hP.bel)).mono ?_
          rintro e w1 ⟨rfl, hb1⟩
          have hP1 := hP.below hb1
          clear hP hb1 b0 b1 b2
          obtain ⟨b0, b1, b2⟩ := hP1.rcells
          go_wp2_with fail
          refine (unhide (hE _ hP1.bel)).mono ?_
          rintro e w2 ⟨rfl, hb2⟩
          have hP2 := hP1.below hb2
          clear hP1 hb2 b0 b1 b2
          obtain ⟨a1, rfl, _, hw1⟩ := hd.getI hlt
          obtain ⟨a2, rfl, _, hw2⟩ := he.getI hlt
          have hz := zip_at (f := min) (L := L) (M := M) (k := k) (by rw [HLn.out]; exact hlt) (by rw [HMn.out]; exact hlt)
          generalize L.getD k 0 = x at *
          generalize M.getD k 0 = y at *
          have HZ := Lib.hid hz
          clear hz
          have hq1 := World.block_lt_of_cell? w _ hw1
          have hq2 := World.block_lt_of_cell? w _ hw2
          have hkp : ∀ w', Below w.heap.size w w' → w'.cell? (a1.add k) = some (Value.int IntKind.i64 x) ∧ w'.cell? (a2.add k) = some (Value.int IntKind.i64 y) := fun w' h => ⟨(h.cell hq1).trans hw1, (h.cell hq2).trans hw2⟩
          obtain ⟨hc1, hc2⟩ := hkp _ hP2.bel
          have hown := hP2.own
          rw [HOL.out] at hown
          have hown3 : (w2.alloc (.cells #[.int .i64 (min x y)] 3)).drew.ownsRow (w.heap.size + 1) 3 1 (.slice (some ⟨g, 0, none⟩) k cc) k (O.map (Value.int .i64)) := own_below hown (((Below.refl _ _).alloc (Nat.le_refl _) _).drew) (Nat.le_refl _)
          have hP3 := hP2.below (w2 := w2.drew) (Below.refl _ _).drew
          have hb3 : Below w.heap.size w (w2.alloc (.cells #[.int .i64 (min x y)] 3)).drew := (hP2.bel.alloc hP2.bel.size _).drew
          have hsz : w.heap.size + 1 ≤ w2.heap.size := by have := hP2.lt; omega
          obtain ⟨i0, hi0, hz0, hs0, hby0⟩ := info_parts info_int
          go_upto_region 5 with fail
          go_region_held_law (fun w' => w'.cell? (a1.add k) = some (Value.int IntKind.i64 x) ∧ w'.cell? (a2.add k) = some (Value.int IntKind.i64 y)) (first | exact ⟨hc1, hc2⟩ | exact hkp _ hb3 | exact hkp _ hP5.bel)
            ((refine step_append_lies _ rfl _ _ _ rfl (w.heap.size + 1) 3 i0 _ 1 8 Try.underlying26 hi0 hz0 hs0 hby0 rfl (by omega) (.slice (some ⟨g, 0, none⟩) k cc) k _ rfl hown3 _ 1 1 [.int .i64 (min x y)] rfl rfl (World.news_of_block (heap_alloc_new w2 _)) (by simp [Value.oneCell']) (by omega) (by simp only [maxLen]; omega) (by omega) (by simp; omega) _ rfl ?_; intro g' cap w5 hown5 hgrow hat hlt5; have hP5 : PG w w5 R A c g' cap (O ++ [min x y]) := hP3.app (x := min x y) (o := .cells #[.int .i64 (min x y)] 3) (by rw [HOL.out]; exact hown5) (by rw [HOL.out]; exact hgrow)))
          go_wp2_with fail
          go_roundg (R.cn - (k + 1))
          case measure => have := HK.out; omega
          case rel =>
            refine ⟨k + 1, g', cap, _, by have := HK.out; omega, by go_num, rfl, hP5, ?_⟩
            rw [HO.out, List.take_add_one, HZ.out]
            rfl
        · obtain rfl : k = R.cn := by have := HK.out; omega
          obtain ⟨b0, b1, b2⟩ := hP.rcells
          go_wp2_with fail
          go_ret
          have hOO : O = List.zipWith min L M := by rw [HO.out, List.take_of_length_le (by rw [HZL.out]; exact Nat.le_refl _)]
          have ho := own_mono hP.own (base' := w.heap.size) (by omega)
          rw [hOO] at ho
          exact ⟨_, _, _, by rw [HZL.out]; rfl, ho, hP.bel⟩

end Go.Proofs.Ytahpipcmgcambaa

/-
  YtahpipcmgcambaaHh: HeightsHigh: the program's and the reference's.
-/
namespace Go.Proofs.Ytahpipcmgcambaa
open Go.RowKit

noncomputable def highL (W T : Int) (bs : List Bool) (a b : List Int) : List Int := if hokB W T bs a = true ∧ hokB W T bs b = true then List.zipWith max a b else []
theorem highL_a {W T : Int} {bs : List Bool} {a b : List Int} (h : hokB W T bs a = false) : highL W T bs a b = [] := by unfold highL; rw [h]; simp
theorem highL_b {W T : Int} {bs : List Bool} {a b : List Int} (h : hokB W T bs b = false) : highL W T bs a b = [] := by unfold highL; rw [h]; simp
theorem highL_yes {W T : Int} {bs : List Bool} {a b : List Int} (h : hokB W T bs a = true) (h' : hokB W T bs b = true) : highL W T bs a b = List.zipWith max a b := if_pos ⟨h, h'⟩
theorem highL_len {W T : Int} {bs : List Bool} {a b : List Int} : (highL W T bs a b).length ≤ a.length := by
  unfold highL
  split
  · rw [List.length_zipWith]; omega
  · simp

theorem highI_any (W T : Int) (A : Option Addr) (n c B : Nat) (bs : List Bool) (L : List Int) (D : Option Addr) (m d : Nat) (M : List Int) (E : Option Addr) (m2 e2 : Nat) (w : World) (hbl : bs.length = n) (hL : L.length = m) (hM : M.length = m2)
    (hr : Reads w B 1 A n (bs.map Value.bool)) (hd : Reads w B 1 D m (L.map (Value.int .i64))) (he : Reads w B 1 E m2 (M.map (Value.int .i64))) (hB : B ≤ w.heap.size) (hn : n ≤ 9223372036854775807) (hm : m ≤ 9223372036854775807) (hm2 : m2 ≤ 9223372036854775807) :
    Calls Try.prog 26 #[.agg #[.int .i64 W, .int .i64 T, .slice A n c], .slice D m d, .slice E m2 e2] w (RetInts w (highL W T bs L M)) := by
  have hA := hide (hokI_any W T A n c B bs L D m d (w.alloc (boxR W T A n c)) hbl hL (hr.alloc hB _) (hd.alloc hB _) (by simp; omega) hn hm)
  have hE := fun w' (h : Below w.heap.size w w') => hide (hokI_any W T A n c B bs M E m2 e2 w' hbl hM (hr.below (h.mono hB)) (he.below (h.mono hB)) (Nat.le_trans hB h.size) hn hm2)
  have hnil : ∀ w1, Below w.heap.size w w1 → RetInts w [] (.returned (.slice none 0 0)) w1 := fun w1 h => ⟨none, 0, 0, rfl, ⟨rfl, .inl ⟨rfl, rfl⟩⟩, h⟩
  cases h1 : hokB W T bs L with
  | false =>
    rw [h1] at hA
    rw [highL_a h1]
    clear h1
    go_enter Try.func26, Try.ntmps26
    go_wp2_with fail
    refine (unhide hA).mono ?_
    rintro e w0 ⟨rfl, hb0⟩
    go_wp2_with fail
    go_ret
    exact hnil _ (box_keep hb0).1
  | true =>
    rw [h1] at hA
    cases h2 : hokB W T bs M with
    | false =>
      simp only [h2] at hE
      rw [highL_b h2]
      clear h1 h2
      go_enter Try.func26, Try.ntmps26
      go_wp2_with fail
      refine (unhide hA).mono ?_
      rintro e w0 ⟨rfl, hb0⟩
      obtain ⟨hB0, hk0, b0, b1, b2⟩ := box_keep hb0
      go_wp2_with fail
      refine (unhide (hE _ hB0)).mono ?_
      rintro e w1 ⟨rfl, hb1⟩
      go_wp2_with fail
      go_ret
      exact hnil _ (hB0.trans (hb1.mono hB0.size))
    | true =>
      simp only [h2] at hE
      rw [highL_yes h1 h2]
      obtain ⟨R, hR, hS, rfl, rfl, rfl, hk⟩ := hokB_iff.1 h1
      have hk2 := (hokB_ok hR hS).1 h2
      have hcn := cn_bd hR
      obtain rfl : m = R.cn := by rw [← hL, hk.len]
      obtain rfl : m2 = R.cn := by rw [← hM, hk2.len]
      have HPK := fun w' (h : Below w.heap.size w w') => hide (pick_greater D E d e2 B L M R.cn hL hM (by omega) w' (hd.below (h.mono hB)) (he.below (h.mono hB)) (Nat.le_trans hB h.size))
      generalize List.zipWith max L M = Z at *
      clear h1 h2 hk hk2 hL hM
      go_enter Try.func26, Try.ntmps26
      go_wp2_with fail
      refine (unhide hA).mono ?_
      rintro e w0 ⟨rfl, hb0⟩
      obtain ⟨hB0, hk0, b0, b1, b2⟩ := box_keep hb0
      go_wp2_with fail
      refine (unhide (hE _ hB0)).mono ?_
      rintro e w1 ⟨rfl, hb1⟩
      have hB1 := hB0.trans (hb1.mono hB0.size)
      go_wp2_with fail
      refine (unhide (HPK _ hB1)).mono ?_
      rintro e w2 ⟨g, rfl, ho, hb2⟩
      go_wp2_with fail
      go_ret
      exact ⟨_, _, _, rfl, own_mono ho hB1.size, hB1.trans (hb2.mono hB1.size)⟩

set_option maxHeartbeats 1000000 in
set_option maxRecDepth 20000 in
theorem highS_any (W T : Int) (A : Option Addr) (n c B : Nat) (bs : List Bool) (L : List Int) (D : Option Addr) (m d : Nat) (M : List Int) (E : Option Addr) (m2 e2 : Nat) (w : World) (hbl : bs.length = n) (hL : L.length = m) (hM : M.length = m2)
    (hr : Reads w B 1 A n (bs.map Value.bool)) (hd : Reads w B 1 D m (L.map (Value.int .i64))) (he : Reads w B 1 E m2 (M.map (Value.int .i64))) (hB : B ≤ w.heap.size) (hn : n ≤ 9223372036854775807) (hm : m ≤ 9223372036854775807) (hm2 : m2 ≤ 9223372036854775807) :
    Calls Try.prog 27 #[.agg #[.int .i64 W, .int .i64 T, .slice A n c], .slice D m d, .slice E m2 e2] w (RetInts w (highL W T bs L M)) := by
  have hA := fun w' (h : Below w.heap.size w w') => hide (hokS_any W T A n c B bs L D m d w' hbl hL (hr.below (h.mono hB)) (hd.below (h.mono hB)) (Nat.le_trans hB h.size) hn hm)
  have hE := fun w' (h : Below w.heap.size w w') => hide (hokS_any W T A n c B bs M E m2 e2 w' hbl hM (hr.below (h.mono hB)) (he.below (h.mono hB)) (Nat.le_trans hB h.size) hn hm2)
  obtain ⟨q1, q2, q3⟩ := ownInts_empty (w := w) (W := W) (T := T) (A := A) (n := n) (c := c) (Below.refl _ _)
  by_cases h0 : m = 0
  · subst h0
    have hL0 : L = [] := List.eq_nil_of_length_eq_zero hL
    have hlow : highL W T bs L M = [] := by
      subst hL0
      have := highL_len (W := W) (T := T) (bs := bs) (a := []) (b := M)
      exact List.eq_nil_of_length_eq_zero (by simpa using this)
    rw [hlow]
    clear hA hE hlow
    go_enter Try.func27, Try.ntmps27
    go_wp2_with fail
    go_loopg [7, 8] 0 (fun r s7 s8 wr => s7 = .slice (some ⟨w.heap.size + 1, 0, none⟩) 0 0 ∧ s8 = .int .i64 0 ∧ Below w.heap.size w wr ∧ wr.ownsRow w.heap.size 3 1 (.slice (some ⟨w.heap.size + 1, 0, none⟩) 0 0) 0 (([] : List Int).map (Value.int .i64)) ∧ Blk wr w.heap.size 25 #[.int .i64 W, .int .i64 T, .slice A n c])
    case atStart => exact ⟨rfl, rfl, q1, q2, q3⟩
    case round =>
      clear q1 q2 q3
      obtain ⟨rfl, rfl, q1, q2, q3⟩ := hrel
      go_wp2_with fail
      go_ret
      exact ⟨_, _, _, rfl, q2, q1⟩
  have d0 : decide ((0 : Int) < (m : Int)) = true := decide_eq_true (by omega)
  cases h1 : hokB W T bs L with
  | false =>
    simp only [h1] at hA
    rw [highL_a h1]
    clear h1
    go_enter Try.func27, Try.ntmps27
    go_wp2_with fail
    go_loopg [7, 8] 0 (fun r s7 s8 wr => s7 = .slice (some ⟨w.heap.size + 1, 0, none⟩) 0 0 ∧ s8 = .int .i64 0 ∧ Below w.heap.size w wr ∧ wr.ownsRow w.heap.size 3 1 (.slice (some ⟨w.heap.size + 1, 0, none⟩) 0 0) 0 (([] : List Int).map (Value.int .i64)) ∧ Blk wr w.heap.size 25 #[.int .i64 W, .int .i64 T, .slice A n c])
    case atStart => exact ⟨rfl, rfl, q1, q2, q3⟩
    case round =>
      clear q1 q2 q3
      obtain ⟨rfl, rfl, q1, q2, q3⟩ := hrel
      have b0 := q3.cell 0
      have b1 := q3.cell 1
      have b2 := q3.cell 2
      simp at b0 b1 b2
      go_wp2_with fail
      refine (unhide (hA _ q1)).mono ?_
      rintro e w1 ⟨rfl, hb1⟩
      go_wp2_with fail
      go_ret
      exact ⟨_, _, _, rfl, own_below q2 hb1 (Nat.le_refl _), q1.trans (hb1.mono q1.size)⟩
  | true =>
    simp only [h1] at hA
    cases h2 : hokB W T bs M with
    | false =>
      simp only [h2] at hE
      rw [highL_b h2]
      clear h1 h2
      go_enter Try.func27, Try.ntmps27
      go_wp2_with fail
      go_loopg [7, 8] 0 (fun r s7 s8 wr => s7 = .slice (some ⟨w.heap.size + 1, 0, none⟩) 0 0 ∧ s8 = .int .i64 0 ∧ Below w.heap.size w wr ∧ wr.ownsRow w.heap.size 3 1 (.slice (some ⟨w.heap.size + 1, 0, none⟩) 0 0) 0 (([] : List Int).map (Value.int .i64)) ∧ Blk wr w.heap.size 25 #[.int .i64 W, .int .i64 T, .slice A n c])
      case atStart => exact ⟨rfl, rfl, q1, q2, q3⟩
      case round =>
        clear q1 q2 q3
        obtain ⟨rfl, rfl, q1, q2, q3⟩ := hrel
        have b0 := q3.cell 0
        have b1 := q3.cell 1
        have b2 := q3.cell 2
        simp at b0 b1 b2
        go_wp2_with fail
        refine (unhide (hA _ q1)).mono ?_
        rintro e w1 ⟨rfl, hb1⟩
        obtain ⟨hk1, b0, b1, b2⟩ := blk_keep q3 hb1
        have hB1 := q1.trans (hb1.mono q1.size)
        go_wp2_with fail
        refine (unhide (hE _ hB1)).mono ?_
        rintro e w2 ⟨rfl, hb2⟩
        go_wp2_with fail
        go_ret
        exact ⟨_, _, _, rfl, own_below (own_below q2 hb1 (Nat.le_refl _)) hb2 (Nat.le_refl _), hB1.trans (hb2.mono hB1.size)⟩
    | true =>
      simp only [h2] at hE
      rw [highL_yes h1 h2]
      obtain ⟨R, hR, hS, rfl, rfl, rfl, hk⟩ := hokB_iff.1 h1
      have hk2 := (hokB_ok hR hS).1 h2
      have hcn := cn_bd hR
      obtain rfl : m = R.cn := by rw [← hL, hk.len]
      obtain rfl : m2 = R.cn := by rw [← hM, hk2.len]
      subst hbl
      have HLn := Lib.hid hL
      have HMn := Lib.hid hM
      have hzl : (List.zipWith max L M).length = R.cn := by rw [zip_len (by rw [hL, hM]), hL]
      have HZL := Lib.hid hzl
      clear h1 h2 hk hk2 hL hM hzl
      have h00 : PG w ((w.alloc (boxR R.W R.T A R.C.length c)).alloc (.cells #[] 3)) R A c (w.heap.size + 1) 0 [] := by
        refine ⟨((Below.refl _ _).alloc (Nat.le_refl _) _).alloc (by simp) _, (Blk.new _ _ _).alloc _, ?_⟩
        have := World.ownsRow_made (base := w.heap.size + 1) (e := 3) (size := 1) (w.alloc (boxR R.W R.T A R.C.length c)) #[] 0 (by simp) (by simp [maxLen]) (by simp)
        simpa using this
      go_enter Try.func27, Try.ntmps27
      go_wp2_with fail
      go_loopg [7, 8] R.cn (fun r s7 s8 wr => ∃ (k g cc : Nat) (O : List Int), k + r = R.cn ∧ s8 = .int .i64 (k : Nat) ∧ s7 = .slice (some ⟨g, 0, none⟩) k cc ∧ PG w wr R A c g cc O ∧ O = (List.zipWith max L M).take k)
      case atStart => exact ⟨0, _, _, [], by omega, rfl, rfl, h00, by simp⟩
      case round =>
        clear h00 q1 q2 q3
        obtain ⟨k, g, cc, O, hk, rfl, rfl, hP, hO⟩ := hrel
        have HK := Lib.hid hk
        have HO := Lib.hid hO
        have HOL : Hid (O.length = k) := Lib.hid (by rw [hO, List.length_take, HZL.out]; omega)
        clear hk hO
        by_cases hlt : k < R.cn
        · obtain ⟨b0, b1, b2⟩ := hP.rcells
          go_wp2_with fail
          refine (unhide (hA _ hP.bel)).mono ?_
          rintro e w1 ⟨rfl, hb1⟩
          have hP1 := hP.below hb1
          clear hP hb1 b0 b1 b2
          obtain ⟨b0, b1, b2⟩ := hP1.rcells
          go_wp2_with fail
          refine (unhide (hE _ hP1.bel)).mono ?_
          rintro e w2 ⟨rfl, hb2⟩
          have hP2 := hP1.below hb2
          clear hP1 hb2 b0 b1 b2
          obtain ⟨a1, rfl, _, hw1⟩ := hd.getI hlt
          obtain ⟨a2, rfl, _, hw2⟩ := he.getI hlt
          have hz := zip_at (f := max) (L := L) (M := M) (k := k) (by rw [HLn.out]; exact hlt) (by rw [HMn.out]; exact hlt)
          generalize L.getD k 0 = x at *
          generalize M.getD k 0 = y at *
          have HZ := Lib.hid hz
          clear hz
          have hq1 := World.block_lt_of_cell? w _ hw1
          have hq2 := World.block_lt_of_cell? w _ hw2
          have hkp : ∀ w', Below w.heap.size w w' → w'.cell? (a1.add k) = some (Value.int IntKind.i64 x) ∧ w'.cell? (a2.add k) = some (Value.int IntKind.i64 y) := fun w' h => ⟨(h.cell hq1).trans hw1, (h.cell hq2).trans hw2⟩
          obtain ⟨hc1, hc2⟩ := hkp _ hP2.bel
          have hown := hP2.own
          rw [HOL.out] at hown
          have hown3 : (w2.alloc (.cells #[.int .i64 (max x y)] 3)).drew.ownsRow (w.heap.size + 1) 3 1 (.slice (some ⟨g, 0, none⟩) k cc) k (O.map (Value.int .i64)) := own_below hown (((Below.refl _ _).alloc (Nat.le_refl _) _).drew) (Nat.le_refl _)
          have hP3 := hP2.below (w2 := w2.drew) (Below.refl _ _).drew
          have hb3 : Below w.heap.size w (w2.alloc (.cells #[.int .i64 (max x y)] 3)).drew := (hP2.bel.alloc hP2.bel.size _).drew
          have hsz : w.heap.size + 1 ≤ w2.heap.size := by have := hP2.lt; omega
          obtain ⟨i0, hi0, hz0, hs0, hby0⟩ := info_parts info_int
          go_upto_region 5 with fail
          go_region_held_law (fun w' => w'.cell? (a1.add k) = some (Value.int IntKind.i64 x) ∧ w'.cell? (a2.add k) = some (Value.int IntKind.i64 y)) (first | exact ⟨hc1, hc2⟩ | exact hkp _ hb3 | exact hkp _ hP5.bel)
            ((refine step_append_lies _ rfl _ _ _ rfl (w.heap.size + 1) 3 i0 _ 1 8 Try.underlying26 hi0 hz0 hs0 hby0 rfl (by omega) (.slice (some ⟨g, 0, none⟩) k cc) k _ rfl hown3 _ 1 1 [.int .i64 (max x y)] rfl rfl (World.news_of_block (heap_alloc_new w2 _)) (by simp [Value.oneCell']) (by omega) (by simp only [maxLen]; omega) (by omega) (by simp; omega) _ rfl ?_; intro g' cap w5 hown5 hgrow hat hlt5; have hP5 : PG w w5 R A c g' cap (O ++ [max x y]) := hP3.app (x := max x y) (o := .cells #[.int .i64 (max x y)] 3) (by rw [HOL.out]; exact hown5) (by rw [HOL.out]; exact hgrow)))
          go_wp2_with fail
          go_roundg (R.cn - (k + 1))
          case measure => have := HK.out; omega
          case rel =>
            refine ⟨k + 1, g', cap, _, by have := HK.out; omega, by go_num, rfl, hP5, ?_⟩
            rw [HO.out, List.take_add_one, HZ.out]
            rfl
        · obtain rfl : k = R.cn := by have := HK.out; omega
          obtain ⟨b0, b1, b2⟩ := hP.rcells
          go_wp2_with fail
          go_ret
          have hOO : O = List.zipWith max L M := by rw [HO.out, List.take_of_length_le (by rw [HZL.out]; exact Nat.le_refl _)]
          have ho := own_mono hP.own (base' := w.heap.size) (by omega)
          rw [hOO] at ho
          exact ⟨_, _, _, by rw [HZL.out]; rfl, ho, hP.bel⟩

end Go.Proofs.Ytahpipcmgcambaa
