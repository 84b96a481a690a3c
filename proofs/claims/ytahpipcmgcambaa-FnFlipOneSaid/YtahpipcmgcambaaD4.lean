/-
  YtahpipcmgcambaaD4: Complete, TilingFirst and LiftOne of the reference (as far as the draws need it).
-/
import Derived.Test.YtahpipcmgcambaaD3
import Derived.Test.YtahpipcmgcambaaQ8
import Derived.Test.YtahpipcmgcambaaFq
import Derived.Test.YtahpipcmgcambaaByS
namespace Go.Proofs.Ytahpipcmgcambaa
open Go.RowKit

/-- What Complete and TilingFirst leave, for any region. -/
def CompRet (w : World) (W T : Int) (bs : List Bool) (e : Ending) (w' : World) : Prop :=
  ∃ v ok M, e = .returned (.tuple #[v, .bool ok]) ∧ LiAt w' w.heap.size v M ∧ M.length ≤ 36 ∧ (ok = true → laidB W T bs M = true) ∧ Below w.heap.size w w'

set_option maxHeartbeats 1000000 in
set_option maxRecDepth 20000 in
theorem completeS_ok (R : Reg) (hR : R.ok) (A : Option Addr) (c B : Nat) (L : List Int) (D : Option Addr) (d : Nat) (hL : Lay R L) (w : World)
    (hr : Reads w B 1 A R.C.length (R.C.map Value.bool)) (hd : Reads w B 1 D R.C.length (L.map (Value.int .i64))) (hB : B ≤ w.heap.size) :
    Calls Try.prog 135 #[.agg #[.int .i64 R.W, .int .i64 R.T, .slice A R.C.length c], .slice D R.C.length d] w (CoRet w.heap.size w R) := by
  have hl36 := (len_bd hR).2
  have hl1 := (len_bd hR).1
  have hlo : laidB R.W R.T R.C L = true := by rw [laidB_ok hR]; exact (laysB_iff hR).2 hL
  have hb0 : Below w.heap.size w (w.alloc (boxR R.W R.T A R.C.length c)) := (Below.refl _ _).alloc (Nat.le_refl _) _
  have hLO := hide (laidOkS_any R.W R.T A R.C.length c B R.C L D R.C.length d (w.alloc (boxR R.W R.T A R.C.length c)) rfl hL.len (hr.alloc hB _) (hd.alloc hB _) (by simp; omega) (by omega) (by omega))
  rw [hlo] at hLO
  have hCO := fun w' g c' d' (h : Below w.heap.size w w') (ho : w'.ownsRow w.heap.size 3 1 (.slice (some ⟨g, 0, none⟩) R.C.length c') R.C.length (L.map (Value.int .i64))) => hide (compS_any R hR A c B w.heap.size hB 18 L g c' d' w' (by omega) hL (opN_le hR L) (hr.below (h.mono hB)) h.size ho)
  have hLn := hL.len
  have hONE := ints_one (L := L)
  clear hlo hL
  go_enter Try.func135, Try.ntmps135
  go_wp2_with fail
  refine (unhide hLO).mono ?_
  rintro e w1 ⟨rfl, hb1⟩
  obtain ⟨hB1, hk1, b0, b1, b2⟩ := box_keep hb1
  clear hb1
  obtain ⟨ad, hD, _, hnw⟩ := (hd.below (hB1.mono hB)).2 hl1
  subst hD
  have hoa : (w1.alloc (.cells #[] 3)).drew.ownsRow (w.heap.size + 1) 3 1 (.slice (some ⟨w1.heap.size, 0, none⟩) 0 0) 0 [] := by
    have := World.ownsRow_made (base := w.heap.size + 1) (e := 3) (size := 1) w1 #[] 0 hk1.lt (by simp [maxLen]) (by simp)
    exact own_below (by simpa using this) (Below.refl _ _).drew (Nat.le_refl _)
  have hnews : ∀ j u, (L.map (Value.int .i64))[j]? = some u → (w1.alloc (.cells #[] 3)).drew.cell? (ad.add j) = some u := fun j u h => cell_kept (hnw j u h) ((Below.refl w1.heap.size w1).alloc (Nat.le_refl _) (.cells #[] 3)).drew
  have hall : ∀ (w5 : World) (g' cap : Nat), w5.ownsRow (w.heap.size + 1) 3 1 (.slice (some ⟨g', 0, none⟩) (0 + R.C.length) cap) (0 + R.C.length) ([] ++ L.map (Value.int .i64)) → (w1.alloc (.cells #[] 3)).drew.grownBy w5 (Value.slice (some ⟨w1.heap.size, 0, none⟩) 0 0).ownBlock →
      PG w w5 R A c g' cap L := fun w5 g' cap ho hg => by
    rw [Nat.zero_add, List.nil_append] at ho
    have hlt := hk1.lt
    exact ⟨((hB1.alloc hB1.size _).drew).grown hg (by simp; omega) (fun j hj => by simp [Value.ownBlock] at hj; omega), (hk1.alloc _).drew.grown hg (by simp [Value.ownBlock]; omega), by rw [hLn]; exact ho⟩
  obtain ⟨i0, hi0, hz0, hs0, hby0⟩ := info_parts info_int
  have hlm : (L.map (Value.int .i64)).length = R.C.length * 1 := by simp [hLn]
  have hk1l := hk1.lt
  clear hnw
  go_upto_region 3 with fail
  go_region_law
    (first
      | (refine step_append_lies _ rfl _ _ _ rfl (w.heap.size + 1) 3 i0 _ 1 8 Try.underlying26 hi0 hz0 hs0 hby0 rfl (by omega) (.slice (some ⟨w1.heap.size, 0, none⟩) 0 0) 0 [] rfl hoa ad R.C.length d (L.map (Value.int .i64)) rfl hlm hnews hONE hl1 (by simp only [maxLen]; omega) (by omega) (by simp; omega) _ rfl ?_; intro g' cap w5 hown5 hgrow hat hlt5; have hP3 := hall _ _ _ hown5 hgrow; obtain ⟨p0, p1, p2⟩ := hP3.rcells; have hCq := hCO w5 g' cap cap hP3.bel (by have := own_mono hP3.own (base' := w.heap.size) (by omega); rw [hLn] at this; exact this); rw [Nat.zero_add])
      | ((rw [if_pos (by rfl)]); go_simp; (with_reducible refine (unhide hCq).mono ?_); rintro e w6 ⟨v6, ok6, M6, rfl, hl6, hm6, hok6, hb6⟩; go_simp))
  all_goals
    have hB6 := hP3.bel.trans (hb6.mono hP3.bel.size)
    clear hCq hCO hP3 hb6 hown5 hgrow hat hall hnews hoa p0 p1 p2 b0 b1 b2
    go_simp
    go_wp2_with fail
    go_ret2
    exact ⟨v6, ok6, M6, rfl, hl6, hm6, hok6, hB6⟩

set_option maxHeartbeats 1000000 in
theorem completeS_any (W T : Int) (A : Option Addr) (n c B : Nat) (bs : List Bool) (L : List Int) (D : Option Addr) (m d : Nat) (w : World) (hbl : bs.length = n) (hL : L.length = m)
    (hr : Reads w B 1 A n (bs.map Value.bool)) (hd : Reads w B 1 D m (L.map (Value.int .i64))) (hB : B ≤ w.heap.size) (hn : n ≤ 9223372036854775807) (hm : m ≤ 9223372036854775807) :
    Calls Try.prog 135 #[.agg #[.int .i64 W, .int .i64 T, .slice A n c], .slice D m d] w (CompRet w W T bs) := by
  cases h : laidB W T bs L with
  | true =>
    obtain ⟨R, hR, rfl, rfl, rfl, hLy⟩ := laid_cases h
    subst hbl
    obtain rfl : m = R.C.length := by rw [← hL]; exact hLy.len
    refine (completeS_ok R hR A c B L D d hLy w hr hd hB).mono ?_
    rintro e w' ⟨v, ok, M, rfl, h1, h2, h3, h4⟩
    exact ⟨v, ok, M, rfl, h1, h2, fun he => by rw [laidB_ok hR]; exact (laysB_iff hR).2 (h3 he), h4⟩
  | false =>
    have hLO := hide (laidOkS_any W T A n c B bs L D m d (w.alloc (boxR W T A n c)) hbl hL (hr.alloc hB _) (hd.alloc hB _) (by simp; omega) hn hm)
    rw [h] at hLO
    clear h
    go_enter Try.func135, Try.ntmps135
    go_wp2_with fail
    refine (unhide hLO).mono ?_
    rintro e w1 ⟨rfl, hb1⟩
    obtain ⟨hB1, hk1, b0, b1, b2⟩ := box_keep hb1
    go_wp2_with fail
    go_ret2
    have ho := World.ownsRow_made (base := w.heap.size) (e := 3) (size := 1) w1 #[] 0 hB1.size (by simp [maxLen]) (by simp)
    exact ⟨.slice (some ⟨w1.heap.size, 0, none⟩) 0 0, false, [], rfl, ⟨some ⟨w1.heap.size, 0, none⟩, 0, 0, rfl, by simpa using ho⟩, by simp, (fun he => by cases he), hB1.alloc hB1.size _⟩

set_option maxHeartbeats 1000000 in
theorem laidBareS_no (W T : Int) (A : Option Addr) (n c B : Nat) (bs : List Bool) (w : World) (hr : Reads w B 1 A n (bs.map Value.bool)) (hB : B ≤ w.heap.size) (hn : n ≤ 9223372036854775807) (hv : validB W T bs = false) :
    Calls Try.prog 63 #[.agg #[.int .i64 W, .int .i64 T, .slice A n c]] w fun e w' => ∃ v, e = .returned v ∧ LiAt w' w.heap.size v [] ∧ Below w.heap.size w w' := by
  have HV := hide (validS_any W T A n c B bs (w.alloc (boxR W T A n c)) (hr.alloc hB _) (by simp; omega) hn)
  rw [hv] at HV
  clear hv
  go_enter Try.func63, Try.ntmps63
  go_wp2_with fail
  refine (unhide HV).mono ?_
  rintro e w1 ⟨rfl, hb1⟩
  obtain ⟨hB1, hk1, b0, b1, b2⟩ := box_keep hb1
  go_wp2_with fail
  go_ret
  have ho := World.ownsRow_made (base := w.heap.size) (e := 3) (size := 1) w1 #[] 0 hB1.size (by simp [maxLen]) (by simp)
  exact ⟨.slice (some ⟨w1.heap.size, 0, none⟩) 0 0, rfl, ⟨some ⟨w1.heap.size, 0, none⟩, 0, 0, rfl, by simpa using ho⟩, hB1.alloc hB1.size _⟩

/-- LaidBare, of any region: a list that lays nothing, if the region is one. -/
theorem laidBareS_li (W T : Int) (A : Option Addr) (n c B : Nat) (bs : List Bool) (w : World) (hbl : bs.length = n) (hr : Reads w B 1 A n (bs.map Value.bool)) (hB : B ≤ w.heap.size) (hn : n ≤ 9223372036854775807) :
    Calls Try.prog 63 #[.agg #[.int .i64 W, .int .i64 T, .slice A n c]] w fun e w' => ∃ v L, e = .returned v ∧ LiAt w' w.heap.size v L ∧ L.length ≤ 36 ∧ (validB W T bs = true → laidB W T bs L = true) ∧ (validB W T bs = false → L = []) ∧ Below w.heap.size w w' := by
  cases hv : validB W T bs with
  | false =>
    refine (laidBareS_no W T A n c B bs w hr hB hn hv).mono ?_
    rintro e w' ⟨v, rfl, h1, h2⟩
    exact ⟨v, [], rfl, h1, by simp, (fun he => by cases he), fun _ => rfl, h2⟩
  | true =>
    obtain ⟨R, hR, rfl, rfl, rfl⟩ := reg_of_valid hv
    subst hbl
    refine (laidBareS_ok R hR A c B w hr hB).mono ?_
    rintro e w' ⟨g, rfl, h1, h2⟩
    refine ⟨_, bare R, rfl, ⟨some ⟨g, 0, none⟩, R.C.length, R.C.length, by simp [bare], by simpa [bare] using h1⟩, by simpa [bare] using (len_bd hR).2, fun _ => by rw [laidB_ok hR]; exact (laysB_iff hR).2 (lay_bare hR), (fun he => by cases he), h2⟩

set_option maxHeartbeats 1000000 in
theorem tilingFirstS_any (W T : Int) (A : Option Addr) (n c B : Nat) (bs : List Bool) (w : World) (hbl : bs.length = n)
    (hr : Reads w B 1 A n (bs.map Value.bool)) (hB : B ≤ w.heap.size) (hn : n ≤ 9223372036854775807) :
    Calls Try.prog 133 #[.agg #[.int .i64 W, .int .i64 T, .slice A n c]] w (CompRet w W T bs) := by
  have hb0 : Below w.heap.size w (w.alloc (boxR W T A n c)) := (Below.refl _ _).alloc (Nat.le_refl _) _
  have k0 : Blk (w.alloc (boxR W T A n c)) w.heap.size 25 #[.int .i64 W, .int .i64 T, .slice A n c] := Blk.new _ _ _
  have hLB := fun w' (h : Below w.heap.size w w') => hide (laidBareS_li W T A n c B bs w' hbl (hr.below (h.mono hB)) (Nat.le_trans hB h.size) hn)
  have hCO := fun w' (A3 : Option Addr) (c3 c4 : Nat) (L : List Int) (h : Below w.heap.size w w') (ho : w'.ownsRow w.heap.size 3 1 (.slice A3 L.length c4) L.length (L.map (Value.int .i64))) (hl : L.length ≤ 36) => hide (completeS_any W T A n c w'.heap.size bs L A3 L.length c3 w' hbl rfl ((hr.below (h.mono hB)).more (Nat.le_trans hB h.size)) (Reads.of_own ho) (Nat.le_refl _) hn (by omega))
  clear hr
  go_enter Try.func133, Try.ntmps133
  go_upto_region 1 with fail
  generalize w.alloc (.cells #[.int .i64 W, .int .i64 T, .slice A n c] 25) = w0 at *
  obtain ⟨b0, b1, b2⟩ := blk3 k0
  have hL1 := hLB w0.drew hb0.drew
  clear hLB
  go_region_held3 (fun w' => w'.cell? ⟨w.heap.size, 0, none⟩ = some (.int .i64 W) ∧ w'.cell? ⟨w.heap.size, 1, none⟩ = some (.int .i64 T) ∧ w'.cell? ⟨w.heap.size, 2, none⟩ = some (.slice A n c))
    (first
      | exact ⟨b0, b1, b2⟩
      | exact ⟨cell_kept (w := w0.drew) b0 hb3, cell_kept (w := w0.drew) b1 hb3, cell_kept (w := w0.drew) b2 hb3⟩
      | exact ⟨cell_kept (cell_kept (w := w0.drew) b0 hb3) hb4, cell_kept (cell_kept (w := w0.drew) b1 hb3) hb4, cell_kept (cell_kept (w := w0.drew) b2 hb3) hb4⟩)
    (first
      | (go_at_call 63; (with_reducible refine (unhide hL1).mono ?_); rintro e w3 ⟨v3, L3, rfl, ⟨A3, c3, c3', rfl, ho3⟩, hl3, _, _, hb3⟩)
      | (go_at_call 135; (with_reducible refine (unhide (hCO w3 A3 c3 c3' L3 (hb0.drew.trans (hb3.mono hb0.drew.size)) (own_mono ho3 hb0.drew.size) hl3)).mono ?_); rintro e w4 ⟨v4, ok4, M4, rfl, hl4, hm4, hok4, hb4⟩))
  all_goals
    have hB3 := hb0.drew.trans (hb3.mono hb0.drew.size)
    have hB4 := hB3.trans (hb4.mono hB3.size)
    clear b0 b1 b2 k0 hL1 hCO hb3 ho3 hb0
    go_simp
    go_wp2_with fail
    go_ret2
    exact ⟨v4, ok4, M4, rfl, hl4.mono hB3.size, hm4, hok4, hB4⟩

end Go.Proofs.Ytahpipcmgcambaa
