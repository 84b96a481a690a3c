/-
  YtahpipcmgcambaaTl: TilingLow and TilingHigh, of the program and of the reference.
-/
import Derived.Test.YtahpipcmgcambaaQ3
import Derived.Test.YtahpipcmgcambaaHx
import Derived.Deep.RegionHeld3
namespace Go.Proofs.Ytahpipcmgcambaa
open Go.RowKit

/-- The tiling of heights that are picked of those of two tilings. -/
noncomputable def twoV (f : Int → Int → Int) (W T : Int) (bs : List Bool) (a b : List Int) : List Int :=
  if tiledB W T bs a = true ∧ tiledB W T bs b = true then tilH ⟨W.toNat, T.toNat, bs⟩ (List.zipWith f (htsOf W T bs a) (htsOf W T bs b)) else []
noncomputable def twoB (W T : Int) (bs : List Bool) (a b : List Int) : Bool := tiledB W T bs a && tiledB W T bs b
theorem twoV_no1 {f : Int → Int → Int} {W T : Int} {bs : List Bool} {a b : List Int} (h : tiledB W T bs a = false) : twoV f W T bs a b = [] := by unfold twoV; rw [h]; simp
theorem twoV_no2 {f : Int → Int → Int} {W T : Int} {bs : List Bool} {a b : List Int} (h : tiledB W T bs b = false) : twoV f W T bs a b = [] := by unfold twoV; rw [h]; simp
theorem twoV_yes {f : Int → Int → Int} {R : Reg} {a b : List Int} (h : tiledB R.W R.T R.C a = true) (h' : tiledB R.W R.T R.C b = true) : twoV f R.W R.T R.C a b = tilH R (List.zipWith f (htsOf R.W R.T R.C a) (htsOf R.W R.T R.C b)) := by
  unfold twoV; rw [if_pos ⟨h, h'⟩]; rfl
theorem twoV_len {f : Int → Int → Int} {W T : Int} {bs : List Bool} {a b : List Int} : (twoV f W T bs a b).length ≤ 36 := by
  cases h : tiledB W T bs a with
  | false => rw [twoV_no1 h]; simp
  | true =>
    cases h' : tiledB W T bs b with
    | false => rw [twoV_no2 h']; simp
    | true =>
      obtain ⟨R, hR, rfl, rfl, rfl, _⟩ := tiled_cases h
      rw [twoV_yes h h', tilH_len]
      exact (len_bd hR).2

/-- What a choice of heights must keep. -/
def Keeps (f : Int → Int → Int) : Prop := ∀ {R : Reg} {H G : List Int}, R.ok → InConn R → HP R H → HP R G → HP R (List.zipWith f H G)
theorem keeps_min : Keeps min := fun hR hI h g => hp_min hR hI h g
theorem keeps_max : Keeps max := fun hR hI h g => hp_max hR hI h g

def PickAny (fv : Value) (f : Int → Int → Int) : Prop := ∀ (A D : Option Addr) (c d B : Nat) (L M : List Int) (n : Nat) (_ : L.length = n) (_ : M.length = n) (_ : n ≤ 1048576) (w : World) (_ : Reads w B 1 A n (L.map (Value.int .i64))) (_ : Reads w B 1 D n (M.map (Value.int .i64))) (_ : B ≤ w.heap.size),
  Calls Try.prog 82 #[.slice A n c, .slice D n d, fv] w (IntsRet w (List.zipWith f L M))

set_option maxHeartbeats 1000000 in
set_option maxRecDepth 20000 in
theorem bound_any (fv : Value) (f : Int → Int → Int) (hpk0 : PickAny fv f) (hf : Keeps f) (W T : Int) (A : Option Addr) (n c B : Nat) (bs : List Bool) (L1 : List Int) (D1 : Option Addr) (m1 d1 : Nat) (L2 : List Int) (D2 : Option Addr) (m2 d2 : Nat) (w : World) (hbl : bs.length = n) (hL1 : L1.length = m1) (hL2 : L2.length = m2)
    (hr : Reads w B 1 A n (bs.map Value.bool)) (h1 : Reads w B 1 D1 m1 (L1.map (Value.int .i64))) (h2 : Reads w B 1 D2 m2 (L2.map (Value.int .i64))) (hB : B ≤ w.heap.size) (hn : n ≤ 9223372036854775807) (hm1 : m1 ≤ 9223372036854775807) (hm2 : m2 ≤ 9223372036854775807) :
    Calls Try.prog 86 #[.agg #[.int .i64 W, .int .i64 T, .slice A n c], .slice D1 m1 d1, .slice D2 m2 d2, fv] w (RetIB w (twoV f W T bs L1 L2) (twoB W T bs L1 L2)) := by
  have hT1 := fun w' (h : Below w.heap.size w w') => hide (tiled_any W T A n c B bs L1 D1 m1 d1 w' hbl hL1 (hr.below (h.mono hB)) (h1.below (h.mono hB)) (Nat.le_trans hB h.size) hn hm1)
  have hT2 := fun w' (h : Below w.heap.size w w') => hide (tiled_any W T A n c B bs L2 D2 m2 d2 w' hbl hL2 (hr.below (h.mono hB)) (h2.below (h.mono hB)) (Nat.le_trans hB h.size) hn hm2)
  have hb0 : Below w.heap.size w (w.alloc (boxR W T A n c)) := (Below.refl _ _).alloc (Nat.le_refl _) _
  have HPK := Lib.hid hpk0
  clear hpk0
  cases ht1 : tiledB W T bs L1 with
  | false =>
    clear hf
    simp only [ht1] at hT1
    have hb : twoB W T bs L1 L2 = false := by unfold twoB; rw [ht1]; rfl
    rw [twoV_no1 ht1, hb]
    clear hb ht1 hT2
    go_enter Try.func86, Try.ntmps86
    go_wp2_with fail
    refine (unhide (hT1 _ hb0)).mono ?_
    rintro e w1 ⟨rfl, hb1⟩
    go_wp2_with fail
    go_ret2
    exact ⟨none, 0, 0, rfl, ⟨rfl, .inl ⟨rfl, rfl⟩⟩, (box_keep hb1).1⟩
  | true =>
    simp only [ht1] at hT1
    cases ht2 : tiledB W T bs L2 with
    | false =>
      simp only [ht2] at hT2
      have hb : twoB W T bs L1 L2 = false := by unfold twoB; rw [ht1, ht2]; rfl
      rw [twoV_no2 ht2, hb]
      clear hb ht1 ht2
      go_enter Try.func86, Try.ntmps86
      go_wp2_with fail
      refine (unhide (hT1 _ hb0)).mono ?_
      rintro e w1 ⟨rfl, hb1⟩
      obtain ⟨hB1, hk1, b0, b1, b2⟩ := box_keep hb1
      go_wp2_with fail
      refine (unhide (hT2 _ hB1)).mono ?_
      rintro e w2 ⟨rfl, hb2⟩
      go_wp2_with fail
      go_ret2
      exact ⟨none, 0, 0, rfl, ⟨rfl, .inl ⟨rfl, rfl⟩⟩, hB1.trans (hb2.mono hB1.size)⟩
    | true =>
      simp only [ht2] at hT2
      have hb : twoB W T bs L1 L2 = true := by unfold twoB; rw [ht1, ht2]; rfl
      obtain ⟨R, hR, rfl, rfl, rfl, hS, hLy1, hF1⟩ := tiled_cases ht1
      obtain ⟨_, hLy2, hF2⟩ := (tiled_ok hR).1 ht2
      have hH1 := htsOf_yes hR hS hLy1 hF1
      have hH2 := htsOf_yes hR hS hLy2 hF2
      have hZP := hf hR hS.1 (htsOf_hp hR ht1) (htsOf_hp hR ht2)
      have hres : twoV f R.W R.T R.C L1 L2 = byTo R (List.zipWith f (htsOf R.W R.T R.C L1) (htsOf R.W R.T R.C L2)) (sidesOf R).length := by rw [twoV_yes ht1 ht2, byTo_til hR hS hZP]
      rw [hres, hb]
      subst hbl hL1 hL2
      have hHT1 := fun w' (h : Below w.heap.size w w') => hide (heights_any R hR hS A c B L1 D1 d1 hLy1 hF1 _ hH1 w' (hr.below (h.mono hB)) (h1.below (h.mono hB)) (Nat.le_trans hB h.size))
      have hHT2 := fun w' (h : Below w.heap.size w w') => hide (heights_any R hR hS A c B L2 D2 d2 hLy2 hF2 _ hH2 w' (hr.below (h.mono hB)) (h2.below (h.mono hB)) (Nat.le_trans hB h.size))
      have hX := hH1.len
      have hY := hH2.len
      generalize htsOf R.W R.T R.C L1 = X at *
      generalize htsOf R.W R.T R.C L2 = Y at *
      have hcn := cn_bd hR
      obtain ⟨Z, hZ⟩ : ∃ Z, Z = List.zipWith f X Y := ⟨_, rfl⟩
      rw [← hZ] at hZP ⊢
      have hzl : Z.length = R.cn := hZP.len
      have hHT1' : ∀ w', Below w.heap.size w w' → Hid (Calls Try.prog 81 #[.agg #[.int .i64 R.W, .int .i64 R.T, .slice A R.C.length c], .slice D1 L1.length d1] w' fun e w'' => ∃ g, e = .returned (.slice (some ⟨g, 0, none⟩) R.cn R.cn) ∧ Reads w'' w''.heap.size 1 (some ⟨g, 0, none⟩) R.cn (X.map (Value.int .i64)) ∧ Below w'.heap.size w' w'') := fun w' h => hide ((unhide (hHT1 w' h)).mono fun e w'' hh => by
        obtain ⟨g, rfl, ho, hb⟩ := hh
        rw [hX] at ho ⊢
        exact ⟨g, rfl, Reads.of_own ho, hb⟩)
      have hHT2' : ∀ w', Below w.heap.size w w' → Hid (Calls Try.prog 81 #[.agg #[.int .i64 R.W, .int .i64 R.T, .slice A R.C.length c], .slice D2 L2.length d2] w' fun e w'' => ∃ g, e = .returned (.slice (some ⟨g, 0, none⟩) R.cn R.cn) ∧ Reads w'' w''.heap.size 1 (some ⟨g, 0, none⟩) R.cn (Y.map (Value.int .i64)) ∧ Below w'.heap.size w' w'') := fun w' h => hide ((unhide (hHT2 w' h)).mono fun e w'' hh => by
        obtain ⟨g, rfl, ho, hb⟩ := hh
        rw [hY] at ho ⊢
        exact ⟨g, rfl, Reads.of_own ho, hb⟩)
      have hpk' : ∀ (g3 g4 : Nat) w', Reads w' w'.heap.size 1 (some ⟨g3, 0, none⟩) R.cn (X.map (Value.int .i64)) → Reads w' w'.heap.size 1 (some ⟨g4, 0, none⟩) R.cn (Y.map (Value.int .i64)) →
          Hid (Calls Try.prog 82 #[.slice (some ⟨g3, 0, none⟩) R.cn R.cn, .slice (some ⟨g4, 0, none⟩) R.cn R.cn, fv] w' fun e w'' => ∃ g, e = .returned (.slice (some ⟨g, 0, none⟩) R.cn R.cn) ∧ Reads w'' w''.heap.size 1 (some ⟨g, 0, none⟩) R.cn (Z.map (Value.int .i64)) ∧ Below w'.heap.size w' w'') := by
        intro g3 g4 w' a b
        refine hide ((HPK.out (some ⟨g3, 0, none⟩) (some ⟨g4, 0, none⟩) R.cn R.cn w'.heap.size X Y R.cn hX hY (by omega) w' a b (Nat.le_refl _)).mono fun e w'' hh => ?_)
        obtain ⟨g, rfl, ho, hb⟩ := hh
        rw [← hZ, hzl] at ho ⊢
        exact ⟨g, rfl, Reads.of_own ho, hb⟩
      have hBY := fun (g5 : Nat) w' (h : Below w.heap.size w w') (ha : Reads w' w'.heap.size 1 (some ⟨g5, 0, none⟩) R.cn (Z.map (Value.int .i64))) => hide (by_any R hR A c w'.heap.size Z ⟨g5, 0, none⟩ R.cn (hok_of_hp hR hS hZP) w' ((hr.below (h.mono hB)).more (Nat.le_trans hB h.size)) ha (Nat.le_refl _))
      clear hres ht1 ht2 hH1 hH2 hX hY hZ hHT1 hHT2 hzl hZP hb hf
      go_enter Try.func86, Try.ntmps86
      go_wp2_with fail
      refine (unhide (hT1 _ hb0)).mono ?_
      rintro e w1 ⟨rfl, hb1⟩
      obtain ⟨hB1, hk1, b0, b1, b2⟩ := box_keep hb1
      go_wp2_with fail
      refine (unhide (hT2 _ hB1)).mono ?_
      rintro e w2 ⟨rfl, hb2⟩
      have hB2 := hB1.trans (hb2.mono hB1.size)
      clear b0 b1 b2
      obtain ⟨hk2, b0, b1, b2⟩ := blk_keep hk1 hb2
      clear hk1 hb1 hb2 hB1 hT1 hT2
      go_upto_region 3 with fail
      go_region_held3 (fun w' => w'.cell? ⟨w.heap.size, 0, none⟩ = some (.int .i64 R.W) ∧ w'.cell? ⟨w.heap.size, 1, none⟩ = some (.int .i64 R.T) ∧ w'.cell? ⟨w.heap.size, 2, none⟩ = some (.slice A R.C.length c))
        (first
          | exact ⟨b0, b1, b2⟩
          | exact ⟨cell_kept (w := w2.drew) b0 hb3, cell_kept (w := w2.drew) b1 hb3, cell_kept (w := w2.drew) b2 hb3⟩
          | exact ⟨cell_kept (cell_kept (w := w2.drew) b0 hb3) hb4, cell_kept (cell_kept (w := w2.drew) b1 hb3) hb4, cell_kept (cell_kept (w := w2.drew) b2 hb3) hb4⟩
          | exact ⟨cell_kept (cell_kept (cell_kept (w := w2.drew) b0 hb3) hb4) hb5, cell_kept (cell_kept (cell_kept (w := w2.drew) b1 hb3) hb4) hb5, cell_kept (cell_kept (cell_kept (w := w2.drew) b2 hb3) hb4) hb5⟩
          | exact ⟨cell_kept (cell_kept (cell_kept (cell_kept (w := w2.drew) b0 hb3) hb4) hb5) hb6, cell_kept (cell_kept (cell_kept (cell_kept (w := w2.drew) b1 hb3) hb4) hb5) hb6, cell_kept (cell_kept (cell_kept (cell_kept (w := w2.drew) b2 hb3) hb4) hb5) hb6⟩)
        (first
          | (go_at_call 81; (with_reducible refine (unhide (hHT1' _ hB2.drew)).mono ?_); rintro e w3 ⟨g3, rfl, hr3, hb3⟩)
          | (go_at_call 81; (with_reducible refine (unhide (hHT2' _ (hB2.drew.trans (hb3.mono hB2.drew.size)))).mono ?_); rintro e w4 ⟨g4, rfl, hr4, hb4⟩)
          | (go_at_call 82; (with_reducible refine (unhide (hpk' _ _ _ ((hr3.below hb4).more hb4.size) hr4)).mono ?_); rintro e w5 ⟨g5, rfl, hr5, hb5⟩)
          | (go_at_call 62; (with_reducible refine (unhide (hBY _ _ ((hB2.drew.trans (hb3.mono hB2.drew.size)).trans (Below.mono (hb4.trans (hb5.mono hb4.size)) (hB2.drew.trans (hb3.mono hB2.drew.size)).size)) hr5)).mono ?_); rintro e w6 ⟨g6, rfl, ho6, hb6⟩))
      have hB3 := hB2.drew.trans (hb3.mono hB2.drew.size)
      have hB4 := hB3.trans (hb4.mono hB3.size)
      have hB5 := hB4.trans (hb5.mono hB4.size)
      go_wp2_with fail
      go_ret2
      exact ⟨_, _, _, rfl, own_mono ho6 hB5.size, hB5.trans (hb6.mono hB5.size)⟩

theorem pickLesser : PickAny (.func (.func 84) #[] #[]) min := fun A D c d B L M n h1 h2 h3 w h4 h5 h6 => pick_lesser A D c d B L M n h1 h2 h3 w h4 h5 h6
theorem pickGreater : PickAny (.func (.func 83) #[] #[]) max := fun A D c d B L M n h1 h2 h3 w h4 h5 h6 => pick_greater A D c d B L M n h1 h2 h3 w h4 h5 h6

theorem tilingLowI_any (W T : Int) (A : Option Addr) (n c B : Nat) (bs : List Bool) (L1 : List Int) (D1 : Option Addr) (m1 d1 : Nat) (L2 : List Int) (D2 : Option Addr) (m2 d2 : Nat) (w : World) (hbl : bs.length = n) (hL1 : L1.length = m1) (hL2 : L2.length = m2)
    (hr : Reads w B 1 A n (bs.map Value.bool)) (h1 : Reads w B 1 D1 m1 (L1.map (Value.int .i64))) (h2 : Reads w B 1 D2 m2 (L2.map (Value.int .i64))) (hB : B ≤ w.heap.size) (hn : n ≤ 9223372036854775807) (hm1 : m1 ≤ 9223372036854775807) (hm2 : m2 ≤ 9223372036854775807) :
    Calls Try.prog 37 #[.agg #[.int .i64 W, .int .i64 T, .slice A n c], .slice D1 m1 d1, .slice D2 m2 d2] w (RetIB w (twoV min W T bs L1 L2) (twoB W T bs L1 L2)) := by
  have hb0 : Below w.heap.size w (w.alloc (boxR W T A n c)) := (Below.refl _ _).alloc (Nat.le_refl _) _
  have HB := hide (bound_any _ _ pickLesser keeps_min W T A n c B bs L1 D1 m1 d1 L2 D2 m2 d2 _ hbl hL1 hL2 (hr.below (hb0.mono hB)) (h1.below (hb0.mono hB)) (h2.below (hb0.mono hB)) (Nat.le_trans hB hb0.size) hn hm1 hm2)
  go_enter Try.func37, Try.ntmps37
  go_wp2_with fail
  refine (unhide HB).mono ?_
  rintro e w1 ⟨Ar, c1, c2, rfl, ho, hb1⟩
  go_wp2_with fail
  go_ret2
  exact ⟨_, _, _, rfl, own_mono ho hb0.size, hb0.trans (hb1.mono hb0.size)⟩

theorem tilingHighI_any (W T : Int) (A : Option Addr) (n c B : Nat) (bs : List Bool) (L1 : List Int) (D1 : Option Addr) (m1 d1 : Nat) (L2 : List Int) (D2 : Option Addr) (m2 d2 : Nat) (w : World) (hbl : bs.length = n) (hL1 : L1.length = m1) (hL2 : L2.length = m2)
    (hr : Reads w B 1 A n (bs.map Value.bool)) (h1 : Reads w B 1 D1 m1 (L1.map (Value.int .i64))) (h2 : Reads w B 1 D2 m2 (L2.map (Value.int .i64))) (hB : B ≤ w.heap.size) (hn : n ≤ 9223372036854775807) (hm1 : m1 ≤ 9223372036854775807) (hm2 : m2 ≤ 9223372036854775807) :
    Calls Try.prog 32 #[.agg #[.int .i64 W, .int .i64 T, .slice A n c], .slice D1 m1 d1, .slice D2 m2 d2] w (RetIB w (twoV max W T bs L1 L2) (twoB W T bs L1 L2)) := by
  have hb0 : Below w.heap.size w (w.alloc (boxR W T A n c)) := (Below.refl _ _).alloc (Nat.le_refl _) _
  have HB := hide (bound_any _ _ pickGreater keeps_max W T A n c B bs L1 D1 m1 d1 L2 D2 m2 d2 _ hbl hL1 hL2 (hr.below (hb0.mono hB)) (h1.below (hb0.mono hB)) (h2.below (hb0.mono hB)) (Nat.le_trans hB hb0.size) hn hm1 hm2)
  go_enter Try.func32, Try.ntmps32
  go_wp2_with fail
  refine (unhide HB).mono ?_
  rintro e w1 ⟨Ar, c1, c2, rfl, ho, hb1⟩
  go_wp2_with fail
  go_ret2
  exact ⟨_, _, _, rfl, own_mono ho hb0.size, hb0.trans (hb1.mono hb0.size)⟩

/-! ### The reference -/
theorem htsOf_mty {W T : Int} {bs : List Bool} {L : List Int} (h : tiledB W T bs L = false) : hokB W T bs (htsOf W T bs L) = false := by rw [htsOf_no h, hokB_nil]
theorem htsOf_hok {W T : Int} {bs : List Bool} {L : List Int} (h : tiledB W T bs L = true) : hokB W T bs (htsOf W T bs L) = true := by
  obtain ⟨R, hR, rfl, rfl, rfl, hS, _⟩ := tiled_cases h
  exact (hokB_hp hR hS).2 (htsOf_hp hR h)
theorem low_val (W T : Int) (bs : List Bool) (a b : List Int) :
    byV W T bs (lowL W T bs (htsOf W T bs a) (htsOf W T bs b)) = twoV min W T bs a b ∧ hokB W T bs (lowL W T bs (htsOf W T bs a) (htsOf W T bs b)) = twoB W T bs a b := by
  cases h : tiledB W T bs a with
  | false =>
    rw [lowL_a (htsOf_mty h), twoV_no1 h, byV_no (hokB_nil _ _ _), hokB_nil]
    exact ⟨rfl, by unfold twoB; rw [h]; rfl⟩
  | true =>
    cases h' : tiledB W T bs b with
    | false =>
      rw [lowL_b (htsOf_mty h'), twoV_no2 h', byV_no (hokB_nil _ _ _), hokB_nil]
      exact ⟨rfl, by unfold twoB; rw [h, h']; rfl⟩
    | true =>
      rw [lowL_yes (htsOf_hok h) (htsOf_hok h')]
      obtain ⟨R, hR, rfl, rfl, rfl, hS, _⟩ := tiled_cases h
      have hZ := hp_min hR hS.1 (htsOf_hp hR h) (htsOf_hp hR h')
      rw [twoV_yes h h', byV_til hR hS hZ, (hokB_hp hR hS).2 hZ]
      exact ⟨rfl, by unfold twoB; rw [h, h']; rfl⟩
theorem high_val (W T : Int) (bs : List Bool) (a b : List Int) :
    byV W T bs (highL W T bs (htsOf W T bs a) (htsOf W T bs b)) = twoV max W T bs a b ∧ hokB W T bs (highL W T bs (htsOf W T bs a) (htsOf W T bs b)) = twoB W T bs a b := by
  cases h : tiledB W T bs a with
  | false =>
    rw [highL_a (htsOf_mty h), twoV_no1 h, byV_no (hokB_nil _ _ _), hokB_nil]
    exact ⟨rfl, by unfold twoB; rw [h]; rfl⟩
  | true =>
    cases h' : tiledB W T bs b with
    | false =>
      rw [highL_b (htsOf_mty h'), twoV_no2 h', byV_no (hokB_nil _ _ _), hokB_nil]
      exact ⟨rfl, by unfold twoB; rw [h, h']; rfl⟩
    | true =>
      rw [highL_yes (htsOf_hok h) (htsOf_hok h')]
      obtain ⟨R, hR, rfl, rfl, rfl, hS, _⟩ := tiled_cases h
      have hZ := hp_max hR hS.1 (htsOf_hp hR h) (htsOf_hp hR h')
      rw [twoV_yes h h', byV_til hR hS hZ, (hokB_hp hR hS).2 hZ]
      exact ⟨rfl, by unfold twoB; rw [h, h']; rfl⟩

set_option maxHeartbeats 1000000 in
set_option maxRecDepth 20000 in
theorem tilingLowS_any (W T : Int) (A : Option Addr) (n c B : Nat) (bs : List Bool) (L1 : List Int) (D1 : Option Addr) (m1 d1 : Nat) (L2 : List Int) (D2 : Option Addr) (m2 d2 : Nat) (w : World) (hbl : bs.length = n) (hL1 : L1.length = m1) (hL2 : L2.length = m2)
    (hr : Reads w B 1 A n (bs.map Value.bool)) (h1 : Reads w B 1 D1 m1 (L1.map (Value.int .i64))) (h2 : Reads w B 1 D2 m2 (L2.map (Value.int .i64))) (hB : B ≤ w.heap.size) (hn : n ≤ 9223372036854775807) (hm1 : m1 ≤ 9223372036854775807) (hm2 : m2 ≤ 9223372036854775807) :
    Calls Try.prog 88 #[.agg #[.int .i64 W, .int .i64 T, .slice A n c], .slice D1 m1 d1, .slice D2 m2 d2] w (RetIB w (twoV min W T bs L1 L2) (twoB W T bs L1 L2)) := by
  have hT1 := fun w' (h : Below w.heap.size w w') => hide (heightsOfS_any W T A n c B bs L1 D1 m1 d1 w' hbl hL1 (hr.below (h.mono hB)) (h1.below (h.mono hB)) (Nat.le_trans hB h.size) hn hm1)
  have hT2 := fun w' (h : Below w.heap.size w w') => hide (heightsOfS_any W T A n c B bs L2 D2 m2 d2 w' hbl hL2 (hr.below (h.mono hB)) (h2.below (h.mono hB)) (Nat.le_trans hB h.size) hn hm2)
  obtain ⟨hv1, hv2⟩ := low_val W T bs L1 L2
  have hl1 := htsOf_len (W := W) (T := T) (bs := bs) (L := L1)
  have hl2 := htsOf_len (W := W) (T := T) (bs := bs) (L := L2)
  have hl3 : (lowL W T bs (htsOf W T bs L1) (htsOf W T bs L2)).length ≤ 49 := Nat.le_trans lowL_len hl1
  obtain ⟨X, hX⟩ : ∃ X, X = htsOf W T bs L1 := ⟨_, rfl⟩
  obtain ⟨Y, hY⟩ : ∃ Y, Y = htsOf W T bs L2 := ⟨_, rfl⟩
  rw [← hX, ← hY] at hv1 hv2 hl3
  rw [← hX] at hl1
  rw [← hY] at hl2
  simp only [← hX] at hT1
  simp only [← hY] at hT2
  obtain ⟨Z, hZ⟩ : ∃ Z, Z = lowL W T bs X Y := ⟨_, rfl⟩
  rw [← hZ] at hv1 hv2 hl3
  have hLO : ∀ (w' : World) (E3 E4 : Option Addr) (c3 c4 : Nat), Below w.heap.size w w' → Reads w' w'.heap.size 1 E3 X.length (X.map (Value.int .i64)) → Reads w' w'.heap.size 1 E4 Y.length (Y.map (Value.int .i64)) →
      Hid (Calls Try.prog 30 #[.agg #[.int .i64 W, .int .i64 T, .slice A n c], .slice E3 X.length c3, .slice E4 Y.length c4] w' (RetInts w' Z)) := fun w' E3 E4 c3 c4 h ha hb => by
    rw [hZ]
    exact hide (lowS_any W T A n c w'.heap.size bs X E3 X.length c3 Y E4 Y.length c4 w' hbl rfl rfl ((hr.below (h.mono hB)).more (Nat.le_trans hB h.size)) ha hb (Nat.le_refl _) hn (by omega) (by omega))
  have hTB : ∀ (w' : World) (E3 : Option Addr) (c3 : Nat), Below w.heap.size w w' → Reads w' w'.heap.size 1 E3 Z.length (Z.map (Value.int .i64)) →
      Hid (Calls Try.prog 17 #[.agg #[.int .i64 W, .int .i64 T, .slice A n c], .slice E3 Z.length c3] w' (RetIB w' (twoV min W T bs L1 L2) (twoB W T bs L1 L2))) := fun w' E3 c3 h ha => by
    rw [← hv1, ← hv2]
    exact hide (tilingByS_any W T A n c w'.heap.size bs Z E3 Z.length c3 w' hbl rfl ((hr.below (h.mono hB)).more (Nat.le_trans hB h.size)) ha (Nat.le_refl _) hn (by omega))
  obtain ⟨hb0, hk0, b0, b1, b2⟩ := box_keep (w := w) (W := W) (T := T) (A := A) (n := n) (c := c) (Below.refl _ _)
  clear hv1 hv2 hl1 hl2 hl3 hX hY hZ hk0
  go_enter Try.func88, Try.ntmps88
  go_upto_region 1 with fail
  generalize w.alloc (boxR W T A n c) = w2 at *
  go_region_held3 (fun w' => w'.cell? ⟨w.heap.size, 0, none⟩ = some (.int .i64 W) ∧ w'.cell? ⟨w.heap.size, 1, none⟩ = some (.int .i64 T) ∧ w'.cell? ⟨w.heap.size, 2, none⟩ = some (.slice A n c))
    (first
      | exact ⟨b0, b1, b2⟩
      | exact ⟨cell_kept (w := w2.drew) b0 hb3, cell_kept (w := w2.drew) b1 hb3, cell_kept (w := w2.drew) b2 hb3⟩
      | exact ⟨cell_kept (cell_kept (w := w2.drew) b0 hb3) hb4, cell_kept (cell_kept (w := w2.drew) b1 hb3) hb4, cell_kept (cell_kept (w := w2.drew) b2 hb3) hb4⟩
      | exact ⟨cell_kept (cell_kept (cell_kept (w := w2.drew) b0 hb3) hb4) hb5, cell_kept (cell_kept (cell_kept (w := w2.drew) b1 hb3) hb4) hb5, cell_kept (cell_kept (cell_kept (w := w2.drew) b2 hb3) hb4) hb5⟩
      | exact ⟨cell_kept (cell_kept (cell_kept (cell_kept (w := w2.drew) b0 hb3) hb4) hb5) hb6, cell_kept (cell_kept (cell_kept (cell_kept (w := w2.drew) b1 hb3) hb4) hb5) hb6, cell_kept (cell_kept (cell_kept (cell_kept (w := w2.drew) b2 hb3) hb4) hb5) hb6⟩)
    (first
      | (go_at_call 56; (with_reducible refine (unhide (hT1 _ hb0.drew)).mono ?_); rintro e w3 ⟨A3, c3, rfl, _, ho3, hb3⟩)
      | (go_at_call 56; (with_reducible refine (unhide (hT2 _ (hb0.drew.trans (hb3.mono hb0.drew.size)))).mono ?_); rintro e w4 ⟨A4, c4, rfl, _, ho4, hb4⟩)
      | (go_at_call 30; (with_reducible refine (unhide (hLO _ _ _ _ _ ((hb0.drew.trans (hb3.mono hb0.drew.size)).trans (hb4.mono (hb0.drew.trans (hb3.mono hb0.drew.size)).size)) (((Reads.of_own ho3).below hb4).more hb4.size) (Reads.of_own ho4))).mono ?_); rintro e w5 ⟨A5, c5, c5', rfl, ho5, hb5⟩)
      | (go_at_call 17; (with_reducible refine (unhide (hTB _ _ _ ((hb0.drew.trans (hb3.mono hb0.drew.size)).trans (Below.mono (hb4.trans (hb5.mono hb4.size)) (hb0.drew.trans (hb3.mono hb0.drew.size)).size)) (Reads.of_own ho5))).mono ?_); rintro e w6 ⟨A6, c6, c6', rfl, ho6, hb6⟩))
  have hB3 := hb0.drew.trans (hb3.mono hb0.drew.size)
  have hB4 := hB3.trans (hb4.mono hB3.size)
  have hB5 := hB4.trans (hb5.mono hB4.size)
  go_wp2_with fail
  go_ret2
  exact ⟨_, _, _, rfl, own_mono ho6 hB5.size, hB5.trans (hb6.mono hB5.size)⟩

set_option maxHeartbeats 1000000 in
set_option maxRecDepth 20000 in
theorem tilingHighS_any (W T : Int) (A : Option Addr) (n c B : Nat) (bs : List Bool) (L1 : List Int) (D1 : Option Addr) (m1 d1 : Nat) (L2 : List Int) (D2 : Option Addr) (m2 d2 : Nat) (w : World) (hbl : bs.length = n) (hL1 : L1.length = m1) (hL2 : L2.length = m2)
    (hr : Reads w B 1 A n (bs.map Value.bool)) (h1 : Reads w B 1 D1 m1 (L1.map (Value.int .i64))) (h2 : Reads w B 1 D2 m2 (L2.map (Value.int .i64))) (hB : B ≤ w.heap.size) (hn : n ≤ 9223372036854775807) (hm1 : m1 ≤ 9223372036854775807) (hm2 : m2 ≤ 9223372036854775807) :
    Calls Try.prog 33 #[.agg #[.int .i64 W, .int .i64 T, .slice A n c], .slice D1 m1 d1, .slice D2 m2 d2] w (RetIB w (twoV max W T bs L1 L2) (twoB W T bs L1 L2)) := by
  have hT1 := fun w' (h : Below w.heap.size w w') => hide (heightsOfS_any W T A n c B bs L1 D1 m1 d1 w' hbl hL1 (hr.below (h.mono hB)) (h1.below (h.mono hB)) (Nat.le_trans hB h.size) hn hm1)
  have hT2 := fun w' (h : Below w.heap.size w w') => hide (heightsOfS_any W T A n c B bs L2 D2 m2 d2 w' hbl hL2 (hr.below (h.mono hB)) (h2.below (h.mono hB)) (Nat.le_trans hB h.size) hn hm2)
  obtain ⟨hv1, hv2⟩ := high_val W T bs L1 L2
  have hl1 := htsOf_len (W := W) (T := T) (bs := bs) (L := L1)
  have hl2 := htsOf_len (W := W) (T := T) (bs := bs) (L := L2)
  have hl3 : (highL W T bs (htsOf W T bs L1) (htsOf W T bs L2)).length ≤ 49 := Nat.le_trans highL_len hl1
  obtain ⟨X, hX⟩ : ∃ X, X = htsOf W T bs L1 := ⟨_, rfl⟩
  obtain ⟨Y, hY⟩ : ∃ Y, Y = htsOf W T bs L2 := ⟨_, rfl⟩
  rw [← hX, ← hY] at hv1 hv2 hl3
  rw [← hX] at hl1
  rw [← hY] at hl2
  simp only [← hX] at hT1
  simp only [← hY] at hT2
  obtain ⟨Z, hZ⟩ : ∃ Z, Z = highL W T bs X Y := ⟨_, rfl⟩
  rw [← hZ] at hv1 hv2 hl3
  have hLO : ∀ (w' : World) (E3 E4 : Option Addr) (c3 c4 : Nat), Below w.heap.size w w' → Reads w' w'.heap.size 1 E3 X.length (X.map (Value.int .i64)) → Reads w' w'.heap.size 1 E4 Y.length (Y.map (Value.int .i64)) →
      Hid (Calls Try.prog 27 #[.agg #[.int .i64 W, .int .i64 T, .slice A n c], .slice E3 X.length c3, .slice E4 Y.length c4] w' (RetInts w' Z)) := fun w' E3 E4 c3 c4 h ha hb => by
    rw [hZ]
    exact hide (highS_any W T A n c w'.heap.size bs X E3 X.length c3 Y E4 Y.length c4 w' hbl rfl rfl ((hr.below (h.mono hB)).more (Nat.le_trans hB h.size)) ha hb (Nat.le_refl _) hn (by omega) (by omega))
  have hTB : ∀ (w' : World) (E3 : Option Addr) (c3 : Nat), Below w.heap.size w w' → Reads w' w'.heap.size 1 E3 Z.length (Z.map (Value.int .i64)) →
      Hid (Calls Try.prog 17 #[.agg #[.int .i64 W, .int .i64 T, .slice A n c], .slice E3 Z.length c3] w' (RetIB w' (twoV max W T bs L1 L2) (twoB W T bs L1 L2))) := fun w' E3 c3 h ha => by
    rw [← hv1, ← hv2]
    exact hide (tilingByS_any W T A n c w'.heap.size bs Z E3 Z.length c3 w' hbl rfl ((hr.below (h.mono hB)).more (Nat.le_trans hB h.size)) ha (Nat.le_refl _) hn (by omega))
  obtain ⟨hb0, hk0, b0, b1, b2⟩ := box_keep (w := w) (W := W) (T := T) (A := A) (n := n) (c := c) (Below.refl _ _)
  clear hv1 hv2 hl1 hl2 hl3 hX hY hZ hk0
  go_enter Try.func33, Try.ntmps33
  go_upto_region 1 with fail
  generalize w.alloc (boxR W T A n c) = w2 at *
  go_region_held3 (fun w' => w'.cell? ⟨w.heap.size, 0, none⟩ = some (.int .i64 W) ∧ w'.cell? ⟨w.heap.size, 1, none⟩ = some (.int .i64 T) ∧ w'.cell? ⟨w.heap.size, 2, none⟩ = some (.slice A n c))
    (first
      | exact ⟨b0, b1, b2⟩
      | exact ⟨cell_kept (w := w2.drew) b0 hb3, cell_kept (w := w2.drew) b1 hb3, cell_kept (w := w2.drew) b2 hb3⟩
      | exact ⟨cell_kept (cell_kept (w := w2.drew) b0 hb3) hb4, cell_kept (cell_kept (w := w2.drew) b1 hb3) hb4, cell_kept (cell_kept (w := w2.drew) b2 hb3) hb4⟩
      | exact ⟨cell_kept (cell_kept (cell_kept (w := w2.drew) b0 hb3) hb4) hb5, cell_kept (cell_kept (cell_kept (w := w2.drew) b1 hb3) hb4) hb5, cell_kept (cell_kept (cell_kept (w := w2.drew) b2 hb3) hb4) hb5⟩
      | exact ⟨cell_kept (cell_kept (cell_kept (cell_kept (w := w2.drew) b0 hb3) hb4) hb5) hb6, cell_kept (cell_kept (cell_kept (cell_kept (w := w2.drew) b1 hb3) hb4) hb5) hb6, cell_kept (cell_kept (cell_kept (cell_kept (w := w2.drew) b2 hb3) hb4) hb5) hb6⟩)
    (first
      | (go_at_call 56; (with_reducible refine (unhide (hT1 _ hb0.drew)).mono ?_); rintro e w3 ⟨A3, c3, rfl, _, ho3, hb3⟩)
      | (go_at_call 56; (with_reducible refine (unhide (hT2 _ (hb0.drew.trans (hb3.mono hb0.drew.size)))).mono ?_); rintro e w4 ⟨A4, c4, rfl, _, ho4, hb4⟩)
      | (go_at_call 27; (with_reducible refine (unhide (hLO _ _ _ _ _ ((hb0.drew.trans (hb3.mono hb0.drew.size)).trans (hb4.mono (hb0.drew.trans (hb3.mono hb0.drew.size)).size)) (((Reads.of_own ho3).below hb4).more hb4.size) (Reads.of_own ho4))).mono ?_); rintro e w5 ⟨A5, c5, c5', rfl, ho5, hb5⟩)
      | (go_at_call 17; (with_reducible refine (unhide (hTB _ _ _ ((hb0.drew.trans (hb3.mono hb0.drew.size)).trans (Below.mono (hb4.trans (hb5.mono hb4.size)) (hb0.drew.trans (hb3.mono hb0.drew.size)).size)) (Reads.of_own ho5))).mono ?_); rintro e w6 ⟨A6, c6, c6', rfl, ho6, hb6⟩))
  have hB3 := hb0.drew.trans (hb3.mono hb0.drew.size)
  have hB4 := hB3.trans (hb4.mono hB3.size)
  have hB5 := hB4.trans (hb5.mono hB4.size)
  go_wp2_with fail
  go_ret2
  exact ⟨_, _, _, rfl, own_mono ho6 hB5.size, hB5.trans (hb6.mono hB5.size)⟩

end Go.Proofs.Ytahpipcmgcambaa
