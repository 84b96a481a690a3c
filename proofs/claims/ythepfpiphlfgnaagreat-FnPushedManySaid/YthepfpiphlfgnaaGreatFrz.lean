/-
  YthepfpiphlfgnaaGreatFrz: the texts Fr, Fs, Fq in one file.
-/
import Derived.Deep.RegionHeld3
import Derived.OpenShut
import Derived.Test.YthepfpiphlfgnaaGreatFlz
import Derived.Test.YthepfpiphlfgnaaGreatBl
import Derived.Test.YthepfpiphlfgnaaGreatHS
import Derived.Test.YthepfpiphlfgnaaGreatRb

/-
  YthepfpiphlfgnaaGreatFr: by how much a flip changes a height: the program's rise and FlipRise.
-/
namespace Go.Proofs.YthepfpiphlfgnaaGreat
open Go.RowKit

def rsZ (R : Reg) (L : List Int) (k : Int) : Int := if 0 ≤ k then rsV R L k.toNat else 0
theorem rsZ_no {R : Reg} {L : List Int} {k : Int} (h : flB R L k = false) : rsZ R L k = 0 := by
  unfold rsZ
  split
  · rename_i h0
    obtain ⟨m, rfl⟩ := Int.eq_ofNat_of_zero_le h0
    exact rsV_no h
  · rfl
theorem flB_nat {R : Reg} {L : List Int} {k : Int} (h : flB R L k = true) : ∃ m : Nat, k = (m : Nat) ∧ m < R.cn ∧ rsZ R L k = rsV R L m := by
  obtain ⟨a, b, ha, hb, rfl, _⟩ := fl_cases h
  exact ⟨_, rfl, ci_lt (by omega) (by omega), by unfold rsZ; rw [if_pos (by omega), Int.toNat_natCast]⟩

set_option maxHeartbeats 1000000 in
set_option maxRecDepth 20000 in
theorem rise_ok (R : Reg) (hR : R.ok) (hS : SimpleP R) (A : Option Addr) (c B : Nat) (L : List Int) (D : Option Addr) (d : Nat) (k : Int) (hk9 : k ≤ 9223372036854775807) (hP : Plain D) (hL : Lay R L) (hF : Full R L) (w : World)
    (hr : Reads w B 1 A R.C.length (R.C.map Value.bool)) (hd : Reads w B 1 D R.C.length (L.map (Value.int .i64))) (hB : B ≤ w.heap.size) :
    Calls Tryz.prog 70 #[.agg #[.int .i64 R.W, .int .i64 R.T, .slice A R.C.length c], .slice D R.C.length d, .int .i64 k] w fun e w' => e = .returned (.int .i64 (rsZ R L k)) ∧ Below w.heap.size w w' := by
  have hcn := cn_bd hR
  have hb0 : Below w.heap.size w (w.alloc (boxR R.W R.T A R.C.length c)) := (Below.refl _ _).alloc (Nat.le_refl _) _
  have HFL := hide (flip_any R hR A R.C.length c B L D d k hk9 hP hL.len (w.alloc (boxR R.W R.T A R.C.length c)) (hd.alloc hB _) (Nat.le_trans hB hb0.size))
  cases hfl : flB R L k with
  | false =>
    rw [hfl] at HFL
    rw [rsZ_no hfl]
    clear hfl
    go_enter Tryz.func70, Tryz.ntmps70
    go_wp2_with fail
    refine (unhide HFL).mono ?_
    rintro e w1 ⟨A1, c1, c1', rfl, ho1, hb1⟩
    go_wp2_with fail
    go_ret
    exact ⟨rfl, (box_keep hb1).1⟩
  | true =>
    obtain ⟨m, rfl, hm, hrs⟩ := flB_nat hfl
    rw [hrs]
    have hH := htsOf_yes hR hS hL hF
    have hL2 := lay_flV hR hL (m : Int)
    have hF2 := (full_flV hR hL (m : Int)).2 hF
    have hH2 := hts_flV hR hL hH hfl
    generalize htsOf R.W R.T R.C L = H at *
    have hb1 := ht_le hR hS.1 (hp_of_hts hL hH) (x := m % (R.W + 1)) (y := m / (R.W + 1)) (ci_in hm).1 (ci_in hm).2
    unfold Reg.ht at hb1
    rw [ci_of] at hb1
    have hor := rsV_or hfl
    have hg : (H.set m (H.getD m 0 + rsV R L m)).getD m 0 = H.getD m 0 + rsV R L m := by rw [getD_set (by rw [hH.len]; exact hm), if_pos rfl]
    have hlen2 : (flV R L (m : Int)).length = R.C.length := by rw [flV_len]; exact hL.len
    rw [hfl] at HFL
    have hHT1 : ∀ (w' : World) (E : Option Addr) (e1 : Nat), Below w.heap.size w w' → Reads w' w'.heap.size 1 E R.C.length ((flV R L (m : Int)).map (Value.int .i64)) →
        Hid (Calls Tryz.prog 91 #[.agg #[.int .i64 R.W, .int .i64 R.T, .slice A R.C.length c], .slice E R.C.length e1] w' fun e w'' => ∃ g, e = .returned (.slice (some ⟨g, 0, none⟩) R.cn R.cn) ∧ w''.cell? ⟨g, m, none⟩ = some (.int .i64 (H.getD m 0 + rsV R L m)) ∧ Below w'.heap.size w' w'') := fun w' E e1 h ha => by
      have := heights_any R hR hS A c w'.heap.size (flV R L (m : Int)) E e1 hL2 hF2 _ hH2 w' ((hr.below (h.mono hB)).more (Nat.le_trans hB h.size)) (by rw [hlen2]; exact ha) (Nat.le_refl _)
      rw [hlen2] at this
      refine hide (this.mono fun e w'' hh => ?_)
      obtain ⟨g, rfl, ho, hb⟩ := hh
      rw [hH2.len] at ho ⊢
      refine ⟨g, rfl, ?_, hb⟩
      rw [ho.cellAt m (by omega), List.getElem?_map, List.getElem?_eq_getElem (by rw [hH2.len]; exact hm)]
      rw [List.getD_eq_getElem?_getD, List.getElem?_eq_getElem (by rw [hH2.len]; exact hm)] at hg
      simp only [Option.getD_some] at hg
      rw [hg]; rfl
    have hHT2 : ∀ (w' : World), Below w.heap.size w w' →
        Hid (Calls Tryz.prog 91 #[.agg #[.int .i64 R.W, .int .i64 R.T, .slice A R.C.length c], .slice D R.C.length d] w' fun e w'' => ∃ g, e = .returned (.slice (some ⟨g, 0, none⟩) R.cn R.cn) ∧ w''.cell? ⟨g, m, none⟩ = some (.int .i64 (H.getD m 0)) ∧ Below w'.heap.size w' w'') := fun w' h => by
      have := heights_any R hR hS A c B L D d hL hF _ hH w' (hr.below (h.mono hB)) (by rw [hL.len]; exact hd.below (h.mono hB)) (Nat.le_trans hB h.size)
      rw [hL.len] at this
      refine hide (this.mono fun e w'' hh => ?_)
      obtain ⟨g, rfl, ho, hb⟩ := hh
      rw [hH.len] at ho ⊢
      refine ⟨g, rfl, ?_, hb⟩
      rw [ho.cellAt m (by omega), List.getElem?_map, List.getD_eq_getElem?_getD, List.getElem?_eq_getElem (by rw [hH.len]; exact hm)]; rfl
    have U := Lib.hid (IntWalk.i64_in (H.getD m 0 + rsV R L m - H.getD m 0) (by omega))
    have HD : Hid (H.getD m 0 + rsV R L m - H.getD m 0 = rsV R L m) := Lib.hid (by omega)
    have HL2 := Lib.hid hlen2
    clear hfl hrs hH hL2 hF2 hH2 hb1 hor hg hlen2
    generalize H.getD m 0 + rsV R L m = z2 at *
    generalize H.getD m 0 = z1 at *
    generalize rsV R L m = rr at *
    generalize flV R L (m : Int) = L2 at *
    go_enter Tryz.func70, Tryz.ntmps70
    go_wp2_with fail
    refine (unhide HFL).mono ?_
    rintro e w1 ⟨A1, c1, c1', rfl, ho1, hb1⟩
    rw [HL2.out] at ho1 ⊢
    obtain ⟨hB1, hk1, b0, b1, b2⟩ := box_keep hb1
    clear hb1
    go_upto_region 4 with fail
    have u := U.out
    go_region_with
      (first
        | (go_at_call 91; (with_reducible refine (unhide (hHT1 _ _ _ hB1.drew (Reads.of_own (own_drew ho1)))).mono ?_); rintro e w3 ⟨g3, rfl, hx3, hb3⟩; have d0 := cell_kept (w := w1.drew) b0 hb3; have d1 := cell_kept (w := w1.drew) b1 hb3; have d2 := cell_kept (w := w1.drew) b2 hb3)
        | (go_at_call 91; (with_reducible refine (unhide (hHT2 _ (hB1.drew.trans (hb3.mono hB1.drew.size)))).mono ?_); rintro e w4 ⟨g4, rfl, hx4, hb4⟩; have hx34 := cell_kept hx3 hb4; have f0 := cell_kept d0 hb4; have f1 := cell_kept d1 hb4; have f2 := cell_kept d2 hb4))
    all_goals
      clear u
      have hB3 := hB1.drew.trans (hb3.mono hB1.drew.size)
      have hB4 := hB3.trans (hb4.mono hB3.size)
      go_wp2_with fail
      go_ret
      exact ⟨ret_int HD.out, hB4⟩

/-- By how much a flip changes the height of its corner. -/
noncomputable def frV (W T : Int) (bs : List Bool) (L : List Int) (k : Int) : Int := if tiledB W T bs L = true then rsZ ⟨W.toNat, T.toNat, bs⟩ L k else 0
theorem frV_yes {R : Reg} {L : List Int} {k : Int} (h : tiledB R.W R.T R.C L = true) : frV R.W R.T R.C L k = rsZ R L k := by unfold frV; rw [if_pos h]; rfl
theorem frV_no {W T : Int} {bs : List Bool} {L : List Int} {k : Int} (h : tiledB W T bs L = false) : frV W T bs L k = 0 := by unfold frV; rw [h]; rfl


end Go.Proofs.YthepfpiphlfgnaaGreat

/-
  YthepfpiphlfgnaaGreatFs: flips of the reference: l5Square, FlipMay, FlipOne.
-/
namespace Go.Proofs.YthepfpiphlfgnaaGreat
open Go.RowKit

def innB (R : Reg) (k : Nat) : Bool :=
  R.at (((k % (R.W + 1) : Nat) : Int) - 1) (((k / (R.W + 1) : Nat) : Int) - 1) && R.at ((k % (R.W + 1) : Nat) : Int) (((k / (R.W + 1) : Nat) : Int) - 1) && R.at (((k % (R.W + 1) : Nat) : Int) - 1) ((k / (R.W + 1) : Nat) : Int) && R.at ((k % (R.W + 1) : Nat) : Int) ((k / (R.W + 1) : Nat) : Int)

def sq5 (a b c d : Int) (e : Bool) : Value := .tuple #[.int .i64 a, .int .i64 b, .int .i64 c, .int .i64 d, .bool e]

set_option maxHeartbeats 1000000 in
set_option maxRecDepth 20000 in
theorem squareS_any (R : Reg) (hR : R.ok) (A : Option Addr) (c B : Nat) (k : Nat) (hk : k < R.cn) (w : World) (hr : Reads w B 1 A R.C.length (R.C.map Value.bool)) (hB : B ≤ w.heap.size) :
    Calls Tryz.prog 94 #[.agg #[.int .i64 R.W, .int .i64 R.T, .slice A R.C.length c], .int .i64 (k : Nat)] w fun e w' =>
      (∃ a b c d : Int, e = .returned (sq5 a b c d (innB R k)) ∧ (innB R k = true → a = (swc R k : Nat) ∧ b = (swc R k : Nat) + 1 ∧ c = (swc R k : Nat) + R.W ∧ d = (swc R k : Nat) + R.W + 1)) ∧ Below w.heap.size w w' := by
  have hW6 := hR.2.1
  have hT6 := hR.2.2.2.1
  obtain ⟨x, hx⟩ : ∃ x, x = k % (R.W + 1) := ⟨_, rfl⟩
  obtain ⟨y, hy⟩ : ∃ y, y = k / (R.W + 1) := ⟨_, rfl⟩
  have hxy := ci_in hk
  rw [← hx, ← hy] at hxy
  obtain ⟨hx6, hy6⟩ := hxy
  have hmod : Int.tmod (k : Int) ((R.W : Int) + 1) = (x : Int) := by
    rw [hx, show (R.W : Int) + 1 = ((R.W + 1 : Nat) : Int) by omega]; rfl
  have hdiv : Int.tdiv (k : Int) ((R.W : Int) + 1) = (y : Int) := by
    rw [hy, show (R.W : Int) + 1 = ((R.W + 1 : Nat) : Int) by omega]; rfl
  have hIN : innB R k = (R.at ((x : Int) - 1) ((y : Int) - 1) && R.at x ((y : Int) - 1) && R.at ((x : Int) - 1) y && R.at x y) := by rw [hx, hy]; rfl
  have HIN := Lib.hid hIN
  have hsw : innB R k = true → ((y : Int) - 1) * R.W + x - 1 = (swc R k : Nat) := by
    intro h
    rw [hIN] at h
    simp only [Bool.and_eq_true] at h
    obtain ⟨a, b, e1, e2, ha, hb, _⟩ := at_cell hR h.1.1.1
    obtain rfl : x = a + 1 := by omega
    obtain rfl : y = b + 1 := by omega
    unfold swc
    rw [← hx, ← hy, Nat.add_sub_cancel, Nat.add_sub_cancel, show ((b + 1 : Nat) : Int) - 1 = (b : Int) by omega]
    simp; omega
  have HSW := Lib.hid hsw
  have hpb : -7 ≤ ((y : Int) - 1) * (R.W : Int) ∧ ((y : Int) - 1) * (R.W : Int) ≤ 49 := by
    by_cases h0 : y = 0
    · subst h0; simp; omega
    · obtain ⟨z, hz⟩ : ∃ z : Nat, (y : Int) - 1 = z := ⟨y - 1, by omega⟩
      rw [hz]
      have := prod_bd (a := z) (b := R.W) (by omega) (by omega)
      omega
  obtain ⟨p0, p1⟩ := hpb
  have U := Lib.hid (IntWalk.i64_in ((R.W : Int) + 1) (by omega))
  have hAT := fun (u v : Int) (hu : -1 ≤ u ∧ u ≤ 7) (hv : -1 ≤ v ∧ v ≤ 7) w' (h : Below w.heap.size w w') => hide (atS_any R hR A c B u v (by omega) (by omega) w' (hr.below (h.mono hB)) (Nat.le_trans hB h.size))
  have H1 := fun w' (h : Below w.heap.size w w') => hAT ((x : Int) - 1) ((y : Int) - 1) (by omega) (by omega) w' h
  have H2 := fun w' (h : Below w.heap.size w w') => hAT (x : Int) ((y : Int) - 1) (by omega) (by omega) w' h
  have H3 := fun w' (h : Below w.heap.size w w') => hAT ((x : Int) - 1) (y : Int) (by omega) (by omega) w' h
  have H4 := fun w' (h : Below w.heap.size w w') => hAT (x : Int) (y : Int) (by omega) (by omega) w' h
  have v1 : IntKind.i64.wrap ((x : Int) - 1) = (x : Int) - 1 := IntWalk.i64_in _ (by omega)
  have v2 : IntKind.i64.wrap ((y : Int) - 1) = (y : Int) - 1 := IntWalk.i64_in _ (by omega)
  have hb0 : Below w.heap.size w (w.alloc (boxR R.W R.T A R.C.length c)) := (Below.refl _ _).alloc (Nat.le_refl _) _
  obtain ⟨_, hk0, b0, b1, b2⟩ := box_keep (w := w) (W := R.W) (T := R.T) (A := A) (n := R.C.length) (c := c) (Below.refl _ _)
  clear hsw hIN hAT hx hy
  generalize innB R k = ib at *
  generalize R.at ((x : Int) - 1) ((y : Int) - 1) = t1 at *
  generalize R.at x ((y : Int) - 1) = t2 at *
  generalize R.at ((x : Int) - 1) y = t3 at *
  generalize R.at x y = t4 at *
  generalize swc R k = s at *
  have u := U.out
  go_enter Tryz.func94, Tryz.ntmps94
  go_upto_region 1 with fail
  generalize w.alloc (boxR R.W R.T A R.C.length c) = w1 at *
  go_wp2_with fail
  refine (unhide (H1 _ hb0)).mono ?_
  rintro e w2 ⟨rfl, hb2⟩
  have hB2 := hb0.trans (hb2.mono hb0.size)
  clear b0 b1 b2
  obtain ⟨hk2, b0, b1, b2⟩ := blk_keep hk0 hb2
  clear hk0 hb2 H1
  cases t1 with
  | false =>
    have hib : ib = false := by rw [HIN.out]; rfl
    clear H2 H3 H4
    go_wp2_with fail
    refine bodyPost_ret (v := _) (results_tmp5 rfl _ _ _) rfl ⟨⟨0, 0, 0, 0, by rw [hib]; rfl, fun h => by rw [hib] at h; cases h⟩, hB2⟩
  | true =>
    go_wp2_with fail
    refine (unhide (H2 _ hB2)).mono ?_
    rintro e w3 ⟨rfl, hb3⟩
    have hB3 := hB2.trans (hb3.mono hB2.size)
    clear b0 b1 b2
    obtain ⟨hk3, b0, b1, b2⟩ := blk_keep hk2 hb3
    clear hk2 hb3 H2
    cases t2 with
    | false =>
      have hib : ib = false := by rw [HIN.out]; simp
      clear H3 H4
      go_wp2_with fail
      refine bodyPost_ret (v := _) (results_tmp5 rfl _ _ _) rfl ⟨⟨0, 0, 0, 0, by rw [hib]; rfl, fun h => by rw [hib] at h; cases h⟩, hB3⟩
    | true =>
      go_wp2_with fail
      refine (unhide (H3 _ hB3)).mono ?_
      rintro e w4 ⟨rfl, hb4⟩
      have hB4 := hB3.trans (hb4.mono hB3.size)
      clear b0 b1 b2
      obtain ⟨hk4, b0, b1, b2⟩ := blk_keep hk3 hb4
      clear hk3 hb4 H3
      cases t3 with
      | false =>
        have hib : ib = false := by rw [HIN.out]; simp
        clear H4
        go_wp2_with fail
        refine bodyPost_ret (v := _) (results_tmp5 rfl _ _ _) rfl ⟨⟨0, 0, 0, 0, by rw [hib]; rfl, fun h => by rw [hib] at h; cases h⟩, hB4⟩
      | true =>
        go_wp2_with fail
        refine (unhide (H4 _ hB4)).mono ?_
        rintro e w5 ⟨rfl, hb5⟩
        have hB5 := hB4.trans (hb5.mono hB4.size)
        clear b0 b1 b2
        obtain ⟨hk5, b0, b1, b2⟩ := blk_keep hk4 hb5
        clear hk4 hb5 H4
        cases t4 with
        | false =>
          have hib : ib = false := by rw [HIN.out]; simp
          go_wp2_with fail
          refine bodyPost_ret (v := _) (results_tmp5 rfl _ _ _) rfl ⟨⟨0, 0, 0, 0, by rw [hib]; rfl, fun h => by rw [hib] at h; cases h⟩, hB5⟩
        | true =>
          have hib : ib = true := HIN.out
          have hs := HSW.out hib
          have q1 : IntKind.i64.wrap (((y : Int) - 1) * (R.W : Int)) = ((y : Int) - 1) * (R.W : Int) := IntWalk.i64_in _ (by omega)
          have q2 : IntKind.i64.wrap (((y : Int) - 1) * (R.W : Int) + x) = ((y : Int) - 1) * (R.W : Int) + x := IntWalk.i64_in _ (by omega)
          have q3 : IntKind.i64.wrap (((y : Int) - 1) * (R.W : Int) + x - 1) = (s : Int) := by rw [hs]; exact IntWalk.i64_in _ (by omega)
          have q4 : IntKind.i64.wrap ((s : Int) + 1) = (s : Int) + 1 := IntWalk.i64_in _ (by omega)
          have q5 : IntKind.i64.wrap ((s : Int) + R.W) = (s : Int) + R.W := IntWalk.i64_in _ (by omega)
          have q6 : IntKind.i64.wrap ((s : Int) + R.W + 1) = (s : Int) + R.W + 1 := IntWalk.i64_in _ (by omega)
          clear hs p0 p1
          go_wp2_with fail
          clear q1 q2 q3
          go_quiet (fail)
          go_wp2_with fail
          refine bodyPost_ret (v := _) (results_tmp5 rfl _ _ _) rfl ⟨⟨s, (s : Int) + 1, (s : Int) + R.W, (s : Int) + R.W + 1, by rw [hib]; rfl, fun _ => ⟨rfl, rfl, rfl, rfl⟩⟩, below_drewN hB5 _⟩

/-! ### FlipMay -/
theorem innB_inner {R : Reg} {k : Nat} : innB R k = true ↔ R.inner ((k % (R.W + 1) : Nat) : Int) ((k / (R.W + 1) : Nat) : Int) := by
  unfold innB Reg.inner
  simp only [Bool.and_eq_true]
  constructor
  · rintro ⟨⟨⟨a, b⟩, c⟩, d⟩; exact ⟨d, c, b, a⟩
  · rintro ⟨d, c, b, a⟩; exact ⟨⟨⟨a, b⟩, c⟩, d⟩
theorem innB_ins {R : Reg} (hR : R.ok) {k : Nat} (h : innB R k = true) : insB R k = true := by
  obtain ⟨a, b, h1, h2, ha, hb, _⟩ := inner_nat hR (innB_inner.1 h)
  unfold insB
  exact decide_eq_true (by omega)
theorem fl_innB {R : Reg} {L : List Int} (hL : Lay R L) {k : Nat} (h : flB R L k = true) : innB R k = true := by
  obtain ⟨a, b, ha, hb, hk, hc⟩ := fl_cases h
  obtain rfl : k = R.ci (a + 1) (b + 1) := Int.ofNat.inj hk
  rw [innB_inner, ci_mod _ (by omega), ci_div _ (by omega)]
  rcases hc with ⟨h, _⟩ | ⟨h, _⟩
  · exact fl_inner hL (.inl h)
  · exact fl_inner hL (.inr h)
theorem flB_range {R : Reg} {L : List Int} {k : Int} (h : ¬ (0 ≤ k ∧ k ≤ (R.cn : Int) - 1)) : flB R L k = false := by
  cases hf : flB R L k with
  | false => rfl
  | true =>
    obtain ⟨a, b, ha, hb, rfl, _⟩ := fl_cases hf
    have := ci_lt (R := R) (x := a + 1) (y := b + 1) (by omega) (by omega)
    omega

set_option maxHeartbeats 1000000 in
set_option maxRecDepth 20000 in
theorem flipMayS_ok (R : Reg) (hR : R.ok) (A : Option Addr) (c B : Nat) (L : List Int) (D : Option Addr) (d : Nat) (k : Int) (hL : Lay R L) (w : World)
    (hr : Reads w B 1 A R.C.length (R.C.map Value.bool)) (hd : Reads w B 1 D R.C.length (L.map (Value.int .i64))) (hB : B ≤ w.heap.size) :
    Calls Tryz.prog 77 #[.agg #[.int .i64 R.W, .int .i64 R.T, .slice A R.C.length c], .slice D R.C.length d, .int .i64 k] w fun e w' => e = .returned (.bool (flB R L k)) ∧ Below w.heap.size w w' := by
  have hcn := cn_bd hR
  have hl36 := (len_bd hR).2
  have hlo : laidB R.W R.T R.C L = true := by rw [laidB_ok hR]; exact (laysB_iff hR).2 hL
  have hb0 : Below w.heap.size w (w.alloc (boxR R.W R.T A R.C.length c)) := (Below.refl _ _).alloc (Nat.le_refl _) _
  have hLO := hide (laidOkS_any R.W R.T A R.C.length c B R.C L D R.C.length d (w.alloc (boxR R.W R.T A R.C.length c)) rfl hL.len (hr.alloc hB _) (hd.alloc hB _) (by simp; omega) (by omega) (by omega))
  rw [hlo] at hLO
  have hCM := fun w' (h : Below w.heap.size w w') => hide (cornerManySN_ok R hR A c B w' (hr.below (h.mono hB)) (Nat.le_trans hB h.size))
  have u1 : IntKind.i64.wrap ((R.cn : Int) - 1) = (R.cn : Int) - 1 := IntWalk.i64_in _ (by omega)
  by_cases hin : 0 ≤ k ∧ k ≤ (R.cn : Int) - 1
  · obtain ⟨m, rfl⟩ := Int.eq_ofNat_of_zero_le hin.1
    have I := Lib.hid (inB_t hin)
    have hm : m < R.cn := by omega
    have hSQ := fun w' (h : Below w.heap.size w w') => hide (squareS_any R hR A c B m hm w' (hr.below (h.mono hB)) (Nat.le_trans hB h.size))
    have hFI : innB R m = false → flB R L (m : Int) = false := fun h => by
      cases hf : flB R L (m : Int) with
      | false => rfl
      | true => rw [fl_innB hL hf] at h; cases h
    have HFI := Lib.hid hFI
    have hFT : innB R m = true → swc R m + R.W + 1 < R.C.length ∧ flB R L (m : Int) = ((L.getD (swc R m) 0 == 1 && L.getD (swc R m + R.W) 0 == 1) || (L.getD (swc R m) 0 == 2 && L.getD (swc R m + 1) 0 == 2)) := fun h => by
      have hi := innB_ins hR h
      refine ⟨ins_cells hR hi, ?_⟩
      have hz : insZ R (m : Int) = true := by unfold insZ; rw [Int.toNat_natCast, hi, decide_eq_true (by omega)]; rfl
      unfold flB fl1 fl2
      rw [hz, Int.toNat_natCast]; rfl
    have HFT := Lib.hid hFT
    clear hin hFI hFT hlo hL
    generalize flB R L (m : Int) = fb at *
    cases hib : innB R m with
    | false =>
      have hfb := HFI.out hib
      simp only [hib] at hSQ
      clear HFT HFI hib
      subst hfb
      go_enter Tryz.func77, Tryz.ntmps77
      go_wp2_with fail
      refine (unhide hLO).mono ?_
      rintro e w1 ⟨rfl, hb1⟩
      obtain ⟨hB1, hk1, b0, b1, b2⟩ := box_keep hb1
      go_wp2_with fail
      refine (unhide (hCM _ hB1)).mono ?_
      rintro e w2 ⟨rfl, hb2⟩
      have hB2 := hB1.trans (hb2.mono hB1.size)
      clear b0 b1 b2
      obtain ⟨hk2, b0, b1, b2⟩ := blk_keep hk1 hb2
      go_wp2_with (go_at_call 47; refine (l1In_any _ _ _ _).mono ?_; rintro e w' ⟨rfl, rfl⟩; rw [I.out])
      refine (unhide (hSQ _ hB2)).mono ?_
      rintro e w3 ⟨⟨a, b, c3, d3, rfl, _⟩, hb3⟩
      unfold sq5
      go_wp2_with fail
      go_ret
      exact ⟨rfl, hB2.trans (hb3.mono hB2.size)⟩
    | true =>
      obtain ⟨hcl, hfb⟩ := HFT.out hib
      simp only [hib] at hSQ
      have HS := hSQ
      clear HFT HFI hib hSQ
      generalize swc R m = s at *
      obtain ⟨c1, hc1⟩ : ∃ c1 : Nat, s + 1 = c1 := ⟨_, rfl⟩
      obtain ⟨c2, hc2⟩ : ∃ c2 : Nat, s + R.W = c2 := ⟨_, rfl⟩
      obtain ⟨c3, hc3⟩ : ∃ c3 : Nat, c2 + 1 = c3 := ⟨_, rfl⟩
      simp only [show (s : Int) + 1 = (c1 : Nat) by omega, show (s : Int) + (R.W : Int) = (c2 : Nat) by omega, show (c2 : Int) + 1 = (c3 : Nat) by omega, forall_const] at HS
      rw [hc1, hc2] at hfb
      have l0 : s < R.C.length := by omega
      have l1 : c1 < R.C.length := by omega
      have l2 : c2 < R.C.length := by omega
      obtain ⟨ad, rfl, _, r0⟩ := hd.getI l0
      obtain ⟨ad1, e1, _, r1⟩ := hd.getI l1
      obtain ⟨ad2, e2, _, r2⟩ := hd.getI l2
      obtain rfl : ad = ad1 := by injection e1
      obtain rfl : ad = ad2 := by injection e2
      clear e1 e2 hc1 hc2 hc3
      generalize L.getD s 0 = v0 at *
      generalize L.getD c1 0 = v1 at *
      generalize L.getD c2 0 = v2 at *
      have HFB := Lib.hid hfb
      clear hfb
      go_enter Tryz.func77, Tryz.ntmps77
      go_wp2_with fail
      refine (unhide hLO).mono ?_
      rintro e w1 ⟨rfl, hb1⟩
      obtain ⟨hB1, hk1, b0, b1, b2⟩ := box_keep hb1
      go_wp2_with fail
      refine (unhide (hCM _ hB1)).mono ?_
      rintro e w2 ⟨rfl, hb2⟩
      have hB2 := hB1.trans (hb2.mono hB1.size)
      clear b0 b1 b2
      obtain ⟨hk2, b0, b1, b2⟩ := blk_keep hk1 hb2
      go_wp2_with (go_at_call 47; refine (l1In_any _ _ _ _).mono ?_; rintro e w' ⟨rfl, rfl⟩; rw [I.out])
      refine (unhide (HS _ hB2)).mono ?_
      rintro e w3 ⟨⟨a, b, c3', d3, rfl, rfl, rfl, rfl, rfl⟩, hb3⟩
      have hB3 := hB2.trans (hb3.mono hB2.size)
      have d0 := (hB3.cell (p := ad.add s) (World.block_lt_of_cell? w _ r0)).trans r0
      have d1 := (hB3.cell (p := ad.add c1) (World.block_lt_of_cell? w _ r1)).trans r1
      have d2 := (hB3.cell (p := ad.add c2) (World.block_lt_of_cell? w _ r2)).trans r2
      unfold sq5
      cases h1 : v0 == 1 with
      | true =>
        have h2 : (v0 == 2) = false := by simp at h1 ⊢; omega
        cases h3 : v2 == 1 with
        | true =>
          go_wp2_with fail
          go_ret
          exact ⟨by rw [HFB.out, h1, h3]; rfl, hB3⟩
        | false =>
          go_wp2_with fail
          go_ret
          exact ⟨by rw [HFB.out, h1, h2, h3]; rfl, hB3⟩
      | false =>
        cases h2 : v0 == 2 with
        | true =>
          go_wp2_with fail
          go_ret
          exact ⟨by rw [HFB.out, h1, h2]; rfl, hB3⟩
        | false =>
          go_wp2_with fail
          go_ret
          exact ⟨by rw [HFB.out, h1, h2]; rfl, hB3⟩
  · have I := Lib.hid (inB_f hin)
    rw [flB_range hin]
    clear hin hlo
    go_enter Tryz.func77, Tryz.ntmps77
    go_wp2_with fail
    refine (unhide hLO).mono ?_
    rintro e w1 ⟨rfl, hb1⟩
    obtain ⟨hB1, hk1, b0, b1, b2⟩ := box_keep hb1
    go_wp2_with fail
    refine (unhide (hCM _ hB1)).mono ?_
    rintro e w2 ⟨rfl, hb2⟩
    have hB2 := hB1.trans (hb2.mono hB1.size)
    go_wp2_with (go_at_call 47; refine (l1In_any _ _ _ _).mono ?_; rintro e w' ⟨rfl, rfl⟩; rw [I.out])
    go_ret
    exact ⟨rfl, hB2⟩

/-- append of a whole slice to a row of the call's own. -/
theorem wpList_appN {w : World} {ops : Array Oper} {rest : List Oper} {o : Oper} {a : Act} {Q : Exit → Act → World → Prop} (hgd : o.guard = none) (s x : Operand) (t : TypeId)
    (ho : o.op = .call { callee := .builtin .append, args := #[s, x], argTypes := #[t, t] })
    (base : Nat) (e : TypeId) (z : Value) (bytes : Nat) (ht : Tryz.prog.underlying t = some (.slice e)) (hinfo : (Tryz.prog.info? e).map (fun i => (i.zero, i.size, i.bytes)) = some (some z, 1, bytes)) (hzs : z.cells.size = 1) (hb64 : bytes ≤ 64)
    (v : Value) (n : Nat) (xs : List Value) (hs : a.eval s = v) (hown : w.ownsRow base e 1 v n xs) (B : Nat) (A : Option Addr) (m c : Nat) (news : List Value) (hx : a.eval x = .slice A m c) (hr : Reads w B 1 A m news) (h1 : ∀ u ∈ news, u.oneCell' = true) (hn : n + m ≤ 4294967296) (hbase : base ≤ w.heap.size)
    (hK : ∀ v' w', w'.ownsRow base e 1 v' (n + m) (xs ++ news) → w.grownBy w' v.ownBlock → (v'.ownBlock = v.ownBlock ∨ v'.ownBlock = some w.heap.size) →
      wpList Tryz.prog ops Q rest (a.put o.dst v') w') : wpList Tryz.prog ops Q (o :: rest) a w := by
  refine wpList_plain hgd fun _ hK' => ?_
  obtain ⟨i0, hi, hz, hsz, hby⟩ := info_parts hinfo
  have hm : (n + m) * bytes ≤ 4294967296 * 64 := Nat.mul_le_mul hn hb64
  obtain ⟨v', w', hrun, h2, h3, h4⟩ := run_append_any (P := Tryz.prog) w base t o.type e i0 z 1 bytes ht hi hz hsz hby hzs (by omega) v n xs hown B A m c news hr h1 (by simp only [maxLen]; omega) (by omega) hbase
  unfold Oper.wp execOp
  simp only [ho, resolve, invoke, builtin, Sem.run_bind, Sem.run_pure, Result.andThen_ok, List.map_toArray, List.map_cons, List.map_nil, hs, hx, hrun]
  exact hK' _ _ (hK v' w' h2 h3 h4)
theorem ints_one {L : List Int} : ∀ u ∈ L.map (Value.int .i64), u.oneCell' = true := by
  intro u hu
  obtain ⟨z, _, rfl⟩ := List.mem_map.1 hu
  rfl

theorem pg_copy {w w1 w3 : World} {R : Reg} {A : Option Addr} {c n : Nat} {L : List Int} {v' : Value} (hB1 : Below w.heap.size w w1) (hk1 : Blk w1 w.heap.size 25 #[.int .i64 R.W, .int .i64 R.T, .slice A R.C.length c])
    (ho : w3.ownsRow (w.heap.size + 1) 3 1 v' (0 + n) ([] ++ L.map (Value.int .i64))) (hg : (w1.alloc (.cells #[] 3)).grownBy w3 (Value.slice (some ⟨w1.heap.size, 0, none⟩) 0 0).ownBlock) (hn : L.length = n) (h1 : 1 ≤ n) :
    ∃ g c', v' = .slice (some ⟨g, 0, none⟩) n c' ∧ PG w w3 R A c g c' L := by
  subst hn
  rw [Nat.zero_add, List.nil_append] at ho
  obtain ⟨g, c', rfl, _, hg1, hg2⟩ := own_shape ho h1
  have hlt := hk1.lt
  exact ⟨g, c', rfl, (hB1.alloc hB1.size _).grown hg (by simp; omega) (fun j hj => by simp [Value.ownBlock] at hj; omega), (hk1.alloc _).grown hg (by simp [Value.ownBlock]; omega), ho⟩

set_option maxHeartbeats 1000000 in
set_option maxRecDepth 20000 in
theorem flipOneS_ok (R : Reg) (hR : R.ok) (A : Option Addr) (c B : Nat) (L : List Int) (D : Option Addr) (d : Nat) (k : Int) (hL : Lay R L) (w : World)
    (hr : Reads w B 1 A R.C.length (R.C.map Value.bool)) (hd : Reads w B 1 D R.C.length (L.map (Value.int .i64))) (hB : B ≤ w.heap.size) :
    Calls Tryz.prog 79 #[.agg #[.int .i64 R.W, .int .i64 R.T, .slice A R.C.length c], .slice D R.C.length d, .int .i64 k] w (RetIB w (flV R L k) (flB R L k)) := by
  have hl36 := (len_bd hR).2
  have hl1 := (len_bd hR).1
  have hlo : laidB R.W R.T R.C L = true := by rw [laidB_ok hR]; exact (laysB_iff hR).2 hL
  have hb0 : Below w.heap.size w (w.alloc (boxR R.W R.T A R.C.length c)) := (Below.refl _ _).alloc (Nat.le_refl _) _
  have hLO := hide (laidOkS_any R.W R.T A R.C.length c B R.C L D R.C.length d (w.alloc (boxR R.W R.T A R.C.length c)) rfl hL.len (hr.alloc hB _) (hd.alloc hB _) (by simp; omega) (by omega) (by omega))
  rw [hlo] at hLO
  have hFM := fun w' (h : Below w.heap.size w w') => hide (flipMayS_ok R hR A c B L D d k hL w' (hr.below (h.mono hB)) (hd.below (h.mono hB)) (Nat.le_trans hB h.size))
  have hLn := hL.len
  have hONE := ints_one (L := L)
  cases hfl : flB R L k with
  | false =>
    rw [flV_no hfl]
    simp only [hfl] at hFM
    clear hfl hlo hL
    go_enter Tryz.func79, Tryz.ntmps79
    go_wp2_with fail
    refine (unhide hLO).mono ?_
    rintro e w1 ⟨rfl, hb1⟩
    obtain ⟨hB1, hk1, b0, b1, b2⟩ := box_keep hb1
    clear hb1
    have ho1 : (w1.alloc (.cells #[] 3)).ownsRow (w.heap.size + 1) 3 1 (.slice (some ⟨w1.heap.size, 0, none⟩) 0 0) 0 [] := by simpa using World.ownsRow_made (base := w.heap.size + 1) (e := 3) (size := 1) w1 #[] 0 hk1.lt (by simp [maxLen]) (by simp)
    have hk2 := hk1.alloc (.cells #[] 3)
    have hB2 := hB1.alloc hB1.size (.cells #[] 3)
    have hd2 := hd.below (hB2.mono hB)
    clear b0 b1 b2
    go_wp2_with (at_builtin; refine wpList_appN rfl _ _ _ rfl (w.heap.size + 1) 3 _ 8 Tryz.underlying42 info_int rfl (by omega) (.slice (some ⟨w1.heap.size, 0, none⟩) 0 0) 0 [] rfl ho1 B D R.C.length d (L.map (Value.int .i64)) rfl hd2 hONE (by omega) (by have := hk2.lt; omega) ?_; rintro v' w3 ho3 hg3 _; obtain ⟨g, c', rfl, hP3⟩ := pg_copy hB1 hk1 ho3 hg3 hLn hl1; obtain ⟨b0, b1, b2⟩ := hP3.rcells; clear ho3 hg3)
    refine (unhide (hFM _ hP3.bel)).mono ?_
    rintro e w4 ⟨rfl, hb4⟩
    have hP4 := hP3.below hb4
    go_wp2_with fail
    go_ret2
    exact ⟨some ⟨g, 0, none⟩, c', c', by rw [hLn]; rfl, own_mono hP4.own (by omega), hP4.bel⟩
  | true =>
    obtain ⟨a, b, ha, hb, rfl, hc⟩ := fl_cases hfl
    have hci := ci_lt (R := R) (x := a + 1) (y := b + 1) (by omega) (by omega)
    have hSQ := fun w' (h : Below w.heap.size w w') => hide (squareS_any R hR A c B (R.ci (a + 1) (b + 1)) hci w' (hr.below (h.mono hB)) (Nat.le_trans hB h.size))
    have hib := fl_innB hL hfl
    simp only [hib] at hSQ
    have hsw := (ab_ins ha hb).2
    simp only [hsw] at hSQ
    simp only [hfl] at hFM
    have hcl := ins_cells hR (innB_ins hR hib)
    rw [hsw] at hcl
    have hv0 := (ways4 (L := L) ha hb).1
    have hcase : (L.getD (b * R.W + a) 0 = 1 ∧ flV R L (R.ci (a + 1) (b + 1) : Nat) = set4 R L (b * R.W + a) 2 2 4 4) ∨ (L.getD (b * R.W + a) 0 = 2 ∧ flV R L (R.ci (a + 1) (b + 1) : Nat) = set4 R L (b * R.W + a) 1 3 1 3) := by
      rcases hc with ⟨h, e⟩ | ⟨h, e⟩
      · exact .inl ⟨by rw [hv0]; exact h.1, e⟩
      · exact .inr ⟨by rw [hv0]; exact h.1, e⟩
    have hW2 : 2 ≤ R.W := by omega
    unfold set4 at hcase
    have HS := hSQ
    clear hSQ hfl hib hsw hv0 hc hci
    generalize R.ci (a + 1) (b + 1) = k at *
    generalize b * R.W + a = s at *
    clear ha hb
    obtain ⟨c1, hc1⟩ : ∃ c1 : Nat, s + 1 = c1 := ⟨_, rfl⟩
    obtain ⟨c2, hc2⟩ : ∃ c2 : Nat, s + R.W = c2 := ⟨_, rfl⟩
    obtain ⟨c3, hc3⟩ : ∃ c3 : Nat, c2 + 1 = c3 := ⟨_, rfl⟩
    simp only [show (s : Int) + 1 = (c1 : Nat) by omega, show (s : Int) + (R.W : Int) = (c2 : Nat) by omega, show (c2 : Int) + 1 = (c3 : Nat) by omega, forall_const] at HS
    rw [hc1, hc2, hc3] at hcase
    have l0 : s < L.length := by omega
    have l1 : c1 < L.length := by omega
    have l2 : c2 < L.length := by omega
    have l3 : c3 < L.length := by omega
    obtain ⟨ad, rfl, _, r0⟩ := hd.getI (k := s) (by omega)
    generalize flV R L (k : Int) = V at *
    have n1 : c1 ≠ s := by omega
    have n2 : c2 ≠ s := by omega
    have n3 : c3 ≠ s := by omega
    have n4 : c2 ≠ c1 := by omega
    have n5 : c3 ≠ c1 := by omega
    have n6 : c3 ≠ c2 := by omega
    generalize L.getD s 0 = v0 at *
    have HCASE := Lib.hid hcase
    clear hcase hc1 hc2 hc3 hlo
    go_enter Tryz.func79, Tryz.ntmps79
    go_wp2_with fail
    refine (unhide hLO).mono ?_
    rintro e w1 ⟨rfl, hb1⟩
    obtain ⟨hB1, hk1, b0, b1, b2⟩ := box_keep hb1
    clear hb1
    have ho1 : (w1.alloc (.cells #[] 3)).ownsRow (w.heap.size + 1) 3 1 (.slice (some ⟨w1.heap.size, 0, none⟩) 0 0) 0 [] := by simpa using World.ownsRow_made (base := w.heap.size + 1) (e := 3) (size := 1) w1 #[] 0 hk1.lt (by simp [maxLen]) (by simp)
    have hk2 := hk1.alloc (.cells #[] 3)
    have hB2 := hB1.alloc hB1.size (.cells #[] 3)
    have hd2 := hd.below (hB2.mono hB)
    clear b0 b1 b2
    go_wp2_with (at_builtin; refine wpList_appN rfl _ _ _ rfl (w.heap.size + 1) 3 _ 8 Tryz.underlying42 info_int rfl (by omega) (.slice (some ⟨w1.heap.size, 0, none⟩) 0 0) 0 [] rfl ho1 B (some ad) R.C.length d (L.map (Value.int .i64)) rfl hd2 hONE (by omega) (by have := hk2.lt; omega) ?_; rintro v' w3 ho3 hg3 _; obtain ⟨g, c', rfl, hP3⟩ := pg_copy hB1 hk1 ho3 hg3 hLn hl1; obtain ⟨b0, b1, b2⟩ := hP3.rcells; clear ho3 hg3)
    refine (unhide (hFM _ hP3.bel)).mono ?_
    rintro e w4 ⟨rfl, hb4⟩
    have hP4 := hP3.below hb4
    clear hP3 hb4 b0 b1 b2
    obtain ⟨b0, b1, b2⟩ := hP4.rcells
    go_wp2_with fail
    refine (unhide (HS _ hP4.bel)).mono ?_
    rintro e w5 ⟨⟨a', b', c3', d3, rfl, rfl, rfl, rfl, rfl⟩, hb5⟩
    have hP5 := hP4.below hb5
    have d0 := (hP5.bel.cell (p := ad.add s) (World.block_lt_of_cell? w _ r0)).trans r0
    clear hP4 hb5 b0 b1 b2 HS hFM hLO hd2 ho1 hk2 hB2 hk1 hB1
    unfold sq5
    rcases HCASE.out with ⟨hv, hV⟩ | ⟨hv, hV⟩
    · have e1 : (v0 == 1) = true := by rw [hv]; rfl
      have q0 := hP5.ocell l0
      have f0 := hP5.free s
      have hP6 := hP5.set s 2
      have q1 := hP6.ocell (j := c1) (by simp; exact l1)
      have f1 := hP6.free c1
      have hP7 := hP6.set c1 2
      have q2 := hP7.ocell (j := c2) (by simp; exact l2)
      have f2 := hP7.free c2
      have hP8 := hP7.set c2 4
      have q3 := hP8.ocell (j := c3) (by simp; exact l3)
      have f3 := hP8.free c3
      have hP9 := hP8.set c3 4
      have HV := Lib.hid hV
      clear hv hV
      go_wp2_with fail
      go_ret2
      have hVl : V.length = R.C.length := by rw [HV.out]; simp [hLn]
      refine ⟨some ⟨g, 0, none⟩, c', c', by rw [hVl]; rfl, ?_, hP9.bel⟩
      have := own_mono hP9.own (base' := w.heap.size) (by omega)
      rw [← HV.out] at this
      exact this
    · have e1 : (v0 == 1) = false := by rw [hv]; rfl
      have q0 := hP5.ocell l0
      have f0 := hP5.free s
      have hP6 := hP5.set s 1
      have q1 := hP6.ocell (j := c2) (by simp; exact l2)
      have f1 := hP6.free c2
      have hP7 := hP6.set c2 1
      have q2 := hP7.ocell (j := c1) (by simp; exact l1)
      have f2 := hP7.free c1
      have hP8 := hP7.set c1 3
      have q3 := hP8.ocell (j := c3) (by simp; exact l3)
      have f3 := hP8.free c3
      have hP9 := hP8.set c3 3
      have hV2 : V = (((L.set s 1).set c2 1).set c1 3).set c3 3 := by rw [hV, List.set_comm _ _ n4.symm]
      have HV := Lib.hid hV2
      clear hv hV hV2
      go_wp2_with fail
      go_ret2
      have hVl : V.length = R.C.length := by rw [HV.out]; simp [hLn]
      refine ⟨some ⟨g, 0, none⟩, c', c', by rw [hVl]; rfl, ?_, hP9.bel⟩
      have := own_mono hP9.own (base' := w.heap.size) (by omega)
      rw [← HV.out] at this
      exact this

end Go.Proofs.YthepfpiphlfgnaaGreat

/-
  YthepfpiphlfgnaaGreatFq: FlipOne and FlipRise of the reference, for all arguments.
-/
namespace Go.Proofs.YthepfpiphlfgnaaGreat
open Go.RowKit

def foV (W T : Int) (bs : List Bool) (L : List Int) (k : Int) : List Int := if laidB W T bs L = true then flV ⟨W.toNat, T.toNat, bs⟩ L k else []
def foB (W T : Int) (bs : List Bool) (L : List Int) (k : Int) : Bool := laidB W T bs L && flB ⟨W.toNat, T.toNat, bs⟩ L k
theorem laid_cases {W T : Int} {bs : List Bool} {L : List Int} (h : laidB W T bs L = true) : ∃ R : Reg, R.ok ∧ W = (R.W : Int) ∧ T = (R.T : Int) ∧ bs = R.C ∧ Lay R L := by
  have hv : validB W T bs = true := by
    cases hv : validB W T bs with
    | true => rfl
    | false => rw [laidB_no hv] at h; cases h
  obtain ⟨R, hR, rfl, rfl, rfl⟩ := reg_of_valid hv
  rw [laidB_ok hR] at h
  exact ⟨R, hR, rfl, rfl, rfl, (laysB_iff hR).1 h⟩
theorem foV_yes {R : Reg} {L : List Int} {k : Int} (h : laidB R.W R.T R.C L = true) : foV R.W R.T R.C L k = flV R L k ∧ foB R.W R.T R.C L k = flB R L k := by
  constructor
  · unfold foV; rw [if_pos h]; rfl
  · unfold foB; rw [h]; rfl
theorem foV_no {W T : Int} {bs : List Bool} {L : List Int} {k : Int} (h : laidB W T bs L = false) : foV W T bs L k = [] ∧ foB W T bs L k = false := by
  constructor
  · unfold foV; rw [h]; rfl
  · unfold foB; rw [h]; rfl
theorem foV_len {W T : Int} {bs : List Bool} {L : List Int} {k : Int} : (foV W T bs L k).length ≤ 36 := by
  cases h : laidB W T bs L with
  | false => rw [(foV_no h).1]; simp
  | true =>
    obtain ⟨R, hR, rfl, rfl, rfl, hL⟩ := laid_cases h
    rw [(foV_yes h).1, flV_len, hL.len]
    exact (len_bd hR).2

theorem flipOneS_any (W T : Int) (A : Option Addr) (n c B : Nat) (bs : List Bool) (L : List Int) (D : Option Addr) (m d : Nat) (k : Int) (w : World) (hbl : bs.length = n) (hL : L.length = m)
    (hr : Reads w B 1 A n (bs.map Value.bool)) (hd : Reads w B 1 D m (L.map (Value.int .i64))) (hB : B ≤ w.heap.size) (hn : n ≤ 9223372036854775807) (hm : m ≤ 9223372036854775807) :
    Calls Tryz.prog 79 #[.agg #[.int .i64 W, .int .i64 T, .slice A n c], .slice D m d, .int .i64 k] w (RetIB w (foV W T bs L k) (foB W T bs L k)) := by
  cases h : laidB W T bs L with
  | true =>
    obtain ⟨R, hR, rfl, rfl, rfl, hLy⟩ := laid_cases h
    rw [(foV_yes h).1, (foV_yes h).2]
    subst hbl
    obtain rfl : m = R.C.length := by rw [← hL]; exact hLy.len
    exact flipOneS_ok R hR A c B L D d k hLy w hr hd hB
  | false =>
    have hLO := hide (laidOkS_any W T A n c B bs L D m d (w.alloc (boxR W T A n c)) hbl hL (hr.alloc hB _) (hd.alloc hB _) (by simp; omega) hn hm)
    rw [h] at hLO
    rw [(foV_no h).1, (foV_no h).2]
    clear h
    go_enter Tryz.func79, Tryz.ntmps79
    go_wp2_with fail
    refine (unhide hLO).mono ?_
    rintro e w1 ⟨rfl, hb1⟩
    obtain ⟨hB1, hk1, b0, b1, b2⟩ := box_keep hb1
    go_wp2_with fail
    go_ret2
    have ho := World.ownsRow_made (base := w.heap.size) (e := 3) (size := 1) w1 #[] 0 hB1.size (by simp [maxLen]) (by simp)
    exact ⟨_, 0, 0, rfl, by simpa using ho, hB1.alloc hB1.size _⟩

theorem frV_not {W T : Int} {bs : List Bool} {L : List Int} {k : Int} (h : foB W T bs L k = false) : frV W T bs L k = 0 := by
  cases ht : tiledB W T bs L with
  | false => exact frV_no ht
  | true =>
    obtain ⟨R, hR, rfl, rfl, rfl, _, hL, _⟩ := tiled_cases ht
    have hl : laidB R.W R.T R.C L = true := by rw [laidB_ok hR]; exact (laysB_iff hR).2 hL
    rw [(foV_yes hl).2] at h
    rw [frV_yes ht, rsZ_no h]

set_option maxHeartbeats 1000000 in
set_option maxRecDepth 20000 in
theorem flipRiseS_any (W T : Int) (A : Option Addr) (n c B : Nat) (bs : List Bool) (L : List Int) (D : Option Addr) (m d : Nat) (k : Int) (w : World) (hbl : bs.length = n) (hL : L.length = m)
    (hr : Reads w B 1 A n (bs.map Value.bool)) (hd : Reads w B 1 D m (L.map (Value.int .i64))) (hB : B ≤ w.heap.size) (hn : n ≤ 9223372036854775807) (hm : m ≤ 9223372036854775807) :
    Calls Tryz.prog 78 #[.agg #[.int .i64 W, .int .i64 T, .slice A n c], .slice D m d, .int .i64 k] w fun e w' => e = .returned (.int .i64 (frV W T bs L k)) ∧ Below w.heap.size w w' := by
  have hX36 := foV_len (W := W) (T := T) (bs := bs) (L := L) (k := k)
  have hFO := hide (flipOneS_any W T A n c B bs L D m d k (w.alloc (boxR W T A n c)) hbl hL (hr.alloc hB _) (hd.alloc hB _) (by simp; omega) hn hm)
  have hH1 := fun w' (h : Below w.heap.size w w') => hide (heightsOfS_any W T A n c B bs L D m d w' hbl hL (hr.below (h.mono hB)) (hd.below (h.mono hB)) (Nat.le_trans hB h.size) hn hm)
  have hH2 : ∀ (w' : World) (E : Option Addr) (e1 : Nat), Below w.heap.size w w' → Reads w' w'.heap.size 1 E (foV W T bs L k).length ((foV W T bs L k).map (Value.int .i64)) → Hid (Calls Tryz.prog 95 #[.agg #[.int .i64 W, .int .i64 T, .slice A n c], .slice E (foV W T bs L k).length e1] w' (OwnInts w' (htsOf W T bs (foV W T bs L k)))) :=
    fun w' E e1 h ha => hide (heightsOfS_any W T A n c w'.heap.size bs (foV W T bs L k) E _ e1 w' hbl rfl ((hr.below (h.mono hB)).more (Nat.le_trans hB h.size)) ha (Nat.le_refl _) hn (by omega))
  have hval : foB W T bs L k = true → (htsOf W T bs L = [] ∧ frV W T bs L k = 0) ∨ ∃ q : Nat, k = (q : Nat) ∧ q < (htsOf W T bs L).length ∧ (htsOf W T bs (foV W T bs L k)).length = (htsOf W T bs L).length ∧ (htsOf W T bs (foV W T bs L k)).getD q 0 = (htsOf W T bs L).getD q 0 + frV W T bs L k ∧ (-60 ≤ (htsOf W T bs L).getD q 0 ∧ (htsOf W T bs L).getD q 0 ≤ 99) ∧ (-4 ≤ frV W T bs L k ∧ frV W T bs L k ≤ 4) := by
    intro hf
    cases ht : tiledB W T bs L with
    | false => exact .inl ⟨htsOf_no ht, frV_no ht⟩
    | true =>
      right
      obtain ⟨R, hR, rfl, rfl, rfl, hS, hLy, hF⟩ := tiled_cases ht
      have hl : laidB R.W R.T R.C L = true := by rw [laidB_ok hR]; exact (laysB_iff hR).2 hLy
      rw [(foV_yes hl).2] at hf
      rw [(foV_yes hl).1, frV_yes ht]
      obtain ⟨q, rfl, hq, hrs⟩ := flB_nat hf
      have hH := htsOf_yes hR hS hLy hF
      have hL2 := lay_flV hR hLy (q : Int)
      have hF2 := (full_flV hR hLy (q : Int)).2 hF
      have hHH := hts_one hR hS.1 (htsOf_yes hR hS hL2 hF2) (hts_flV hR hLy hH hf)
      have hb := ht_le hR hS.1 (hp_of_hts hLy hH) (x := q % (R.W + 1)) (y := q / (R.W + 1)) (ci_in hq).1 (ci_in hq).2
      unfold Reg.ht at hb
      rw [ci_of] at hb
      have hor := rsV_or hf
      refine ⟨q, rfl, by rw [hH.len]; exact hq, by rw [hHH, List.length_set], ?_, by omega, by rw [hrs]; omega⟩
      rw [hHH, getD_set (by rw [hH.len]; exact hq), if_pos rfl, hrs]
  have HV := Lib.hid hval
  have HN : Hid (foB W T bs L k = false → frV W T bs L k = 0) := Lib.hid frV_not
  have hl1 := htsOf_len (W := W) (T := T) (bs := bs) (L := L)
  clear hval
  generalize foV W T bs L k = X at *
  generalize foB W T bs L k = fb at *
  generalize htsOf W T bs L = H at *
  generalize htsOf W T bs X = G at *
  generalize frV W T bs L k = r at *
  have HH1 : ∀ w', Below w.heap.size w w' → Hid (Calls Tryz.prog 95 #[.agg #[.int .i64 W, .int .i64 T, .slice A n c], .slice D m d] w' (OwnInts w' H)) := hH1
  go_enter Tryz.func78, Tryz.ntmps78
  go_wp2_with fail
  refine (unhide hFO).mono ?_
  rintro e w1 ⟨A1, c1, c1', rfl, ho1, hb1⟩
  obtain ⟨hB1, hk1, b0, b1, b2⟩ := box_keep hb1
  clear hb1 hFO
  go_wp2_with fail
  refine (unhide (HH1 _ hB1)).mono ?_
  rintro e w2 ⟨A2, c2, rfl, _, ho2, hb2⟩
  have hB2 := hB1.trans (hb2.mono hB1.size)
  clear b0 b1 b2
  obtain ⟨hk2, b0, b1, b2⟩ := blk_keep hk1 hb2
  have ho1' := own_below ho1 hb2 (Nat.le_refl _)
  clear hb2 hk1 hB1 ho1
  go_wp2_with fail
  refine (unhide (hH2 _ _ _ hB2 (Reads.of_own ho1'))).mono ?_
  rintro e w3 ⟨A3, c3, rfl, _, ho3, hb3⟩
  have hB3 := hB2.trans (hb3.mono hB2.size)
  have ho2' := own_below ho2 hb3 (Nat.le_refl _)
  clear b0 b1 b2 hb3 hk2 hB2 ho2 ho1'
  cases fb with
  | false =>
    have hr0 := HN.out rfl
    subst hr0
    go_wp2_with fail
    go_ret
    exact ⟨rfl, hB3⟩
  | true =>
    rcases HV.out rfl with ⟨hH0, rfl⟩ | ⟨q, rfl, hq, hlen, hg, hb, hrb⟩
    · subst hH0
      go_wp2_with fail
      go_ret
      exact ⟨rfl, hB3⟩
    · have hHne : ((H.length : Int) == 0) = false := by simp only [beq_eq_false_iff_ne]; omega
      have hGne : ((G.length : Int) == 0) = false := by rw [hlen]; exact hHne
      obtain ⟨ad2, rfl, _, d2⟩ := (Reads.of_own ho2').getI hq
      obtain ⟨ad3, rfl, _, d3⟩ := (Reads.of_own ho3).getI (k := q) (by omega)
      rw [hg] at d3
      have u : IntKind.i64.wrap (H.getD q 0 + r - H.getD q 0) = r := by rw [show H.getD q 0 + r - H.getD q 0 = r by omega]; exact IntWalk.i64_in _ (by omega)
      have hq2 : q < G.length := by omega
      generalize H.getD q 0 = h0 at *
      clear hg HV HN hH1 hH2 HH1 ho3 ho2' hb
      go_wp2_with fail
      go_quiet (fail)
      go_wp2_with fail
      go_ret
      exact ⟨rfl, below_drewN hB3 _⟩


end Go.Proofs.YthepfpiphlfgnaaGreat
