/-
  YtpeifojfpkkcpaaLdd: the texts Ld, Fa in one file.
-/
import Derived.Test.YtpeifojfpkkcpaaLz
import Derived.Test.YtpeifojfpkkcpaaTt
import Derived.Test.YtpeifojfpkkcpaaFk
import Derived.Test.YtpeifojfpkkcpaaFd3

/-
  YtpeifojfpkkcpaaLd: what the property laws on ways up and down, and on the lowest and the highest tiling, say of the values. Plain Lean.
-/
namespace Go.Proofs.Ytpeifojfpkkcpaa

/-- What a choice of heights is to both. -/
structure Ext (f : Int → Int → Int) (r : Int → Int → Prop) : Prop where
  keeps : Keeps f
  l : ∀ x y, r (f x y) x
  rr : ∀ x y, r (f x y) y
  refl : ∀ x, r x x
  trans : ∀ x y z, r x y → r y z → r x z
  anti : ∀ x y, r x y → r y x → x = y
theorem ext_min : Ext min (fun x y => x ≤ y) where
  keeps := keeps_min
  l x y := by show min x y ≤ x; omega
  rr x y := by show min x y ≤ y; omega
  refl x := Int.le_refl x
  trans x y z h g := Int.le_trans h g
  anti x y h g := Int.le_antisymm h g
theorem ext_max : Ext max (fun x y => y ≤ x) where
  keeps := keeps_max
  l x y := by show x ≤ max x y; omega
  rr x y := by show y ≤ max x y; omega
  refl x := Int.le_refl x
  trans x y z h g := Int.le_trans g h
  anti x y h g := Int.le_antisymm g h
theorem exH_rel {f : Int → Int → Int} {r : Int → Int → Prop} (hf : Ext f r) {R : Reg} (hR : R.ok) (hS : SimpleP R) : ∀ {Ts : List (List Int)} {H : List Int}, HP R H → (∀ M ∈ Ts, Tile R M) → ∀ k, k < R.cn →
    r ((exH f R H Ts).getD k 0) (H.getD k 0) ∧ ∀ M ∈ Ts, r ((exH f R H Ts).getD k 0) ((htsOf R.W R.T R.C M).getD k 0)
  | [], H, _, _, k, _ => ⟨hf.refl _, fun M hM => by cases hM⟩
  | N :: Ts, H, h, g, k, hk => by
    have hN := g N (by simp)
    have hz := hf.keeps hR hS.1 h (hp_of_tile hR hS hN)
    obtain ⟨i1, i2⟩ := exH_rel hf hR hS (Ts := Ts) hz (fun M hM => g M (by simp [hM])) k hk
    have e : (List.zipWith f H (htsOf R.W R.T R.C N)).getD k 0 = f (H.getD k 0) ((htsOf R.W R.T R.C N).getD k 0) := zip_getD (by rw [h.len]; exact hk) (by rw [hts_len hR hS hN]; exact hk)
    have e0 : exH f R H (N :: Ts) = exH f R (List.zipWith f H (htsOf R.W R.T R.C N)) Ts := rfl
    rw [e] at i1
    rw [e0]
    refine ⟨hf.trans _ _ _ i1 (hf.l _ _), fun M hM => ?_⟩
    rcases List.mem_cons.1 hM with rfl | hM
    · exact hf.trans _ _ _ i1 (hf.rr _ _)
    · exact i2 M hM
theorem tilT_ne {R : Reg} (hR : R.ok) {M : List Int} (h : Tile R M) : tilT R ≠ [] := fun e => by
  have := (tilT_iff hR).2 h
  rw [e] at this
  cases this
theorem ex_tile {f : Int → Int → Int} {r : Int → Int → Prop} (hf : Ext f r) {R : Reg} (hR : R.ok) (hS : SimpleP R) (hne : tilT R ≠ []) :
    Tile R (exV f R.W R.T R.C) ∧ exB R.W R.T R.C = true ∧ ∀ M, Tile R M → ∀ k, k < R.cn → r ((htsOf R.W R.T R.C (exV f R.W R.T R.C)).getD k 0) ((htsOf R.W R.T R.C M).getD k 0) := by
  obtain ⟨e1, e2⟩ := exV_yes (f := f) ((simple_of hR).2 hS) hne
  have hall : ∀ M ∈ tilT R, Tile R M := fun M hM => (tilT_iff hR).1 hM
  have hh : Tile R ((tilT R).headD []) := by
    cases h : tilT R with
    | nil => exact absurd h hne
    | cons M l => exact hall M (by rw [h]; simp)
  have hp := exH_hp hf.keeps hR hS (Ts := tilT R) (hp_of_tile hR hS hh) hall
  rw [e1]
  refine ⟨⟨lay_tilH hR hp, full_tilH hR hp⟩, e2, fun M hM k hk => ?_⟩
  rw [htsOf_til hR hS hp]
  exact (exH_rel hf hR hS (Ts := tilT R) (hp_of_tile hR hS hh) hall k hk).2 M ((tilT_iff hR).2 hM)
theorem ex_one {f : Int → Int → Int} {r : Int → Int → Prop} (hf : Ext f r) {R : Reg} (hR : R.ok) (hS : SimpleP R) {x : List Int} (hx : Tile R x)
    (h : ∀ M, Tile R M → ∀ k, k < R.cn → r ((htsOf R.W R.T R.C x).getD k 0) ((htsOf R.W R.T R.C M).getD k 0)) : exV f R.W R.T R.C = x := by
  obtain ⟨h1, _, h3⟩ := ex_tile hf hR hS (tilT_ne hR hx)
  exact hts_ext hR hS h1 hx fun k hk => hf.anti _ _ (h3 x hx k hk) (h _ h1 k hk)
theorem getD_set_self {H : List Int} {k : Nat} {v : Int} (h : k < H.length) : (H.set k v).getD k 0 = v := by
  rw [List.getD_eq_getElem?_getD, List.getElem?_set_self h]; rfl
theorem getD_set_other {H : List Int} {k j : Nat} {v : Int} (h : j ≠ k) : (H.set k v).getD j 0 = H.getD j 0 := by
  rw [List.getD_eq_getElem?_getD, List.getElem?_set_ne (Ne.symm h), ← List.getD_eq_getElem?_getD]
/-- There is no way down exactly for the lowest tiling. -/
theorem dn_none {R : Reg} (hR : R.ok) (hS : SimpleP R) {L : List Int} (h : Tile R L) : dnL R L = [] ↔ exV min R.W R.T R.C = L := by
  constructor
  · intro h0
    refine ex_one ext_min hR hS h fun M hM k hk => ?_
    by_cases hlt : (htsOf R.W R.T R.C M).getD k 0 < (htsOf R.W R.T R.C L).getD k 0
    · obtain ⟨h1, h2⟩ := ci_in hk
      obtain ⟨a, b, ha, hb, _, hd, _⟩ := desc hR hS h.1 h.2 (hts_of_tile hR hS h) (hp_of_tile hR hS hM) h1 h2 (by unfold Reg.ht; rw [ci_of]; exact hlt)
      obtain ⟨f1, f2⟩ := rs_down ha hb hd
      have hm := mem_flL (p := fun k => rsZ R L (k : Int) == -4) (ci_lt (R := R) (x := a + 1) (y := b + 1) (by omega) (by omega)) f1 (by show (rsZ R L _ == -4) = true; rw [rsZ_nat, f2]; rfl)
      unfold dnL at h0
      rw [h0] at hm
      cases hm
    · show (htsOf R.W R.T R.C L).getD k 0 ≤ (htsOf R.W R.T R.C M).getD k 0
      omega
  · intro e
    cases hd : dnL R L with
    | nil => rfl
    | cons z l =>
      obtain ⟨j, _, hj, hf, hr, _⟩ := dn_head hd
      have := (ex_tile ext_min hR hS (tilT_ne hR h)).2.2 _ (tile_flV hR h (j : Int)) j hj
      rw [e, hts_step hR hS h hf, getD_set_self (by rw [hts_len hR hS h]; exact hj), hr] at this
      omega
/-- The flips up. -/
def upL (R : Reg) (L : List Int) : List Int := flL R L fun k => rsZ R L (k : Int) == 4
theorem up_none {R : Reg} (hR : R.ok) (hS : SimpleP R) {L : List Int} (h : Tile R L) : upL R L = [] ↔ exV max R.W R.T R.C = L := by
  constructor
  · intro h0
    refine ex_one ext_max hR hS h fun M hM k hk => ?_
    by_cases hlt : (htsOf R.W R.T R.C L).getD k 0 < (htsOf R.W R.T R.C M).getD k 0
    · obtain ⟨h1, h2⟩ := ci_in hk
      obtain ⟨a, b, ha, hb, _, hd, _⟩ := asc hR hS h.1 h.2 (hts_of_tile hR hS h) (hp_of_tile hR hS hM) h1 h2 (by unfold Reg.ht; rw [ci_of]; exact hlt)
      obtain ⟨f1, f2⟩ := rs_up ha hb hd
      have hm := mem_flL (p := fun k => rsZ R L (k : Int) == 4) (ci_lt (R := R) (x := a + 1) (y := b + 1) (by omega) (by omega)) f1 (by show (rsZ R L _ == 4) = true; rw [rsZ_nat, f2]; rfl)
      unfold upL at h0
      rw [h0] at hm
      cases hm
    · show (htsOf R.W R.T R.C M).getD k 0 ≤ (htsOf R.W R.T R.C L).getD k 0
      omega
  · intro e
    cases hd : upL R L with
    | nil => rfl
    | cons z l =>
      obtain ⟨j, _, hj, hf, hp⟩ := flTo_in (R := R) (L := L) (p := fun k => rsZ R L (k : Int) == 4) (k := R.cn) (z := z) (by unfold upL flL at hd; rw [hd]; simp)
      have hr : rsV R L j = 4 := by have : (rsZ R L (j : Int) == 4) = true := hp; rw [rsZ_nat] at this; simpa using this
      have := (ex_tile ext_max hR hS (tilT_ne hR h)).2.2 _ (tile_flV hR h (j : Int)) j hj
      rw [e, hts_step hR hS h hf, getD_set_self (by rw [hts_len hR hS h]; exact hj), hr] at this
      omega
theorem sum_dif_sub : ∀ {X Y : List Int}, X.length = Y.length → (∀ k, k < X.length → Y.getD k 0 ≤ X.getD k 0) → (List.zipWith dif X Y).sum = X.sum - Y.sum
  | [], [], _, _ => rfl
  | x :: X, y :: Y, hl, h => by
    have ih := sum_dif_sub (X := X) (Y := Y) (by simpa using hl) (fun k hk => by have := h (k + 1) (by simp; omega); simpa using this)
    have h0 := h 0 (by simp)
    simp only [List.getD_cons_zero] at h0
    simp only [List.zipWith_cons_cons, List.sum_cons, ih]
    unfold dif
    omega
theorem apart_ge {R : Reg} (hR : R.ok) (hS : SimpleP R) {L x : List Int} (hL : Tile R L) (hx : Tile R x) (h : ∀ k, k < R.cn → (htsOf R.W R.T R.C x).getD k 0 ≤ (htsOf R.W R.T R.C L).getD k 0) : apartV R.W R.T R.C L x = (hsum R L - hsum R x) / 4 := by
  rw [apartV_tile hR hS hL hx]
  unfold dsum hsum
  rw [sum_dif_sub (by rw [hts_len hR hS hL, hts_len hR hS hx]) (fun k hk => h k (by rw [hts_len hR hS hL] at hk; exact hk))]
theorem dif_sum_self : ∀ (X : List Int), (List.zipWith dif X X).sum = 0
  | [] => rfl
  | x :: X => by simp only [List.zipWith_cons_cons, List.sum_cons, dif_self, dif_sum_self X]; rfl
theorem tile_of_tiled {R : Reg} (hR : R.ok) {L : List Int} (h : tiledB R.W R.T R.C L = true) : SimpleP R ∧ Tile R L := by
  have h1 := (tiled_ok hR).1 h
  exact ⟨h1.1, h1.2⟩
theorem tiled_tile' {W T : Int} {bs : List Bool} {L : List Int} (h : tiledB W T bs L = true) : ∃ R : Reg, R.ok ∧ W = (R.W : Int) ∧ T = (R.T : Int) ∧ bs = R.C ∧ SimpleP R ∧ Tile R L := by
  obtain ⟨R, hR, rfl, rfl, rfl, hS, h1, h2⟩ := tiled_cases h
  exact ⟨R, hR, rfl, rfl, rfl, hS, h1, h2⟩
/-- FnDownAll. -/
theorem law_downAll {W T : Int} {bs : List Bool} {L : List Int} (h : tiledB W T bs L = true) :
    exB W T bs = true ∧ exV min W T bs = daV W T bs L ∧ apartV W T bs L (daV W T bs L) = daN W T bs L := by
  obtain ⟨R, hR, rfl, rfl, rfl, hS, hT⟩ := tiled_tile' h
  obtain ⟨e1, e2⟩ := da_yes h
  rw [e1, e2]
  obtain ⟨_, s2, s3⟩ := dnN_spec hR hS hT
  have hx := tile_dnIt hR hT (dnN R L)
  have ex := (dn_none hR hS hx).1 s2
  obtain ⟨t1, t2, t3⟩ := ex_tile ext_min hR hS (tilT_ne hR hT)
  refine ⟨t2, ex, ?_⟩
  rw [ex] at t3
  rw [apart_ge hR hS hT hx (t3 L hT), dn_down hR hS hT _ s3]
  omega
/-- FnDownOf. -/
theorem law_downOf {W T : Int} {bs : List Bool} {L : List Int} (h : tiledB W T bs L = true) :
    exB W T bs = true ∧ ((rgV W T bs L (-4)).length = 0 ↔ exV min W T bs = L) ∧ ∀ z ∈ rgV W T bs L (-4), belowB W T bs (foV W T bs L z) L = true := by
  obtain ⟨R, hR, rfl, rfl, rfl, hS, hT⟩ := tiled_tile' h
  have e : rgV R.W R.T R.C L (-4) = dnL R L := rgV_yes h
  rw [e]
  refine ⟨(ex_tile ext_min hR hS (tilT_ne hR hT)).2.1, by rw [List.length_eq_zero_iff]; exact dn_none hR hS hT, fun z hz => ?_⟩
  obtain ⟨j, rfl, hj, hf, hp⟩ := flTo_in (R := R) (L := L) (p := fun k => rsZ R L (k : Int) == -4) (k := R.cn) (z := z) (by unfold dnL flL at hz; exact hz)
  have hr : rsV R L j = -4 := by have : (rsZ R L (j : Int) == -4) = true := hp; rw [rsZ_nat] at this; simpa using this
  have hl : laidB R.W R.T R.C L = true := by rw [laidB_ok hR]; exact (laysB_iff hR).2 hT.1
  rw [(foV_yes (k := (j : Int)) hl).1, below_iff hR hS (tile_flV hR hT _) hT]
  intro k hk
  rw [hts_step hR hS hT hf, hr]
  by_cases hkj : k = j
  · subst hkj
    rw [getD_set_self (by rw [hts_len hR hS hT]; exact hj)]
    omega
  · rw [getD_set_other hkj]
    exact Int.le_refl _
theorem filter_part (a p q : Nat → Bool) (h : ∀ j, a j = true → (p j = true ∧ q j = false) ∨ (p j = false ∧ q j = true)) : ∀ l : List Nat, (l.filter fun j => a j && p j).length + (l.filter fun j => a j && q j).length = (l.filter fun j => a j && true).length
  | [] => rfl
  | j :: l => by
    have ih := filter_part a p q h l
    cases ha : a j with
    | false => simp only [List.filter_cons, ha, Bool.false_and]; exact ih
    | true =>
      rcases h j ha with ⟨h1, h2⟩ | ⟨h1, h2⟩
      · simp only [List.filter_cons, ha, h1, h2, Bool.and_self, Bool.and_false, if_true]; simp at ih ⊢; omega
      · simp only [List.filter_cons, ha, h1, h2, Bool.and_self, Bool.and_false, if_true]; simp at ih ⊢; omega
theorem flTo_len_eq (R : Reg) (L : List Int) (p : Nat → Bool) (k : Nat) : (flTo R L p k).length = ((List.range k).filter fun (j : Nat) => flB R L (j : Int) && p j).length := by
  unfold flTo
  rw [List.length_map]
/-- FnUpOf. -/
theorem law_upOf {W T : Int} {bs : List Bool} {L : List Int} (h : tiledB W T bs L = true) :
    exB W T bs = true ∧ ((rgV W T bs L 4).length = 0 ↔ exV max W T bs = L) ∧ (rgV W T bs L 4).length + (rgV W T bs L (-4)).length = (fsV W T bs L).length := by
  obtain ⟨R, hR, rfl, rfl, rfl, hS, hT⟩ := tiled_tile' h
  have e : rgV R.W R.T R.C L 4 = upL R L := rgV_yes h
  have e2 : rgV R.W R.T R.C L (-4) = dnL R L := rgV_yes h
  have hl : laidB R.W R.T R.C L = true := by rw [laidB_ok hR]; exact (laysB_iff hR).2 hT.1
  rw [e, e2, fsV_yes hl]
  refine ⟨(ex_tile ext_min hR hS (tilT_ne hR hT)).2.1, by rw [List.length_eq_zero_iff]; exact up_none hR hS hT, ?_⟩
  unfold upL dnL flL
  rw [flTo_len_eq, flTo_len_eq, flTo_len_eq]
  refine filter_part (fun (j : Nat) => flB R L (j : Int)) _ _ (fun j hj => ?_) _
  rw [rsZ_nat]
  rcases rsV_or hj with e | e
  · exact .inl ⟨by rw [e]; rfl, by rw [e]; rfl⟩
  · exact .inr ⟨by rw [e]; rfl, by rw [e]; rfl⟩
/-- Lists of corners ascend. -/
def Asc (L : List Int) : Prop := ∀ i, i + 1 < L.length → L.getD i 0 < L.getD (i + 1) 0
theorem asc_of {L : List Int} (h : L.Pairwise (· < ·)) : Asc L := by
  intro i hi
  rw [List.getD_eq_getElem?_getD, List.getD_eq_getElem?_getD, List.getElem?_eq_getElem hi, List.getElem?_eq_getElem (show i < L.length by omega)]
  exact List.pairwise_iff_getElem.1 h i (i + 1) (by omega) hi (by omega)
theorem asc_flTo (R : Reg) (L : List Int) (p : Nat → Bool) (k : Nat) : Asc (flTo R L p k) := by
  refine asc_of ?_
  unfold flTo
  rw [List.pairwise_map]
  exact (List.pairwise_lt_range.filter _).imp (fun h => by omega)
theorem asc_nil : Asc [] := fun i hi => by simp at hi
theorem asc_rgV {W T : Int} {bs : List Bool} {L : List Int} {b : Int} : Asc (rgV W T bs L b) := by
  unfold rgV
  split
  · exact asc_flTo _ _ _ _
  · exact asc_nil
theorem asc_fsV {W T : Int} {bs : List Bool} {L : List Int} : Asc (fsV W T bs L) := by
  unfold fsV
  split
  · exact asc_flTo _ _ _ _
  · exact asc_nil
theorem rgV_small {W T : Int} {bs : List Bool} {L : List Int} {b : Int} : ∀ z ∈ rgV W T bs L b, 0 ≤ z ∧ z ≤ 48 := by
  intro z hz
  cases h : tiledB W T bs L with
  | false => rw [rgV_no h] at hz; cases hz
  | true =>
    obtain ⟨R, hR, rfl, rfl, rfl, _⟩ := tiled_cases h
    rw [rgV_yes h] at hz
    obtain ⟨j, rfl, hj, _⟩ := flTo_in hz
    have := (cn_bd hR).2
    omega
/-- FnFlipWay: one step of the way. -/
theorem law_flipWay {W T : Int} {bs : List Bool} {M N : List Int} (h : tiledB W T bs M = true) (g : tiledB W T bs N = true) :
    ∃ S : Nat → List Int, S 0 = M ∧ S (fwV W T bs M N).length = N ∧ apartV W T bs M N = ((fwV W T bs M N).length : Nat) ∧ (∀ j, (S j).length ≤ 36) ∧
      ∀ j, j < (fwV W T bs M N).length → foV W T bs (S j) ((fwV W T bs M N).getD j 0) = S (j + 1) ∧ foB W T bs (S j) ((fwV W T bs M N).getD j 0) = true ∧ 0 ≤ (fwV W T bs M N).getD j 0 ∧ (fwV W T bs M N).getD j 0 ≤ 48 := by
  obtain ⟨R, hR, rfl, rfl, rfl, hS, hM⟩ := tiled_tile' h
  obtain ⟨_, hN⟩ := tile_of_tiled hR g
  obtain ⟨n1, n2, n3⟩ := wyN_spec hR hS hM hN
  rw [fwV_yes h g, wyOut_len]
  refine ⟨wyIt R N M, rfl, n2, ?_, fun j => by rw [(tile_wyIt hR hM j).1.len]; exact (len_bd hR).2, fun j hj => ?_⟩
  · have hd := wy_down hR hS hM hN (wyN R N M) n3
    rw [n2] at hd
    have h0 : dsum R N N = 0 := by
      unfold dsum
      exact dif_sum_self _
    rw [apartV_tile hR hS hM hN]
    omega
  · have hT := tile_wyIt hR hM (N := N) j
    have e : (wyOut R N M (wyN R N M)).getD j 0 = wyHd R N (wyIt R N M j) := by
      unfold wyOut
      rw [List.getD_eq_getElem?_getD, List.getElem?_map, List.getElem?_range hj]; rfl
    rw [e]
    cases hw : wyL R N (wyIt R N M j) with
    | nil => exact absurd hw (wy_some hR hS hT hN (n3 j hj))
    | cons z l =>
      obtain ⟨q, _, hq, hf, _, hs, hh⟩ := wy_head hw
      have hl : laidB R.W R.T R.C (wyIt R N M j) = true := by rw [laidB_ok hR]; exact (laysB_iff hR).2 hT.1
      have hc := (cn_bd hR).2
      rw [hh, (foV_yes hl).1, (foV_yes hl).2]
      exact ⟨hs.symm, hf, by omega, by omega⟩

end Go.Proofs.Ytpeifojfpkkcpaa

/-
  YtpeifojfpkkcpaaFa: FlipsOf of the program; the laws' ascend.
-/
namespace Go.Proofs.Ytpeifojfpkkcpaa
open Go.RowKit

theorem enters_anyCorner : Enters Try.prog 106 := enters_of Try.func106 (by kernel_rfl) rfl
theorem anyCorner_any (k : Nat) (w : World) : Calls Try.prog 106 #[.int .i64 (k : Nat)] w fun e w' => e = .returned (.bool true) ∧ Below w.heap.size w w' := by
  go_enter Try.func106, Try.ntmps106
  go_wp2_with fail
  go_ret
  exact ⟨rfl, Below.refl _ _⟩

theorem flipsOfI_any (W T : Int) (A : Option Addr) (n c B : Nat) (bs : List Bool) (L : List Int) (D : Option Addr) (m d : Nat) (w : World) (hbl : bs.length = n) (hL : L.length = m)
    (hr : Reads w B 1 A n (bs.map Value.bool)) (hd : Reads w B 1 D m (L.map (Value.int .i64))) (hB : B ≤ w.heap.size) (hn : n ≤ 9223372036854775807) (hm : m ≤ 9223372036854775807) :
    Calls Try.prog 35 #[.agg #[.int .i64 W, .int .i64 T, .slice A n c], .slice D m d] w (RetInts w (fsV W T bs L)) := by
  have hLO := hide (laidOkI_any W T A n c B bs L D m d (w.alloc (boxR W T A n c)) hbl hL (hr.alloc hB _) (hd.alloc hB _) (by simp; omega) hn hm)
  cases h : laidB W T bs L with
  | false =>
    rw [h] at hLO
    rw [fsV_no h]
    clear h
    go_enter Try.func35, Try.ntmps35
    go_wp2_with fail
    refine (unhide hLO).mono ?_
    rintro e w1 ⟨rfl, hb1⟩
    go_wp2_with fail
    go_ret
    exact ⟨none, 0, 0, rfl, ⟨rfl, .inl ⟨rfl, rfl⟩⟩, (box_keep hb1).1⟩
  | true =>
    rw [h] at hLO
    obtain ⟨R, hR, rfl, rfl, rfl, hLy⟩ := laid_cases h
    rw [fsV_yes h]
    subst hbl
    obtain rfl : m = R.C.length := by rw [← hL]; exact hLy.len
    have hFL := fun w' (h : Below w.heap.size w w') => hide (flips_any 106 #[] (fun _ => true) R hR A c B L D d w' enters_anyCorner (fun k w'' _ _ _ => anyCorner_any k w'') (hd.below (h.mono hB)) (Nat.le_trans hB h.size))
    clear h
    generalize (flL R L fun _ => true) = V at *
    go_enter Try.func35, Try.ntmps35
    go_wp2_with fail
    refine (unhide hLO).mono ?_
    rintro e w1 ⟨rfl, hb1⟩
    obtain ⟨hB1, hk1, b0, b1, b2⟩ := box_keep hb1
    go_wp2_with fail
    refine (unhide (hFL _ hB1)).mono ?_
    rintro e w2 ⟨A', c', rfl, ho, hb2⟩
    go_wp2_with fail
    go_ret
    exact ⟨A', c', _, rfl, own_mono ho hB1.size, hB1.trans (hb2.mono hB1.size)⟩

set_option maxHeartbeats 1000000 in
theorem ascend_any (L : List Int) (D : Option Addr) (m d B : Nat) (w : World) (hL : L.length = m) (hA : Asc L) (h1 : Reads w B 1 D m (L.map (Value.int .i64))) (hm : m ≤ 1048576) :
    Calls Try.prog 45 #[.slice D m d] w fun e w' => e = .returned (.bool true) ∧ Below w.heap.size w w' := by
  have HL := Lib.hid hL
  have HA := Lib.hid hA
  clear hL hA
  have HLG := fun k (hk : k < m) => h1.getI hk
  go_enter Try.func45, Try.ntmps45
  go_wp2_with fail
  go_loopg [3] m (fun r s3 wr => ∃ k q : Nat, k + r = m ∧ s3 = .int .i64 ((k : Int) + 1) ∧ wr = w.drewN q)
  case atStart => exact ⟨0, 0, by omega, rfl, rfl⟩
  case round =>
    obtain ⟨k, q, hk, rfl, rfl⟩ := hrel
    have HK := Lib.hid hk
    clear hk
    by_cases hlt : k + 1 < m
    · obtain ⟨ad, rfl, _, hc1⟩ := HLG k (by omega)
      obtain ⟨ad2, e2, _, hc2⟩ := HLG (k + 1) hlt
      obtain rfl : ad = ad2 := by injection e2
      have hbq := below_drewN (Below.refl w.heap.size w) q
      have x1 := (cell_kept hc1 hbq)
      have x2 := (cell_kept hc2 hbq)
      have hlt2 := HA.out k (by rw [HL.out]; exact hlt)
      have hk1 : (k : Int) + 1 - 1 = (k : Int) := by omega
      have hdc : decide (L.getD (k + 1) 0 ≤ L.getD k 0) = false := decide_eq_false (by omega)
      have hc3 : w.cell? ⟨ad.block, ad.off + (k + 1), none⟩ = some (.int .i64 (L.getD (k + 1) 0)) := hc2
      clear HLG e2
      generalize L.getD k 0 = x at *
      generalize L.getD (k + 1) 0 = y at *
      clear hlt2
      go_wp2
      go_big_quiet (fail)
      go_wp2_with fail
      go_roundg (m - (k + 1))
      case measure => have := HK.out; omega
      case rel => exact ⟨k + 1, _, by have := HK.out; omega, by go_num, rfl⟩
    · clear HLG
      go_wp2_with fail
      go_ret
      exact ⟨rfl, below_drewN (Below.refl _ _) _⟩

end Go.Proofs.Ytpeifojfpkkcpaa
