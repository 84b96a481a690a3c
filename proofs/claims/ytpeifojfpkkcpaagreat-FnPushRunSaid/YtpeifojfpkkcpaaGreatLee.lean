/-
  YtpeifojfpkkcpaaGreatLee: the texts Ld, Fa, Le, Lf, Tk, Lg in one file.
-/
import Derived.Test.YtpeifojfpkkcpaaGreatLz
import Derived.Test.YtpeifojfpkkcpaaGreatTt
import Derived.Test.YtpeifojfpkkcpaaGreatFk
import Derived.Test.YtpeifojfpkkcpaaGreatFd3
import Derived.Test.YtpeifojfpkkcpaaGreatPq

/-
  YtpeifojfpkkcpaaGreatLd: what the property laws on ways up and down, and on the lowest and the highest tiling, say of the values. Plain Lean.
-/
namespace Go.Proofs.YtpeifojfpkkcpaaGreat

/-- What a choice of heights is to both. -/
structure Ext (f : Int → Int → Int) (r : Int → Int → Prop) : Prop where
  keeps : Keeps f
  l : ∀ x y, r (f x y) x
  rr : ∀ x y, r (f x y) y
  refl : ∀ x, r x x
  trans : ∀ x y z, r x y → r y z → r x z
  anti : ∀ x y, r x y → r y x → x = y
theorem ext_min : Ext min (fun x y => x ≤ y) where
  keeps := keeps_min
  l x y := by show min x y ≤ x; omega
  rr x y := by show min x y ≤ y; omega
  refl x := Int.le_refl x
  trans x y z h g := Int.le_trans h g
  anti x y h g := Int.le_antisymm h g
theorem ext_max : Ext max (fun x y => y ≤ x) where
  keeps := keeps_max
  l x y := by show x ≤ max x y; omega
  rr x y := by show y ≤ max x y; omega
  refl x := Int.le_refl x
  trans x y z h g := Int.le_trans g h
  anti x y h g := Int.le_antisymm g h
theorem exH_rel {f : Int → Int → Int} {r : Int → Int → Prop} (hf : Ext f r) {R : Reg} (hR : R.ok) (hS : SimpleP R) : ∀ {Ts : List (List Int)} {H : List Int}, HP R H → (∀ M ∈ Ts, Tile R M) → ∀ k, k < R.cn →
    r ((exH f R H Ts).getD k 0) (H.getD k 0) ∧ ∀ M ∈ Ts, r ((exH f R H Ts).getD k 0) ((htsOf R.W R.T R.C M).getD k 0)
  | [], H, _, _, k, _ => ⟨hf.refl _, fun M hM => by cases hM⟩
  | N :: Ts, H, h, g, k, hk => by
    have hN := g N (by simp)
    have hz := hf.keeps hR hS.1 h (hp_of_tile hR hS hN)
    obtain ⟨i1, i2⟩ := exH_rel hf hR hS (Ts := Ts) hz (fun M hM => g M (by simp [hM])) k hk
    have e : (List.zipWith f H (htsOf R.W R.T R.C N)).getD k 0 = f (H.getD k 0) ((htsOf R.W R.T R.C N).getD k 0) := zip_getD (by rw [h.len]; exact hk) (by rw [hts_len hR hS hN]; exact hk)
    have e0 : exH f R H (N :: Ts) = exH f R (List.zipWith f H (htsOf R.W R.T R.C N)) Ts := rfl
    rw [e] at i1
    rw [e0]
    refine ⟨hf.trans _ _ _ i1 (hf.l _ _), fun M hM => ?_⟩
    rcases List.mem_cons.1 hM with rfl | hM
    · exact hf.trans _ _ _ i1 (hf.rr _ _)
    · exact i2 M hM
theorem tilT_ne {R : Reg} (hR : R.ok) {M : List Int} (h : Tile R M) : tilT R ≠ [] := fun e => by
  have := (tilT_iff hR).2 h
  rw [e] at this
  cases this
theorem ex_tile {f : Int → Int → Int} {r : Int → Int → Prop} (hf : Ext f r) {R : Reg} (hR : R.ok) (hS : SimpleP R) (hne : tilT R ≠ []) :
    Tile R (exV f R.W R.T R.C) ∧ exB R.W R.T R.C = true ∧ ∀ M, Tile R M → ∀ k, k < R.cn → r ((htsOf R.W R.T R.C (exV f R.W R.T R.C)).getD k 0) ((htsOf R.W R.T R.C M).getD k 0) := by
  obtain ⟨e1, e2⟩ := exV_yes (f := f) ((simple_of hR).2 hS) hne
  have hall : ∀ M ∈ tilT R, Tile R M := fun M hM => (tilT_iff hR).1 hM
  have hh : Tile R ((tilT R).headD []) := by
    cases h : tilT R with
    | nil => exact absurd h hne
    | cons M l => exact hall M (by rw [h]; simp)
  have hp := exH_hp hf.keeps hR hS (Ts := tilT R) (hp_of_tile hR hS hh) hall
  rw [e1]
  refine ⟨⟨lay_tilH hR hp, full_tilH hR hp⟩, e2, fun M hM k hk => ?_⟩
  rw [htsOf_til hR hS hp]
  exact (exH_rel hf hR hS (Ts := tilT R) (hp_of_tile hR hS hh) hall k hk).2 M ((tilT_iff hR).2 hM)
theorem getD_set_self {H : List Int} {k : Nat} {v : Int} (h : k < H.length) : (H.set k v).getD k 0 = v := by
  rw [List.getD_eq_getElem?_getD, List.getElem?_set_self h]; rfl
theorem getD_set_other {H : List Int} {k j : Nat} {v : Int} (h : j ≠ k) : (H.set k v).getD j 0 = H.getD j 0 := by
  rw [List.getD_eq_getElem?_getD, List.getElem?_set_ne (Ne.symm h), ← List.getD_eq_getElem?_getD]
theorem tiled_tile' {W T : Int} {bs : List Bool} {L : List Int} (h : tiledB W T bs L = true) : ∃ R : Reg, R.ok ∧ W = (R.W : Int) ∧ T = (R.T : Int) ∧ bs = R.C ∧ SimpleP R ∧ Tile R L := by
  obtain ⟨R, hR, rfl, rfl, rfl, hS, h1, h2⟩ := tiled_cases h
  exact ⟨R, hR, rfl, rfl, rfl, hS, h1, h2⟩

end Go.Proofs.YtpeifojfpkkcpaaGreat

/-
  YtpeifojfpkkcpaaGreatFa: left out.
-/
namespace Go.Proofs.YtpeifojfpkkcpaaGreat

end Go.Proofs.YtpeifojfpkkcpaaGreat

/-
  YtpeifojfpkkcpaaGreatLe: what the property laws on pushes say, of the values. Plain Lean.
-/
namespace Go.Proofs.YtpeifojfpkkcpaaGreat

theorem upd_zip_max {H G : List Int} {k : Nat} {v : Int} (hl : H.length = G.length) (hk : k < H.length) (h : ∀ j, j < H.length → j ≠ k → G.getD j 0 ≤ H.getD j 0) (h1 : G.getD k 0 = v) (h2 : H.getD k 0 ≤ v) : H.set k v = List.zipWith max H G := by
  apply ints_ext (by simp; omega)
  intro j hj
  rw [List.length_set] at hj
  rw [zip_getD hj (by omega)]
  by_cases hjk : j = k
  · subst hjk; rw [getD_set_self hk, h1]; omega
  · rw [getD_set_other hjk]; have := h j hj hjk; omega
theorem upd_zip_min {H G : List Int} {k : Nat} {v : Int} (hl : H.length = G.length) (hk : k < H.length) (h : ∀ j, j < H.length → j ≠ k → H.getD j 0 ≤ G.getD j 0) (h1 : G.getD k 0 = v) (h2 : v ≤ H.getD k 0) : H.set k v = List.zipWith min H G := by
  apply ints_ext (by simp; omega)
  intro j hj
  rw [List.length_set] at hj
  rw [zip_getD hj (by omega)]
  by_cases hjk : j = k
  · subst hjk; rw [getD_set_self hk, h1]; omega
  · rw [getD_set_other hjk]; have := h j hj hjk; omega
/-- If the heights with one raised are right the tiling can be flipped up there. -/
theorem rs_of_up {R : Reg} (hR : R.ok) (hS : SimpleP R) {L : List Int} (h : Tile R L) {k : Nat} (hk : k < R.cn) (g : HP R ((htsOf R.W R.T R.C L).set k ((htsOf R.W R.T R.C L).getD k 0 + 4))) : flB R L (k : Int) = true ∧ rsV R L k = 4 := by
  obtain ⟨h1, h2⟩ := ci_in hk
  have hl := hts_len hR hS h
  obtain ⟨a, b, ha, hb, _, hd, hlt⟩ := asc hR hS h.1 h.2 (hts_of_tile hR hS h) g h1 h2 (by unfold Reg.ht; rw [ci_of, getD_set_self (by rw [hl]; exact hk)]; omega)
  by_cases he : R.ci (a + 1) (b + 1) = k
  · obtain ⟨f1, f2⟩ := rs_up ha hb hd
    rw [he] at f1 f2
    exact ⟨f1, f2⟩
  · unfold Reg.ht at hlt
    rw [getD_set_other he] at hlt
    omega
theorem rs_of_down {R : Reg} (hR : R.ok) (hS : SimpleP R) {L : List Int} (h : Tile R L) {k : Nat} (hk : k < R.cn) (g : HP R ((htsOf R.W R.T R.C L).set k ((htsOf R.W R.T R.C L).getD k 0 - 4))) : flB R L (k : Int) = true ∧ rsV R L k = -4 := by
  obtain ⟨h1, h2⟩ := ci_in hk
  have hl := hts_len hR hS h
  obtain ⟨a, b, ha, hb, _, hd, hlt⟩ := desc hR hS h.1 h.2 (hts_of_tile hR hS h) g h1 h2 (by unfold Reg.ht; rw [ci_of, getD_set_self (by rw [hl]; exact hk)]; omega)
  by_cases he : R.ci (a + 1) (b + 1) = k
  · obtain ⟨f1, f2⟩ := rs_down ha hb hd
    rw [he] at f1 f2
    exact ⟨f1, f2⟩
  · unfold Reg.ht at hlt
    rw [getD_set_other he] at hlt
    omega
/-- What a push does. -/
theorem pu_cases {R : Reg} (hR : R.ok) (hS : SimpleP R) {L : List Int} (h : Tile R L) (p : Int × Bool) :
    (puB R L p = false ∧ puV R L p = L) ∨ ∃ m : Nat, p.1 = (m : Int) ∧ m < R.cn ∧ puB R L p = true ∧ flB R L (m : Int) = true ∧ rsV R L m = (if p.2 = true then 4 else -4) ∧ puV R L p = flV R L (m : Int) ∧
      htsOf R.W R.T R.C (puV R L p) = (htsOf R.W R.T R.C L).set m ((htsOf R.W R.T R.C L).getD m 0 + (if p.2 = true then 4 else -4)) := by
  cases hb : puB R L p with
  | false => exact .inl ⟨rfl, puV_no hb⟩
  | true =>
    have hz : rsZ R L p.1 ≠ 0 := by
      intro e
      unfold puB at hb
      rw [e] at hb
      simp at hb
    cases hf : flB R L p.1 with
    | false => exact absurd (rsZ_no hf) hz
    | true =>
      obtain ⟨m, hm, hlt, hr⟩ := flB_nat hf
      obtain ⟨z, up⟩ := p
      simp only at hm hf hr hz
      subst hm
      have hr2 : rsV R L m = (if up = true then 4 else -4) := by
        have hb2 := hb
        unfold puB at hb2
        simp only [hr] at hb2
        rcases rsV_or hf with e | e <;> rw [e] at hb2 ⊢ <;> cases up <;> simp at hb2 ⊢
      refine .inr ⟨m, rfl, hlt, rfl, hf, hr2, puV_yes hb, ?_⟩
      rw [puV_yes hb, hts_step hR hS h hf, hr2]
theorem puB_of {R : Reg} {L : List Int} {m : Nat} {up : Bool} (h : rsV R L m = (if up = true then 4 else -4)) : puB R L ((m : Int), up) = true := by
  unfold puB
  simp only [rsZ_nat, h]
  cases up <;> rfl
/-- Pushes keep the order. -/
theorem pu_mono {R : Reg} (hR : R.ok) (hS : SimpleP R) {a b : List Int} (ha : Tile R a) (hb : Tile R b) (hle : ∀ k, k < R.cn → (htsOf R.W R.T R.C a).getD k 0 ≤ (htsOf R.W R.T R.C b).getD k 0) (p : Int × Bool) :
    ∀ k, k < R.cn → (htsOf R.W R.T R.C (puV R a p)).getD k 0 ≤ (htsOf R.W R.T R.C (puV R b p)).getD k 0 := by
  have hla := hts_len hR hS ha
  have hlb := hts_len hR hS hb
  have hTa := tile_puV hR ha p
  have hTb := tile_puV hR hb p
  intro k hk
  have h0 := hle k hk
  obtain ⟨z, up⟩ := p
  rcases pu_cases hR hS ha (z, up) with ⟨a1, a2⟩ | ⟨m, rfl, hm, a1, a2, a3, a4, a5⟩
  · rcases pu_cases hR hS hb (z, up) with ⟨b1, b2⟩ | ⟨m, rfl, hm, b1, b2, b3, b4, b5⟩
    · rw [a2, b2]; exact h0
    · rw [a2, b5]
      by_cases hkm : k = m
      · subst hkm
        rw [getD_set_self (by rw [hlb]; exact hk)]
        cases up with
        | true => simp only [if_true]; omega
        | false =>
          simp only [Bool.false_eq_true, if_false]
          have hmod := getD_mod hR hS hb ha hk
          by_cases hc : (htsOf R.W R.T R.C a).getD k 0 ≤ (htsOf R.W R.T R.C b).getD k 0 - 4
          · omega
          · have heq : (htsOf R.W R.T R.C a).getD k 0 = (htsOf R.W R.T R.C b).getD k 0 := by omega
            have hset : (htsOf R.W R.T R.C a).set k ((htsOf R.W R.T R.C a).getD k 0 - 4) = List.zipWith min (htsOf R.W R.T R.C a) (htsOf R.W R.T R.C (puV R b ((k : Int), false))) := by
              refine upd_zip_min (by rw [hla, hts_len hR hS hTb]) (by rw [hla]; exact hk) (fun j hj hjk => ?_) ?_ (by omega)
              · rw [b5, getD_set_other hjk]; exact hle j (by rw [hla] at hj; exact hj)
              · rw [b5, getD_set_self (by rw [hlb]; exact hk), heq]; simp only [Bool.false_eq_true, if_false]; omega
            have hp := hp_min hR hS.1 (hp_of_tile hR hS ha) (hp_of_tile hR hS hTb)
            rw [← hset] at hp
            obtain ⟨_, f2⟩ := rs_of_down hR hS ha hk hp
            rw [puB_of (up := false) (by rw [f2]; rfl)] at a1
            cases a1
      · rw [getD_set_other hkm]; exact h0
  · rcases pu_cases hR hS hb ((m : Int), up) with ⟨b1, b2⟩ | ⟨m', e, hm', b1, b2, b3, b4, b5⟩
    · rw [a5, b2]
      by_cases hkm : k = m
      · subst hkm
        rw [getD_set_self (by rw [hla]; exact hk)]
        cases up with
        | false => simp only [Bool.false_eq_true, if_false]; omega
        | true =>
          simp only [if_true]
          have hmod := getD_mod hR hS hb ha hk
          by_cases hc : (htsOf R.W R.T R.C a).getD k 0 + 4 ≤ (htsOf R.W R.T R.C b).getD k 0
          · omega
          · have heq : (htsOf R.W R.T R.C a).getD k 0 = (htsOf R.W R.T R.C b).getD k 0 := by omega
            have hset : (htsOf R.W R.T R.C b).set k ((htsOf R.W R.T R.C b).getD k 0 + 4) = List.zipWith max (htsOf R.W R.T R.C b) (htsOf R.W R.T R.C (puV R a ((k : Int), true))) := by
              refine upd_zip_max (by rw [hlb, hts_len hR hS hTa]) (by rw [hlb]; exact hk) (fun j hj hjk => ?_) ?_ (by omega)
              · rw [a5, getD_set_other hjk]; exact hle j (by rw [hlb] at hj; exact hj)
              · rw [a5, getD_set_self (by rw [hla]; exact hk), heq]; simp only [if_true]
            have hp := hp_max hR hS.1 (hp_of_tile hR hS hb) (hp_of_tile hR hS hTa)
            rw [← hset] at hp
            obtain ⟨_, f2⟩ := rs_of_up hR hS hb hk hp
            rw [puB_of (up := true) (by rw [f2]; rfl)] at b1
            cases b1
      · rw [getD_set_other hkm]; exact h0
    · obtain rfl : m = m' := by have e2 : (m : Int) = (m' : Int) := e; omega
      rw [a5, b5]
      by_cases hkm : k = m
      · subst hkm
        rw [getD_set_self (by rw [hla]; exact hk), getD_set_self (by rw [hlb]; exact hk)]
        omega
      · rw [getD_set_other hkm, getD_set_other hkm]; exact h0
theorem ru_mono {R : Reg} (hR : R.ok) (hS : SimpleP R) : ∀ {ps : List (Int × Bool)} {a b : List Int}, Tile R a → Tile R b → (∀ k, k < R.cn → (htsOf R.W R.T R.C a).getD k 0 ≤ (htsOf R.W R.T R.C b).getD k 0) →
    ∀ k, k < R.cn → (htsOf R.W R.T R.C (ruV R a ps)).getD k 0 ≤ (htsOf R.W R.T R.C (ruV R b ps)).getD k 0
  | [], _, _, _, _, h => h
  | p :: ps, _, _, ha, hb, h => ru_mono hR hS (ps := ps) (tile_puV hR ha p) (tile_puV hR hb p) (pu_mono hR hS ha hb h p)
theorem ruV_app (R : Reg) (L : List Int) (a b : List (Int × Bool)) : ruV R L (a ++ b) = ruV R (ruV R L a) b := by unfold ruV; rw [List.foldl_append]

end Go.Proofs.YtpeifojfpkkcpaaGreat

/-
  YtpeifojfpkkcpaaGreatLf: left out.
-/
namespace Go.Proofs.YtpeifojfpkkcpaaGreat

end Go.Proofs.YtpeifojfpkkcpaaGreat

/-
  YtpeifojfpkkcpaaGreatTk: left out.
-/
namespace Go.Proofs.YtpeifojfpkkcpaaGreat

end Go.Proofs.YtpeifojfpkkcpaaGreat

/-
  YtpeifojfpkkcpaaGreatLg: left out.
-/
namespace Go.Proofs.YtpeifojfpkkcpaaGreat

end Go.Proofs.YtpeifojfpkkcpaaGreat
