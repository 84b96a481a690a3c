/-
  YtldnccdlpagodaaQ6: the way of flips from a tiling to another one. Plain Lean.
-/
import Derived.Test.YtldnccdlpagodaaQ5
namespace Go.Proofs.Ytldnccdlpagodaa

/-- Does the flip round a corner bring its height nearer? -/
noncomputable def wyP (R : Reg) (N M : List Int) (k : Nat) : Bool :=
  (decide (0 < rsZ R M (k : Int)) && decide ((htsOf R.W R.T R.C M).getD k 0 < (htsOf R.W R.T R.C N).getD k 0)) || (decide (rsZ R M (k : Int) < 0) && decide ((htsOf R.W R.T R.C N).getD k 0 < (htsOf R.W R.T R.C M).getD k 0))
noncomputable def wyL (R : Reg) (N M : List Int) : List Int := flL R M (wyP R N M)
noncomputable def wyStep (R : Reg) (N M : List Int) : List Int := match wyL R N M with
  | [] => M
  | k :: _ => flV R M k
noncomputable def wyIt (R : Reg) (N M : List Int) : Nat → List Int
  | 0 => M
  | n + 1 => wyStep R N (wyIt R N M n)
noncomputable def wyHd (R : Reg) (N M : List Int) : Int := (wyL R N M).headD 0
noncomputable def wyOut (R : Reg) (N M : List Int) (n : Nat) : List Int := (List.range n).map fun j => wyHd R N (wyIt R N M j)
theorem wyOut_succ (R : Reg) (N M : List Int) (n : Nat) : wyOut R N M (n + 1) = wyOut R N M n ++ [wyHd R N (wyIt R N M n)] := by
  unfold wyOut
  rw [List.range_succ, List.map_append]; rfl
theorem wyOut_len (R : Reg) (N M : List Int) (n : Nat) : (wyOut R N M n).length = n := by unfold wyOut; simp

/-- How far two tilings are apart, not divided. -/
noncomputable def dsum (R : Reg) (N M : List Int) : Int := (List.zipWith dif (htsOf R.W R.T R.C M) (htsOf R.W R.T R.C N)).sum
theorem wy_head {R : Reg} {N M : List Int} {k : Int} {l : List Int} (h : wyL R N M = k :: l) : ∃ j : Nat, k = (j : Int) ∧ j < R.cn ∧ flB R M (j : Int) = true ∧ wyP R N M j = true ∧ wyStep R N M = flV R M (j : Int) ∧ wyHd R N M = (j : Int) := by
  have hm : k ∈ wyL R N M := by rw [h]; simp
  unfold wyL flL flTo at hm
  obtain ⟨j, hj, rfl⟩ := List.mem_map.1 hm
  rw [List.mem_filter, List.mem_range, Bool.and_eq_true] at hj
  exact ⟨j, rfl, hj.1, hj.2.1, hj.2.2, by unfold wyStep; rw [h], by unfold wyHd; rw [h]; rfl⟩
theorem tile_wyStep {R : Reg} (hR : R.ok) {N M : List Int} (h : Tile R M) : Tile R (wyStep R N M) := by
  unfold wyStep
  split
  · exact h
  · exact tile_flV hR h _
theorem tile_wyIt {R : Reg} (hR : R.ok) {N M : List Int} (h : Tile R M) : ∀ n, Tile R (wyIt R N M n)
  | 0 => h
  | n + 1 => tile_wyStep hR (tile_wyIt hR h n)

theorem hts_of_tile {R : Reg} (hR : R.ok) (hS : SimpleP R) {M : List Int} (h : Tile R M) : Hts R M (htsOf R.W R.T R.C M) := htsOf_yes hR hS h.1 h.2
theorem hp_of_tile {R : Reg} (hR : R.ok) (hS : SimpleP R) {M : List Int} (h : Tile R M) : HP R (htsOf R.W R.T R.C M) := hp_of_hts h.1 (hts_of_tile hR hS h)
theorem tile_ext {R : Reg} (hR : R.ok) (hS : SimpleP R) {M N : List Int} (h : Tile R M) (g : Tile R N) (he : htsOf R.W R.T R.C M = htsOf R.W R.T R.C N) : M = N :=
  til_one hR h.1 h.2 g.1 g.2 (hts_of_tile hR hS h) (by rw [he]; exact hts_of_tile hR hS g)
theorem getD_mod {R : Reg} (hR : R.ok) (hS : SimpleP R) {M N : List Int} (h : Tile R M) (g : Tile R N) {k : Nat} (hk : k < R.cn) : ((htsOf R.W R.T R.C M).getD k 0 - (htsOf R.W R.T R.C N).getD k 0) % 4 = 0 := by
  have := hp_mod hR hS.1 (hp_of_tile hR hS h) (hp_of_tile hR hS g) (ci_in hk).1 (ci_in hk).2
  unfold Reg.ht at this
  rwa [ci_of] at this

/-- The sign of a flip. -/
theorem rs_down {R : Reg} {L : List Int} {a b : Nat} (ha : a + 1 < R.W) (hb : b + 1 < R.T) (h : DownAt R L a b) : flB R L (R.ci (a + 1) (b + 1) : Nat) = true ∧ rsV R L (R.ci (a + 1) (b + 1)) = -4 := by
  have hs : sg ((R.ci (a + 1) (b + 1) % (R.W + 1) : Nat) : Int) ((R.ci (a + 1) (b + 1) / (R.W + 1) : Nat) : Int) = sg a b := by
    rw [ci_mod _ (by omega), ci_div _ (by omega), show ((b + 1 : Nat) : Int) = (b : Int) + 1 by omega, show ((a + 1 : Nat) : Int) = (a : Int) + 1 by omega, sg_ab]
  unfold flB rsV
  rw [hs]
  rcases h with ⟨h, e⟩ | ⟨h, e⟩
  · have h1 := (fl1_at ha hb).2 h
    rw [h1, if_pos rfl, e]
    exact ⟨rfl, by omega⟩
  · have h2 := (fl2_at ha hb).2 h
    have h1 : fl1 R L (R.ci (a + 1) (b + 1) : Nat) = false := by
      cases h1 : fl1 R L (R.ci (a + 1) (b + 1) : Nat) with
      | false => rfl
      | true => rw [fl12 h1] at h2; cases h2
    rw [h1, h2, if_neg (by decide), if_pos rfl, e]
    exact ⟨rfl, by omega⟩
theorem rs_up {R : Reg} {L : List Int} {a b : Nat} (ha : a + 1 < R.W) (hb : b + 1 < R.T) (h : UpAt R L a b) : flB R L (R.ci (a + 1) (b + 1) : Nat) = true ∧ rsV R L (R.ci (a + 1) (b + 1)) = 4 := by
  have hs : sg ((R.ci (a + 1) (b + 1) % (R.W + 1) : Nat) : Int) ((R.ci (a + 1) (b + 1) / (R.W + 1) : Nat) : Int) = sg a b := by
    rw [ci_mod _ (by omega), ci_div _ (by omega), show ((b + 1 : Nat) : Int) = (b : Int) + 1 by omega, show ((a + 1 : Nat) : Int) = (a : Int) + 1 by omega, sg_ab]
  unfold flB rsV
  rw [hs]
  rcases h with ⟨h, e⟩ | ⟨h, e⟩
  · have h1 := (fl1_at ha hb).2 h
    rw [h1, if_pos rfl, e]
    exact ⟨rfl, by omega⟩
  · have h2 := (fl2_at ha hb).2 h
    have h1 : fl1 R L (R.ci (a + 1) (b + 1) : Nat) = false := by
      cases h1 : fl1 R L (R.ci (a + 1) (b + 1) : Nat) with
      | false => rfl
      | true => rw [fl12 h1] at h2; cases h2
    rw [h1, h2, if_neg (by decide), if_pos rfl, e]
    exact ⟨rfl, by omega⟩
theorem rsZ_nat (R : Reg) (L : List Int) (k : Nat) : rsZ R L (k : Int) = rsV R L k := by unfold rsZ; rw [if_pos (by omega), Int.toNat_natCast]
theorem mem_flL {R : Reg} {L : List Int} {p : Nat → Bool} {k : Nat} (hk : k < R.cn) (h : flB R L (k : Int) = true) (hp : p k = true) : ((k : Nat) : Int) ∈ flL R L p := by
  unfold flL flTo
  exact List.mem_map.2 ⟨k, List.mem_filter.2 ⟨List.mem_range.2 hk, by rw [h, hp]; rfl⟩, rfl⟩

/-- As long as a tiling is not the other one there is a flip that brings it nearer. -/
theorem wy_some {R : Reg} (hR : R.ok) (hS : SimpleP R) {M N : List Int} (h : Tile R M) (g : Tile R N) (hne : M ≠ N) : wyL R N M ≠ [] := by
  have hH := hts_of_tile hR hS h
  have hG := hp_of_tile hR hS g
  obtain ⟨x, y, hx, hy, hd⟩ : ∃ x y : Nat, x ≤ R.W ∧ y ≤ R.T ∧ R.ht (htsOf R.W R.T R.C M) x y ≠ R.ht (htsOf R.W R.T R.C N) x y := Classical.byContradiction fun hno =>
    hne (tile_ext hR hS h g (ht_ext hH.len hG.len fun x y hx hy => Classical.byContradiction fun hc => hno ⟨x, y, hx, hy, hc⟩))
  intro he
  rcases Int.lt_or_gt_of_ne hd with hlt | hgt
  · obtain ⟨a, b, ha, hb, _, hup, hle⟩ := asc hR hS h.1 h.2 hH hG hx hy hlt
    obtain ⟨h1, h2⟩ := rs_up ha hb hup
    have := mem_flL (p := wyP R N M) (ci_lt (R := R) (x := a + 1) (y := b + 1) (by omega) (by omega)) h1 (by
      unfold wyP
      unfold Reg.ht at hle
      rw [rsZ_nat, h2, decide_eq_true (show (htsOf R.W R.T R.C M).getD (R.ci (a + 1) (b + 1)) 0 < (htsOf R.W R.T R.C N).getD (R.ci (a + 1) (b + 1)) 0 by omega)]
      rfl)
    unfold wyL at he
    rw [he] at this
    cases this
  · obtain ⟨a, b, ha, hb, _, hup, hle⟩ := desc hR hS h.1 h.2 hH hG hx hy hgt
    obtain ⟨h1, h2⟩ := rs_down ha hb hup
    have := mem_flL (p := wyP R N M) (ci_lt (R := R) (x := a + 1) (y := b + 1) (by omega) (by omega)) h1 (by
      unfold wyP
      unfold Reg.ht at hle
      rw [rsZ_nat, h2, decide_eq_true (show (htsOf R.W R.T R.C N).getD (R.ci (a + 1) (b + 1)) 0 < (htsOf R.W R.T R.C M).getD (R.ci (a + 1) (b + 1)) 0 by omega), Bool.and_true, Bool.or_eq_true]
      exact .inr (by decide))
    unfold wyL at he
    rw [he] at this
    cases this

theorem zip_set {f : Int → Int → Int} : ∀ {H G : List Int} {k : Nat} {v : Int}, (List.zipWith f (H.set k v) G) = (List.zipWith f H G).set k (f v (G.getD k 0))
  | [], G, k, v => by simp
  | z :: H, [], k, v => by cases k <;> simp
  | z :: H, y :: G, 0, v => by simp
  | z :: H, y :: G, k + 1, v => by
    simp only [List.set_cons_succ, List.zipWith_cons_cons, List.getD_cons_succ]
    rw [zip_set]
theorem hts_step {R : Reg} (hR : R.ok) (hS : SimpleP R) {M : List Int} (h : Tile R M) {k : Nat} (hk : flB R M (k : Int) = true) : htsOf R.W R.T R.C (flV R M (k : Int)) = (htsOf R.W R.T R.C M).set k ((htsOf R.W R.T R.C M).getD k 0 + rsV R M k) := by
  have ht := tile_flV hR h (k : Int)
  exact hts_one hR hS.1 (hts_of_tile hR hS ht) (hts_flV hR h.1 (hts_of_tile hR hS h) hk)
theorem dsum_step {R : Reg} (hR : R.ok) (hS : SimpleP R) {M N : List Int} (h : Tile R M) (g : Tile R N) {k : Nat} (hc : k < R.cn) (hk : flB R M (k : Int) = true) (hp : wyP R N M k = true) : dsum R N (flV R M (k : Int)) = dsum R N M - 4 := by
  have hH := (hts_of_tile hR hS h).len
  have hG := (hts_of_tile hR hS g).len
  have hm := getD_mod hR hS h g hc
  have hor := rsV_or hk
  unfold dsum
  rw [hts_step hR hS h hk, zip_set, sum_set (by rw [zip_len (by rw [hH, hG]), hH]; exact hc)]
  have hz : (List.zipWith dif (htsOf R.W R.T R.C M) (htsOf R.W R.T R.C N)).getD k 0 = dif ((htsOf R.W R.T R.C M).getD k 0) ((htsOf R.W R.T R.C N).getD k 0) := by
    rw [List.getD_eq_getElem?_getD, zip_at (by rw [hH]; exact hc) (by rw [hG]; exact hc)]; rfl
  rw [hz]
  unfold wyP at hp
  rw [rsZ_nat] at hp
  simp only [Bool.or_eq_true, Bool.and_eq_true, decide_eq_true_eq] at hp
  unfold dif
  omega
theorem dsum_bd {R : Reg} (hR : R.ok) (hS : SimpleP R) {M N : List Int} (h : Tile R M) (g : Tile R N) : 0 ≤ dsum R N M ∧ dsum R N M ≤ 7350 := by
  have hb := sum_bd (H := List.zipWith dif (htsOf R.W R.T R.C M) (htsOf R.W R.T R.C N)) (a := 0) (b := 150) (zip_dif_bd htsOf_bd htsOf_bd)
  have hl : (List.zipWith dif (htsOf R.W R.T R.C M) (htsOf R.W R.T R.C N)).length = R.cn := by rw [zip_len (by rw [(hts_of_tile hR hS h).len, (hts_of_tile hR hS g).len]), (hts_of_tile hR hS h).len]
  have hcn := cn_bd hR
  unfold dsum
  rw [hl] at hb
  omega
theorem wy_down {R : Reg} (hR : R.ok) (hS : SimpleP R) {M N : List Int} (h : Tile R M) (g : Tile R N) : ∀ n, (∀ j, j < n → wyIt R N M j ≠ N) → dsum R N (wyIt R N M n) = dsum R N M - 4 * (n : Int)
  | 0, _ => by simp [wyIt]
  | n + 1, hn => by
    have ih := wy_down hR hS h g n fun j hj => hn j (by omega)
    have hne := wy_some hR hS (tile_wyIt hR h n) g (hn n (by omega))
    cases hd : wyL R N (wyIt R N M n) with
    | nil => exact absurd hd hne
    | cons k l =>
      obtain ⟨j, _, h0, h1, h2, h3, _⟩ := wy_head hd
      have := dsum_step hR hS (tile_wyIt hR h n) g h0 h1 h2
      show dsum R N (wyStep R N (wyIt R N M n)) = _
      rw [h3, this, ih]
      omega
theorem wy_end {R : Reg} (hR : R.ok) (hS : SimpleP R) {M N : List Int} (h : Tile R M) (g : Tile R N) : ∃ n, n ≤ 1838 ∧ wyIt R N M n = N ∧ ∀ j, j < n → wyIt R N M j ≠ N := by
  have hex : ∃ n, wyIt R N M n = N := Classical.byContradiction fun hno => by
    have h1 := wy_down hR hS h g 1838 fun j _ hj => hno ⟨j, hj⟩
    have h2 := dsum_bd hR hS h g
    have h3 := dsum_bd hR hS (tile_wyIt (N := N) hR h 1838) g
    omega
  obtain ⟨n, hn, hl⟩ := least hex
  refine ⟨n, ?_, hn, fun j hj hd => by have := hl j hd; omega⟩
  have h1 := wy_down hR hS h g n fun j hj hd => by have := hl j hd; omega
  have h2 := dsum_bd hR hS h g
  have h3 := dsum_bd hR hS (tile_wyIt (N := N) hR h n) g
  omega
open Classical in
noncomputable def wyN (R : Reg) (N M : List Int) : Nat := if h : ∃ n, n ≤ 1838 ∧ wyIt R N M n = N ∧ ∀ j, j < n → wyIt R N M j ≠ N then Classical.choose h else 0
theorem wyN_spec {R : Reg} (hR : R.ok) (hS : SimpleP R) {M N : List Int} (h : Tile R M) (g : Tile R N) : wyN R N M ≤ 1838 ∧ wyIt R N M (wyN R N M) = N ∧ ∀ j, j < wyN R N M → wyIt R N M j ≠ N := by
  have hex := wy_end hR hS h g
  unfold wyN
  rw [dif_pos hex]
  exact Classical.choose_spec hex
/-- Apart is 0 for equal tilings alone. -/
theorem dsum_pos {R : Reg} (hR : R.ok) (hS : SimpleP R) {M N : List Int} (h : Tile R M) (g : Tile R N) : (0 < dsum R N M / 4) ↔ M ≠ N := by
  constructor
  · rintro hd rfl
    have : dsum R M M = 0 := by
      unfold dsum
      have hz : ∀ z ∈ List.zipWith dif (htsOf R.W R.T R.C M) (htsOf R.W R.T R.C M), 0 ≤ z ∧ z ≤ 0 := by
        intro z hz
        obtain ⟨i, hi, rfl⟩ := List.mem_iff_getElem.1 hz
        rw [List.getElem_zipWith]
        unfold dif
        omega
      have := sum_bd hz
      omega
    rw [this] at hd
    exact absurd hd (by decide)
  · intro hne
    have hs := wy_some hR hS h g hne
    cases hd : wyL R N M with
    | nil => exact absurd hd hs
    | cons k l =>
      obtain ⟨j, _, h0, h1, h2, _, _⟩ := wy_head hd
      have e := dsum_step hR hS h g h0 h1 h2
      have hb := dsum_bd hR hS (tile_flV hR h (j : Int)) g
      omega

/-- Where the first flip of the way stands among all flips. -/
theorem filter_first {p : Int → Bool} : ∀ {F : List Int} {k : Int} {l : List Int}, F.filter p = k :: l → ∃ i, i < F.length ∧ F.getD i 0 = k ∧ p k = true ∧ ∀ j, j < i → p (F.getD j 0) = false
  | [], _, _, h => by simp at h
  | z :: F, k, l, h => by
    cases hz : p z with
    | true =>
      rw [List.filter_cons_of_pos hz] at h
      obtain ⟨rfl, _⟩ := List.cons.inj h
      exact ⟨0, by simp, rfl, hz, fun j hj => by omega⟩
    | false =>
      rw [List.filter_cons_of_neg (by rw [hz]; decide)] at h
      obtain ⟨i, hi, he, hp, hj⟩ := filter_first h
      refine ⟨i + 1, by simp only [List.length_cons]; omega, by simpa using he, hp, fun j hj' => ?_⟩
      cases j with
      | zero => simpa using hz
      | succ j => simpa using hj j (by omega)
theorem wyL_filter (R : Reg) (N M : List Int) : wyL R N M = (flL R M fun _ => true).filter (fun z => wyP R N M z.toNat) := by
  unfold wyL flL flTo
  rw [List.filter_map, List.filter_filter]
  congr 1
  apply List.filter_congr
  intro j _
  simp [Function.comp, Bool.and_comm]
theorem wy_first {R : Reg} {N M : List Int} {k : Int} {l : List Int} (h : wyL R N M = k :: l) : ∃ i, i < (flL R M fun _ => true).length ∧ (flL R M fun _ => true).getD i 0 = k ∧ ∀ j, j < i → wyP R N M ((flL R M fun _ => true).getD j 0).toNat = false := by
  rw [wyL_filter] at h
  obtain ⟨i, hi, he, _, hj⟩ := filter_first h
  exact ⟨i, hi, he, hj⟩
theorem fl_at {R : Reg} {M : List Int} {i : Nat} (h : i < (flL R M fun _ => true).length) : ∃ q : Nat, (flL R M fun _ => true).getD i 0 = (q : Int) ∧ q < R.cn ∧ flB R M (q : Int) = true := by
  have hm : (flL R M fun _ => true).getD i 0 ∈ flL R M fun _ => true := by
    rw [List.getD_eq_getElem?_getD, List.getElem?_eq_getElem h]
    exact List.getElem_mem h
  generalize (flL R M fun _ => true).getD i 0 = z at *
  unfold flL flTo at hm
  obtain ⟨j, hj, rfl⟩ := List.mem_map.1 hm
  rw [List.mem_filter, List.mem_range, Bool.and_eq_true] at hj
  exact ⟨j, rfl, hj.1, hj.2.1⟩
theorem wyP_up {R : Reg} {N M : List Int} {k : Nat} (h : rsV R M k = 4) : wyP R N M k = decide ((htsOf R.W R.T R.C M).getD k 0 < (htsOf R.W R.T R.C N).getD k 0) := by
  unfold wyP
  rw [rsZ_nat, h]
  simp
theorem wyP_down {R : Reg} {N M : List Int} {k : Nat} (h : rsV R M k = -4) : wyP R N M k = decide ((htsOf R.W R.T R.C N).getD k 0 < (htsOf R.W R.T R.C M).getD k 0) := by
  unfold wyP
  rw [rsZ_nat, h]
  simp

end Go.Proofs.Ytldnccdlpagodaa
