/-
  YthepfpiphlfgnaaLee: the texts Ld, Fa, Le, Lf, Tk, Lg in one file.
-/
import Derived.Test.YthepfpiphlfgnaaLz
import Derived.Test.YthepfpiphlfgnaaTt
import Derived.Test.YthepfpiphlfgnaaFd3
import Derived.Test.YthepfpiphlfgnaaPq
import Derived.Test.YthepfpiphlfgnaaQz

/-
  YthepfpiphlfgnaaLd: what the property laws on ways up and down, and on the lowest and the highest tiling, say of the values. Plain Lean.
-/
namespace Go.Proofs.Ythepfpiphlfgnaa

/-- What a choice of heights is to both. -/
structure Ext (f : Int → Int → Int) (r : Int → Int → Prop) : Prop where
  keeps : Keeps f
  l : ∀ x y, r (f x y) x
  rr : ∀ x y, r (f x y) y
  refl : ∀ x, r x x
  trans : ∀ x y z, r x y → r y z → r x z
  anti : ∀ x y, r x y → r y x → x = y
theorem ext_min : Ext min (fun x y => x ≤ y) where
  keeps := keeps_min
  l x y := by show min x y ≤ x; omega
  rr x y := by show min x y ≤ y; omega
  refl x := Int.le_refl x
  trans x y z h g := Int.le_trans h g
  anti x y h g := Int.le_antisymm h g
theorem ext_max : Ext max (fun x y => y ≤ x) where
  keeps := keeps_max
  l x y := by show x ≤ max x y; omega
  rr x y := by show y ≤ max x y; omega
  refl x := Int.le_refl x
  trans x y z h g := Int.le_trans g h
  anti x y h g := Int.le_antisymm g h
theorem exH_rel {f : Int → Int → Int} {r : Int → Int → Prop} (hf : Ext f r) {R : Reg} (hR : R.ok) (hS : SimpleP R) : ∀ {Ts : List (List Int)} {H : List Int}, HP R H → (∀ M ∈ Ts, Tile R M) → ∀ k, k < R.cn →
    r ((exH f R H Ts).getD k 0) (H.getD k 0) ∧ ∀ M ∈ Ts, r ((exH f R H Ts).getD k 0) ((htsOf R.W R.T R.C M).getD k 0)
  | [], H, _, _, k, _ => ⟨hf.refl _, fun M hM => by cases hM⟩
  | N :: Ts, H, h, g, k, hk => by
    have hN := g N (by simp)
    have hz := hf.keeps hR hS.1 h (hp_of_tile hR hS hN)
    obtain ⟨i1, i2⟩ := exH_rel hf hR hS (Ts := Ts) hz (fun M hM => g M (by simp [hM])) k hk
    have e : (List.zipWith f H (htsOf R.W R.T R.C N)).getD k 0 = f (H.getD k 0) ((htsOf R.W R.T R.C N).getD k 0) := zip_getD (by rw [h.len]; exact hk) (by rw [hts_len hR hS hN]; exact hk)
    have e0 : exH f R H (N :: Ts) = exH f R (List.zipWith f H (htsOf R.W R.T R.C N)) Ts := rfl
    rw [e] at i1
    rw [e0]
    refine ⟨hf.trans _ _ _ i1 (hf.l _ _), fun M hM => ?_⟩
    rcases List.mem_cons.1 hM with rfl | hM
    · exact hf.trans _ _ _ i1 (hf.rr _ _)
    · exact i2 M hM
theorem tilT_ne {R : Reg} (hR : R.ok) {M : List Int} (h : Tile R M) : tilT R ≠ [] := fun e => by
  have := (tilT_iff hR).2 h
  rw [e] at this
  cases this
theorem ex_tile {f : Int → Int → Int} {r : Int → Int → Prop} (hf : Ext f r) {R : Reg} (hR : R.ok) (hS : SimpleP R) (hne : tilT R ≠ []) :
    Tile R (exV f R.W R.T R.C) ∧ exB R.W R.T R.C = true ∧ ∀ M, Tile R M → ∀ k, k < R.cn → r ((htsOf R.W R.T R.C (exV f R.W R.T R.C)).getD k 0) ((htsOf R.W R.T R.C M).getD k 0) := by
  obtain ⟨e1, e2⟩ := exV_yes (f := f) ((simple_of hR).2 hS) hne
  have hall : ∀ M ∈ tilT R, Tile R M := fun M hM => (tilT_iff hR).1 hM
  have hh : Tile R ((tilT R).headD []) := by
    cases h : tilT R with
    | nil => exact absurd h hne
    | cons M l => exact hall M (by rw [h]; simp)
  have hp := exH_hp hf.keeps hR hS (Ts := tilT R) (hp_of_tile hR hS hh) hall
  rw [e1]
  refine ⟨⟨lay_tilH hR hp, full_tilH hR hp⟩, e2, fun M hM k hk => ?_⟩
  rw [htsOf_til hR hS hp]
  exact (exH_rel hf hR hS (Ts := tilT R) (hp_of_tile hR hS hh) hall k hk).2 M ((tilT_iff hR).2 hM)
theorem ex_one {f : Int → Int → Int} {r : Int → Int → Prop} (hf : Ext f r) {R : Reg} (hR : R.ok) (hS : SimpleP R) {x : List Int} (hx : Tile R x)
    (h : ∀ M, Tile R M → ∀ k, k < R.cn → r ((htsOf R.W R.T R.C x).getD k 0) ((htsOf R.W R.T R.C M).getD k 0)) : exV f R.W R.T R.C = x := by
  obtain ⟨h1, _, h3⟩ := ex_tile hf hR hS (tilT_ne hR hx)
  exact hts_ext hR hS h1 hx fun k hk => hf.anti _ _ (h3 x hx k hk) (h _ h1 k hk)
theorem getD_set_self {H : List Int} {k : Nat} {v : Int} (h : k < H.length) : (H.set k v).getD k 0 = v := by
  rw [List.getD_eq_getElem?_getD, List.getElem?_set_self h]; rfl
/-- There is no way down exactly for the lowest tiling. -/
theorem dn_none {R : Reg} (hR : R.ok) (hS : SimpleP R) {L : List Int} (h : Tile R L) : dnL R L = [] ↔ exV min R.W R.T R.C = L := by
  constructor
  · intro h0
    refine ex_one ext_min hR hS h fun M hM k hk => ?_
    by_cases hlt : (htsOf R.W R.T R.C M).getD k 0 < (htsOf R.W R.T R.C L).getD k 0
    · obtain ⟨h1, h2⟩ := ci_in hk
      obtain ⟨a, b, ha, hb, _, hd, _⟩ := desc hR hS h.1 h.2 (hts_of_tile hR hS h) (hp_of_tile hR hS hM) h1 h2 (by unfold Reg.ht; rw [ci_of]; exact hlt)
      obtain ⟨f1, f2⟩ := rs_down ha hb hd
      have hm := mem_flL (p := fun k => rsZ R L (k : Int) == -4) (ci_lt (R := R) (x := a + 1) (y := b + 1) (by omega) (by omega)) f1 (by show (rsZ R L _ == -4) = true; rw [rsZ_nat, f2]; rfl)
      unfold dnL at h0
      rw [h0] at hm
      cases hm
    · show (htsOf R.W R.T R.C L).getD k 0 ≤ (htsOf R.W R.T R.C M).getD k 0
      omega
  · intro e
    cases hd : dnL R L with
    | nil => rfl
    | cons z l =>
      obtain ⟨j, _, hj, hf, hr, _⟩ := dn_head hd
      have := (ex_tile ext_min hR hS (tilT_ne hR h)).2.2 _ (tile_flV hR h (j : Int)) j hj
      rw [e, hts_step hR hS h hf, getD_set_self (by rw [hts_len hR hS h]; exact hj), hr] at this
      omega
/-- The flips up. -/
def upL (R : Reg) (L : List Int) : List Int := flL R L fun k => rsZ R L (k : Int) == 4
theorem up_none {R : Reg} (hR : R.ok) (hS : SimpleP R) {L : List Int} (h : Tile R L) : upL R L = [] ↔ exV max R.W R.T R.C = L := by
  constructor
  · intro h0
    refine ex_one ext_max hR hS h fun M hM k hk => ?_
    by_cases hlt : (htsOf R.W R.T R.C L).getD k 0 < (htsOf R.W R.T R.C M).getD k 0
    · obtain ⟨h1, h2⟩ := ci_in hk
      obtain ⟨a, b, ha, hb, _, hd, _⟩ := asc hR hS h.1 h.2 (hts_of_tile hR hS h) (hp_of_tile hR hS hM) h1 h2 (by unfold Reg.ht; rw [ci_of]; exact hlt)
      obtain ⟨f1, f2⟩ := rs_up ha hb hd
      have hm := mem_flL (p := fun k => rsZ R L (k : Int) == 4) (ci_lt (R := R) (x := a + 1) (y := b + 1) (by omega) (by omega)) f1 (by show (rsZ R L _ == 4) = true; rw [rsZ_nat, f2]; rfl)
      unfold upL at h0
      rw [h0] at hm
      cases hm
    · show (htsOf R.W R.T R.C M).getD k 0 ≤ (htsOf R.W R.T R.C L).getD k 0
      omega
  · intro e
    cases hd : upL R L with
    | nil => rfl
    | cons z l =>
      obtain ⟨j, _, hj, hf, hp⟩ := flTo_in (R := R) (L := L) (p := fun k => rsZ R L (k : Int) == 4) (k := R.cn) (z := z) (by unfold upL flL at hd; rw [hd]; simp)
      have hr : rsV R L j = 4 := by have : (rsZ R L (j : Int) == 4) = true := hp; rw [rsZ_nat] at this; simpa using this
      have := (ex_tile ext_max hR hS (tilT_ne hR h)).2.2 _ (tile_flV hR h (j : Int)) j hj
      rw [e, hts_step hR hS h hf, getD_set_self (by rw [hts_len hR hS h]; exact hj), hr] at this
      omega
theorem filter_part (a p q : Nat → Bool) (h : ∀ j, a j = true → (p j = true ∧ q j = false) ∨ (p j = false ∧ q j = true)) : ∀ l : List Nat, (l.filter fun j => a j && p j).length + (l.filter fun j => a j && q j).length = (l.filter fun j => a j && true).length
  | [] => rfl
  | j :: l => by
    have ih := filter_part a p q h l
    cases ha : a j with
    | false => simp only [List.filter_cons, ha, Bool.false_and]; exact ih
    | true =>
      rcases h j ha with ⟨h1, h2⟩ | ⟨h1, h2⟩
      · simp only [List.filter_cons, ha, h1, h2, Bool.and_self, Bool.and_false, if_true]; simp at ih ⊢; omega
      · simp only [List.filter_cons, ha, h1, h2, Bool.and_self, Bool.and_false, if_true]; simp at ih ⊢; omega
theorem flTo_len_eq (R : Reg) (L : List Int) (p : Nat → Bool) (k : Nat) : (flTo R L p k).length = ((List.range k).filter fun (j : Nat) => flB R L (j : Int) && p j).length := by
  unfold flTo
  rw [List.length_map]
/-- Lists of corners ascend. -/
def Asc (L : List Int) : Prop := ∀ i, i + 1 < L.length → L.getD i 0 < L.getD (i + 1) 0
theorem asc_of {L : List Int} (h : L.Pairwise (· < ·)) : Asc L := by
  intro i hi
  rw [List.getD_eq_getElem?_getD, List.getD_eq_getElem?_getD, List.getElem?_eq_getElem hi, List.getElem?_eq_getElem (show i < L.length by omega)]
  exact List.pairwise_iff_getElem.1 h i (i + 1) (by omega) hi (by omega)
theorem asc_flTo (R : Reg) (L : List Int) (p : Nat → Bool) (k : Nat) : Asc (flTo R L p k) := by
  refine asc_of ?_
  unfold flTo
  rw [List.pairwise_map]
  exact (List.pairwise_lt_range.filter _).imp (fun h => by omega)
theorem asc_nil : Asc [] := fun i hi => by simp at hi
theorem asc_fsV {W T : Int} {bs : List Bool} {L : List Int} : Asc (fsV W T bs L) := by
  unfold fsV
  split
  · exact asc_flTo _ _ _ _
  · exact asc_nil

end Go.Proofs.Ythepfpiphlfgnaa

/-
  YthepfpiphlfgnaaFa: FlipsOf of the program; the laws' ascend.
-/
namespace Go.Proofs.Ythepfpiphlfgnaa
open Go.RowKit

theorem enters_anyCorner : Enters Try.prog 95 := enters_of Try.func95 (by kernel_rfl) rfl
theorem anyCorner_any (k : Nat) (w : World) : Calls Try.prog 95 #[.int .i64 (k : Nat)] w fun e w' => e = .returned (.bool true) ∧ Below w.heap.size w w' := by
  go_enter Try.func95, Try.ntmps95
  go_wp2_with fail
  go_ret
  exact ⟨rfl, Below.refl _ _⟩

theorem flipsOfI_any (W T : Int) (A : Option Addr) (n c B : Nat) (bs : List Bool) (L : List Int) (D : Option Addr) (m d : Nat) (w : World) (hbl : bs.length = n) (hL : L.length = m)
    (hr : Reads w B 1 A n (bs.map Value.bool)) (hd : Reads w B 1 D m (L.map (Value.int .i64))) (hB : B ≤ w.heap.size) (hn : n ≤ 9223372036854775807) (hm : m ≤ 9223372036854775807) :
    Calls Try.prog 37 #[.agg #[.int .i64 W, .int .i64 T, .slice A n c], .slice D m d] w (RetInts w (fsV W T bs L)) := by
  have hLO := hide (laidOkI_any W T A n c B bs L D m d (w.alloc (boxR W T A n c)) hbl hL (hr.alloc hB _) (hd.alloc hB _) (by simp; omega) hn hm)
  cases h : laidB W T bs L with
  | false =>
    rw [h] at hLO
    rw [fsV_no h]
    clear h
    go_enter Try.func37, Try.ntmps37
    go_wp2_with fail
    refine (unhide hLO).mono ?_
    rintro e w1 ⟨rfl, hb1⟩
    go_wp2_with fail
    go_ret
    exact ⟨none, 0, 0, rfl, ⟨rfl, .inl ⟨rfl, rfl⟩⟩, (box_keep hb1).1⟩
  | true =>
    rw [h] at hLO
    obtain ⟨R, hR, rfl, rfl, rfl, hLy⟩ := laid_cases h
    rw [fsV_yes h]
    subst hbl
    obtain rfl : m = R.C.length := by rw [← hL]; exact hLy.len
    have hFL := fun w' (h : Below w.heap.size w w') => hide (flips_any 95 #[] (fun _ => true) R hR A c B L D d w' enters_anyCorner (fun k w'' _ _ _ => anyCorner_any k w'') (hd.below (h.mono hB)) (Nat.le_trans hB h.size))
    clear h
    generalize (flL R L fun _ => true) = V at *
    go_enter Try.func37, Try.ntmps37
    go_wp2_with fail
    refine (unhide hLO).mono ?_
    rintro e w1 ⟨rfl, hb1⟩
    obtain ⟨hB1, hk1, b0, b1, b2⟩ := box_keep hb1
    go_wp2_with fail
    refine (unhide (hFL _ hB1)).mono ?_
    rintro e w2 ⟨A', c', rfl, ho, hb2⟩
    go_wp2_with fail
    go_ret
    exact ⟨A', c', _, rfl, own_mono ho hB1.size, hB1.trans (hb2.mono hB1.size)⟩

set_option maxHeartbeats 1000000 in
theorem ascend_any (L : List Int) (D : Option Addr) (m d B : Nat) (w : World) (hL : L.length = m) (hA : Asc L) (h1 : Reads w B 1 D m (L.map (Value.int .i64))) (hm : m ≤ 1048576) :
    Calls Try.prog 47 #[.slice D m d] w fun e w' => e = .returned (.bool true) ∧ Below w.heap.size w w' := by
  have HL := Lib.hid hL
  have HA := Lib.hid hA
  clear hL hA
  have HLG := fun k (hk : k < m) => h1.getI hk
  go_enter Try.func47, Try.ntmps47
  go_wp2_with fail
  go_loopg [3] m (fun r s3 wr => ∃ k q : Nat, k + r = m ∧ s3 = .int .i64 ((k : Int) + 1) ∧ wr = w.drewN q)
  case atStart => exact ⟨0, 0, by omega, rfl, rfl⟩
  case round =>
    obtain ⟨k, q, hk, rfl, rfl⟩ := hrel
    have HK := Lib.hid hk
    clear hk
    by_cases hlt : k + 1 < m
    · obtain ⟨ad, rfl, _, hc1⟩ := HLG k (by omega)
      obtain ⟨ad2, e2, _, hc2⟩ := HLG (k + 1) hlt
      obtain rfl : ad = ad2 := by injection e2
      have hbq := below_drewN (Below.refl w.heap.size w) q
      have x1 := (cell_kept hc1 hbq)
      have x2 := (cell_kept hc2 hbq)
      have hlt2 := HA.out k (by rw [HL.out]; exact hlt)
      have hk1 : (k : Int) + 1 - 1 = (k : Int) := by omega
      have hdc : decide (L.getD (k + 1) 0 ≤ L.getD k 0) = false := decide_eq_false (by omega)
      have hc3 : w.cell? ⟨ad.block, ad.off + (k + 1), none⟩ = some (.int .i64 (L.getD (k + 1) 0)) := hc2
      clear HLG e2
      generalize L.getD k 0 = x at *
      generalize L.getD (k + 1) 0 = y at *
      clear hlt2
      go_wp2
      go_big_quiet (fail)
      go_wp2_with fail
      go_roundg (m - (k + 1))
      case measure => have := HK.out; omega
      case rel => exact ⟨k + 1, _, by have := HK.out; omega, by go_num, rfl⟩
    · clear HLG
      go_wp2_with fail
      go_ret
      exact ⟨rfl, below_drewN (Below.refl _ _) _⟩

end Go.Proofs.Ythepfpiphlfgnaa

/-
  YthepfpiphlfgnaaLe: what the property laws on pushes say, of the values. Plain Lean.
-/
namespace Go.Proofs.Ythepfpiphlfgnaa


end Go.Proofs.Ythepfpiphlfgnaa

/-
  YthepfpiphlfgnaaLf: what the property laws on pushes from and into tilings say, of the values. Plain Lean.
-/
namespace Go.Proofs.Ythepfpiphlfgnaa
open Go.RowKit

theorem cornerManyI_any (W T : Int) (A : Option Addr) (n c B : Nat) (bs : List Bool) (w : World) (hl : bs.length = n) (hr : Reads w B 1 A n (bs.map Value.bool)) (hB : B ≤ w.heap.size) (hn : n ≤ 9223372036854775807) :
    Calls Try.prog 44 #[.agg #[.int .i64 W, .int .i64 T, .slice A n c]] w fun e w' => e = .returned (.int .i64 (cornersB W T bs)) ∧ Below w.heap.size w w' := by
  cases hv : validB W T bs with
  | false =>
    have := cornerManyI_no W T A n c B bs w hr hB hn hv
    unfold cornersB
    rw [hv]
    exact this
  | true =>
    obtain ⟨R, hR, rfl, rfl, rfl⟩ := reg_of_valid hv
    rw [cornersB_ok hR]
    subst hl
    exact cornerManyI_ok R hR A c B w hr hB

/-- Two tilings that differ by a flip. -/
def Nbr (R : Reg) (a b : List Int) : Prop := ∃ k, k < R.cn ∧ flB R a (k : Int) = true ∧ flV R a (k : Int) = b
theorem Nbr.symm {R : Reg} (hR : R.ok) {a b : List Int} (ha : Tile R a) (h : Nbr R a b) : Nbr R b a := by
  obtain ⟨k, hk, hf, rfl⟩ := h
  obtain ⟨h1, h2, _, _⟩ := flV_back hR ha.1 hf
  exact ⟨k, hk, h1, h2⟩
theorem cornersB_cn {R : Reg} (hR : R.ok) : cornersB R.W R.T R.C = (R.cn : Int) := by
  unfold cornersB
  rw [valid_of_ok hR]
  unfold Reg.cn
  simp

end Go.Proofs.Ythepfpiphlfgnaa

/-
  YthepfpiphlfgnaaTk: PushesInto of the program and of the reference.
-/
namespace Go.Proofs.Ythepfpiphlfgnaa
open Go.RowKit


theorem small_any (W T : Int) (A : Option Addr) (n c B : Nat) (bs : List Bool) (w : World) (hr : Reads w B 1 A n (bs.map Value.bool)) (hB : B ≤ w.heap.size) (hn : n ≤ 9223372036854775807) :
    Calls Try.prog 100 #[.agg #[.int .i64 W, .int .i64 T, .slice A n c]] w fun e w' => e = .returned (.bool (validB W T bs && decide (cnt bs ≤ 16))) ∧ Below w.heap.size w w' := by
  have hb0 : Below w.heap.size w (w.alloc (boxR W T A n c)) := (Below.refl _ _).alloc (Nat.le_refl _) _
  have k0 : Blk (w.alloc (boxR W T A n c)) w.heap.size 25 #[.int .i64 W, .int .i64 T, .slice A n c] := Blk.new _ _ _
  have HV := hide (valid_any W T A n c B bs _ (hr.below (hb0.mono hB)) (Nat.le_trans hB hb0.size) hn)
  have HM := fun w' (h : Below w.heap.size w w') => hide (many_any A n c B bs w' (hr.below (h.mono hB)) hn)
  generalize cnt bs = cb at *
  clear hr
  cases hv : validB W T bs with
  | false =>
    rw [hv] at HV
    go_enter Try.func100, Try.ntmps100
    go_wp2_with fail
    refine (unhide HV).mono ?_
    rintro e w1 ⟨rfl, hb1⟩
    go_wp2_with fail
    go_ret
    exact ⟨rfl, hb0.trans (hb1.mono hb0.size)⟩
  | true =>
    rw [hv] at HV
    go_enter Try.func100, Try.ntmps100
    go_wp2_with fail
    refine (unhide HV).mono ?_
    rintro e w1 ⟨rfl, hb1⟩
    have hB1 := hb0.trans (hb1.mono hb0.size)
    obtain ⟨b0, b1, b2⟩ := blk3 (k0.below hb1 k0.lt)
    have hM1 := HM _ hB1
    clear hb1 hb0 k0 HM HV
    go_wp2_with fail
    refine (unhide hM1).mono ?_
    rintro e w2 ⟨rfl, rfl⟩
    go_wp2_with fail
    go_ret
    exact ⟨ret_bool (by have h16 : ((cb : Int) ≤ 16) ↔ cb ≤ 16 := (by omega); simp [h16]), hB1⟩


theorem cellsManyS_ok (R : Reg) (hR : R.ok) (A : Option Addr) (c B : Nat) (w : World) (hr : Reads w B 1 A R.C.length (R.C.map Value.bool)) (hB : B ≤ w.heap.size) :
    Calls Try.prog 105 #[.agg #[.int .i64 R.W, .int .i64 R.T, .slice A R.C.length c]] w fun e w' => e = .returned (.int .i64 (cnt R.C)) ∧ Below w.heap.size w w' := by
  have hl36 := (len_bd hR).2
  have hb0 : Below w.heap.size w (w.alloc (boxR R.W R.T A R.C.length c)) := (Below.refl _ _).alloc (Nat.le_refl _) _
  have k0 : Blk (w.alloc (boxR R.W R.T A R.C.length c)) w.heap.size 25 #[.int .i64 R.W, .int .i64 R.T, .slice A R.C.length c] := Blk.new _ _ _
  have HV := hide (validS_any R.W R.T A R.C.length c B R.C _ (hr.below (hb0.mono hB)) (Nat.le_trans hB hb0.size) (by omega))
  rw [valid_of_ok hR] at HV
  have HM := fun w' (h : Below w.heap.size w w') => hide (countS_any A R.C.length c B R.C w' (hr.below (h.mono hB)) (by omega))
  generalize cnt R.C = cb at *
  clear hr
  go_enter Try.func105, Try.ntmps105
  go_wp2_with fail
  refine (unhide HV).mono ?_
  rintro e w1 ⟨rfl, hb1⟩
  have hB1 := hb0.trans (hb1.mono hb0.size)
  obtain ⟨b0, b1, b2⟩ := blk3 (k0.below hb1 k0.lt)
  have hM1 := HM _ hB1
  clear hb1 hb0 k0 HM HV
  go_wp2_with fail
  refine (unhide hM1).mono ?_
  rintro e w2 ⟨rfl, rfl⟩
  go_wp2_with fail
  go_ret
  exact ⟨rfl, hB1⟩




end Go.Proofs.Ythepfpiphlfgnaa

/-
  YthepfpiphlfgnaaLg: left out.
-/
namespace Go.Proofs.Ythepfpiphlfgnaa

end Go.Proofs.Ythepfpiphlfgnaa
