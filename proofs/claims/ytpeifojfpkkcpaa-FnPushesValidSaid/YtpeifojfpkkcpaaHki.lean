/-
  YtpeifojfpkkcpaaHki: the texts Hk, HkI in one file.
-/
import Derived.Test.YtpeifojfpkkcpaaHS
import Derived.Test.YtpeifojfpkkcpaaEx
import Derived.Test.YtpeifojfpkkcpaaBl

/-
  YtpeifojfpkkcpaaHk: HeightsOk: what it means, and the program's.
-/
namespace Go.Proofs.Ytpeifojfpkkcpaa
open Go.RowKit

def Reg.inn (R : Reg) (s : Sd) : Bool := R.at s.lx s.ly && R.at s.rx s.ry
def sdD (hs : List Int) (f t : Nat) : Int := wrap64 (hs.getD t 0 - hs.getD f 0)
def SdOk (R : Reg) (hs : List Int) (s : Sd) : Prop := sdD hs s.f.toNat s.t.toNat = sg s.lx s.ly ∨ (R.inn s = true ∧ sdD hs s.f.toNat s.t.toNat = -3 * sg s.lx s.ly)
def UsedTo (R : Reg) (k i : Nat) : Prop := ∃ (j : Nat) (s : Sd), j < k ∧ (sidesOf R)[j]? = some s ∧ (s.f = (i : Nat) ∨ s.t = (i : Nat))
def UsedC (R : Reg) (i : Nat) : Prop := UsedTo R (sidesOf R).length i
def FirstU (R : Reg) (i : Nat) : Prop := UsedC R i ∧ ∀ j, j < i → ¬ UsedC R j
structure HOk (R : Reg) (hs : List Int) : Prop where
  len : hs.length = R.cn
  sd : ∀ (k : Nat) s, k < (sidesOf R).length → (sidesOf R)[k]? = some s → SdOk R hs s
  rng : ∀ i, i < R.cn → UsedC R i → -60 ≤ hs.getD i 0 ∧ hs.getD i 0 ≤ 60
  no : ∀ i, i < R.cn → ¬ UsedC R i → hs.getD i 0 = 99
  fst : ∀ i, i < R.cn → FirstU R i → hs.getD i 0 = 0

theorem side_at {R : Reg} (hR : R.ok) {s : Sd} (hs : s ∈ sidesOf R) : ∃ f t : Nat, SdAt R s f t := by
  obtain ⟨x, y, hx, hy, _, h⟩ := mem_sides hs (Nat.le_refl _)
  rcases h with h | h
  · obtain ⟨hu, rfl⟩ := sideE_mem h
    exact ⟨_, _, (sideE_at hR hy hu).2⟩
  · obtain ⟨hu, rfl⟩ := sideN_mem h
    exact ⟨_, _, (sideN_at hR hx hu).2⟩

def UsedL (R : Reg) (k : Nat) (O : List Bool) : Prop := O.length = R.cn ∧ ∀ i, i < R.cn → (O.getD i false = true ↔ UsedTo R k i)
theorem usedL_start (R : Reg) : UsedL R 0 (List.replicate R.cn false) := by
  refine ⟨by simp, fun i hi => ?_⟩
  constructor
  · intro h
    rw [List.getD_eq_getElem?_getD, List.getElem?_replicate, if_pos hi] at h
    cases h
  · rintro ⟨j, s, hj, _⟩
    omega
theorem getDb_set {O : List Bool} {j i : Nat} (hj : j < O.length) (v : Bool) : (O.set j v).getD i false = if i = j then v else O.getD i false := by
  rw [List.getD_eq_getElem?_getD, List.getD_eq_getElem?_getD, List.getElem?_set]
  by_cases h : j = i
  · subst h
    rw [if_pos rfl, if_pos rfl, if_pos hj]; rfl
  · rw [if_neg h, if_neg (Ne.symm h)]
theorem usedL_next {R : Reg} {k : Nat} {O : List Bool} (h : UsedL R k O) {s : Sd} (hs : (sidesOf R)[k]? = some s) {f t : Nat} (ha : SdAt R s f t) : UsedL R (k + 1) ((O.set f true).set t true) := by
  refine ⟨by simp [h.1], fun i hi => ?_⟩
  rw [getDb_set (by simp [h.1]; exact ha.tl), getDb_set (by rw [h.1]; exact ha.fl)]
  constructor
  · intro hv
    by_cases h1 : i = t
    · subst h1; exact ⟨k, s, by omega, hs, .inr ha.te⟩
    · by_cases h2 : i = f
      · subst h2; exact ⟨k, s, by omega, hs, .inl ha.fe⟩
      · rw [if_neg h1, if_neg h2] at hv
        obtain ⟨j, s', hj, hjs, e⟩ := (h.2 i hi).1 hv
        exact ⟨j, s', by omega, hjs, e⟩
  · rintro ⟨j, s', hj, hjs, e⟩
    by_cases hjk : j = k
    · subst hjk
      rw [hs] at hjs
      injection hjs with hjs
      subst hjs
      rw [ha.fe, ha.te] at e
      split
      · rfl
      · split
        · rfl
        · omega
    · split
      · rfl
      · split
        · rfl
        · exact (h.2 i hi).2 ⟨j, s', by omega, hjs, e⟩
theorem usedL_end {R : Reg} {O : List Bool} (h : UsedL R (sidesOf R).length O) {i : Nat} (hi : i < R.cn) : O.getD i false = true ↔ UsedC R i := h.2 i hi

/-- Some corner is used: the first one. -/
theorem firstU_ex {R : Reg} (hR : R.ok) (hI : InConn R) : ∃ i, i < R.cn ∧ FirstU R i := by
  obtain ⟨x0, y0, h0⟩ := first_ex hR hI
  have hm : (⟨(R.ci x0 y0 : Nat), ((R.ci x0 y0 : Nat) : Int) + 1, x0, y0, x0, (y0 : Int) - 1⟩ : Sd) ∈ sidesOf R := by
    have hc := first_cell hR h0
    unfold sidesOf sidesTo
    rw [List.mem_flatMap]
    refine ⟨R.ci x0 y0, List.mem_range.2 (ci_lt h0.1 h0.2.1), ?_⟩
    unfold sidesAt
    rw [ci_mod y0 h0.1, ci_div y0 h0.1, List.mem_append]
    left
    unfold sideE; rw [hc]; simp
  obtain ⟨k, hk⟩ := List.getElem?_of_mem hm
  have hu : UsedC R (R.ci x0 y0) := ⟨k, _, (List.getElem?_eq_some_iff.1 hk).1, hk, .inl rfl⟩
  obtain ⟨i, hi, hl⟩ := least (P := UsedC R) ⟨_, hu⟩
  exact ⟨i, Nat.lt_of_le_of_lt (hl _ hu) (ci_lt h0.1 h0.2.1), hi, fun j hj hu' => by have := hl j hu'; omega⟩

noncomputable def hokB (W T : Int) (bs : List Bool) (hs : List Int) : Bool := by
  classical
  exact decide (∃ R : Reg, R.ok ∧ SimpleP R ∧ W = R.W ∧ T = R.T ∧ bs = R.C ∧ HOk R hs)
theorem hokB_iff {W T : Int} {bs : List Bool} {hs : List Int} : hokB W T bs hs = true ↔ ∃ R : Reg, R.ok ∧ SimpleP R ∧ W = R.W ∧ T = R.T ∧ bs = R.C ∧ HOk R hs := by
  unfold hokB
  simp
theorem hokB_ok {R : Reg} (hR : R.ok) (hS : SimpleP R) {hs : List Int} : hokB R.W R.T R.C hs = true ↔ HOk R hs := by
  rw [hokB_iff]
  constructor
  · rintro ⟨R', _, _, h1, h2, h3, h4⟩
    have e : R' = R := by
      cases R; cases R'
      simp only [Reg.mk.injEq]
      exact ⟨(Int.ofNat.inj h1).symm, (Int.ofNat.inj h2).symm, h3.symm⟩
    rw [← e]; exact h4
  · exact fun h => ⟨R, hR, hS, rfl, rfl, rfl, h⟩
theorem hokB_no {R : Reg} (hR : R.ok) (hS : SimpleP R) {hs : List Int} (h : ¬ HOk R hs) : hokB R.W R.T R.C hs = false := by
  cases hb : hokB R.W R.T R.C hs with
  | false => rfl
  | true => exact absurd ((hokB_ok hR hS).1 hb) h
theorem hokB_s {W T : Int} {bs : List Bool} {hs : List Int} (h : simpleB W T bs = false) : hokB W T bs hs = false := by
  cases hb : hokB W T bs hs with
  | false => rfl
  | true =>
    obtain ⟨R, hR, hS, rfl, rfl, rfl, _⟩ := hokB_iff.1 hb
    rw [(simple_of hR).2 hS] at h
    cases h

/-! ### The first true one of a list -/
theorem indexT_any (O : List Bool) (ad : Addr) (n c B m : Nat) (hm : m < n) (hn : n ≤ 9223372036854775807) (ht : O.getD m false = true) (hf : ∀ j, j < m → O.getD j false = false) (w : World) (hr : Reads w B 1 (some ad) n (O.map Value.bool)) :
    Calls Try.prog 132 #[.slice (some ad) n c, .bool true] w fun e w' => e = .returned (.int .i64 (m : Nat)) ∧ w = w' := by
  have hcell : ∀ j, j < n → w.cell? (ad.add j) = some (.bool (O.getD j false)) := by
    intro j hj
    obtain ⟨ad', u, e, hb, hx, hc⟩ := hr.at_ hj
    injection e with e
    subst e
    rw [hc]
    rw [List.getElem?_map] at hx
    rw [List.getD_eq_getElem?_getD]
    cases hl : O[j]? with
    | none => rw [hl] at hx; cases hx
    | some x => rw [hl] at hx; simp at hx; simp [hx]
  have HC := Lib.hid hcell
  have HF := Lib.hid hf
  have HT := Lib.hid ht
  clear hcell hf ht hr
  go_enter Try.func132, Try.ntmps132
  go_wp2
  go_loopg [8] m (fun r s8 wr => ∃ k : Nat, k + r = m ∧ s8 = .int .i64 (k : Nat) ∧ wr = w)
  case atStart => exact ⟨0, by omega, rfl, rfl⟩
  case round =>
    obtain ⟨k, hk, rfl, rfl⟩ := hrel
    have HK := Lib.hid hk
    have hkm : k < n := by omega
    clear hk
    by_cases hlt : k < m
    · have c0 := HC.out k hkm
      rw [HF.out k hlt] at c0
      go_wp2
      go_roundg (m - (k + 1))
      case measure => have := HK.out; omega
      case rel => exact ⟨k + 1, by have := HK.out; omega, by go_num, rfl⟩
    · obtain rfl : k = m := by have := HK.out; omega
      have c0 := HC.out k hkm
      rw [HT.out] at c0
      go_wp2
      go_ret
      exact ⟨rfl, rfl⟩

end Go.Proofs.Ytpeifojfpkkcpaa

/-
  YtpeifojfpkkcpaaHkI: the program's HeightsOk.
-/
namespace Go.Proofs.Ytpeifojfpkkcpaa
open Go.RowKit

structure UW (w wr : World) (R : Reg) (A : Option Addr) (c g : Nat) (S : Option Addr) (sc : Nat) (O : List Bool) : Prop where
  bel : Below w.heap.size w wr
  box : Blk wr w.heap.size 25 #[.int .i64 R.W, .int .i64 R.T, .slice A R.C.length c]
  out : wr.ownsRow (w.heap.size + 1) 4 1 (.slice (some ⟨g, 0, none⟩) R.cn R.cn) R.cn (O.map Value.bool)
  sid : wr.ownsRow (w.heap.size + 1) 99 6 (.slice S (sidesOf R).length sc) (sidesOf R).length (sds (sidesOf R))
section
variable {w wr w2 : World} {R : Reg} {A S : Option Addr} {c g sc : Nat} {O : List Bool}
theorem UW.below (H : UW w wr R A c g S sc O) (hb : Below wr.heap.size wr w2) : UW w w2 R A c g S sc O :=
  ⟨H.bel.trans (hb.mono H.bel.size), H.box.below hb H.box.lt, own_below H.out hb (Nat.le_refl _), own_below H.sid hb (Nat.le_refl _)⟩
theorem UW.glt (H : UW w wr R A c g S sc O) : w.heap.size < g ∧ g < wr.heap.size := by have := H.out.lt g rfl; omega
theorem UW.set (H : UW w wr R A c g S sc O) (j : Nat) (v : Bool) : UW w (wr.setCell ⟨g, j, none⟩ (.bool v)) R A c g S sc (O.set j v) := by
  have hg := H.glt
  refine ⟨H.bel.setCell (by simp; omega) _, H.box.far (p := ⟨g, j, none⟩) (by simp; omega) _, ?_, ownsRow_setCell_other H.sid (a := ⟨g, j, none⟩) ?_ _⟩
  · have := (H.out.stored j (.bool v)).1
    rwa [← List.map_set] at this
  · rcases H.sid.2 with ⟨h0, _⟩ | ⟨g', cap, cur, hv, hb, hh, _⟩
    · rw [h0]; simp [Value.ownBlock]
    · rw [hv]
      simp only [Value.ownBlock, ne_eq, Option.some.injEq]
      rintro rfl
      rcases H.out.2 with ⟨h0, _⟩ | ⟨g2, cap2, cur2, hv2, _, hh2, _⟩
      · simp at h0
      · simp only [Value.slice.injEq, Option.some.injEq, Addr.mk.injEq, and_true, true_and] at hv2
        obtain ⟨rfl, _⟩ := hv2
        rw [hh] at hh2
        injection hh2 with hh2
        injection hh2 with _ ht
        exact absurd ht (by decide)
theorem UW.cells (H : UW w wr R A c g S sc O) : wr.cell? ⟨w.heap.size, 0, none⟩ = some (.int .i64 R.W) ∧ wr.cell? ⟨w.heap.size, 1, none⟩ = some (.int .i64 R.T) ∧ wr.cell? ⟨w.heap.size, 2, none⟩ = some (.slice A R.C.length c) := by
  have r0 := H.box.cell 0
  have r1 := H.box.cell 1
  have r2 := H.box.cell 2
  simp at r0 r1 r2
  exact ⟨r0, r1, r2⟩
theorem UW.len (H : UW w wr R A c g S sc O) : O.length = R.cn := by have := H.out.1; simpa using this
theorem UW.ocell (H : UW w wr R A c g S sc O) {j : Nat} (hj : j < R.cn) : wr.cell? ⟨g, j, none⟩ = some (.bool (O.getD j false)) := by
  have hl := H.len
  rw [H.out.cellAt j (by omega), List.getElem?_map, List.getD_eq_getElem?_getD, List.getElem?_eq_getElem (by omega)]; rfl
theorem UW.scell (H : UW w wr R A c g S sc O) {k : Nat} {s : Sd} (hk : (sidesOf R)[k]? = some s) :
    ∃ q, S = some ⟨q, 0, none⟩ ∧ q < wr.heap.size ∧ wr.cell? ⟨q, k * 6, none⟩ = some (.int .i64 s.f) ∧ wr.cell? ⟨q, k * 6 + 1, none⟩ = some (.int .i64 s.t) ∧ wr.cell? ⟨q, k * 6 + 2, none⟩ = some (.int .i64 s.lx) ∧
      wr.cell? ⟨q, k * 6 + 3, none⟩ = some (.int .i64 s.ly) ∧ wr.cell? ⟨q, k * 6 + 4, none⟩ = some (.int .i64 s.rx) ∧ wr.cell? ⟨q, k * 6 + 5, none⟩ = some (.int .i64 s.ry) := by
  have hkl : k < (sidesOf R).length := (List.getElem?_eq_some_iff.1 hk).1
  obtain ⟨q, c', e, _, _, hq⟩ := own_shape H.sid (by omega)
  injection e with e1 e2 e3
  subst e1 e3
  have hc := H.sid.cells (g := q) rfl
  have h0 := hc (k * 6 + 0) _ (sds_at hk 0 _ rfl)
  have h1 := hc (k * 6 + 1) _ (sds_at hk 1 _ rfl)
  have h2 := hc (k * 6 + 2) _ (sds_at hk 2 _ rfl)
  have h3 := hc (k * 6 + 3) _ (sds_at hk 3 _ rfl)
  have h4 := hc (k * 6 + 4) _ (sds_at hk 4 _ rfl)
  have h5 := hc (k * 6 + 5) _ (sds_at hk 5 _ rfl)
  simp [Addr.add] at h0 h1 h2 h3 h4 h5
  refine ⟨q, rfl, hq, ?_, h1, h2, h3, h4, h5⟩
  by_cases hk0 : k = 0
  · subst hk0; simpa using h0
  · rw [if_neg (by omega)] at h0; exact h0
end

def CornOk (R : Reg) (L : List Int) (m i : Nat) : Prop := (UsedC R i → -60 ≤ L.getD i 0 ∧ L.getD i 0 ≤ 60) ∧ (¬ UsedC R i → L.getD i 0 = 99) ∧ (i = m → L.getD i 0 = 0)
theorem firstU_one {R : Reg} {i j : Nat} (h : FirstU R i) (h' : FirstU R j) : i = j := by
  rcases Nat.lt_trichotomy i j with hl | e | hl
  · exact absurd h.1 (h'.2 i hl)
  · exact e
  · exact absurd h'.1 (h.2 j hl)

theorem blk6 {w : World} {x : Nat} {ty : TypeId} {a b c d e f : Value} (H : Blk w x ty #[a, b, c, d, e, f]) : w.cell? ⟨x, 0, none⟩ = some a ∧ w.cell? ⟨x, 1, none⟩ = some b ∧ w.cell? ⟨x, 2, none⟩ = some c ∧ w.cell? ⟨x, 3, none⟩ = some d ∧ w.cell? ⟨x, 4, none⟩ = some e ∧ w.cell? ⟨x, 5, none⟩ = some f := by
  have s0 := H.cell 0
  have s1 := H.cell 1
  have s2 := H.cell 2
  have s3 := H.cell 3
  have s4 := H.cell 4
  have s5 := H.cell 5
  simp at s0 s1 s2 s3 s4 s5
  exact ⟨s0, s1, s2, s3, s4, s5⟩

set_option maxHeartbeats 2000000 in
set_option maxRecDepth 100000 in
theorem hokI_ok (R : Reg) (hR : R.ok) (hS : SimpleP R) (A : Option Addr) (c B : Nat) (L : List Int) (ad : Addr) (d : Nat) (hL : L.length = R.cn) (w : World)
    (hr : Reads w B 1 A R.C.length (R.C.map Value.bool)) (hd : Reads w B 1 (some ad) R.cn (L.map (Value.int .i64))) (hB : B ≤ w.heap.size) :
    Calls Try.prog 63 #[.agg #[.int .i64 R.W, .int .i64 R.T, .slice A R.C.length c], .slice (some ad) R.cn d] w fun e w' => e = .returned (.bool (hokB R.W R.T R.C L)) ∧ Below w.heap.size w w' := by
  have hcn := cn_bd hR
  obtain ⟨hcn1, hcn2⟩ := hcn
  obtain ⟨m, hm, hmu, hml⟩ := firstU_ex hR hS.1
  have HM := Lib.hid (⟨hmu, hml⟩ : FirstU R m)
  clear hmu hml
  have hl36 := (len_bd hR).2
  have hlen : (sidesOf R).length ≤ 98 := by have := sidesTo_len R R.cn; unfold sidesOf; omega
  have hSI := SimpleI_any R.W R.T A R.C.length c B R.C (w.alloc (boxR R.W R.T A R.C.length c)) (hr.alloc hB _) (by simp; omega) (by omega)
  rw [(simple_of hR).2 hS] at hSI
  have HNO : Hid (¬ HOk R L → hokB R.W R.T R.C L = false) := Lib.hid (hokB_no hR hS)
  have HYES : Hid (HOk R L → hokB R.W R.T R.C L = true) := Lib.hid (hokB_ok hR hS).2
  have HLL := Lib.hid hL
  clear hL
  go_enter Try.func63, Try.ntmps63
  go_wp2_with fail
  refine hSI.mono ?_
  rintro e w0 ⟨rfl, hb0⟩
  obtain ⟨hB0, hk0, b0, b1, b2⟩ := box_keep hb0
  clear hb0 hSI
  go_wp2_with fail
  refine (cornersN_any R hR A R.C.length c _).mono ?_
  rintro e w1 ⟨rfl, hb1⟩
  have hne : ((R.cn : Int) != (R.cn : Int)) = false := by simp
  obtain ⟨hk1, b0, b1, b2⟩ := blk_keep hk0 hb1
  have hB1 := hB0.trans (hb1.mono hB0.size)
  clear hb1 hk0 hB0
  go_wp2_with (at_make; refine wpList_make_bools rfl _ _ rfl R.cn (by omega) rfl rfl (by simp) (by simp) ?_; intro w2 hown hb2; obtain ⟨hk2, b0, b1, b2⟩ := blk_keep hk1 hb2; have hB2 := hB1.trans (hb2.mono hB1.size))
  refine (sides_any R hR A c B w2 (hr.below (hB2.mono hB)) (Nat.le_trans hB hB2.size)).mono ?_
  rintro e w3 ⟨v, rfl, hos, hb3⟩
  obtain ⟨S, sc, rfl, hsc, hrs⟩ := own_form hos
  have hW3 : UW w w3 R A c w1.heap.size S sc (List.replicate R.cn false) :=
    ⟨hB2.trans (hb3.mono hB2.size), hk2.below hb3 hk2.lt, own_mono (own_below hown hb3 (Nat.le_refl _)) hk1.lt, own_mono hos hk2.lt⟩
  have hg1 : w.heap.size < w1.heap.size := hk1.lt
  generalize w1.heap.size = g at *
  clear hb3 hos hrs hown hb2 hk2 hk1 hB1 hB2 b0 b1 b2 hne
  go_wp2_with fail
  go_loopg [28] (sidesOf R).length (fun r s28 wr => ∃ (k : Nat) (O : List Bool), k + r = (sidesOf R).length ∧ s28 = .int .i64 (k : Nat) ∧ UsedL R k O ∧ (∀ (j : Nat) s, j < k → (sidesOf R)[j]? = some s → SdOk R L s) ∧ UW w wr R A c g S sc O)
  case atStart => exact ⟨0, _, by omega, rfl, usedL_start R, fun j s hj => by omega, hW3⟩
  case round =>
    clear hW3
    obtain ⟨k, O, hk, rfl, hU, hOK, hW⟩ := hrel
    have HK := Lib.hid hk
    have HU := Lib.hid hU
    have HOK := Lib.hid hOK
    clear hk hU hOK
    by_cases hlt : k < (sidesOf R).length
    · obtain ⟨s, hs⟩ : ∃ s, (sidesOf R)[k]? = some s := ⟨_, List.getElem?_eq_getElem hlt⟩
      obtain ⟨f, t, hst⟩ := side_at hR (List.mem_of_getElem? hs)
      obtain ⟨q, rfl, hab, c0, c1, c2, c3, c4, c5⟩ := hW.scell hs
      have HS := Lib.hid hs
      have HST := Lib.hid hst
      rw [hst.fe] at c0
      rw [hst.te] at c1
      obtain ⟨bx1, bx2, by1, by2, bx3, bx4, by3, by4⟩ := hst.bd
      have hfl := hst.fl
      have htl := hst.tl
      have hRI := fun w' => hide (rise_any f t s.lx s.ly s.rx s.ry ⟨bx1, bx2⟩ ⟨by1, by2⟩ w')
      have hIN := fun w' (h : Below w.heap.size w w') => hide (inner_any R hR A c B f t s.lx s.ly s.rx s.ry ⟨bx1, bx2⟩ ⟨by1, by2⟩ ⟨bx3, bx4⟩ ⟨by3, by4⟩ w' (hr.below (h.mono hB)) (Nat.le_trans hB h.size))
      have HINN : Hid ((R.at s.lx s.ly && R.at s.rx s.ry) = R.inn s) := Lib.hid rfl
      have hsg := sg_or s.lx s.ly
      have hsg1 : -1 ≤ sg s.lx s.ly := by omega
      have hsg2 : sg s.lx s.ly ≤ 1 := by omega
      have HSD : Hid (SdOk R L s ↔ (sdD L f t = sg s.lx s.ly ∨ (R.inn s = true ∧ sdD L f t = -3 * sg s.lx s.ly))) := Lib.hid (by unfold SdOk; rw [hst.fe, hst.te]; rfl)
      have HDD : Hid (sdD L f t = wrap64 (L.getD t 0 - L.getD f 0)) := Lib.hid rfl
      obtain ⟨b0, b1, b2⟩ := hW.cells
      have hbs : Blk (wr.alloc (.cells #[.int .i64 f, .int .i64 t, .int .i64 s.lx, .int .i64 s.ly, .int .i64 s.rx, .int .i64 s.ry] 99)) wr.heap.size 99 #[.int .i64 f, .int .i64 t, .int .i64 s.lx, .int .i64 s.ly, .int .i64 s.rx, .int .i64 s.ry] := Blk.new wr _ _
      have hW4 := hW.below ((Below.refl _ _).alloc (Nat.le_refl _) (.cells #[.int .i64 f, .int .i64 t, .int .i64 s.lx, .int .i64 s.ly, .int .i64 s.rx, .int .i64 s.ry] 99))
      generalize sg s.lx s.ly = sgv at *
      clear hs hst hsg
      obtain ⟨hg2, hg3⟩ := hW.glt
      have hgne : g ≠ wr.heap.size := by omega
      go_upto_region 7 with fail
      have ff := hW4.out.frozenAt f
      have ft := hW4.out.frozenAt t
      have of := hW4.ocell hfl
      have ot := hW4.ocell htl
      generalize wr.alloc (.cells #[.int .i64 f, .int .i64 t, .int .i64 s.lx, .int .i64 s.ly, .int .i64 s.rx, .int .i64 s.ry] 99) = w4 at *
      have s0 := hbs.cell 0
      have s1 := hbs.cell 1
      simp at s0 s1
      have hW5 := hW4.set f true
      have ot5 := hW5.ocell htl
      have ft5 := hW5.out.frozenAt t
      have hW6 := hW5.set t true
      clear b0 b1 b2 c0 c1 c2 c3 c4 c5 hW
      go_region
      go_upto_region 8 with fail
      have hbs6 := ((hbs.far (p := ⟨g, f, none⟩) (by simp; omega) (.bool true)).far (p := ⟨g, t, none⟩) (by simp; omega) (.bool true)).drew
      have hW7 := hW6.below (Below.refl _ _).drew
      clear hW4 hW5 hW6 hbs s0 s1 ff ft of ot ot5 ft5
      generalize ((w4.setCell ⟨g, f, none⟩ (.bool true)).setCell ⟨g, t, none⟩ (.bool true)).drew = w7 at *
      have s0 := hbs6.cell 0
      have s1 := hbs6.cell 1
      simp at s0 s1
      have hd7 := hd.below (hW7.bel.mono hB)
      obtain ⟨ad1, e1, _, d0⟩ := hd7.getI hfl
      obtain ⟨ad2, e2, _, d1⟩ := hd7.getI htl
      obtain rfl : ad = ad1 := by injection e1
      obtain rfl : ad = ad2 := by injection e2
      clear e1 e2 hd7
      have HD2 := Lib.hid HDD.out.symm
      generalize L.getD f 0 = vf at *
      generalize L.getD t 0 = vt at *
      go_region
      rw [HD2.out]
      go_upto_region 9 with fail
      have hW8 := hW7.below (Below.refl _ _).drew
      have hbs8 := hbs6.drew
      clear d0 d1 s0 s1 hW7 hbs6
      generalize w7.drew = w8 at *
      generalize sdD L f t = dv at *
      have hN : SdOk R L s → ∀ (j : Nat) s', j < k + 1 → (sidesOf R)[j]? = some s' → SdOk R L s' := by
        intro h j s' hj hjs
        by_cases hjk : j = k
        · subst hjk
          rw [HS.out] at hjs
          injection hjs with hjs
          subst hjs
          exact h
        · exact HOK.out j s' (by omega) hjs
      have HN := Lib.hid hN
      clear hN
      obtain ⟨b0, b1, b2⟩ := hW8.cells
      obtain ⟨s0, s1, s2, s3, s4, s5⟩ := blk6 hbs8
      by_cases h1 : dv = sgv
      · have hok := HSD.out.2 (.inl h1)
        have q1 : (dv != sgv) = false := by simpa using h1
        clear h1
        go_wp2_with fail
        refine (unhide (hRI _)).mono ?_
        rintro e w9 ⟨rfl, hb9⟩
        have hW9 := hW8.below hb9
        go_wp2_with fail
        go_roundg ((sidesOf R).length - (k + 1))
        case measure => have := HK.out; omega
        case rel => exact ⟨k + 1, _, by have := HK.out; omega, by go_num, usedL_next HU.out HS.out HST.out, HN.out hok, hW9⟩
      · have q1 : (dv != sgv) = true := by simpa using h1
        go_wp2_with fail
        refine (unhide (hRI _)).mono ?_
        rintro e w9 ⟨rfl, hb9⟩
        have hW9 := hW8.below hb9
        have hbs9 := hbs8.below hb9 hbs8.lt
        clear b0 b1 b2 s0 s1 s2 s3 s4 s5 hb9 hW8 hbs8
        obtain ⟨b0, b1, b2⟩ := hW9.cells
        obtain ⟨s0, s1, s2, s3, s4, s5⟩ := blk6 hbs9
        go_wp2_with fail
        refine (unhide (hIN _ hW9.bel)).mono ?_
        rw [HINN.out]
        rintro e w10 ⟨rfl, hb10⟩
        have hW10 := hW9.below hb10
        have hbs10 := hbs9.below hb10 hbs9.lt
        clear b0 b1 b2 s0 s1 s2 s3 s4 s5 hb10 hW9 hbs9
        cases hin : R.inn s with
        | false =>
          go_wp2_with fail
          go_ret
          have hbad : hokB R.W R.T R.C L = false := HNO.out fun h => by
            have := HSD.out.1 (h.sd k s hlt HS.out)
            rcases this with h2 | ⟨h2, _⟩
            · exact h1 h2
            · rw [hin] at h2; cases h2
          exact ⟨by rw [hbad]; rfl, hW10.bel⟩
        | true =>
          obtain ⟨s0, s1, s2, s3, s4, s5⟩ := blk6 hbs10
          have HIN := Lib.hid hin
          clear hin
          by_cases h2 : dv = -3 * sgv
          · have hok := HSD.out.2 (.inr ⟨HIN.out, h2⟩)
            have q2 : (dv == -3 * sgv) = true := by simpa using h2
            clear h2 h1
            go_wp2_with fail
            refine (unhide (hRI _)).mono ?_
            rintro e w11 ⟨rfl, hb11⟩
            have hW11 := hW10.below hb11
            go_wp2_with fail
            go_roundg ((sidesOf R).length - (k + 1))
            case measure => have := HK.out; omega
            case rel => exact ⟨k + 1, _, by have := HK.out; omega, by go_num, usedL_next HU.out HS.out HST.out, HN.out hok, hW11⟩
          · have q2 : (dv == -3 * sgv) = false := by simpa using h2
            go_wp2_with fail
            refine (unhide (hRI _)).mono ?_
            rintro e w11 ⟨rfl, hb11⟩
            have hW11 := hW10.below hb11
            go_wp2_with fail
            go_ret
            have hbad : hokB R.W R.T R.C L = false := HNO.out fun h => by
              have := HSD.out.1 (h.sd k s hlt HS.out)
              rcases this with h3 | ⟨_, h3⟩
              · exact h1 h3
              · exact h2 h3
            exact ⟨by rw [hbad]; rfl, hW11.bel⟩
    · obtain rfl : k = (sidesOf R).length := by have := HK.out; omega
      have hU := HU.out
      have om := (usedL_end hU hm).2 HM.out.1
      have oj : ∀ j, j < m → O.getD j false = false := by
        intro j hj
        cases ho : O.getD j false with
        | false => rfl
        | true => exact absurd ((usedL_end hU (by omega)).1 ho) (HM.out.2 j hj)
      have HIX := fun w' (h : Below wr.heap.size wr w') => hide (indexT_any O ⟨g, 0, none⟩ R.cn R.cn wr.heap.size m hm (by omega) om oj w' ((Reads.of_own hW.out).below h))
      clear om oj hU HK
      go_wp2_with fail
      refine (unhide (HIX _ (Below.refl _ _))).mono ?_
      rintro e w9 ⟨rfl, rfl⟩
      go_wp2_with fail
      have HALL := Lib.hid HOK.out
      have HUL := Lib.hid HU.out
      clear HOK HU HIX b0 b1 b2
      obtain ⟨wo, rfl⟩ : ∃ wo : World, wo = wr := ⟨_, rfl⟩
      obtain ⟨gk0, rfl⟩ : ∃ gk0 : Nat, gk0 = gk := ⟨_, rfl⟩
      go_loopg [73] R.cn (fun r s73 wr => ∃ k : Nat, k + r = R.cn ∧ s73 = .int .i64 (k : Nat) ∧ wr = wo ∧ ∀ i, i < k → CornOk R L m i)
      case atStart => exact ⟨0, by omega, rfl, rfl, fun i hi => by omega⟩
      case round =>
        obtain ⟨k, hk, rfl, rfl, hC⟩ := hrel
        have HK := Lib.hid hk
        have HC := Lib.hid hC
        clear hk hC
        by_cases hlt2 : k < R.cn
        · have oc := hW.ocell hlt2
          obtain ⟨ad1, e1, _, d0⟩ := (hd.below (hW.bel.mono hB)).getI hlt2
          obtain rfl : ad = ad1 := by injection e1
          clear e1
          have hun := usedL_end HUL.out hlt2
          have HUN := Lib.hid hun
          have HN : Hid (CornOk R L m k → ∀ i, i < k + 1 → CornOk R L m i) := Lib.hid fun h i hi => by
            by_cases hik : i = k
            · subst hik; exact h
            · exact HC.out i (by omega)
          clear hun
          cases ho : O.getD k false with
          | false =>
            have hnu : ¬ UsedC R k := fun h => by rw [HUN.out.2 h] at ho; cases ho
            have hkm : k ≠ m := fun e => hnu (e ▸ HM.out.1)
            have q0 : ((k : Int) == (m : Int)) = false := by simp; omega
            rw [ho] at oc
            clear ho
            by_cases h9 : L.getD k 0 = 99
            · have hok : CornOk R L m k := ⟨fun h => absurd h hnu, fun _ => h9, fun h => absurd h hkm⟩
              have q1 : (L.getD k 0 != 99) = false := by simpa using h9
              generalize L.getD k 0 = v at *
              clear h9
              go_wp2_with (go_at_call 88; refine (in_any _ _ _ _).mono ?_; rintro e w' ⟨rfl, rfl⟩)
              go_roundg (R.cn - (k + 1))
              case measure => have := HK.out; omega
              case rel => exact ⟨k + 1, by have := HK.out; omega, by go_num, rfl, HN.out hok⟩
            · have q1 : (L.getD k 0 != 99) = true := by simpa using h9
              have H9 := Lib.hid h9
              clear h9
              generalize hv : L.getD k 0 = v at *
              have HV := Lib.hid hv
              clear hv
              go_wp2_with (go_at_call 88; refine (in_any _ _ _ _).mono ?_; rintro e w' ⟨rfl, rfl⟩)
              go_ret
              have hbad : hokB R.W R.T R.C L = false := HNO.out fun h => by
                exact H9.out (by rw [← HV.out]; exact h.no k hlt2 hnu)
              exact ⟨by rw [hbad]; rfl, hW.bel⟩
          | true =>
            have hu : UsedC R k := HUN.out.1 ho
            rw [ho] at oc
            clear ho
            by_cases h6 : -60 ≤ L.getD k 0 ∧ L.getD k 0 ≤ 60
            · have I1 := inB_t h6
              have H6 := Lib.hid h6
              by_cases hkm : k = m
              · have q0 : ((k : Int) == (m : Int)) = true := by rw [hkm]; simp
                by_cases hz : L.getD k 0 = 0
                · have hok : CornOk R L m k := ⟨fun _ => h6, fun h => absurd hu h, fun _ => hz⟩
                  have q1 : (L.getD k 0 != 0) = false := by simpa using hz
                  clear h6 hz H6
                  generalize L.getD k 0 = v at *
                  clear hkm
                  go_wp2_with (go_at_call 88; refine (in_any _ _ _ _).mono ?_; rintro e w' ⟨rfl, rfl⟩)
                  go_roundg (R.cn - (k + 1))
                  case measure => have := HK.out; omega
                  case rel => exact ⟨k + 1, by have := HK.out; omega, by go_num, rfl, HN.out hok⟩
                · have q1 : (L.getD k 0 != 0) = true := by simpa using hz
                  have hbad0 : ¬ HOk R L := fun h => hz (h.fst k hlt2 (hkm ▸ HM.out))
                  have HB0 := Lib.hid hbad0
                  clear h6 hz H6 hbad0
                  generalize L.getD k 0 = v at *
                  clear hkm
                  go_wp2_with (go_at_call 88; refine (in_any _ _ _ _).mono ?_; rintro e w' ⟨rfl, rfl⟩)
                  go_ret
                  have hbad : hokB R.W R.T R.C L = false := HNO.out fun h => by
                    exact HB0.out h
                  exact ⟨by rw [hbad]; rfl, hW.bel⟩
              · have q0 : ((k : Int) == (m : Int)) = false := by simp; omega
                have hok : CornOk R L m k := ⟨fun _ => h6, fun h => absurd hu h, fun h => absurd h hkm⟩
                clear h6 H6
                generalize L.getD k 0 = v at *
                clear hkm
                go_wp2_with (go_at_call 88; refine (in_any _ _ _ _).mono ?_; rintro e w' ⟨rfl, rfl⟩)
                go_roundg (R.cn - (k + 1))
                case measure => have := HK.out; omega
                case rel => exact ⟨k + 1, by have := HK.out; omega, by go_num, rfl, HN.out hok⟩
            · have I1 := inB_f h6
              have hbad0 : ¬ HOk R L := fun h => h6 (h.rng k hlt2 hu)
              have HB0 := Lib.hid hbad0
              clear h6 hbad0
              generalize L.getD k 0 = v at *
              go_wp2_with (go_at_call 88; refine (in_any _ _ _ _).mono ?_; rintro e w' ⟨rfl, rfl⟩)
              go_ret
              have hbad : hokB R.W R.T R.C L = false := HNO.out fun h => by
                exact HB0.out h
              exact ⟨by rw [hbad]; rfl, hW.bel⟩
        · obtain rfl : k = R.cn := by have := HK.out; omega
          have hyes := HYES.out ⟨HLL.out, fun k s hk hs => HALL.out k s hk hs, fun i hi hu => (HC.out i hi).1 hu, fun i hi hu => (HC.out i hi).2.1 hu, fun i hi hf => (HC.out i hi).2.2 (firstU_one hf HM.out)⟩
          go_wp2_with fail
          go_ret
          exact ⟨by rw [hyes]; rfl, hW.bel⟩

theorem hokI_any (W T : Int) (A : Option Addr) (n c B : Nat) (bs : List Bool) (L : List Int) (D : Option Addr) (m d : Nat) (w : World) (hbl : bs.length = n) (hL : L.length = m)
    (hr : Reads w B 1 A n (bs.map Value.bool)) (hd : Reads w B 1 D m (L.map (Value.int .i64))) (hB : B ≤ w.heap.size) (hn : n ≤ 9223372036854775807) (hm : m ≤ 9223372036854775807) :
    Calls Try.prog 63 #[.agg #[.int .i64 W, .int .i64 T, .slice A n c], .slice D m d] w fun e w' => e = .returned (.bool (hokB W T bs L)) ∧ Below w.heap.size w w' := by
  have hSI := hide (SimpleI_any W T A n c B bs (w.alloc (boxR W T A n c)) (hr.alloc hB _) (by simp; omega) hn)
  cases hs : simpleB W T bs with
  | false =>
    rw [hs] at hSI
    rw [hokB_s hs]
    clear hs
    go_enter Try.func63, Try.ntmps63
    go_wp2_with fail
    refine (unhide hSI).mono ?_
    rintro e w0 ⟨rfl, hb0⟩
    go_wp2_with fail
    go_ret
    exact ⟨rfl, (box_keep hb0).1⟩
  | true =>
    have hv : validB W T bs = true := by
      cases hv : validB W T bs with
      | false => rw [simpleB_no hv] at hs; cases hs
      | true => rfl
    obtain ⟨R, hR, rfl, rfl, rfl⟩ := reg_of_valid hv
    have hS := (simple_of hR).1 hs
    subst hbl
    by_cases hlen : m = R.cn
    · subst hlen
      have hcn := cn_bd hR
      obtain ⟨ad, rfl, _⟩ := hd.getI (k := 0) (by omega)
      exact hokI_ok R hR hS A c B L ad d hL w hr hd hB
    · rw [hokB_no hR hS fun h => hlen (by rw [← hL, h.len])]
      rw [hs] at hSI
      have hcn := cn_bd hR
      have q : ((m : Int) != (R.cn : Int)) = true := by simp; omega
      clear hs hv hL hd
      go_enter Try.func63, Try.ntmps63
      go_wp2_with fail
      refine (unhide hSI).mono ?_
      rintro e w0 ⟨rfl, hb0⟩
      obtain ⟨hB0, hk0, b0, b1, b2⟩ := box_keep hb0
      go_wp2_with fail
      refine (cornersN_any R hR A R.C.length c _).mono ?_
      rintro e w1 ⟨rfl, hb1⟩
      go_wp2_with fail
      go_ret
      exact ⟨rfl, hB0.trans (hb1.mono hB0.size)⟩

end Go.Proofs.Ytpeifojfpkkcpaa
