/-
  YthepfpiphlfgnaaFm: the texts Fi, Fj, Q5, Q6, Q7 in one file.
-/
import Derived.Laws.EntriesVeiled
import Derived.Shelf.Abstract
import Derived.Test.YthepfpiphlfgnaaFr

/-
  YthepfpiphlfgnaaFi: the corners that can be flipped and for which something holds, in the program.
-/
namespace Go.Proofs.Ythepfpiphlfgnaa
open Go.RowKit

structure FW (w wr : World) (R : Reg) (A : Option Addr) (c : Nat) (v : Value) (l : List Int) : Prop where
  own : wr.ownsRow (w.heap.size + 1) 3 1 v l.length (l.map (Value.int .i64))
  box : Blk wr w.heap.size 25 #[.int .i64 R.W, .int .i64 R.T, .slice A R.C.length c]
  bel : Below w.heap.size w wr
section
variable {w wr w2 : World} {R : Reg} {A : Option Addr} {c : Nat} {v : Value} {l : List Int}
theorem FW.below (H : FW w wr R A c v l) (hb : Below wr.heap.size wr w2) : FW w w2 R A c v l :=
  ⟨own_below H.own hb (Nat.le_refl _), H.box.below hb H.box.lt, H.bel.trans (hb.mono H.bel.size)⟩
theorem FW.app {o : Obj} {v' : Value} {x : Int} (H : FW w wr R A c v l) (ho : w2.ownsRow (w.heap.size + 1) 3 1 v' (l.length + 1) (l.map (Value.int .i64) ++ [.int .i64 x])) (hg : (wr.alloc o).grownBy w2 v.ownBlock) : FW w w2 R A c v' (l ++ [x]) := by
  have hge : ∀ g, v.ownBlock = some g → w.heap.size + 1 ≤ g := fun g h => own_block_ge H.own h
  refine ⟨by rw [List.length_append, List.map_append]; exact ho, (H.box.alloc o).grown hg ?_, (H.bel.alloc H.bel.size o).grown hg (by have := H.bel.size; simp; omega) (fun g h => by have := hge g h; omega)⟩
  intro h
  have := hge _ h.symm
  omega
theorem FW.cells (H : FW w wr R A c v l) : wr.cell? ⟨w.heap.size, 0, none⟩ = some (.int .i64 R.W) ∧ wr.cell? ⟨w.heap.size, 1, none⟩ = some (.int .i64 R.T) ∧ wr.cell? ⟨w.heap.size, 2, none⟩ = some (.slice A R.C.length c) := by
  have r0 := H.box.cell 0
  have r1 := H.box.cell 1
  have r2 := H.box.cell 2
  simp at r0 r1 r2
  exact ⟨r0, r1, r2⟩
end

theorem own_cap2 {w : World} {base : Nat} {e : TypeId} {size : Nat} {A : Option Addr} {n c : Nat} {xs : List Value} (h : w.ownsRow base e size (.slice A n c) n xs) : c ≤ 9223372036854775807 := by
  rcases h.2 with ⟨h0, _⟩ | ⟨g, cap, cur, hv, _, _, _, h4, _⟩
  · injection h0; omega
  · simp only [Value.slice.injEq] at hv
    obtain ⟨_, _, rfl⟩ := hv
    simpa only [maxLen] using h4

/-- The corners up to k that can be flipped and for which p holds. -/
def flTo (R : Reg) (L : List Int) (p : Nat → Bool) (k : Nat) : List Int := ((List.range k).filter fun (j : Nat) => flB R L ((j : Nat) : Int) && p j).map fun (j : Nat) => ((j : Nat) : Int)
def flL (R : Reg) (L : List Int) (p : Nat → Bool) : List Int := flTo R L p R.cn
theorem flTo_yes {R : Reg} {L : List Int} {p : Nat → Bool} {k : Nat} (h : flB R L (k : Int) = true) (hp : p k = true) : flTo R L p (k + 1) = flTo R L p k ++ [(k : Int)] := by
  unfold flTo
  rw [List.range_succ, List.filter_append, List.map_append, List.filter_cons, if_pos (by rw [h, hp]; rfl)]; rfl
theorem flTo_no {R : Reg} {L : List Int} {p : Nat → Bool} {k : Nat} (h : (flB R L (k : Int) && p k) = false) : flTo R L p (k + 1) = flTo R L p k := by
  unfold flTo
  rw [List.range_succ, List.filter_append, List.filter_cons, if_neg (by rw [h]; decide)]
  simp
theorem flTo_len (R : Reg) (L : List Int) (p : Nat → Bool) (k : Nat) : (flTo R L p k).length ≤ k := by
  unfold flTo
  rw [List.length_map]
  exact Nat.le_trans (List.length_filter_le _ _) (by simp)

/-- A function that answers for corners. -/
def May (fid : FuncId) (caps : Array Value) (p : Nat → Bool) (R : Reg) (L : List Int) (w : World) : Prop :=
  ∀ (k : Nat) (w' : World), k < R.cn → flB R L (k : Int) = true → Below w.heap.size w w' → Calls Try.prog fid (#[.int .i64 (k : Nat)] ++ caps) w' fun e w'' => e = .returned (.bool (p k)) ∧ Below w'.heap.size w' w''

set_option maxHeartbeats 1000000 in
set_option maxRecDepth 20000 in
theorem flips_any (fid : FuncId) (caps : Array Value) (p : Nat → Bool) (R : Reg) (hR : R.ok) (A : Option Addr) (c B : Nat) (L : List Int) (D : Option Addr) (d : Nat) (w : World) (hE : ∀ (args : Array Value) (w : World), (callFunc fid args).run Try.prog w = .ok (.enter fid args) w) (hM : May fid caps p R L w)
    (hd : Reads w B 1 D R.C.length (L.map (Value.int .i64))) (hB : B ≤ w.heap.size) :
    Calls Try.prog 94 #[.agg #[.int .i64 R.W, .int .i64 R.T, .slice A R.C.length c], .slice D R.C.length d, .func (.func fid) #[] caps] w (ClipInts w (flL R L p)) := by
  have hcn := cn_bd hR
  have HF := fun (k : Nat) (hk : k < R.cn) w' (h : Below w.heap.size w w') => hide (flippable_any R hR A R.C.length c B L D d (k : Int) (by omega) w' (hd.below (h.mono hB)) (Nat.le_trans hB h.size))
  have HC := fun w' => hide (cornersN_any R hR A R.C.length c w')
  have HM := Lib.hid hM
  clear hM hd
  go_enter Try.func94, Try.ntmps94
  go_wp2_with fail
  refine (unhide (HC _)).mono ?_
  rintro e w1 ⟨rfl, hb1⟩
  obtain ⟨hB1, hk1, b0, b1, b2⟩ := box_keep hb1
  have hW1 : FW w w1 R A c (.slice none 0 0) [] := ⟨⟨rfl, .inl ⟨rfl, rfl⟩⟩, hk1, hB1⟩
  clear hb1 hB1 hk1 b0 b1 b2
  go_wp2_with fail
  go_loopg [7, 13] R.cn (fun r s7 s13 wr => ∃ k : Nat, k + r = R.cn ∧ s13 = .int .i64 (k : Nat) ∧ FW w wr R A c s7 (flTo R L p k))
  case atStart => exact ⟨0, by omega, rfl, by simpa [flTo] using hW1⟩
  case round =>
    clear hW1
    obtain ⟨k, hk, rfl, hW⟩ := hrel
    have HK := Lib.hid hk
    clear hk
    by_cases hlt : k < R.cn
    · have HF' := fun w' h => HF k hlt w' h
      have hfl : Hid (flB R L (k : Int) = (fl1 R L (k : Int) || fl2 R L (k : Int))) := Lib.hid rfl
      have HY : Hid (flB R L (k : Int) = true → p k = true → flTo R L p (k + 1) = flTo R L p k ++ [(k : Int)]) := Lib.hid flTo_yes
      have HNo : Hid ((flB R L (k : Int) && p k) = false → flTo R L p (k + 1) = flTo R L p k) := Lib.hid flTo_no
      have HMM : Hid (flB R L (k : Int) = true → ∀ w', Below w.heap.size w w' → Calls Try.prog fid (#[.int .i64 (k : Nat)] ++ caps) w' fun e w'' => e = .returned (.bool (p k)) ∧ Below w'.heap.size w' w'') := Lib.hid fun h w' hb => HM.out k w' hlt h hb
      have HL := Lib.hid (flTo_len R L p k)
      generalize flTo R L p k = l at *
      generalize flB R L (k : Int) = fb at *
      generalize p k = pk at *
      obtain ⟨b0, b1, b2⟩ := hW.cells
      go_wp2_with fail
      refine (unhide (HF' _ hW.bel)).mono ?_
      rintro e w2 ⟨rfl, hb2⟩
      have hW2 := hW.below hb2
      generalize fl1 R L (k : Int) = f1 at *
      generalize fl2 R L (k : Int) = f2 at *
      clear hW hb2 b0 b1 b2 HF HF'
      cases hfb : f1 || f2 with
      | false =>
        rw [hfb] at hfl
        obtain ⟨rfl, rfl⟩ : f1 = false ∧ f2 = false := by rw [Bool.or_eq_false_iff] at hfb; exact hfb
        have hno := HNo.out (by rw [hfl.out]; rfl)
        have HNN := Lib.hid hno
        clear hno hfb
        go_wp2_with fail
        go_roundg (R.cn - (k + 1))
        case measure => have := HK.out; omega
        case rel => exact ⟨k + 1, by have := HK.out; omega, by go_num, by rw [HNN.out]; exact hW2⟩
      | true =>
        rw [hfb] at hfl
        have hMM := hide (HMM.out hfl.out w2 hW2.bel)
        have HNN : Hid (pk = false → flTo R L p (k + 1) = l) := Lib.hid fun h => HNo.out (by rw [h, Bool.and_false])
        have HYY : Hid (pk = true → flTo R L p (k + 1) = l ++ [(k : Int)]) := Lib.hid fun h => HY.out hfl.out h
        have hfb0 := hfb
        clear HMM HNo HY hfb
        have fin : ∀ (w3 : World), Below w2.heap.size w2 w3 → FW w w3 R A c u7 l := fun w3 h => hW2.below h
        cases f1 with
        | true =>
          go_wp2_with fail
          refine (unhide hMM).mono ?_
          rintro e w3 ⟨rfl, hb3⟩
          have hW3 := fin w3 hb3
          cases pk with
          | false =>
            go_wp2_with fail
            go_roundg (R.cn - (k + 1))
            case measure => have := HK.out; omega
            case rel => exact ⟨k + 1, by have := HK.out; omega, by go_num, by rw [HNN.out (by first | exact trivial | rfl)]; exact hW3⟩
          | true =>
            go_wp2_with (at_builtin; refine wpList_app rfl _ _ _ rfl (w.heap.size + 1) 3 _ 8 Try.underlying26 info_int rfl (by omega) _ _ _ rfl (hW3.own.alloc _) w3.heap.size (.int .i64 (k : Nat)) rfl ?c1 rfl (by have := HL.out; omega) ?c2 ?_)
            case c1 => simp
            case c2 => have := hW3.bel.size; have := hW3.box.lt; simp; omega
            rintro g' c' w4 hown hgr _ _ _
            have hW4 := hW3.app (x := (k : Int)) hown hgr
            clear hown hgr
            go_wp2_with fail
            go_roundg (R.cn - (k + 1))
            case measure => have := HK.out; omega
            case rel => exact ⟨k + 1, by have := HK.out; omega, by go_num, by rw [HYY.out (by first | exact trivial | rfl)]; exact hW4⟩
        | false =>
          obtain rfl : f2 = true := by simpa using hfb0
          go_wp2_with fail
          refine (unhide hMM).mono ?_
          rintro e w3 ⟨rfl, hb3⟩
          have hW3 := fin w3 hb3
          cases pk with
          | false =>
            go_wp2_with fail
            go_roundg (R.cn - (k + 1))
            case measure => have := HK.out; omega
            case rel => exact ⟨k + 1, by have := HK.out; omega, by go_num, by rw [HNN.out (by first | exact trivial | rfl)]; exact hW3⟩
          | true =>
            go_wp2_with (at_builtin; refine wpList_app rfl _ _ _ rfl (w.heap.size + 1) 3 _ 8 Try.underlying26 info_int rfl (by omega) _ _ _ rfl (hW3.own.alloc _) w3.heap.size (.int .i64 (k : Nat)) rfl ?c1 rfl (by have := HL.out; omega) ?c2 ?_)
            case c1 => simp
            case c2 => have := hW3.bel.size; have := hW3.box.lt; simp; omega
            rintro g' c' w4 hown hgr _ _ _
            have hW4 := hW3.app (x := (k : Int)) hown hgr
            clear hown hgr
            go_wp2_with fail
            go_roundg (R.cn - (k + 1))
            case measure => have := HK.out; omega
            case rel => exact ⟨k + 1, by have := HK.out; omega, by go_num, by rw [HYY.out (by first | exact trivial | rfl)]; exact hW4⟩
    · obtain rfl : k = R.cn := by have := HK.out; omega
      obtain ⟨A', c', rfl, hc', _⟩ := own_form hW.own
      have hle := own_cap2 hW.own
      go_wp2_with (go_at_call 155; refine (clip_any _ _ _ hc' hle _).mono ?_; rintro e w' ⟨rfl, rfl⟩)
      go_ret
      exact ⟨_, _, rfl, own_mono hW.own (by omega), hW.bel⟩

end Go.Proofs.Ythepfpiphlfgnaa

/-
  YthepfpiphlfgnaaFj: rising, DownOf and UpOf of the program.
-/
namespace Go.Proofs.Ythepfpiphlfgnaa
open Go.RowKit

/-- The corners whose flip changes the height by so much. -/
noncomputable def rgV (W T : Int) (bs : List Bool) (L : List Int) (by_ : Int) : List Int := if tiledB W T bs L = true then flL ⟨W.toNat, T.toNat, bs⟩ L (fun k => rsZ ⟨W.toNat, T.toNat, bs⟩ L (k : Int) == by_) else []
theorem rgV_yes {R : Reg} {L : List Int} {b : Int} (h : tiledB R.W R.T R.C L = true) : rgV R.W R.T R.C L b = flL R L fun k => rsZ R L (k : Int) == b := by unfold rgV; rw [if_pos h]; rfl
theorem rgV_no {W T : Int} {bs : List Bool} {L : List Int} {b : Int} (h : tiledB W T bs L = false) : rgV W T bs L b = [] := by unfold rgV; rw [h]; rfl
theorem rgV_len {W T : Int} {bs : List Bool} {L : List Int} {b : Int} : (rgV W T bs L b).length ≤ 49 := by
  cases h : tiledB W T bs L with
  | false => rw [rgV_no h]; simp
  | true =>
    obtain ⟨R, hR, rfl, rfl, rfl, _⟩ := tiled_cases h
    rw [rgV_yes h]
    exact Nat.le_trans (flTo_len _ _ _ _) (cn_bd hR).2

end Go.Proofs.Ythepfpiphlfgnaa

/-
  YthepfpiphlfgnaaQ5: whoever goes down again and again comes to an end. Plain Lean.
-/
namespace Go.Proofs.Ythepfpiphlfgnaa

theorem sum_set : ∀ {H : List Int} {k : Nat} {v : Int}, k < H.length → (H.set k v).sum = H.sum - H.getD k 0 + v
  | [], k, v, h => by simp at h
  | z :: H, 0, v, _ => by simp; omega
  | z :: H, k + 1, v, h => by
    have := sum_set (H := H) (k := k) (v := v) (by simpa using h)
    simp only [List.set_cons_succ, List.sum_cons, List.getD_cons_succ]
    omega
theorem sum_bd : ∀ {H : List Int} {a b : Int}, (∀ z ∈ H, a ≤ z ∧ z ≤ b) → a * (H.length : Int) ≤ H.sum ∧ H.sum ≤ b * (H.length : Int)
  | [], a, b, _ => by simp
  | z :: H, a, b, h => by
    have h1 := h z (by simp)
    have h2 := sum_bd (H := H) (a := a) (b := b) fun y hy => h y (by simp [hy])
    simp only [List.sum_cons, List.length_cons, Int.natCast_add, Int.natCast_one, Int.mul_add, Int.mul_one]
    omega

def Tile (R : Reg) (L : List Int) : Prop := Lay R L ∧ Full R L
theorem tile_flV {R : Reg} (hR : R.ok) {L : List Int} (h : Tile R L) (k : Int) : Tile R (flV R L k) := ⟨lay_flV hR h.1 k, (full_flV hR h.1 k).2 h.2⟩

/-- The flips down. -/
def dnL (R : Reg) (L : List Int) : List Int := flL R L fun k => rsZ R L (k : Int) == -4
def dnStep (R : Reg) (L : List Int) : List Int := match dnL R L with
  | [] => L
  | k :: _ => flV R L k
def dnIt (R : Reg) (L : List Int) : Nat → List Int
  | 0 => L
  | n + 1 => dnStep R (dnIt R L n)
theorem dn_head {R : Reg} {L : List Int} {k : Int} {l : List Int} (h : dnL R L = k :: l) : ∃ j : Nat, k = (j : Int) ∧ j < R.cn ∧ flB R L (j : Int) = true ∧ rsV R L j = -4 ∧ dnStep R L = flV R L (j : Int) := by
  have hm : k ∈ dnL R L := by rw [h]; simp
  unfold dnL flL flTo at hm
  obtain ⟨j, hj, rfl⟩ := List.mem_map.1 hm
  rw [List.mem_filter, List.mem_range, Bool.and_eq_true] at hj
  obtain ⟨h1, h2, h3⟩ := hj
  refine ⟨j, rfl, h1, h2, ?_, by unfold dnStep; rw [h]⟩
  have : rsZ R L (j : Int) = -4 := by simpa using h3
  unfold rsZ at this
  rwa [if_pos (by omega), Int.toNat_natCast] at this
theorem tile_dnStep {R : Reg} (hR : R.ok) {L : List Int} (h : Tile R L) : Tile R (dnStep R L) := by
  unfold dnStep
  split
  · exact h
  · exact tile_flV hR h _
theorem tile_dnIt {R : Reg} (hR : R.ok) {L : List Int} (h : Tile R L) : ∀ n, Tile R (dnIt R L n)
  | 0 => h
  | n + 1 => tile_dnStep hR (tile_dnIt hR h n)

noncomputable def hsum (R : Reg) (L : List Int) : Int := (htsOf R.W R.T R.C L).sum
theorem hsum_bd {R : Reg} (hR : R.ok) (hS : SimpleP R) {L : List Int} (h : Tile R L) : -2499 ≤ hsum R L ∧ hsum R L ≤ 4851 := by
  have hH := htsOf_yes hR hS h.1 h.2
  have hb := sum_bd (H := htsOf R.W R.T R.C L) (a := -51) (b := 99) (fun z hz => htsOf_bd z hz)
  have hl := hH.len
  have hcn := cn_bd hR
  unfold hsum
  rw [hl] at hb
  omega
theorem hsum_flV {R : Reg} (hR : R.ok) (hS : SimpleP R) {L : List Int} (h : Tile R L) {k : Nat} (hk : flB R L (k : Int) = true) : hsum R (flV R L (k : Int)) = hsum R L + rsV R L k := by
  have hH := htsOf_yes hR hS h.1 h.2
  have ht := tile_flV hR h (k : Int)
  have e := hts_one hR hS.1 (htsOf_yes hR hS ht.1 ht.2) (hts_flV hR h.1 hH hk)
  obtain ⟨m, hm, hmc, _⟩ := flB_nat hk
  obtain rfl : m = k := by omega
  unfold hsum
  rw [e, sum_set (by rw [hH.len]; exact hmc)]
  omega
theorem dn_down {R : Reg} (hR : R.ok) (hS : SimpleP R) {L : List Int} (h : Tile R L) : ∀ n, (∀ j, j < n → dnL R (dnIt R L j) ≠ []) → hsum R (dnIt R L n) = hsum R L - 4 * (n : Int)
  | 0, _ => by simp [dnIt]
  | n + 1, hn => by
    have ih := dn_down hR hS h n fun j hj => hn j (by omega)
    have hne := hn n (by omega)
    cases hd : dnL R (dnIt R L n) with
    | nil => exact absurd hd hne
    | cons k l =>
      obtain ⟨j, _, _, h1, h2, h3⟩ := dn_head hd
      have := hsum_flV hR hS (tile_dnIt hR h n) h1
      show hsum R (dnStep R (dnIt R L n)) = _
      rw [h3, this, ih, h2]
      omega
/-- After how many flips there is no way down. -/
theorem dn_end {R : Reg} (hR : R.ok) (hS : SimpleP R) {L : List Int} (h : Tile R L) : ∃ N, N ≤ 1838 ∧ dnL R (dnIt R L N) = [] ∧ ∀ j, j < N → dnL R (dnIt R L j) ≠ [] := by
  have hex : ∃ n, dnL R (dnIt R L n) = [] := Classical.byContradiction fun hno => by
    have h1 := dn_down hR hS h 1839 fun j _ hj => hno ⟨j, hj⟩
    have h2 := hsum_bd hR hS h
    have h3 := hsum_bd hR hS (tile_dnIt hR h 1839)
    omega
  obtain ⟨N, hN, hl⟩ := least hex
  refine ⟨N, ?_, hN, fun j hj hd => by have := hl j hd; omega⟩
  have h1 := dn_down hR hS h N fun j hj hd => by have := hl j hd; omega
  have h2 := hsum_bd hR hS h
  have h3 := hsum_bd hR hS (tile_dnIt hR h N)
  omega
open Classical in
noncomputable def dnN (R : Reg) (L : List Int) : Nat := if h : ∃ N, N ≤ 1838 ∧ dnL R (dnIt R L N) = [] ∧ ∀ j, j < N → dnL R (dnIt R L j) ≠ [] then Classical.choose h else 0
theorem dnN_spec {R : Reg} (hR : R.ok) (hS : SimpleP R) {L : List Int} (h : Tile R L) : dnN R L ≤ 1838 ∧ dnL R (dnIt R L (dnN R L)) = [] ∧ ∀ j, j < dnN R L → dnL R (dnIt R L j) ≠ [] := by
  have hex := dn_end hR hS h
  unfold dnN
  rw [dif_pos hex]
  exact Classical.choose_spec hex
noncomputable def daV (W T : Int) (bs : List Bool) (L : List Int) : List Int := if tiledB W T bs L = true then dnIt ⟨W.toNat, T.toNat, bs⟩ L (dnN ⟨W.toNat, T.toNat, bs⟩ L) else []
noncomputable def daN (W T : Int) (bs : List Bool) (L : List Int) : Int := if tiledB W T bs L = true then (dnN ⟨W.toNat, T.toNat, bs⟩ L : Nat) else 0
theorem da_yes {R : Reg} {L : List Int} (h : tiledB R.W R.T R.C L = true) : daV R.W R.T R.C L = dnIt R L (dnN R L) ∧ daN R.W R.T R.C L = (dnN R L : Nat) := by
  constructor
  · unfold daV; rw [if_pos h]; rfl
  · unfold daN; rw [if_pos h]; rfl
theorem da_no {W T : Int} {bs : List Bool} {L : List Int} (h : tiledB W T bs L = false) : daV W T bs L = [] ∧ daN W T bs L = 0 := by
  constructor
  · unfold daV; rw [h]; rfl
  · unfold daN; rw [h]; rfl

end Go.Proofs.Ythepfpiphlfgnaa

/-
  YthepfpiphlfgnaaQ6: the way of flips from a tiling to another one. Plain Lean.
-/
namespace Go.Proofs.Ythepfpiphlfgnaa

/-- Does the flip round a corner bring its height nearer? -/
noncomputable def wyP (R : Reg) (N M : List Int) (k : Nat) : Bool :=
  (decide (0 < rsZ R M (k : Int)) && decide ((htsOf R.W R.T R.C M).getD k 0 < (htsOf R.W R.T R.C N).getD k 0)) || (decide (rsZ R M (k : Int) < 0) && decide ((htsOf R.W R.T R.C N).getD k 0 < (htsOf R.W R.T R.C M).getD k 0))
noncomputable def wyL (R : Reg) (N M : List Int) : List Int := flL R M (wyP R N M)
noncomputable def wyStep (R : Reg) (N M : List Int) : List Int := match wyL R N M with
  | [] => M
  | k :: _ => flV R M k
noncomputable def wyIt (R : Reg) (N M : List Int) : Nat → List Int
  | 0 => M
  | n + 1 => wyStep R N (wyIt R N M n)
noncomputable def wyHd (R : Reg) (N M : List Int) : Int := (wyL R N M).headD 0
noncomputable def wyOut (R : Reg) (N M : List Int) (n : Nat) : List Int := (List.range n).map fun j => wyHd R N (wyIt R N M j)
theorem wyOut_succ (R : Reg) (N M : List Int) (n : Nat) : wyOut R N M (n + 1) = wyOut R N M n ++ [wyHd R N (wyIt R N M n)] := by
  unfold wyOut
  rw [List.range_succ, List.map_append]; rfl
theorem wyOut_len (R : Reg) (N M : List Int) (n : Nat) : (wyOut R N M n).length = n := by unfold wyOut; simp

/-- How far two tilings are apart, not divided. -/
noncomputable def dsum (R : Reg) (N M : List Int) : Int := (List.zipWith dif (htsOf R.W R.T R.C M) (htsOf R.W R.T R.C N)).sum
theorem wy_head {R : Reg} {N M : List Int} {k : Int} {l : List Int} (h : wyL R N M = k :: l) : ∃ j : Nat, k = (j : Int) ∧ j < R.cn ∧ flB R M (j : Int) = true ∧ wyP R N M j = true ∧ wyStep R N M = flV R M (j : Int) ∧ wyHd R N M = (j : Int) := by
  have hm : k ∈ wyL R N M := by rw [h]; simp
  unfold wyL flL flTo at hm
  obtain ⟨j, hj, rfl⟩ := List.mem_map.1 hm
  rw [List.mem_filter, List.mem_range, Bool.and_eq_true] at hj
  exact ⟨j, rfl, hj.1, hj.2.1, hj.2.2, by unfold wyStep; rw [h], by unfold wyHd; rw [h]; rfl⟩
theorem tile_wyStep {R : Reg} (hR : R.ok) {N M : List Int} (h : Tile R M) : Tile R (wyStep R N M) := by
  unfold wyStep
  split
  · exact h
  · exact tile_flV hR h _
theorem tile_wyIt {R : Reg} (hR : R.ok) {N M : List Int} (h : Tile R M) : ∀ n, Tile R (wyIt R N M n)
  | 0 => h
  | n + 1 => tile_wyStep hR (tile_wyIt hR h n)

theorem hts_of_tile {R : Reg} (hR : R.ok) (hS : SimpleP R) {M : List Int} (h : Tile R M) : Hts R M (htsOf R.W R.T R.C M) := htsOf_yes hR hS h.1 h.2
theorem hp_of_tile {R : Reg} (hR : R.ok) (hS : SimpleP R) {M : List Int} (h : Tile R M) : HP R (htsOf R.W R.T R.C M) := hp_of_hts h.1 (hts_of_tile hR hS h)
theorem tile_ext {R : Reg} (hR : R.ok) (hS : SimpleP R) {M N : List Int} (h : Tile R M) (g : Tile R N) (he : htsOf R.W R.T R.C M = htsOf R.W R.T R.C N) : M = N :=
  til_one hR h.1 h.2 g.1 g.2 (hts_of_tile hR hS h) (by rw [he]; exact hts_of_tile hR hS g)
theorem getD_mod {R : Reg} (hR : R.ok) (hS : SimpleP R) {M N : List Int} (h : Tile R M) (g : Tile R N) {k : Nat} (hk : k < R.cn) : ((htsOf R.W R.T R.C M).getD k 0 - (htsOf R.W R.T R.C N).getD k 0) % 4 = 0 := by
  have := hp_mod hR hS.1 (hp_of_tile hR hS h) (hp_of_tile hR hS g) (ci_in hk).1 (ci_in hk).2
  unfold Reg.ht at this
  rwa [ci_of] at this

/-- The sign of a flip. -/
theorem rs_down {R : Reg} {L : List Int} {a b : Nat} (ha : a + 1 < R.W) (hb : b + 1 < R.T) (h : DownAt R L a b) : flB R L (R.ci (a + 1) (b + 1) : Nat) = true ∧ rsV R L (R.ci (a + 1) (b + 1)) = -4 := by
  have hs : sg ((R.ci (a + 1) (b + 1) % (R.W + 1) : Nat) : Int) ((R.ci (a + 1) (b + 1) / (R.W + 1) : Nat) : Int) = sg a b := by
    rw [ci_mod _ (by omega), ci_div _ (by omega), show ((b + 1 : Nat) : Int) = (b : Int) + 1 by omega, show ((a + 1 : Nat) : Int) = (a : Int) + 1 by omega, sg_ab]
  unfold flB rsV
  rw [hs]
  rcases h with ⟨h, e⟩ | ⟨h, e⟩
  · have h1 := (fl1_at ha hb).2 h
    rw [h1, if_pos rfl, e]
    exact ⟨rfl, by omega⟩
  · have h2 := (fl2_at ha hb).2 h
    have h1 : fl1 R L (R.ci (a + 1) (b + 1) : Nat) = false := by
      cases h1 : fl1 R L (R.ci (a + 1) (b + 1) : Nat) with
      | false => rfl
      | true => rw [fl12 h1] at h2; cases h2
    rw [h1, h2, if_neg (by decide), if_pos rfl, e]
    exact ⟨rfl, by omega⟩
theorem rs_up {R : Reg} {L : List Int} {a b : Nat} (ha : a + 1 < R.W) (hb : b + 1 < R.T) (h : UpAt R L a b) : flB R L (R.ci (a + 1) (b + 1) : Nat) = true ∧ rsV R L (R.ci (a + 1) (b + 1)) = 4 := by
  have hs : sg ((R.ci (a + 1) (b + 1) % (R.W + 1) : Nat) : Int) ((R.ci (a + 1) (b + 1) / (R.W + 1) : Nat) : Int) = sg a b := by
    rw [ci_mod _ (by omega), ci_div _ (by omega), show ((b + 1 : Nat) : Int) = (b : Int) + 1 by omega, show ((a + 1 : Nat) : Int) = (a : Int) + 1 by omega, sg_ab]
  unfold flB rsV
  rw [hs]
  rcases h with ⟨h, e⟩ | ⟨h, e⟩
  · have h1 := (fl1_at ha hb).2 h
    rw [h1, if_pos rfl, e]
    exact ⟨rfl, by omega⟩
  · have h2 := (fl2_at ha hb).2 h
    have h1 : fl1 R L (R.ci (a + 1) (b + 1) : Nat) = false := by
      cases h1 : fl1 R L (R.ci (a + 1) (b + 1) : Nat) with
      | false => rfl
      | true => rw [fl12 h1] at h2; cases h2
    rw [h1, h2, if_neg (by decide), if_pos rfl, e]
    exact ⟨rfl, by omega⟩
theorem rsZ_nat (R : Reg) (L : List Int) (k : Nat) : rsZ R L (k : Int) = rsV R L k := by unfold rsZ; rw [if_pos (by omega), Int.toNat_natCast]
theorem mem_flL {R : Reg} {L : List Int} {p : Nat → Bool} {k : Nat} (hk : k < R.cn) (h : flB R L (k : Int) = true) (hp : p k = true) : ((k : Nat) : Int) ∈ flL R L p := by
  unfold flL flTo
  exact List.mem_map.2 ⟨k, List.mem_filter.2 ⟨List.mem_range.2 hk, by rw [h, hp]; rfl⟩, rfl⟩

/-- As long as a tiling is not the other one there is a flip that brings it nearer. -/
theorem wy_some {R : Reg} (hR : R.ok) (hS : SimpleP R) {M N : List Int} (h : Tile R M) (g : Tile R N) (hne : M ≠ N) : wyL R N M ≠ [] := by
  have hH := hts_of_tile hR hS h
  have hG := hp_of_tile hR hS g
  obtain ⟨x, y, hx, hy, hd⟩ : ∃ x y : Nat, x ≤ R.W ∧ y ≤ R.T ∧ R.ht (htsOf R.W R.T R.C M) x y ≠ R.ht (htsOf R.W R.T R.C N) x y := Classical.byContradiction fun hno =>
    hne (tile_ext hR hS h g (ht_ext hH.len hG.len fun x y hx hy => Classical.byContradiction fun hc => hno ⟨x, y, hx, hy, hc⟩))
  intro he
  rcases Int.lt_or_gt_of_ne hd with hlt | hgt
  · obtain ⟨a, b, ha, hb, _, hup, hle⟩ := asc hR hS h.1 h.2 hH hG hx hy hlt
    obtain ⟨h1, h2⟩ := rs_up ha hb hup
    have := mem_flL (p := wyP R N M) (ci_lt (R := R) (x := a + 1) (y := b + 1) (by omega) (by omega)) h1 (by
      unfold wyP
      unfold Reg.ht at hle
      rw [rsZ_nat, h2, decide_eq_true (show (htsOf R.W R.T R.C M).getD (R.ci (a + 1) (b + 1)) 0 < (htsOf R.W R.T R.C N).getD (R.ci (a + 1) (b + 1)) 0 by omega)]
      rfl)
    unfold wyL at he
    rw [he] at this
    cases this
  · obtain ⟨a, b, ha, hb, _, hup, hle⟩ := desc hR hS h.1 h.2 hH hG hx hy hgt
    obtain ⟨h1, h2⟩ := rs_down ha hb hup
    have := mem_flL (p := wyP R N M) (ci_lt (R := R) (x := a + 1) (y := b + 1) (by omega) (by omega)) h1 (by
      unfold wyP
      unfold Reg.ht at hle
      rw [rsZ_nat, h2, decide_eq_true (show (htsOf R.W R.T R.C N).getD (R.ci (a + 1) (b + 1)) 0 < (htsOf R.W R.T R.C M).getD (R.ci (a + 1) (b + 1)) 0 by omega), Bool.and_true, Bool.or_eq_true]
      exact .inr (by decide))
    unfold wyL at he
    rw [he] at this
    cases this

theorem zip_set {f : Int → Int → Int} : ∀ {H G : List Int} {k : Nat} {v : Int}, (List.zipWith f (H.set k v) G) = (List.zipWith f H G).set k (f v (G.getD k 0))
  | [], G, k, v => by simp
  | z :: H, [], k, v => by cases k <;> simp
  | z :: H, y :: G, 0, v => by simp
  | z :: H, y :: G, k + 1, v => by
    simp only [List.set_cons_succ, List.zipWith_cons_cons, List.getD_cons_succ]
    rw [zip_set]
theorem hts_step {R : Reg} (hR : R.ok) (hS : SimpleP R) {M : List Int} (h : Tile R M) {k : Nat} (hk : flB R M (k : Int) = true) : htsOf R.W R.T R.C (flV R M (k : Int)) = (htsOf R.W R.T R.C M).set k ((htsOf R.W R.T R.C M).getD k 0 + rsV R M k) := by
  have ht := tile_flV hR h (k : Int)
  exact hts_one hR hS.1 (hts_of_tile hR hS ht) (hts_flV hR h.1 (hts_of_tile hR hS h) hk)
theorem dsum_step {R : Reg} (hR : R.ok) (hS : SimpleP R) {M N : List Int} (h : Tile R M) (g : Tile R N) {k : Nat} (hc : k < R.cn) (hk : flB R M (k : Int) = true) (hp : wyP R N M k = true) : dsum R N (flV R M (k : Int)) = dsum R N M - 4 := by
  have hH := (hts_of_tile hR hS h).len
  have hG := (hts_of_tile hR hS g).len
  have hm := getD_mod hR hS h g hc
  have hor := rsV_or hk
  unfold dsum
  rw [hts_step hR hS h hk, zip_set, sum_set (by rw [zip_len (by rw [hH, hG]), hH]; exact hc)]
  have hz : (List.zipWith dif (htsOf R.W R.T R.C M) (htsOf R.W R.T R.C N)).getD k 0 = dif ((htsOf R.W R.T R.C M).getD k 0) ((htsOf R.W R.T R.C N).getD k 0) := by
    rw [List.getD_eq_getElem?_getD, zip_at (by rw [hH]; exact hc) (by rw [hG]; exact hc)]; rfl
  rw [hz]
  unfold wyP at hp
  rw [rsZ_nat] at hp
  simp only [Bool.or_eq_true, Bool.and_eq_true, decide_eq_true_eq] at hp
  unfold dif
  omega
theorem dsum_bd {R : Reg} (hR : R.ok) (hS : SimpleP R) {M N : List Int} (h : Tile R M) (g : Tile R N) : 0 ≤ dsum R N M ∧ dsum R N M ≤ 7350 := by
  have hb := sum_bd (H := List.zipWith dif (htsOf R.W R.T R.C M) (htsOf R.W R.T R.C N)) (a := 0) (b := 150) (zip_dif_bd htsOf_bd htsOf_bd)
  have hl : (List.zipWith dif (htsOf R.W R.T R.C M) (htsOf R.W R.T R.C N)).length = R.cn := by rw [zip_len (by rw [(hts_of_tile hR hS h).len, (hts_of_tile hR hS g).len]), (hts_of_tile hR hS h).len]
  have hcn := cn_bd hR
  unfold dsum
  rw [hl] at hb
  omega
theorem wy_down {R : Reg} (hR : R.ok) (hS : SimpleP R) {M N : List Int} (h : Tile R M) (g : Tile R N) : ∀ n, (∀ j, j < n → wyIt R N M j ≠ N) → dsum R N (wyIt R N M n) = dsum R N M - 4 * (n : Int)
  | 0, _ => by simp [wyIt]
  | n + 1, hn => by
    have ih := wy_down hR hS h g n fun j hj => hn j (by omega)
    have hne := wy_some hR hS (tile_wyIt hR h n) g (hn n (by omega))
    cases hd : wyL R N (wyIt R N M n) with
    | nil => exact absurd hd hne
    | cons k l =>
      obtain ⟨j, _, h0, h1, h2, h3, _⟩ := wy_head hd
      have := dsum_step hR hS (tile_wyIt hR h n) g h0 h1 h2
      show dsum R N (wyStep R N (wyIt R N M n)) = _
      rw [h3, this, ih]
      omega
theorem wy_end {R : Reg} (hR : R.ok) (hS : SimpleP R) {M N : List Int} (h : Tile R M) (g : Tile R N) : ∃ n, n ≤ 1838 ∧ wyIt R N M n = N ∧ ∀ j, j < n → wyIt R N M j ≠ N := by
  have hex : ∃ n, wyIt R N M n = N := Classical.byContradiction fun hno => by
    have h1 := wy_down hR hS h g 1838 fun j _ hj => hno ⟨j, hj⟩
    have h2 := dsum_bd hR hS h g
    have h3 := dsum_bd hR hS (tile_wyIt (N := N) hR h 1838) g
    omega
  obtain ⟨n, hn, hl⟩ := least hex
  refine ⟨n, ?_, hn, fun j hj hd => by have := hl j hd; omega⟩
  have h1 := wy_down hR hS h g n fun j hj hd => by have := hl j hd; omega
  have h2 := dsum_bd hR hS h g
  have h3 := dsum_bd hR hS (tile_wyIt (N := N) hR h n) g
  omega
open Classical in
noncomputable def wyN (R : Reg) (N M : List Int) : Nat := if h : ∃ n, n ≤ 1838 ∧ wyIt R N M n = N ∧ ∀ j, j < n → wyIt R N M j ≠ N then Classical.choose h else 0
theorem wyN_spec {R : Reg} (hR : R.ok) (hS : SimpleP R) {M N : List Int} (h : Tile R M) (g : Tile R N) : wyN R N M ≤ 1838 ∧ wyIt R N M (wyN R N M) = N ∧ ∀ j, j < wyN R N M → wyIt R N M j ≠ N := by
  have hex := wy_end hR hS h g
  unfold wyN
  rw [dif_pos hex]
  exact Classical.choose_spec hex
/-- Apart is 0 for equal tilings alone. -/
theorem dsum_pos {R : Reg} (hR : R.ok) (hS : SimpleP R) {M N : List Int} (h : Tile R M) (g : Tile R N) : (0 < dsum R N M / 4) ↔ M ≠ N := by
  constructor
  · rintro hd rfl
    have : dsum R M M = 0 := by
      unfold dsum
      have hz : ∀ z ∈ List.zipWith dif (htsOf R.W R.T R.C M) (htsOf R.W R.T R.C M), 0 ≤ z ∧ z ≤ 0 := by
        intro z hz
        obtain ⟨i, hi, rfl⟩ := List.mem_iff_getElem.1 hz
        rw [List.getElem_zipWith]
        unfold dif
        omega
      have := sum_bd hz
      omega
    rw [this] at hd
    exact absurd hd (by decide)
  · intro hne
    have hs := wy_some hR hS h g hne
    cases hd : wyL R N M with
    | nil => exact absurd hd hs
    | cons k l =>
      obtain ⟨j, _, h0, h1, h2, _, _⟩ := wy_head hd
      have e := dsum_step hR hS h g h0 h1 h2
      have hb := dsum_bd hR hS (tile_flV hR h (j : Int)) g
      omega

/-- Where the first flip of the way stands among all flips. -/
theorem filter_first {p : Int → Bool} : ∀ {F : List Int} {k : Int} {l : List Int}, F.filter p = k :: l → ∃ i, i < F.length ∧ F.getD i 0 = k ∧ p k = true ∧ ∀ j, j < i → p (F.getD j 0) = false
  | [], _, _, h => by simp at h
  | z :: F, k, l, h => by
    cases hz : p z with
    | true =>
      rw [List.filter_cons_of_pos hz] at h
      obtain ⟨rfl, _⟩ := List.cons.inj h
      exact ⟨0, by simp, rfl, hz, fun j hj => by omega⟩
    | false =>
      rw [List.filter_cons_of_neg (by rw [hz]; decide)] at h
      obtain ⟨i, hi, he, hp, hj⟩ := filter_first h
      refine ⟨i + 1, by simp only [List.length_cons]; omega, by simpa using he, hp, fun j hj' => ?_⟩
      cases j with
      | zero => simpa using hz
      | succ j => simpa using hj j (by omega)
theorem wyL_filter (R : Reg) (N M : List Int) : wyL R N M = (flL R M fun _ => true).filter (fun z => wyP R N M z.toNat) := by
  unfold wyL flL flTo
  rw [List.filter_map, List.filter_filter]
  congr 1
  apply List.filter_congr
  intro j _
  simp [Function.comp, Bool.and_comm]
theorem wy_first {R : Reg} {N M : List Int} {k : Int} {l : List Int} (h : wyL R N M = k :: l) : ∃ i, i < (flL R M fun _ => true).length ∧ (flL R M fun _ => true).getD i 0 = k ∧ ∀ j, j < i → wyP R N M ((flL R M fun _ => true).getD j 0).toNat = false := by
  rw [wyL_filter] at h
  obtain ⟨i, hi, he, _, hj⟩ := filter_first h
  exact ⟨i, hi, he, hj⟩
theorem fl_at {R : Reg} {M : List Int} {i : Nat} (h : i < (flL R M fun _ => true).length) : ∃ q : Nat, (flL R M fun _ => true).getD i 0 = (q : Int) ∧ q < R.cn ∧ flB R M (q : Int) = true := by
  have hm : (flL R M fun _ => true).getD i 0 ∈ flL R M fun _ => true := by
    rw [List.getD_eq_getElem?_getD, List.getElem?_eq_getElem h]
    exact List.getElem_mem h
  generalize (flL R M fun _ => true).getD i 0 = z at *
  unfold flL flTo at hm
  obtain ⟨j, hj, rfl⟩ := List.mem_map.1 hm
  rw [List.mem_filter, List.mem_range, Bool.and_eq_true] at hj
  exact ⟨j, rfl, hj.1, hj.2.1⟩
theorem wyP_up {R : Reg} {N M : List Int} {k : Nat} (h : rsV R M k = 4) : wyP R N M k = decide ((htsOf R.W R.T R.C M).getD k 0 < (htsOf R.W R.T R.C N).getD k 0) := by
  unfold wyP
  rw [rsZ_nat, h]
  simp
theorem wyP_down {R : Reg} {N M : List Int} {k : Nat} (h : rsV R M k = -4) : wyP R N M k = decide ((htsOf R.W R.T R.C N).getD k 0 < (htsOf R.W R.T R.C M).getD k 0) := by
  unfold wyP
  rw [rsZ_nat, h]
  simp

end Go.Proofs.Ythepfpiphlfgnaa

/-
  YthepfpiphlfgnaaQ7: all tilings of a region, in order. Plain Lean.
-/
namespace Go.Proofs.Ythepfpiphlfgnaa

/-- Does a cell of the region want a domino? May a domino be laid from a cell in a direction? The list behind it. -/
def opB (R : Reg) (L : List Int) (c : Nat) : Bool := R.C.getD c false && decide (L.getD c 0 = 0)
def frB (R : Reg) (L : List Int) (c : Nat) (way : Int) : Bool := decide (0 ≤ R.step c way) && (opB R L c && opB R L (R.step c way).toNat)
def lyV (R : Reg) (L : List Int) (c : Nat) (way : Int) : List Int := (L.set c way).set (R.step c way).toNat (back way)
/-- The first cell that wants a domino. -/
def fiV (R : Reg) (L : List Int) : Option Nat := (List.range R.C.length).find? (opB R L)
theorem fiV_some {R : Reg} {L : List Int} {c : Nat} : fiV R L = some c ↔ c < R.C.length ∧ opB R L c = true ∧ ∀ j, j < c → opB R L j = false := by
  unfold fiV
  rw [List.find?_range_eq_some]
  simp only [List.mem_range, Bool.not_eq_true']
  constructor
  · rintro ⟨h1, h2, h3⟩; exact ⟨h2, h1, h3⟩
  · rintro ⟨h1, h2, h3⟩; exact ⟨h2, h1, h3⟩
theorem fiV_none {R : Reg} {L : List Int} : fiV R L = none ↔ ∀ j, j < R.C.length → opB R L j = false := by
  unfold fiV
  rw [List.find?_range_eq_none]
  simp only [Bool.not_eq_true']
/-- All tilings with the dominoes of a list. -/
def allT (R : Reg) : Nat → List Int → List (List Int)
  | 0, L => [L]
  | f + 1, L => match fiV R L with
    | none => [L]
    | some c => (if frB R L c 1 = true then allT R f (lyV R L c 1) else []) ++ (if frB R L c 2 = true then allT R f (lyV R L c 2) else [])
theorem allT_len (R : Reg) : ∀ (f : Nat) (L : List Int), (allT R f L).length ≤ 2 ^ f
  | 0, L => by simp [allT]
  | f + 1, L => by
    have h1 := allT_len R f
    have h0 : 0 < 2 ^ f := Nat.two_pow_pos f
    rw [Nat.pow_succ]
    unfold allT
    split
    · simp; omega
    · rename_i c _
      rw [List.length_append]
      have := h1 (lyV R L c 1)
      have := h1 (lyV R L c 2)
      split <;> split <;> simp <;> omega
theorem allT_none {R : Reg} {f : Nat} {L : List Int} (h : fiV R L = none) : allT R f L = [L] := by
  cases f with
  | zero => rfl
  | succ f => unfold allT; rw [h]
theorem allT_some {R : Reg} {f c : Nat} {L : List Int} (h : fiV R L = some c) : allT R (f + 1) L = (if frB R L c 1 = true then allT R f (lyV R L c 1) else []) ++ (if frB R L c 2 = true then allT R f (lyV R L c 2) else []) := by
  conv => lhs; unfold allT
  rw [h]

/-- How many cells want a domino. -/
def opN (R : Reg) (L : List Int) : Nat := (List.range R.C.length).countP (opB R L)
theorem countP_same {p q : Nat → Bool} : ∀ {n : Nat}, (∀ j, j < n → p j = q j) → (List.range n).countP p = (List.range n).countP q := fun {n} h => by
  apply List.countP_congr
  intro j hj
  rw [h j (List.mem_range.1 hj)]
theorem countP_off {p q : Nat → Bool} {c : Nat} (h1 : p c = true) (h2 : q c = false) (h3 : ∀ j, j ≠ c → q j = p j) : ∀ {n : Nat}, c < n → (List.range n).countP q + 1 = (List.range n).countP p
  | 0, h => by omega
  | n + 1, h => by
    rw [List.range_succ, List.countP_append, List.countP_append]
    by_cases hc : c = n
    · subst hc
      rw [countP_same (p := q) (q := p) fun j hj => h3 j (by omega)]
      simp [h1, h2]
    · have := countP_off h1 h2 h3 (n := n) (by omega)
      have e := h3 n (Ne.symm hc)
      simp only [List.countP_cons, List.countP_nil, e]
      omega
theorem opB_cell {R : Reg} {L : List Int} {c : Nat} : opB R L c = true ↔ R.cell c ∧ L.getD c 0 = 0 := by
  unfold opB
  rw [Bool.and_eq_true, getD_cell, decide_eq_true_eq]
/-- A domino that may be laid: its other cell. -/
theorem frB_iff {R : Reg} {L : List Int} {c : Nat} {way : Int} : frB R L c way = true ↔ ∃ e : Nat, R.step c way = (e : Int) ∧ R.cell c ∧ L.getD c 0 = 0 ∧ R.cell e ∧ L.getD e 0 = 0 := by
  unfold frB
  rw [Bool.and_eq_true, Bool.and_eq_true, decide_eq_true_eq, opB_cell, opB_cell]
  constructor
  · rintro ⟨h1, ⟨h2, h3⟩, h4, h5⟩
    obtain ⟨e, he⟩ := Int.eq_ofNat_of_zero_le h1
    rw [he] at h4 h5
    exact ⟨e, he, h2, h3, h4, h5⟩
  · rintro ⟨e, he, h2, h3, h4, h5⟩
    rw [he]
    exact ⟨by omega, ⟨h2, h3⟩, h4, h5⟩
theorem back_pos (way : Int) : 1 ≤ back way ∧ back way ≤ 4 := by unfold back; omega
theorem step_ne {R : Reg} (hR : R.ok) {c e : Nat} {way : Int} (hc : c < R.C.length) (h : R.step c way = (e : Int)) : c ≠ e := by
  rintro rfl
  have hP := place_of hR hc
  have hW := hR.1
  by_cases hw : 1 ≤ way ∧ way ≤ 4
  · rcases (show way = 1 ∨ way = 2 ∨ way = 3 ∨ way = 4 by omega) with rfl | rfl | rfl | rfl
    · rw [step_1 hP] at h; split at h <;> omega
    · rw [step_2 hP] at h; split at h <;> omega
    · rw [step_3 hP] at h; split at h <;> omega
    · rw [step_4 hP] at h; split at h <;> omega
  · rw [step_no hw] at h; omega
theorem lyV_at {R : Reg} {L : List Int} {c e : Nat} {way : Int} (he : R.step c way = (e : Int)) (hl : L.length = R.C.length) (hc : c < R.C.length) (hel : e < R.C.length) (hne : c ≠ e) (k : Nat) :
    (lyV R L c way).getD k 0 = if k = e then back way else if k = c then way else L.getD k 0 := by
  unfold lyV
  rw [he, Int.toNat_natCast, List.getD_eq_getElem?_getD, List.getD_eq_getElem?_getD, List.getElem?_set, List.getElem?_set, List.length_set, hl]
  by_cases h1 : k = e
  · subst h1; simp [hel]
  · rw [if_neg (Ne.symm h1), if_neg h1]
    by_cases h2 : k = c
    · subst h2; simp [hc]
    · rw [if_neg (Ne.symm h2), if_neg h2]
theorem lyV_len (R : Reg) (L : List Int) (c : Nat) (way : Int) : (lyV R L c way).length = L.length := by simp [lyV]
theorem opN_lay {R : Reg} (hR : R.ok) {L : List Int} (hl : L.length = R.C.length) {c : Nat} {way : Int} (hw : way ≠ 0) (h : frB R L c way = true) : opN R (lyV R L c way) + 2 = opN R L := by
  obtain ⟨e, he, h1, h2, h3, h4⟩ := frB_iff.1 h
  have hc := cell_lt h1
  have hel := cell_lt h3
  have hne := step_ne hR hc he
  have hat := lyV_at he hl hc hel hne
  have hb := (back_pos way).1
  have hmid : ∃ p : Nat → Bool, (∀ j, p j = (opB R L j && decide (j ≠ c))) := ⟨_, fun _ => rfl⟩
  obtain ⟨p, hp⟩ := hmid
  have e1 : (List.range R.C.length).countP p + 1 = opN R L := countP_off (p := opB R L) (q := p) (c := c) (opB_cell.2 ⟨h1, h2⟩) (by rw [hp]; simp) (fun j hj => by rw [hp]; simp [hj]) hc
  have e2 : opN R (lyV R L c way) + 1 = (List.range R.C.length).countP p := countP_off (p := p) (q := opB R (lyV R L c way)) (c := e) (by rw [hp, opB_cell.2 ⟨h3, h4⟩]; simp [Ne.symm hne]) (by
    unfold opB
    rw [hat, if_pos rfl, decide_eq_false (by omega), Bool.and_false]) (fun j hj => by
    rw [hp]
    unfold opB
    rw [hat, if_neg hj]
    by_cases hjc : j = c
    · rw [if_pos hjc, decide_eq_false hw]
      simp [hjc]
    · rw [if_neg hjc]
      simp [hjc]) hel
  omega
theorem lay_lyV {R : Reg} (hR : R.ok) {L : List Int} (hL : Lay R L) {c : Nat} {way : Int} (hw2 : back (back way) = way) (h : frB R L c way = true) : Lay R (lyV R L c way) := by
  obtain ⟨e, he, h1, h2, h3, h4⟩ := frB_iff.1 h
  have hc := cell_lt h1
  have hel := cell_lt h3
  have hne := step_ne hR hc he
  have hat := lyV_at he hL.len hc hel hne
  refine lay_of hR (by rw [lyV_len]; exact hL.len) fun k hk => ?_
  unfold LayAt
  by_cases hke : k = e
  · subst hke
    right
    refine ⟨c, ?_, h3, h1, ?_⟩
    · rw [hat, if_pos rfl]; exact step_back hR.1 (xy_lt hR hc).2 he
    · rw [hat, hat, if_pos rfl, if_neg hne, if_pos rfl, hw2]
  · by_cases hkc : k = c
    · subst hkc
      right
      refine ⟨e, ?_, h1, h3, ?_⟩
      · rw [hat, if_neg hke, if_pos rfl]; exact he
      · rw [hat, hat, if_pos rfl, if_neg hke, if_pos rfl]
    · rw [hat, if_neg hke, if_neg hkc]
      rcases layAt_of hR hL hk with h0 | ⟨d, hd1, hd2, hd3, hd4⟩
      · exact .inl h0
      · right
        have hb := (back_pos (L.getD k 0)).1
        refine ⟨d, hd1, hd2, hd3, ?_⟩
        rw [hat, if_neg (by rintro rfl; omega), if_neg (by rintro rfl; omega)]
        exact hd4
theorem opN_zero {R : Reg} {L : List Int} (h : opN R L = 0) : fiV R L = none := by
  rw [fiV_none]
  intro j hj
  unfold opN at h
  rw [List.countP_eq_zero] at h
  simpa using h j (List.mem_range.2 hj)
theorem full_none {R : Reg} (hR : R.ok) {L : List Int} (h : fiV R L = none) : Full R L := by
  refine (fullB_iff hR).1 (fullB_yes fun k hk => ?_)
  have := fiV_none.1 h k hk
  unfold opB at this
  unfold fullAtB
  cases hc : R.C.getD k false with
  | false => rfl
  | true =>
    rw [hc, Bool.true_and, decide_eq_false_iff_not] at this
    rw [decide_eq_true this]
    rfl
theorem allT_tile {R : Reg} (hR : R.ok) : ∀ (f : Nat) (L : List Int), Lay R L → opN R L ≤ 2 * f → ∀ M ∈ allT R f L, Tile R M
  | 0, L, hL, hn, M, hM => by
    simp [allT] at hM
    subst hM
    exact ⟨hL, full_none hR (opN_zero (by omega))⟩
  | f + 1, L, hL, hn, M, hM => by
    cases hf : fiV R L with
    | none =>
      rw [allT_none hf] at hM
      simp at hM
      subst hM
      exact ⟨hL, full_none hR hf⟩
    | some c =>
      rw [allT_some hf, List.mem_append] at hM
      have key : ∀ way : Int, way = 1 ∨ way = 2 → M ∈ (if frB R L c way = true then allT R f (lyV R L c way) else []) → Tile R M := fun way hw hm => by
        by_cases hb : frB R L c way = true
        · rw [if_pos hb] at hm
          have := opN_lay hR hL.len (by omega) hb
          exact allT_tile hR f _ (lay_lyV hR hL (by rcases hw with rfl | rfl <;> rfl) hb) (by omega) M hm
        · rw [if_neg hb] at hm; cases hm
      exact hM.elim (key 1 (.inl rfl)) (key 2 (.inr rfl))
/-- Every tiling with these dominoes is among them. -/
theorem allT_has {R : Reg} (hR : R.ok) {M : List Int} (hM : Tile R M) : ∀ (f : Nat) (L : List Int), Lay R L → opN R L ≤ 2 * f → (∀ j, L.getD j 0 ≠ 0 → M.getD j 0 = L.getD j 0) → M ∈ allT R f L := by
  have hnone : ∀ {L : List Int}, Lay R L → fiV R L = none → (∀ j, L.getD j 0 ≠ 0 → M.getD j 0 = L.getD j 0) → M = L := by
    intro L hL hf hag
    apply List.ext_getElem (by rw [hM.1.len, hL.len])
    intro k h1 h2
    have e1 : M[k] = M.getD k 0 := by rw [List.getD_eq_getElem?_getD, List.getElem?_eq_getElem h1]; rfl
    have e2 : L[k] = L.getD k 0 := by rw [List.getD_eq_getElem?_getD, List.getElem?_eq_getElem h2]; rfl
    rw [e1, e2]
    by_cases h0 : L.getD k 0 = 0
    · rw [h0]
      have hk : k < R.C.length := by rw [← hL.len]; exact h2
      have hno := fiV_none.1 hf k hk
      rcases layAt_of hR hM.1 hk with hz | ⟨e, _, hc, _⟩
      · exact hz
      · rw [opB_cell.2 ⟨hc, h0⟩] at hno; cases hno
    · exact hag k h0
  intro f
  induction f with
  | zero =>
    intro L hL hn hag
    rw [hnone hL (opN_zero (by omega)) hag]
    simp [allT]
  | succ f ih =>
    intro L hL hn hag
    cases hf : fiV R L with
    | none => rw [allT_none hf, hnone hL hf hag]; simp
    | some c =>
      rw [allT_some hf, List.mem_append]
      obtain ⟨hc, ho, hfirst⟩ := fiV_some.1 hf
      obtain ⟨hcc, hc0⟩ := opB_cell.1 ho
      have hne0 : M.getD c 0 ≠ 0 := by
        have := (fullB_iff hR).2 hM.2
        unfold fullB at this
        rw [List.all_eq_true] at this
        have := this c (List.mem_range.2 hc)
        unfold fullAtB at this
        rw [getD_cell.2 hcc] at this
        simpa using this
      rcases layAt_of hR hM.1 hc with hz | ⟨e, he, _, hec, hbk⟩
      · exact absurd hz hne0
      · have hel := cell_lt hec
        have hne := step_ne hR hc he
        -- the other cell wants a domino, too
        have he0 : L.getD e 0 = 0 := Classical.byContradiction fun hx => by
          have h1 := hag e hx
          rcases layAt_of hR hL hel with hz | ⟨g, hg, _, _, hgb⟩
          · exact hx hz
          · have hP : R.step e (back (M.getD c 0)) = (c : Int) := step_back hR.1 (xy_lt hR hc).2 he
            rw [← h1, hbk, hP] at hg
            have hgc : g = c := by omega
            subst hgc
            have := (back_pos (L.getD e 0)).1
            omega
        have hway : M.getD c 0 = 1 ∨ M.getD c 0 = 2 := by
          have hP := place_of hR hc
          have hge : ¬ e < c := fun hlt => by
            have := hfirst e hlt
            rw [opB_cell.2 ⟨hec, he0⟩] at this
            cases this
          have hW := hR.1
          by_cases hw : 1 ≤ M.getD c 0 ∧ M.getD c 0 ≤ 4
          · rcases (show M.getD c 0 = 1 ∨ M.getD c 0 = 2 ∨ M.getD c 0 = 3 ∨ M.getD c 0 = 4 by omega) with h | h | h | h
            · exact .inl h
            · exact .inr h
            · rw [h, step_3 hP] at he; split at he <;> omega
            · rw [h, step_4 hP] at he; split at he <;> omega
          · rw [step_no hw] at he; omega
        have key : ∀ way : Int, way = 1 ∨ way = 2 → M.getD c 0 = way → M ∈ (if frB R L c way = true then allT R f (lyV R L c way) else []) := fun way hw hm => by
          rw [hm] at he hbk
          have hb : frB R L c way = true := frB_iff.2 ⟨e, he, hcc, hc0, hec, he0⟩
          rw [if_pos hb]
          have := opN_lay hR hL.len (by omega) hb
          refine ih _ (lay_lyV hR hL (by rcases hw with rfl | rfl <;> rfl) hb) (by omega) fun j hj => ?_
          have hat := lyV_at he hL.len hc hel hne j
          rw [hat] at hj ⊢
          by_cases h1 : j = e
          · rw [if_pos h1, h1]; exact hbk
          · rw [if_neg h1] at hj ⊢
            by_cases h2 : j = c
            · rw [if_pos h2, h2]; exact hm
            · rw [if_neg h2] at hj ⊢; exact hag j hj
        exact hway.elim (fun h => .inl (key 1 (.inl rfl) h)) (fun h => .inr (key 2 (.inr rfl) h))

/-- The list without dominoes. -/
def bare (R : Reg) : List Int := List.replicate R.C.length 0
theorem bare_at (R : Reg) (k : Nat) : (bare R).getD k 0 = 0 := by
  unfold bare
  rw [List.getD_eq_getElem?_getD, List.getElem?_replicate]
  split <;> rfl
theorem lay_bare {R : Reg} (hR : R.ok) : Lay R (bare R) := lay_of hR (by simp [bare]) fun k _ => .inl (bare_at R k)
theorem opN_bare {R : Reg} (hR : R.ok) : opN R (bare R) ≤ 2 * 18 := by
  have := (len_bd hR).2
  unfold opN
  have h := List.countP_le_length (p := opB R (bare R)) (l := List.range R.C.length)
  rw [List.length_range] at h
  omega
/-- All tilings. -/
def tilT (R : Reg) : List (List Int) := allT R 18 (bare R)
theorem tilT_len (R : Reg) : (tilT R).length ≤ 262144 := allT_len R 18 _
theorem tilT_iff {R : Reg} (hR : R.ok) {M : List Int} : M ∈ tilT R ↔ Tile R M :=
  ⟨allT_tile hR 18 _ (lay_bare hR) (opN_bare hR) M, fun h => allT_has hR h 18 _ (lay_bare hR) (opN_bare hR) fun j hj => absurd (bare_at R j) hj⟩

end Go.Proofs.Ythepfpiphlfgnaa
