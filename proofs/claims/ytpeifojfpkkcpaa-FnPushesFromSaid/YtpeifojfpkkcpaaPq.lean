/-
  YtpeifojfpkkcpaaPq: the texts Pu, Pr, Ps, Pt, Pf, Pg in one file.
-/
import Derived.Test.YtpeifojfpkkcpaaFm
import Derived.Test.YtpeifojfpkkcpaaFd3
import Derived.Test.YtpeifojfpkkcpaaPv
import Derived.Test.YtpeifojfpkkcpaaFk

/-
  YtpeifojfpkkcpaaPu: pushes: what they do, and the program's push, run, PushRun, PushOne.
-/
namespace Go.Proofs.Ytpeifojfpkkcpaa
open Go.RowKit

/-- Does a push flip? -/
def puB (R : Reg) (L : List Int) (p : Int × Bool) : Bool := (decide (0 < rsZ R L p.1) && p.2) || (decide (rsZ R L p.1 < 0) && !p.2)
/-- The list behind a push, and behind several. -/
def puV (R : Reg) (L : List Int) (p : Int × Bool) : List Int := if puB R L p = true then flV R L p.1 else L
def ruV (R : Reg) (L : List Int) (ps : List (Int × Bool)) : List Int := ps.foldl (puV R) L
theorem puV_yes {R : Reg} {L : List Int} {p : Int × Bool} (h : puB R L p = true) : puV R L p = flV R L p.1 := by unfold puV; rw [if_pos h]
theorem puV_no {R : Reg} {L : List Int} {p : Int × Bool} (h : puB R L p = false) : puV R L p = L := by unfold puV; rw [if_neg (by rw [h]; decide)]
theorem tile_puV {R : Reg} (hR : R.ok) {L : List Int} (h : Tile R L) (p : Int × Bool) : Tile R (puV R L p) := by
  unfold puV
  split
  · exact tile_flV hR h _
  · exact h

/-- A fresh row, or the row that came in. -/
def PushRet (w : World) (D : Option Addr) (n d : Nat) (b : Bool) (L : List Int) (e : Ending) (w' : World) : Prop :=
  (b = true ∧ ∃ A c c', e = .returned (.slice A L.length c') ∧ w'.ownsRow w.heap.size 3 1 (.slice A L.length c) L.length (L.map (Value.int .i64)) ∧ Below w.heap.size w w') ∨ (b = false ∧ e = .returned (.slice D n d) ∧ Below w.heap.size w w')

set_option maxHeartbeats 1000000 in
theorem push_any (R : Reg) (hR : R.ok) (hS : SimpleP R) (A : Option Addr) (c B : Nat) (L : List Int) (D : Option Addr) (d : Nat) (p : Int × Bool) (hk9 : p.1 ≤ 9223372036854775807) (hP : Plain D) (hL : Tile R L) (w : World)
    (hr : Reads w B 1 A R.C.length (R.C.map Value.bool)) (hd : Reads w B 1 D R.C.length (L.map (Value.int .i64))) (hB : B ≤ w.heap.size) :
    Calls Try.prog 159 #[.agg #[.int .i64 R.W, .int .i64 R.T, .slice A R.C.length c], .slice D R.C.length d, .agg #[.int .i64 p.1, .bool p.2]] w (PushRet w D R.C.length d (puB R L p) (flV R L p.1)) := by
  obtain ⟨k, up⟩ := p
  have HRI := fun w' (h : Below w.heap.size w w') => hide (rise_ok R hR hS A c B L D d k hk9 hP hL.1 hL.2 w' (hr.below (h.mono hB)) (hd.below (h.mono hB)) (Nat.le_trans hB h.size))
  have HFL := fun w' (h : Below w.heap.size w w') => hide (flip_any R hR A R.C.length c B L D d k hk9 hP hL.1.len w' (hd.below (h.mono hB)) (Nat.le_trans hB h.size))
  have HPB : Hid (puB R L (k, up) = ((decide (0 < rsZ R L k) && up) || (decide (rsZ R L k < 0) && !up))) := Lib.hid rfl
  generalize puB R L (k, up) = b at *
  generalize rsZ R L k = z at *
  go_enter Try.func159, Try.ntmps159
  have hb0 : Below w.heap.size w ((w.alloc (boxR R.W R.T A R.C.length c)).alloc (.cells #[.int .i64 k, .bool up] 40)) := ((Below.refl _ _).alloc (Nat.le_refl _) _).alloc (by simp) _
  have k0 : Blk ((w.alloc (boxR R.W R.T A R.C.length c)).alloc (.cells #[.int .i64 k, .bool up] 40)) w.heap.size 25 #[.int .i64 R.W, .int .i64 R.T, .slice A R.C.length c] := (Blk.new _ _ _).alloc _
  have k1 : Blk ((w.alloc (boxR R.W R.T A R.C.length c)).alloc (.cells #[.int .i64 k, .bool up] 40)) (w.heap.size + 1) 40 #[.int .i64 k, .bool up] := by
    have := Blk.new (w.alloc (boxR R.W R.T A R.C.length c)) 40 #[.int .i64 k, .bool up]
    simpa using this
  go_wp2_with fail
  refine (unhide (HRI _ hb0)).mono ?_
  rintro e w1 ⟨rfl, hb1⟩
  have hB1 := hb0.trans (hb1.mono hb0.size)
  have h0 := k0.below hb1 k0.lt
  have h1 := k1.below hb1 k1.lt
  obtain ⟨b0, b1, b2⟩ := blk3 h0
  have p0 := h1.cell 0
  have p1 := h1.cell 1
  simp at p0 p1
  clear k0 k1 h0 h1 hb1 hb0 HRI
  have HF := HFL w1 hB1
  clear HFL
  have hno : b = false → PushRet w D R.C.length d b (flV R L k) (.returned (.slice D R.C.length d)) w1 := fun h => .inr ⟨h, rfl, hB1⟩
  have hyes : ∀ (A1 : Option Addr) (c1 c1' : Nat) (w2 : World), b = true → w2.ownsRow w1.heap.size 3 1 (.slice A1 (flV R L k).length c1) (flV R L k).length ((flV R L k).map (Value.int .i64)) → Below w1.heap.size w1 w2 → PushRet w D R.C.length d b (flV R L k) (.returned (.slice A1 (flV R L k).length c1')) w2 :=
    fun A1 c1 c1' w2 h ho hb => .inl ⟨h, A1, c1, c1', rfl, own_mono ho hB1.size, hB1.trans (hb.mono hB1.size)⟩
  generalize flV R L k = X at *
  cases up <;> cases z1 : decide (0 < z) <;> cases z2 : decide (z < 0)
  all_goals
    first
      | (have hb' : b = false := by rw [HPB.out, z1, z2]; rfl
         go_wp2_with fail
         go_ret
         exact hno hb')
      | (have hb' : b = true := by rw [HPB.out, z1, z2]; rfl
         go_wp2_with fail
         refine (unhide HF).mono ?_
         rintro e w2 ⟨A1, c1, c1', rfl, ho, hb2⟩
         go_wp2_with fail
         go_ret
         exact hyes _ _ _ _ hb' ho hb2)


end Go.Proofs.Ytpeifojfpkkcpaa

/-
  YtpeifojfpkkcpaaPr: PushRun and PushOne of the program, PushOne of the reference.
-/
namespace Go.Proofs.Ytpeifojfpkkcpaa
open Go.RowKit

noncomputable def prV (W T : Int) (bs : List Bool) (L : List Int) (ps : List (Int × Bool)) : List Int := if tiledB W T bs L = true ∧ pushesB W T bs ps = true then ruV ⟨W.toNat, T.toNat, bs⟩ L ps else []
theorem prV_yes {R : Reg} {L : List Int} {ps : List (Int × Bool)} (h : tiledB R.W R.T R.C L = true) (g : pushesB R.W R.T R.C ps = true) : prV R.W R.T R.C L ps = ruV R L ps := by unfold prV; rw [if_pos ⟨h, g⟩]; rfl
theorem prV_no {W T : Int} {bs : List Bool} {L : List Int} {ps : List (Int × Bool)} (h : ¬ (tiledB W T bs L = true ∧ pushesB W T bs ps = true)) : prV W T bs L ps = [] := by unfold prV; exact if_neg h
theorem pushes_bd {W T : Int} {bs : List Bool} {ps : List (Int × Bool)} (h : pushesB W T bs ps = true) : ∀ p ∈ ps, 0 ≤ p.1 ∧ p.1 ≤ 48 := by
  intro p hp
  unfold pushesB at h
  rw [Bool.and_eq_true, Bool.and_eq_true, List.all_eq_true] at h
  have h1 := h.2.2 p hp
  have h2 := (cornersB_bd W T bs).2
  unfold inB at h1
  rw [decide_eq_true_eq] at h1
  omega
theorem pushes_simple {W T : Int} {bs : List Bool} {ps : List (Int × Bool)} (h : pushesB W T bs ps = true) : simpleB W T bs = true := by
  unfold pushesB at h
  rw [Bool.and_eq_true] at h
  exact h.1
theorem pc_one (k : Int) (up : Bool) : pc [(k, up)] = [.int .i64 k, .bool up] := rfl
/-- A push, built. -/
theorem reads_push (w : World) (k : Int) (up : Bool) : Reads (w.alloc (.cells #[.int .i64 k, .bool up] 40)) (w.heap.size + 1) 2 (some ⟨w.heap.size, 0, none⟩) 1 (pc [(k, up)]) := by
  have h := Blk.new w 40 #[.int .i64 k, .bool up]
  refine ⟨rfl, fun _ => ⟨_, rfl, Nat.lt_succ_self _, fun j u hu => ?_⟩⟩
  rw [pc_one] at hu
  match j, hu with
  | 0, hu =>
    injection hu with hu
    subst hu
    exact h.cell 0
  | 1, hu =>
    injection hu with hu
    subst hu
    rw [show (⟨w.heap.size, 0, none⟩ : Addr).add 1 = ⟨w.heap.size, 1, none⟩ by simp [Addr.add]]
    exact h.cell 1
  | j + 2, hu => simp at hu



end Go.Proofs.Ytpeifojfpkkcpaa

/-
  YtpeifojfpkkcpaaPs: PushOne of the reference.
-/
namespace Go.Proofs.Ytpeifojfpkkcpaa
open Go.RowKit

theorem prV_one {R : Reg} {L : List Int} {p : Int × Bool} (h : tiledB R.W R.T R.C L = true) (g : pushesB R.W R.T R.C [p] = true) : prV R.W R.T R.C L [p] = puV R L p := prV_yes h g
/-- A push flips exactly if .. -/
theorem puB_up {R : Reg} {L : List Int} {k : Nat} (h : flB R L (k : Int) = true) (up : Bool) : puB R L ((k : Int), up) = ((up && (rsV R L k == 4)) || (!up && (rsV R L k == -4))) := by
  unfold puB
  rw [show rsZ R L (k : Int) = rsV R L k from rsZ_nat R L k]
  rcases rsV_or h with e | e <;> rw [e] <;> cases up <;> rfl
theorem puB_fl {R : Reg} {L : List Int} {k : Int} (h : flB R L k = false) (up : Bool) : puB R L (k, up) = false := by
  unfold puB
  rw [rsZ_no h]
  cases up <;> rfl

set_option maxHeartbeats 2000000 in
set_option maxRecDepth 20000 in
theorem pushOneS_any (W T : Int) (A : Option Addr) (n c B : Nat) (bs : List Bool) (L : List Int) (D : Option Addr) (m d : Nat) (k : Int) (up : Bool) (w : World) (hbl : bs.length = n) (hL : L.length = m)
    (hr : Reads w B 1 A n (bs.map Value.bool)) (hd : Reads w B 1 D m (L.map (Value.int .i64))) (hB : B ≤ w.heap.size) (hn : n ≤ 9223372036854775807) (hm : m ≤ 9223372036854775807) :
    Calls Try.prog 101 #[.agg #[.int .i64 W, .int .i64 T, .slice A n c], .slice D m d, .agg #[.int .i64 k, .bool up]] w (RetInts w (prV W T bs L [(k, up)])) := by
  have hb0 : Below w.heap.size w ((w.alloc (boxR W T A n c)).alloc (.cells #[.int .i64 k, .bool up] 40)) := ((Below.refl _ _).alloc (Nat.le_refl _) _).alloc (by simp) _
  have k0 : Blk ((w.alloc (boxR W T A n c)).alloc (.cells #[.int .i64 k, .bool up] 40)) w.heap.size 25 #[.int .i64 W, .int .i64 T, .slice A n c] := (Blk.new _ _ _).alloc _
  have k1 : Blk ((w.alloc (boxR W T A n c)).alloc (.cells #[.int .i64 k, .bool up] 40)) (w.heap.size + 1) 40 #[.int .i64 k, .bool up] := by
    have := Blk.new (w.alloc (boxR W T A n c)) 40 #[.int .i64 k, .bool up]
    simpa using this
  have hTO := fun w' (h : Below w.heap.size w w') => hide (tilingOkS_any W T A n c B bs L D m d w' hbl hL (hr.below (h.mono hB)) (hd.below (h.mono hB)) (Nat.le_trans hB h.size) hn hm)
  have hPV := fun w' (h : Below w.heap.size w w') => hide (PushesValidS_any W T A n c B bs (some ⟨w'.heap.size, 0, none⟩) 1 1 (w'.heap.size + 1) [(k, up)] _ hbl (hr.below ((h.alloc h.size (.cells #[.int .i64 k, .bool up] 40)).mono hB)) (Nat.le_trans hB (h.alloc h.size (.cells #[.int .i64 k, .bool up] 40)).size) hn rfl (reads_push w' k up) (by simp) (by omega))
  cases ht : tilingB W T bs L with
  | false =>
    have hno : prV W T bs L [(k, up)] = [] := prV_no (by unfold tiledB; rw [ht]; simp)
    rw [hno]
    simp only [ht] at hTO
    clear hPV hno
    go_enter Try.func101, Try.ntmps101
    go_upto_region 1 with fail
    generalize (w.alloc (boxR W T A n c)).alloc (.cells #[.int .i64 k, .bool up] 40) = w1 at *
    obtain ⟨b0, b1, b2⟩ := blk3 k0
    clear k0 k1
    go_wp2_with fail
    refine (unhide (hTO _ hb0)).mono ?_
    rintro e w2 ⟨rfl, hb2⟩
    have hB2 := hb0.trans (hb2.mono hb0.size)
    go_wp2_with fail
    go_ret
    have ho := World.ownsRow_made (base := w.heap.size) (e := 3) (size := 1) w2 #[] 0 hB2.size (by simp [maxLen]) (by simp)
    exact ⟨_, 0, 0, rfl, by simpa using ho, hB2.alloc hB2.size _⟩
  | true =>
    cases hv : pushesB W T bs [(k, up)] with
    | false =>
      have hno : prV W T bs L [(k, up)] = [] := prV_no (by rw [hv]; simp)
      rw [hno]
      simp only [ht] at hTO
      simp only [hv] at hPV
      clear hno
      go_enter Try.func101, Try.ntmps101
      go_upto_region 1 with fail
      generalize (w.alloc (boxR W T A n c)).alloc (.cells #[.int .i64 k, .bool up] 40) = w1 at *
      obtain ⟨b0, b1, b2⟩ := blk3 k0
      go_wp2_with fail
      refine (unhide (hTO _ hb0)).mono ?_
      rintro e w2 ⟨rfl, hb2⟩
      have hB2 := hb0.trans (hb2.mono hb0.size)
      clear b0 b1 b2
      obtain ⟨b0, b1, b2⟩ := blk3 (k0.below hb2 k0.lt)
      have k2 := k1.below hb2 k1.lt
      have p0 := k2.cell 0
      have p1 := k2.cell 1
      simp at p0 p1
      clear k0 k1 k2 hb2
      go_wp2_with fail
      refine (unhide (hPV _ hB2)).mono ?_
      rintro e w3 ⟨rfl, hb3⟩
      have hB3 := (hB2.alloc hB2.size (.cells #[.int .i64 k, .bool up] 40))
      have hB4 := hB3.trans (hb3.mono hB3.size)
      go_wp2_with fail
      go_ret
      have ho := World.ownsRow_made (base := w.heap.size) (e := 3) (size := 1) w3 #[] 0 hB4.size (by simp [maxLen]) (by simp)
      exact ⟨_, 0, 0, rfl, by simpa using ho, hB4.alloc hB4.size _⟩
    | true =>
      have ht' : tiledB W T bs L = true := by unfold tiledB; rw [ht, pushes_simple hv]; rfl
      obtain ⟨R, hR, rfl, rfl, rfl, hS, hLy, hF⟩ := tiled_cases ht'
      have hbd := pushes_bd hv _ (List.mem_singleton.2 rfl)
      dsimp only at hbd
      obtain ⟨q, rfl⟩ := Int.eq_ofNat_of_zero_le hbd.1
      rw [prV_one ht' hv]
      subst hbl
      obtain rfl : m = R.C.length := by rw [← hL]; exact hLy.len
      have hl36 := (len_bd hR).2
      have hl1 := (len_bd hR).1
      have hFM := fun w' (h : Below w.heap.size w w') => hide (flipMayS_ok R hR A c B L D d (q : Int) hLy w' (hr.below (h.mono hB)) (hd.below (h.mono hB)) (Nat.le_trans hB h.size))
      have hFO := fun w' (h : Below w.heap.size w w') => hide (flipOneS_ok R hR A c B L D d (q : Int) hLy w' (hr.below (h.mono hB)) (hd.below (h.mono hB)) (Nat.le_trans hB h.size))
      have hRI := fun w' (h : Below w.heap.size w w') => hide (flipRiseS_any R.W R.T A R.C.length c B R.C L D R.C.length d (q : Int) w' rfl hL (hr.below (h.mono hB)) (hd.below (h.mono hB)) (Nat.le_trans hB h.size) hn hm)
      simp only [frV_yes ht', rsZ_nat] at hRI
      simp only [ht] at hTO
      simp only [hv] at hPV
      have hVl : (flV R L (q : Int)).length = R.C.length := by rw [flV_len]; exact hL
      have hup := fun h => puB_up (R := R) (L := L) (k := q) h up
      have hpf := fun h => puB_fl (R := R) (L := L) (k := (q : Int)) h up
      have hyes := puV_yes (R := R) (L := L) (p := ((q : Int), up))
      have hnoo := puV_no (R := R) (L := L) (p := ((q : Int), up))
      have hor := fun h => rsV_or (R := R) (L := L) (k := q) h
      generalize puB R L ((q : Int), up) = b at *
      generalize puV R L ((q : Int), up) = X at *
      generalize rsV R L q = rv at *
      generalize flB R L (q : Int) = fb at *
      clear ht hv ht' hS hLy hF hbd
      go_enter Try.func101, Try.ntmps101
      go_upto_region 1 with fail
      generalize (w.alloc (boxR R.W R.T A R.C.length c)).alloc (.cells #[.int .i64 q, .bool up] 40) = w1 at *
      obtain ⟨b0, b1, b2⟩ := blk3 k0
      go_wp2_with fail
      refine (unhide (hTO _ hb0)).mono ?_
      rintro e w2 ⟨rfl, hb2⟩
      have hB2 := hb0.trans (hb2.mono hb0.size)
      clear b0 b1 b2
      have k0' := k0.below hb2 k0.lt
      have k2 := k1.below hb2 k1.lt
      obtain ⟨b0, b1, b2⟩ := blk3 k0'
      have p0 := k2.cell 0
      have p1 := k2.cell 1
      simp at p0 p1
      clear k0 k1 hb2 hTO
      go_wp2_with fail
      refine (unhide (hPV _ hB2)).mono ?_
      rintro e w3 ⟨rfl, hb3⟩
      have hB3' := (hB2.alloc hB2.size (.cells #[.int .i64 q, .bool up] 40))
      have hB3 := hB3'.trans (hb3.mono hB3'.size)
      have k3 := (k0'.alloc (.cells #[.int .i64 q, .bool up] 40)).below hb3 (k0'.alloc _).lt
      have k4 := (k2.alloc (.cells #[.int .i64 q, .bool up] 40)).below hb3 (k2.alloc _).lt
      clear b0 b1 b2 p0 p1 k0' k2 hb3 hPV hB3' hB2
      obtain ⟨b0, b1, b2⟩ := blk3 k3
      have p0 := k4.cell 0
      have p1 := k4.cell 1
      simp at p0 p1
      go_wp2_with fail
      refine (unhide (hFM _ hB3)).mono ?_
      rintro e w4 ⟨rfl, hb4⟩
      have hB4 := hB3.trans (hb4.mono hB3.size)
      have k5 := k3.below hb4 k3.lt
      have k6 := k4.below hb4 k4.lt
      clear b0 b1 b2 p0 p1 k3 k4 hb4 hFM hB3
      obtain ⟨b0, b1, b2⟩ := blk3 k5
      have p0 := k6.cell 0
      have p1 := k6.cell 1
      simp at p0 p1
      cases fb with
      | false =>
        have hX := hnoo (hpf rfl)
        subst hX
        have hONE := ints_one (L := X)
        clear hyes hnoo hpf hor hup hRI hFO
        cases up
        all_goals
          have ho1 : (w4.alloc (.cells #[] 3)).ownsRow w4.heap.size 3 1 (.slice (some ⟨w4.heap.size, 0, none⟩) 0 0) 0 [] := by simpa using World.ownsRow_made (base := w4.heap.size) (e := 3) (size := 1) w4 #[] 0 (by omega) (by simp [maxLen]) (by simp)
          have hBa := hB4.alloc hB4.size (.cells #[] 3)
          have hda := hd.below (hBa.mono hB)
          go_wp2_with (at_builtin; refine wpList_appN rfl _ _ _ rfl w4.heap.size 3 _ 8 Try.underlying26 info_int rfl (by omega) (.slice (some ⟨w4.heap.size, 0, none⟩) 0 0) 0 [] rfl ho1 B D R.C.length d (X.map (Value.int .i64)) rfl hda hONE (by omega) (by simp) ?_; rintro v' w9 ho9 hg9 _; rw [Nat.zero_add, List.nil_append] at ho9; obtain ⟨g9, c9, rfl, _, _, _⟩ := own_shape ho9 hl1)
          go_ret
          exact ⟨some ⟨g9, 0, none⟩, c9, c9, by rw [hL]; rfl, by rw [hL]; exact own_mono ho9 hB4.size, hBa.grown hg9 hBa.size (fun j hj => by have := hB4.size; simp [Value.ownBlock] at hj; omega)⟩
      | true =>
        have hbb := hup rfl
        have hrv := hor rfl
        clear hup hor hpf
        go_wp2_with fail
        refine (unhide (hRI _ hB4)).mono ?_
        rintro e w5 ⟨rfl, hb5⟩
        have hB5 := hB4.trans (hb5.mono hB4.size)
        have k7 := k5.below hb5 k5.lt
        have k8 := k6.below hb5 k6.lt
        clear b0 b1 b2 p0 p1 k5 k6 hb5 hRI hB4
        obtain ⟨b0, b1, b2⟩ := blk3 k7
        have p0 := k8.cell 0
        have p1 := k8.cell 1
        simp at p0 p1
        have hHF := hFO _ hB5
        have hflip : (up = true ∧ rv = 4) ∨ (up = false ∧ rv = -4) ∨ (b = false ∧ ((up = true ∧ rv = -4) ∨ (up = false ∧ rv = 4))) := by
          rcases hrv with rfl | rfl <;> cases up
          · exact .inr (.inr ⟨by rw [hbb]; rfl, .inr ⟨rfl, rfl⟩⟩)
          · exact .inl ⟨rfl, rfl⟩
          · exact .inr (.inl ⟨rfl, rfl⟩)
          · exact .inr (.inr ⟨by rw [hbb]; rfl, .inl ⟨rfl, rfl⟩⟩)
        rcases hflip with ⟨rfl, rfl⟩ | ⟨rfl, rfl⟩ | ⟨hb0', hc⟩
        · have hX := hyes (by rw [hbb]; rfl)
          subst hX
          clear hyes hnoo hbb hrv
          go_wp2_with fail
          refine (unhide hHF).mono ?_
          rintro e w6 ⟨A6, c6, c6', rfl, ho6, hb6⟩
          go_wp2_with fail
          go_ret
          exact ⟨_, _, _, by rw [hVl]; rfl, own_mono ho6 hB5.size, hB5.trans (hb6.mono hB5.size)⟩
        · have hX := hyes (by rw [hbb]; rfl)
          subst hX
          clear hyes hnoo hbb hrv
          go_wp2_with fail
          refine (unhide hHF).mono ?_
          rintro e w6 ⟨A6, c6, c6', rfl, ho6, hb6⟩
          go_wp2_with fail
          go_ret
          exact ⟨_, _, _, by rw [hVl]; rfl, own_mono ho6 hB5.size, hB5.trans (hb6.mono hB5.size)⟩
        · have hX := hnoo hb0'
          subst hX
          have hONE := ints_one (L := X)
          clear hyes hnoo hbb hrv hb0' hHF hFO
          rcases hc with ⟨rfl, rfl⟩ | ⟨rfl, rfl⟩
          all_goals
            have ho1 : (w5.alloc (.cells #[] 3)).ownsRow w5.heap.size 3 1 (.slice (some ⟨w5.heap.size, 0, none⟩) 0 0) 0 [] := by simpa using World.ownsRow_made (base := w5.heap.size) (e := 3) (size := 1) w5 #[] 0 (by omega) (by simp [maxLen]) (by simp)
            have hBa := hB5.alloc hB5.size (.cells #[] 3)
            have hda := hd.below (hBa.mono hB)
            go_wp2_with (at_builtin; refine wpList_appN rfl _ _ _ rfl w5.heap.size 3 _ 8 Try.underlying26 info_int rfl (by omega) (.slice (some ⟨w5.heap.size, 0, none⟩) 0 0) 0 [] rfl ho1 B D R.C.length d (X.map (Value.int .i64)) rfl hda hONE (by omega) (by simp) ?_; rintro v' w9 ho9 hg9 _; rw [Nat.zero_add, List.nil_append] at ho9; obtain ⟨g9, c9, rfl, _, _, _⟩ := own_shape ho9 hl1)
            go_ret
            exact ⟨some ⟨g9, 0, none⟩, c9, c9, by rw [hL]; rfl, by rw [hL]; exact own_mono ho9 hB5.size, hBa.grown hg9 hBa.size (fun j hj => by have := hB5.size; simp [Value.ownBlock] at hj; omega)⟩

end Go.Proofs.Ytpeifojfpkkcpaa

/-
  YtpeifojfpkkcpaaPt: PushRun of the reference.
-/
namespace Go.Proofs.Ytpeifojfpkkcpaa
open Go.RowKit



end Go.Proofs.Ytpeifojfpkkcpaa

/-
  YtpeifojfpkkcpaaPf: PushesFrom of the program.
-/
namespace Go.Proofs.Ytpeifojfpkkcpaa
open Go.RowKit

/-- How many pushes at the first corners lead from a list to another one; at all corners. -/
def pfAt (R : Reg) (a b : List Int) (k : Nat) : Nat := (if puV R a ((k : Int), true) == b then 1 else 0) + (if puV R a ((k : Int), false) == b then 1 else 0)
def pfTo (R : Reg) (a b : List Int) (k : Nat) : Nat := ((List.range k).map (pfAt R a b)).sum
theorem pfTo_succ (R : Reg) (a b : List Int) (k : Nat) : pfTo R a b (k + 1) = pfTo R a b k + pfAt R a b k := by
  unfold pfTo
  rw [List.range_succ, List.map_append, List.sum_append]
  simp
/-- .. at one corner, of the first pushes. -/
def pfPre (R : Reg) (a b : List Int) (k j : Nat) : Nat := (if 0 < j ∧ (puV R a ((k : Int), true) == b) = true then 1 else 0) + (if 1 < j ∧ (puV R a ((k : Int), false) == b) = true then 1 else 0)
theorem pfPre_le (R : Reg) (a b : List Int) (k j : Nat) : pfPre R a b k j ≤ 2 := by unfold pfPre; split <;> split <;> omega
theorem pfAt_le (R : Reg) (a b : List Int) (k : Nat) : pfAt R a b k ≤ 2 := by unfold pfAt; split <;> split <;> omega
theorem pfTo_le (R : Reg) (a b : List Int) : ∀ k, pfTo R a b k ≤ 2 * k
  | 0 => by simp [pfTo]
  | k + 1 => by
    rw [pfTo_succ]
    have := pfTo_le R a b k
    have := pfAt_le R a b k
    omega
noncomputable def pfV (W T : Int) (bs : List Bool) (a b : List Int) : Int := if tiledB W T bs a = true ∧ tiledB W T bs b = true then (pfTo ⟨W.toNat, T.toNat, bs⟩ a b (Reg.cn ⟨W.toNat, T.toNat, bs⟩) : Int) else -1
theorem pfV_yes {R : Reg} {a b : List Int} (h : tiledB R.W R.T R.C a = true) (g : tiledB R.W R.T R.C b = true) : pfV R.W R.T R.C a b = (pfTo R a b R.cn : Int) := by unfold pfV; rw [if_pos ⟨h, g⟩]; rfl
theorem pfV_no {W T : Int} {bs : List Bool} {a b : List Int} (h : ¬ (tiledB W T bs a = true ∧ tiledB W T bs b = true)) : pfV W T bs a b = -1 := by unfold pfV; exact if_neg h

/-- Behind a push of a row that is only read. -/
theorem push_reads {wr w' : World} {R : Reg} {M : List Int} {p : Int × Bool} {ga d : Nat} {e : Ending} (h : PushRet wr (some ⟨ga, 0, none⟩) R.C.length d (puB R M p) (flV R M p.1) e w') (hl1 : 0 < R.C.length) (hM : M.length = R.C.length)
    (hr : Reads wr wr.heap.size 1 (some ⟨ga, 0, none⟩) R.C.length (M.map (Value.int .i64))) :
    ∃ g2 c2, e = .returned (.slice (some ⟨g2, 0, none⟩) R.C.length c2) ∧ Reads w' w'.heap.size 1 (some ⟨g2, 0, none⟩) R.C.length ((puV R M p).map (Value.int .i64)) ∧ Below wr.heap.size wr w' := by
  rcases h with ⟨hb, A, c2, c2', rfl, h1, h2⟩ | ⟨hb, rfl, h2⟩
  · rw [puV_yes hb]
    have hl : (flV R M p.1).length = R.C.length := by rw [flV_len]; exact hM
    rw [hl] at h1 ⊢
    obtain ⟨g2, cg, hsh, _, _, _⟩ := own_shape h1 hl1
    simp only [Value.slice.injEq, true_and] at hsh
    obtain ⟨rfl, rfl⟩ := hsh
    exact ⟨g2, c2', rfl, Reads.of_own h1, h2⟩
  · rw [puV_no hb]
    exact ⟨ga, d, rfl, (hr.below h2).more h2.size, h2⟩

set_option maxHeartbeats 2000000 in
set_option maxRecDepth 20000 in
theorem pushesFrom_any (R : Reg) (hR : R.ok) (hS : SimpleP R) (A : Option Addr) (c B : Nat) (a b : List Int) (ga da gb db : Nat) (ha : Tile R a) (hb : Tile R b) (w : World)
    (hr : Reads w B 1 A R.C.length (R.C.map Value.bool)) (h1 : Reads w B 1 (some ⟨ga, 0, none⟩) R.C.length (a.map (Value.int .i64))) (h2 : Reads w B 1 (some ⟨gb, 0, none⟩) R.C.length (b.map (Value.int .i64))) (hB : B ≤ w.heap.size) :
    Calls Try.prog 99 #[.agg #[.int .i64 R.W, .int .i64 R.T, .slice A R.C.length c], .slice (some ⟨ga, 0, none⟩) R.C.length da, .slice (some ⟨gb, 0, none⟩) R.C.length db] w fun e w' => e = .returned (.int .i64 (pfTo R a b R.cn : Nat)) ∧ Below w.heap.size w w' := by
  have hcn := cn_bd hR
  have hl36 := (len_bd hR).2
  have hl1 := (len_bd hR).1
  have hPU : ∀ (k : Nat) (up : Bool) (w' : World), k < R.cn → Below w.heap.size w w' → Hid (Calls Try.prog 159 #[.agg #[.int .i64 R.W, .int .i64 R.T, .slice A R.C.length c], .slice (some ⟨ga, 0, none⟩) R.C.length da, .agg #[.int .i64 (k : Nat), .bool up]] w' fun e w'' => ∃ g2 c2, e = .returned (.slice (some ⟨g2, 0, none⟩) R.C.length c2) ∧ Reads w'' w''.heap.size 1 (some ⟨g2, 0, none⟩) R.C.length ((puV R a ((k : Int), up)).map (Value.int .i64)) ∧ Below w'.heap.size w' w'') := fun k up w' hk h =>
    hide ((push_any R hR hS A c w'.heap.size a (some ⟨ga, 0, none⟩) da ((k : Int), up) (by dsimp only; omega) (.inr ⟨_, _, rfl⟩) ha w' ((hr.below (h.mono hB)).more (Nat.le_trans hB h.size)) ((h1.below (h.mono hB)).more (Nat.le_trans hB h.size)) (Nat.le_refl _)).mono fun e w'' hret => push_reads hret hl1 ha.1.len ((h1.below (h.mono hB)).more (Nat.le_trans hB h.size)))
  have hEQ : ∀ (k : Nat) (up : Bool) (w' : World) (g e1 : Nat), Below w.heap.size w w' → Reads w' w'.heap.size 1 (some ⟨g, 0, none⟩) R.C.length ((puV R a ((k : Int), up)).map (Value.int .i64)) → Hid (Calls Try.prog 119 #[.slice (some ⟨g, 0, none⟩) R.C.length e1, .slice (some ⟨gb, 0, none⟩) R.C.length db] w' fun e w'' => e = .returned (.bool (puV R a ((k : Int), up) == b)) ∧ Below w'.heap.size w' w'') := fun k up w' g e1 h hg => by
    have hl := (tile_puV hR ha ((k : Int), up)).1.len
    have := equal_any g gb e1 db w'.heap.size B (puV R a ((k : Int), up)) b w' (by rw [hl]; exact hg) (by rw [hb.1.len]; exact h2.below (h.mono hB)) (by rw [hl]; omega) (by rw [hb.1.len]; omega)
    rw [hl, hb.1.len] at this
    exact hide this
  have hCO := fun w' => hide (cornersI_any R hR A R.C.length c w')
  have hcc : R.corners = R.cn := rfl
  have hle := fun k => pfTo_le R a b k
  have hsu := fun k => pfTo_succ R a b k
  have hat : ∀ k, pfAt R a b k = (if puV R a ((k : Int), true) == b then 1 else 0) + (if puV R a ((k : Int), false) == b then 1 else 0) := fun _ => rfl
  have HSU := Lib.hid hsu
  have HAT := Lib.hid hat
  have HLE := Lib.hid hle
  have hb0 : Below w.heap.size w (w.alloc (boxR R.W R.T A R.C.length c)) := (Below.refl _ _).alloc (Nat.le_refl _) _
  have k0 : Blk (w.alloc (boxR R.W R.T A R.C.length c)) w.heap.size 25 #[.int .i64 R.W, .int .i64 R.T, .slice A R.C.length c] := Blk.new _ _ _
  clear hsu hat hle
  go_enter Try.func99, Try.ntmps99
  go_wp2_with fail
  refine (unhide (hCO _)).mono ?_
  rintro e w1 ⟨rfl, hb1⟩
  have hB1 := hb0.trans (hb1.mono hb0.size)
  have k1 := k0.below hb1 k0.lt
  clear k0 hb0 hb1 hCO
  go_wp2_with fail
  go_loopg [7, 13] R.cn (fun r s7 s13 wr => ∃ k : Nat, k + r = R.cn ∧ s13 = .int .i64 (k : Nat) ∧ s7 = .int .i64 (pfTo R a b k : Nat) ∧ Below w.heap.size w wr ∧ Blk wr w.heap.size 25 #[.int .i64 R.W, .int .i64 R.T, .slice A R.C.length c])
  case atStart => exact ⟨0, by omega, rfl, rfl, hB1, k1⟩
  case round =>
    clear k1 hB1
    obtain ⟨k, hk, rfl, rfl, hbw, hbk⟩ := hrel
    have HK := Lib.hid hk
    clear hk
    by_cases hlt : k < R.cn
    · have hq := HLE.out k
      have hq0 := Blk.new wr 4 #[.bool true, .bool false]
      have hbx0 := hbw.alloc hbw.size (.cells #[.bool true, .bool false] 4)
      have hbk0 := hbk.alloc (.cells #[.bool true, .bool false] 4)
      clear hbw hbk
      go_upto_region 6 with fail
      generalize wr.alloc (.cells #[.bool true, .bool false] 4) = w9 at *
      generalize wr.heap.size = qb at *
      go_loopg [7, 18] 2 (fun r s7 s18 wx => ∃ j : Nat, j + r = 2 ∧ s18 = .int .i64 (j : Nat) ∧ s7 = .int .i64 ((pfTo R a b k + pfPre R a b k j : Nat) : Int) ∧ Below w.heap.size w wx ∧ Blk wx w.heap.size 25 #[.int .i64 R.W, .int .i64 R.T, .slice A R.C.length c] ∧ Blk wx qb 4 #[.bool true, .bool false])
      case atStart => exact ⟨0, by omega, rfl, by simp [pfPre], hbx0, hbk0, hq0⟩
      case round =>
        clear hq0 hbx0 hbk0
        obtain ⟨j, hk2, rfl, rfl, hbx, hbk2, hq0⟩ := hrel
        rcases (show j = 0 ∨ j = 1 ∨ j = 2 by omega) with rfl | rfl | rfl
        · have HK2 := Lib.hid hk2
          clear hk2
          have q0 := hq0.cell 0
          simp at q0
          have hPUk := hPU k true _ hlt hbx
          have hEQk := fun w' g e1 h hg => hEQ k true w' g e1 h hg
          obtain ⟨b0, b1, b2⟩ := blk3 hbk2
          go_wp2_with fail
          refine (unhide hPUk).mono ?_
          rintro e w2 ⟨g2, c2, rfl, hg2, hb2⟩
          have hB2 := hbx.trans (hb2.mono hbx.size)
          have hbk3 := hbk2.below hb2 hbk2.lt
          have hq3 := hq0.below hb2 hq0.lt
          have hE2 := hEQk w2 g2 c2 hB2 hg2
          clear b0 b1 b2 q0 hPUk hEQk hb2 hbk2 hq0 hbx hg2
          have hat := HAT.out k
          go_wp2_with fail
          refine (unhide hE2).mono ?_
          rintro e w3 ⟨rfl, hb3⟩
          have hB3 := hB2.trans (hb3.mono hB2.size)
          have hbk4 := hbk3.below hb3 hbk3.lt
          have hq4 := hq3.below hb3 hq3.lt
          clear hE2 hb3 hbk3 hq3 hB2 hat
          cases hbb : (puV R a ((k : Int), true) == b) with
          | true =>
            go_wp2_with fail
            go_roundg 1
            case measure => have := HK2.out; omega
            case rel => exact ⟨1, by have := HK2.out; omega, by go_num, congrArg (Value.int .i64) (by have := pfPre_le R a b k 0; have e1 : pfPre R a b k 1 = pfPre R a b k 0 + 1 := (by simp [pfPre, hbb]); have hw := IntWalk.wrap64_in ((pfTo R a b k : Int) + (pfPre R a b k 0 : Int) + 1) (by omega); omega), hB3, hbk4, hq4⟩
          | false =>
            go_wp2_with fail
            go_roundg 1
            case measure => have := HK2.out; omega
            case rel => exact ⟨1, by have := HK2.out; omega, by go_num, congrArg (Value.int .i64) (by have e1 : pfPre R a b k 1 = pfPre R a b k 0 := (by simp [pfPre, hbb]); omega), hB3, hbk4, hq4⟩
        · have HK2 := Lib.hid hk2
          clear hk2
          have q0 := hq0.cell 1
          simp at q0
          have hPUk := hPU k false _ hlt hbx
          have hEQk := fun w' g e1 h hg => hEQ k false w' g e1 h hg
          obtain ⟨b0, b1, b2⟩ := blk3 hbk2
          go_wp2_with fail
          refine (unhide hPUk).mono ?_
          rintro e w2 ⟨g2, c2, rfl, hg2, hb2⟩
          have hB2 := hbx.trans (hb2.mono hbx.size)
          have hbk3 := hbk2.below hb2 hbk2.lt
          have hq3 := hq0.below hb2 hq0.lt
          have hE2 := hEQk w2 g2 c2 hB2 hg2
          clear b0 b1 b2 q0 hPUk hEQk hb2 hbk2 hq0 hbx hg2
          have hat := HAT.out k
          go_wp2_with fail
          refine (unhide hE2).mono ?_
          rintro e w3 ⟨rfl, hb3⟩
          have hB3 := hB2.trans (hb3.mono hB2.size)
          have hbk4 := hbk3.below hb3 hbk3.lt
          have hq4 := hq3.below hb3 hq3.lt
          clear hE2 hb3 hbk3 hq3 hB2 hat
          cases hbb : (puV R a ((k : Int), false) == b) with
          | true =>
            go_wp2_with fail
            go_roundg 0
            case measure => have := HK2.out; omega
            case rel => exact ⟨2, by have := HK2.out; omega, by go_num, congrArg (Value.int .i64) (by have := pfPre_le R a b k 1; have e1 : pfPre R a b k 2 = pfPre R a b k 1 + 1 := (by simp [pfPre, hbb]); have hw := IntWalk.wrap64_in ((pfTo R a b k : Int) + (pfPre R a b k 1 : Int) + 1) (by omega); omega), hB3, hbk4, hq4⟩
          | false =>
            go_wp2_with fail
            go_roundg 0
            case measure => have := HK2.out; omega
            case rel => exact ⟨2, by have := HK2.out; omega, by go_num, congrArg (Value.int .i64) (by have e1 : pfPre R a b k 2 = pfPre R a b k 1 := (by simp [pfPre, hbb]); omega), hB3, hbk4, hq4⟩
        · have hs := HSU.out k
          have hp2 : pfPre R a b k 2 = pfAt R a b k := by simp [pfPre, pfAt]
          rw [hp2, ← hs]
          clear hk2 hs hp2
          go_wp2_with fail
          go_roundg (R.cn - (k + 1))
          case measure => have := HK.out; omega
          case rel => exact ⟨k + 1, by have := HK.out; omega, by go_num, rfl, hbx, hbk2⟩
    · obtain rfl : k = R.cn := by have := HK.out; omega
      go_wp2_with fail
      go_ret
      exact ⟨rfl, hbw⟩

end Go.Proofs.Ytpeifojfpkkcpaa

/-
  YtpeifojfpkkcpaaPg: PushesFrom of the program and of the reference, any input.
-/
namespace Go.Proofs.Ytpeifojfpkkcpaa
open Go.RowKit

theorem pushesFromI_any (W T : Int) (A : Option Addr) (n c B : Nat) (bs : List Bool) (L1 : List Int) (D1 : Option Addr) (m1 d1 : Nat) (L2 : List Int) (D2 : Option Addr) (m2 d2 : Nat) (w : World) (hbl : bs.length = n) (hL1 : L1.length = m1) (hL2 : L2.length = m2)
    (hF1 : L1 ≠ [] → ∃ ga, D1 = some ⟨ga, 0, none⟩) (hF : L2 ≠ [] → ∃ gb, D2 = some ⟨gb, 0, none⟩)
    (hr : Reads w B 1 A n (bs.map Value.bool)) (h1 : Reads w B 1 D1 m1 (L1.map (Value.int .i64))) (h2 : Reads w B 1 D2 m2 (L2.map (Value.int .i64))) (hB : B ≤ w.heap.size) (hn : n ≤ 9223372036854775807) (hm1 : m1 ≤ 9223372036854775807) (hm2 : m2 ≤ 9223372036854775807) :
    Calls Try.prog 31 #[.agg #[.int .i64 W, .int .i64 T, .slice A n c], .slice D1 m1 d1, .slice D2 m2 d2] w fun e w' => e = .returned (.int .i64 (pfV W T bs L1 L2)) ∧ Below w.heap.size w w' := by
  have hT1 := hide (tiled_any W T A n c B bs L1 D1 m1 d1 (w.alloc (boxR W T A n c)) hbl hL1 (hr.alloc hB _) (h1.alloc hB _) (by simp; omega) hn hm1)
  have hT2 := fun w' (h : Below w.heap.size w w') => hide (tiled_any W T A n c B bs L2 D2 m2 d2 w' hbl hL2 (hr.below (h.mono hB)) (h2.below (h.mono hB)) (Nat.le_trans hB h.size) hn hm2)
  cases ht1 : tiledB W T bs L1 with
  | false =>
    simp only [ht1] at hT1
    rw [pfV_no (by rw [ht1]; simp)]
    clear ht1 hT2
    go_enter Try.func31, Try.ntmps31
    go_wp2_with fail
    refine (unhide hT1).mono ?_
    rintro e w0 ⟨rfl, hb0⟩
    obtain ⟨hB0, hk0, b0, b1, b2⟩ := box_keep hb0
    go_wp2_with fail
    go_ret
    exact ⟨rfl, hB0⟩
  | true =>
    cases ht2 : tiledB W T bs L2 with
    | false =>
      simp only [ht1] at hT1
      simp only [ht2] at hT2
      rw [pfV_no (by rw [ht2]; simp)]
      clear ht1 ht2
      go_enter Try.func31, Try.ntmps31
      go_wp2_with fail
      refine (unhide hT1).mono ?_
      rintro e w0 ⟨rfl, hb0⟩
      obtain ⟨hB0, hk0, b0, b1, b2⟩ := box_keep hb0
      clear hb0 hT1
      go_wp2_with fail
      refine (unhide (hT2 _ hB0)).mono ?_
      rintro e w1 ⟨rfl, hb1⟩
      go_wp2_with fail
      go_ret
      exact ⟨rfl, hB0.trans (hb1.mono hB0.size)⟩
    | true =>
      obtain ⟨R, hR, rfl, rfl, rfl, hS, hLy, hFl⟩ := tiled_cases ht1
      obtain ⟨_, hLy2, hFl2⟩ := (tiled_ok hR).1 ht2
      rw [pfV_yes ht1 ht2]
      simp only [ht1] at hT1
      simp only [ht2] at hT2
      subst hbl
      obtain rfl : m1 = R.C.length := by rw [← hL1]; exact hLy.len
      obtain rfl : m2 = R.C.length := by rw [← hL2]; exact hLy2.len
      have hl1 := (len_bd hR).1
      obtain ⟨gb, rfl⟩ := hF (by rintro rfl; have := hLy2.len; simp at this; omega)
      obtain ⟨ga, rfl⟩ := hF1 (by rintro rfl; have := hLy.len; simp at this; omega)
      have hPF := fun w' (h : Below w.heap.size w w') => hide (pushesFrom_any R hR hS A c B L1 L2 ga d1 gb d2 ⟨hLy, hFl⟩ ⟨hLy2, hFl2⟩ w' (hr.below (h.mono hB)) (h1.below (h.mono hB)) (h2.below (h.mono hB)) (Nat.le_trans hB h.size))
      clear ht1 ht2 hF hF1
      go_enter Try.func31, Try.ntmps31
      go_wp2_with fail
      refine (unhide hT1).mono ?_
      rintro e w0 ⟨rfl, hb0⟩
      obtain ⟨hB0, hk0, b0, b1, b2⟩ := box_keep hb0
      clear hb0 hT1
      go_wp2_with fail
      refine (unhide (hT2 _ hB0)).mono ?_
      rintro e w1 ⟨rfl, hb1⟩
      have hB1 := hB0.trans (hb1.mono hB0.size)
      clear b0 b1 b2
      obtain ⟨hk1, b0, b1, b2⟩ := blk_keep hk0 hb1
      go_wp2_with fail
      refine (unhide (hPF _ hB1)).mono ?_
      rintro e w2 ⟨rfl, hb2⟩
      go_wp2_with fail
      go_ret
      exact ⟨rfl, hB1.trans (hb2.mono hB1.size)⟩

theorem list_ext {a b : List Int} (hl : a.length = b.length) (h : ∀ j, j < a.length → a.getD j 0 = b.getD j 0) : a = b := by
  apply List.ext_getElem hl
  intro j h1 h2
  have := h j h1
  rw [List.getD_eq_getElem?_getD, List.getD_eq_getElem?_getD, List.getElem?_eq_getElem h1, List.getElem?_eq_getElem h2] at this
  exact this

set_option maxHeartbeats 1000000 in
theorem sameS_any (a b : List Int) (D1 D2 : Option Addr) (m1 d1 m2 d2 B : Nat) (w : World) (hL1 : a.length = m1) (hL2 : b.length = m2) (h1 : Reads w B 1 D1 m1 (a.map (Value.int .i64))) (h2 : Reads w B 1 D2 m2 (b.map (Value.int .i64))) (hm1 : m1 ≤ 1048576) (hm2 : m2 ≤ 1048576) :
    Calls Try.prog 100 #[.slice D1 m1 d1, .slice D2 m2 d2] w fun e w' => e = .returned (.bool (a == b)) ∧ Below w.heap.size w w' := by
  have HL1 := Lib.hid hL1
  have HL2 := Lib.hid hL2
  clear hL1 hL2
  obtain ⟨v, hv⟩ : ∃ v, v = (a == b) := ⟨_, rfl⟩
  rw [← hv]
  have HV := Lib.hid hv
  clear hv
  have HLG := fun k (hk : k < m1) => h1.getI hk
  have HLH := fun k (hk : k < m2) => h2.getI hk
  go_enter Try.func100, Try.ntmps100
  go_wp2_with fail
  go_loopg [5] m1 (fun r s5 wr => ∃ k q : Nat, k + r = m1 ∧ k ≤ m2 ∧ s5 = .int .i64 (k : Nat) ∧ (∀ j, j < k → a.getD j 0 = b.getD j 0) ∧ wr = w.drewN q)
  case atStart => exact ⟨0, 0, by omega, by omega, rfl, fun j hj => by omega, rfl⟩
  case round =>
    obtain ⟨k, q, hk, hk2, rfl, hall, rfl⟩ := hrel
    have HK := Lib.hid hk
    have HALL := Lib.hid hall
    clear hk hall
    by_cases hlt : k < m1
    · by_cases hlt2 : k < m2
      · obtain ⟨ad, rfl, _, hc1⟩ := HLG k hlt
        obtain ⟨ad2, rfl, _, hc2⟩ := HLH k hlt2
        have x1 := (cell_kept hc1 (below_drewN (Below.refl w.heap.size w) q))
        have x2 := (cell_kept hc2 (below_drewN (Below.refl w.heap.size w) q))
        have hbq := below_drewN (Below.refl w.heap.size w) q
        cases hne : (a.getD k 0 != b.getD k 0) with
        | true =>
          have hres : (a == b) = false := by
            simp only [beq_eq_false_iff_ne]
            rintro rfl
            simp at hne
          have HRES : Hid (v = false) := Lib.hid (by rw [HV.out, hres])
          clear hres HLG HLH
          generalize a.getD k 0 = x at *
          generalize b.getD k 0 = y at *
          go_upto_region 4 with fail
          go_quiet (fail)
          go_wp2_with fail
          go_ret
          exact ⟨ret_bool (by rw [HRES.out]), below_drewN (below_drewN (Below.refl _ _) _) _⟩
        | false =>
          have hxy : a.getD k 0 = b.getD k 0 := by simpa using hne
          have HXY := Lib.hid hxy
          clear hxy HLG HLH
          generalize hx : a.getD k 0 = x at *
          generalize hy : b.getD k 0 = y at *
          have HX := Lib.hid hx
          have HY := Lib.hid hy
          clear hx hy
          go_upto_region 4 with fail
          go_quiet (fail)
          go_wp2_with fail
          go_roundg (m1 - (k + 1))
          case measure => have := HK.out; omega
          case rel =>
            refine ⟨k + 1, _, by have := HK.out; omega, by omega, by go_num, fun j hj => ?_, rfl⟩
            by_cases hjk : j = k
            · subst hjk; rw [HX.out, HY.out]; exact HXY.out
            · exact HALL.out j (by omega)
      · have hres : (a == b) = false := by
          simp only [beq_eq_false_iff_ne]
          rintro rfl
          have := HL1.out
          have := HL2.out
          omega
        have hne : ((m1 : Int) == (m2 : Int)) = false := by simp; omega
        have HRES : Hid (v = false) := Lib.hid (by rw [HV.out, hres])
        clear HLG HLH hres
        go_wp2_with fail
        go_ret
        exact ⟨ret_bool (by rw [HRES.out]), below_drewN (Below.refl _ _) _⟩
    · have hkm : k = m1 := by have := HK.out; omega
      have hres : (a == b) = ((m1 : Int) == (m2 : Int)) := by
        by_cases hm : m1 = m2
        · have := list_ext (a := a) (b := b) (by rw [HL1.out, HL2.out]; exact hm) (fun j hj => HALL.out j (by have := HL1.out; omega))
          rw [this, hm]; simp
        · have h1 : ((m1 : Int) == (m2 : Int)) = false := by simp; omega
          rw [h1]
          simp only [beq_eq_false_iff_ne]
          rintro rfl
          have := HL1.out
          have := HL2.out
          omega
      have HRES : Hid (v = ((m1 : Int) == (m2 : Int))) := Lib.hid (by rw [HV.out, hres])
      clear hres HLG HLH
      go_wp2_with fail
      go_ret
      exact ⟨ret_bool (by rw [HRES.out]), below_drewN (Below.refl _ _) _⟩

theorem simple_of_tiled {W T : Int} {bs : List Bool} {L : List Int} (h : tiledB W T bs L = true) : simpleB W T bs = true := by
  unfold tiledB at h
  rw [Bool.and_eq_true] at h
  exact h.1
theorem pushes_corner {R : Reg} (hR : R.ok) (hs : simpleB R.W R.T R.C = true) {k : Nat} (hk : k < R.cn) (up : Bool) : pushesB R.W R.T R.C [((k : Int), up)] = true := by
  unfold pushesB
  rw [hs, cornersB_ok hR]
  have : R.corners = R.cn := rfl
  simp [inB]
  omega

set_option maxHeartbeats 2000000 in
set_option maxRecDepth 20000 in
theorem pushesFromS_ok (R : Reg) (hR : R.ok) (hS : SimpleP R) (A : Option Addr) (c B : Nat) (a b : List Int) (D1 : Option Addr) (d1 : Nat) (D2 : Option Addr) (d2 : Nat) (ha : Tile R a) (hb : Tile R b) (w : World)
    (hr : Reads w B 1 A R.C.length (R.C.map Value.bool)) (h1 : Reads w B 1 D1 R.C.length (a.map (Value.int .i64))) (h2 : Reads w B 1 D2 R.C.length (b.map (Value.int .i64))) (hB : B ≤ w.heap.size) :
    Calls Try.prog 32 #[.agg #[.int .i64 R.W, .int .i64 R.T, .slice A R.C.length c], .slice D1 R.C.length d1, .slice D2 R.C.length d2] w fun e w' => e = .returned (.int .i64 (pfTo R a b R.cn : Nat)) ∧ Below w.heap.size w w' := by
  have hcn := cn_bd hR
  have hl36 := (len_bd hR).2
  have hl1 := (len_bd hR).1
  have hSI := fun w' (h : Below w.heap.size w w') => hide (SimpleS_any R.W R.T A R.C.length c B R.C w' (hr.below (h.mono hB)) (Nat.le_trans hB h.size) (by omega))
  have hs := simple_of_tiled ((tiled_ok hR).2 ⟨hS, ha.1, ha.2⟩)
  simp only [hs] at hSI
  have hT1 := fun w' (h : Below w.heap.size w w') => hide (tilingOkS_any R.W R.T A R.C.length c B R.C a D1 R.C.length d1 w' rfl ha.1.len (hr.below (h.mono hB)) (h1.below (h.mono hB)) (Nat.le_trans hB h.size) (by omega) (by omega))
  have hT2 := fun w' (h : Below w.heap.size w w') => hide (tilingOkS_any R.W R.T A R.C.length c B R.C b D2 R.C.length d2 w' rfl hb.1.len (hr.below (h.mono hB)) (h2.below (h.mono hB)) (Nat.le_trans hB h.size) (by omega) (by omega))
  have hta : tilingB R.W R.T R.C a = true := by rw [tilingB_ok hR, (laysB_iff hR).2 ha.1, (fullB_iff hR).2 ha.2]; rfl
  have htb : tilingB R.W R.T R.C b = true := by rw [tilingB_ok hR, (laysB_iff hR).2 hb.1, (fullB_iff hR).2 hb.2]; rfl
  simp only [hta] at hT1
  simp only [htb] at hT2
  have hCM := fun w' (h : Below w.heap.size w w') => hide (cornerManySN_ok R hR A c B w' (hr.below (h.mono hB)) (Nat.le_trans hB h.size))
  have hta' := (tiled_ok hR).2 ⟨hS, ha.1, ha.2⟩
  have hPO : ∀ (k : Nat) (up : Bool) (w' : World), k < R.cn → Below w.heap.size w w' → Hid (Calls Try.prog 101 #[.agg #[.int .i64 R.W, .int .i64 R.T, .slice A R.C.length c], .slice D1 R.C.length d1, .agg #[.int .i64 (k : Nat), .bool up]] w' fun e w'' => ∃ g c2, e = .returned (.slice (some ⟨g, 0, none⟩) R.C.length c2) ∧ Reads w'' w''.heap.size 1 (some ⟨g, 0, none⟩) R.C.length ((puV R a ((k : Int), up)).map (Value.int .i64)) ∧ Below w'.heap.size w' w'') := fun k up w' hk h => by
    have := pushOneS_any R.W R.T A R.C.length c B R.C a D1 R.C.length d1 (k : Int) up w' rfl ha.1.len (hr.below (h.mono hB)) (h1.below (h.mono hB)) (Nat.le_trans hB h.size) (by omega) (by omega)
    rw [prV_one hta' (pushes_corner hR hs hk up)] at this
    refine hide (this.mono ?_)
    rintro e w'' ⟨A2, c2, c2', rfl, ho, hb2⟩
    have hl := (tile_puV hR ha ((k : Int), up)).1.len
    rw [hl] at ho ⊢
    obtain ⟨g, cg, hsh, _, _, _⟩ := own_shape ho hl1
    simp only [Value.slice.injEq, true_and] at hsh
    obtain ⟨rfl, rfl⟩ := hsh
    exact ⟨g, c2', rfl, Reads.of_own ho, hb2⟩
  have hSA : ∀ (k : Nat) (up : Bool) (w' : World) (g e1 : Nat), Below w.heap.size w w' → Reads w' w'.heap.size 1 (some ⟨g, 0, none⟩) R.C.length ((puV R a ((k : Int), up)).map (Value.int .i64)) → Hid (Calls Try.prog 100 #[.slice (some ⟨g, 0, none⟩) R.C.length e1, .slice D2 R.C.length d2] w' fun e w'' => e = .returned (.bool (puV R a ((k : Int), up) == b)) ∧ Below w'.heap.size w' w'') := fun k up w' g e1 h hg =>
    hide (sameS_any (puV R a ((k : Int), up)) b (some ⟨g, 0, none⟩) D2 R.C.length e1 R.C.length d2 w'.heap.size w' (tile_puV hR ha ((k : Int), up)).1.len hb.1.len hg ((h2.below (h.mono hB)).more (Nat.le_trans hB h.size)) (by omega) (by omega))
  have hle := fun k => pfTo_le R a b k
  have hsu := fun k => pfTo_succ R a b k
  have hat : ∀ k, pfAt R a b k = (if puV R a ((k : Int), true) == b then 1 else 0) + (if puV R a ((k : Int), false) == b then 1 else 0) := fun _ => rfl
  have HSU := Lib.hid hsu
  have HAT := Lib.hid hat
  have HLE := Lib.hid hle
  have hb0 : Below w.heap.size w (w.alloc (boxR R.W R.T A R.C.length c)) := (Below.refl _ _).alloc (Nat.le_refl _) _
  have k0 : Blk (w.alloc (boxR R.W R.T A R.C.length c)) w.heap.size 25 #[.int .i64 R.W, .int .i64 R.T, .slice A R.C.length c] := Blk.new _ _ _
  obtain ⟨NN, hNN⟩ : ∃ NN, NN = R.cn := ⟨_, rfl⟩
  clear hsu hat hle hta htb hta' hr h1 h2 hs
  go_enter Try.func32, Try.ntmps32
  go_wp2_with fail
  refine (unhide (hSI _ hb0)).mono ?_
  rintro e w1 ⟨rfl, hb1⟩
  have hB1 := hb0.trans (hb1.mono hb0.size)
  have k1 := k0.below hb1 k0.lt
  obtain ⟨b0, b1, b2⟩ := blk3 k1
  clear k0 hb0 hb1 hSI
  go_wp2_with fail
  refine (unhide (hT1 _ hB1)).mono ?_
  rintro e w2 ⟨rfl, hb2⟩
  have hB2 := hB1.trans (hb2.mono hB1.size)
  have k2 := k1.below hb2 k1.lt
  clear b0 b1 b2
  obtain ⟨b0, b1, b2⟩ := blk3 k2
  clear k1 hB1 hb2 hT1
  go_wp2_with fail
  refine (unhide (hT2 _ hB2)).mono ?_
  rintro e w3 ⟨rfl, hb3⟩
  have hB3 := hB2.trans (hb3.mono hB2.size)
  have k3 := k2.below hb3 k2.lt
  clear b0 b1 b2 k2 hB2 hb3 hT2
  go_wp2_with fail
  go_loopg [7, 8] R.cn (fun r s7 s8 wr => ∃ k : Nat, k + r = R.cn ∧ s8 = .int .i64 (k : Nat) ∧ s7 = .int .i64 (pfTo R a b k : Nat) ∧ Below w.heap.size w wr ∧ Blk wr w.heap.size 25 #[.int .i64 R.W, .int .i64 R.T, .slice A R.C.length c])
  case atStart => exact ⟨0, by omega, rfl, rfl, hB3, k3⟩
  case round =>
    clear k3 hB3
    obtain ⟨k, hk, rfl, rfl, hbw, hbk⟩ := hrel
    have HK := Lib.hid hk
    clear hk
    obtain ⟨b0, b1, b2⟩ := blk3 hbk
    go_wp2_with fail
    refine (unhide (hCM _ hbw)).mono ?_
    rintro e w4 ⟨rfl, hb4⟩
    have hB4 := hbw.trans (hb4.mono hbw.size)
    have k4 := hbk.below hb4 hbk.lt
    clear b0 b1 b2 hbw hbk hb4
    by_cases hlt : k < R.cn
    · have hq := HLE.out k
      have hPO1 := hPO k true _ hlt hB4
      obtain ⟨b0, b1, b2⟩ := blk3 k4
      go_wp2_with fail
      refine (unhide hPO1).mono ?_
      rintro e w5 ⟨g5, c5, rfl, hg5, hb5⟩
      have hB5 := hB4.trans (hb5.mono hB4.size)
      have k5 := k4.below hb5 k4.lt
      have hS1 := hSA k true w5 g5 c5 hB5 hg5
      clear b0 b1 b2 hB4 k4 hb5 hPO1 hg5
      go_wp2_with fail
      refine (unhide hS1).mono ?_
      rintro e w6 ⟨rfl, hb6⟩
      have hB6 := hB5.trans (hb6.mono hB5.size)
      have k6 := k5.below hb6 k5.lt
      have hPO2 := hPO k false _ hlt hB6
      clear hS1 hB5 k5 hb6
      obtain ⟨b0, b1, b2⟩ := blk3 k6
      have hpre : pfPre R a b k 1 = (if (puV R a ((k : Int), true) == b) = true then 1 else 0) := by simp [pfPre]
      have hpa : pfAt R a b k = pfPre R a b k 1 + (if (puV R a ((k : Int), false) == b) = true then 1 else 0) := by rw [hpre]; exact HAT.out k
      have hp2 := pfPre_le R a b k 1
      have HPA := Lib.hid hpa
      clear hpa
      have hmid : ∀ s7 : Value, s7 = .int .i64 ((pfTo R a b k + pfPre R a b k 1 : Nat) : Int) → s7 = .int .i64 ((pfTo R a b k + pfPre R a b k 1 : Nat) : Int) := fun _ h => h
      clear hmid
      cases hb1 : (puV R a ((k : Int), true) == b) with
      | true =>
        have e1 : pfPre R a b k 1 = 1 := by rw [hpre, hb1]; rfl
        have HE1 := Lib.hid e1
        clear hpre e1 hb1 hp2
        go_wp2_with fail
        refine (unhide hPO2).mono ?_
        rintro e w7 ⟨g7, c7, rfl, hg7, hb7⟩
        have hB7 := hB6.trans (hb7.mono hB6.size)
        have k7 := k6.below hb7 k6.lt
        have hS2 := hSA k false w7 g7 c7 hB7 hg7
        clear b0 b1 b2 hB6 k6 hb7 hPO2 hg7
        go_wp2_with fail
        refine (unhide hS2).mono ?_
        rintro e w8 ⟨rfl, hb8⟩
        have hB8 := hB7.trans (hb8.mono hB7.size)
        have k8 := k7.below hb8 k7.lt
        cases hb2 : (puV R a ((k : Int), false) == b) with
        | true =>
          have hn1 : pfTo R a b (k + 1) = pfTo R a b k + 2 := by rw [HSU.out, HPA.out, HE1.out, hb2]; rfl
          go_wp2_with fail
          go_roundg (R.cn - (k + 1))
          case measure => have := HK.out; omega
          case rel => exact ⟨k + 1, by have := HK.out; omega, by go_num, congrArg (Value.int .i64) (by have hw := IntWalk.wrap64_in ((pfTo R a b k : Int) + 1) (by omega); have hw2 := IntWalk.wrap64_in ((pfTo R a b k : Int) + 1 + 1) (by omega); rw [hn1]; simp; omega), hB8, k8⟩
        | false =>
          have hn1 : pfTo R a b (k + 1) = pfTo R a b k + 1 := by rw [HSU.out, HPA.out, HE1.out, hb2]; rfl
          go_wp2_with fail
          go_roundg (R.cn - (k + 1))
          case measure => have := HK.out; omega
          case rel => exact ⟨k + 1, by have := HK.out; omega, by go_num, congrArg (Value.int .i64) (by have hw := IntWalk.wrap64_in ((pfTo R a b k : Int) + 1) (by omega); rw [hn1]; omega), hB8, k8⟩
      | false =>
        have e1 : pfPre R a b k 1 = 0 := by rw [hpre, hb1]; rfl
        have HE1 := Lib.hid e1
        clear hpre e1 hb1 hp2
        go_wp2_with fail
        refine (unhide hPO2).mono ?_
        rintro e w7 ⟨g7, c7, rfl, hg7, hb7⟩
        have hB7 := hB6.trans (hb7.mono hB6.size)
        have k7 := k6.below hb7 k6.lt
        have hS2 := hSA k false w7 g7 c7 hB7 hg7
        clear b0 b1 b2 hB6 k6 hb7 hPO2 hg7
        go_wp2_with fail
        refine (unhide hS2).mono ?_
        rintro e w8 ⟨rfl, hb8⟩
        have hB8 := hB7.trans (hb8.mono hB7.size)
        have k8 := k7.below hb8 k7.lt
        cases hb2 : (puV R a ((k : Int), false) == b) with
        | true =>
          have hn1 : pfTo R a b (k + 1) = pfTo R a b k + 1 := by rw [HSU.out, HPA.out, HE1.out, hb2]; rfl
          go_wp2_with fail
          go_roundg (R.cn - (k + 1))
          case measure => have := HK.out; omega
          case rel => exact ⟨k + 1, by have := HK.out; omega, by go_num, congrArg (Value.int .i64) (by have hw := IntWalk.wrap64_in ((pfTo R a b k : Int) + 1) (by omega); rw [hn1]; omega), hB8, k8⟩
        | false =>
          have hn1 : pfTo R a b (k + 1) = pfTo R a b k := by rw [HSU.out, HPA.out, HE1.out, hb2]; rfl
          go_wp2_with fail
          go_roundg (R.cn - (k + 1))
          case measure => have := HK.out; omega
          case rel => exact ⟨k + 1, by have := HK.out; omega, by go_num, congrArg (Value.int .i64) (by rw [hn1]), hB8, k8⟩
    · obtain rfl : k = R.cn := by have := HK.out; omega
      go_wp2_with fail
      go_ret
      exact ⟨rfl, hB4⟩

theorem pushesFromS_any (W T : Int) (A : Option Addr) (n c B : Nat) (bs : List Bool) (L1 : List Int) (D1 : Option Addr) (m1 d1 : Nat) (L2 : List Int) (D2 : Option Addr) (m2 d2 : Nat) (w : World) (hbl : bs.length = n) (hL1 : L1.length = m1) (hL2 : L2.length = m2)
    (hr : Reads w B 1 A n (bs.map Value.bool)) (h1 : Reads w B 1 D1 m1 (L1.map (Value.int .i64))) (h2 : Reads w B 1 D2 m2 (L2.map (Value.int .i64))) (hB : B ≤ w.heap.size) (hn : n ≤ 9223372036854775807) (hm1 : m1 ≤ 9223372036854775807) (hm2 : m2 ≤ 9223372036854775807) :
    Calls Try.prog 32 #[.agg #[.int .i64 W, .int .i64 T, .slice A n c], .slice D1 m1 d1, .slice D2 m2 d2] w fun e w' => e = .returned (.int .i64 (pfV W T bs L1 L2)) ∧ Below w.heap.size w w' := by
  by_cases h : tiledB W T bs L1 = true ∧ tiledB W T bs L2 = true
  · obtain ⟨R, hR, rfl, rfl, rfl, hS, hLy, hF⟩ := tiled_cases h.1
    obtain ⟨hS2, hLy2, hF2⟩ := (tiled_ok hR).1 h.2
    rw [pfV_yes h.1 h.2]
    subst hbl
    obtain rfl : m1 = R.C.length := by rw [← hL1]; exact hLy.len
    obtain rfl : m2 = R.C.length := by rw [← hL2]; exact hLy2.len
    exact pushesFromS_ok R hR hS A c B L1 L2 D1 d1 D2 d2 ⟨hLy, hF⟩ ⟨hLy2, hF2⟩ w hr h1 h2 hB
  · rw [pfV_no h]
    have hb0 : Below w.heap.size w (w.alloc (boxR W T A n c)) := (Below.refl _ _).alloc (Nat.le_refl _) _
    have k0 : Blk (w.alloc (boxR W T A n c)) w.heap.size 25 #[.int .i64 W, .int .i64 T, .slice A n c] := Blk.new _ _ _
    have hSI := fun w' (h : Below w.heap.size w w') => hide (SimpleS_any W T A n c B bs w' (hr.below (h.mono hB)) (Nat.le_trans hB h.size) hn)
    have hT1 := fun w' (h : Below w.heap.size w w') => hide (tilingOkS_any W T A n c B bs L1 D1 m1 d1 w' hbl hL1 (hr.below (h.mono hB)) (h1.below (h.mono hB)) (Nat.le_trans hB h.size) hn hm1)
    have hT2 := fun w' (h : Below w.heap.size w w') => hide (tilingOkS_any W T A n c B bs L2 D2 m2 d2 w' hbl hL2 (hr.below (h.mono hB)) (h2.below (h.mono hB)) (Nat.le_trans hB h.size) hn hm2)
    have hcase : simpleB W T bs = false ∨ (simpleB W T bs = true ∧ tilingB W T bs L1 = false) ∨ (simpleB W T bs = true ∧ tilingB W T bs L1 = true ∧ tilingB W T bs L2 = false) := by
      unfold tiledB at h
      cases hs : simpleB W T bs with
      | false => exact .inl rfl
      | true =>
        cases ht1 : tilingB W T bs L1 with
        | false => exact .inr (.inl ⟨rfl, rfl⟩)
        | true =>
          cases ht2 : tilingB W T bs L2 with
          | false => exact .inr (.inr ⟨rfl, rfl, rfl⟩)
          | true => rw [hs, ht1, ht2] at h; exact absurd ⟨rfl, rfl⟩ h
    clear h
    rcases hcase with hs | ⟨hs, ht1⟩ | ⟨hs, ht1, ht2⟩
    · simp only [hs] at hSI
      clear hs hT1 hT2 k0
      go_enter Try.func32, Try.ntmps32
      go_wp2_with fail
      refine (unhide (hSI _ hb0)).mono ?_
      rintro e w1 ⟨rfl, hx1⟩
      have hB1 := hb0.trans (hx1.mono hb0.size)
      go_wp2_with fail
      go_ret
      exact ⟨rfl, hB1⟩
    · simp only [hs] at hSI
      simp only [ht1] at hT1
      clear hs ht1 hT2
      go_enter Try.func32, Try.ntmps32
      go_wp2_with fail
      refine (unhide (hSI _ hb0)).mono ?_
      rintro e w1 ⟨rfl, hx1⟩
      have hB1 := hb0.trans (hx1.mono hb0.size)
      have k1 := k0.below hx1 k0.lt
      obtain ⟨b0, b1, b2⟩ := blk3 k1
      go_wp2_with fail
      refine (unhide (hT1 _ hB1)).mono ?_
      rintro e w2 ⟨rfl, hx2⟩
      have hB2 := hB1.trans (hx2.mono hB1.size)
      go_wp2_with fail
      go_ret
      exact ⟨rfl, hB2⟩
    · simp only [hs] at hSI
      simp only [ht1] at hT1
      simp only [ht2] at hT2
      clear hs ht1 ht2
      go_enter Try.func32, Try.ntmps32
      go_wp2_with fail
      refine (unhide (hSI _ hb0)).mono ?_
      rintro e w1 ⟨rfl, hx1⟩
      have hB1 := hb0.trans (hx1.mono hb0.size)
      have k1 := k0.below hx1 k0.lt
      obtain ⟨b0, b1, b2⟩ := blk3 k1
      go_wp2_with fail
      refine (unhide (hT1 _ hB1)).mono ?_
      rintro e w2 ⟨rfl, hx2⟩
      have hB2 := hB1.trans (hx2.mono hB1.size)
      have k2 := k1.below hx2 k1.lt
      clear b0 b1 b2
      obtain ⟨b0, b1, b2⟩ := blk3 k2
      go_wp2_with fail
      refine (unhide (hT2 _ hB2)).mono ?_
      rintro e w3 ⟨rfl, hx3⟩
      have hB3 := hB2.trans (hx3.mono hB2.size)
      go_wp2_with fail
      go_ret
      exact ⟨rfl, hB3⟩

end Go.Proofs.Ytpeifojfpkkcpaa
