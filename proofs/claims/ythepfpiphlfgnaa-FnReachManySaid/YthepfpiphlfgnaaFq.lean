/-
  YthepfpiphlfgnaaFq: FlipOne and FlipRise of the reference, for all arguments.
-/
import Derived.Test.YthepfpiphlfgnaaFs
import Derived.Test.YthepfpiphlfgnaaFr
import Derived.OpenShut
namespace Go.Proofs.Ythepfpiphlfgnaa
open Go.RowKit

def foV (W T : Int) (bs : List Bool) (L : List Int) (k : Int) : List Int := if laidB W T bs L = true then flV ⟨W.toNat, T.toNat, bs⟩ L k else []
def foB (W T : Int) (bs : List Bool) (L : List Int) (k : Int) : Bool := laidB W T bs L && flB ⟨W.toNat, T.toNat, bs⟩ L k
theorem laid_cases {W T : Int} {bs : List Bool} {L : List Int} (h : laidB W T bs L = true) : ∃ R : Reg, R.ok ∧ W = (R.W : Int) ∧ T = (R.T : Int) ∧ bs = R.C ∧ Lay R L := by
  have hv : validB W T bs = true := by
    cases hv : validB W T bs with
    | true => rfl
    | false => rw [laidB_no hv] at h; cases h
  obtain ⟨R, hR, rfl, rfl, rfl⟩ := reg_of_valid hv
  rw [laidB_ok hR] at h
  exact ⟨R, hR, rfl, rfl, rfl, (laysB_iff hR).1 h⟩
theorem laid_tiled {W T : Int} {bs : List Bool} {L : List Int} (h : laidB W T bs L = false) : tiledB W T bs L = false := by
  unfold tiledB
  rw [tilingB_no h, Bool.and_false]
theorem foV_yes {R : Reg} {L : List Int} {k : Int} (h : laidB R.W R.T R.C L = true) : foV R.W R.T R.C L k = flV R L k ∧ foB R.W R.T R.C L k = flB R L k := by
  constructor
  · unfold foV; rw [if_pos h]; rfl
  · unfold foB; rw [h]; rfl
theorem foV_no {W T : Int} {bs : List Bool} {L : List Int} {k : Int} (h : laidB W T bs L = false) : foV W T bs L k = [] ∧ foB W T bs L k = false := by
  constructor
  · unfold foV; rw [h]; rfl
  · unfold foB; rw [h]; rfl
theorem foV_len {W T : Int} {bs : List Bool} {L : List Int} {k : Int} : (foV W T bs L k).length ≤ 36 := by
  cases h : laidB W T bs L with
  | false => rw [(foV_no h).1]; simp
  | true =>
    obtain ⟨R, hR, rfl, rfl, rfl, hL⟩ := laid_cases h
    rw [(foV_yes h).1, flV_len, hL.len]
    exact (len_bd hR).2

theorem flipOneS_any (W T : Int) (A : Option Addr) (n c B : Nat) (bs : List Bool) (L : List Int) (D : Option Addr) (m d : Nat) (k : Int) (w : World) (hbl : bs.length = n) (hL : L.length = m)
    (hr : Reads w B 1 A n (bs.map Value.bool)) (hd : Reads w B 1 D m (L.map (Value.int .i64))) (hB : B ≤ w.heap.size) (hn : n ≤ 9223372036854775807) (hm : m ≤ 9223372036854775807) :
    Calls Try.prog 163 #[.agg #[.int .i64 W, .int .i64 T, .slice A n c], .slice D m d, .int .i64 k] w (RetIB w (foV W T bs L k) (foB W T bs L k)) := by
  cases h : laidB W T bs L with
  | true =>
    obtain ⟨R, hR, rfl, rfl, rfl, hLy⟩ := laid_cases h
    rw [(foV_yes h).1, (foV_yes h).2]
    subst hbl
    obtain rfl : m = R.C.length := by rw [← hL]; exact hLy.len
    exact flipOneS_ok R hR A c B L D d k hLy w hr hd hB
  | false =>
    have hLO := hide (laidOkS_any W T A n c B bs L D m d (w.alloc (boxR W T A n c)) hbl hL (hr.alloc hB _) (hd.alloc hB _) (by simp; omega) hn hm)
    rw [h] at hLO
    rw [(foV_no h).1, (foV_no h).2]
    clear h
    go_enter Try.func163, Try.ntmps163
    go_wp2_with fail
    refine (unhide hLO).mono ?_
    rintro e w1 ⟨rfl, hb1⟩
    obtain ⟨hB1, hk1, b0, b1, b2⟩ := box_keep hb1
    go_wp2_with fail
    go_ret2
    have ho := World.ownsRow_made (base := w.heap.size) (e := 3) (size := 1) w1 #[] 0 hB1.size (by simp [maxLen]) (by simp)
    exact ⟨_, 0, 0, rfl, by simpa using ho, hB1.alloc hB1.size _⟩

theorem frV_not {W T : Int} {bs : List Bool} {L : List Int} {k : Int} (h : foB W T bs L k = false) : frV W T bs L k = 0 := by
  cases ht : tiledB W T bs L with
  | false => exact frV_no ht
  | true =>
    obtain ⟨R, hR, rfl, rfl, rfl, _, hL, _⟩ := tiled_cases ht
    have hl : laidB R.W R.T R.C L = true := by rw [laidB_ok hR]; exact (laysB_iff hR).2 hL
    rw [(foV_yes hl).2] at h
    rw [frV_yes ht, rsZ_no h]

set_option maxHeartbeats 1000000 in
set_option maxRecDepth 20000 in
theorem flipRiseS_any (W T : Int) (A : Option Addr) (n c B : Nat) (bs : List Bool) (L : List Int) (D : Option Addr) (m d : Nat) (k : Int) (w : World) (hbl : bs.length = n) (hL : L.length = m)
    (hr : Reads w B 1 A n (bs.map Value.bool)) (hd : Reads w B 1 D m (L.map (Value.int .i64))) (hB : B ≤ w.heap.size) (hn : n ≤ 9223372036854775807) (hm : m ≤ 9223372036854775807) :
    Calls Try.prog 190 #[.agg #[.int .i64 W, .int .i64 T, .slice A n c], .slice D m d, .int .i64 k] w fun e w' => e = .returned (.int .i64 (frV W T bs L k)) ∧ Below w.heap.size w w' := by
  have hX36 := foV_len (W := W) (T := T) (bs := bs) (L := L) (k := k)
  have hFO := hide (flipOneS_any W T A n c B bs L D m d k (w.alloc (boxR W T A n c)) hbl hL (hr.alloc hB _) (hd.alloc hB _) (by simp; omega) hn hm)
  have hH1 := fun w' (h : Below w.heap.size w w') => hide (heightsOfS_any W T A n c B bs L D m d w' hbl hL (hr.below (h.mono hB)) (hd.below (h.mono hB)) (Nat.le_trans hB h.size) hn hm)
  have hH2 : ∀ (w' : World) (E : Option Addr) (e1 : Nat), Below w.heap.size w w' → Reads w' w'.heap.size 1 E (foV W T bs L k).length ((foV W T bs L k).map (Value.int .i64)) → Hid (Calls Try.prog 69 #[.agg #[.int .i64 W, .int .i64 T, .slice A n c], .slice E (foV W T bs L k).length e1] w' (OwnInts w' (htsOf W T bs (foV W T bs L k)))) :=
    fun w' E e1 h ha => hide (heightsOfS_any W T A n c w'.heap.size bs (foV W T bs L k) E _ e1 w' hbl rfl ((hr.below (h.mono hB)).more (Nat.le_trans hB h.size)) ha (Nat.le_refl _) hn (by omega))
  have hval : foB W T bs L k = true → (htsOf W T bs L = [] ∧ frV W T bs L k = 0) ∨ ∃ q : Nat, k = (q : Nat) ∧ q < (htsOf W T bs L).length ∧ (htsOf W T bs (foV W T bs L k)).length = (htsOf W T bs L).length ∧ (htsOf W T bs (foV W T bs L k)).getD q 0 = (htsOf W T bs L).getD q 0 + frV W T bs L k ∧ (-60 ≤ (htsOf W T bs L).getD q 0 ∧ (htsOf W T bs L).getD q 0 ≤ 99) ∧ (-4 ≤ frV W T bs L k ∧ frV W T bs L k ≤ 4) := by
    intro hf
    cases ht : tiledB W T bs L with
    | false => exact .inl ⟨htsOf_no ht, frV_no ht⟩
    | true =>
      right
      obtain ⟨R, hR, rfl, rfl, rfl, hS, hLy, hF⟩ := tiled_cases ht
      have hl : laidB R.W R.T R.C L = true := by rw [laidB_ok hR]; exact (laysB_iff hR).2 hLy
      rw [(foV_yes hl).2] at hf
      rw [(foV_yes hl).1, frV_yes ht]
      obtain ⟨q, rfl, hq, hrs⟩ := flB_nat hf
      have hH := htsOf_yes hR hS hLy hF
      have hL2 := lay_flV hR hLy (q : Int)
      have hF2 := (full_flV hR hLy (q : Int)).2 hF
      have hHH := hts_one hR hS.1 (htsOf_yes hR hS hL2 hF2) (hts_flV hR hLy hH hf)
      have hb := ht_le hR hS.1 (hp_of_hts hLy hH) (x := q % (R.W + 1)) (y := q / (R.W + 1)) (ci_in hq).1 (ci_in hq).2
      unfold Reg.ht at hb
      rw [ci_of] at hb
      have hor := rsV_or hf
      refine ⟨q, rfl, by rw [hH.len]; exact hq, by rw [hHH, List.length_set], ?_, by omega, by rw [hrs]; omega⟩
      rw [hHH, getD_set (by rw [hH.len]; exact hq), if_pos rfl, hrs]
  have HV := Lib.hid hval
  have HN : Hid (foB W T bs L k = false → frV W T bs L k = 0) := Lib.hid frV_not
  have hl1 := htsOf_len (W := W) (T := T) (bs := bs) (L := L)
  clear hval
  generalize foV W T bs L k = X at *
  generalize foB W T bs L k = fb at *
  generalize htsOf W T bs L = H at *
  generalize htsOf W T bs X = G at *
  generalize frV W T bs L k = r at *
  have HH1 : ∀ w', Below w.heap.size w w' → Hid (Calls Try.prog 69 #[.agg #[.int .i64 W, .int .i64 T, .slice A n c], .slice D m d] w' (OwnInts w' H)) := hH1
  go_enter Try.func190, Try.ntmps190
  go_wp2_with fail
  refine (unhide hFO).mono ?_
  rintro e w1 ⟨A1, c1, c1', rfl, ho1, hb1⟩
  obtain ⟨hB1, hk1, b0, b1, b2⟩ := box_keep hb1
  clear hb1 hFO
  go_wp2_with fail
  refine (unhide (HH1 _ hB1)).mono ?_
  rintro e w2 ⟨A2, c2, rfl, _, ho2, hb2⟩
  have hB2 := hB1.trans (hb2.mono hB1.size)
  clear b0 b1 b2
  obtain ⟨hk2, b0, b1, b2⟩ := blk_keep hk1 hb2
  have ho1' := own_below ho1 hb2 (Nat.le_refl _)
  clear hb2 hk1 hB1 ho1
  go_wp2_with fail
  refine (unhide (hH2 _ _ _ hB2 (Reads.of_own ho1'))).mono ?_
  rintro e w3 ⟨A3, c3, rfl, _, ho3, hb3⟩
  have hB3 := hB2.trans (hb3.mono hB2.size)
  have ho2' := own_below ho2 hb3 (Nat.le_refl _)
  clear b0 b1 b2 hb3 hk2 hB2 ho2 ho1'
  cases fb with
  | false =>
    have hr0 := HN.out rfl
    subst hr0
    go_wp2_with fail
    go_ret
    exact ⟨rfl, hB3⟩
  | true =>
    rcases HV.out rfl with ⟨hH0, rfl⟩ | ⟨q, rfl, hq, hlen, hg, hb, hrb⟩
    · subst hH0
      go_wp2_with fail
      go_ret
      exact ⟨rfl, hB3⟩
    · have hHne : ((H.length : Int) == 0) = false := by simp only [beq_eq_false_iff_ne]; omega
      have hGne : ((G.length : Int) == 0) = false := by rw [hlen]; exact hHne
      obtain ⟨ad2, rfl, _, d2⟩ := (Reads.of_own ho2').getI hq
      obtain ⟨ad3, rfl, _, d3⟩ := (Reads.of_own ho3).getI (k := q) (by omega)
      rw [hg] at d3
      have u : IntKind.i64.wrap (H.getD q 0 + r - H.getD q 0) = r := by rw [show H.getD q 0 + r - H.getD q 0 = r by omega]; exact IntWalk.i64_in _ (by omega)
      have hq2 : q < G.length := by omega
      generalize H.getD q 0 = h0 at *
      clear hg HV HN hH1 hH2 HH1 ho3 ho2' hb
      go_wp2_with fail
      go_quiet (fail)
      go_wp2_with fail
      go_ret
      exact ⟨rfl, below_drewN hB3 _⟩

theorem i64_hi {a : Int} (h : (Lit.int .i64 a).wf = true) : a ≤ 9223372036854775807 := by
  exact (Go.bounds_i64 h).2

end Go.Proofs.Ythepfpiphlfgnaa
