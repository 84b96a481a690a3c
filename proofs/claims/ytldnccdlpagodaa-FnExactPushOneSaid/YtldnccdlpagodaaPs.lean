/-
  YtldnccdlpagodaaPs: PushOne of the reference.
-/
import Derived.Test.YtldnccdlpagodaaPr
namespace Go.Proofs.Ytldnccdlpagodaa
open Go.RowKit

theorem prV_one {R : Reg} {L : List Int} {p : Int × Bool} (h : tiledB R.W R.T R.C L = true) (g : pushesB R.W R.T R.C [p] = true) : prV R.W R.T R.C L [p] = puV R L p := prV_yes h g
/-- A push flips exactly if .. -/
theorem puB_up {R : Reg} {L : List Int} {k : Nat} (h : flB R L (k : Int) = true) (up : Bool) : puB R L ((k : Int), up) = ((up && (rsV R L k == 4)) || (!up && (rsV R L k == -4))) := by
  unfold puB
  rw [show rsZ R L (k : Int) = rsV R L k from rsZ_nat R L k]
  rcases rsV_or h with e | e <;> rw [e] <;> cases up <;> rfl
theorem puB_fl {R : Reg} {L : List Int} {k : Int} (h : flB R L k = false) (up : Bool) : puB R L (k, up) = false := by
  unfold puB
  rw [rsZ_no h]
  cases up <;> rfl

set_option maxHeartbeats 2000000 in
set_option maxRecDepth 20000 in
theorem pushOneS_any (W T : Int) (A : Option Addr) (n c B : Nat) (bs : List Bool) (L : List Int) (D : Option Addr) (m d : Nat) (k : Int) (up : Bool) (w : World) (hbl : bs.length = n) (hL : L.length = m)
    (hr : Reads w B 1 A n (bs.map Value.bool)) (hd : Reads w B 1 D m (L.map (Value.int .i64))) (hB : B ≤ w.heap.size) (hn : n ≤ 9223372036854775807) (hm : m ≤ 9223372036854775807) :
    Calls Try.prog 31 #[.agg #[.int .i64 W, .int .i64 T, .slice A n c], .slice D m d, .agg #[.int .i64 k, .bool up]] w (RetInts w (prV W T bs L [(k, up)])) := by
  have hb0 : Below w.heap.size w ((w.alloc (boxR W T A n c)).alloc (.cells #[.int .i64 k, .bool up] 45)) := ((Below.refl _ _).alloc (Nat.le_refl _) _).alloc (by simp) _
  have k0 : Blk ((w.alloc (boxR W T A n c)).alloc (.cells #[.int .i64 k, .bool up] 45)) w.heap.size 29 #[.int .i64 W, .int .i64 T, .slice A n c] := (Blk.new _ _ _).alloc _
  have k1 : Blk ((w.alloc (boxR W T A n c)).alloc (.cells #[.int .i64 k, .bool up] 45)) (w.heap.size + 1) 45 #[.int .i64 k, .bool up] := by
    have := Blk.new (w.alloc (boxR W T A n c)) 45 #[.int .i64 k, .bool up]
    simpa using this
  have hTO := fun w' (h : Below w.heap.size w w') => hide (tilingOkS_any W T A n c B bs L D m d w' hbl hL (hr.below (h.mono hB)) (hd.below (h.mono hB)) (Nat.le_trans hB h.size) hn hm)
  have hPV := fun w' (h : Below w.heap.size w w') => hide (PushesValidS_any W T A n c B bs (some ⟨w'.heap.size, 0, none⟩) 1 1 (w'.heap.size + 1) [(k, up)] _ hbl (hr.below ((h.alloc h.size (.cells #[.int .i64 k, .bool up] 45)).mono hB)) (Nat.le_trans hB (h.alloc h.size (.cells #[.int .i64 k, .bool up] 45)).size) hn rfl (reads_push w' k up) (by simp) (by omega))
  cases ht : tilingB W T bs L with
  | false =>
    have hno : prV W T bs L [(k, up)] = [] := prV_no (by unfold tiledB; rw [ht]; simp)
    rw [hno]
    simp only [ht] at hTO
    clear hPV hno
    go_enter Try.func31, Try.ntmps31
    go_upto_region 1 with fail
    generalize (w.alloc (boxR W T A n c)).alloc (.cells #[.int .i64 k, .bool up] 45) = w1 at *
    obtain ⟨b0, b1, b2⟩ := blk3 k0
    clear k0 k1
    go_wp2_with fail
    refine (unhide (hTO _ hb0)).mono ?_
    rintro e w2 ⟨rfl, hb2⟩
    have hB2 := hb0.trans (hb2.mono hb0.size)
    go_wp2_with fail
    go_ret
    have ho := World.ownsRow_made (base := w.heap.size) (e := 3) (size := 1) w2 #[] 0 hB2.size (by simp [maxLen]) (by simp)
    exact ⟨_, 0, 0, rfl, by simpa using ho, hB2.alloc hB2.size _⟩
  | true =>
    cases hv : pushesB W T bs [(k, up)] with
    | false =>
      have hno : prV W T bs L [(k, up)] = [] := prV_no (by rw [hv]; simp)
      rw [hno]
      simp only [ht] at hTO
      simp only [hv] at hPV
      clear hno
      go_enter Try.func31, Try.ntmps31
      go_upto_region 1 with fail
      generalize (w.alloc (boxR W T A n c)).alloc (.cells #[.int .i64 k, .bool up] 45) = w1 at *
      obtain ⟨b0, b1, b2⟩ := blk3 k0
      go_wp2_with fail
      refine (unhide (hTO _ hb0)).mono ?_
      rintro e w2 ⟨rfl, hb2⟩
      have hB2 := hb0.trans (hb2.mono hb0.size)
      clear b0 b1 b2
      obtain ⟨b0, b1, b2⟩ := blk3 (k0.below hb2 k0.lt)
      have k2 := k1.below hb2 k1.lt
      have p0 := k2.cell 0
      have p1 := k2.cell 1
      simp at p0 p1
      clear k0 k1 k2 hb2
      go_wp2_with fail
      refine (unhide (hPV _ hB2)).mono ?_
      rintro e w3 ⟨rfl, hb3⟩
      have hB3 := (hB2.alloc hB2.size (.cells #[.int .i64 k, .bool up] 45))
      have hB4 := hB3.trans (hb3.mono hB3.size)
      go_wp2_with fail
      go_ret
      have ho := World.ownsRow_made (base := w.heap.size) (e := 3) (size := 1) w3 #[] 0 hB4.size (by simp [maxLen]) (by simp)
      exact ⟨_, 0, 0, rfl, by simpa using ho, hB4.alloc hB4.size _⟩
    | true =>
      have ht' : tiledB W T bs L = true := by unfold tiledB; rw [ht, pushes_simple hv]; rfl
      obtain ⟨R, hR, rfl, rfl, rfl, hS, hLy, hF⟩ := tiled_cases ht'
      have hbd := pushes_bd hv _ (List.mem_singleton.2 rfl)
      dsimp only at hbd
      obtain ⟨q, rfl⟩ := Int.eq_ofNat_of_zero_le hbd.1
      rw [prV_one ht' hv]
      subst hbl
      obtain rfl : m = R.C.length := by rw [← hL]; exact hLy.len
      have hl36 := (len_bd hR).2
      have hl1 := (len_bd hR).1
      have hFM := fun w' (h : Below w.heap.size w w') => hide (flipMayS_ok R hR A c B L D d (q : Int) hLy w' (hr.below (h.mono hB)) (hd.below (h.mono hB)) (Nat.le_trans hB h.size))
      have hFO := fun w' (h : Below w.heap.size w w') => hide (flipOneS_ok R hR A c B L D d (q : Int) hLy w' (hr.below (h.mono hB)) (hd.below (h.mono hB)) (Nat.le_trans hB h.size))
      have hRI := fun w' (h : Below w.heap.size w w') => hide (flipRiseS_any R.W R.T A R.C.length c B R.C L D R.C.length d (q : Int) w' rfl hL (hr.below (h.mono hB)) (hd.below (h.mono hB)) (Nat.le_trans hB h.size) hn hm)
      simp only [frV_yes ht', rsZ_nat] at hRI
      simp only [ht] at hTO
      simp only [hv] at hPV
      have hVl : (flV R L (q : Int)).length = R.C.length := by rw [flV_len]; exact hL
      have hup := fun h => puB_up (R := R) (L := L) (k := q) h up
      have hpf := fun h => puB_fl (R := R) (L := L) (k := (q : Int)) h up
      have hyes := puV_yes (R := R) (L := L) (p := ((q : Int), up))
      have hnoo := puV_no (R := R) (L := L) (p := ((q : Int), up))
      have hor := fun h => rsV_or (R := R) (L := L) (k := q) h
      generalize puB R L ((q : Int), up) = b at *
      generalize puV R L ((q : Int), up) = X at *
      generalize rsV R L q = rv at *
      generalize flB R L (q : Int) = fb at *
      clear ht hv ht' hS hLy hF hbd
      go_enter Try.func31, Try.ntmps31
      go_upto_region 1 with fail
      generalize (w.alloc (boxR R.W R.T A R.C.length c)).alloc (.cells #[.int .i64 q, .bool up] 45) = w1 at *
      obtain ⟨b0, b1, b2⟩ := blk3 k0
      go_wp2_with fail
      refine (unhide (hTO _ hb0)).mono ?_
      rintro e w2 ⟨rfl, hb2⟩
      have hB2 := hb0.trans (hb2.mono hb0.size)
      clear b0 b1 b2
      have k0' := k0.below hb2 k0.lt
      have k2 := k1.below hb2 k1.lt
      obtain ⟨b0, b1, b2⟩ := blk3 k0'
      have p0 := k2.cell 0
      have p1 := k2.cell 1
      simp at p0 p1
      clear k0 k1 hb2 hTO
      go_wp2_with fail
      refine (unhide (hPV _ hB2)).mono ?_
      rintro e w3 ⟨rfl, hb3⟩
      have hB3' := (hB2.alloc hB2.size (.cells #[.int .i64 q, .bool up] 45))
      have hB3 := hB3'.trans (hb3.mono hB3'.size)
      have k3 := (k0'.alloc (.cells #[.int .i64 q, .bool up] 45)).below hb3 (k0'.alloc _).lt
      have k4 := (k2.alloc (.cells #[.int .i64 q, .bool up] 45)).below hb3 (k2.alloc _).lt
      clear b0 b1 b2 p0 p1 k0' k2 hb3 hPV hB3' hB2
      obtain ⟨b0, b1, b2⟩ := blk3 k3
      have p0 := k4.cell 0
      have p1 := k4.cell 1
      simp at p0 p1
      go_wp2_with fail
      refine (unhide (hFM _ hB3)).mono ?_
      rintro e w4 ⟨rfl, hb4⟩
      have hB4 := hB3.trans (hb4.mono hB3.size)
      have k5 := k3.below hb4 k3.lt
      have k6 := k4.below hb4 k4.lt
      clear b0 b1 b2 p0 p1 k3 k4 hb4 hFM hB3
      obtain ⟨b0, b1, b2⟩ := blk3 k5
      have p0 := k6.cell 0
      have p1 := k6.cell 1
      simp at p0 p1
      cases fb with
      | false =>
        have hX := hnoo (hpf rfl)
        subst hX
        have hONE := ints_one (L := X)
        clear hyes hnoo hpf hor hup hRI hFO
        cases up
        all_goals
          have ho1 : (w4.alloc (.cells #[] 3)).ownsRow w4.heap.size 3 1 (.slice (some ⟨w4.heap.size, 0, none⟩) 0 0) 0 [] := by simpa using World.ownsRow_made (base := w4.heap.size) (e := 3) (size := 1) w4 #[] 0 (by omega) (by simp [maxLen]) (by simp)
          have hBa := hB4.alloc hB4.size (.cells #[] 3)
          have hda := hd.below (hBa.mono hB)
          go_wp2_with (at_builtin; refine wpList_appN rfl _ _ _ rfl w4.heap.size 3 _ 8 Try.underlying25 info_int rfl (by omega) (.slice (some ⟨w4.heap.size, 0, none⟩) 0 0) 0 [] rfl ho1 B D R.C.length d (X.map (Value.int .i64)) rfl hda hONE (by omega) (by simp) ?_; rintro v' w9 ho9 hg9 _; rw [Nat.zero_add, List.nil_append] at ho9; obtain ⟨g9, c9, rfl, _, _, _⟩ := own_shape ho9 hl1)
          go_ret
          exact ⟨some ⟨g9, 0, none⟩, c9, c9, by rw [hL]; rfl, by rw [hL]; exact own_mono ho9 hB4.size, hBa.grown hg9 hBa.size (fun j hj => by have := hB4.size; simp [Value.ownBlock] at hj; omega)⟩
      | true =>
        have hbb := hup rfl
        have hrv := hor rfl
        clear hup hor hpf
        go_wp2_with fail
        refine (unhide (hRI _ hB4)).mono ?_
        rintro e w5 ⟨rfl, hb5⟩
        have hB5 := hB4.trans (hb5.mono hB4.size)
        have k7 := k5.below hb5 k5.lt
        have k8 := k6.below hb5 k6.lt
        clear b0 b1 b2 p0 p1 k5 k6 hb5 hRI hB4
        obtain ⟨b0, b1, b2⟩ := blk3 k7
        have p0 := k8.cell 0
        have p1 := k8.cell 1
        simp at p0 p1
        have hHF := hFO _ hB5
        have hflip : (up = true ∧ rv = 4) ∨ (up = false ∧ rv = -4) ∨ (b = false ∧ ((up = true ∧ rv = -4) ∨ (up = false ∧ rv = 4))) := by
          rcases hrv with rfl | rfl <;> cases up
          · exact .inr (.inr ⟨by rw [hbb]; rfl, .inr ⟨rfl, rfl⟩⟩)
          · exact .inl ⟨rfl, rfl⟩
          · exact .inr (.inl ⟨rfl, rfl⟩)
          · exact .inr (.inr ⟨by rw [hbb]; rfl, .inl ⟨rfl, rfl⟩⟩)
        rcases hflip with ⟨rfl, rfl⟩ | ⟨rfl, rfl⟩ | ⟨hb0', hc⟩
        · have hX := hyes (by rw [hbb]; rfl)
          subst hX
          clear hyes hnoo hbb hrv
          go_wp2_with fail
          refine (unhide hHF).mono ?_
          rintro e w6 ⟨A6, c6, c6', rfl, ho6, hb6⟩
          go_wp2_with fail
          go_ret
          exact ⟨_, _, _, by rw [hVl]; rfl, own_mono ho6 hB5.size, hB5.trans (hb6.mono hB5.size)⟩
        · have hX := hyes (by rw [hbb]; rfl)
          subst hX
          clear hyes hnoo hbb hrv
          go_wp2_with fail
          refine (unhide hHF).mono ?_
          rintro e w6 ⟨A6, c6, c6', rfl, ho6, hb6⟩
          go_wp2_with fail
          go_ret
          exact ⟨_, _, _, by rw [hVl]; rfl, own_mono ho6 hB5.size, hB5.trans (hb6.mono hB5.size)⟩
        · have hX := hnoo hb0'
          subst hX
          have hONE := ints_one (L := X)
          clear hyes hnoo hbb hrv hb0' hHF hFO
          rcases hc with ⟨rfl, rfl⟩ | ⟨rfl, rfl⟩
          all_goals
            have ho1 : (w5.alloc (.cells #[] 3)).ownsRow w5.heap.size 3 1 (.slice (some ⟨w5.heap.size, 0, none⟩) 0 0) 0 [] := by simpa using World.ownsRow_made (base := w5.heap.size) (e := 3) (size := 1) w5 #[] 0 (by omega) (by simp [maxLen]) (by simp)
            have hBa := hB5.alloc hB5.size (.cells #[] 3)
            have hda := hd.below (hBa.mono hB)
            go_wp2_with (at_builtin; refine wpList_appN rfl _ _ _ rfl w5.heap.size 3 _ 8 Try.underlying25 info_int rfl (by omega) (.slice (some ⟨w5.heap.size, 0, none⟩) 0 0) 0 [] rfl ho1 B D R.C.length d (X.map (Value.int .i64)) rfl hda hONE (by omega) (by simp) ?_; rintro v' w9 ho9 hg9 _; rw [Nat.zero_add, List.nil_append] at ho9; obtain ⟨g9, c9, rfl, _, _, _⟩ := own_shape ho9 hl1)
            go_ret
            exact ⟨some ⟨g9, 0, none⟩, c9, c9, by rw [hL]; rfl, by rw [hL]; exact own_mono ho9 hB5.size, hBa.grown hg9 hBa.size (fun j hj => by have := hB5.size; simp [Value.ownBlock] at hj; omega)⟩

end Go.Proofs.Ytldnccdlpagodaa
