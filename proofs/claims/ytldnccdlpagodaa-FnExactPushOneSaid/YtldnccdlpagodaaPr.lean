/-
  YtldnccdlpagodaaPr: PushRun and PushOne of the program, PushOne of the reference.
-/
import Derived.Test.YtldnccdlpagodaaPu
import Derived.Test.YtldnccdlpagodaaFk
namespace Go.Proofs.Ytldnccdlpagodaa
open Go.RowKit

noncomputable def prV (W T : Int) (bs : List Bool) (L : List Int) (ps : List (Int × Bool)) : List Int := if tiledB W T bs L = true ∧ pushesB W T bs ps = true then ruV ⟨W.toNat, T.toNat, bs⟩ L ps else []
theorem prV_yes {R : Reg} {L : List Int} {ps : List (Int × Bool)} (h : tiledB R.W R.T R.C L = true) (g : pushesB R.W R.T R.C ps = true) : prV R.W R.T R.C L ps = ruV R L ps := by unfold prV; rw [if_pos ⟨h, g⟩]; rfl
theorem prV_no {W T : Int} {bs : List Bool} {L : List Int} {ps : List (Int × Bool)} (h : ¬ (tiledB W T bs L = true ∧ pushesB W T bs ps = true)) : prV W T bs L ps = [] := by unfold prV; exact if_neg h
theorem pushes_bd {W T : Int} {bs : List Bool} {ps : List (Int × Bool)} (h : pushesB W T bs ps = true) : ∀ p ∈ ps, 0 ≤ p.1 ∧ p.1 ≤ 48 := by
  intro p hp
  unfold pushesB at h
  rw [Bool.and_eq_true, Bool.and_eq_true, List.all_eq_true] at h
  have h1 := h.2.2 p hp
  have h2 := (cornersB_bd W T bs).2
  unfold inB at h1
  rw [decide_eq_true_eq] at h1
  omega
theorem pushes_simple {W T : Int} {bs : List Bool} {ps : List (Int × Bool)} (h : pushesB W T bs ps = true) : simpleB W T bs = true := by
  unfold pushesB at h
  rw [Bool.and_eq_true] at h
  exact h.1
theorem prV_len {W T : Int} {bs : List Bool} {L : List Int} {ps : List (Int × Bool)} : (prV W T bs L ps).length ≤ 36 := by
  by_cases h : tiledB W T bs L = true ∧ pushesB W T bs ps = true
  · obtain ⟨R, hR, rfl, rfl, rfl, _, hLy, hF⟩ := tiled_cases h.1
    rw [prV_yes h.1 h.2, (tile_ruV hR ⟨hLy, hF⟩).1.len]
    exact (len_bd hR).2
  · rw [prV_no h]; simp
theorem pc_one (k : Int) (up : Bool) : pc [(k, up)] = [.int .i64 k, .bool up] := rfl
/-- A push, built. -/
theorem reads_push (w : World) (k : Int) (up : Bool) : Reads (w.alloc (.cells #[.int .i64 k, .bool up] 45)) (w.heap.size + 1) 2 (some ⟨w.heap.size, 0, none⟩) 1 (pc [(k, up)]) := by
  have h := Blk.new w 45 #[.int .i64 k, .bool up]
  refine ⟨rfl, fun _ => ⟨_, rfl, Nat.lt_succ_self _, fun j u hu => ?_⟩⟩
  rw [pc_one] at hu
  match j, hu with
  | 0, hu =>
    injection hu with hu
    subst hu
    exact h.cell 0
  | 1, hu =>
    injection hu with hu
    subst hu
    rw [show (⟨w.heap.size, 0, none⟩ : Addr).add 1 = ⟨w.heap.size, 1, none⟩ by simp [Addr.add]]
    exact h.cell 1
  | j + 2, hu => simp at hu

set_option maxHeartbeats 1000000 in
theorem pushRunI_any (W T : Int) (A : Option Addr) (n c B : Nat) (bs : List Bool) (L : List Int) (D : Option Addr) (m d : Nat) (P : Option Addr) (pm pd E : Nat) (ps : List (Int × Bool)) (w : World) (hbl : bs.length = n) (hL : L.length = m) (hP : Plain D)
    (hr : Reads w B 1 A n (bs.map Value.bool)) (hd : Reads w B 1 D m (L.map (Value.int .i64))) (hB : B ≤ w.heap.size) (hn : n ≤ 9223372036854775807) (hm : m ≤ 9223372036854775807) (hpl : ps.length = pm) (hp : Reads w E 2 P pm (pc ps)) (hE : E ≤ w.heap.size) (hpm : pm ≤ 9223372036854775807) :
    Calls Try.prog 37 #[.agg #[.int .i64 W, .int .i64 T, .slice A n c], .slice D m d, .slice P pm pd] w (RetInts w (prV W T bs L ps)) := by
  have hPV := fun w' (h : Below w.heap.size w w') => hide (PushesValidI_any W T A n c B bs P pm pd E ps w' hbl (hr.below (h.mono hB)) (Nat.le_trans hB h.size) hn hpl (hp.below (h.mono hE)) (Nat.le_trans hE h.size) hpm)
  have hTI := fun w' (h : Below w.heap.size w w') => hide (tiled_any W T A n c B bs L D m d w' hbl hL (hr.below (h.mono hB)) (hd.below (h.mono hB)) (Nat.le_trans hB h.size) hn hm)
  have hb0 : Below w.heap.size w (w.alloc (boxR W T A n c)) := (Below.refl _ _).alloc (Nat.le_refl _) _
  have k0 : Blk (w.alloc (boxR W T A n c)) w.heap.size 29 #[.int .i64 W, .int .i64 T, .slice A n c] := Blk.new _ _ _
  have hRU : ∀ w', Below w.heap.size w w' → tiledB W T bs L = true → pushesB W T bs ps = true → Hid (Calls Try.prog 89 #[.agg #[.int .i64 W, .int .i64 T, .slice A n c], .slice D m d, .slice P pm pd] w' (RetInts w' (prV W T bs L ps))) := fun w' h ht hv => by
    obtain ⟨R, hR, rfl, rfl, rfl, hS, hLy, hF⟩ := tiled_cases ht
    rw [prV_yes ht hv]
    subst hbl
    obtain rfl : m = R.C.length := by rw [← hL]; exact hLy.len
    exact hide (run_any R hR hS A c B L D d P pm pd E ps (fun p hp' => by have := pushes_bd hv p hp'; omega) hP ⟨hLy, hF⟩ w' (hr.below (h.mono hB)) (hd.below (h.mono hB)) (Nat.le_trans hB h.size) hpl (hp.below (h.mono hE)) (Nat.le_trans hE h.size) hpm)
  have hno := fun h => prV_no (W := W) (T := T) (bs := bs) (L := L) (ps := ps) h
  cases hv : pushesB W T bs ps with
  | false =>
    simp only [hv] at hPV
    rw [hno (by rw [hv]; simp)]
    go_enter Try.func37, Try.ntmps37
    go_wp2_with fail
    refine (unhide (hPV _ hb0)).mono ?_
    rintro e w1 ⟨rfl, hb1⟩
    go_wp2_with fail
    go_ret
    exact ⟨none, 0, 0, rfl, ⟨rfl, .inl ⟨rfl, rfl⟩⟩, hb0.trans (hb1.mono hb0.size)⟩
  | true =>
    cases ht : tiledB W T bs L with
    | false =>
      simp only [hv] at hPV
      simp only [ht] at hTI
      rw [hno (by rw [ht]; simp)]
      go_enter Try.func37, Try.ntmps37
      go_wp2_with fail
      refine (unhide (hPV _ hb0)).mono ?_
      rintro e w1 ⟨rfl, hb1⟩
      have hB1 := hb0.trans (hb1.mono hb0.size)
      obtain ⟨b0, b1, b2⟩ := blk3 (k0.below hb1 k0.lt)
      go_wp2_with fail
      refine (unhide (hTI _ hB1)).mono ?_
      rintro e w2 ⟨rfl, hb2⟩
      go_wp2_with fail
      go_ret
      exact ⟨none, 0, 0, rfl, ⟨rfl, .inl ⟨rfl, rfl⟩⟩, hB1.trans (hb2.mono hB1.size)⟩
    | true =>
      have hRU' := fun w' h => hRU w' h ht hv
      simp only [hv] at hPV
      simp only [ht] at hTI
      clear hv ht hRU hno
      generalize prV W T bs L ps = X at *
      go_enter Try.func37, Try.ntmps37
      go_wp2_with fail
      refine (unhide (hPV _ hb0)).mono ?_
      rintro e w1 ⟨rfl, hb1⟩
      have hB1 := hb0.trans (hb1.mono hb0.size)
      have k1 := k0.below hb1 k0.lt
      obtain ⟨b0, b1, b2⟩ := blk3 k1
      clear hb0 k0 hb1 hPV
      go_wp2_with fail
      refine (unhide (hTI _ hB1)).mono ?_
      rintro e w2 ⟨rfl, hb2⟩
      have hB2 := hB1.trans (hb2.mono hB1.size)
      clear b0 b1 b2
      obtain ⟨b0, b1, b2⟩ := blk3 (k1.below hb2 k1.lt)
      clear k1 hb2 hTI hB1
      go_wp2_with fail
      refine (unhide (hRU' _ hB2)).mono ?_
      rintro e w3 ⟨A3, c3, c3', rfl, ho3, hb3⟩
      go_wp2_with fail
      go_ret
      exact ⟨_, _, _, rfl, own_mono ho3 hB2.size, hB2.trans (hb3.mono hB2.size)⟩

theorem pushOneI_any (W T : Int) (A : Option Addr) (n c B : Nat) (bs : List Bool) (L : List Int) (D : Option Addr) (m d : Nat) (k : Int) (up : Bool) (w : World) (hbl : bs.length = n) (hL : L.length = m) (hP : Plain D)
    (hr : Reads w B 1 A n (bs.map Value.bool)) (hd : Reads w B 1 D m (L.map (Value.int .i64))) (hB : B ≤ w.heap.size) (hn : n ≤ 9223372036854775807) (hm : m ≤ 9223372036854775807) :
    Calls Try.prog 33 #[.agg #[.int .i64 W, .int .i64 T, .slice A n c], .slice D m d, .agg #[.int .i64 k, .bool up]] w (RetInts w (prV W T bs L [(k, up)])) := by
  have hb0 : Below w.heap.size w ((w.alloc (boxR W T A n c)).alloc (.cells #[.int .i64 k, .bool up] 45)) := ((Below.refl _ _).alloc (Nat.le_refl _) _).alloc (by simp) _
  have k0 : Blk ((w.alloc (boxR W T A n c)).alloc (.cells #[.int .i64 k, .bool up] 45)) w.heap.size 29 #[.int .i64 W, .int .i64 T, .slice A n c] := (Blk.new _ _ _).alloc _
  have k1 : Blk ((w.alloc (boxR W T A n c)).alloc (.cells #[.int .i64 k, .bool up] 45)) (w.heap.size + 1) 45 #[.int .i64 k, .bool up] := by
    have := Blk.new (w.alloc (boxR W T A n c)) 45 #[.int .i64 k, .bool up]
    simpa using this
  go_enter Try.func33, Try.ntmps33
  go_upto_region 1 with fail
  generalize (w.alloc (boxR W T A n c)).alloc (.cells #[.int .i64 k, .bool up] 45) = w1 at *
  have hb1 := hb0.alloc hb0.size (.cells #[.int .i64 k, .bool up] 45)
  have HP := hide (pushRunI_any W T A n c B bs L D m d (some ⟨w1.heap.size, 0, none⟩) 1 1 (w1.heap.size + 1) [(k, up)] _ hbl hL hP (hr.below (hb1.mono hB)) (hd.below (hb1.mono hB)) (Nat.le_trans hB hb1.size) hn hm rfl (reads_push w1 k up) (by simp) (by omega))
  obtain ⟨b0, b1, b2⟩ := blk3 k0
  have p0 := k1.cell 0
  have p1 := k1.cell 1
  simp at p0 p1
  generalize prV W T bs L [(k, up)] = X at *
  clear k0 k1
  go_wp2_with fail
  refine (unhide HP).mono ?_
  rintro e w3 ⟨A3, c3, c3', rfl, ho3, hb3⟩
  go_wp2_with fail
  go_ret
  exact ⟨_, _, _, rfl, own_mono ho3 hb1.size, hb1.trans (hb3.mono hb1.size)⟩

end Go.Proofs.Ytldnccdlpagodaa
