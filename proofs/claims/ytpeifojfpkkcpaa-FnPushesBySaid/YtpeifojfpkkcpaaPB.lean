/-
  YtpeifojfpkkcpaaPB: PushesBy: pushes from a seed on, program and reference.
-/
import Derived.Test.YtpeifojfpkkcpaaPv
import Derived.Test.YtpeifojfpkkcpaaTi
import Derived.Test.YtpeifojfpkkcpaaHS
import Derived.Test.YtpeifojfpkkcpaaSeed
namespace Go.Proofs.Ytpeifojfpkkcpaa
open Go.RowKit

def seedN (s : Int) : Nat → Int
  | 0 => s
  | k + 1 => seedL (seedN s k)
def pushAt (N t : Int) : Int × Bool := (seedL t / 65536 % N, seedL (seedL t) / 65536 % 2 == 0)
def pushRun (N s : Int) : Nat → List (Int × Bool)
  | 0 => []
  | k + 1 => pushRun N s k ++ [pushAt N (seedN s (2 * k))]
theorem pushRun_len (N s : Int) : ∀ k, (pushRun N s k).length = k
  | 0 => rfl
  | k + 1 => by simp [pushRun, pushRun_len N s k]
theorem seedL_in {s : Int} (h : 0 ≤ s ∧ s ≤ 2147483647) : 0 ≤ seedL s ∧ seedL s ≤ 2147483647 := by
  rw [seedL_t h]
  omega
theorem seedN_in {s : Int} (h : 0 ≤ s ∧ s ≤ 2147483647) : ∀ k, 0 ≤ seedN s k ∧ seedN s k ≤ 2147483647
  | 0 => h
  | k + 1 => seedL_in (seedN_in h k)
noncomputable def pushesByL (W T : Int) (bs : List Bool) (s m : Int) : List (Int × Bool) :=
  if simpleB W T bs = true ∧ (0 ≤ s ∧ s ≤ 2147483647) ∧ (0 ≤ m ∧ m ≤ 128) then pushRun (cornersB W T bs) s m.toNat else []
theorem pushesByL_len (W T : Int) (bs : List Bool) (s m : Int) : (pushesByL W T bs s m).length ≤ 1048576 := by
  unfold pushesByL
  split
  · rw [pushRun_len]; omega
  · simp
theorem pushesByL_no {W T : Int} {bs : List Bool} {s m : Int} (h : ¬ (simpleB W T bs = true ∧ (0 ≤ s ∧ s ≤ 2147483647) ∧ (0 ≤ m ∧ m ≤ 128))) : pushesByL W T bs s m = [] := if_neg h
theorem pushesByL_low {W T : Int} {bs : List Bool} {s m : Int} (h : m ≤ 0) : pushesByL W T bs s m = [] := by
  unfold pushesByL
  split
  · rw [show m.toNat = 0 by omega]; rfl
  · rfl
theorem pushesByL_yes {R : Reg} (hR : R.ok) {s : Int} {M : Nat} (hS : simpleB R.W R.T R.C = true) (hs : 0 ≤ s ∧ s ≤ 2147483647) (hM : M ≤ 128) : pushesByL R.W R.T R.C s M = pushRun R.cn s M := by
  unfold pushesByL
  rw [if_pos ⟨hS, hs, by omega⟩, cornersB_ok hR]
  rfl

theorem clipP_any (A : Option Addr) (n c : Nat) (hc : n ≤ c) (_hn : c ≤ 9223372036854775807) (w : World) :
    Calls Try.prog 93 #[.slice A n c] w fun e w' => e = .returned (.slice A n n) ∧ w = w' := by
  go_enter Try.func93, Try.ntmps93
  go_wp2_with fail
  go_ret
  exact ⟨rfl, rfl⟩

theorem own_cap {w : World} {base : Nat} {e : TypeId} {size : Nat} {A : Option Addr} {n c : Nat} {xs : List Value} (h : w.ownsRow base e size (.slice A n c) n xs) : c ≤ 9223372036854775807 := by
  rcases h.2 with ⟨h0, _⟩ | ⟨g, cap, cur, hv, _, _, _, h4, _⟩
  · injection h0; omega
  · simp only [Value.slice.injEq] at hv
    obtain ⟨_, _, rfl⟩ := hv
    simpa only [maxLen] using h4

/-- A fresh row of pushes, whatever capacity the slice names. -/
def RetPushes (w : World) (L : List (Int × Bool)) (e : Ending) (w' : World) : Prop :=
  ∃ A c c', e = .returned (.slice A L.length c') ∧ w'.ownsRow w.heap.size 40 2 (.slice A L.length c) L.length (pc L) ∧ Below w.heap.size w w' ∧ L.length ≤ c'

structure PsW (w wr : World) (W T : Int) (A : Option Addr) (n c : Nat) (v : Value) (l : List (Int × Bool)) : Prop where
  own : wr.ownsRow (w.heap.size + 1) 40 2 v l.length (pc l)
  box : Blk wr w.heap.size 25 #[.int .i64 W, .int .i64 T, .slice A n c]
  bel : Below w.heap.size w wr
theorem pc_snoc (l : List (Int × Bool)) (p : Int × Bool) : pc (l ++ [p]) = pc l ++ [.int .i64 p.1, .bool p.2] := by simp [pc]
section
variable {w wr w2 : World} {W T : Int} {A : Option Addr} {n c : Nat} {v : Value} {l : List (Int × Bool)}
theorem PsW.below (H : PsW w wr W T A n c v l) (hb : Below wr.heap.size wr w2) : PsW w w2 W T A n c v l :=
  ⟨own_below H.own hb (Nat.le_refl _), H.box.below hb H.box.lt, H.bel.trans (hb.mono H.bel.size)⟩
theorem PsW.app {o : Obj} {v' : Value} {p : Int × Bool} (H : PsW w wr W T A n c v l) (ho : w2.ownsRow (w.heap.size + 1) 40 2 v' (l.length + 1) (pc l ++ [.int .i64 p.1, .bool p.2])) (hg : (wr.alloc o).grownBy w2 v.ownBlock) : PsW w w2 W T A n c v' (l ++ [p]) := by
  refine ⟨?_, (H.box.alloc o).grown hg (fun e => by have := own_block_ge H.own e.symm; omega), (H.bel.alloc H.bel.size o).grown hg (by have := H.bel.size; simp; omega) (fun g e => by have := own_block_ge H.own e; omega)⟩
  rw [List.length_append, List.length_singleton, pc_snoc]
  exact ho
theorem PsW.cells (H : PsW w wr W T A n c v l) : wr.cell? ⟨w.heap.size, 0, none⟩ = some (.int .i64 W) ∧ wr.cell? ⟨w.heap.size, 1, none⟩ = some (.int .i64 T) ∧ wr.cell? ⟨w.heap.size, 2, none⟩ = some (.slice A n c) := by
  have r0 := H.box.cell 0
  have r1 := H.box.cell 1
  have r2 := H.box.cell 2
  simp at r0 r1 r2
  exact ⟨r0, r1, r2⟩
end

set_option maxHeartbeats 1000000 in
set_option maxRecDepth 20000 in
theorem PushesByI_any (W T : Int) (A : Option Addr) (n c B : Nat) (bs : List Bool) (s m : Int) (w : World) (hbl : bs.length = n)
    (hr : Reads w B 1 A n (bs.map Value.bool)) (hB : B ≤ w.heap.size) (hn : n ≤ 9223372036854775807) :
    Calls Try.prog 27 #[.agg #[.int .i64 W, .int .i64 T, .slice A n c], .int .i64 s, .int .i64 m] w (RetPushes w (pushesByL W T bs s m)) := by
  have hSI := hide (SimpleI_any W T A n c B bs (w.alloc (boxR W T A n c)) (hr.alloc hB _) (by simp; omega) hn)
  by_cases hc : simpleB W T bs = true ∧ (0 ≤ s ∧ s ≤ 2147483647) ∧ (0 ≤ m ∧ m ≤ 128)
  · obtain ⟨hS, hs, hm⟩ := hc
    obtain ⟨M, rfl⟩ : ∃ M : Nat, m = M := ⟨m.toNat, by omega⟩
    have hM : M ≤ 128 := by omega
    rw [hS] at hSI
    have hv : validB W T bs = true := by
      cases hv : validB W T bs with
      | false => rw [simpleB_no hv] at hS; cases hS
      | true => rfl
    obtain ⟨R, hR, rfl, rfl, rfl⟩ := reg_of_valid hv
    subst hbl
    rw [pushesByL_yes hR hS hs hM]
    have hcn := cn_bd hR
    have I1 := inB_t hs
    have I2 := inB_t hm
    have hSD := seedN_in hs
    have HN := fun w' => hide (cornersN_any R hR A R.C.length c w')
    have hN0 : (4 : Int) ≤ (R.cn : Int) ∧ (R.cn : Int) ≤ 49 := by omega
    generalize (R.cn : Int) = N at *
    clear hS hv hcn hm
    have HSD := Lib.hid hSD
    clear hSD
    go_enter Try.func27, Try.ntmps27
    go_wp2_with fail
    refine (unhide hSI).mono ?_
    rintro e w0 ⟨rfl, hb0⟩
    obtain ⟨hB0, hk0, b0, b1, b2⟩ := box_keep hb0
    go_wp2_with (first
      | (go_at_call 88; refine (in_any _ _ _ _).mono ?_; rintro e w' ⟨rfl, rfl⟩))
    clear b0 b1 b2
    go_loopg [1, 7, 23] M (fun r s1 s7 s23 wr => ∃ k : Nat, k + r = M ∧ s1 = .int .i64 (seedN s (2 * k)) ∧ s23 = .int .i64 (k : Nat) ∧ PsW w wr R.W R.T A R.C.length c s7 (pushRun N s k))
    case atStart => exact ⟨0, by omega, rfl, rfl, ⟨rfl, .inl ⟨rfl, rfl⟩⟩, hk0, hB0⟩
    case round =>
      clear hk0 hB0 hb0
      obtain ⟨k, hk, rfl, rfl, hW⟩ := hrel
      have HK := Lib.hid hk
      clear hk
      by_cases hlt : k < M
      · have ht := HSD.out (2 * k)
        have ht1 := seedL_in ht
        have ht2 := seedL_in ht1
        have C1 := fun w' => hide (seedI (seedN s (2 * k)) w')
        have C2 := fun w' => hide (seedI (seedL (seedN s (2 * k))) w')
        have HT : Hid (seedN s (2 * (k + 1)) = seedL (seedL (seedN s (2 * k))) ∧ pushRun N s (k + 1) = pushRun N s k ++ [(seedL (seedN s (2 * k)) / 65536 % N, seedL (seedL (seedN s (2 * k))) / 65536 % 2 == 0)]) := Lib.hid ⟨rfl, rfl⟩
        have hlen := Lib.hid (pushRun_len N s k)
        generalize seedL (seedL (seedN s (2 * k))) = t2 at *
        generalize seedL (seedN s (2 * k)) = t1 at *
        generalize seedN s (2 * k) = t at *
        generalize pushRun N s k = L at *
        obtain ⟨b0, b1, b2⟩ := hW.cells
        go_wp2_with (go_at_call 92; first | (refine (unhide (C1 _)).mono ?_; rintro e w' ⟨rfl, rfl⟩) | (refine (unhide (C2 _)).mono ?_; rintro e w' ⟨rfl, rfl⟩))
        refine (unhide (HN _)).mono ?_
        rintro e w3 ⟨rfl, hb3⟩
        have hW3 := hW.below hb3
        clear b0 b1 b2
        go_wp2_with (first
          | (go_at_call 92; refine (unhide (C2 _)).mono ?_; rintro e w' ⟨rfl, rfl⟩)
          | (at_builtin; refine wpList_app_blk rfl _ _ _ rfl (w.heap.size + 1) 40 _ 2 16 Try.underlying35 info_push rfl (by omega) (by omega) _ _ _ rfl (hW3.own.alloc _) w3.heap.size 40 #[.int .i64 (t1 / 65536 % N), .bool (t2 / 65536 % 2 == 0)] rfl (Blk.new _ _ _) rfl (by simp [Value.oneCell']) (by have := hlen.out; omega) (by have := hW3.bel.size; simp; omega) ?_))
        intro g cc w2 ho hg _ _ _
        have hW2 := hW3.app (p := (t1 / 65536 % N, t2 / 65536 % 2 == 0)) ho hg
        go_wp2_with fail
        go_roundg (M - (k + 1))
        case measure => have := HK.out; omega
        case rel =>
          refine ⟨k + 1, by have := HK.out; omega, by rw [HT.out.1], by go_num, ?_⟩
          rw [HT.out.2]
          exact hW2
      · obtain rfl : k = M := by have := HK.out; omega
        obtain ⟨A', c', rfl, hc', _⟩ := own_form hW.own
        have hle := own_cap hW.own
        go_wp2_with (go_at_call 93; refine (clipP_any _ _ _ hc' hle _).mono ?_; rintro e w' ⟨rfl, rfl⟩)
        go_ret
        exact ⟨_, _, _, rfl, own_mono hW.own (by omega), hW.bel, by first | exact Nat.le_refl _ | omega | simp⟩
  · rw [pushesByL_no hc]
    have hnil : ∀ w1, Below w.heap.size w w1 → RetPushes w [] (.returned (.slice none 0 0)) w1 := fun w1 h => ⟨none, 0, 0, rfl, ⟨rfl, .inl ⟨rfl, rfl⟩⟩, h, Nat.le_refl _⟩
    cases hS : simpleB W T bs with
    | false =>
      rw [hS] at hSI
      clear hc hS
      go_enter Try.func27, Try.ntmps27
      go_wp2_with fail
      refine (unhide hSI).mono ?_
      rintro e w0 ⟨rfl, hb0⟩
      obtain ⟨hB0, hk0, b0, b1, b2⟩ := box_keep hb0
      go_wp2_with fail
      go_ret
      exact hnil _ hB0
    | true =>
      rw [hS] at hSI
      by_cases hs : 0 ≤ s ∧ s ≤ 2147483647
      · have I1 := inB_t hs
        have I2 : inB m 0 128 = false := inB_f fun h => hc ⟨hS, hs, h⟩
        clear hc hS hs
        go_enter Try.func27, Try.ntmps27
        go_wp2_with fail
        refine (unhide hSI).mono ?_
        rintro e w0 ⟨rfl, hb0⟩
        obtain ⟨hB0, hk0, b0, b1, b2⟩ := box_keep hb0
        go_wp2_with (first
          | (go_at_call 88; refine (in_any _ _ _ _).mono ?_; rintro e w' ⟨rfl, rfl⟩))
        go_ret
        exact hnil _ hB0
      · have I1 := inB_f hs
        clear hc hS hs
        go_enter Try.func27, Try.ntmps27
        go_wp2_with fail
        refine (unhide hSI).mono ?_
        rintro e w0 ⟨rfl, hb0⟩
        obtain ⟨hB0, hk0, b0, b1, b2⟩ := box_keep hb0
        go_wp2_with (first
          | (go_at_call 88; refine (in_any _ _ _ _).mono ?_; rintro e w' ⟨rfl, rfl⟩))
        go_ret
        exact hnil _ hB0

theorem psW_start (w : World) (W T : Int) (A : Option Addr) (n c : Nat) :
    PsW w ((w.alloc (boxR W T A n c)).alloc (.cells #[] 40)) W T A n c (.slice (some ⟨w.heap.size + 1, 0, none⟩) 0 0) [] := by
  have ho := World.ownsRow_made (base := w.heap.size + 1) (e := 40) (size := 2) (w.alloc (boxR W T A n c)) #[] 0 (by simp) (by simp [maxLen]) (by simp)
  exact ⟨by simpa [pc] using ho, (Blk.new w _ _).alloc _, ((Below.refl _ _).alloc (Nat.le_refl _) _).alloc (by simp) _⟩

set_option maxHeartbeats 1000000 in
set_option maxRecDepth 20000 in
theorem PushesByS_any (W T : Int) (A : Option Addr) (n c B : Nat) (bs : List Bool) (s m : Int) (w : World) (hbl : bs.length = n)
    (hr : Reads w B 1 A n (bs.map Value.bool)) (hB : B ≤ w.heap.size) (hn : n ≤ 9223372036854775807) :
    Calls Try.prog 29 #[.agg #[.int .i64 W, .int .i64 T, .slice A n c], .int .i64 s, .int .i64 m] w (RetPushes w (pushesByL W T bs s m)) := by
  have hSI := fun w' (h : Below w.heap.size w w') => hide (SimpleS_any W T A n c B bs w' (hr.below (h.mono hB)) (Nat.le_trans hB h.size) hn)
  by_cases h0 : m ≤ 0
  · rw [pushesByL_low h0]
    have d0 : decide ((0 : Int) < m) = false := decide_eq_false (by omega)
    clear hSI
    go_enter Try.func29, Try.ntmps29
    go_wp2_with fail
    go_loopg [1, 7, 8] 0 (fun r s1 s7 s8 wr => s1 = .int .i64 s ∧ s8 = .int .i64 0 ∧ PsW w wr W T A n c s7 [])
    case atStart => exact ⟨rfl, rfl, psW_start w W T A n c⟩
    case round =>
      obtain ⟨rfl, rfl, hW⟩ := hrel
      obtain ⟨A', c', rfl, hc', _⟩ := own_form hW.own
      obtain ⟨b0, b1, b2⟩ := hW.cells
      go_wp2_with fail
      go_ret
      exact ⟨_, _, _, rfl, own_mono hW.own (by omega), hW.bel, by first | exact Nat.le_refl _ | omega | simp⟩
  have d0 : decide ((0 : Int) < m) = true := decide_eq_true (by omega)
  cases hS : simpleB W T bs with
  | false =>
    rw [pushesByL_no fun h => by rw [hS] at h; cases h.1]
    simp only [hS] at hSI
    clear hS
    go_enter Try.func29, Try.ntmps29
    go_wp2_with fail
    go_loopg [1, 7, 8] 0 (fun r s1 s7 s8 wr => s1 = .int .i64 s ∧ s8 = .int .i64 0 ∧ PsW w wr W T A n c s7 [])
    case atStart => exact ⟨rfl, rfl, psW_start w W T A n c⟩
    case round =>
      obtain ⟨rfl, rfl, hW⟩ := hrel
      obtain ⟨A', c', rfl, hc', _⟩ := own_form hW.own
      obtain ⟨b0, b1, b2⟩ := hW.cells
      go_wp2_with fail
      refine (unhide (hSI _ hW.bel)).mono ?_
      rintro e w1 ⟨rfl, hb1⟩
      have hW1 := hW.below hb1
      clear b0 b1 b2
      go_wp2_with (first
        | (go_at_call 76; refine (l1In_any _ _ _ _).mono ?_; rintro e w' ⟨rfl, rfl⟩))
      go_ret
      exact ⟨_, _, _, rfl, own_mono hW1.own (by omega), hW1.bel, by first | exact Nat.le_refl _ | omega | simp⟩
  | true =>
    simp only [hS] at hSI
    by_cases hm : 0 ≤ m ∧ m ≤ 128
    · have I2 := inB_t hm
      by_cases hs : 0 ≤ s ∧ s ≤ 2147483647
      · obtain ⟨M, rfl⟩ : ∃ M : Nat, m = M := ⟨m.toNat, by omega⟩
        have hM : M ≤ 128 := by omega
        have hv : validB W T bs = true := by
          cases hv : validB W T bs with
          | false => rw [simpleB_no hv] at hS; cases hS
          | true => rfl
        obtain ⟨R, hR, rfl, rfl, rfl⟩ := reg_of_valid hv
        subst hbl
        rw [pushesByL_yes hR hS hs hM]
        have hcn := cn_bd hR
        have hSD := seedN_in hs
        have HN := fun w' (h : Below w.heap.size w w') => hide (cornerManySN_ok R hR A c B w' (hr.below (h.mono hB)) (Nat.le_trans hB h.size))
        have hN0 : (4 : Int) ≤ (R.cn : Int) ∧ (R.cn : Int) ≤ 49 := by omega
        generalize (R.cn : Int) = N at *
        clear hS hv hcn hm d0 h0
        have HSD := Lib.hid hSD
        clear hSD
        go_enter Try.func29, Try.ntmps29
        go_wp2_with fail
        go_loopg [1, 7, 8] M (fun r s1 s7 s8 wr => ∃ k : Nat, k + r = M ∧ s1 = .int .i64 (seedN s (2 * k)) ∧ s8 = .int .i64 (k : Nat) ∧ PsW w wr R.W R.T A R.C.length c s7 (pushRun N s k))
        case atStart => exact ⟨0, by omega, rfl, rfl, psW_start w _ _ _ _ _⟩
        case round =>
          obtain ⟨k, hk, rfl, rfl, hW⟩ := hrel
          have HK := Lib.hid hk
          clear hk
          by_cases hlt : k < M
          · have ht := HSD.out (2 * k)
            have I1 := inB_t ht
            have ht1 := seedL_in ht
            have ht2 := seedL_in ht1
            have C1 := fun w' => hide (seedS (seedN s (2 * k)) w')
            have C2 := fun w' => hide (seedS (seedL (seedN s (2 * k))) w')
            have HT : Hid (seedN s (2 * (k + 1)) = seedL (seedL (seedN s (2 * k))) ∧ pushRun N s (k + 1) = pushRun N s k ++ [(seedL (seedN s (2 * k)) / 65536 % N, seedL (seedL (seedN s (2 * k))) / 65536 % 2 == 0)]) := Lib.hid ⟨rfl, rfl⟩
            have hlen := Lib.hid (pushRun_len N s k)
            generalize seedL (seedL (seedN s (2 * k))) = t2 at *
            generalize seedL (seedN s (2 * k)) = t1 at *
            generalize seedN s (2 * k) = t at *
            generalize pushRun N s k = L at *
            obtain ⟨b0, b1, b2⟩ := hW.cells
            go_wp2_with fail
            refine (unhide (hSI _ hW.bel)).mono ?_
            rintro e w1 ⟨rfl, hb1⟩
            have hW1 := hW.below hb1
            clear hW hb1 b0 b1 b2
            obtain ⟨b0, b1, b2⟩ := hW1.cells
            go_wp2_with (first
              | (go_at_call 76; refine (l1In_any _ _ _ _).mono ?_; rintro e w' ⟨rfl, rfl⟩)
              | (go_at_call 94; first | (refine (unhide (C1 _)).mono ?_; rintro e w' ⟨rfl, rfl⟩) | (refine (unhide (C2 _)).mono ?_; rintro e w' ⟨rfl, rfl⟩)))
            refine (unhide (HN _ hW1.bel)).mono ?_
            rintro e w3 ⟨rfl, hb3⟩
            have hW3 := hW1.below hb3
            clear b0 b1 b2
            go_wp2_with (first
              | (go_at_call 94; refine (unhide (C2 _)).mono ?_; rintro e w' ⟨rfl, rfl⟩)
              | (at_builtin; refine wpList_app_blk rfl _ _ _ rfl (w.heap.size + 1) 40 _ 2 16 Try.underlying35 info_push rfl (by omega) (by omega) _ _ _ rfl (hW3.own.alloc _) w3.heap.size 40 #[.int .i64 (t1 / 65536 % N), .bool (t2 / 65536 % 2 == 0)] rfl (Blk.new _ _ _) rfl (by simp [Value.oneCell']) (by have := hlen.out; omega) (by have := hW3.bel.size; simp; omega) ?_))
            intro g cc w2 ho hg _ _ _
            have hW2 := hW3.app (p := (t1 / 65536 % N, t2 / 65536 % 2 == 0)) ho hg
            go_wp2_with fail
            go_roundg (M - (k + 1))
            case measure => have := HK.out; omega
            case rel =>
              refine ⟨k + 1, by have := HK.out; omega, by rw [HT.out.1], by go_num, ?_⟩
              rw [HT.out.2]
              exact hW2
          · obtain rfl : k = M := by have := HK.out; omega
            obtain ⟨A', c', rfl, hc', _⟩ := own_form hW.own
            go_wp2_with fail
            go_ret
            exact ⟨_, _, _, rfl, own_mono hW.own (by omega), hW.bel, by first | exact Nat.le_refl _ | omega | simp⟩
      · have I1 := inB_f hs
        rw [pushesByL_no fun h => hs h.2.1]
        clear hS hs
        go_enter Try.func29, Try.ntmps29
        go_wp2_with fail
        go_loopg [1, 7, 8] 0 (fun r s1 s7 s8 wr => s1 = .int .i64 s ∧ s8 = .int .i64 0 ∧ PsW w wr W T A n c s7 [])
        case atStart => exact ⟨rfl, rfl, psW_start w W T A n c⟩
        case round =>
          obtain ⟨rfl, rfl, hW⟩ := hrel
          obtain ⟨A', c', rfl, hc', _⟩ := own_form hW.own
          obtain ⟨b0, b1, b2⟩ := hW.cells
          go_wp2_with fail
          refine (unhide (hSI _ hW.bel)).mono ?_
          rintro e w1 ⟨rfl, hb1⟩
          have hW1 := hW.below hb1
          clear b0 b1 b2
          go_wp2_with (first
            | (go_at_call 76; refine (l1In_any _ _ _ _).mono ?_; rintro e w' ⟨rfl, rfl⟩))
          go_ret
          exact ⟨_, _, _, rfl, own_mono hW1.own (by omega), hW1.bel, by first | exact Nat.le_refl _ | omega | simp⟩
    · have I2 := inB_f hm
      rw [pushesByL_no fun h => hm h.2.2]
      clear hS hm
      go_enter Try.func29, Try.ntmps29
      go_wp2_with fail
      go_loopg [1, 7, 8] 0 (fun r s1 s7 s8 wr => s1 = .int .i64 s ∧ s8 = .int .i64 0 ∧ PsW w wr W T A n c s7 [])
      case atStart => exact ⟨rfl, rfl, psW_start w W T A n c⟩
      case round =>
        obtain ⟨rfl, rfl, hW⟩ := hrel
        obtain ⟨A', c', rfl, hc', _⟩ := own_form hW.own
        obtain ⟨b0, b1, b2⟩ := hW.cells
        go_wp2_with fail
        refine (unhide (hSI _ hW.bel)).mono ?_
        rintro e w1 ⟨rfl, hb1⟩
        have hW1 := hW.below hb1
        clear b0 b1 b2
        go_wp2_with (first
          | (go_at_call 76; refine (l1In_any _ _ _ _).mono ?_; rintro e w' ⟨rfl, rfl⟩))
        go_ret
        exact ⟨_, _, _, rfl, own_mono hW1.own (by omega), hW1.bel, by first | exact Nat.le_refl _ | omega | simp⟩

end Go.Proofs.Ytpeifojfpkkcpaa
