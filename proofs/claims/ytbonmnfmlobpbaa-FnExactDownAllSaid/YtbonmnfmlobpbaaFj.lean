/-
  YtbonmnfmlobpbaaFj: rising, DownOf and UpOf of the program.
-/
import Derived.Test.YtbonmnfmlobpbaaFi
namespace Go.Proofs.Ytbonmnfmlobpbaa
open Go.RowKit

set_option maxHeartbeats 1000000 in
set_option maxRecDepth 20000 in
theorem rising_any (R : Reg) (hR : R.ok) (hS : SimpleP R) (A : Option Addr) (c B : Nat) (L : List Int) (D : Option Addr) (d : Nat) (by_ : Int) (hP : Plain D) (hL : Lay R L) (hF : Full R L) (w : World)
    (hr : Reads w B 1 A R.C.length (R.C.map Value.bool)) (hd : Reads w B 1 D R.C.length (L.map (Value.int .i64))) (hB : B ≤ w.heap.size) :
    Calls Try.prog 68 #[.agg #[.int .i64 R.W, .int .i64 R.T, .slice A R.C.length c], .slice D R.C.length d, .int .i64 by_] w (ClipInts w (flL R L fun k => rsZ R L (k : Int) == by_)) := by
  obtain ⟨w3, hw3⟩ : ∃ w3, w3 = ((w.alloc (boxR R.W R.T A R.C.length c)).alloc (.cells #[.slice D R.C.length d] 25)).alloc (.cells #[.int .i64 by_] 3) := ⟨_, rfl⟩
  have k1 : Blk w3 w.heap.size 29 #[.int .i64 R.W, .int .i64 R.T, .slice A R.C.length c] := by
    rw [hw3]; exact ((Blk.new w _ _).alloc _).alloc _
  have k2 : Blk w3 (w.heap.size + 1) 25 #[.slice D R.C.length d] := by
    rw [hw3]
    have := (Blk.new (w.alloc (boxR R.W R.T A R.C.length c)) 25 #[.slice D R.C.length d]).alloc (.cells #[.int .i64 by_] 3)
    simpa using this
  have k3 : Blk w3 (w.heap.size + 2) 3 #[.int .i64 by_] := by
    rw [hw3]
    have := Blk.new ((w.alloc (boxR R.W R.T A R.C.length c)).alloc (.cells #[.slice D R.C.length d] 25)) 3 #[.int .i64 by_]
    simpa using this
  have hB3 : Below w.heap.size w w3 := by
    rw [hw3]
    exact (((Below.refl _ _).alloc (Nat.le_refl _) _).alloc (by simp) _).alloc (by simp; omega) _
  have hfl := hide (flips_any 111 #[.pointer (some ⟨w.heap.size, 0, none⟩), .pointer (some ⟨w.heap.size + 1, 0, none⟩), .pointer (some ⟨w.heap.size + 2, 0, none⟩)] (fun k => rsZ R L (k : Int) == by_) R hR A c B L D d w3 enters_rising
    (fun k w' hk _ hb => by
      have j1 := k1.below hb k1.lt
      have j2 := (k2.below hb k2.lt).cell 0
      have j3 := (k3.below hb k3.lt).cell 0
      simp at j2 j3
      exact risingClos_any R hR hS A c B L D d k hk by_ _ _ _ hP hL hF w' (hr.below ((hB3.trans (hb.mono hB3.size)).mono hB)) (hd.below ((hB3.trans (hb.mono hB3.size)).mono hB)) (Nat.le_trans hB (Nat.le_trans hB3.size hb.size)) j1 j2 j3)
    (hd.below (hB3.mono hB)) (Nat.le_trans hB hB3.size))
  obtain ⟨b0, b1, b2⟩ := blk3 k1
  have b3 := k2.cell 0
  simp at b3
  clear k1 k2 k3 hL hF hr hd
  generalize (flL R L fun k => rsZ R L (k : Int) == by_) = V at *
  go_enter Try.func68, Try.ntmps68
  go_upto_region 1 with fail
  rw [← hw3]
  clear hw3
  go_wp2_with fail
  refine (unhide hfl).mono ?_
  rintro e w4 ⟨A', c', rfl, ho, hb4⟩
  go_wp2_with fail
  go_ret
  exact ⟨A', c', rfl, own_mono ho hB3.size, hB3.trans (hb4.mono hB3.size)⟩

/-- The corners whose flip changes the height by so much. -/
noncomputable def rgV (W T : Int) (bs : List Bool) (L : List Int) (by_ : Int) : List Int := if tiledB W T bs L = true then flL ⟨W.toNat, T.toNat, bs⟩ L (fun k => rsZ ⟨W.toNat, T.toNat, bs⟩ L (k : Int) == by_) else []
theorem rgV_yes {R : Reg} {L : List Int} {b : Int} (h : tiledB R.W R.T R.C L = true) : rgV R.W R.T R.C L b = flL R L fun k => rsZ R L (k : Int) == b := by unfold rgV; rw [if_pos h]; rfl
theorem rgV_no {W T : Int} {bs : List Bool} {L : List Int} {b : Int} (h : tiledB W T bs L = false) : rgV W T bs L b = [] := by unfold rgV; rw [h]; rfl
theorem rgV_len {W T : Int} {bs : List Bool} {L : List Int} {b : Int} : (rgV W T bs L b).length ≤ 49 := by
  cases h : tiledB W T bs L with
  | false => rw [rgV_no h]; simp
  | true =>
    obtain ⟨R, hR, rfl, rfl, rfl, _⟩ := tiled_cases h
    rw [rgV_yes h]
    exact Nat.le_trans (flTo_len _ _ _ _) (cn_bd hR).2

theorem downOfI_any (W T : Int) (A : Option Addr) (n c B : Nat) (bs : List Bool) (L : List Int) (D : Option Addr) (m d : Nat) (hP : Plain D) (w : World) (hbl : bs.length = n) (hL : L.length = m)
    (hr : Reads w B 1 A n (bs.map Value.bool)) (hd : Reads w B 1 D m (L.map (Value.int .i64))) (hB : B ≤ w.heap.size) (hn : n ≤ 9223372036854775807) (hm : m ≤ 9223372036854775807) :
    Calls Try.prog 32 #[.agg #[.int .i64 W, .int .i64 T, .slice A n c], .slice D m d] w (RetInts w (rgV W T bs L (-4))) := by
  have hTI := hide (tiled_any W T A n c B bs L D m d (w.alloc (boxR W T A n c)) hbl hL (hr.alloc hB _) (hd.alloc hB _) (by simp; omega) hn hm)
  cases ht : tiledB W T bs L with
  | false =>
    rw [ht] at hTI
    rw [rgV_no ht]
    clear ht
    go_enter Try.func32, Try.ntmps32
    go_wp2_with fail
    refine (unhide hTI).mono ?_
    rintro e w0 ⟨rfl, hb0⟩
    go_wp2_with fail
    go_ret
    exact ⟨none, 0, 0, rfl, ⟨rfl, .inl ⟨rfl, rfl⟩⟩, (box_keep hb0).1⟩
  | true =>
    rw [ht] at hTI
    obtain ⟨R, hR, rfl, rfl, rfl, hS, hLy, hF⟩ := tiled_cases ht
    rw [rgV_yes ht]
    subst hbl
    obtain rfl : m = R.C.length := by rw [← hL]; exact hLy.len
    have HR := fun w' (h : Below w.heap.size w w') => hide (rising_any R hR hS A c B L D d (-4) hP hLy hF w' (hr.below (h.mono hB)) (hd.below (h.mono hB)) (Nat.le_trans hB h.size))
    clear ht
    generalize (flL R L fun k => rsZ R L (k : Int) == -4) = V at *
    go_enter Try.func32, Try.ntmps32
    go_wp2_with fail
    refine (unhide hTI).mono ?_
    rintro e w0 ⟨rfl, hb0⟩
    obtain ⟨hB0, hk0, b0, b1, b2⟩ := box_keep hb0
    go_wp2_with fail
    refine (unhide (HR _ hB0)).mono ?_
    rintro e w1 ⟨A', c', rfl, ho, hb1⟩
    go_wp2_with fail
    go_ret
    exact ⟨A', c', _, rfl, own_mono ho hB0.size, hB0.trans (hb1.mono hB0.size)⟩

theorem upOfI_any (W T : Int) (A : Option Addr) (n c B : Nat) (bs : List Bool) (L : List Int) (D : Option Addr) (m d : Nat) (hP : Plain D) (w : World) (hbl : bs.length = n) (hL : L.length = m)
    (hr : Reads w B 1 A n (bs.map Value.bool)) (hd : Reads w B 1 D m (L.map (Value.int .i64))) (hB : B ≤ w.heap.size) (hn : n ≤ 9223372036854775807) (hm : m ≤ 9223372036854775807) :
    Calls Try.prog 34 #[.agg #[.int .i64 W, .int .i64 T, .slice A n c], .slice D m d] w (RetInts w (rgV W T bs L 4)) := by
  have hTI := hide (tiled_any W T A n c B bs L D m d (w.alloc (boxR W T A n c)) hbl hL (hr.alloc hB _) (hd.alloc hB _) (by simp; omega) hn hm)
  cases ht : tiledB W T bs L with
  | false =>
    rw [ht] at hTI
    rw [rgV_no ht]
    clear ht
    go_enter Try.func34, Try.ntmps34
    go_wp2_with fail
    refine (unhide hTI).mono ?_
    rintro e w0 ⟨rfl, hb0⟩
    go_wp2_with fail
    go_ret
    exact ⟨none, 0, 0, rfl, ⟨rfl, .inl ⟨rfl, rfl⟩⟩, (box_keep hb0).1⟩
  | true =>
    rw [ht] at hTI
    obtain ⟨R, hR, rfl, rfl, rfl, hS, hLy, hF⟩ := tiled_cases ht
    rw [rgV_yes ht]
    subst hbl
    obtain rfl : m = R.C.length := by rw [← hL]; exact hLy.len
    have HR := fun w' (h : Below w.heap.size w w') => hide (rising_any R hR hS A c B L D d 4 hP hLy hF w' (hr.below (h.mono hB)) (hd.below (h.mono hB)) (Nat.le_trans hB h.size))
    clear ht
    generalize (flL R L fun k => rsZ R L (k : Int) == 4) = V at *
    go_enter Try.func34, Try.ntmps34
    go_wp2_with fail
    refine (unhide hTI).mono ?_
    rintro e w0 ⟨rfl, hb0⟩
    obtain ⟨hB0, hk0, b0, b1, b2⟩ := box_keep hb0
    go_wp2_with fail
    refine (unhide (HR _ hB0)).mono ?_
    rintro e w1 ⟨A', c', rfl, ho, hb1⟩
    go_wp2_with fail
    go_ret
    exact ⟨A', c', _, rfl, own_mono ho hB0.size, hB0.trans (hb1.mono hB0.size)⟩

end Go.Proofs.Ytbonmnfmlobpbaa
