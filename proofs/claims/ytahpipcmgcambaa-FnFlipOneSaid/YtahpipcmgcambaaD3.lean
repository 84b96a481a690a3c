/-
  YtahpipcmgcambaaD3: l2Complete, Complete and TilingFirst of the reference (as far as the draws need it).
-/
import Derived.Test.YtahpipcmgcambaaTd
namespace Go.Proofs.Ytahpipcmgcambaa
open Go.RowKit

/-- A list in a row of its own. -/
def LiAt (w : World) (b : Nat) (v : Value) (L : List Int) : Prop :=
  ∃ A c1 c2, v = .slice A L.length c1 ∧ w.ownsRow b 3 1 (.slice A L.length c2) L.length (L.map (Value.int .i64))
theorem LiAt.below {w w2 : World} {b : Nat} {v : Value} {L : List Int} (h : LiAt w b v L) (hb : Below w.heap.size w w2) : LiAt w2 b v L := by
  obtain ⟨A, c1, c2, e, ho⟩ := h
  exact ⟨A, c1, c2, e, own_below ho hb (Nat.le_refl _)⟩
theorem LiAt.mono {w : World} {b b' : Nat} {v : Value} {L : List Int} (h : LiAt w b v L) (hb : b' ≤ b) : LiAt w b' v L := by
  obtain ⟨A, c1, c2, e, ho⟩ := h
  exact ⟨A, c1, c2, e, own_mono ho hb⟩
/-- What Complete leaves: a list; it lays dominoes if it says so. -/
def CoRet (b : Nat) (w : World) (R : Reg) (e : Ending) (w' : World) : Prop :=
  ∃ v ok M, e = .returned (.tuple #[v, .bool ok]) ∧ LiAt w' b v M ∧ M.length ≤ 36 ∧ (ok = true → Lay R M) ∧ Below w.heap.size w w'
structure CW (w wr : World) (R : Reg) (A : Option Addr) (c b g c' : Nat) (L : List Int) : Prop where
  bel : Below w.heap.size w wr
  box : Blk wr w.heap.size 25 #[.int .i64 R.W, .int .i64 R.T, .slice A R.C.length c]
  own : wr.ownsRow b 3 1 (.slice (some ⟨g, 0, none⟩) R.C.length c') R.C.length (L.map (Value.int .i64))
theorem CW.below {w wr w2 : World} {R : Reg} {A : Option Addr} {c b g c' : Nat} {L : List Int} (H : CW w wr R A c b g c' L) (hb : Below wr.heap.size wr w2) : CW w w2 R A c b g c' L :=
  ⟨H.bel.trans (hb.mono H.bel.size), H.box.below hb H.box.lt, own_below H.own hb (Nat.le_refl _)⟩

set_option maxHeartbeats 1000000 in
theorem compS_none (R : Reg) (hR : R.ok) (A : Option Addr) (c B b : Nat) (hBb : B ≤ b) (L : List Int) (g c' d : Nat) (w : World) (hL : Lay R L) (hfn : fiV R L = none)
    (hr : Reads w B 1 A R.C.length (R.C.map Value.bool)) (hb : b ≤ w.heap.size) (ho : w.ownsRow b 3 1 (.slice (some ⟨g, 0, none⟩) R.C.length c') R.C.length (L.map (Value.int .i64))) :
    Calls Try.prog 153 #[.agg #[.int .i64 R.W, .int .i64 R.T, .slice A R.C.length c], .slice (some ⟨g, 0, none⟩) R.C.length d] w (CoRet b w R) := by
  have hl36 := (len_bd hR).2
  have hW0 : CW w (w.alloc (boxR R.W R.T A R.C.length c)) R A c b g c' L := ⟨(Below.refl _ _).alloc (Nat.le_refl _) _, Blk.new _ _ _, ho.alloc _⟩
  have hFR := fun w' (h : Below w.heap.size w w') (hown : w'.ownsRow b 3 1 (.slice (some ⟨g, 0, none⟩) R.C.length c') R.C.length (L.map (Value.int .i64))) => hide (firstS_any R hR A c w'.heap.size L (some ⟨g, 0, none⟩) d hL.len w' ((hr.below (h.mono (Nat.le_trans hBb hb))).more (Nat.le_trans (Nat.le_trans hBb hb) h.size)) (Reads.of_own hown) (Nat.le_refl _))
  simp only [fiZ_none hfn] at hFR
  have HLL := Lib.hid hL.len
  clear hfn hr ho
  go_enter Try.func153, Try.ntmps153
  go_wp2_with fail
  refine (unhide (hFR _ hW0.bel hW0.own)).mono ?_
  rintro e w1 ⟨rfl, hb1⟩
  have hW1 := hW0.below hb1
  clear hW0 hb1 hFR
  go_wp2_with fail
  go_ret2
  exact ⟨.slice (some ⟨g, 0, none⟩) R.C.length d, true, L, rfl, ⟨some ⟨g, 0, none⟩, d, c', by rw [HLL.out], by rw [HLL.out]; exact hW1.own⟩, by rw [HLL.out]; exact hl36, fun _ => hL, hW1.bel⟩

set_option maxHeartbeats 4000000 in
set_option maxRecDepth 20000 in
theorem compS_any (R : Reg) (hR : R.ok) (A : Option Addr) (c B b : Nat) (hBb : B ≤ b) : ∀ (f : Nat) (L : List Int) (g c' d : Nat) (w : World) (_ : f ≤ 18) (_ : Lay R L) (_ : opN R L ≤ 2 * f)
    (_ : Reads w B 1 A R.C.length (R.C.map Value.bool)) (_ : b ≤ w.heap.size) (_ : w.ownsRow b 3 1 (.slice (some ⟨g, 0, none⟩) R.C.length c') R.C.length (L.map (Value.int .i64))),
    Calls Try.prog 153 #[.agg #[.int .i64 R.W, .int .i64 R.T, .slice A R.C.length c], .slice (some ⟨g, 0, none⟩) R.C.length d] w (CoRet b w R) := by
  intro f
  induction f with
  | zero =>
    intro L g c' d w _ hL hn hr hb ho
    have hfn := opN_zero (R := R) (L := L) (by omega)
    exact compS_none R hR A c B b hBb L g c' d w hL hfn hr hb ho
  | succ f ih =>
    intro L g c' d w hf18 hL hn hr hb ho
    have hl36 := (len_bd hR).2
    have hl1 := (len_bd hR).1
    have hW0 : CW w (w.alloc (boxR R.W R.T A R.C.length c)) R A c b g c' L := ⟨(Below.refl _ _).alloc (Nat.le_refl _) _, Blk.new _ _ _, ho.alloc _⟩
    have hFR := fun w' (h : Below w.heap.size w w') (hown : w'.ownsRow b 3 1 (.slice (some ⟨g, 0, none⟩) R.C.length c') R.C.length (L.map (Value.int .i64))) => hide (firstS_any R hR A c w'.heap.size L (some ⟨g, 0, none⟩) d hL.len w' ((hr.below (h.mono (Nat.le_trans hBb hb))).more (Nat.le_trans (Nat.le_trans hBb hb) h.size)) (Reads.of_own hown) (Nat.le_refl _))
    have hLO := fun (k : Nat) (hk : k < R.C.length) (way : Int) (hw : 1 ≤ way ∧ way ≤ 4) w' (h : Below w.heap.size w w') (hown : w'.ownsRow b 3 1 (.slice (some ⟨g, 0, none⟩) R.C.length c') R.C.length (L.map (Value.int .i64))) => hide (layOneS_any R hR A c w'.heap.size L (some ⟨g, 0, none⟩) d k hk way hw hL w' ((hr.below (h.mono (Nat.le_trans hBb hb))).more (Nat.le_trans (Nat.le_trans hBb hb) h.size)) (Reads.of_own hown) (Nat.le_refl _))
    have hIH := fun (k : Nat) (way : Int) (hw : way = 1 ∨ way = 2) (hf : frB R L k way = true) (w' : World) (g2 c2 d2 : Nat) (hb' : Below w.heap.size w w') (ho' : w'.ownsRow b 3 1 (.slice (some ⟨g2, 0, none⟩) R.C.length c2) R.C.length ((lyV R L k way).map (Value.int .i64))) =>
      hide (ih (lyV R L k way) g2 c2 d2 w' (by omega) (lay_lyV hR hL (by rcases hw with rfl | rfl <;> rfl) hf) (by have := opN_lay hR hL.len (by omega) hf; omega) (hr.below (hb'.mono (Nat.le_trans hBb hb))) (Nat.le_trans hb hb'.size) ho')
    clear ih
    cases hfi : fiV R L with
    | none => exact compS_none R hR A c B b hBb L g c' d w hL hfi hr hb ho
    | some k =>
      have hklt := (fiV_some.1 hfi).1
      simp only [fiZ_some hfi] at hFR
      have hneg : decide ((k : Int) < 0) = false := decide_eq_false (by omega)
      clear hfi hr ho
      go_enter Try.func153, Try.ntmps153
      go_wp2_with fail
      refine (unhide (hFR _ hW0.bel hW0.own)).mono ?_
      rintro e w1 ⟨rfl, hb1⟩
      have hW1 := hW0.below hb1
      clear hW0 hb1 hFR
      go_wp2_with fail
      go_loopg [7] 2 (fun r s5 wr => ∃ (j : Nat), j + r = 2 ∧ s5 = .int .i64 ((j : Int) + 1) ∧ CW w wr R A c b g c' L)
      case atStart => exact ⟨0, by omega, rfl, hW1⟩
      case round =>
        clear hW1
        obtain ⟨j, hj, rfl, hW⟩ := hrel
        have HJ := Lib.hid hj
        obtain ⟨b0, b1, b2⟩ := blk3 hW.box
        by_cases hj2 : j < 2
        · have hw : ((j : Int) + 1 = 1 ∨ (j : Int) + 1 = 2) := by omega
          have hLk := hLO k hklt ((j : Int) + 1) (by omega) _ hW.bel hW.own
          have hle2 : decide ((j : Int) + 1 ≤ 2) = true := decide_eq_true (by omega)
          clear hj
          cases hfb : frB R L k ((j : Int) + 1) with
          | false =>
            rw [hfb] at hLk
            clear hfb hIH
            go_wp2_with fail
            refine (unhide hLk).mono ?_
            rintro e w2 ⟨g2, c2, c3, rfl, ho2, hb2⟩
            have hW2 := hW.below hb2
            clear hW hb2 b0 b1 b2 hLk ho2
            go_wp2_with fail
            go_roundg (2 - (j + 1))
            case measure => have := HJ.out; omega
            case rel => exact ⟨j + 1, by have := HJ.out; omega, by go_num, hW2⟩
          | true =>
            rw [hfb] at hLk
            rw [if_pos rfl] at hLk
            have hI := fun w' g2 c2 d2 hb' ho' => hIH k ((j : Int) + 1) hw hfb w' g2 c2 d2 hb' ho'
            clear hfb hIH
            go_wp2_with fail
            refine (unhide hLk).mono ?_
            rintro e w2 ⟨g2, c2, c3, rfl, ho2, hb2⟩
            have hW2 := hW.below hb2
            have hI2 := hI w2 g2 c3 c2 hW2.bel (own_mono ho2 (Nat.le_trans hb hW.bel.size))
            clear hW hb2 b0 b1 b2 hLk hI ho2
            obtain ⟨b0, b1, b2⟩ := blk3 hW2.box
            go_wp2_with fail
            refine (unhide hI2).mono ?_
            rintro e w3 ⟨v3, ok, M, rfl, hl3, hm3, hok, hb3⟩
            have hW3 := hW2.below hb3
            clear hW2 hb3 b0 b1 b2 hI2
            cases ok with
            | true =>
              go_wp2_with fail
              go_ret2
              exact ⟨v3, true, M, rfl, hl3, hm3, fun _ => hok trivial, hW3.bel⟩
            | false =>
              go_wp2_with fail
              go_roundg (2 - (j + 1))
              case measure => have := HJ.out; omega
              case rel => exact ⟨j + 1, by have := HJ.out; omega, by go_num, hW3⟩
        · have hle2 : decide ((j : Int) + 1 ≤ 2) = false := decide_eq_false (by omega)
          clear hj hIH hLO
          go_wp2_with fail
          go_ret2
          have hho := World.ownsRow_made (base := b) (e := 3) (size := 1) wr #[] 0 (Nat.le_trans hb hW.bel.size) (by simp [maxLen]) (by simp)
          exact ⟨.slice (some ⟨wr.heap.size, 0, none⟩) 0 0, false, [], rfl, ⟨some ⟨wr.heap.size, 0, none⟩, 0, 0, rfl, by simpa using hho⟩, by simp, (fun h => by cases h), hW.bel.alloc hW.bel.size _⟩

end Go.Proofs.Ytahpipcmgcambaa
