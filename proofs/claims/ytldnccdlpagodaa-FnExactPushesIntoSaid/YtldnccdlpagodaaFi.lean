/-
  YtldnccdlpagodaaFi: the corners that can be flipped and for which something holds, in the program.
-/
import Derived.Test.YtldnccdlpagodaaFr
import Derived.Laws.EntriesVeiled
import Derived.Shelf.Abstract
namespace Go.Proofs.Ytldnccdlpagodaa
open Go.RowKit

structure FW (w wr : World) (R : Reg) (A : Option Addr) (c : Nat) (v : Value) (l : List Int) : Prop where
  own : wr.ownsRow (w.heap.size + 1) 3 1 v l.length (l.map (Value.int .i64))
  box : Blk wr w.heap.size 29 #[.int .i64 R.W, .int .i64 R.T, .slice A R.C.length c]
  bel : Below w.heap.size w wr
section
variable {w wr w2 : World} {R : Reg} {A : Option Addr} {c : Nat} {v : Value} {l : List Int}
theorem FW.below (H : FW w wr R A c v l) (hb : Below wr.heap.size wr w2) : FW w w2 R A c v l :=
  ⟨own_below H.own hb (Nat.le_refl _), H.box.below hb H.box.lt, H.bel.trans (hb.mono H.bel.size)⟩
theorem FW.app {o : Obj} {v' : Value} {x : Int} (H : FW w wr R A c v l) (ho : w2.ownsRow (w.heap.size + 1) 3 1 v' (l.length + 1) (l.map (Value.int .i64) ++ [.int .i64 x])) (hg : (wr.alloc o).grownBy w2 v.ownBlock) : FW w w2 R A c v' (l ++ [x]) := by
  have hge : ∀ g, v.ownBlock = some g → w.heap.size + 1 ≤ g := fun g h => own_block_ge H.own h
  refine ⟨by rw [List.length_append, List.map_append]; exact ho, (H.box.alloc o).grown hg ?_, (H.bel.alloc H.bel.size o).grown hg (by have := H.bel.size; simp; omega) (fun g h => by have := hge g h; omega)⟩
  intro h
  have := hge _ h.symm
  omega
theorem FW.cells (H : FW w wr R A c v l) : wr.cell? ⟨w.heap.size, 0, none⟩ = some (.int .i64 R.W) ∧ wr.cell? ⟨w.heap.size, 1, none⟩ = some (.int .i64 R.T) ∧ wr.cell? ⟨w.heap.size, 2, none⟩ = some (.slice A R.C.length c) := by
  have r0 := H.box.cell 0
  have r1 := H.box.cell 1
  have r2 := H.box.cell 2
  simp at r0 r1 r2
  exact ⟨r0, r1, r2⟩
end

theorem own_cap2 {w : World} {base : Nat} {e : TypeId} {size : Nat} {A : Option Addr} {n c : Nat} {xs : List Value} (h : w.ownsRow base e size (.slice A n c) n xs) : c ≤ 9223372036854775807 := by
  rcases h.2 with ⟨h0, _⟩ | ⟨g, cap, cur, hv, _, _, _, h4, _⟩
  · injection h0; omega
  · simp only [Value.slice.injEq] at hv
    obtain ⟨_, _, rfl⟩ := hv
    simpa only [maxLen] using h4

/-- The corners up to k that can be flipped and for which p holds. -/
def flTo (R : Reg) (L : List Int) (p : Nat → Bool) (k : Nat) : List Int := ((List.range k).filter fun (j : Nat) => flB R L ((j : Nat) : Int) && p j).map fun (j : Nat) => ((j : Nat) : Int)
def flL (R : Reg) (L : List Int) (p : Nat → Bool) : List Int := flTo R L p R.cn
theorem flTo_yes {R : Reg} {L : List Int} {p : Nat → Bool} {k : Nat} (h : flB R L (k : Int) = true) (hp : p k = true) : flTo R L p (k + 1) = flTo R L p k ++ [(k : Int)] := by
  unfold flTo
  rw [List.range_succ, List.filter_append, List.map_append, List.filter_cons, if_pos (by rw [h, hp]; rfl)]; rfl
theorem flTo_no {R : Reg} {L : List Int} {p : Nat → Bool} {k : Nat} (h : (flB R L (k : Int) && p k) = false) : flTo R L p (k + 1) = flTo R L p k := by
  unfold flTo
  rw [List.range_succ, List.filter_append, List.filter_cons, if_neg (by rw [h]; decide)]
  simp
theorem flTo_len (R : Reg) (L : List Int) (p : Nat → Bool) (k : Nat) : (flTo R L p k).length ≤ k := by
  unfold flTo
  rw [List.length_map]
  exact Nat.le_trans (List.length_filter_le _ _) (by simp)

/-- A function that answers for corners. -/
def May (fid : FuncId) (caps : Array Value) (p : Nat → Bool) (R : Reg) (L : List Int) (w : World) : Prop :=
  ∀ (k : Nat) (w' : World), k < R.cn → flB R L (k : Int) = true → Below w.heap.size w w' → Calls Try.prog fid (#[.int .i64 (k : Nat)] ++ caps) w' fun e w'' => e = .returned (.bool (p k)) ∧ Below w'.heap.size w' w''

set_option maxHeartbeats 1000000 in
set_option maxRecDepth 20000 in
theorem flips_any (fid : FuncId) (caps : Array Value) (p : Nat → Bool) (R : Reg) (hR : R.ok) (A : Option Addr) (c B : Nat) (L : List Int) (D : Option Addr) (d : Nat) (w : World) (hE : ∀ (args : Array Value) (w : World), (callFunc fid args).run Try.prog w = .ok (.enter fid args) w) (hM : May fid caps p R L w)
    (hd : Reads w B 1 D R.C.length (L.map (Value.int .i64))) (hB : B ≤ w.heap.size) :
    Calls Try.prog 57 #[.agg #[.int .i64 R.W, .int .i64 R.T, .slice A R.C.length c], .slice D R.C.length d, .func (.func fid) #[] caps] w (ClipInts w (flL R L p)) := by
  have hcn := cn_bd hR
  have HF := fun (k : Nat) (hk : k < R.cn) w' (h : Below w.heap.size w w') => hide (flippable_any R hR A R.C.length c B L D d (k : Int) (by omega) w' (hd.below (h.mono hB)) (Nat.le_trans hB h.size))
  have HC := fun w' => hide (cornersN_any R hR A R.C.length c w')
  have HM := Lib.hid hM
  clear hM hd
  go_enter Try.func57, Try.ntmps57
  go_wp2_with fail
  refine (unhide (HC _)).mono ?_
  rintro e w1 ⟨rfl, hb1⟩
  obtain ⟨hB1, hk1, b0, b1, b2⟩ := box_keep hb1
  have hW1 : FW w w1 R A c (.slice none 0 0) [] := ⟨⟨rfl, .inl ⟨rfl, rfl⟩⟩, hk1, hB1⟩
  clear hb1 hB1 hk1 b0 b1 b2
  go_wp2_with fail
  go_loopg [7, 13] R.cn (fun r s7 s13 wr => ∃ k : Nat, k + r = R.cn ∧ s13 = .int .i64 (k : Nat) ∧ FW w wr R A c s7 (flTo R L p k))
  case atStart => exact ⟨0, by omega, rfl, by simpa [flTo] using hW1⟩
  case round =>
    clear hW1
    obtain ⟨k, hk, rfl, hW⟩ := hrel
    have HK := Lib.hid hk
    clear hk
    by_cases hlt : k < R.cn
    · have HF' := fun w' h => HF k hlt w' h
      have hfl : Hid (flB R L (k : Int) = (fl1 R L (k : Int) || fl2 R L (k : Int))) := Lib.hid rfl
      have HY : Hid (flB R L (k : Int) = true → p k = true → flTo R L p (k + 1) = flTo R L p k ++ [(k : Int)]) := Lib.hid flTo_yes
      have HNo : Hid ((flB R L (k : Int) && p k) = false → flTo R L p (k + 1) = flTo R L p k) := Lib.hid flTo_no
      have HMM : Hid (flB R L (k : Int) = true → ∀ w', Below w.heap.size w w' → Calls Try.prog fid (#[.int .i64 (k : Nat)] ++ caps) w' fun e w'' => e = .returned (.bool (p k)) ∧ Below w'.heap.size w' w'') := Lib.hid fun h w' hb => HM.out k w' hlt h hb
      have HL := Lib.hid (flTo_len R L p k)
      generalize flTo R L p k = l at *
      generalize flB R L (k : Int) = fb at *
      generalize p k = pk at *
      obtain ⟨b0, b1, b2⟩ := hW.cells
      go_wp2_with fail
      refine (unhide (HF' _ hW.bel)).mono ?_
      rintro e w2 ⟨rfl, hb2⟩
      have hW2 := hW.below hb2
      generalize fl1 R L (k : Int) = f1 at *
      generalize fl2 R L (k : Int) = f2 at *
      clear hW hb2 b0 b1 b2 HF HF'
      cases hfb : f1 || f2 with
      | false =>
        rw [hfb] at hfl
        obtain ⟨rfl, rfl⟩ : f1 = false ∧ f2 = false := by rw [Bool.or_eq_false_iff] at hfb; exact hfb
        have hno := HNo.out (by rw [hfl.out]; rfl)
        have HNN := Lib.hid hno
        clear hno hfb
        go_wp2_with fail
        go_roundg (R.cn - (k + 1))
        case measure => have := HK.out; omega
        case rel => exact ⟨k + 1, by have := HK.out; omega, by go_num, by rw [HNN.out]; exact hW2⟩
      | true =>
        rw [hfb] at hfl
        have hMM := hide (HMM.out hfl.out w2 hW2.bel)
        have HNN : Hid (pk = false → flTo R L p (k + 1) = l) := Lib.hid fun h => HNo.out (by rw [h, Bool.and_false])
        have HYY : Hid (pk = true → flTo R L p (k + 1) = l ++ [(k : Int)]) := Lib.hid fun h => HY.out hfl.out h
        have hfb0 := hfb
        clear HMM HNo HY hfb
        have fin : ∀ (w3 : World), Below w2.heap.size w2 w3 → FW w w3 R A c u7 l := fun w3 h => hW2.below h
        cases f1 with
        | true =>
          go_wp2_with fail
          refine (unhide hMM).mono ?_
          rintro e w3 ⟨rfl, hb3⟩
          have hW3 := fin w3 hb3
          cases pk with
          | false =>
            go_wp2_with fail
            go_roundg (R.cn - (k + 1))
            case measure => have := HK.out; omega
            case rel => exact ⟨k + 1, by have := HK.out; omega, by go_num, by rw [HNN.out (by first | exact trivial | rfl)]; exact hW3⟩
          | true =>
            go_wp2_with (at_builtin; refine wpList_app rfl _ _ _ rfl (w.heap.size + 1) 3 _ 8 Try.underlying25 info_int rfl (by omega) _ _ _ rfl (hW3.own.alloc _) w3.heap.size (.int .i64 (k : Nat)) rfl ?c1 rfl (by have := HL.out; omega) ?c2 ?_)
            case c1 => simp
            case c2 => have := hW3.bel.size; have := hW3.box.lt; simp; omega
            rintro g' c' w4 hown hgr _ _ _
            have hW4 := hW3.app (x := (k : Int)) hown hgr
            clear hown hgr
            go_wp2_with fail
            go_roundg (R.cn - (k + 1))
            case measure => have := HK.out; omega
            case rel => exact ⟨k + 1, by have := HK.out; omega, by go_num, by rw [HYY.out (by first | exact trivial | rfl)]; exact hW4⟩
        | false =>
          obtain rfl : f2 = true := by simpa using hfb0
          go_wp2_with fail
          refine (unhide hMM).mono ?_
          rintro e w3 ⟨rfl, hb3⟩
          have hW3 := fin w3 hb3
          cases pk with
          | false =>
            go_wp2_with fail
            go_roundg (R.cn - (k + 1))
            case measure => have := HK.out; omega
            case rel => exact ⟨k + 1, by have := HK.out; omega, by go_num, by rw [HNN.out (by first | exact trivial | rfl)]; exact hW3⟩
          | true =>
            go_wp2_with (at_builtin; refine wpList_app rfl _ _ _ rfl (w.heap.size + 1) 3 _ 8 Try.underlying25 info_int rfl (by omega) _ _ _ rfl (hW3.own.alloc _) w3.heap.size (.int .i64 (k : Nat)) rfl ?c1 rfl (by have := HL.out; omega) ?c2 ?_)
            case c1 => simp
            case c2 => have := hW3.bel.size; have := hW3.box.lt; simp; omega
            rintro g' c' w4 hown hgr _ _ _
            have hW4 := hW3.app (x := (k : Int)) hown hgr
            clear hown hgr
            go_wp2_with fail
            go_roundg (R.cn - (k + 1))
            case measure => have := HK.out; omega
            case rel => exact ⟨k + 1, by have := HK.out; omega, by go_num, by rw [HYY.out (by first | exact trivial | rfl)]; exact hW4⟩
    · obtain rfl : k = R.cn := by have := HK.out; omega
      obtain ⟨A', c', rfl, hc', _⟩ := own_form hW.own
      have hle := own_cap2 hW.own
      go_wp2_with (go_at_call 61; refine (clip_any _ _ _ hc' hle _).mono ?_; rintro e w' ⟨rfl, rfl⟩)
      go_ret
      exact ⟨_, _, rfl, own_mono hW.own (by omega), hW.bel⟩

end Go.Proofs.Ytldnccdlpagodaa
