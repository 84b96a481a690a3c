/-
  YthepfpiphlfgnaaFd3: the texts Fk, Fd, Fw, Fx in one file.
-/
import Derived.Test.YthepfpiphlfgnaaFm
import Derived.Test.YthepfpiphlfgnaaFq
import Derived.Test.YthepfpiphlfgnaaPv

/-
  YthepfpiphlfgnaaFk: FlipsOf, DownOf and UpOf of the reference.
-/
namespace Go.Proofs.Ythepfpiphlfgnaa
open Go.RowKit

theorem flTo_in {R : Reg} {L : List Int} {p : Nat → Bool} {k : Nat} {z : Int} (h : z ∈ flTo R L p k) : ∃ j : Nat, z = (j : Int) ∧ j < k ∧ flB R L (j : Int) = true ∧ p j = true := by
  unfold flTo at h
  obtain ⟨j, hj, rfl⟩ := List.mem_map.1 h
  rw [List.mem_filter, List.mem_range, Bool.and_eq_true] at hj
  exact ⟨j, rfl, hj.1, hj.2.1, hj.2.2⟩

/-- A box and one growing row, for any region. -/
structure AW (w wr : World) (W T : Int) (A : Option Addr) (n c g k : Nat) (L : List Int) : Prop where
  bel : Below w.heap.size w wr
  box : Blk wr w.heap.size 25 #[.int .i64 W, .int .i64 T, .slice A n c]
  own : wr.ownsRow (w.heap.size + 1) 3 1 (.slice (some ⟨g, 0, none⟩) L.length k) L.length (L.map (Value.int .i64))
section
variable {w wr w2 : World} {W T : Int} {A : Option Addr} {n c g k g' k' : Nat} {L : List Int}
theorem AW.lt (h : AW w wr W T A n c g k L) : w.heap.size < g ∧ g < wr.heap.size := by
  have := h.own.lt g rfl; exact ⟨by omega, this.2⟩
theorem AW.below (h : AW w wr W T A n c g k L) (hb : Below wr.heap.size wr w2) : AW w w2 W T A n c g k L :=
  ⟨h.bel.trans (hb.mono h.bel.size), h.box.below hb h.box.lt, own_below h.own hb (Nat.le_refl _)⟩
theorem AW.app {x : Int} {o : Obj} (h : AW w wr W T A n c g k L)
    (ho : w2.ownsRow (w.heap.size + 1) 3 1 (.slice (some ⟨g', 0, none⟩) (L.length + 1) k') (L.length + 1) (L.map (Value.int .i64) ++ [.int .i64 x])) (hg : (wr.alloc o).grownBy w2 (Value.slice (some ⟨g, 0, none⟩) L.length k).ownBlock) : AW w w2 W T A n c g' k' (L ++ [x]) := by
  have hlt := h.lt
  refine ⟨(h.bel.alloc h.bel.size o).grown hg (by have := h.bel.size; simp; omega) (fun j hj => by simp [Value.ownBlock] at hj; omega), (h.box.alloc o).grown hg (by simp [Value.ownBlock]; omega), ?_⟩
  rw [List.length_append, List.map_append]; exact ho
theorem AW.cells (h : AW w wr W T A n c g k L) : wr.cell? ⟨w.heap.size, 0, none⟩ = some (.int .i64 W) ∧ wr.cell? ⟨w.heap.size, 1, none⟩ = some (.int .i64 T) ∧ wr.cell? ⟨w.heap.size, 2, none⟩ = some (.slice A n c) := blk3 h.box
theorem AW.start (w : World) (W T : Int) (A : Option Addr) (n c : Nat) : AW w ((w.alloc (boxR W T A n c)).alloc (.cells #[] 3)) W T A n c (w.heap.size + 1) 0 [] := by
  refine ⟨((Below.refl _ _).alloc (Nat.le_refl _) _).alloc (by simp) _, (Blk.new _ _ _).alloc _, ?_⟩
  have := World.ownsRow_made (base := w.heap.size + 1) (e := 3) (size := 1) (w.alloc (boxR W T A n c)) #[] 0 (by simp) (by simp [maxLen]) (by simp)
  simpa using this
end

set_option maxHeartbeats 1000000 in
set_option maxRecDepth 20000 in
theorem flipsOfS_ok (R : Reg) (hR : R.ok) (A : Option Addr) (c B : Nat) (L : List Int) (D : Option Addr) (d : Nat) (hL : Lay R L) (w : World)
    (hr : Reads w B 1 A R.C.length (R.C.map Value.bool)) (hd : Reads w B 1 D R.C.length (L.map (Value.int .i64))) (hB : B ≤ w.heap.size) :
    Calls Try.prog 42 #[.agg #[.int .i64 R.W, .int .i64 R.T, .slice A R.C.length c], .slice D R.C.length d] w (RetInts w (flL R L fun _ => true)) := by
  have hcn := cn_bd hR
  have hCM := fun w' (h : Below w.heap.size w w') => hide (cornerManySN_ok R hR A c B w' (hr.below (h.mono hB)) (Nat.le_trans hB h.size))
  have hFM := fun (k : Nat) w' (h : Below w.heap.size w w') => hide (flipMayS_ok R hR A c B L D d (k : Int) hL w' (hr.below (h.mono hB)) (hd.below (h.mono hB)) (Nat.le_trans hB h.size))
  have h00 := AW.start w R.W R.T A R.C.length c
  clear hr hd
  go_enter Try.func42, Try.ntmps42
  go_wp2_with fail
  go_loopg [5, 6] R.cn (fun r s5 s6 wr => ∃ (k g cc : Nat), k + r = R.cn ∧ s6 = .int .i64 (k : Nat) ∧ s5 = .slice (some ⟨g, 0, none⟩) (flTo R L (fun _ => true) k).length cc ∧ AW w wr R.W R.T A R.C.length c g cc (flTo R L (fun _ => true) k))
  case atStart => exact ⟨0, _, _, by omega, rfl, rfl, by simpa [flTo] using h00⟩
  case round =>
    clear h00
    obtain ⟨k, g, cc, hk, rfl, rfl, hP⟩ := hrel
    have HK := Lib.hid hk
    clear hk
    have HY : Hid (flB R L (k : Int) = true → flTo R L (fun _ => true) (k + 1) = flTo R L (fun _ => true) k ++ [(k : Int)]) := Lib.hid fun h => flTo_yes h rfl
    have HNo : Hid (flB R L (k : Int) = false → flTo R L (fun _ => true) (k + 1) = flTo R L (fun _ => true) k) := Lib.hid fun h => flTo_no (by rw [h]; rfl)
    have HL := Lib.hid (flTo_len R L (fun _ => true) k)
    have HE : Hid (k = R.cn → flTo R L (fun _ => true) k = flL R L fun _ => true) := Lib.hid fun h => by rw [h]; rfl
    have hFM' := fun w' h => hFM k w' h
    generalize flTo R L (fun _ => true) k = l at *
    obtain ⟨b0, b1, b2⟩ := hP.cells
    by_cases hlt : k < R.cn
    · go_wp2_with fail
      refine (unhide (hCM _ hP.bel)).mono ?_
      rintro e w1 ⟨rfl, hb1⟩
      have hP1 := hP.below hb1
      clear hP hb1 b0 b1 b2
      obtain ⟨b0, b1, b2⟩ := hP1.cells
      go_wp2_with fail
      refine (unhide (hFM' _ hP1.bel)).mono ?_
      rintro e w2 ⟨rfl, hb2⟩
      have hP2 := hP1.below hb2
      clear hP1 hb2 b0 b1 b2 hFM' hFM
      generalize flB R L (k : Int) = fb at *
      cases fb with
      | false =>
        go_wp2_with fail
        go_roundg (R.cn - (k + 1))
        case measure => have := HK.out; omega
        case rel =>
          have e := HNo.out (by first | exact trivial | rfl)
          exact ⟨k + 1, g, cc, by have := HK.out; omega, by go_num, by rw [e], by rw [e]; exact hP2⟩
      | true =>
        go_wp2_with (at_builtin; refine wpList_app rfl _ _ _ rfl (w.heap.size + 1) 3 _ 8 Try.underlying26 info_int rfl (by omega) _ _ _ rfl (hP2.own.alloc _) w2.heap.size (.int .i64 (k : Nat)) rfl ?c1 rfl (by have := HL.out; omega) ?c2 ?_)
        case c1 => simp
        case c2 => have := hP2.bel.size; have := hP2.lt; simp; omega
        rintro g' c' w4 hown hgr _ _ _
        have hP4 := hP2.app (x := (k : Int)) hown hgr
        clear hown hgr
        go_wp2_with fail
        go_roundg (R.cn - (k + 1))
        case measure => have := HK.out; omega
        case rel =>
          have e := HY.out (by first | exact trivial | rfl)
          exact ⟨k + 1, g', c', by have := HK.out; omega, by go_num, by rw [e, List.length_append]; rfl, by rw [e]; exact hP4⟩
    · obtain rfl : k = R.cn := by have := HK.out; omega
      go_wp2_with fail
      refine (unhide (hCM _ hP.bel)).mono ?_
      rintro e w1 ⟨rfl, hb1⟩
      have hP1 := hP.below hb1
      clear hP hb1 b0 b1 b2
      go_wp2_with fail
      go_ret
      rw [← HE.out (by first | exact trivial | rfl)]
      exact ⟨_, _, _, rfl, own_mono hP1.own (by omega), hP1.bel⟩






end Go.Proofs.Ythepfpiphlfgnaa

/-
  YthepfpiphlfgnaaFd: DownAll of the program and of the reference.
-/
namespace Go.Proofs.Ythepfpiphlfgnaa
open Go.RowKit


/-- A box and the list that is gone on with. -/
structure DA (w wr : World) (R : Reg) (A : Option Addr) (c g c' : Nat) (M : List Int) : Prop where
  bel : Below w.heap.size w wr
  box : Blk wr w.heap.size 25 #[.int .i64 R.W, .int .i64 R.T, .slice A R.C.length c]
  own : wr.ownsRow w.heap.size 3 1 (.slice (some ⟨g, 0, none⟩) R.C.length c') R.C.length (M.map (Value.int .i64))
theorem DA.below {w wr w2 : World} {R : Reg} {A : Option Addr} {c g c' : Nat} {M : List Int} (H : DA w wr R A c g c' M) (hb : Below wr.heap.size wr w2) : DA w w2 R A c g c' M :=
  ⟨H.bel.trans (hb.mono H.bel.size), H.box.below hb H.box.lt, own_below H.own hb (Nat.le_refl _)⟩



end Go.Proofs.Ythepfpiphlfgnaa

/-
  YthepfpiphlfgnaaFw: FlipWay of the program.
-/
namespace Go.Proofs.Ythepfpiphlfgnaa
open Go.RowKit


end Go.Proofs.Ythepfpiphlfgnaa

/-
  YthepfpiphlfgnaaFx: FlipWay of the program: the walk.
-/
namespace Go.Proofs.Ythepfpiphlfgnaa
open Go.RowKit

/-- Where the program stands: boxes of the region, of the goal's heights and of the tiling now; the rows; the flips so far. -/
structure WY (w wr : World) (R : Reg) (A : Option Addr) (c qg gg cg cg' q g c' c2 : Nat) (G M : List Int) (v : Value) (l : List Int) : Prop where
  bel : Below w.heap.size w wr
  box : Blk wr w.heap.size 25 #[.int .i64 R.W, .int .i64 R.T, .slice A R.C.length c]
  gbx : Blk wr qg 26 #[.slice (some ⟨gg, 0, none⟩) R.cn cg]
  gow : wr.ownsRow w.heap.size 3 1 (.slice (some ⟨gg, 0, none⟩) R.cn cg') R.cn (G.map (Value.int .i64))
  nbx : Blk wr q 26 #[.slice (some ⟨g, 0, none⟩) R.C.length c2]
  now : wr.ownsRow w.heap.size 3 1 (.slice (some ⟨g, 0, none⟩) R.C.length c') R.C.length (M.map (Value.int .i64))
  out : wr.ownsRow w.heap.size 3 1 v l.length (l.map (Value.int .i64))
  n1 : v.ownBlock ≠ some gg
  n2 : v.ownBlock ≠ some g
  hq : qg ≠ q
  hqw : w.heap.size < q
theorem WY.below {w wr w2 : World} {R : Reg} {A : Option Addr} {c qg gg cg cg' q g c' c2 : Nat} {G M : List Int} {v : Value} {l : List Int} (H : WY w wr R A c qg gg cg cg' q g c' c2 G M v l) (hb : Below wr.heap.size wr w2) : WY w w2 R A c qg gg cg cg' q g c' c2 G M v l :=
  ⟨H.bel.trans (hb.mono H.bel.size), H.box.below hb H.box.lt, H.gbx.below hb H.gbx.lt, own_below H.gow hb (Nat.le_refl _), H.nbx.below hb H.nbx.lt, own_below H.now hb (Nat.le_refl _), own_below H.out hb (Nat.le_refl _), H.n1, H.n2, H.hq, H.hqw⟩
/-- Behind an append to the flips. -/
theorem WY.app {w wr w2 : World} {R : Reg} {A : Option Addr} {c qg gg cg cg' q g c' c2 : Nat} {G M : List Int} {v v' : Value} {l : List Int} {x : Int} {o : Obj} (H : WY w wr R A c qg gg cg cg' q g c' c2 G M v l)
    (ho : w2.ownsRow w.heap.size 3 1 v' (l.length + 1) (l.map (Value.int .i64) ++ [.int .i64 x])) (hg : (wr.alloc o).grownBy w2 v.ownBlock) (hv : v'.ownBlock = v.ownBlock ∨ v'.ownBlock = some (wr.alloc o).heap.size) : WY w w2 R A c qg gg cg cg' q g c' c2 G M v' (l ++ [x]) := by
  have hge : ∀ j, v.ownBlock = some j → w.heap.size ≤ j := fun j h => own_block_ge H.out h
  have hgg := H.gow.lt gg rfl
  have hgn := H.now.lt g rfl
  have hvt : ∀ (j : Nat) (cs : Array Value) (t : TypeId), t ≠ 3 → Blk wr j t cs → some j ≠ v.ownBlock := fun j cs t hne hb h => own_blk_ne H.out hb (Ne.symm hne) h.symm
  refine ⟨(H.bel.alloc H.bel.size o).grown hg (by have := H.bel.size; simp; omega) hge, (H.box.alloc o).grown hg (hvt _ _ _ (by decide) H.box), (H.gbx.alloc o).grown hg (hvt _ _ _ (by decide) H.gbx), own_grown (H.gow.alloc o) hg (.inr (Ne.symm H.n1)), (H.nbx.alloc o).grown hg (hvt _ _ _ (by decide) H.nbx), own_grown (H.now.alloc o) hg (.inr (Ne.symm H.n2)), by rw [List.length_append, List.map_append]; exact ho, ?_, ?_, H.hq, H.hqw⟩
  · rcases hv with h | h
    · rw [h]; exact H.n1
    · rw [h]; simp; omega
  · rcases hv with h | h
    · rw [h]; exact H.n2
    · rw [h]; simp; omega

noncomputable def fwV (W T : Int) (bs : List Bool) (M N : List Int) : List Int := if tiledB W T bs M = true ∧ tiledB W T bs N = true then wyOut ⟨W.toNat, T.toNat, bs⟩ N M (wyN ⟨W.toNat, T.toNat, bs⟩ N M) else []
theorem fwV_yes {R : Reg} {M N : List Int} (h : tiledB R.W R.T R.C M = true) (g : tiledB R.W R.T R.C N = true) : fwV R.W R.T R.C M N = wyOut R N M (wyN R N M) := by unfold fwV; rw [if_pos ⟨h, g⟩]; rfl


end Go.Proofs.Ythepfpiphlfgnaa
