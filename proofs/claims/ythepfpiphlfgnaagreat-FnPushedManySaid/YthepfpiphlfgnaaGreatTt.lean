/-
  YthepfpiphlfgnaaGreatTt: the texts Tb, Tc, Te, Tf, Tg, Th in one file.
-/
import Derived.Test.YthepfpiphlfgnaaGreatTa
import Derived.Test.YthepfpiphlfgnaaGreatFm
import Derived.Test.YthepfpiphlfgnaaGreatTd
import Derived.Test.YthepfpiphlfgnaaGreatPv
import Derived.Test.YthepfpiphlfgnaaGreatLz

/-
  YthepfpiphlfgnaaGreatTb: all tilings of the program: the function that collects them, and the search.
-/
namespace Go.Proofs.YthepfpiphlfgnaaGreat
open Go.RowKit

theorem info_ints : (Tryz.prog.info? 42).map (fun i => (i.zero, i.size, i.bytes)) = some (some (.slice none 0 0), 1, 24) := by kernel_rfl

theorem Fr.app {q : Nat} {v v' : Value} {w w' : World} {o : Obj} (hg : (w.alloc o).grownBy w' v.ownBlock) (hn : v'.ownBlock = v.ownBlock ∨ v'.ownBlock = some (w.alloc o).heap.size) (u : Value) : Fr q v v' w (w'.setCell ⟨q, 0, none⟩ u) := by
  refine ⟨hg.os, hg.tape, hg.output, ?_, fun k hk h1 h2 => ?_, fun k hk => ?_⟩
  · have := hg.size; simp [World.setCell] at this ⊢; omega
  · rw [Below.heap_setCell _ _ _ _ (by simpa using h1), hg.block k (by simp; omega) h2, Below.heap_alloc _ _ _ hk]
  · rcases hn with h | h
    · exact .inl (by rw [← h]; exact hk)
    · rw [h] at hk
      right
      simp at hk
      omega

set_option maxHeartbeats 1000000 in
set_option maxRecDepth 20000 in
theorem leaf_any (q b n : Nat) (v : Value) (xs : List Value) (Ts : List (List Int)) (g c' : Nat) (L : List Int) (w : World) (hq : Blk w q 40 #[v]) (hT : RowsOf w b n v xs Ts) (hx : Inner w b n (.slice (some ⟨g, 0, none⟩) n c') L) (hlen : Ts.length ≤ 4294967295) (hb : b ≤ w.heap.size) :
    Calls Tryz.prog 42 #[.slice (some ⟨g, 0, none⟩) n c', .pointer (some ⟨q, 0, none⟩)] w fun e w' => e = .returned (.bool true) ∧ ∃ v' xs', Blk w' q 40 #[v'] ∧ RowsOf w' b n v' xs' (Ts ++ [L]) ∧ Fr q v v' w w' := by
  have q0 := hq.cell 0
  simp at q0
  have hxl := hT.len
  have HXL := Lib.hid hxl
  clear hxl
  go_enter Tryz.func42, Tryz.ntmps42
  go_wp2_with (at_builtin; refine wpList_app rfl _ _ _ rfl b 42 _ 24 Tryz.underlying40 info_ints rfl (by omega) v xs.length xs rfl (hT.own.alloc _) w.heap.size (.slice (some ⟨g, 0, none⟩) n c') rfl ?c1 rfl (by have := HXL.out; omega) ?c2 ?_)
  case c1 => simp
  case c2 => simp; omega
  rintro g' cc' w2 hown hgr hgg _ _
  have hR2 := hT.app hx hown hgr
  have hq2 : Blk w2 q 40 #[v] := (hq.alloc _).grown hgr (fun h => own_blk_ne hT.own hq (by decide) h.symm)
  have q2 := hq2.cell 0
  have f2 := hq2.frozen 0
  simp at q2
  clear q0
  go_wp2_with fail
  go_ret
  refine ⟨rfl, .slice (some ⟨g', 0, none⟩) (xs.length + 1) cc', _, hq2.set_ 0 _, hR2.setCell (p := ⟨q, 0, none⟩) hq2 (by decide) (by decide) _, Fr.app hgr ?_ _⟩
  rcases hgg with h | h
  · exact .inl h
  · exact .inr (by rw [h]; simp [Value.ownBlock])

/-- What the first directions give. -/
def preT (R : Reg) (f : Nat) (L : List Int) (k : Nat) : Nat → List (List Int)
  | 0 => []
  | j + 1 => preT R f L k j ++ (if frB R L k ((j : Int) + 1) = true then allT R f (lyV R L k ((j : Int) + 1)) else [])
theorem preT_two {R : Reg} {f : Nat} {L : List Int} {k : Nat} (h : fiV R L = some k) : preT R f L k 2 = allT R (f + 1) L := by
  rw [allT_some h]
  simp [preT]
theorem preT_len (R : Reg) (f : Nat) (L : List Int) (k : Nat) (j : Nat) (hj : j ≤ 1) : (preT R f L k j).length ≤ 2 ^ f := by
  have := allT_len R f
  match j, hj with
  | 0, _ => simp [preT]
  | 1, _ =>
    simp only [preT, List.nil_append]
    split
    · exact this _
    · simp

/-- Where the search stands: the variable that collects, its rows, the box, the list. -/
structure EW (w wx : World) (R : Reg) (A : Option Addr) (c q b : Nat) (v0 v : Value) (xs : List Value) (Ts : List (List Int)) (g c' : Nat) (L : List Int) : Prop where
  hq : Blk wx q 40 #[v]
  rows : RowsOf wx b R.C.length v xs Ts
  fr : Fr q v0 v w wx
  box : Blk wx w.heap.size 25 #[.int .i64 R.W, .int .i64 R.T, .slice A R.C.length c]
  own : wx.ownsRow b 3 1 (.slice (some ⟨g, 0, none⟩) R.C.length c') R.C.length (L.map (Value.int .i64))
section
variable {w wx w2 : World} {R : Reg} {A : Option Addr} {c q b g c' : Nat} {v0 v v' : Value} {xs xs' : List Value} {Ts Ts' : List (List Int)} {L : List Int}
theorem EW.below (H : EW w wx R A c q b v0 v xs Ts g c' L) (hb : Below wx.heap.size wx w2) : EW w w2 R A c q b v0 v xs Ts g c' L :=
  ⟨H.hq.below hb H.hq.lt, H.rows.below hb, H.fr.trans (Fr.of_below hb), H.box.below hb H.box.lt, own_below H.own hb (Nat.le_refl _)⟩
theorem EW.step (H : EW w wx R A c q b v0 v xs Ts g c' L) (hlt : q < w.heap.size) (hq : Blk w2 q 40 #[v']) (hT : RowsOf w2 b R.C.length v' xs' Ts') (hF : Fr q v v' wx w2) : EW w w2 R A c q b v0 v' xs' Ts' g c' L :=
  ⟨hq, hT, H.fr.trans hF, hF.blk H.box (by omega) (own_blk_ne H.rows.own H.box (by decide)), hF.own H.own (own_blk_ne H.own H.hq (by decide)) (own_far H.own H.rows.own (by decide))⟩
theorem EW.bel (H : EW w wx R A c q b v0 v xs Ts g c' L) (hb : b ≤ w.heap.size) (hbq : b ≤ q) (hv0 : ∀ k, v0.ownBlock = some k → b ≤ k) : Below b w wx := H.fr.below hb hbq hv0
end

set_option maxHeartbeats 2000000 in
set_option maxRecDepth 20000 in
theorem each_none (R : Reg) (hR : R.ok) (A : Option Addr) (c B q b : Nat) (hBb : B ≤ b) (hbq : b ≤ q) (L : List Int) (g c' d : Nat) (v : Value) (xs : List Value) (Ts : List (List Int)) (w : World) (hL : Lay R L) (hfn : fiV R L = none)
    (hr : Reads w B 1 A R.C.length (R.C.map Value.bool)) (hb : b ≤ w.heap.size) (hq : Blk w q 40 #[v]) (hT : RowsOf w b R.C.length v xs Ts) (ho : w.ownsRow b 3 1 (.slice (some ⟨g, 0, none⟩) R.C.length c') R.C.length (L.map (Value.int .i64))) (hlen : Ts.length ≤ 4294967295) :
    Calls Tryz.prog 41 #[.agg #[.int .i64 R.W, .int .i64 R.T, .slice A R.C.length c], .slice (some ⟨g, 0, none⟩) R.C.length d, .func (.func 42) #[] #[.pointer (some ⟨q, 0, none⟩)]] w fun e w' => e = .returned (.bool true) ∧ ∃ v' xs', Blk w' q 40 #[v'] ∧ RowsOf w' b R.C.length v' xs' (Ts ++ [L]) ∧ Fr q v v' w w' := by
  have HFN := Lib.hid (fiV_none.1 hfn)
  have hl36 := (len_bd hR).2
  have hqlt := hq.lt
  have hv0 : ∀ k, v.ownBlock = some k → b ≤ k := fun k h => (hT.own.lt k h).1
  have hW0 : EW w (w.alloc (boxR R.W R.T A R.C.length c)) R A c q b v v xs Ts g c' L := ⟨hq.alloc _, hT.below ((Below.refl _ _).alloc (Nat.le_refl _) _), Fr.of_below ((Below.refl _ _).alloc (Nat.le_refl _) _), Blk.new _ _ _, ho.alloc _⟩
  have hCG := fun k (hk : k < R.C.length) w' (hb' : Below b w w') => getB (hr.below (hb'.mono hBb)) hk
  clear hfn
  go_enter Tryz.func41, Tryz.ntmps41
  go_upto_region 2 with fail
  generalize w.alloc (boxR R.W R.T A R.C.length c) = w0 at *
  go_loopg [7] R.C.length (fun r s7 wr => ∃ k : Nat, k + r = R.C.length ∧ s7 = .int .i64 (k : Nat) ∧ (∀ j, j < k → opB R L j = false) ∧ wr = w0)
  case atStart => exact ⟨0, by omega, rfl, fun j hj => absurd hj (by omega), rfl⟩
  case round =>
    obtain ⟨k, hk, rfl, hall, rfl⟩ := hrel
    have HK := Lib.hid hk
    have HALL := Lib.hid hall
    clear hk hall
    have hbw := hW0.bel hb hbq hv0
    by_cases hlt : k < R.C.length
    · obtain ⟨ac, rfl, hac, hcc⟩ := hCG k hlt _ hbw
      have hop : opB R L k = (R.C.getD k false && decide (L.getD k 0 = 0)) := rfl
      have HOP := Lib.hid hop
      have hxk : wr.cell? ⟨g, k, none⟩ = some (.int .i64 (L.getD k 0)) := by
        rw [hW0.own.cellAt k (by omega), List.getElem?_map, List.getD_eq_getElem?_getD, List.getElem?_eq_getElem (by rw [hL.len]; exact hlt)]; rfl
      obtain ⟨b0, b1, b2⟩ := blk3 hW0.box
      clear hop
      cases hcb : R.C.getD k false with
      | false =>
        rw [hcb] at hcc HOP
        have HNO : Hid (opB R L k = false) := Lib.hid (by rw [HOP.out]; rfl)
        clear hcb HOP
        go_wp2_with fail
        go_roundg (R.C.length - (k + 1))
        case measure => have := HK.out; omega
        case rel =>
          refine ⟨k + 1, by have := HK.out; omega, by go_num, fun j hj => ?_, rfl⟩
          by_cases hjk : j = k
          · subst hjk; exact HNO.out
          · exact HALL.out j (by omega)
      | true =>
        rw [hcb] at hcc HOP
        by_cases hz : L.getD k 0 = 0
        · exact absurd (show opB R L k = true by rw [HOP.out, hz]; rfl) (by rw [HFN.out k hlt]; decide)
        · have HNO : Hid (opB R L k = false) := Lib.hid (by rw [HOP.out, decide_eq_false hz]; rfl)
          have hu : (L.getD k 0 != 0) = true := by simpa using hz
          clear hcb HOP hz
          generalize L.getD k 0 = u at *
          go_wp2_with fail
          go_roundg (R.C.length - (k + 1))
          case measure => have := HK.out; omega
          case rel =>
            refine ⟨k + 1, by have := HK.out; omega, by go_num, fun j hj => ?_, rfl⟩
            by_cases hjk : j = k
            · subst hjk; exact HNO.out
            · exact HALL.out j (by omega)
    · obtain rfl : k = R.C.length := by have := HK.out; omega
      have hLF := hide (leaf_any q b R.C.length v xs Ts g d L wr hW0.hq hW0.rows ⟨g, c', d, rfl, hW0.own⟩ hlen (Nat.le_trans hb hbw.size))
      go_wp2_with fail
      refine (unhide hLF).mono ?_
      rintro e w2 ⟨rfl, v', xs', hq2, hT2, hF2⟩
      go_wp2_with fail
      go_ret
      exact ⟨rfl, v', xs', hq2, hT2, hW0.fr.trans hF2⟩

set_option maxHeartbeats 4000000 in
set_option maxRecDepth 20000 in
theorem each_any (R : Reg) (hR : R.ok) (A : Option Addr) (c B q b : Nat) (hBb : B ≤ b) (hbq : b ≤ q) : ∀ (f : Nat) (L : List Int) (g c' d : Nat) (v : Value) (xs : List Value) (Ts : List (List Int)) (w : World) (_ : Lay R L) (_ : opN R L ≤ 2 * f)
    (_ : Reads w B 1 A R.C.length (R.C.map Value.bool)) (_ : b ≤ w.heap.size) (_ : Blk w q 40 #[v]) (_ : RowsOf w b R.C.length v xs Ts) (_ : w.ownsRow b 3 1 (.slice (some ⟨g, 0, none⟩) R.C.length c') R.C.length (L.map (Value.int .i64))) (_ : Ts.length + 2 ^ f ≤ 4294967295),
    Calls Tryz.prog 41 #[.agg #[.int .i64 R.W, .int .i64 R.T, .slice A R.C.length c], .slice (some ⟨g, 0, none⟩) R.C.length d, .func (.func 42) #[] #[.pointer (some ⟨q, 0, none⟩)]] w fun e w' => e = .returned (.bool true) ∧ ∃ v' xs', Blk w' q 40 #[v'] ∧ RowsOf w' b R.C.length v' xs' (Ts ++ allT R f L) ∧ Fr q v v' w w' := by
  intro f
  induction f with
  | zero =>
    intro L g c' d v xs Ts w hL hn hr hb hq hT ho hlen
    have hfn := opN_zero (R := R) (L := L) (by omega)
    rw [allT_none hfn]
    exact each_none R hR A c B q b hBb hbq L g c' d v xs Ts w hL hfn hr hb hq hT ho (by have := Nat.two_pow_pos 0; omega)
  | succ f ih =>
    intro L g c' d v xs Ts w hL hn hr hb hq hT ho hlen
    by_cases hfn : fiV R L = none
    · rw [allT_none hfn]
      exact each_none R hR A c B q b hBb hbq L g c' d v xs Ts w hL hfn hr hb hq hT ho (by have := Nat.two_pow_pos (f + 1); omega)
    have HFN := Lib.hid hfn
    clear hfn
    have hl36 := (len_bd hR).2
    have hqlt := hq.lt
    have hv0 : ∀ k, v.ownBlock = some k → b ≤ k := fun k h => (hT.own.lt k h).1
    have hW0 : EW w (w.alloc (boxR R.W R.T A R.C.length c)) R A c q b v v xs Ts g c' L := ⟨hq.alloc _, hT.below ((Below.refl _ _).alloc (Nat.le_refl _) _), Fr.of_below ((Below.refl _ _).alloc (Nat.le_refl _) _), Blk.new _ _ _, ho.alloc _⟩
    have h2f : 0 < 2 ^ f := Nat.two_pow_pos f
    rw [Nat.pow_succ] at hlen
    have hFR := fun (k : Nat) (hk : k < R.C.length) (way : Int) (w' : World) (hb' : Below b w w') (hown : w'.ownsRow b 3 1 (.slice (some ⟨g, 0, none⟩) R.C.length c') R.C.length (L.map (Value.int .i64))) => hide (free_any R hR A c w'.heap.size L (some ⟨g, 0, none⟩) d k hk way hL.len w' ((hr.below (hb'.mono hBb)).more (Nat.le_trans (Nat.le_trans hBb hb) hb'.size)) (Reads.of_own hown))
    have hLA := fun (k : Nat) (way : Int) (hf : frB R L k way = true) (w' : World) (hown : w'.ownsRow b 3 1 (.slice (some ⟨g, 0, none⟩) R.C.length c') R.C.length (L.map (Value.int .i64))) => hide (lay_any R hR A R.C.length c w'.heap.size L (some ⟨g, 0, none⟩) d k way (.inr ⟨_, _, rfl⟩) hL.len hf w' (Reads.of_own hown) (Nat.le_refl _))
    have hEA := fun (k : Nat) (way : Int) (hw : way = 1 ∨ way = 2) (hf : frB R L k way = true) (w' : World) (g2 c2 d2 : Nat) (v' : Value) (xs' : List Value) (Ts' : List (List Int)) (hb' : Below b w w') (hq' : Blk w' q 40 #[v']) (hT' : RowsOf w' b R.C.length v' xs' Ts') (ho' : w'.ownsRow b 3 1 (.slice (some ⟨g2, 0, none⟩) R.C.length c2) R.C.length ((lyV R L k way).map (Value.int .i64))) (hl' : Ts'.length + 2 ^ f ≤ 4294967295) =>
      hide (ih (lyV R L k way) g2 c2 d2 v' xs' Ts' w' (lay_lyV hR hL (by rcases hw with rfl | rfl <;> rfl) hf) (by have := opN_lay hR hL.len (by omega) hf; omega) (hr.below (hb'.mono hBb)) (Nat.le_trans hb hb'.size) hq' hT' ho' hl')
    have hCG := fun k (hk : k < R.C.length) w' (hb' : Below b w w') => getB (hr.below (hb'.mono hBb)) hk
    clear ih
    go_enter Tryz.func41, Tryz.ntmps41
    go_upto_region 2 with fail
    generalize w.alloc (boxR R.W R.T A R.C.length c) = w0 at *
    go_loopg [7] R.C.length (fun r s7 wr => ∃ k : Nat, k + r = R.C.length ∧ s7 = .int .i64 (k : Nat) ∧ (∀ j, j < k → opB R L j = false) ∧ wr = w0)
    case atStart => exact ⟨0, by omega, rfl, fun j hj => absurd hj (by omega), rfl⟩
    case round =>
      obtain ⟨k, hk, rfl, hall, rfl⟩ := hrel
      have HK := Lib.hid hk
      have HALL := Lib.hid hall
      clear hk hall
      have hbw := hW0.bel hb hbq hv0
      by_cases hlt : k < R.C.length
      · obtain ⟨ac, rfl, hac, hcc⟩ := hCG k hlt _ hbw
        have hop : opB R L k = (R.C.getD k false && decide (L.getD k 0 = 0)) := rfl
        have HOP := Lib.hid hop
        have hxk : wr.cell? ⟨g, k, none⟩ = some (.int .i64 (L.getD k 0)) := by
          rw [hW0.own.cellAt k (by omega), List.getElem?_map, List.getD_eq_getElem?_getD, List.getElem?_eq_getElem (by rw [hL.len]; exact hlt)]; rfl
        obtain ⟨b0, b1, b2⟩ := blk3 hW0.box
        clear hop
        cases hcb : R.C.getD k false with
        | false =>
          rw [hcb] at hcc HOP
          have HNO : Hid (opB R L k = false) := Lib.hid (by rw [HOP.out]; rfl)
          clear hcb HOP
          go_wp2_with fail
          go_roundg (R.C.length - (k + 1))
          case measure => have := HK.out; omega
          case rel =>
            refine ⟨k + 1, by have := HK.out; omega, by go_num, fun j hj => ?_, rfl⟩
            by_cases hjk : j = k
            · subst hjk; exact HNO.out
            · exact HALL.out j (by omega)
        | true =>
          rw [hcb] at hcc HOP
          by_cases hz : L.getD k 0 = 0
          · have HYES : Hid (opB R L k = true) := Lib.hid (by rw [HOP.out, hz]; rfl)
            have hfi : fiV R L = some k := fiV_some.2 ⟨hlt, HYES.out, HALL.out⟩
            have HAT := Lib.hid (allT_some (f := f) hfi)
            rw [hz] at hxk
            have hne : ((k : Int) == (R.C.length : Int)) = false := by simp; omega
            clear hz hcb HOP
            have HFI := Lib.hid (preT_two (f := f) hfi)
            have hW6 := hW0.below (w2 := wr.alloc (.cells #[.int .i64 1, .int .i64 2] 3)) ((Below.refl _ _).alloc (Nat.le_refl _) _)
            have hq6 := Blk.new wr 3 #[.int .i64 1, .int .i64 2]
            have hqq : q ≠ wr.heap.size := by have := hW0.hq.lt; omega
            have hbs := hbw.size
            go_upto_region 7 with fail
            generalize wr.alloc (.cells #[.int .i64 1, .int .i64 2] 3) = w6 at *
            clear hW0 b0 b1 b2 hxk hcc hbw
            generalize wr.heap.size = qb at *
            go_loopg [40] 2 (fun r s40 wx => ∃ (j : Nat) (v' : Value) (xs' : List Value) (Ts' : List (List Int)), j + r = 2 ∧ s40 = .int .i64 (j : Nat) ∧ Ts' = Ts ++ preT R f L k j ∧ EW w wx R (some ac) c q b v v' xs' Ts' g c' L ∧ Blk wx qb 3 #[.int .i64 1, .int .i64 2])
            case atStart => exact ⟨0, _, _, _, by omega, rfl, by simp [preT], hW6, hq6⟩
            case round =>
              clear hW6 hq6
              obtain ⟨j, v', xs', Ts', hk2, rfl, rfl, hW, hqb⟩ := hrel
              rcases (show j = 0 ∨ j = 1 ∨ j = 2 by omega) with rfl | rfl | rfl
              · have HK2 := Lib.hid hk2
                clear hk2
                have q0 := hqb.cell 0
                simp at q0
                have hFRk := hFR k hlt 1
                have hp1 : preT R f L k 1 = preT R f L k 0 ++ (if frB R L k 1 = true then allT R f (lyV R L k 1) else []) := rfl
                have hpl := preT_len R f L k 0 (by omega)
                have HPL := Lib.hid hpl
                clear hpl
                obtain ⟨b0, b1, b2⟩ := blk3 hW.box
                go_upto_region 9 with fail
                have hWd := hW.below (Below.refl _ _).drew
                have hF1 := hFRk _ (hWd.bel hb hbq hv0) hWd.own
                cases hfb : frB R L k 1 with
                | false =>
                  rw [hfb] at hF1 hp1
                  have HP1 := Lib.hid hp1
                  clear hp1 hfb hFRk hLA hEA hFR
                  refine wp_region_any (by kernel_rfl) ?_
                  change wpAny _ _ _ _ _ _ _ (World.drew _)
                  refine wpAny_take (i := 1) (v := ?_) rfl (by kernel_rfl) (by kernel_rfl) (by kernel_rfl) (fun _ _ _ h => h) (Or.inl ⟨by kernel_rfl, ?_⟩) ?_
                  rotate_left
                  · intro w
                    go_simp
                    try with_reducible rfl
                  refine wpAny_take (i := 2) (v := ?_) rfl (by kernel_rfl) (by kernel_rfl) (by kernel_rfl) (fun _ _ _ h => h) (Or.inl ⟨by kernel_rfl, ?_⟩) ?_
                  rotate_left
                  · intro w
                    go_simp
                    try with_reducible rfl
                  refine wpAny_take (i := 3) (v := ?_) rfl (by kernel_rfl) (by kernel_rfl) (by kernel_rfl) (fun _ _ _ h => h) (Or.inl ⟨by kernel_rfl, ?_⟩) ?_
                  rotate_left
                  · intro w
                    go_simp
                    try with_reducible rfl
                  refine wpAny_ready (rs := [0]) (by kernel_rfl) (by simp) ?_
                  refine AllReady.cons rfl (fun K hK => ?_) AllReady.nil
                  go_simp
                  refine hK _ _ ?_
                  clear hK K
                  refine wpAny_ready (rs := [4]) (by kernel_rfl) (by simp) ?_
                  refine AllReady.cons rfl (fun K hK => ?_) AllReady.nil
                  go_simp
                  go_at_call 66
                  (with_reducible refine (unhide hF1).mono ?_)
                  rintro e w2 ⟨rfl, hb2⟩
                  refine hK _ _ ?_
                  clear hK K
                  refine wpAny_take (i := 5) (v := ?_) rfl (by kernel_rfl) (by kernel_rfl) (by kernel_rfl) (fun _ _ _ h => h) (Or.inl ⟨by kernel_rfl, ?_⟩) ?_
                  rotate_left
                  · intro w
                    go_simp
                    try with_reducible rfl
                  refine wpAny_take (i := 6) rfl (by kernel_rfl) (by kernel_rfl) (by kernel_rfl) (fun _ _ _ h => h) (Or.inr ⟨by kernel_rfl, rfl⟩) ?_
                  refine wpAny_take (i := 7) rfl (by kernel_rfl) (by kernel_rfl) (by kernel_rfl) (fun _ _ _ h => h) (Or.inr ⟨by kernel_rfl, rfl⟩) ?_
                  refine wpAny_take (i := 8) rfl (by kernel_rfl) (by kernel_rfl) (by kernel_rfl) (fun _ _ _ h => h) (Or.inr ⟨by kernel_rfl, rfl⟩) ?_
                  refine wpAny_take (i := 9) rfl (by kernel_rfl) (by kernel_rfl) (by kernel_rfl) (fun _ _ _ h => h) (Or.inr ⟨by kernel_rfl, rfl⟩) ?_
                  refine wpAny_take (i := 10) rfl (by kernel_rfl) (by kernel_rfl) (by kernel_rfl) (fun _ _ _ h => h) (Or.inr ⟨by kernel_rfl, rfl⟩) ?_
                  refine wpAny_take (i := 11) rfl (by kernel_rfl) (by kernel_rfl) (by kernel_rfl) (fun _ _ _ h => h) (Or.inr ⟨by kernel_rfl, rfl⟩) ?_
                  refine wpAny_take (i := 12) rfl (by kernel_rfl) (by kernel_rfl) (by kernel_rfl) (fun _ _ _ h => h) (Or.inr ⟨by kernel_rfl, rfl⟩) ?_
                  refine wpAny_take (i := 13) rfl (by kernel_rfl) (by kernel_rfl) (by kernel_rfl) (fun _ _ _ h => h) (Or.inr ⟨by kernel_rfl, rfl⟩) ?_
                  refine wpAny_take (i := 14) rfl (by kernel_rfl) (by kernel_rfl) (by kernel_rfl) (fun _ _ _ h => h) (Or.inr ⟨by kernel_rfl, rfl⟩) ?_
                  refine wpAny_take (i := 15) (v := ?_) rfl (by kernel_rfl) (by kernel_rfl) (by kernel_rfl) (fun _ _ _ h => h) (Or.inl ⟨by kernel_rfl, ?_⟩) ?_
                  rotate_left
                  · intro w
                    go_simp
                    try with_reducible rfl
                  refine wpAny_done (by kernel_rfl) ?_ _
                  have hW2 := hWd.below hb2
                  have hqb2 := hqb.drew.below hb2 hqb.drew.lt
                  clear q0 b0 b1 b2 hW hWd hF1 hb2
                  go_simp
                  go_wp2_with fail
                  go_roundg 1
                  case measure => have := HK2.out; omega
                  case rel => exact ⟨1, _, _, _, by have := HK2.out; omega, by go_num, by rw [HP1.out]; simp, hW2, hqb2⟩
                | true =>
                  rw [hfb] at hF1 hp1
                  rw [if_pos rfl] at hp1
                  have hLAk := fun w' hown => hLA k 1 hfb w' hown
                  have hEAk := fun w' g2 c2 d2 v' xs' Ts' hb' hq' hT' ho' hl' => hEA k 1 (by omega) hfb w' g2 c2 d2 v' xs' Ts' hb' hq' hT' ho' hl'
                  have HP1 := Lib.hid hp1
                  clear hp1 hfb hFRk hLA hEA hFR
                  refine wp_region_any (by kernel_rfl) ?_
                  change wpAny _ _ _ _ _ _ _ (World.drew _)
                  refine wpAny_take (i := 1) (v := ?_) rfl (by kernel_rfl) (by kernel_rfl) (by kernel_rfl) (fun _ _ _ h => h) (Or.inl ⟨by kernel_rfl, ?_⟩) ?_
                  rotate_left
                  · intro w
                    go_simp
                    try with_reducible rfl
                  refine wpAny_take (i := 2) (v := ?_) rfl (by kernel_rfl) (by kernel_rfl) (by kernel_rfl) (fun _ _ _ h => h) (Or.inl ⟨by kernel_rfl, ?_⟩) ?_
                  rotate_left
                  · intro w
                    go_simp
                    try with_reducible rfl
                  refine wpAny_take (i := 3) (v := ?_) rfl (by kernel_rfl) (by kernel_rfl) (by kernel_rfl) (fun _ _ _ h => h) (Or.inl ⟨by kernel_rfl, ?_⟩) ?_
                  rotate_left
                  · intro w
                    go_simp
                    try with_reducible rfl
                  refine wpAny_ready (rs := [0]) (by kernel_rfl) (by simp) ?_
                  refine AllReady.cons rfl (fun K hK => ?_) AllReady.nil
                  go_simp
                  refine hK _ _ ?_
                  clear hK K
                  refine wpAny_ready (rs := [4]) (by kernel_rfl) (by simp) ?_
                  refine AllReady.cons rfl (fun K hK => ?_) AllReady.nil
                  go_simp
                  go_at_call 66
                  (with_reducible refine (unhide hF1).mono ?_)
                  rintro e w2 ⟨rfl, hb2⟩
                  have hW2 := hWd.below hb2
                  have hqb2 := hqb.drew.below hb2 hqb.drew.lt
                  have hLA2 := hLAk w2 hW2.own
                  clear b0 b1 b2 hb2 hF1
                  obtain ⟨b0, b1, b2⟩ := blk3 hW2.box
                  refine hK _ _ ?_
                  clear hK K
                  refine wpAny_take (i := 5) (v := ?_) rfl (by kernel_rfl) (by kernel_rfl) (by kernel_rfl) (fun _ _ _ h => h) (Or.inl ⟨by kernel_rfl, ?_⟩) ?_
                  rotate_left
                  · intro w
                    go_simp
                    try with_reducible rfl
                  refine wpAny_take (i := 8) (v := ?_) rfl (by kernel_rfl) (by kernel_rfl) (by kernel_rfl) (fun _ _ _ h => h) (Or.inl ⟨by kernel_rfl, ?_⟩) ?_
                  rotate_left
                  · intro w
                    go_simp
                    try with_reducible rfl
                  refine wpAny_take (i := 9) (v := ?_) rfl (by kernel_rfl) (by kernel_rfl) (by kernel_rfl) (fun _ _ _ h => h) (Or.inl ⟨by kernel_rfl, ?_⟩) ?_
                  rotate_left
                  · intro w
                    go_simp
                    try with_reducible rfl
                  refine wpAny_take (i := 10) (v := ?_) rfl (by kernel_rfl) (by kernel_rfl) (by kernel_rfl) (fun _ _ _ h => h) (Or.inl ⟨by kernel_rfl, ?_⟩) ?_
                  rotate_left
                  · intro w
                    go_simp
                    try with_reducible rfl
                  refine wpAny_take (i := 12) (v := ?_) rfl (by kernel_rfl) (by kernel_rfl) (by kernel_rfl) (fun _ _ _ h => h) (Or.inl ⟨by kernel_rfl, ?_⟩) ?_
                  rotate_left
                  · intro w
                    go_simp
                    try with_reducible rfl
                  refine wpAny_ready (rs := [6, 7]) (by kernel_rfl) (by simp) ?_
                  refine AllReady.cons rfl (fun K hK => ?_) (AllReady.cons rfl (fun K hK => ?_) AllReady.nil)
                  · go_simp
                    refine hK _ _ ?_
                    clear hK K
                    refine wpAny_ready (rs := [7]) (by kernel_rfl) (by simp) ?_
                    refine AllReady.cons rfl (fun K hK => ?_) AllReady.nil
                    go_simp
                    refine hK _ _ ?_
                    clear hK K
                    refine wpAny_ready (rs := [11]) (by kernel_rfl) (by simp) ?_
                    refine AllReady.cons rfl (fun K hK => ?_) AllReady.nil
                    go_simp
                    go_at_call 67
                    (with_reducible refine (unhide hLA2).mono ?_)
                    rintro e w3 ⟨g3, c3, c4, rfl, ho3, hb3⟩
                    have hW3 := hW2.below hb3
                    have hqb3 := hqb2.below hb3 hqb2.lt
                    clear b0 b1 b2
                    obtain ⟨b0, b1, b2⟩ := blk3 hW3.box
                    refine hK _ _ ?_
                    clear hK K
                    refine wpAny_ready (rs := [13]) (by kernel_rfl) (by simp) ?_
                    refine AllReady.cons rfl (fun K hK => ?_) AllReady.nil
                    have hE3 := hEAk w3 g3 c4 c3 _ _ _ (hW3.bel hb hbq hv0) hW3.hq hW3.rows (own_mono ho3 (Nat.le_trans hb hW2.fr.size)) (by rw [List.length_append]; have := HPL.out; omega)
                    go_simp
                    go_at_call 41
                    (with_reducible refine (unhide hE3).mono ?_)
                    rintro e w4 ⟨rfl, v4, xs4, hq4, hT4, hF4⟩
                    have hW4 := hW3.step hqlt hq4 hT4 hF4
                    have hqb4 := hF4.blk hqb3 (Ne.symm hqq) (own_blk_ne hW3.rows.own hqb3 (by decide))
                    refine hK _ _ ?_
                    clear hK K
                    refine wpAny_take (i := 14) (v := ?_) rfl (by kernel_rfl) (by kernel_rfl) (by kernel_rfl) (fun _ _ _ h => h) (Or.inl ⟨by kernel_rfl, ?_⟩) ?_
                    rotate_left
                    · intro w
                      go_simp
                      try with_reducible rfl
                    refine wpAny_take (i := 15) (v := ?_) rfl (by kernel_rfl) (by kernel_rfl) (by kernel_rfl) (fun _ _ _ h => h) (Or.inl ⟨by kernel_rfl, ?_⟩) ?_
                    rotate_left
                    · intro w
                      go_simp
                      try with_reducible rfl
                    refine wpAny_done (by kernel_rfl) ?_ _
                    clear q0 b0 b1 b2 hW hWd hW2 hW3 hqb hqb2 hqb3 ho3 hb3 hq4 hT4 hF4 hLA2 hE3
                    rw [List.append_assoc, ← HP1.out] at hW4
                    go_simp
                    go_wp2_with fail
                    go_roundg 1
                    case measure => have := HK2.out; omega
                    case rel => exact ⟨1, _, _, _, by have := HK2.out; omega, by go_num, rfl, hW4, hqb4⟩
                  · go_simp
                    refine hK _ _ ?_
                    clear hK K
                    refine wpAny_ready (rs := [6, 11]) (by kernel_rfl) (by simp) ?_
                    refine AllReady.cons rfl (fun K hK => ?_) (AllReady.cons rfl (fun K hK => ?_) AllReady.nil)
                    · go_simp
                      refine hK _ _ ?_
                      clear hK K
                      refine wpAny_ready (rs := [11]) (by kernel_rfl) (by simp) ?_
                      refine AllReady.cons rfl (fun K hK => ?_) AllReady.nil
                      go_simp
                      go_at_call 67
                      (with_reducible refine (unhide hLA2).mono ?_)
                      rintro e w3 ⟨g3, c3, c4, rfl, ho3, hb3⟩
                      have hW3 := hW2.below hb3
                      have hqb3 := hqb2.below hb3 hqb2.lt
                      clear b0 b1 b2
                      obtain ⟨b0, b1, b2⟩ := blk3 hW3.box
                      refine hK _ _ ?_
                      clear hK K
                      refine wpAny_ready (rs := [13]) (by kernel_rfl) (by simp) ?_
                      refine AllReady.cons rfl (fun K hK => ?_) AllReady.nil
                      have hE3 := hEAk w3 g3 c4 c3 _ _ _ (hW3.bel hb hbq hv0) hW3.hq hW3.rows (own_mono ho3 (Nat.le_trans hb hW2.fr.size)) (by rw [List.length_append]; have := HPL.out; omega)
                      go_simp
                      go_at_call 41
                      (with_reducible refine (unhide hE3).mono ?_)
                      rintro e w4 ⟨rfl, v4, xs4, hq4, hT4, hF4⟩
                      have hW4 := hW3.step hqlt hq4 hT4 hF4
                      have hqb4 := hF4.blk hqb3 (Ne.symm hqq) (own_blk_ne hW3.rows.own hqb3 (by decide))
                      refine hK _ _ ?_
                      clear hK K
                      refine wpAny_take (i := 14) (v := ?_) rfl (by kernel_rfl) (by kernel_rfl) (by kernel_rfl) (fun _ _ _ h => h) (Or.inl ⟨by kernel_rfl, ?_⟩) ?_
                      rotate_left
                      · intro w
                        go_simp
                        try with_reducible rfl
                      refine wpAny_take (i := 15) (v := ?_) rfl (by kernel_rfl) (by kernel_rfl) (by kernel_rfl) (fun _ _ _ h => h) (Or.inl ⟨by kernel_rfl, ?_⟩) ?_
                      rotate_left
                      · intro w
                        go_simp
                        try with_reducible rfl
                      refine wpAny_done (by kernel_rfl) ?_ _
                      clear q0 b0 b1 b2 hW hWd hW2 hW3 hqb hqb2 hqb3 ho3 hb3 hq4 hT4 hF4 hLA2 hE3
                      rw [List.append_assoc, ← HP1.out] at hW4
                      go_simp
                      go_wp2_with fail
                      go_roundg 1
                      case measure => have := HK2.out; omega
                      case rel => exact ⟨1, _, _, _, by have := HK2.out; omega, by go_num, rfl, hW4, hqb4⟩
                    · go_simp
                      go_at_call 67
                      (with_reducible refine (unhide hLA2).mono ?_)
                      rintro e w3 ⟨g3, c3, c4, rfl, ho3, hb3⟩
                      have hW3 := hW2.below hb3
                      have hqb3 := hqb2.below hb3 hqb2.lt
                      clear b0 b1 b2
                      obtain ⟨b0, b1, b2⟩ := blk3 hW3.box
                      refine hK _ _ ?_
                      clear hK K
                      refine wpAny_ready (rs := [6]) (by kernel_rfl) (by simp) ?_
                      refine AllReady.cons rfl (fun K hK => ?_) AllReady.nil
                      go_simp
                      refine hK _ _ ?_
                      clear hK K
                      refine wpAny_ready (rs := [13]) (by kernel_rfl) (by simp) ?_
                      refine AllReady.cons rfl (fun K hK => ?_) AllReady.nil
                      have hE3 := hEAk w3 g3 c4 c3 _ _ _ (hW3.bel hb hbq hv0) hW3.hq hW3.rows (own_mono ho3 (Nat.le_trans hb hW2.fr.size)) (by rw [List.length_append]; have := HPL.out; omega)
                      go_simp
                      go_at_call 41
                      (with_reducible refine (unhide hE3).mono ?_)
                      rintro e w4 ⟨rfl, v4, xs4, hq4, hT4, hF4⟩
                      have hW4 := hW3.step hqlt hq4 hT4 hF4
                      have hqb4 := hF4.blk hqb3 (Ne.symm hqq) (own_blk_ne hW3.rows.own hqb3 (by decide))
                      refine hK _ _ ?_
                      clear hK K
                      refine wpAny_take (i := 14) (v := ?_) rfl (by kernel_rfl) (by kernel_rfl) (by kernel_rfl) (fun _ _ _ h => h) (Or.inl ⟨by kernel_rfl, ?_⟩) ?_
                      rotate_left
                      · intro w
                        go_simp
                        try with_reducible rfl
                      refine wpAny_take (i := 15) (v := ?_) rfl (by kernel_rfl) (by kernel_rfl) (by kernel_rfl) (fun _ _ _ h => h) (Or.inl ⟨by kernel_rfl, ?_⟩) ?_
                      rotate_left
                      · intro w
                        go_simp
                        try with_reducible rfl
                      refine wpAny_done (by kernel_rfl) ?_ _
                      clear q0 b0 b1 b2 hW hWd hW2 hW3 hqb hqb2 hqb3 ho3 hb3 hq4 hT4 hF4 hLA2 hE3
                      rw [List.append_assoc, ← HP1.out] at hW4
                      go_simp
                      go_wp2_with fail
                      go_roundg 1
                      case measure => have := HK2.out; omega
                      case rel => exact ⟨1, _, _, _, by have := HK2.out; omega, by go_num, rfl, hW4, hqb4⟩
              · have HK2 := Lib.hid hk2
                clear hk2
                have q0 := hqb.cell 1
                simp at q0
                have hFRk := hFR k hlt 2
                have hp1 : preT R f L k 2 = preT R f L k 1 ++ (if frB R L k 2 = true then allT R f (lyV R L k 2) else []) := rfl
                have hpl := preT_len R f L k 1 (by omega)
                have HPL := Lib.hid hpl
                clear hpl
                obtain ⟨b0, b1, b2⟩ := blk3 hW.box
                go_upto_region 9 with fail
                have hWd := hW.below (Below.refl _ _).drew
                have hF1 := hFRk _ (hWd.bel hb hbq hv0) hWd.own
                cases hfb : frB R L k 2 with
                | false =>
                  rw [hfb] at hF1 hp1
                  have HP1 := Lib.hid hp1
                  clear hp1 hfb hFRk hLA hEA hFR
                  refine wp_region_any (by kernel_rfl) ?_
                  change wpAny _ _ _ _ _ _ _ (World.drew _)
                  refine wpAny_take (i := 1) (v := ?_) rfl (by kernel_rfl) (by kernel_rfl) (by kernel_rfl) (fun _ _ _ h => h) (Or.inl ⟨by kernel_rfl, ?_⟩) ?_
                  rotate_left
                  · intro w
                    go_simp
                    try with_reducible rfl
                  refine wpAny_take (i := 2) (v := ?_) rfl (by kernel_rfl) (by kernel_rfl) (by kernel_rfl) (fun _ _ _ h => h) (Or.inl ⟨by kernel_rfl, ?_⟩) ?_
                  rotate_left
                  · intro w
                    go_simp
                    try with_reducible rfl
                  refine wpAny_take (i := 3) (v := ?_) rfl (by kernel_rfl) (by kernel_rfl) (by kernel_rfl) (fun _ _ _ h => h) (Or.inl ⟨by kernel_rfl, ?_⟩) ?_
                  rotate_left
                  · intro w
                    go_simp
                    try with_reducible rfl
                  refine wpAny_ready (rs := [0]) (by kernel_rfl) (by simp) ?_
                  refine AllReady.cons rfl (fun K hK => ?_) AllReady.nil
                  go_simp
                  refine hK _ _ ?_
                  clear hK K
                  refine wpAny_ready (rs := [4]) (by kernel_rfl) (by simp) ?_
                  refine AllReady.cons rfl (fun K hK => ?_) AllReady.nil
                  go_simp
                  go_at_call 66
                  (with_reducible refine (unhide hF1).mono ?_)
                  rintro e w2 ⟨rfl, hb2⟩
                  refine hK _ _ ?_
                  clear hK K
                  refine wpAny_take (i := 5) (v := ?_) rfl (by kernel_rfl) (by kernel_rfl) (by kernel_rfl) (fun _ _ _ h => h) (Or.inl ⟨by kernel_rfl, ?_⟩) ?_
                  rotate_left
                  · intro w
                    go_simp
                    try with_reducible rfl
                  refine wpAny_take (i := 6) rfl (by kernel_rfl) (by kernel_rfl) (by kernel_rfl) (fun _ _ _ h => h) (Or.inr ⟨by kernel_rfl, rfl⟩) ?_
                  refine wpAny_take (i := 7) rfl (by kernel_rfl) (by kernel_rfl) (by kernel_rfl) (fun _ _ _ h => h) (Or.inr ⟨by kernel_rfl, rfl⟩) ?_
                  refine wpAny_take (i := 8) rfl (by kernel_rfl) (by kernel_rfl) (by kernel_rfl) (fun _ _ _ h => h) (Or.inr ⟨by kernel_rfl, rfl⟩) ?_
                  refine wpAny_take (i := 9) rfl (by kernel_rfl) (by kernel_rfl) (by kernel_rfl) (fun _ _ _ h => h) (Or.inr ⟨by kernel_rfl, rfl⟩) ?_
                  refine wpAny_take (i := 10) rfl (by kernel_rfl) (by kernel_rfl) (by kernel_rfl) (fun _ _ _ h => h) (Or.inr ⟨by kernel_rfl, rfl⟩) ?_
                  refine wpAny_take (i := 11) rfl (by kernel_rfl) (by kernel_rfl) (by kernel_rfl) (fun _ _ _ h => h) (Or.inr ⟨by kernel_rfl, rfl⟩) ?_
                  refine wpAny_take (i := 12) rfl (by kernel_rfl) (by kernel_rfl) (by kernel_rfl) (fun _ _ _ h => h) (Or.inr ⟨by kernel_rfl, rfl⟩) ?_
                  refine wpAny_take (i := 13) rfl (by kernel_rfl) (by kernel_rfl) (by kernel_rfl) (fun _ _ _ h => h) (Or.inr ⟨by kernel_rfl, rfl⟩) ?_
                  refine wpAny_take (i := 14) rfl (by kernel_rfl) (by kernel_rfl) (by kernel_rfl) (fun _ _ _ h => h) (Or.inr ⟨by kernel_rfl, rfl⟩) ?_
                  refine wpAny_take (i := 15) (v := ?_) rfl (by kernel_rfl) (by kernel_rfl) (by kernel_rfl) (fun _ _ _ h => h) (Or.inl ⟨by kernel_rfl, ?_⟩) ?_
                  rotate_left
                  · intro w
                    go_simp
                    try with_reducible rfl
                  refine wpAny_done (by kernel_rfl) ?_ _
                  have hW2 := hWd.below hb2
                  have hqb2 := hqb.drew.below hb2 hqb.drew.lt
                  clear q0 b0 b1 b2 hW hWd hF1 hb2
                  go_simp
                  go_wp2_with fail
                  go_roundg 0
                  case measure => have := HK2.out; omega
                  case rel => exact ⟨2, _, _, _, by have := HK2.out; omega, by go_num, by rw [HP1.out]; simp, hW2, hqb2⟩
                | true =>
                  rw [hfb] at hF1 hp1
                  rw [if_pos rfl] at hp1
                  have hLAk := fun w' hown => hLA k 2 hfb w' hown
                  have hEAk := fun w' g2 c2 d2 v' xs' Ts' hb' hq' hT' ho' hl' => hEA k 2 (by omega) hfb w' g2 c2 d2 v' xs' Ts' hb' hq' hT' ho' hl'
                  have HP1 := Lib.hid hp1
                  clear hp1 hfb hFRk hLA hEA hFR
                  refine wp_region_any (by kernel_rfl) ?_
                  change wpAny _ _ _ _ _ _ _ (World.drew _)
                  refine wpAny_take (i := 1) (v := ?_) rfl (by kernel_rfl) (by kernel_rfl) (by kernel_rfl) (fun _ _ _ h => h) (Or.inl ⟨by kernel_rfl, ?_⟩) ?_
                  rotate_left
                  · intro w
                    go_simp
                    try with_reducible rfl
                  refine wpAny_take (i := 2) (v := ?_) rfl (by kernel_rfl) (by kernel_rfl) (by kernel_rfl) (fun _ _ _ h => h) (Or.inl ⟨by kernel_rfl, ?_⟩) ?_
                  rotate_left
                  · intro w
                    go_simp
                    try with_reducible rfl
                  refine wpAny_take (i := 3) (v := ?_) rfl (by kernel_rfl) (by kernel_rfl) (by kernel_rfl) (fun _ _ _ h => h) (Or.inl ⟨by kernel_rfl, ?_⟩) ?_
                  rotate_left
                  · intro w
                    go_simp
                    try with_reducible rfl
                  refine wpAny_ready (rs := [0]) (by kernel_rfl) (by simp) ?_
                  refine AllReady.cons rfl (fun K hK => ?_) AllReady.nil
                  go_simp
                  refine hK _ _ ?_
                  clear hK K
                  refine wpAny_ready (rs := [4]) (by kernel_rfl) (by simp) ?_
                  refine AllReady.cons rfl (fun K hK => ?_) AllReady.nil
                  go_simp
                  go_at_call 66
                  (with_reducible refine (unhide hF1).mono ?_)
                  rintro e w2 ⟨rfl, hb2⟩
                  have hW2 := hWd.below hb2
                  have hqb2 := hqb.drew.below hb2 hqb.drew.lt
                  have hLA2 := hLAk w2 hW2.own
                  clear b0 b1 b2 hb2 hF1
                  obtain ⟨b0, b1, b2⟩ := blk3 hW2.box
                  refine hK _ _ ?_
                  clear hK K
                  refine wpAny_take (i := 5) (v := ?_) rfl (by kernel_rfl) (by kernel_rfl) (by kernel_rfl) (fun _ _ _ h => h) (Or.inl ⟨by kernel_rfl, ?_⟩) ?_
                  rotate_left
                  · intro w
                    go_simp
                    try with_reducible rfl
                  refine wpAny_take (i := 8) (v := ?_) rfl (by kernel_rfl) (by kernel_rfl) (by kernel_rfl) (fun _ _ _ h => h) (Or.inl ⟨by kernel_rfl, ?_⟩) ?_
                  rotate_left
                  · intro w
                    go_simp
                    try with_reducible rfl
                  refine wpAny_take (i := 9) (v := ?_) rfl (by kernel_rfl) (by kernel_rfl) (by kernel_rfl) (fun _ _ _ h => h) (Or.inl ⟨by kernel_rfl, ?_⟩) ?_
                  rotate_left
                  · intro w
                    go_simp
                    try with_reducible rfl
                  refine wpAny_take (i := 10) (v := ?_) rfl (by kernel_rfl) (by kernel_rfl) (by kernel_rfl) (fun _ _ _ h => h) (Or.inl ⟨by kernel_rfl, ?_⟩) ?_
                  rotate_left
                  · intro w
                    go_simp
                    try with_reducible rfl
                  refine wpAny_take (i := 12) (v := ?_) rfl (by kernel_rfl) (by kernel_rfl) (by kernel_rfl) (fun _ _ _ h => h) (Or.inl ⟨by kernel_rfl, ?_⟩) ?_
                  rotate_left
                  · intro w
                    go_simp
                    try with_reducible rfl
                  refine wpAny_ready (rs := [6, 7]) (by kernel_rfl) (by simp) ?_
                  refine AllReady.cons rfl (fun K hK => ?_) (AllReady.cons rfl (fun K hK => ?_) AllReady.nil)
                  · go_simp
                    refine hK _ _ ?_
                    clear hK K
                    refine wpAny_ready (rs := [7]) (by kernel_rfl) (by simp) ?_
                    refine AllReady.cons rfl (fun K hK => ?_) AllReady.nil
                    go_simp
                    refine hK _ _ ?_
                    clear hK K
                    refine wpAny_ready (rs := [11]) (by kernel_rfl) (by simp) ?_
                    refine AllReady.cons rfl (fun K hK => ?_) AllReady.nil
                    go_simp
                    go_at_call 67
                    (with_reducible refine (unhide hLA2).mono ?_)
                    rintro e w3 ⟨g3, c3, c4, rfl, ho3, hb3⟩
                    have hW3 := hW2.below hb3
                    have hqb3 := hqb2.below hb3 hqb2.lt
                    clear b0 b1 b2
                    obtain ⟨b0, b1, b2⟩ := blk3 hW3.box
                    refine hK _ _ ?_
                    clear hK K
                    refine wpAny_ready (rs := [13]) (by kernel_rfl) (by simp) ?_
                    refine AllReady.cons rfl (fun K hK => ?_) AllReady.nil
                    have hE3 := hEAk w3 g3 c4 c3 _ _ _ (hW3.bel hb hbq hv0) hW3.hq hW3.rows (own_mono ho3 (Nat.le_trans hb hW2.fr.size)) (by rw [List.length_append]; have := HPL.out; omega)
                    go_simp
                    go_at_call 41
                    (with_reducible refine (unhide hE3).mono ?_)
                    rintro e w4 ⟨rfl, v4, xs4, hq4, hT4, hF4⟩
                    have hW4 := hW3.step hqlt hq4 hT4 hF4
                    have hqb4 := hF4.blk hqb3 (Ne.symm hqq) (own_blk_ne hW3.rows.own hqb3 (by decide))
                    refine hK _ _ ?_
                    clear hK K
                    refine wpAny_take (i := 14) (v := ?_) rfl (by kernel_rfl) (by kernel_rfl) (by kernel_rfl) (fun _ _ _ h => h) (Or.inl ⟨by kernel_rfl, ?_⟩) ?_
                    rotate_left
                    · intro w
                      go_simp
                      try with_reducible rfl
                    refine wpAny_take (i := 15) (v := ?_) rfl (by kernel_rfl) (by kernel_rfl) (by kernel_rfl) (fun _ _ _ h => h) (Or.inl ⟨by kernel_rfl, ?_⟩) ?_
                    rotate_left
                    · intro w
                      go_simp
                      try with_reducible rfl
                    refine wpAny_done (by kernel_rfl) ?_ _
                    clear q0 b0 b1 b2 hW hWd hW2 hW3 hqb hqb2 hqb3 ho3 hb3 hq4 hT4 hF4 hLA2 hE3
                    rw [List.append_assoc, ← HP1.out] at hW4
                    go_simp
                    go_wp2_with fail
                    go_roundg 0
                    case measure => have := HK2.out; omega
                    case rel => exact ⟨2, _, _, _, by have := HK2.out; omega, by go_num, rfl, hW4, hqb4⟩
                  · go_simp
                    refine hK _ _ ?_
                    clear hK K
                    refine wpAny_ready (rs := [6, 11]) (by kernel_rfl) (by simp) ?_
                    refine AllReady.cons rfl (fun K hK => ?_) (AllReady.cons rfl (fun K hK => ?_) AllReady.nil)
                    · go_simp
                      refine hK _ _ ?_
                      clear hK K
                      refine wpAny_ready (rs := [11]) (by kernel_rfl) (by simp) ?_
                      refine AllReady.cons rfl (fun K hK => ?_) AllReady.nil
                      go_simp
                      go_at_call 67
                      (with_reducible refine (unhide hLA2).mono ?_)
                      rintro e w3 ⟨g3, c3, c4, rfl, ho3, hb3⟩
                      have hW3 := hW2.below hb3
                      have hqb3 := hqb2.below hb3 hqb2.lt
                      clear b0 b1 b2
                      obtain ⟨b0, b1, b2⟩ := blk3 hW3.box
                      refine hK _ _ ?_
                      clear hK K
                      refine wpAny_ready (rs := [13]) (by kernel_rfl) (by simp) ?_
                      refine AllReady.cons rfl (fun K hK => ?_) AllReady.nil
                      have hE3 := hEAk w3 g3 c4 c3 _ _ _ (hW3.bel hb hbq hv0) hW3.hq hW3.rows (own_mono ho3 (Nat.le_trans hb hW2.fr.size)) (by rw [List.length_append]; have := HPL.out; omega)
                      go_simp
                      go_at_call 41
                      (with_reducible refine (unhide hE3).mono ?_)
                      rintro e w4 ⟨rfl, v4, xs4, hq4, hT4, hF4⟩
                      have hW4 := hW3.step hqlt hq4 hT4 hF4
                      have hqb4 := hF4.blk hqb3 (Ne.symm hqq) (own_blk_ne hW3.rows.own hqb3 (by decide))
                      refine hK _ _ ?_
                      clear hK K
                      refine wpAny_take (i := 14) (v := ?_) rfl (by kernel_rfl) (by kernel_rfl) (by kernel_rfl) (fun _ _ _ h => h) (Or.inl ⟨by kernel_rfl, ?_⟩) ?_
                      rotate_left
                      · intro w
                        go_simp
                        try with_reducible rfl
                      refine wpAny_take (i := 15) (v := ?_) rfl (by kernel_rfl) (by kernel_rfl) (by kernel_rfl) (fun _ _ _ h => h) (Or.inl ⟨by kernel_rfl, ?_⟩) ?_
                      rotate_left
                      · intro w
                        go_simp
                        try with_reducible rfl
                      refine wpAny_done (by kernel_rfl) ?_ _
                      clear q0 b0 b1 b2 hW hWd hW2 hW3 hqb hqb2 hqb3 ho3 hb3 hq4 hT4 hF4 hLA2 hE3
                      rw [List.append_assoc, ← HP1.out] at hW4
                      go_simp
                      go_wp2_with fail
                      go_roundg 0
                      case measure => have := HK2.out; omega
                      case rel => exact ⟨2, _, _, _, by have := HK2.out; omega, by go_num, rfl, hW4, hqb4⟩
                    · go_simp
                      go_at_call 67
                      (with_reducible refine (unhide hLA2).mono ?_)
                      rintro e w3 ⟨g3, c3, c4, rfl, ho3, hb3⟩
                      have hW3 := hW2.below hb3
                      have hqb3 := hqb2.below hb3 hqb2.lt
                      clear b0 b1 b2
                      obtain ⟨b0, b1, b2⟩ := blk3 hW3.box
                      refine hK _ _ ?_
                      clear hK K
                      refine wpAny_ready (rs := [6]) (by kernel_rfl) (by simp) ?_
                      refine AllReady.cons rfl (fun K hK => ?_) AllReady.nil
                      go_simp
                      refine hK _ _ ?_
                      clear hK K
                      refine wpAny_ready (rs := [13]) (by kernel_rfl) (by simp) ?_
                      refine AllReady.cons rfl (fun K hK => ?_) AllReady.nil
                      have hE3 := hEAk w3 g3 c4 c3 _ _ _ (hW3.bel hb hbq hv0) hW3.hq hW3.rows (own_mono ho3 (Nat.le_trans hb hW2.fr.size)) (by rw [List.length_append]; have := HPL.out; omega)
                      go_simp
                      go_at_call 41
                      (with_reducible refine (unhide hE3).mono ?_)
                      rintro e w4 ⟨rfl, v4, xs4, hq4, hT4, hF4⟩
                      have hW4 := hW3.step hqlt hq4 hT4 hF4
                      have hqb4 := hF4.blk hqb3 (Ne.symm hqq) (own_blk_ne hW3.rows.own hqb3 (by decide))
                      refine hK _ _ ?_
                      clear hK K
                      refine wpAny_take (i := 14) (v := ?_) rfl (by kernel_rfl) (by kernel_rfl) (by kernel_rfl) (fun _ _ _ h => h) (Or.inl ⟨by kernel_rfl, ?_⟩) ?_
                      rotate_left
                      · intro w
                        go_simp
                        try with_reducible rfl
                      refine wpAny_take (i := 15) (v := ?_) rfl (by kernel_rfl) (by kernel_rfl) (by kernel_rfl) (fun _ _ _ h => h) (Or.inl ⟨by kernel_rfl, ?_⟩) ?_
                      rotate_left
                      · intro w
                        go_simp
                        try with_reducible rfl
                      refine wpAny_done (by kernel_rfl) ?_ _
                      clear q0 b0 b1 b2 hW hWd hW2 hW3 hqb hqb2 hqb3 ho3 hb3 hq4 hT4 hF4 hLA2 hE3
                      rw [List.append_assoc, ← HP1.out] at hW4
                      go_simp
                      go_wp2_with fail
                      go_roundg 0
                      case measure => have := HK2.out; omega
                      case rel => exact ⟨2, _, _, _, by have := HK2.out; omega, by go_num, rfl, hW4, hqb4⟩
              · rw [HFI.out] at hW
                clear hk2
                go_wp2_with fail
                go_ret
                exact ⟨rfl, v', xs', hW.hq, hW.rows, hW.fr⟩
          · have HNO : Hid (opB R L k = false) := Lib.hid (by rw [HOP.out, decide_eq_false hz]; rfl)
            have hu : (L.getD k 0 != 0) = true := by simpa using hz
            clear hcb HOP hz
            generalize L.getD k 0 = u at *
            go_wp2_with fail
            go_roundg (R.C.length - (k + 1))
            case measure => have := HK.out; omega
            case rel =>
              refine ⟨k + 1, by have := HK.out; omega, by go_num, fun j hj => ?_, rfl⟩
              by_cases hjk : j = k
              · subst hjk; exact HNO.out
              · exact HALL.out j (by omega)
      · exact absurd (fiV_none.2 fun j hj => HALL.out j (by have := HK.out; omega)) HFN.out

end Go.Proofs.YthepfpiphlfgnaaGreat

/-
  YthepfpiphlfgnaaGreatTc: all tilings of the program, as rows.
-/
namespace Go.Proofs.YthepfpiphlfgnaaGreat
open Go.RowKit

theorem step_make_ints {w : World} {ops : Array Oper} {o : Oper} {a : Act} {K : Act → World → Prop} {Q : Exit → Act → World → Prop} {F : Prop}
    (hgd : o.guard = none) (l c : Operand) (hop : o.op = Op.makeSlice 42 l c) (n : Nat) (hn : n ≤ 4194304) (hl : a.eval l = .int .i64 (n : Int)) (hc : a.eval c = .int .i64 (n : Int))
    (hK : ∀ w', w'.ownsRow w.heap.size 3 1 (.slice (some ⟨w.heap.size, 0, none⟩) n n) n ((List.replicate n (0 : Int)).map (Value.int .i64)) → Below w.heap.size w w' → K (a.put o.dst (.slice (some ⟨w.heap.size, 0, none⟩) n n)) w') :
    if Region.wanted o (yielded ops a.tmps) = true then Oper.wp Tryz.prog o a w K Q else F := by
  have hw : Region.wanted o (yielded ops a.tmps) = true := by simp [Region.wanted, hgd]
  rw [if_pos hw]
  obtain ⟨w', hrun, r1, r2⟩ := make_ints n hn w
  unfold Oper.wp
  simp [execOp, hop, hl, hc, hrun, Result.andThen]
  exact hK w' r1 r2

theorem clipR_any (A : Option Addr) (n c : Nat) (hc : n ≤ c) (_hn : c ≤ 9223372036854775807) (w : World) :
    Calls Tryz.prog 43 #[.slice A n c] w fun e w' => e = .returned (.slice A n n) ∧ w = w' := by
  go_enter Tryz.func43, Tryz.ntmps43
  go_wp2_with fail
  go_ret
  exact ⟨rfl, rfl⟩

theorem own_capR {w : World} {base : Nat} {e : TypeId} {size : Nat} {A : Option Addr} {n c : Nat} {xs : List Value} (h : w.ownsRow base e size (.slice A n c) n xs) : c ≤ 9223372036854775807 := own_cap2 h

/-- Rows of one's own, as a result. -/
def RowsRet (w : World) (n : Nat) (Ts : List (List Int)) (e : Ending) (w' : World) : Prop :=
  ∃ A c c' xs, e = .returned (.slice A Ts.length c') ∧ RowsOf w' w.heap.size n (.slice A Ts.length c) xs Ts ∧ Below w.heap.size w w'

set_option maxHeartbeats 2000000 in
set_option maxRecDepth 20000 in
theorem tilings_any (R : Reg) (hR : R.ok) (A : Option Addr) (c B : Nat) (w : World) (hr : Reads w B 1 A R.C.length (R.C.map Value.bool)) (hB : B ≤ w.heap.size) :
    Calls Tryz.prog 14 #[.agg #[.int .i64 R.W, .int .i64 R.T, .slice A R.C.length c]] w (RowsRet w R.C.length (tilT R)) := by
  have hl36 := (len_bd hR).2
  have hb0 : Below w.heap.size w ((w.alloc (boxR R.W R.T A R.C.length c)).alloc (.cells #[.slice none 0 0] 40)) := ((Below.refl _ _).alloc (Nat.le_refl _) _).alloc (by simp) _
  have k0 : Blk ((w.alloc (boxR R.W R.T A R.C.length c)).alloc (.cells #[.slice none 0 0] 40)) w.heap.size 25 #[.int .i64 R.W, .int .i64 R.T, .slice A R.C.length c] := (Blk.new _ _ _).alloc _
  have k1 : Blk ((w.alloc (boxR R.W R.T A R.C.length c)).alloc (.cells #[.slice none 0 0] 40)) (w.heap.size + 1) 40 #[.slice none 0 0] := by
    have := Blk.new (w.alloc (boxR R.W R.T A R.C.length c)) 40 #[.slice none 0 0]
    simpa using this
  have hEA : ∀ (w' : World) (g : Nat), Below w.heap.size w w' → Blk w' (w.heap.size + 1) 40 #[.slice none 0 0] → w'.ownsRow w.heap.size 3 1 (.slice (some ⟨g, 0, none⟩) R.C.length R.C.length) R.C.length ((List.replicate R.C.length (0 : Int)).map (Value.int .i64)) →
      Hid (Calls Tryz.prog 41 #[.agg #[.int .i64 R.W, .int .i64 R.T, .slice A R.C.length c], .slice (some ⟨g, 0, none⟩) R.C.length R.C.length, .func (.func 42) #[] #[.pointer (some ⟨w.heap.size + 1, 0, none⟩)]] w' fun e w'' => e = .returned (.bool true) ∧ ∃ v' xs', Blk w'' (w.heap.size + 1) 40 #[v'] ∧ RowsOf w'' w.heap.size R.C.length v' xs' ([] ++ tilT R) ∧ Fr (w.heap.size + 1) (.slice none 0 0) v' w' w'') := fun w' g h hq ho =>
    hide (each_any R hR A c B (w.heap.size + 1) w.heap.size hB (by omega) 18 (bare R) g R.C.length R.C.length (.slice none 0 0) [] [] w' (lay_bare hR) (opN_bare hR) (hr.below (h.mono hB)) h.size hq (RowsOf.nil _ _ _) ho (by simp))
  clear hr
  go_enter Tryz.func14, Tryz.ntmps14
  go_upto_region 2 with fail
  generalize (w.alloc (boxR R.W R.T A R.C.length c)).alloc (.cells #[.slice none 0 0] 40) = w1 at *
  obtain ⟨b0, b1, b2⟩ := blk3 k0
  have q0 := k1.cell 0
  simp at q0
  refine wp_region_any (by kernel_rfl) ?_
  change wpAny _ _ _ _ _ _ _ (World.drew _)
  refine wpAny_take (i := 1) (v := ?_) rfl (by kernel_rfl) (by kernel_rfl) (by kernel_rfl) (fun _ _ _ h => h) (Or.inl ⟨by kernel_rfl, ?_⟩) ?_
  rotate_left
  · intro w
    go_simp
    try with_reducible rfl
  refine wpAny_take (i := 5) (v := ?_) rfl (by kernel_rfl) (by kernel_rfl) (by kernel_rfl) (fun _ _ _ h => h) (Or.inl ⟨by kernel_rfl, ?_⟩) ?_
  rotate_left
  · intro w
    go_simp
    try with_reducible rfl
  refine wpAny_ready (rs := [0, 2]) (by kernel_rfl) (by simp) ?_
  refine AllReady.cons rfl (fun K hK => ?_) (AllReady.cons rfl (fun K hK => ?_) AllReady.nil)
  · go_simp
    refine hK _ _ ?_
    clear hK K
    refine wpAny_ready (rs := [2]) (by kernel_rfl) (by simp) ?_
    refine AllReady.cons rfl (fun K hK => ?_) AllReady.nil
    go_simp
    refine hK _ _ ?_
    clear hK K
    refine wpAny_ready (rs := [3]) (by kernel_rfl) (by simp) ?_
    refine AllReady.cons rfl (fun K hK => ?_) AllReady.nil
    go_simp
    refine hK _ _ ?_
    clear hK K
    refine wpAny_ready (rs := [4]) (by kernel_rfl) (by simp) ?_
    refine AllReady.cons rfl (fun K hK => ?_) AllReady.nil
    refine step_make_ints rfl _ _ rfl R.C.length (by omega) rfl rfl ?_
    intro w2 ho2 hb2
    have hB2 := hb0.drew.trans (hb2.mono hb0.drew.size)
    have k02 := k0.drew.below hb2 k0.drew.lt
    have k12 := k1.drew.below hb2 k1.drew.lt
    have ho3 := own_mono ho2 hb0.drew.size
    have hE2 := hEA w2 w1.heap.size hB2 k12 ho3
    clear b0 b1 b2 q0 hb2
    obtain ⟨b0, b1, b2⟩ := blk3 k02
    refine hK _ _ ?_
    clear hK K
    refine wpAny_ready (rs := [6]) (by kernel_rfl) (by simp) ?_
    refine AllReady.cons rfl (fun K hK => ?_) AllReady.nil
    go_simp
    go_at_call 41
    (with_reducible refine (unhide hE2).mono ?_)
    rintro e w3 ⟨rfl, v3, xs3, hq3, hT3, hF3⟩
    refine hK _ _ ?_
    clear hK K
    refine wpAny_done (by kernel_rfl) ?_ _
    have hB3 := hB2.trans (hF3.below hB2.size (by omega) (fun k h => by simp [Value.ownBlock] at h))
    rw [List.nil_append] at hT3
    obtain ⟨A3, c3, rfl, hc3, _⟩ := own_form hT3.own
    have hcap := own_capR hT3.own
    have HL3 := Lib.hid hT3.len
    have q3 := hq3.cell 0
    simp at q3
    clear b0 b1 b2 hE2 k02 k12 ho2 ho3 hq3 hF3 hB2 k0 k1 hb0 hEA
    go_simp
    go_wp2_with (go_at_call 43; refine (clipR_any _ _ _ hc3 hcap _).mono ?_; rintro e w4 ⟨rfl, rfl⟩)
    go_ret
    exact ⟨A3, c3, _, xs3, by rw [← HL3.out]; rfl, by rw [← HL3.out]; exact hT3, hB3⟩
  · go_simp
    refine hK _ _ ?_
    clear hK K
    refine wpAny_ready (rs := [0, 3]) (by kernel_rfl) (by simp) ?_
    refine AllReady.cons rfl (fun K hK => ?_) (AllReady.cons rfl (fun K hK => ?_) AllReady.nil)
    · go_simp
      refine hK _ _ ?_
      clear hK K
      refine wpAny_ready (rs := [3]) (by kernel_rfl) (by simp) ?_
      refine AllReady.cons rfl (fun K hK => ?_) AllReady.nil
      go_simp
      refine hK _ _ ?_
      clear hK K
      refine wpAny_ready (rs := [4]) (by kernel_rfl) (by simp) ?_
      refine AllReady.cons rfl (fun K hK => ?_) AllReady.nil
      refine step_make_ints rfl _ _ rfl R.C.length (by omega) rfl rfl ?_
      intro w2 ho2 hb2
      have hB2 := hb0.drew.trans (hb2.mono hb0.drew.size)
      have k02 := k0.drew.below hb2 k0.drew.lt
      have k12 := k1.drew.below hb2 k1.drew.lt
      have ho3 := own_mono ho2 hb0.drew.size
      have hE2 := hEA w2 w1.heap.size hB2 k12 ho3
      clear b0 b1 b2 q0 hb2
      obtain ⟨b0, b1, b2⟩ := blk3 k02
      refine hK _ _ ?_
      clear hK K
      refine wpAny_ready (rs := [6]) (by kernel_rfl) (by simp) ?_
      refine AllReady.cons rfl (fun K hK => ?_) AllReady.nil
      go_simp
      go_at_call 41
      (with_reducible refine (unhide hE2).mono ?_)
      rintro e w3 ⟨rfl, v3, xs3, hq3, hT3, hF3⟩
      refine hK _ _ ?_
      clear hK K
      refine wpAny_done (by kernel_rfl) ?_ _
      have hB3 := hB2.trans (hF3.below hB2.size (by omega) (fun k h => by simp [Value.ownBlock] at h))
      rw [List.nil_append] at hT3
      obtain ⟨A3, c3, rfl, hc3, _⟩ := own_form hT3.own
      have hcap := own_capR hT3.own
      have HL3 := Lib.hid hT3.len
      have q3 := hq3.cell 0
      simp at q3
      clear b0 b1 b2 hE2 k02 k12 ho2 ho3 hq3 hF3 hB2 k0 k1 hb0 hEA
      go_simp
      go_wp2_with (go_at_call 43; refine (clipR_any _ _ _ hc3 hcap _).mono ?_; rintro e w4 ⟨rfl, rfl⟩)
      go_ret
      exact ⟨A3, c3, _, xs3, by rw [← HL3.out]; rfl, by rw [← HL3.out]; exact hT3, hB3⟩
    · go_simp
      refine hK _ _ ?_
      clear hK K
      refine wpAny_ready (rs := [0, 4]) (by kernel_rfl) (by simp) ?_
      refine AllReady.cons rfl (fun K hK => ?_) (AllReady.cons rfl (fun K hK => ?_) AllReady.nil)
      · go_simp
        refine hK _ _ ?_
        clear hK K
        refine wpAny_ready (rs := [4]) (by kernel_rfl) (by simp) ?_
        refine AllReady.cons rfl (fun K hK => ?_) AllReady.nil
        refine step_make_ints rfl _ _ rfl R.C.length (by omega) rfl rfl ?_
        intro w2 ho2 hb2
        have hB2 := hb0.drew.trans (hb2.mono hb0.drew.size)
        have k02 := k0.drew.below hb2 k0.drew.lt
        have k12 := k1.drew.below hb2 k1.drew.lt
        have ho3 := own_mono ho2 hb0.drew.size
        have hE2 := hEA w2 w1.heap.size hB2 k12 ho3
        clear b0 b1 b2 q0 hb2
        obtain ⟨b0, b1, b2⟩ := blk3 k02
        refine hK _ _ ?_
        clear hK K
        refine wpAny_ready (rs := [6]) (by kernel_rfl) (by simp) ?_
        refine AllReady.cons rfl (fun K hK => ?_) AllReady.nil
        go_simp
        go_at_call 41
        (with_reducible refine (unhide hE2).mono ?_)
        rintro e w3 ⟨rfl, v3, xs3, hq3, hT3, hF3⟩
        refine hK _ _ ?_
        clear hK K
        refine wpAny_done (by kernel_rfl) ?_ _
        have hB3 := hB2.trans (hF3.below hB2.size (by omega) (fun k h => by simp [Value.ownBlock] at h))
        rw [List.nil_append] at hT3
        obtain ⟨A3, c3, rfl, hc3, _⟩ := own_form hT3.own
        have hcap := own_capR hT3.own
        have HL3 := Lib.hid hT3.len
        have q3 := hq3.cell 0
        simp at q3
        clear b0 b1 b2 hE2 k02 k12 ho2 ho3 hq3 hF3 hB2 k0 k1 hb0 hEA
        go_simp
        go_wp2_with (go_at_call 43; refine (clipR_any _ _ _ hc3 hcap _).mono ?_; rintro e w4 ⟨rfl, rfl⟩)
        go_ret
        exact ⟨A3, c3, _, xs3, by rw [← HL3.out]; rfl, by rw [← HL3.out]; exact hT3, hB3⟩
      · refine step_make_ints rfl _ _ rfl R.C.length (by omega) rfl rfl ?_
        intro w2 ho2 hb2
        have hB2 := hb0.drew.trans (hb2.mono hb0.drew.size)
        have k02 := k0.drew.below hb2 k0.drew.lt
        have k12 := k1.drew.below hb2 k1.drew.lt
        have ho3 := own_mono ho2 hb0.drew.size
        have hE2 := hEA w2 w1.heap.size hB2 k12 ho3
        clear b0 b1 b2 q0 hb2
        obtain ⟨b0, b1, b2⟩ := blk3 k02
        refine hK _ _ ?_
        clear hK K
        refine wpAny_ready (rs := [0]) (by kernel_rfl) (by simp) ?_
        refine AllReady.cons rfl (fun K hK => ?_) AllReady.nil
        go_simp
        refine hK _ _ ?_
        clear hK K
        refine wpAny_ready (rs := [6]) (by kernel_rfl) (by simp) ?_
        refine AllReady.cons rfl (fun K hK => ?_) AllReady.nil
        go_simp
        go_at_call 41
        (with_reducible refine (unhide hE2).mono ?_)
        rintro e w3 ⟨rfl, v3, xs3, hq3, hT3, hF3⟩
        refine hK _ _ ?_
        clear hK K
        refine wpAny_done (by kernel_rfl) ?_ _
        have hB3 := hB2.trans (hF3.below hB2.size (by omega) (fun k h => by simp [Value.ownBlock] at h))
        rw [List.nil_append] at hT3
        obtain ⟨A3, c3, rfl, hc3, _⟩ := own_form hT3.own
        have hcap := own_capR hT3.own
        have HL3 := Lib.hid hT3.len
        have q3 := hq3.cell 0
        simp at q3
        clear b0 b1 b2 hE2 k02 k12 ho2 ho3 hq3 hF3 hB2 k0 k1 hb0 hEA
        go_simp
        go_wp2_with (go_at_call 43; refine (clipR_any _ _ _ hc3 hcap _).mono ?_; rintro e w4 ⟨rfl, rfl⟩)
        go_ret
        exact ⟨A3, c3, _, xs3, by rw [← HL3.out]; rfl, by rw [← HL3.out]; exact hT3, hB3⟩

end Go.Proofs.YthepfpiphlfgnaaGreat

/-
  YthepfpiphlfgnaaGreatTe: all tilings of the reference.
-/
namespace Go.Proofs.YthepfpiphlfgnaaGreat
open Go.RowKit

/-- Rows, as a result; their base is given. -/
def RowsAt (b : Nat) (w : World) (n : Nat) (Ts : List (List Int)) (e : Ending) (w' : World) : Prop :=
  ∃ A c xs, e = .returned (.slice A Ts.length c) ∧ RowsOf w' b n (.slice A Ts.length c) xs Ts ∧ Below w.heap.size w w' ∧ ∀ k, (Value.slice A Ts.length c).ownBlock = some k → w.heap.size ≤ k

/-- Where the reference's search stands. -/
structure SW2 (w wr : World) (R : Reg) (A : Option Addr) (c b : Nat) (v : Value) (xs : List Value) (Ts : List (List Int)) (g c' : Nat) (L : List Int) : Prop where
  bel : Below w.heap.size w wr
  rows : RowsOf wr b R.C.length v xs Ts
  new : ∀ k, v.ownBlock = some k → w.heap.size ≤ k
  box : Blk wr w.heap.size 25 #[.int .i64 R.W, .int .i64 R.T, .slice A R.C.length c]
  own : wr.ownsRow b 3 1 (.slice (some ⟨g, 0, none⟩) R.C.length c') R.C.length (L.map (Value.int .i64))
section
variable {w wr w2 : World} {R : Reg} {A : Option Addr} {c b g c' : Nat} {v v' : Value} {xs xs' : List Value} {Ts Ts' : List (List Int)} {L : List Int}
theorem SW2.below (H : SW2 w wr R A c b v xs Ts g c' L) (hb : Below wr.heap.size wr w2) : SW2 w w2 R A c b v xs Ts g c' L :=
  ⟨H.bel.trans (hb.mono H.bel.size), H.rows.below hb, H.new, H.box.below hb H.box.lt, own_below H.own hb (Nat.le_refl _)⟩
theorem SW2.appN {v2 : Value} {xs2 : List Value} {Ts2 : List (List Int)} (H : SW2 w wr R A c b v xs Ts g c' L) (h2 : RowsOf wr b R.C.length v2 xs2 Ts2) (ho : w2.ownsRow b 42 1 v' (xs.length + xs2.length) (xs ++ xs2)) (hg : wr.grownBy w2 v.ownBlock) (hn : v'.ownBlock = v.ownBlock ∨ v'.ownBlock = some wr.heap.size) : SW2 w w2 R A c b v' (xs ++ xs2) (Ts ++ Ts2) g c' L := by
  refine ⟨H.bel.grown hg H.bel.size H.new, H.rows.appN h2 ho hg, fun k hk => ?_, H.box.grown hg (fun h => own_blk_ne H.rows.own H.box (by decide) h.symm), own_grown H.own hg (own_far H.own H.rows.own (by decide))⟩
  rcases hn with h | h
  · exact H.new k (by rw [← h]; exact hk)
  · rw [h] at hk
    have := H.bel.size
    simp at hk
    omega
end

set_option maxHeartbeats 1000000 in
set_option maxRecDepth 20000 in
theorem allS_none (R : Reg) (hR : R.ok) (A : Option Addr) (c B b : Nat) (hBb : B ≤ b) (L : List Int) (g c' d : Nat) (w : World) (hL : Lay R L) (hfn : fiV R L = none)
    (hr : Reads w B 1 A R.C.length (R.C.map Value.bool)) (hb : b ≤ w.heap.size) (ho : w.ownsRow b 3 1 (.slice (some ⟨g, 0, none⟩) R.C.length c') R.C.length (L.map (Value.int .i64))) :
    Calls Tryz.prog 49 #[.agg #[.int .i64 R.W, .int .i64 R.T, .slice A R.C.length c], .slice (some ⟨g, 0, none⟩) R.C.length d] w (RowsAt b w R.C.length [L]) := by
  have hW0 : SW2 w ((w.alloc (boxR R.W R.T A R.C.length c)).alloc (.cells #[] 42)) R A c b (.slice (some ⟨w.heap.size + 1, 0, none⟩) 0 0) [] [] g c' L := by
    refine ⟨((Below.refl _ _).alloc (Nat.le_refl _) _).alloc (by simp) _, ⟨?_, rfl, fun i x M h => by simp at h⟩, fun k hk => by simp [Value.ownBlock] at hk; omega, (Blk.new _ _ _).alloc _, (ho.alloc _).alloc _⟩
    have := World.ownsRow_made (base := b) (e := 42) (size := 1) (w.alloc (boxR R.W R.T A R.C.length c)) #[] 0 (by simp; omega) (by simp [maxLen]) (by simp)
    simpa using this
  have hFR := fun w' (h : Below w.heap.size w w') (hown : w'.ownsRow b 3 1 (.slice (some ⟨g, 0, none⟩) R.C.length c') R.C.length (L.map (Value.int .i64))) => hide (firstS_any R hR A c w'.heap.size L (some ⟨g, 0, none⟩) d hL.len w' ((hr.below (h.mono (Nat.le_trans hBb hb))).more (Nat.le_trans (Nat.le_trans hBb hb) h.size)) (Reads.of_own hown) (Nat.le_refl _))
  simp only [fiZ_none hfn] at hFR
  clear hfn hr ho
  go_enter Tryz.func49, Tryz.ntmps49
  go_upto_region 2 with fail
  generalize (w.alloc (boxR R.W R.T A R.C.length c)).alloc (.cells #[] 42) = w0 at *
  obtain ⟨b0, b1, b2⟩ := blk3 hW0.box
  go_wp2_with fail
  refine (unhide (hFR _ hW0.bel hW0.own)).mono ?_
  rintro e w1 ⟨rfl, hb1⟩
  have hW1 := hW0.below hb1
  clear hW0 hb1 b0 b1 b2 hFR
  go_wp2_with (at_builtin; refine wpList_app rfl _ _ _ rfl b 42 _ 24 Tryz.underlying40 info_ints rfl (by omega) (.slice (some ⟨w.heap.size + 1, 0, none⟩) 0 0) 0 [] rfl (hW1.rows.own.alloc _) w1.heap.size (.slice (some ⟨g, 0, none⟩) R.C.length d) rfl ?c1 rfl (by omega) ?c2 ?_)
  case c1 => simp
  case c2 => have := hW1.bel.size; simp; omega
  rintro g' cc' w2 hown hgr hgg hge _
  have hR2 := hW1.rows.app (x := .slice (some ⟨g, 0, none⟩) R.C.length d) (L := L) ⟨g, c', d, rfl, hW1.own⟩ hown hgr
  have hB2 := (hW1.bel.alloc hW1.bel.size (.cells #[.slice (some ⟨g, 0, none⟩) R.C.length d] 42)).grown hgr (by have := hW1.bel.size; simp; omega) hW1.new
  have hnew : ∀ k, (Value.slice (some ⟨g', 0, none⟩) 1 cc').ownBlock = some k → w.heap.size ≤ k := fun k hk => by
    simp [Value.ownBlock] at hk
    subst hk
    rcases hgg with h | h
    · exact hW1.new _ h.symm
    · have := hW1.bel.size
      have hz := World.size_alloc w1 (.cells #[.slice (some ⟨g, 0, none⟩) R.C.length d] 42)
      omega
  go_wp2_with fail
  go_ret
  exact ⟨_, cc', _, rfl, hR2, hB2, hnew⟩

set_option maxHeartbeats 4000000 in
set_option maxRecDepth 20000 in
theorem allS_any (R : Reg) (hR : R.ok) (A : Option Addr) (c B b : Nat) (hBb : B ≤ b) : ∀ (f : Nat) (L : List Int) (g c' d : Nat) (w : World) (_ : f ≤ 18) (_ : Lay R L) (_ : opN R L ≤ 2 * f)
    (_ : Reads w B 1 A R.C.length (R.C.map Value.bool)) (_ : b ≤ w.heap.size) (_ : w.ownsRow b 3 1 (.slice (some ⟨g, 0, none⟩) R.C.length c') R.C.length (L.map (Value.int .i64))),
    Calls Tryz.prog 49 #[.agg #[.int .i64 R.W, .int .i64 R.T, .slice A R.C.length c], .slice (some ⟨g, 0, none⟩) R.C.length d] w (RowsAt b w R.C.length (allT R f L)) := by
  intro f
  induction f with
  | zero =>
    intro L g c' d w _ hL hn hr hb ho
    have hfn := opN_zero (R := R) (L := L) (by omega)
    rw [allT_none hfn]
    exact allS_none R hR A c B b hBb L g c' d w hL hfn hr hb ho
  | succ f ih =>
    intro L g c' d w hf18 hL hn hr hb ho
    have hl36 := (len_bd hR).2
    have hl1 := (len_bd hR).1
    have hp18 : 2 ^ f ≤ 262144 := by
      have := Nat.pow_le_pow_right (n := 2) (by omega) (show f ≤ 18 by omega)
      simpa using this
    have hFI := hide (firstS_any R hR A c w.heap.size L (some ⟨g, 0, none⟩) d hL.len)
    have hW0 : SW2 w ((w.alloc (boxR R.W R.T A R.C.length c)).alloc (.cells #[] 42)) R A c b (.slice (some ⟨w.heap.size + 1, 0, none⟩) 0 0) [] [] g c' L := by
      refine ⟨((Below.refl _ _).alloc (Nat.le_refl _) _).alloc (by simp) _, ⟨?_, rfl, fun i x M h => by simp at h⟩, fun k hk => by simp [Value.ownBlock] at hk; omega, (Blk.new _ _ _).alloc _, (ho.alloc _).alloc _⟩
      have := World.ownsRow_made (base := b) (e := 42) (size := 1) (w.alloc (boxR R.W R.T A R.C.length c)) #[] 0 (by simp; omega) (by simp [maxLen]) (by simp)
      simpa using this
    have hFR := fun w' (h : Below w.heap.size w w') (hown : w'.ownsRow b 3 1 (.slice (some ⟨g, 0, none⟩) R.C.length c') R.C.length (L.map (Value.int .i64))) => hide (firstS_any R hR A c w'.heap.size L (some ⟨g, 0, none⟩) d hL.len w' ((hr.below (h.mono (Nat.le_trans hBb hb))).more (Nat.le_trans (Nat.le_trans hBb hb) h.size)) (Reads.of_own hown) (Nat.le_refl _))
    have hLO := fun (k : Nat) (hk : k < R.C.length) (way : Int) (hw : 1 ≤ way ∧ way ≤ 4) w' (h : Below w.heap.size w w') (hown : w'.ownsRow b 3 1 (.slice (some ⟨g, 0, none⟩) R.C.length c') R.C.length (L.map (Value.int .i64))) => hide (layOneS_any R hR A c w'.heap.size L (some ⟨g, 0, none⟩) d k hk way hw hL w' ((hr.below (h.mono (Nat.le_trans hBb hb))).more (Nat.le_trans (Nat.le_trans hBb hb) h.size)) (Reads.of_own hown) (Nat.le_refl _))
    have hIH := fun (k : Nat) (way : Int) (hw : way = 1 ∨ way = 2) (hf : frB R L k way = true) (w' : World) (g2 c2 d2 : Nat) (hb' : Below w.heap.size w w') (ho' : w'.ownsRow b 3 1 (.slice (some ⟨g2, 0, none⟩) R.C.length c2) R.C.length ((lyV R L k way).map (Value.int .i64))) =>
      hide (ih (lyV R L k way) g2 c2 d2 w' (by omega) (lay_lyV hR hL (by rcases hw with rfl | rfl <;> rfl) hf) (by have := opN_lay hR hL.len (by omega) hf; omega) (hr.below (hb'.mono (Nat.le_trans hBb hb))) (Nat.le_trans hb hb'.size) ho')
    clear ih hFI
    cases hfi : fiV R L with
    | none =>
      rw [allT_none hfi]
      exact allS_none R hR A c B b hBb L g c' d w hL hfi hr hb ho
    | some k =>
      have hklt := (fiV_some.1 hfi).1
      have HFI := Lib.hid (preT_two (f := f) hfi)
      simp only [fiZ_some hfi] at hFR
      have hneg : decide ((k : Int) < 0) = false := decide_eq_false (by omega)
      have hal := allT_len R f
      have HAL := Lib.hid hal
      clear hfi hr ho hal
      go_enter Tryz.func49, Tryz.ntmps49
      go_upto_region 2 with fail
      generalize (w.alloc (boxR R.W R.T A R.C.length c)).alloc (.cells #[] 42) = w0 at *
      obtain ⟨b0, b1, b2⟩ := blk3 hW0.box
      go_wp2_with fail
      refine (unhide (hFR _ hW0.bel hW0.own)).mono ?_
      rintro e w1 ⟨rfl, hb1⟩
      have hW1 := hW0.below hb1
      clear hW0 hb1 b0 b1 b2 hFR
      go_wp2_with fail
      go_loopg [5, 7] 2 (fun r s5 s7 wr => ∃ (j : Nat) (xs : List Value) (Ts : List (List Int)), j + r = 2 ∧ s7 = .int .i64 ((j : Int) + 1) ∧ Ts = preT R f L k j ∧ SW2 w wr R A c b s5 xs Ts g c' L)
      case atStart => exact ⟨0, _, _, by omega, rfl, rfl, hW1⟩
      case round =>
        clear hW1
        obtain ⟨j, xs, Ts, hj, rfl, rfl, hW⟩ := hrel
        have HJ := Lib.hid hj
        obtain ⟨b0, b1, b2⟩ := blk3 hW.box
        by_cases hj2 : j < 2
        · have hw : ((j : Int) + 1 = 1 ∨ (j : Int) + 1 = 2) := by omega
          have hLk := hLO k hklt ((j : Int) + 1) (by omega) _ hW.bel hW.own
          have hp1 : preT R f L k (j + 1) = preT R f L k j ++ (if frB R L k ((j : Int) + 1) = true then allT R f (lyV R L k ((j : Int) + 1)) else []) := rfl
          have HPL := Lib.hid (preT_len R f L k j (by omega))
          have hle2 : decide ((j : Int) + 1 ≤ 2) = true := decide_eq_true (by omega)
          cases hfb : frB R L k ((j : Int) + 1) with
          | false =>
            rw [hfb] at hLk hp1
            have HP1 := Lib.hid hp1
            clear hp1 hfb hIH
            go_wp2_with fail
            refine (unhide hLk).mono ?_
            rintro e w2 ⟨g2, c2, c3, rfl, ho2, hb2⟩
            have hW2 := hW.below hb2
            clear hW hb2 b0 b1 b2 hLk ho2
            go_wp2_with fail
            go_roundg (2 - (j + 1))
            case measure => have := HJ.out; omega
            case rel => exact ⟨j + 1, _, _, by have := HJ.out; omega, by go_num, rfl, by rw [HP1.out]; simpa using hW2⟩
          | true =>
            rw [hfb] at hLk hp1
            rw [if_pos rfl] at hp1 hLk
            have hI := fun w' g2 c2 d2 hb' ho' => hIH k ((j : Int) + 1) hw hfb w' g2 c2 d2 hb' ho'
            have HP1 := Lib.hid hp1
            clear hp1 hfb hIH
            go_wp2_with fail
            refine (unhide hLk).mono ?_
            rintro e w2 ⟨g2, c2, c3, rfl, ho2, hb2⟩
            have hW2 := hW.below hb2
            have hI2 := hI w2 g2 c3 c2 hW2.bel (own_mono ho2 (Nat.le_trans hb hW.bel.size))
            clear hW hb2 b0 b1 b2 hLk hI
            obtain ⟨b0, b1, b2⟩ := blk3 hW2.box
            go_wp2_with fail
            refine (unhide hI2).mono ?_
            rintro e w3 ⟨A4, c4, xs4, rfl, hR4, hb3, _⟩
            have hW3 := hW2.below hb3
            clear hW2 hb3 b0 b1 b2 hI2
            have HTL : Hid ((allT R f (lyV R L k ((j : Int) + 1))).length ≤ 262144) := Lib.hid (Nat.le_trans (HAL.out _) hp18)
            have HXL : Hid (xs.length ≤ 262144) := Lib.hid (by rw [hW3.rows.len]; exact Nat.le_trans HPL.out hp18)
            generalize allT R f (lyV R L k ((j : Int) + 1)) = TT at *
            have HL4 := Lib.hid hR4.len
            have ho4 := hR4.own
            rw [hR4.len] at ho4
            have hrd := Reads.of_own ho4
            have hone := hR4.one
            go_wp2_with (at_builtin; refine wpList_appN rfl _ _ _ rfl b 42 _ 24 Tryz.underlying40 info_ints rfl (by omega) _ xs.length xs rfl hW3.rows.own w3.heap.size A4 TT.length c4 xs4 rfl hrd hone (by have := HTL.out; have := HXL.out; omega) (Nat.le_trans hb hW3.bel.size) ?_; rintro v' w5 ho5 hg5 hn5)
            have hW5 := hW3.appN hR4 (by rw [HL4.out]; exact ho5) hg5 hn5
            clear hW3 ho5 hg5 hn5 ho4 hrd hone hR4
            go_wp2_with fail
            go_roundg (2 - (j + 1))
            case measure => have := HJ.out; omega
            case rel => exact ⟨j + 1, _, _, by have := HJ.out; omega, by go_num, rfl, by rw [HP1.out]; exact hW5⟩
        · obtain rfl : j = 2 := by omega
          rw [HFI.out] at hW
          have hle2 : decide (((2 : Nat) : Int) + 1 ≤ 2) = false := by decide
          obtain ⟨A5, c5, rfl, _, _⟩ := own_form hW.rows.own
          have HX := Lib.hid hW.rows.len
          go_wp2_with fail
          go_ret
          exact ⟨A5, c5, xs, by rw [← HX.out]; rfl, by rw [← HX.out]; exact hW.rows, hW.bel, by rw [← HX.out]; exact hW.new⟩

end Go.Proofs.YthepfpiphlfgnaaGreat

/-
  YthepfpiphlfgnaaGreatTf: TilingsAll of the reference; HeightSum.
-/
namespace Go.Proofs.YthepfpiphlfgnaaGreat
open Go.RowKit

set_option maxHeartbeats 1000000 in
set_option maxRecDepth 20000 in
theorem tilingsAllS_ok (R : Reg) (hR : R.ok) (A : Option Addr) (c B : Nat) (w : World) (hr : Reads w B 1 A R.C.length (R.C.map Value.bool)) (hB : B ≤ w.heap.size) :
    Calls Tryz.prog 20 #[.agg #[.int .i64 R.W, .int .i64 R.T, .slice A R.C.length c]] w (RowsAt w.heap.size w R.C.length (tilT R)) := by
  have hl36 := (len_bd hR).2
  have HV := hide (validS_any R.W R.T A R.C.length c B R.C (w.alloc (boxR R.W R.T A R.C.length c)) (hr.alloc hB _) (by simp; omega) (by omega))
  rw [valid_of_ok hR] at HV
  have hLB := fun w' (h : Below w.heap.size w w') => hide (laidBareS_ok R hR A c B w' (hr.below (h.mono hB)) (Nat.le_trans hB h.size))
  have hAL : ∀ w' (g d : Nat), Below w.heap.size w w' → w'.ownsRow w.heap.size 3 1 (.slice (some ⟨g, 0, none⟩) R.C.length R.C.length) R.C.length ((List.replicate R.C.length (0 : Int)).map (Value.int .i64)) → Hid (Calls Tryz.prog 49 #[.agg #[.int .i64 R.W, .int .i64 R.T, .slice A R.C.length c], .slice (some ⟨g, 0, none⟩) R.C.length d] w' (RowsAt w.heap.size w' R.C.length (tilT R))) := fun w' g d h ho =>
    hide (allS_any R hR A c B w.heap.size hB 18 (bare R) g R.C.length d w' (Nat.le_refl _) (lay_bare hR) (opN_bare hR) (hr.below (h.mono hB)) h.size ho)
  clear hr
  generalize tilT R = TT at *
  go_enter Tryz.func20, Tryz.ntmps20
  go_wp2_with fail
  refine (unhide HV).mono ?_
  rintro e w1 ⟨rfl, hb1⟩
  obtain ⟨hB1, hk1, b0, b1, b2⟩ := box_keep hb1
  clear hb1 HV
  have hLB1 := hLB _ hB1.drew
  go_upto_region 3 with fail
  go_region_with
    (first
      | (go_at_call 50; (with_reducible refine (unhide hLB1).mono ?_); rintro e w2 ⟨g2, rfl, ho2, hb2⟩; have d0 := cell_kept (w := w1.drew) b0 hb2; have d1 := cell_kept (w := w1.drew) b1 hb2; have d2 := cell_kept (w := w1.drew) b2 hb2; have hB2 := hB1.drew.trans (hb2.mono hB1.drew.size); have ho3 := own_mono ho2 hB1.drew.size; have hA2 := hAL w2 g2 R.C.length hB2 ho3)
      | (go_at_call 49; (with_reducible refine (unhide hA2).mono ?_); rintro e w3 ⟨A3, c3, xs3, rfl, hR3, hb3, hn3⟩))
  all_goals
    have hB3 := hB2.trans (hb3.mono hB2.size)
    clear hLB hAL hLB1 hA2 d0 d1 d2 b0 b1 b2 ho2 ho3 hb2 hB1
    go_wp2_with fail
    go_ret
    exact ⟨A3, c3, xs3, rfl, hR3, hB3, fun k hk => Nat.le_trans hB2.size (hn3 k hk)⟩




theorem simple_cases {W T : Int} {bs : List Bool} (h : simpleB W T bs = true) : ∃ R : Reg, R.ok ∧ W = (R.W : Int) ∧ T = (R.T : Int) ∧ bs = R.C ∧ SimpleP R := by
  have hv : validB W T bs = true := by
    cases hv : validB W T bs with
    | true => rfl
    | false => rw [simpleB_no hv] at h; cases h
  obtain ⟨R, hR, rfl, rfl, rfl⟩ := reg_of_valid hv
  exact ⟨R, hR, rfl, rfl, rfl, (simple_of hR).1 h⟩



end Go.Proofs.YthepfpiphlfgnaaGreat

/-
  YthepfpiphlfgnaaGreatTg: Lowest and Highest: the program.
-/
namespace Go.Proofs.YthepfpiphlfgnaaGreat
open Go.RowKit






end Go.Proofs.YthepfpiphlfgnaaGreat

/-
  YthepfpiphlfgnaaGreatTh: Lowest and Highest: the reference.
-/
namespace Go.Proofs.YthepfpiphlfgnaaGreat
open Go.RowKit








end Go.Proofs.YthepfpiphlfgnaaGreat
