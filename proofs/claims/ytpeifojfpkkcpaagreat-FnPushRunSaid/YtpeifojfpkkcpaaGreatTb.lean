/-
  YtpeifojfpkkcpaaGreatTb: all tilings of the program: the function that collects them, and the search.
-/
import Derived.Test.YtpeifojfpkkcpaaGreatTa
import Derived.Test.YtpeifojfpkkcpaaGreatFm
namespace Go.Proofs.YtpeifojfpkkcpaaGreat
open Go.RowKit

theorem info_ints : (Tryz.prog.info? 26).map (fun i => (i.zero, i.size, i.bytes)) = some (some (.slice none 0 0), 1, 24) := by kernel_rfl

theorem Fr.app {q : Nat} {v v' : Value} {w w' : World} {o : Obj} (hg : (w.alloc o).grownBy w' v.ownBlock) (hn : v'.ownBlock = v.ownBlock ∨ v'.ownBlock = some (w.alloc o).heap.size) (u : Value) : Fr q v v' w (w'.setCell ⟨q, 0, none⟩ u) := by
  refine ⟨hg.os, hg.tape, hg.output, ?_, fun k hk h1 h2 => ?_, fun k hk => ?_⟩
  · have := hg.size; simp [World.setCell] at this ⊢; omega
  · rw [Below.heap_setCell _ _ _ _ (by simpa using h1), hg.block k (by simp; omega) h2, Below.heap_alloc _ _ _ hk]
  · rcases hn with h | h
    · exact .inl (by rw [← h]; exact hk)
    · rw [h] at hk
      right
      simp at hk
      omega

set_option maxHeartbeats 1000000 in
set_option maxRecDepth 20000 in
theorem leaf_any (q b n : Nat) (v : Value) (xs : List Value) (Ts : List (List Int)) (g c' : Nat) (L : List Int) (w : World) (hq : Blk w q 72 #[v]) (hT : RowsOf w b n v xs Ts) (hx : Inner w b n (.slice (some ⟨g, 0, none⟩) n c') L) (hlen : Ts.length ≤ 4294967295) (hb : b ≤ w.heap.size) :
    Calls Tryz.prog 84 #[.slice (some ⟨g, 0, none⟩) n c', .pointer (some ⟨q, 0, none⟩)] w fun e w' => e = .returned (.bool true) ∧ ∃ v' xs', Blk w' q 72 #[v'] ∧ RowsOf w' b n v' xs' (Ts ++ [L]) ∧ Fr q v v' w w' := by
  have q0 := hq.cell 0
  simp at q0
  have hxl := hT.len
  have HXL := Lib.hid hxl
  clear hxl
  go_enter Tryz.func84, Tryz.ntmps84
  go_wp2_with (at_builtin; refine wpList_app rfl _ _ _ rfl b 26 _ 24 Tryz.underlying72 info_ints rfl (by omega) v xs.length xs rfl (hT.own.alloc _) w.heap.size (.slice (some ⟨g, 0, none⟩) n c') rfl ?c1 rfl (by have := HXL.out; omega) ?c2 ?_)
  case c1 => simp
  case c2 => simp; omega
  rintro g' cc' w2 hown hgr hgg _ _
  have hR2 := hT.app hx hown hgr
  have hq2 : Blk w2 q 72 #[v] := (hq.alloc _).grown hgr (fun h => own_blk_ne hT.own hq (by decide) h.symm)
  have q2 := hq2.cell 0
  have f2 := hq2.frozen 0
  simp at q2
  clear q0
  go_wp2_with fail
  go_ret
  refine ⟨rfl, .slice (some ⟨g', 0, none⟩) (xs.length + 1) cc', _, hq2.set_ 0 _, hR2.setCell (p := ⟨q, 0, none⟩) hq2 (by decide) (by decide) _, Fr.app hgr ?_ _⟩
  rcases hgg with h | h
  · exact .inl h
  · exact .inr (by rw [h]; simp [Value.ownBlock])

/-- What the first directions give. -/
def preT (R : Reg) (f : Nat) (L : List Int) (k : Nat) : Nat → List (List Int)
  | 0 => []
  | j + 1 => preT R f L k j ++ (if frB R L k ((j : Int) + 1) = true then allT R f (lyV R L k ((j : Int) + 1)) else [])
theorem preT_two {R : Reg} {f : Nat} {L : List Int} {k : Nat} (h : fiV R L = some k) : preT R f L k 2 = allT R (f + 1) L := by
  rw [allT_some h]
  simp [preT]
theorem preT_len (R : Reg) (f : Nat) (L : List Int) (k : Nat) (j : Nat) (hj : j ≤ 1) : (preT R f L k j).length ≤ 2 ^ f := by
  have := allT_len R f
  match j, hj with
  | 0, _ => simp [preT]
  | 1, _ =>
    simp only [preT, List.nil_append]
    split
    · exact this _
    · simp

/-- Where the search stands: the variable that collects, its rows, the box, the list. -/
structure EW (w wx : World) (R : Reg) (A : Option Addr) (c q b : Nat) (v0 v : Value) (xs : List Value) (Ts : List (List Int)) (g c' : Nat) (L : List Int) : Prop where
  hq : Blk wx q 72 #[v]
  rows : RowsOf wx b R.C.length v xs Ts
  fr : Fr q v0 v w wx
  box : Blk wx w.heap.size 25 #[.int .i64 R.W, .int .i64 R.T, .slice A R.C.length c]
  own : wx.ownsRow b 3 1 (.slice (some ⟨g, 0, none⟩) R.C.length c') R.C.length (L.map (Value.int .i64))
section
variable {w wx w2 : World} {R : Reg} {A : Option Addr} {c q b g c' : Nat} {v0 v v' : Value} {xs xs' : List Value} {Ts Ts' : List (List Int)} {L : List Int}
theorem EW.below (H : EW w wx R A c q b v0 v xs Ts g c' L) (hb : Below wx.heap.size wx w2) : EW w w2 R A c q b v0 v xs Ts g c' L :=
  ⟨H.hq.below hb H.hq.lt, H.rows.below hb, H.fr.trans (Fr.of_below hb), H.box.below hb H.box.lt, own_below H.own hb (Nat.le_refl _)⟩
theorem EW.step (H : EW w wx R A c q b v0 v xs Ts g c' L) (hlt : q < w.heap.size) (hq : Blk w2 q 72 #[v']) (hT : RowsOf w2 b R.C.length v' xs' Ts') (hF : Fr q v v' wx w2) : EW w w2 R A c q b v0 v' xs' Ts' g c' L :=
  ⟨hq, hT, H.fr.trans hF, hF.blk H.box (by omega) (own_blk_ne H.rows.own H.box (by decide)), hF.own H.own (own_blk_ne H.own H.hq (by decide)) (own_far H.own H.rows.own (by decide))⟩
theorem EW.bel (H : EW w wx R A c q b v0 v xs Ts g c' L) (hb : b ≤ w.heap.size) (hbq : b ≤ q) (hv0 : ∀ k, v0.ownBlock = some k → b ≤ k) : Below b w wx := H.fr.below hb hbq hv0
end

set_option maxHeartbeats 2000000 in
set_option maxRecDepth 20000 in
theorem each_none (R : Reg) (hR : R.ok) (A : Option Addr) (c B q b : Nat) (hBb : B ≤ b) (hbq : b ≤ q) (L : List Int) (g c' d : Nat) (v : Value) (xs : List Value) (Ts : List (List Int)) (w : World) (hL : Lay R L) (hfn : fiV R L = none)
    (hr : Reads w B 1 A R.C.length (R.C.map Value.bool)) (hb : b ≤ w.heap.size) (hq : Blk w q 72 #[v]) (hT : RowsOf w b R.C.length v xs Ts) (ho : w.ownsRow b 3 1 (.slice (some ⟨g, 0, none⟩) R.C.length c') R.C.length (L.map (Value.int .i64))) (hlen : Ts.length ≤ 4294967295) :
    Calls Tryz.prog 83 #[.agg #[.int .i64 R.W, .int .i64 R.T, .slice A R.C.length c], .slice (some ⟨g, 0, none⟩) R.C.length d, .func (.func 84) #[] #[.pointer (some ⟨q, 0, none⟩)]] w fun e w' => e = .returned (.bool true) ∧ ∃ v' xs', Blk w' q 72 #[v'] ∧ RowsOf w' b R.C.length v' xs' (Ts ++ [L]) ∧ Fr q v v' w w' := by
  have HFN := Lib.hid (fiV_none.1 hfn)
  have hl36 := (len_bd hR).2
  have hqlt := hq.lt
  have hv0 : ∀ k, v.ownBlock = some k → b ≤ k := fun k h => (hT.own.lt k h).1
  have hW0 : EW w (w.alloc (boxR R.W R.T A R.C.length c)) R A c q b v v xs Ts g c' L := ⟨hq.alloc _, hT.below ((Below.refl _ _).alloc (Nat.le_refl _) _), Fr.of_below ((Below.refl _ _).alloc (Nat.le_refl _) _), Blk.new _ _ _, ho.alloc _⟩
  have hCG := fun k (hk : k < R.C.length) w' (hb' : Below b w w') => getB (hr.below (hb'.mono hBb)) hk
  clear hfn
  go_enter Tryz.func83, Tryz.ntmps83
  go_upto_region 2 with fail
  generalize w.alloc (boxR R.W R.T A R.C.length c) = w0 at *
  go_loopg [7] R.C.length (fun r s7 wr => ∃ k : Nat, k + r = R.C.length ∧ s7 = .int .i64 (k : Nat) ∧ (∀ j, j < k → opB R L j = false) ∧ wr = w0)
  case atStart => exact ⟨0, by omega, rfl, fun j hj => absurd hj (by omega), rfl⟩
  case round =>
    obtain ⟨k, hk, rfl, hall, rfl⟩ := hrel
    have HK := Lib.hid hk
    have HALL := Lib.hid hall
    clear hk hall
    have hbw := hW0.bel hb hbq hv0
    by_cases hlt : k < R.C.length
    · obtain ⟨ac, rfl, hac, hcc⟩ := hCG k hlt _ hbw
      have hop : opB R L k = (R.C.getD k false && decide (L.getD k 0 = 0)) := rfl
      have HOP := Lib.hid hop
      have hxk : wr.cell? ⟨g, k, none⟩ = some (.int .i64 (L.getD k 0)) := by
        rw [hW0.own.cellAt k (by omega), List.getElem?_map, List.getD_eq_getElem?_getD, List.getElem?_eq_getElem (by rw [hL.len]; exact hlt)]; rfl
      obtain ⟨b0, b1, b2⟩ := blk3 hW0.box
      clear hop
      cases hcb : R.C.getD k false with
      | false =>
        rw [hcb] at hcc HOP
        have HNO : Hid (opB R L k = false) := Lib.hid (by rw [HOP.out]; rfl)
        clear hcb HOP
        go_wp2_with fail
        go_roundg (R.C.length - (k + 1))
        case measure => have := HK.out; omega
        case rel =>
          refine ⟨k + 1, by have := HK.out; omega, by go_num, fun j hj => ?_, rfl⟩
          by_cases hjk : j = k
          · subst hjk; exact HNO.out
          · exact HALL.out j (by omega)
      | true =>
        rw [hcb] at hcc HOP
        by_cases hz : L.getD k 0 = 0
        · exact absurd (show opB R L k = true by rw [HOP.out, hz]; rfl) (by rw [HFN.out k hlt]; decide)
        · have HNO : Hid (opB R L k = false) := Lib.hid (by rw [HOP.out, decide_eq_false hz]; rfl)
          have hu : (L.getD k 0 != 0) = true := by simpa using hz
          clear hcb HOP hz
          generalize L.getD k 0 = u at *
          go_wp2_with fail
          go_roundg (R.C.length - (k + 1))
          case measure => have := HK.out; omega
          case rel =>
            refine ⟨k + 1, by have := HK.out; omega, by go_num, fun j hj => ?_, rfl⟩
            by_cases hjk : j = k
            · subst hjk; exact HNO.out
            · exact HALL.out j (by omega)
    · obtain rfl : k = R.C.length := by have := HK.out; omega
      have hLF := hide (leaf_any q b R.C.length v xs Ts g d L wr hW0.hq hW0.rows ⟨g, c', d, rfl, hW0.own⟩ hlen (Nat.le_trans hb hbw.size))
      go_wp2_with fail
      refine (unhide hLF).mono ?_
      rintro e w2 ⟨rfl, v', xs', hq2, hT2, hF2⟩
      go_wp2_with fail
      go_ret
      exact ⟨rfl, v', xs', hq2, hT2, hW0.fr.trans hF2⟩

set_option maxHeartbeats 4000000 in
set_option maxRecDepth 20000 in
theorem each_any (R : Reg) (hR : R.ok) (A : Option Addr) (c B q b : Nat) (hBb : B ≤ b) (hbq : b ≤ q) : ∀ (f : Nat) (L : List Int) (g c' d : Nat) (v : Value) (xs : List Value) (Ts : List (List Int)) (w : World) (_ : Lay R L) (_ : opN R L ≤ 2 * f)
    (_ : Reads w B 1 A R.C.length (R.C.map Value.bool)) (_ : b ≤ w.heap.size) (_ : Blk w q 72 #[v]) (_ : RowsOf w b R.C.length v xs Ts) (_ : w.ownsRow b 3 1 (.slice (some ⟨g, 0, none⟩) R.C.length c') R.C.length (L.map (Value.int .i64))) (_ : Ts.length + 2 ^ f ≤ 4294967295),
    Calls Tryz.prog 83 #[.agg #[.int .i64 R.W, .int .i64 R.T, .slice A R.C.length c], .slice (some ⟨g, 0, none⟩) R.C.length d, .func (.func 84) #[] #[.pointer (some ⟨q, 0, none⟩)]] w fun e w' => e = .returned (.bool true) ∧ ∃ v' xs', Blk w' q 72 #[v'] ∧ RowsOf w' b R.C.length v' xs' (Ts ++ allT R f L) ∧ Fr q v v' w w' := by
  intro f
  induction f with
  | zero =>
    intro L g c' d v xs Ts w hL hn hr hb hq hT ho hlen
    have hfn := opN_zero (R := R) (L := L) (by omega)
    rw [allT_none hfn]
    exact each_none R hR A c B q b hBb hbq L g c' d v xs Ts w hL hfn hr hb hq hT ho (by have := Nat.two_pow_pos 0; omega)
  | succ f ih =>
    intro L g c' d v xs Ts w hL hn hr hb hq hT ho hlen
    by_cases hfn : fiV R L = none
    · rw [allT_none hfn]
      exact each_none R hR A c B q b hBb hbq L g c' d v xs Ts w hL hfn hr hb hq hT ho (by have := Nat.two_pow_pos (f + 1); omega)
    have HFN := Lib.hid hfn
    clear hfn
    have hl36 := (len_bd hR).2
    have hqlt := hq.lt
    have hv0 : ∀ k, v.ownBlock = some k → b ≤ k := fun k h => (hT.own.lt k h).1
    have hW0 : EW w (w.alloc (boxR R.W R.T A R.C.length c)) R A c q b v v xs Ts g c' L := ⟨hq.alloc _, hT.below ((Below.refl _ _).alloc (Nat.le_refl _) _), Fr.of_below ((Below.refl _ _).alloc (Nat.le_refl _) _), Blk.new _ _ _, ho.alloc _⟩
    have h2f : 0 < 2 ^ f := Nat.two_pow_pos f
    rw [Nat.pow_succ] at hlen
    have hFR := fun (k : Nat) (hk : k < R.C.length) (way : Int) (w' : World) (hb' : Below b w w') (hown : w'.ownsRow b 3 1 (.slice (some ⟨g, 0, none⟩) R.C.length c') R.C.length (L.map (Value.int .i64))) => hide (free_any R hR A c w'.heap.size L (some ⟨g, 0, none⟩) d k hk way hL.len w' ((hr.below (hb'.mono hBb)).more (Nat.le_trans (Nat.le_trans hBb hb) hb'.size)) (Reads.of_own hown))
    have hLA := fun (k : Nat) (way : Int) (hf : frB R L k way = true) (w' : World) (hown : w'.ownsRow b 3 1 (.slice (some ⟨g, 0, none⟩) R.C.length c') R.C.length (L.map (Value.int .i64))) => hide (lay_any R hR A R.C.length c w'.heap.size L (some ⟨g, 0, none⟩) d k way (.inr ⟨_, _, rfl⟩) hL.len hf w' (Reads.of_own hown) (Nat.le_refl _))
    have hEA := fun (k : Nat) (way : Int) (hw : way = 1 ∨ way = 2) (hf : frB R L k way = true) (w' : World) (g2 c2 d2 : Nat) (v' : Value) (xs' : List Value) (Ts' : List (List Int)) (hb' : Below b w w') (hq' : Blk w' q 72 #[v']) (hT' : RowsOf w' b R.C.length v' xs' Ts') (ho' : w'.ownsRow b 3 1 (.slice (some ⟨g2, 0, none⟩) R.C.length c2) R.C.length ((lyV R L k way).map (Value.int .i64))) (hl' : Ts'.length + 2 ^ f ≤ 4294967295) =>
      hide (ih (lyV R L k way) g2 c2 d2 v' xs' Ts' w' (lay_lyV hR hL (by rcases hw with rfl | rfl <;> rfl) hf) (by have := opN_lay hR hL.len (by omega) hf; omega) (hr.below (hb'.mono hBb)) (Nat.le_trans hb hb'.size) hq' hT' ho' hl')
    have hCG := fun k (hk : k < R.C.length) w' (hb' : Below b w w') => getB (hr.below (hb'.mono hBb)) hk
    clear ih
    go_enter Tryz.func83, Tryz.ntmps83
    go_upto_region 2 with fail
    generalize w.alloc (boxR R.W R.T A R.C.length c) = w0 at *
    go_loopg [7] R.C.length (fun r s7 wr => ∃ k : Nat, k + r = R.C.length ∧ s7 = .int .i64 (k : Nat) ∧ (∀ j, j < k → opB R L j = false) ∧ wr = w0)
    case atStart => exact ⟨0, by omega, rfl, fun j hj => absurd hj (by omega), rfl⟩
    case round =>
      obtain ⟨k, hk, rfl, hall, rfl⟩ := hrel
      have HK := Lib.hid hk
      have HALL := Lib.hid hall
      clear hk hall
      have hbw := hW0.bel hb hbq hv0
      by_cases hlt : k < R.C.length
      · obtain ⟨ac, rfl, hac, hcc⟩ := hCG k hlt _ hbw
        have hop : opB R L k = (R.C.getD k false && decide (L.getD k 0 = 0)) := rfl
        have HOP := Lib.hid hop
        have hxk : wr.cell? ⟨g, k, none⟩ = some (.int .i64 (L.getD k 0)) := by
          rw [hW0.own.cellAt k (by omega), List.getElem?_map, List.getD_eq_getElem?_getD, List.getElem?_eq_getElem (by rw [hL.len]; exact hlt)]; rfl
        obtain ⟨b0, b1, b2⟩ := blk3 hW0.box
        clear hop
        cases hcb : R.C.getD k false with
        | false =>
          rw [hcb] at hcc HOP
          have HNO : Hid (opB R L k = false) := Lib.hid (by rw [HOP.out]; rfl)
          clear hcb HOP
          go_wp2_with fail
          go_roundg (R.C.length - (k + 1))
          case measure => have := HK.out; omega
          case rel =>
            refine ⟨k + 1, by have := HK.out; omega, by go_num, fun j hj => ?_, rfl⟩
            by_cases hjk : j = k
            · subst hjk; exact HNO.out
            · exact HALL.out j (by omega)
        | true =>
          rw [hcb] at hcc HOP
          by_cases hz : L.getD k 0 = 0
          · have HYES : Hid (opB R L k = true) := Lib.hid (by rw [HOP.out, hz]; rfl)
            have hfi : fiV R L = some k := fiV_some.2 ⟨hlt, HYES.out, HALL.out⟩
            have HAT := Lib.hid (allT_some (f := f) hfi)
            rw [hz] at hxk
            have hne : ((k : Int) == (R.C.length : Int)) = false := by simp; omega
            clear hz hcb HOP
            have HFI := Lib.hid (preT_two (f := f) hfi)
            have hW6 := hW0.below (w2 := wr.alloc (.cells #[.int .i64 1, .int .i64 2] 3)) ((Below.refl _ _).alloc (Nat.le_refl _) _)
            have hq6 := Blk.new wr 3 #[.int .i64 1, .int .i64 2]
            have hqq : q ≠ wr.heap.size := by have := hW0.hq.lt; omega
            have hbs := hbw.size
            go_upto_region 7 with fail
            generalize wr.alloc (.cells #[.int .i64 1, .int .i64 2] 3) = w6 at *
            clear hW0 b0 b1 b2 hxk hcc hbw
            generalize wr.heap.size = qb at *
            go_loopg [40] 2 (fun r s40 wx => ∃ (j : Nat) (v' : Value) (xs' : List Value) (Ts' : List (List Int)), j + r = 2 ∧ s40 = .int .i64 (j : Nat) ∧ Ts' = Ts ++ preT R f L k j ∧ EW w wx R (some ac) c q b v v' xs' Ts' g c' L ∧ Blk wx qb 3 #[.int .i64 1, .int .i64 2])
            case atStart => exact ⟨0, _, _, _, by omega, rfl, by simp [preT], hW6, hq6⟩
            case round =>
              clear hW6 hq6
              obtain ⟨j, v', xs', Ts', hk2, rfl, rfl, hW, hqb⟩ := hrel
              rcases (show j = 0 ∨ j = 1 ∨ j = 2 by omega) with rfl | rfl | rfl
              · have HK2 := Lib.hid hk2
                clear hk2
                have q0 := hqb.cell 0
                simp at q0
                have hFRk := hFR k hlt 1
                have hp1 : preT R f L k 1 = preT R f L k 0 ++ (if frB R L k 1 = true then allT R f (lyV R L k 1) else []) := rfl
                have hpl := preT_len R f L k 0 (by omega)
                have HPL := Lib.hid hpl
                clear hpl
                obtain ⟨b0, b1, b2⟩ := blk3 hW.box
                go_upto_region 9 with fail
                have hWd := hW.below (Below.refl _ _).drew
                have hF1 := hFRk _ (hWd.bel hb hbq hv0) hWd.own
                cases hfb : frB R L k 1 with
                | false =>
                  rw [hfb] at hF1 hp1
                  have HP1 := Lib.hid hp1
                  clear hp1 hfb hFRk hLA hEA hFR
                  refine wp_region_any (by kernel_rfl) ?_
                  change wpAny _ _ _ _ _ _ _ (World.drew _)
                  refine wpAny_take (i := 1) (v := ?_) rfl (by kernel_rfl) (by kernel_rfl) (by kernel_rfl) (fun _ _ _ h => h) (Or.inl ⟨by kernel_rfl, ?_⟩) ?_
                  rotate_left
                  · intro w
                    go_simp
                    try with_reducible rfl
                  refine wpAny_take (i := 2) (v := ?_) rfl (by kernel_rfl) (by kernel_rfl) (by kernel_rfl) (fun _ _ _ h => h) (Or.inl ⟨by kernel_rfl, ?_⟩) ?_
                  rotate_left
                  · intro w
                    go_simp
                    try with_reducible rfl
                  refine wpAny_take (i := 3) (v := ?_) rfl (by kernel_rfl) (by kernel_rfl) (by kernel_rfl) (fun _ _ _ h => h) (Or.inl ⟨by kernel_rfl, ?_⟩) ?_
                  rotate_left
                  · intro w
                    go_simp
                    try with_reducible rfl
                  refine wpAny_ready (rs := [0]) (by kernel_rfl) (by simp) ?_
                  refine AllReady.cons rfl (fun K hK => ?_) AllReady.nil
                  go_simp
                  refine hK _ _ ?_
                  clear hK K
                  refine wpAny_ready (rs := [4]) (by kernel_rfl) (by simp) ?_
                  refine AllReady.cons rfl (fun K hK => ?_) AllReady.nil
                  go_simp
                  go_at_call 102
                  (with_reducible refine (unhide hF1).mono ?_)
                  rintro e w2 ⟨rfl, hb2⟩
                  refine hK _ _ ?_
                  clear hK K
                  refine wpAny_take (i := 5) (v := ?_) rfl (by kernel_rfl) (by kernel_rfl) (by kernel_rfl) (fun _ _ _ h => h) (Or.inl ⟨by kernel_rfl, ?_⟩) ?_
                  rotate_left
                  · intro w
                    go_simp
                    try with_reducible rfl
                  refine wpAny_take (i := 6) rfl (by kernel_rfl) (by kernel_rfl) (by kernel_rfl) (fun _ _ _ h => h) (Or.inr ⟨by kernel_rfl, rfl⟩) ?_
                  refine wpAny_take (i := 7) rfl (by kernel_rfl) (by kernel_rfl) (by kernel_rfl) (fun _ _ _ h => h) (Or.inr ⟨by kernel_rfl, rfl⟩) ?_
                  refine wpAny_take (i := 8) rfl (by kernel_rfl) (by kernel_rfl) (by kernel_rfl) (fun _ _ _ h => h) (Or.inr ⟨by kernel_rfl, rfl⟩) ?_
                  refine wpAny_take (i := 9) rfl (by kernel_rfl) (by kernel_rfl) (by kernel_rfl) (fun _ _ _ h => h) (Or.inr ⟨by kernel_rfl, rfl⟩) ?_
                  refine wpAny_take (i := 10) rfl (by kernel_rfl) (by kernel_rfl) (by kernel_rfl) (fun _ _ _ h => h) (Or.inr ⟨by kernel_rfl, rfl⟩) ?_
                  refine wpAny_take (i := 11) rfl (by kernel_rfl) (by kernel_rfl) (by kernel_rfl) (fun _ _ _ h => h) (Or.inr ⟨by kernel_rfl, rfl⟩) ?_
                  refine wpAny_take (i := 12) rfl (by kernel_rfl) (by kernel_rfl) (by kernel_rfl) (fun _ _ _ h => h) (Or.inr ⟨by kernel_rfl, rfl⟩) ?_
                  refine wpAny_take (i := 13) rfl (by kernel_rfl) (by kernel_rfl) (by kernel_rfl) (fun _ _ _ h => h) (Or.inr ⟨by kernel_rfl, rfl⟩) ?_
                  refine wpAny_take (i := 14) rfl (by kernel_rfl) (by kernel_rfl) (by kernel_rfl) (fun _ _ _ h => h) (Or.inr ⟨by kernel_rfl, rfl⟩) ?_
                  refine wpAny_take (i := 15) (v := ?_) rfl (by kernel_rfl) (by kernel_rfl) (by kernel_rfl) (fun _ _ _ h => h) (Or.inl ⟨by kernel_rfl, ?_⟩) ?_
                  rotate_left
                  · intro w
                    go_simp
                    try with_reducible rfl
                  refine wpAny_done (by kernel_rfl) ?_ _
                  have hW2 := hWd.below hb2
                  have hqb2 := hqb.drew.below hb2 hqb.drew.lt
                  clear q0 b0 b1 b2 hW hWd hF1 hb2
                  go_simp
                  go_wp2_with fail
                  go_roundg 1
                  case measure => have := HK2.out; omega
                  case rel => exact ⟨1, _, _, _, by have := HK2.out; omega, by go_num, by rw [HP1.out]; simp, hW2, hqb2⟩
                | true =>
                  rw [hfb] at hF1 hp1
                  rw [if_pos rfl] at hp1
                  have hLAk := fun w' hown => hLA k 1 hfb w' hown
                  have hEAk := fun w' g2 c2 d2 v' xs' Ts' hb' hq' hT' ho' hl' => hEA k 1 (by omega) hfb w' g2 c2 d2 v' xs' Ts' hb' hq' hT' ho' hl'
                  have HP1 := Lib.hid hp1
                  clear hp1 hfb hFRk hLA hEA hFR
                  refine wp_region_any (by kernel_rfl) ?_
                  change wpAny _ _ _ _ _ _ _ (World.drew _)
                  refine wpAny_take (i := 1) (v := ?_) rfl (by kernel_rfl) (by kernel_rfl) (by kernel_rfl) (fun _ _ _ h => h) (Or.inl ⟨by kernel_rfl, ?_⟩) ?_
                  rotate_left
                  · intro w
                    go_simp
                    try with_reducible rfl
                  refine wpAny_take (i := 2) (v := ?_) rfl (by kernel_rfl) (by kernel_rfl) (by kernel_rfl) (fun _ _ _ h => h) (Or.inl ⟨by kernel_rfl, ?_⟩) ?_
                  rotate_left
                  · intro w
                    go_simp
                    try with_reducible rfl
                  refine wpAny_take (i := 3) (v := ?_) rfl (by kernel_rfl) (by kernel_rfl) (by kernel_rfl) (fun _ _ _ h => h) (Or.inl ⟨by kernel_rfl, ?_⟩) ?_
                  rotate_left
                  · intro w
                    go_simp
                    try with_reducible rfl
                  refine wpAny_ready (rs := [0]) (by kernel_rfl) (by simp) ?_
                  refine AllReady.cons rfl (fun K hK => ?_) AllReady.nil
                  go_simp
                  refine hK _ _ ?_
                  clear hK K
                  refine wpAny_ready (rs := [4]) (by kernel_rfl) (by simp) ?_
                  refine AllReady.cons rfl (fun K hK => ?_) AllReady.nil
                  go_simp
                  go_at_call 102
                  (with_reducible refine (unhide hF1).mono ?_)
                  rintro e w2 ⟨rfl, hb2⟩
                  have hW2 := hWd.below hb2
                  have hqb2 := hqb.drew.below hb2 hqb.drew.lt
                  have hLA2 := hLAk w2 hW2.own
                  clear b0 b1 b2 hb2 hF1
                  obtain ⟨b0, b1, b2⟩ := blk3 hW2.box
                  refine hK _ _ ?_
                  clear hK K
                  refine wpAny_take (i := 5) (v := ?_) rfl (by kernel_rfl) (by kernel_rfl) (by kernel_rfl) (fun _ _ _ h => h) (Or.inl ⟨by kernel_rfl, ?_⟩) ?_
                  rotate_left
                  · intro w
                    go_simp
                    try with_reducible rfl
                  refine wpAny_take (i := 8) (v := ?_) rfl (by kernel_rfl) (by kernel_rfl) (by kernel_rfl) (fun _ _ _ h => h) (Or.inl ⟨by kernel_rfl, ?_⟩) ?_
                  rotate_left
                  · intro w
                    go_simp
                    try with_reducible rfl
                  refine wpAny_take (i := 9) (v := ?_) rfl (by kernel_rfl) (by kernel_rfl) (by kernel_rfl) (fun _ _ _ h => h) (Or.inl ⟨by kernel_rfl, ?_⟩) ?_
                  rotate_left
                  · intro w
                    go_simp
                    try with_reducible rfl
                  refine wpAny_take (i := 10) (v := ?_) rfl (by kernel_rfl) (by kernel_rfl) (by kernel_rfl) (fun _ _ _ h => h) (Or.inl ⟨by kernel_rfl, ?_⟩) ?_
                  rotate_left
                  · intro w
                    go_simp
                    try with_reducible rfl
                  refine wpAny_take (i := 12) (v := ?_) rfl (by kernel_rfl) (by kernel_rfl) (by kernel_rfl) (fun _ _ _ h => h) (Or.inl ⟨by kernel_rfl, ?_⟩) ?_
                  rotate_left
                  · intro w
                    go_simp
                    try with_reducible rfl
                  refine wpAny_ready (rs := [6, 7]) (by kernel_rfl) (by simp) ?_
                  refine AllReady.cons rfl (fun K hK => ?_) (AllReady.cons rfl (fun K hK => ?_) AllReady.nil)
                  · go_simp
                    refine hK _ _ ?_
                    clear hK K
                    refine wpAny_ready (rs := [7]) (by kernel_rfl) (by simp) ?_
                    refine AllReady.cons rfl (fun K hK => ?_) AllReady.nil
                    go_simp
                    refine hK _ _ ?_
                    clear hK K
                    refine wpAny_ready (rs := [11]) (by kernel_rfl) (by simp) ?_
                    refine AllReady.cons rfl (fun K hK => ?_) AllReady.nil
                    go_simp
                    go_at_call 103
                    (with_reducible refine (unhide hLA2).mono ?_)
                    rintro e w3 ⟨g3, c3, c4, rfl, ho3, hb3⟩
                    have hW3 := hW2.below hb3
                    have hqb3 := hqb2.below hb3 hqb2.lt
                    clear b0 b1 b2
                    obtain ⟨b0, b1, b2⟩ := blk3 hW3.box
                    refine hK _ _ ?_
                    clear hK K
                    refine wpAny_ready (rs := [13]) (by kernel_rfl) (by simp) ?_
                    refine AllReady.cons rfl (fun K hK => ?_) AllReady.nil
                    have hE3 := hEAk w3 g3 c4 c3 _ _ _ (hW3.bel hb hbq hv0) hW3.hq hW3.rows (own_mono ho3 (Nat.le_trans hb hW2.fr.size)) (by rw [List.length_append]; have := HPL.out; omega)
                    go_simp
                    go_at_call 83
                    (with_reducible refine (unhide hE3).mono ?_)
                    rintro e w4 ⟨rfl, v4, xs4, hq4, hT4, hF4⟩
                    have hW4 := hW3.step hqlt hq4 hT4 hF4
                    have hqb4 := hF4.blk hqb3 (Ne.symm hqq) (own_blk_ne hW3.rows.own hqb3 (by decide))
                    refine hK _ _ ?_
                    clear hK K
                    refine wpAny_take (i := 14) (v := ?_) rfl (by kernel_rfl) (by kernel_rfl) (by kernel_rfl) (fun _ _ _ h => h) (Or.inl ⟨by kernel_rfl, ?_⟩) ?_
                    rotate_left
                    · intro w
                      go_simp
                      try with_reducible rfl
                    refine wpAny_take (i := 15) (v := ?_) rfl (by kernel_rfl) (by kernel_rfl) (by kernel_rfl) (fun _ _ _ h => h) (Or.inl ⟨by kernel_rfl, ?_⟩) ?_
                    rotate_left
                    · intro w
                      go_simp
                      try with_reducible rfl
                    refine wpAny_done (by kernel_rfl) ?_ _
                    clear q0 b0 b1 b2 hW hWd hW2 hW3 hqb hqb2 hqb3 ho3 hb3 hq4 hT4 hF4 hLA2 hE3
                    rw [List.append_assoc, ← HP1.out] at hW4
                    go_simp
                    go_wp2_with fail
                    go_roundg 1
                    case measure => have := HK2.out; omega
                    case rel => exact ⟨1, _, _, _, by have := HK2.out; omega, by go_num, rfl, hW4, hqb4⟩
                  · go_simp
                    refine hK _ _ ?_
                    clear hK K
                    refine wpAny_ready (rs := [6, 11]) (by kernel_rfl) (by simp) ?_
                    refine AllReady.cons rfl (fun K hK => ?_) (AllReady.cons rfl (fun K hK => ?_) AllReady.nil)
                    · go_simp
                      refine hK _ _ ?_
                      clear hK K
                      refine wpAny_ready (rs := [11]) (by kernel_rfl) (by simp) ?_
                      refine AllReady.cons rfl (fun K hK => ?_) AllReady.nil
                      go_simp
                      go_at_call 103
                      (with_reducible refine (unhide hLA2).mono ?_)
                      rintro e w3 ⟨g3, c3, c4, rfl, ho3, hb3⟩
                      have hW3 := hW2.below hb3
                      have hqb3 := hqb2.below hb3 hqb2.lt
                      clear b0 b1 b2
                      obtain ⟨b0, b1, b2⟩ := blk3 hW3.box
                      refine hK _ _ ?_
                      clear hK K
                      refine wpAny_ready (rs := [13]) (by kernel_rfl) (by simp) ?_
                      refine AllReady.cons rfl (fun K hK => ?_) AllReady.nil
                      have hE3 := hEAk w3 g3 c4 c3 _ _ _ (hW3.bel hb hbq hv0) hW3.hq hW3.rows (own_mono ho3 (Nat.le_trans hb hW2.fr.size)) (by rw [List.length_append]; have := HPL.out; omega)
                      go_simp
                      go_at_call 83
                      (with_reducible refine (unhide hE3).mono ?_)
                      rintro e w4 ⟨rfl, v4, xs4, hq4, hT4, hF4⟩
                      have hW4 := hW3.step hqlt hq4 hT4 hF4
                      have hqb4 := hF4.blk hqb3 (Ne.symm hqq) (own_blk_ne hW3.rows.own hqb3 (by decide))
                      refine hK _ _ ?_
                      clear hK K
                      refine wpAny_take (i := 14) (v := ?_) rfl (by kernel_rfl) (by kernel_rfl) (by kernel_rfl) (fun _ _ _ h => h) (Or.inl ⟨by kernel_rfl, ?_⟩) ?_
                      rotate_left
                      · intro w
                        go_simp
                        try with_reducible rfl
                      refine wpAny_take (i := 15) (v := ?_) rfl (by kernel_rfl) (by kernel_rfl) (by kernel_rfl) (fun _ _ _ h => h) (Or.inl ⟨by kernel_rfl, ?_⟩) ?_
                      rotate_left
                      · intro w
                        go_simp
                        try with_reducible rfl
                      refine wpAny_done (by kernel_rfl) ?_ _
                      clear q0 b0 b1 b2 hW hWd hW2 hW3 hqb hqb2 hqb3 ho3 hb3 hq4 hT4 hF4 hLA2 hE3
                      rw [List.append_assoc, ← HP1.out] at hW4
                      go_simp
                      go_wp2_with fail
                      go_roundg 1
                      case measure => have := HK2.out; omega
                      case rel => exact ⟨1, _, _, _, by have := HK2.out; omega, by go_num, rfl, hW4, hqb4⟩
                    · go_simp
                      go_at_call 103
                      (with_reducible refine (unhide hLA2).mono ?_)
                      rintro e w3 ⟨g3, c3, c4, rfl, ho3, hb3⟩
                      have hW3 := hW2.below hb3
                      have hqb3 := hqb2.below hb3 hqb2.lt
                      clear b0 b1 b2
                      obtain ⟨b0, b1, b2⟩ := blk3 hW3.box
                      refine hK _ _ ?_
                      clear hK K
                      refine wpAny_ready (rs := [6]) (by kernel_rfl) (by simp) ?_
                      refine AllReady.cons rfl (fun K hK => ?_) AllReady.nil
                      go_simp
                      refine hK _ _ ?_
                      clear hK K
                      refine wpAny_ready (rs := [13]) (by kernel_rfl) (by simp) ?_
                      refine AllReady.cons rfl (fun K hK => ?_) AllReady.nil
                      have hE3 := hEAk w3 g3 c4 c3 _ _ _ (hW3.bel hb hbq hv0) hW3.hq hW3.rows (own_mono ho3 (Nat.le_trans hb hW2.fr.size)) (by rw [List.length_append]; have := HPL.out; omega)
                      go_simp
                      go_at_call 83
                      (with_reducible refine (unhide hE3).mono ?_)
                      rintro e w4 ⟨rfl, v4, xs4, hq4, hT4, hF4⟩
                      have hW4 := hW3.step hqlt hq4 hT4 hF4
                      have hqb4 := hF4.blk hqb3 (Ne.symm hqq) (own_blk_ne hW3.rows.own hqb3 (by decide))
                      refine hK _ _ ?_
                      clear hK K
                      refine wpAny_take (i := 14) (v := ?_) rfl (by kernel_rfl) (by kernel_rfl) (by kernel_rfl) (fun _ _ _ h => h) (Or.inl ⟨by kernel_rfl, ?_⟩) ?_
                      rotate_left
                      · intro w
                        go_simp
                        try with_reducible rfl
                      refine wpAny_take (i := 15) (v := ?_) rfl (by kernel_rfl) (by kernel_rfl) (by kernel_rfl) (fun _ _ _ h => h) (Or.inl ⟨by kernel_rfl, ?_⟩) ?_
                      rotate_left
                      · intro w
                        go_simp
                        try with_reducible rfl
                      refine wpAny_done (by kernel_rfl) ?_ _
                      clear q0 b0 b1 b2 hW hWd hW2 hW3 hqb hqb2 hqb3 ho3 hb3 hq4 hT4 hF4 hLA2 hE3
                      rw [List.append_assoc, ← HP1.out] at hW4
                      go_simp
                      go_wp2_with fail
                      go_roundg 1
                      case measure => have := HK2.out; omega
                      case rel => exact ⟨1, _, _, _, by have := HK2.out; omega, by go_num, rfl, hW4, hqb4⟩
              · have HK2 := Lib.hid hk2
                clear hk2
                have q0 := hqb.cell 1
                simp at q0
                have hFRk := hFR k hlt 2
                have hp1 : preT R f L k 2 = preT R f L k 1 ++ (if frB R L k 2 = true then allT R f (lyV R L k 2) else []) := rfl
                have hpl := preT_len R f L k 1 (by omega)
                have HPL := Lib.hid hpl
                clear hpl
                obtain ⟨b0, b1, b2⟩ := blk3 hW.box
                go_upto_region 9 with fail
                have hWd := hW.below (Below.refl _ _).drew
                have hF1 := hFRk _ (hWd.bel hb hbq hv0) hWd.own
                cases hfb : frB R L k 2 with
                | false =>
                  rw [hfb] at hF1 hp1
                  have HP1 := Lib.hid hp1
                  clear hp1 hfb hFRk hLA hEA hFR
                  refine wp_region_any (by kernel_rfl) ?_
                  change wpAny _ _ _ _ _ _ _ (World.drew _)
                  refine wpAny_take (i := 1) (v := ?_) rfl (by kernel_rfl) (by kernel_rfl) (by kernel_rfl) (fun _ _ _ h => h) (Or.inl ⟨by kernel_rfl, ?_⟩) ?_
                  rotate_left
                  · intro w
                    go_simp
                    try with_reducible rfl
                  refine wpAny_take (i := 2) (v := ?_) rfl (by kernel_rfl) (by kernel_rfl) (by kernel_rfl) (fun _ _ _ h => h) (Or.inl ⟨by kernel_rfl, ?_⟩) ?_
                  rotate_left
                  · intro w
                    go_simp
                    try with_reducible rfl
                  refine wpAny_take (i := 3) (v := ?_) rfl (by kernel_rfl) (by kernel_rfl) (by kernel_rfl) (fun _ _ _ h => h) (Or.inl ⟨by kernel_rfl, ?_⟩) ?_
                  rotate_left
                  · intro w
                    go_simp
                    try with_reducible rfl
                  refine wpAny_ready (rs := [0]) (by kernel_rfl) (by simp) ?_
                  refine AllReady.cons rfl (fun K hK => ?_) AllReady.nil
                  go_simp
                  refine hK _ _ ?_
                  clear hK K
                  refine wpAny_ready (rs := [4]) (by kernel_rfl) (by simp) ?_
                  refine AllReady.cons rfl (fun K hK => ?_) AllReady.nil
                  go_simp
                  go_at_call 102
                  (with_reducible refine (unhide hF1).mono ?_)
                  rintro e w2 ⟨rfl, hb2⟩
                  refine hK _ _ ?_
                  clear hK K
                  refine wpAny_take (i := 5) (v := ?_) rfl (by kernel_rfl) (by kernel_rfl) (by kernel_rfl) (fun _ _ _ h => h) (Or.inl ⟨by kernel_rfl, ?_⟩) ?_
                  rotate_left
                  · intro w
                    go_simp
                    try with_reducible rfl
                  refine wpAny_take (i := 6) rfl (by kernel_rfl) (by kernel_rfl) (by kernel_rfl) (fun _ _ _ h => h) (Or.inr ⟨by kernel_rfl, rfl⟩) ?_
                  refine wpAny_take (i := 7) rfl (by kernel_rfl) (by kernel_rfl) (by kernel_rfl) (fun _ _ _ h => h) (Or.inr ⟨by kernel_rfl, rfl⟩) ?_
                  refine wpAny_take (i := 8) rfl (by kernel_rfl) (by kernel_rfl) (by kernel_rfl) (fun _ _ _ h => h) (Or.inr ⟨by kernel_rfl, rfl⟩) ?_
                  refine wpAny_take (i := 9) rfl (by kernel_rfl) (by kernel_rfl) (by kernel_rfl) (fun _ _ _ h => h) (Or.inr ⟨by kernel_rfl, rfl⟩) ?_
                  refine wpAny_take (i := 10) rfl (by kernel_rfl) (by kernel_rfl) (by kernel_rfl) (fun _ _ _ h => h) (Or.inr ⟨by kernel_rfl, rfl⟩) ?_
                  refine wpAny_take (i := 11) rfl (by kernel_rfl) (by kernel_rfl) (by kernel_rfl) (fun _ _ _ h => h) (Or.inr ⟨by kernel_rfl, rfl⟩) ?_
                  refine wpAny_take (i := 12) rfl (by kernel_rfl) (by kernel_rfl) (by kernel_rfl) (fun _ _ _ h => h) (Or.inr ⟨by kernel_rfl, rfl⟩) ?_
                  refine wpAny_take (i := 13) rfl (by kernel_rfl) (by kernel_rfl) (by kernel_rfl) (fun _ _ _ h => h) (Or.inr ⟨by kernel_rfl, rfl⟩) ?_
                  refine wpAny_take (i := 14) rfl (by kernel_rfl) (by kernel_rfl) (by kernel_rfl) (fun _ _ _ h => h) (Or.inr ⟨by kernel_rfl, rfl⟩) ?_
                  refine wpAny_take (i := 15) (v := ?_) rfl (by kernel_rfl) (by kernel_rfl) (by kernel_rfl) (fun _ _ _ h => h) (Or.inl ⟨by kernel_rfl, ?_⟩) ?_
                  rotate_left
                  · intro w
                    go_simp
                    try with_reducible rfl
                  refine wpAny_done (by kernel_rfl) ?_ _
                  have hW2 := hWd.below hb2
                  have hqb2 := hqb.drew.below hb2 hqb.drew.lt
                  clear q0 b0 b1 b2 hW hWd hF1 hb2
                  go_simp
                  go_wp2_with fail
                  go_roundg 0
                  case measure => have := HK2.out; omega
                  case rel => exact ⟨2, _, _, _, by have := HK2.out; omega, by go_num, by rw [HP1.out]; simp, hW2, hqb2⟩
                | true =>
                  rw [hfb] at hF1 hp1
                  rw [if_pos rfl] at hp1
                  have hLAk := fun w' hown => hLA k 2 hfb w' hown
                  have hEAk := fun w' g2 c2 d2 v' xs' Ts' hb' hq' hT' ho' hl' => hEA k 2 (by omega) hfb w' g2 c2 d2 v' xs' Ts' hb' hq' hT' ho' hl'
                  have HP1 := Lib.hid hp1
                  clear hp1 hfb hFRk hLA hEA hFR
                  refine wp_region_any (by kernel_rfl) ?_
                  change wpAny _ _ _ _ _ _ _ (World.drew _)
                  refine wpAny_take (i := 1) (v := ?_) rfl (by kernel_rfl) (by kernel_rfl) (by kernel_rfl) (fun _ _ _ h => h) (Or.inl ⟨by kernel_rfl, ?_⟩) ?_
                  rotate_left
                  · intro w
                    go_simp
                    try with_reducible rfl
                  refine wpAny_take (i := 2) (v := ?_) rfl (by kernel_rfl) (by kernel_rfl) (by kernel_rfl) (fun _ _ _ h => h) (Or.inl ⟨by kernel_rfl, ?_⟩) ?_
                  rotate_left
                  · intro w
                    go_simp
                    try with_reducible rfl
                  refine wpAny_take (i := 3) (v := ?_) rfl (by kernel_rfl) (by kernel_rfl) (by kernel_rfl) (fun _ _ _ h => h) (Or.inl ⟨by kernel_rfl, ?_⟩) ?_
                  rotate_left
                  · intro w
                    go_simp
                    try with_reducible rfl
                  refine wpAny_ready (rs := [0]) (by kernel_rfl) (by simp) ?_
                  refine AllReady.cons rfl (fun K hK => ?_) AllReady.nil
                  go_simp
                  refine hK _ _ ?_
                  clear hK K
                  refine wpAny_ready (rs := [4]) (by kernel_rfl) (by simp) ?_
                  refine AllReady.cons rfl (fun K hK => ?_) AllReady.nil
                  go_simp
                  go_at_call 102
                  (with_reducible refine (unhide hF1).mono ?_)
                  rintro e w2 ⟨rfl, hb2⟩
                  have hW2 := hWd.below hb2
                  have hqb2 := hqb.drew.below hb2 hqb.drew.lt
                  have hLA2 := hLAk w2 hW2.own
                  clear b0 b1 b2 hb2 hF1
                  obtain ⟨b0, b1, b2⟩ := blk3 hW2.box
                  refine hK _ _ ?_
                  clear hK K
                  refine wpAny_take (i := 5) (v := ?_) rfl (by kernel_rfl) (by kernel_rfl) (by kernel_rfl) (fun _ _ _ h => h) (Or.inl ⟨by kernel_rfl, ?_⟩) ?_
                  rotate_left
                  · intro w
                    go_simp
                    try with_reducible rfl
                  refine wpAny_take (i := 8) (v := ?_) rfl (by kernel_rfl) (by kernel_rfl) (by kernel_rfl) (fun _ _ _ h => h) (Or.inl ⟨by kernel_rfl, ?_⟩) ?_
                  rotate_left
                  · intro w
                    go_simp
                    try with_reducible rfl
                  refine wpAny_take (i := 9) (v := ?_) rfl (by kernel_rfl) (by kernel_rfl) (by kernel_rfl) (fun _ _ _ h => h) (Or.inl ⟨by kernel_rfl, ?_⟩) ?_
                  rotate_left
                  · intro w
                    go_simp
                    try with_reducible rfl
                  refine wpAny_take (i := 10) (v := ?_) rfl (by kernel_rfl) (by kernel_rfl) (by kernel_rfl) (fun _ _ _ h => h) (Or.inl ⟨by kernel_rfl, ?_⟩) ?_
                  rotate_left
                  · intro w
                    go_simp
                    try with_reducible rfl
                  refine wpAny_take (i := 12) (v := ?_) rfl (by kernel_rfl) (by kernel_rfl) (by kernel_rfl) (fun _ _ _ h => h) (Or.inl ⟨by kernel_rfl, ?_⟩) ?_
                  rotate_left
                  · intro w
                    go_simp
                    try with_reducible rfl
                  refine wpAny_ready (rs := [6, 7]) (by kernel_rfl) (by simp) ?_
                  refine AllReady.cons rfl (fun K hK => ?_) (AllReady.cons rfl (fun K hK => ?_) AllReady.nil)
                  · go_simp
                    refine hK _ _ ?_
                    clear hK K
                    refine wpAny_ready (rs := [7]) (by kernel_rfl) (by simp) ?_
                    refine AllReady.cons rfl (fun K hK => ?_) AllReady.nil
                    go_simp
                    refine hK _ _ ?_
                    clear hK K
                    refine wpAny_ready (rs := [11]) (by kernel_rfl) (by simp) ?_
                    refine AllReady.cons rfl (fun K hK => ?_) AllReady.nil
                    go_simp
                    go_at_call 103
                    (with_reducible refine (unhide hLA2).mono ?_)
                    rintro e w3 ⟨g3, c3, c4, rfl, ho3, hb3⟩
                    have hW3 := hW2.below hb3
                    have hqb3 := hqb2.below hb3 hqb2.lt
                    clear b0 b1 b2
                    obtain ⟨b0, b1, b2⟩ := blk3 hW3.box
                    refine hK _ _ ?_
                    clear hK K
                    refine wpAny_ready (rs := [13]) (by kernel_rfl) (by simp) ?_
                    refine AllReady.cons rfl (fun K hK => ?_) AllReady.nil
                    have hE3 := hEAk w3 g3 c4 c3 _ _ _ (hW3.bel hb hbq hv0) hW3.hq hW3.rows (own_mono ho3 (Nat.le_trans hb hW2.fr.size)) (by rw [List.length_append]; have := HPL.out; omega)
                    go_simp
                    go_at_call 83
                    (with_reducible refine (unhide hE3).mono ?_)
                    rintro e w4 ⟨rfl, v4, xs4, hq4, hT4, hF4⟩
                    have hW4 := hW3.step hqlt hq4 hT4 hF4
                    have hqb4 := hF4.blk hqb3 (Ne.symm hqq) (own_blk_ne hW3.rows.own hqb3 (by decide))
                    refine hK _ _ ?_
                    clear hK K
                    refine wpAny_take (i := 14) (v := ?_) rfl (by kernel_rfl) (by kernel_rfl) (by kernel_rfl) (fun _ _ _ h => h) (Or.inl ⟨by kernel_rfl, ?_⟩) ?_
                    rotate_left
                    · intro w
                      go_simp
                      try with_reducible rfl
                    refine wpAny_take (i := 15) (v := ?_) rfl (by kernel_rfl) (by kernel_rfl) (by kernel_rfl) (fun _ _ _ h => h) (Or.inl ⟨by kernel_rfl, ?_⟩) ?_
                    rotate_left
                    · intro w
                      go_simp
                      try with_reducible rfl
                    refine wpAny_done (by kernel_rfl) ?_ _
                    clear q0 b0 b1 b2 hW hWd hW2 hW3 hqb hqb2 hqb3 ho3 hb3 hq4 hT4 hF4 hLA2 hE3
                    rw [List.append_assoc, ← HP1.out] at hW4
                    go_simp
                    go_wp2_with fail
                    go_roundg 0
                    case measure => have := HK2.out; omega
                    case rel => exact ⟨2, _, _, _, by have := HK2.out; omega, by go_num, rfl, hW4, hqb4⟩
                  · go_simp
                    refine hK _ _ ?_
                    clear hK K
                    refine wpAny_ready (rs := [6, 11]) (by kernel_rfl) (by simp) ?_
                    refine AllReady.cons rfl (fun K hK => ?_) (AllReady.cons rfl (fun K hK => ?_) AllReady.nil)
                    · go_simp
                      refine hK _ _ ?_
                      clear hK K
                      refine wpAny_ready (rs := [11]) (by kernel_rfl) (by simp) ?_
                      refine AllReady.cons rfl (fun K hK => ?_) AllReady.nil
                      go_simp
                      go_at_call 103
                      (with_reducible refine (unhide hLA2).mono ?_)
                      rintro e w3 ⟨g3, c3, c4, rfl, ho3, hb3⟩
                      have hW3 := hW2.below hb3
                      have hqb3 := hqb2.below hb3 hqb2.lt
                      clear b0 b1 b2
                      obtain ⟨b0, b1, b2⟩ := blk3 hW3.box
                      refine hK _ _ ?_
                      clear hK K
                      refine wpAny_ready (rs := [13]) (by kernel_rfl) (by simp) ?_
                      refine AllReady.cons rfl (fun K hK => ?_) AllReady.nil
                      have hE3 := hEAk w3 g3 c4 c3 _ _ _ (hW3.bel hb hbq hv0) hW3.hq hW3.rows (own_mono ho3 (Nat.le_trans hb hW2.fr.size)) (by rw [List.length_append]; have := HPL.out; omega)
                      go_simp
                      go_at_call 83
                      (with_reducible refine (unhide hE3).mono ?_)
                      rintro e w4 ⟨rfl, v4, xs4, hq4, hT4, hF4⟩
                      have hW4 := hW3.step hqlt hq4 hT4 hF4
                      have hqb4 := hF4.blk hqb3 (Ne.symm hqq) (own_blk_ne hW3.rows.own hqb3 (by decide))
                      refine hK _ _ ?_
                      clear hK K
                      refine wpAny_take (i := 14) (v := ?_) rfl (by kernel_rfl) (by kernel_rfl) (by kernel_rfl) (fun _ _ _ h => h) (Or.inl ⟨by kernel_rfl, ?_⟩) ?_
                      rotate_left
                      · intro w
                        go_simp
                        try with_reducible rfl
                      refine wpAny_take (i := 15) (v := ?_) rfl (by kernel_rfl) (by kernel_rfl) (by kernel_rfl) (fun _ _ _ h => h) (Or.inl ⟨by kernel_rfl, ?_⟩) ?_
                      rotate_left
                      · intro w
                        go_simp
                        try with_reducible rfl
                      refine wpAny_done (by kernel_rfl) ?_ _
                      clear q0 b0 b1 b2 hW hWd hW2 hW3 hqb hqb2 hqb3 ho3 hb3 hq4 hT4 hF4 hLA2 hE3
                      rw [List.append_assoc, ← HP1.out] at hW4
                      go_simp
                      go_wp2_with fail
                      go_roundg 0
                      case measure => have := HK2.out; omega
                      case rel => exact ⟨2, _, _, _, by have := HK2.out; omega, by go_num, rfl, hW4, hqb4⟩
                    · go_simp
                      go_at_call 103
                      (with_reducible refine (unhide hLA2).mono ?_)
                      rintro e w3 ⟨g3, c3, c4, rfl, ho3, hb3⟩
                      have hW3 := hW2.below hb3
                      have hqb3 := hqb2.below hb3 hqb2.lt
                      clear b0 b1 b2
                      obtain ⟨b0, b1, b2⟩ := blk3 hW3.box
                      refine hK _ _ ?_
                      clear hK K
                      refine wpAny_ready (rs := [6]) (by kernel_rfl) (by simp) ?_
                      refine AllReady.cons rfl (fun K hK => ?_) AllReady.nil
                      go_simp
                      refine hK _ _ ?_
                      clear hK K
                      refine wpAny_ready (rs := [13]) (by kernel_rfl) (by simp) ?_
                      refine AllReady.cons rfl (fun K hK => ?_) AllReady.nil
                      have hE3 := hEAk w3 g3 c4 c3 _ _ _ (hW3.bel hb hbq hv0) hW3.hq hW3.rows (own_mono ho3 (Nat.le_trans hb hW2.fr.size)) (by rw [List.length_append]; have := HPL.out; omega)
                      go_simp
                      go_at_call 83
                      (with_reducible refine (unhide hE3).mono ?_)
                      rintro e w4 ⟨rfl, v4, xs4, hq4, hT4, hF4⟩
                      have hW4 := hW3.step hqlt hq4 hT4 hF4
                      have hqb4 := hF4.blk hqb3 (Ne.symm hqq) (own_blk_ne hW3.rows.own hqb3 (by decide))
                      refine hK _ _ ?_
                      clear hK K
                      refine wpAny_take (i := 14) (v := ?_) rfl (by kernel_rfl) (by kernel_rfl) (by kernel_rfl) (fun _ _ _ h => h) (Or.inl ⟨by kernel_rfl, ?_⟩) ?_
                      rotate_left
                      · intro w
                        go_simp
                        try with_reducible rfl
                      refine wpAny_take (i := 15) (v := ?_) rfl (by kernel_rfl) (by kernel_rfl) (by kernel_rfl) (fun _ _ _ h => h) (Or.inl ⟨by kernel_rfl, ?_⟩) ?_
                      rotate_left
                      · intro w
                        go_simp
                        try with_reducible rfl
                      refine wpAny_done (by kernel_rfl) ?_ _
                      clear q0 b0 b1 b2 hW hWd hW2 hW3 hqb hqb2 hqb3 ho3 hb3 hq4 hT4 hF4 hLA2 hE3
                      rw [List.append_assoc, ← HP1.out] at hW4
                      go_simp
                      go_wp2_with fail
                      go_roundg 0
                      case measure => have := HK2.out; omega
                      case rel => exact ⟨2, _, _, _, by have := HK2.out; omega, by go_num, rfl, hW4, hqb4⟩
              · rw [HFI.out] at hW
                clear hk2
                go_wp2_with fail
                go_ret
                exact ⟨rfl, v', xs', hW.hq, hW.rows, hW.fr⟩
          · have HNO : Hid (opB R L k = false) := Lib.hid (by rw [HOP.out, decide_eq_false hz]; rfl)
            have hu : (L.getD k 0 != 0) = true := by simpa using hz
            clear hcb HOP hz
            generalize L.getD k 0 = u at *
            go_wp2_with fail
            go_roundg (R.C.length - (k + 1))
            case measure => have := HK.out; omega
            case rel =>
              refine ⟨k + 1, by have := HK.out; omega, by go_num, fun j hj => ?_, rfl⟩
              by_cases hjk : j = k
              · subst hjk; exact HNO.out
              · exact HALL.out j (by omega)
      · exact absurd (fiV_none.2 fun j hj => HALL.out j (by have := HK.out; omega)) HFN.out

end Go.Proofs.YtpeifojfpkkcpaaGreat
