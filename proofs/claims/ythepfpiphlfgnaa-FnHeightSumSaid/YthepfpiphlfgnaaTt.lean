/-
  YthepfpiphlfgnaaTt: the texts Tb, Tc, Te, Tf, Tg, Th in one file.
-/
import Derived.Test.YthepfpiphlfgnaaTa
import Derived.Test.YthepfpiphlfgnaaFm
import Derived.Test.YthepfpiphlfgnaaTd
import Derived.Test.YthepfpiphlfgnaaPv
import Derived.Test.YthepfpiphlfgnaaLz

/-
  YthepfpiphlfgnaaTb: all tilings of the program: the function that collects them, and the search.
-/
namespace Go.Proofs.Ythepfpiphlfgnaa
open Go.RowKit

theorem info_ints : (Try.prog.info? 26).map (fun i => (i.zero, i.size, i.bytes)) = some (some (.slice none 0 0), 1, 24) := by kernel_rfl

theorem Fr.app {q : Nat} {v v' : Value} {w w' : World} {o : Obj} (hg : (w.alloc o).grownBy w' v.ownBlock) (hn : v'.ownBlock = v.ownBlock ∨ v'.ownBlock = some (w.alloc o).heap.size) (u : Value) : Fr q v v' w (w'.setCell ⟨q, 0, none⟩ u) := by
  refine ⟨hg.os, hg.tape, hg.output, ?_, fun k hk h1 h2 => ?_, fun k hk => ?_⟩
  · have := hg.size; simp [World.setCell] at this ⊢; omega
  · rw [Below.heap_setCell _ _ _ _ (by simpa using h1), hg.block k (by simp; omega) h2, Below.heap_alloc _ _ _ hk]
  · rcases hn with h | h
    · exact .inl (by rw [← h]; exact hk)
    · rw [h] at hk
      right
      simp at hk
      omega

set_option maxHeartbeats 1000000 in
set_option maxRecDepth 20000 in
theorem leaf_any (q b n : Nat) (v : Value) (xs : List Value) (Ts : List (List Int)) (g c' : Nat) (L : List Int) (w : World) (hq : Blk w q 74 #[v]) (hT : RowsOf w b n v xs Ts) (hx : Inner w b n (.slice (some ⟨g, 0, none⟩) n c') L) (hlen : Ts.length ≤ 4294967295) (hb : b ≤ w.heap.size) :
    Calls Try.prog 140 #[.slice (some ⟨g, 0, none⟩) n c', .pointer (some ⟨q, 0, none⟩)] w fun e w' => e = .returned (.bool true) ∧ ∃ v' xs', Blk w' q 74 #[v'] ∧ RowsOf w' b n v' xs' (Ts ++ [L]) ∧ Fr q v v' w w' := by
  have q0 := hq.cell 0
  simp at q0
  have hxl := hT.len
  have HXL := Lib.hid hxl
  clear hxl
  go_enter Try.func140, Try.ntmps140
  go_wp2_with (at_builtin; refine wpList_app rfl _ _ _ rfl b 26 _ 24 Try.underlying74 info_ints rfl (by omega) v xs.length xs rfl (hT.own.alloc _) w.heap.size (.slice (some ⟨g, 0, none⟩) n c') rfl ?c1 rfl (by have := HXL.out; omega) ?c2 ?_)
  case c1 => simp
  case c2 => simp; omega
  rintro g' cc' w2 hown hgr hgg _ _
  have hR2 := hT.app hx hown hgr
  have hq2 : Blk w2 q 74 #[v] := (hq.alloc _).grown hgr (fun h => own_blk_ne hT.own hq (by decide) h.symm)
  have q2 := hq2.cell 0
  have f2 := hq2.frozen 0
  simp at q2
  clear q0
  go_wp2_with fail
  go_ret
  refine ⟨rfl, .slice (some ⟨g', 0, none⟩) (xs.length + 1) cc', _, hq2.set_ 0 _, hR2.setCell (p := ⟨q, 0, none⟩) hq2 (by decide) (by decide) _, Fr.app hgr ?_ _⟩
  rcases hgg with h | h
  · exact .inl h
  · exact .inr (by rw [h]; simp [Value.ownBlock])

/-- What the first directions give. -/
def preT (R : Reg) (f : Nat) (L : List Int) (k : Nat) : Nat → List (List Int)
  | 0 => []
  | j + 1 => preT R f L k j ++ (if frB R L k ((j : Int) + 1) = true then allT R f (lyV R L k ((j : Int) + 1)) else [])
theorem preT_two {R : Reg} {f : Nat} {L : List Int} {k : Nat} (h : fiV R L = some k) : preT R f L k 2 = allT R (f + 1) L := by
  rw [allT_some h]
  simp [preT]
theorem preT_len (R : Reg) (f : Nat) (L : List Int) (k : Nat) (j : Nat) (hj : j ≤ 1) : (preT R f L k j).length ≤ 2 ^ f := by
  have := allT_len R f
  match j, hj with
  | 0, _ => simp [preT]
  | 1, _ =>
    simp only [preT, List.nil_append]
    split
    · exact this _
    · simp

/-- Where the search stands: the variable that collects, its rows, the box, the list. -/
structure EW (w wx : World) (R : Reg) (A : Option Addr) (c q b : Nat) (v0 v : Value) (xs : List Value) (Ts : List (List Int)) (g c' : Nat) (L : List Int) : Prop where
  hq : Blk wx q 74 #[v]
  rows : RowsOf wx b R.C.length v xs Ts
  fr : Fr q v0 v w wx
  box : Blk wx w.heap.size 25 #[.int .i64 R.W, .int .i64 R.T, .slice A R.C.length c]
  own : wx.ownsRow b 3 1 (.slice (some ⟨g, 0, none⟩) R.C.length c') R.C.length (L.map (Value.int .i64))
section
variable {w wx w2 : World} {R : Reg} {A : Option Addr} {c q b g c' : Nat} {v0 v v' : Value} {xs xs' : List Value} {Ts Ts' : List (List Int)} {L : List Int}
theorem EW.below (H : EW w wx R A c q b v0 v xs Ts g c' L) (hb : Below wx.heap.size wx w2) : EW w w2 R A c q b v0 v xs Ts g c' L :=
  ⟨H.hq.below hb H.hq.lt, H.rows.below hb, H.fr.trans (Fr.of_below hb), H.box.below hb H.box.lt, own_below H.own hb (Nat.le_refl _)⟩
theorem EW.step (H : EW w wx R A c q b v0 v xs Ts g c' L) (hlt : q < w.heap.size) (hq : Blk w2 q 74 #[v']) (hT : RowsOf w2 b R.C.length v' xs' Ts') (hF : Fr q v v' wx w2) : EW w w2 R A c q b v0 v' xs' Ts' g c' L :=
  ⟨hq, hT, H.fr.trans hF, hF.blk H.box (by omega) (own_blk_ne H.rows.own H.box (by decide)), hF.own H.own (own_blk_ne H.own H.hq (by decide)) (own_far H.own H.rows.own (by decide))⟩
theorem EW.bel (H : EW w wx R A c q b v0 v xs Ts g c' L) (hb : b ≤ w.heap.size) (hbq : b ≤ q) (hv0 : ∀ k, v0.ownBlock = some k → b ≤ k) : Below b w wx := H.fr.below hb hbq hv0
end

set_option maxHeartbeats 2000000 in
set_option maxRecDepth 20000 in
theorem each_none (R : Reg) (hR : R.ok) (A : Option Addr) (c B q b : Nat) (hBb : B ≤ b) (hbq : b ≤ q) (L : List Int) (g c' d : Nat) (v : Value) (xs : List Value) (Ts : List (List Int)) (w : World) (hL : Lay R L) (hfn : fiV R L = none)
    (hr : Reads w B 1 A R.C.length (R.C.map Value.bool)) (hb : b ≤ w.heap.size) (hq : Blk w q 74 #[v]) (hT : RowsOf w b R.C.length v xs Ts) (ho : w.ownsRow b 3 1 (.slice (some ⟨g, 0, none⟩) R.C.length c') R.C.length (L.map (Value.int .i64))) (hlen : Ts.length ≤ 4294967295) :
    Calls Try.prog 139 #[.agg #[.int .i64 R.W, .int .i64 R.T, .slice A R.C.length c], .slice (some ⟨g, 0, none⟩) R.C.length d, .func (.func 140) #[] #[.pointer (some ⟨q, 0, none⟩)]] w fun e w' => e = .returned (.bool true) ∧ ∃ v' xs', Blk w' q 74 #[v'] ∧ RowsOf w' b R.C.length v' xs' (Ts ++ [L]) ∧ Fr q v v' w w' := by
  have HFN := Lib.hid (fiV_none.1 hfn)
  have hl36 := (len_bd hR).2
  have hqlt := hq.lt
  have hv0 : ∀ k, v.ownBlock = some k → b ≤ k := fun k h => (hT.own.lt k h).1
  have hW0 : EW w (w.alloc (boxR R.W R.T A R.C.length c)) R A c q b v v xs Ts g c' L := ⟨hq.alloc _, hT.below ((Below.refl _ _).alloc (Nat.le_refl _) _), Fr.of_below ((Below.refl _ _).alloc (Nat.le_refl _) _), Blk.new _ _ _, ho.alloc _⟩
  have hCG := fun k (hk : k < R.C.length) w' (hb' : Below b w w') => getB (hr.below (hb'.mono hBb)) hk
  clear hfn
  go_enter Try.func139, Try.ntmps139
  go_upto_region 2 with fail
  generalize w.alloc (boxR R.W R.T A R.C.length c) = w0 at *
  go_loopg [7] R.C.length (fun r s7 wr => ∃ k : Nat, k + r = R.C.length ∧ s7 = .int .i64 (k : Nat) ∧ (∀ j, j < k → opB R L j = false) ∧ wr = w0)
  case atStart => exact ⟨0, by omega, rfl, fun j hj => absurd hj (by omega), rfl⟩
  case round =>
    obtain ⟨k, hk, rfl, hall, rfl⟩ := hrel
    have HK := Lib.hid hk
    have HALL := Lib.hid hall
    clear hk hall
    have hbw := hW0.bel hb hbq hv0
    by_cases hlt : k < R.C.length
    · obtain ⟨ac, rfl, hac, hcc⟩ := hCG k hlt _ hbw
      have hop : opB R L k = (R.C.getD k false && decide (L.getD k 0 = 0)) := rfl
      have HOP := Lib.hid hop
      have hxk : wr.cell? ⟨g, k, none⟩ = some (.int .i64 (L.getD k 0)) := by
        rw [hW0.own.cellAt k (by omega), List.getElem?_map, List.getD_eq_getElem?_getD, List.getElem?_eq_getElem (by rw [hL.len]; exact hlt)]; rfl
      obtain ⟨b0, b1, b2⟩ := blk3 hW0.box
      clear hop
      cases hcb : R.C.getD k false with
      | false =>
        rw [hcb] at hcc HOP
        have HNO : Hid (opB R L k = false) := Lib.hid (by rw [HOP.out]; rfl)
        clear hcb HOP
        go_wp2_with fail
        go_roundg (R.C.length - (k + 1))
        case measure => have := HK.out; omega
        case rel =>
          refine ⟨k + 1, by have := HK.out; omega, by go_num, fun j hj => ?_, rfl⟩
          by_cases hjk : j = k
          · subst hjk; exact HNO.out
          · exact HALL.out j (by omega)
      | true =>
        rw [hcb] at hcc HOP
        by_cases hz : L.getD k 0 = 0
        · exact absurd (show opB R L k = true by rw [HOP.out, hz]; rfl) (by rw [HFN.out k hlt]; decide)
        · have HNO : Hid (opB R L k = false) := Lib.hid (by rw [HOP.out, decide_eq_false hz]; rfl)
          have hu : (L.getD k 0 != 0) = true := by simpa using hz
          clear hcb HOP hz
          generalize L.getD k 0 = u at *
          go_wp2_with fail
          go_roundg (R.C.length - (k + 1))
          case measure => have := HK.out; omega
          case rel =>
            refine ⟨k + 1, by have := HK.out; omega, by go_num, fun j hj => ?_, rfl⟩
            by_cases hjk : j = k
            · subst hjk; exact HNO.out
            · exact HALL.out j (by omega)
    · obtain rfl : k = R.C.length := by have := HK.out; omega
      have hLF := hide (leaf_any q b R.C.length v xs Ts g d L wr hW0.hq hW0.rows ⟨g, c', d, rfl, hW0.own⟩ hlen (Nat.le_trans hb hbw.size))
      go_wp2_with fail
      refine (unhide hLF).mono ?_
      rintro e w2 ⟨rfl, v', xs', hq2, hT2, hF2⟩
      go_wp2_with fail
      go_ret
      exact ⟨rfl, v', xs', hq2, hT2, hW0.fr.trans hF2⟩

set_option maxHeartbeats 4000000 in
set_option maxRecDepth 20000 in
theorem each_any (R : Reg) (hR : R.ok) (A : Option Addr) (c B q b : Nat) (hBb : B ≤ b) (hbq : b ≤ q) : ∀ (f : Nat) (L : List Int) (g c' d : Nat) (v : Value) (xs : List Value) (Ts : List (List Int)) (w : World) (_ : Lay R L) (_ : opN R L ≤ 2 * f)
    (_ : Reads w B 1 A R.C.length (R.C.map Value.bool)) (_ : b ≤ w.heap.size) (_ : Blk w q 74 #[v]) (_ : RowsOf w b R.C.length v xs Ts) (_ : w.ownsRow b 3 1 (.slice (some ⟨g, 0, none⟩) R.C.length c') R.C.length (L.map (Value.int .i64))) (_ : Ts.length + 2 ^ f ≤ 4294967295),
    Calls Try.prog 139 #[.agg #[.int .i64 R.W, .int .i64 R.T, .slice A R.C.length c], .slice (some ⟨g, 0, none⟩) R.C.length d, .func (.func 140) #[] #[.pointer (some ⟨q, 0, none⟩)]] w fun e w' => e = .returned (.bool true) ∧ ∃ v' xs', Blk w' q 74 #[v'] ∧ RowsOf w' b R.C.length v' xs' (Ts ++ allT R f L) ∧ Fr q v v' w w' := by
  intro f
  induction f with
  | zero =>
    intro L g c' d v xs Ts w hL hn hr hb hq hT ho hlen
    have hfn := opN_zero (R := R) (L := L) (by omega)
    rw [allT_none hfn]
    exact each_none R hR A c B q b hBb hbq L g c' d v xs Ts w hL hfn hr hb hq hT ho (by have := Nat.two_pow_pos 0; omega)
  | succ f ih =>
    intro L g c' d v xs Ts w hL hn hr hb hq hT ho hlen
    by_cases hfn : fiV R L = none
    · rw [allT_none hfn]
      exact each_none R hR A c B q b hBb hbq L g c' d v xs Ts w hL hfn hr hb hq hT ho (by have := Nat.two_pow_pos (f + 1); omega)
    have HFN := Lib.hid hfn
    clear hfn
    have hl36 := (len_bd hR).2
    have hqlt := hq.lt
    have hv0 : ∀ k, v.ownBlock = some k → b ≤ k := fun k h => (hT.own.lt k h).1
    have hW0 : EW w (w.alloc (boxR R.W R.T A R.C.length c)) R A c q b v v xs Ts g c' L := ⟨hq.alloc _, hT.below ((Below.refl _ _).alloc (Nat.le_refl _) _), Fr.of_below ((Below.refl _ _).alloc (Nat.le_refl _) _), Blk.new _ _ _, ho.alloc _⟩
    have h2f : 0 < 2 ^ f := Nat.two_pow_pos f
    rw [Nat.pow_succ] at hlen
    have hFR := fun (k : Nat) (hk : k < R.C.length) (way : Int) (w' : World) (hb' : Below b w w') (hown : w'.ownsRow b 3 1 (.slice (some ⟨g, 0, none⟩) R.C.length c') R.C.length (L.map (Value.int .i64))) => hide (free_any R hR A c w'.heap.size L (some ⟨g, 0, none⟩) d k hk way hL.len w' ((hr.below (hb'.mono hBb)).more (Nat.le_trans (Nat.le_trans hBb hb) hb'.size)) (Reads.of_own hown))
    have hLA := fun (k : Nat) (way : Int) (hf : frB R L k way = true) (w' : World) (hown : w'.ownsRow b 3 1 (.slice (some ⟨g, 0, none⟩) R.C.length c') R.C.length (L.map (Value.int .i64))) => hide (lay_any R hR A R.C.length c w'.heap.size L (some ⟨g, 0, none⟩) d k way (.inr ⟨_, _, rfl⟩) hL.len hf w' (Reads.of_own hown) (Nat.le_refl _))
    have hEA := fun (k : Nat) (way : Int) (hw : way = 1 ∨ way = 2) (hf : frB R L k way = true) (w' : World) (g2 c2 d2 : Nat) (v' : Value) (xs' : List Value) (Ts' : List (List Int)) (hb' : Below b w w') (hq' : Blk w' q 74 #[v']) (hT' : RowsOf w' b R.C.length v' xs' Ts') (ho' : w'.ownsRow b 3 1 (.slice (some ⟨g2, 0, none⟩) R.C.length c2) R.C.length ((lyV R L k way).map (Value.int .i64))) (hl' : Ts'.length + 2 ^ f ≤ 4294967295) =>
      hide (ih (lyV R L k way) g2 c2 d2 v' xs' Ts' w' (lay_lyV hR hL (by rcases hw with rfl | rfl <;> rfl) hf) (by have := opN_lay hR hL.len (by omega) hf; omega) (hr.below (hb'.mono hBb)) (Nat.le_trans hb hb'.size) hq' hT' ho' hl')
    have hCG := fun k (hk : k < R.C.length) w' (hb' : Below b w w') => getB (hr.below (hb'.mono hBb)) hk
    clear ih
    go_enter Try.func139, Try.ntmps139
    go_upto_region 2 with fail
    generalize w.alloc (boxR R.W R.T A R.C.length c) = w0 at *
    go_loopg [7] R.C.length (fun r s7 wr => ∃ k : Nat, k + r = R.C.length ∧ s7 = .int .i64 (k : Nat) ∧ (∀ j, j < k → opB R L j = false) ∧ wr = w0)
    case atStart => exact ⟨0, by omega, rfl, fun j hj => absurd hj (by omega), rfl⟩
    case round =>
      obtain ⟨k, hk, rfl, hall, rfl⟩ := hrel
      have HK := Lib.hid hk
      have HALL := Lib.hid hall
      clear hk hall
      have hbw := hW0.bel hb hbq hv0
      by_cases hlt : k < R.C.length
      · obtain ⟨ac, rfl, hac, hcc⟩ := hCG k hlt _ hbw
        have hop : opB R L k = (R.C.getD k false && decide (L.getD k 0 = 0)) := rfl
        have HOP := Lib.hid hop
        have hxk : wr.cell? ⟨g, k, none⟩ = some (.int .i64 (L.getD k 0)) := by
          rw [hW0.own.cellAt k (by omega), List.getElem?_map, List.getD_eq_getElem?_getD, List.getElem?_eq_getElem (by rw [hL.len]; exact hlt)]; rfl
        obtain ⟨b0, b1, b2⟩ := blk3 hW0.box
        clear hop
        cases hcb : R.C.getD k false with
        | false =>
          rw [hcb] at hcc HOP
          have HNO : Hid (opB R L k = false) := Lib.hid (by rw [HOP.out]; rfl)
          clear hcb HOP
          go_wp2_with fail
          go_roundg (R.C.length - (k + 1))
          case measure => have := HK.out; omega
          case rel =>
            refine ⟨k + 1, by have := HK.out; omega, by go_num, fun j hj => ?_, rfl⟩
            by_cases hjk : j = k
            · subst hjk; exact HNO.out
            · exact HALL.out j (by omega)
        | true =>
          rw [hcb] at hcc HOP
          by_cases hz : L.getD k 0 = 0
          · have HYES : Hid (opB R L k = true) := Lib.hid (by rw [HOP.out, hz]; rfl)
            have hfi : fiV R L = some k := fiV_some.2 ⟨hlt, HYES.out, HALL.out⟩
            have HAT := Lib.hid (allT_some (f := f) hfi)
            rw [hz] at hxk
            have hne : ((k : Int) == (R.C.length : Int)) = false := by simp; omega
            clear hz hcb HOP
            have HFI := Lib.hid (preT_two (f := f) hfi)
            have hW6 := hW0.below (w2 := wr.alloc (.cells #[.int .i64 1, .int .i64 2] 3)) ((Below.refl _ _).alloc (Nat.le_refl _) _)
            have hq6 := Blk.new wr 3 #[.int .i64 1, .int .i64 2]
            have hqq : q ≠ wr.heap.size := by have := hW0.hq.lt; omega
            have hbs := hbw.size
            go_upto_region 7 with fail
            generalize wr.alloc (.cells #[.int .i64 1, .int .i64 2] 3) = w6 at *
            clear hW0 b0 b1 b2 hxk hcc hbw
            generalize wr.heap.size = qb at *
            go_loopg [40] 2 (fun r s40 wx => ∃ (j : Nat) (v' : Value) (xs' : List Value) (Ts' : List (List Int)), j + r = 2 ∧ s40 = .int .i64 (j : Nat) ∧ Ts' = Ts ++ preT R f L k j ∧ EW w wx R (some ac) c q b v v' xs' Ts' g c' L ∧ Blk wx qb 3 #[.int .i64 1, .int .i64 2])
            case atStart => exact ⟨0, _, _, _, by omega, rfl, by simp [preT], hW6, hq6⟩
            case round =>
              clear hW6 hq6
              obtain ⟨j, v', xs', Ts', hk2, rfl, rfl, hW, hqb⟩ := hrel
              rcases (show j = 0 ∨ j = 1 ∨ j = 2 by omega) with rfl | rfl | rfl
              · have HK2 := Lib.hid hk2
                clear hk2
                have q0 := hqb.cell 0
                simp at q0
                have hFRk := hFR k hlt 1
                have hp1 : preT R f L k 1 = preT R f L k 0 ++ (if frB R L k 1 = true then allT R f (lyV R L k 1) else []) := rfl
                have hpl := preT_len R f L k 0 (by omega)
                have HPL := Lib.hid hpl
                clear hpl
                obtain ⟨b0, b1, b2⟩ := blk3 hW.box
                go_upto_region 9 with fail
                have hWd := hW.below (Below.refl _ _).drew
                have hF1 := hFRk _ (hWd.bel hb hbq hv0) hWd.own
                cases hfb : frB R L k 1 with
                | false =>
                  rw [hfb] at hF1 hp1
                  have HP1 := Lib.hid hp1
                  clear hp1 hfb hFRk hLA hEA hFR
                  refine wp_region_any (by kernel_rfl) ?_
                  change wpAny _ _ _ _ _ _ _ (World.drew _)
                  refine wpAny_take (i := 1) (v := ?_) rfl (by kernel_rfl) (by kernel_rfl) (by kernel_rfl) (fun _ _ _ h => h) (Or.inl ⟨by kernel_rfl, ?_⟩) ?_
                  rotate_left
                  · intro w
                    go_simp
                    try with_reducible rfl
                  refine wpAny_take (i := 2) (v := ?_) rfl (by kernel_rfl) (by kernel_rfl) (by kernel_rfl) (fun _ _ _ h => h) (Or.inl ⟨by kernel_rfl, ?_⟩) ?_
                  rotate_left
                  · intro w
                    go_simp
                    try with_reducible rfl
                  refine wpAny_take (i := 3) (v := ?_) rfl (by kernel_rfl) (by kernel_rfl) (by kernel_rfl) (fun _ _ _ h => h) (Or.inl ⟨by kernel_rfl, ?_⟩) ?_
                  rotate_left
                  · intro w
                    go_simp
                    try with_reducible rfl
                  refine wpAny_ready (rs := [0]) (by kernel_rfl) (by simp) ?_
                  refine AllReady.cons rfl (fun K hK => ?_) AllReady.nil
                  go_simp
                  refine hK _ _ ?_
                  clear hK K
                  refine wpAny_ready (rs := [4]) (by kernel_rfl) (by simp) ?_
                  refine AllReady.cons rfl (fun K hK => ?_) AllReady.nil
                  go_simp
                  go_at_call 179
                  (with_reducible refine (unhide hF1).mono ?_)
                  rintro e w2 ⟨rfl, hb2⟩
                  refine hK _ _ ?_
                  clear hK K
                  refine wpAny_take (i := 5) (v := ?_) rfl (by kernel_rfl) (by kernel_rfl) (by kernel_rfl) (fun _ _ _ h => h) (Or.inl ⟨by kernel_rfl, ?_⟩) ?_
                  rotate_left
                  · intro w
                    go_simp
                    try with_reducible rfl
                  refine wpAny_take (i := 6) rfl (by kernel_rfl) (by kernel_rfl) (by kernel_rfl) (fun _ _ _ h => h) (Or.inr ⟨by kernel_rfl, rfl⟩) ?_
                  refine wpAny_take (i := 7) rfl (by kernel_rfl) (by kernel_rfl) (by kernel_rfl) (fun _ _ _ h => h) (Or.inr ⟨by kernel_rfl, rfl⟩) ?_
                  refine wpAny_take (i := 8) rfl (by kernel_rfl) (by kernel_rfl) (by kernel_rfl) (fun _ _ _ h => h) (Or.inr ⟨by kernel_rfl, rfl⟩) ?_
                  refine wpAny_take (i := 9) rfl (by kernel_rfl) (by kernel_rfl) (by kernel_rfl) (fun _ _ _ h => h) (Or.inr ⟨by kernel_rfl, rfl⟩) ?_
                  refine wpAny_take (i := 10) rfl (by kernel_rfl) (by kernel_rfl) (by kernel_rfl) (fun _ _ _ h => h) (Or.inr ⟨by kernel_rfl, rfl⟩) ?_
                  refine wpAny_take (i := 11) rfl (by kernel_rfl) (by kernel_rfl) (by kernel_rfl) (fun _ _ _ h => h) (Or.inr ⟨by kernel_rfl, rfl⟩) ?_
                  refine wpAny_take (i := 12) rfl (by kernel_rfl) (by kernel_rfl) (by kernel_rfl) (fun _ _ _ h => h) (Or.inr ⟨by kernel_rfl, rfl⟩) ?_
                  refine wpAny_take (i := 13) rfl (by kernel_rfl) (by kernel_rfl) (by kernel_rfl) (fun _ _ _ h => h) (Or.inr ⟨by kernel_rfl, rfl⟩) ?_
                  refine wpAny_take (i := 14) rfl (by kernel_rfl) (by kernel_rfl) (by kernel_rfl) (fun _ _ _ h => h) (Or.inr ⟨by kernel_rfl, rfl⟩) ?_
                  refine wpAny_take (i := 15) (v := ?_) rfl (by kernel_rfl) (by kernel_rfl) (by kernel_rfl) (fun _ _ _ h => h) (Or.inl ⟨by kernel_rfl, ?_⟩) ?_
                  rotate_left
                  · intro w
                    go_simp
                    try with_reducible rfl
                  refine wpAny_done (by kernel_rfl) ?_ _
                  have hW2 := hWd.below hb2
                  have hqb2 := hqb.drew.below hb2 hqb.drew.lt
                  clear q0 b0 b1 b2 hW hWd hF1 hb2
                  go_simp
                  go_wp2_with fail
                  go_roundg 1
                  case measure => have := HK2.out; omega
                  case rel => exact ⟨1, _, _, _, by have := HK2.out; omega, by go_num, by rw [HP1.out]; simp, hW2, hqb2⟩
                | true =>
                  rw [hfb] at hF1 hp1
                  rw [if_pos rfl] at hp1
                  have hLAk := fun w' hown => hLA k 1 hfb w' hown
                  have hEAk := fun w' g2 c2 d2 v' xs' Ts' hb' hq' hT' ho' hl' => hEA k 1 (by omega) hfb w' g2 c2 d2 v' xs' Ts' hb' hq' hT' ho' hl'
                  have HP1 := Lib.hid hp1
                  clear hp1 hfb hFRk hLA hEA hFR
                  refine wp_region_any (by kernel_rfl) ?_
                  change wpAny _ _ _ _ _ _ _ (World.drew _)
                  refine wpAny_take (i := 1) (v := ?_) rfl (by kernel_rfl) (by kernel_rfl) (by kernel_rfl) (fun _ _ _ h => h) (Or.inl ⟨by kernel_rfl, ?_⟩) ?_
                  rotate_left
                  · intro w
                    go_simp
                    try with_reducible rfl
                  refine wpAny_take (i := 2) (v := ?_) rfl (by kernel_rfl) (by kernel_rfl) (by kernel_rfl) (fun _ _ _ h => h) (Or.inl ⟨by kernel_rfl, ?_⟩) ?_
                  rotate_left
                  · intro w
                    go_simp
                    try with_reducible rfl
                  refine wpAny_take (i := 3) (v := ?_) rfl (by kernel_rfl) (by kernel_rfl) (by kernel_rfl) (fun _ _ _ h => h) (Or.inl ⟨by kernel_rfl, ?_⟩) ?_
                  rotate_left
                  · intro w
                    go_simp
                    try with_reducible rfl
                  refine wpAny_ready (rs := [0]) (by kernel_rfl) (by simp) ?_
                  refine AllReady.cons rfl (fun K hK => ?_) AllReady.nil
                  go_simp
                  refine hK _ _ ?_
                  clear hK K
                  refine wpAny_ready (rs := [4]) (by kernel_rfl) (by simp) ?_
                  refine AllReady.cons rfl (fun K hK => ?_) AllReady.nil
                  go_simp
                  go_at_call 179
                  (with_reducible refine (unhide hF1).mono ?_)
                  rintro e w2 ⟨rfl, hb2⟩
                  have hW2 := hWd.below hb2
                  have hqb2 := hqb.drew.below hb2 hqb.drew.lt
                  have hLA2 := hLAk w2 hW2.own
                  clear b0 b1 b2 hb2 hF1
                  obtain ⟨b0, b1, b2⟩ := blk3 hW2.box
                  refine hK _ _ ?_
                  clear hK K
                  refine wpAny_take (i := 5) (v := ?_) rfl (by kernel_rfl) (by kernel_rfl) (by kernel_rfl) (fun _ _ _ h => h) (Or.inl ⟨by kernel_rfl, ?_⟩) ?_
                  rotate_left
                  · intro w
                    go_simp
                    try with_reducible rfl
                  refine wpAny_take (i := 8) (v := ?_) rfl (by kernel_rfl) (by kernel_rfl) (by kernel_rfl) (fun _ _ _ h => h) (Or.inl ⟨by kernel_rfl, ?_⟩) ?_
                  rotate_left
                  · intro w
                    go_simp
                    try with_reducible rfl
                  refine wpAny_take (i := 9) (v := ?_) rfl (by kernel_rfl) (by kernel_rfl) (by kernel_rfl) (fun _ _ _ h => h) (Or.inl ⟨by kernel_rfl, ?_⟩) ?_
                  rotate_left
                  · intro w
                    go_simp
                    try with_reducible rfl
                  refine wpAny_take (i := 10) (v := ?_) rfl (by kernel_rfl) (by kernel_rfl) (by kernel_rfl) (fun _ _ _ h => h) (Or.inl ⟨by kernel_rfl, ?_⟩) ?_
                  rotate_left
                  · intro w
                    go_simp
                    try with_reducible rfl
                  refine wpAny_take (i := 12) (v := ?_) rfl (by kernel_rfl) (by kernel_rfl) (by kernel_rfl) (fun _ _ _ h => h) (Or.inl ⟨by kernel_rfl, ?_⟩) ?_
                  rotate_left
                  · intro w
                    go_simp
                    try with_reducible rfl
                  refine wpAny_ready (rs := [6, 7]) (by kernel_rfl) (by simp) ?_
                  refine AllReady.cons rfl (fun K hK => ?_) (AllReady.cons rfl (fun K hK => ?_) AllReady.nil)
                  · go_simp
                    refine hK _ _ ?_
                    clear hK K
                    refine wpAny_ready (rs := [7]) (by kernel_rfl) (by simp) ?_
                    refine AllReady.cons rfl (fun K hK => ?_) AllReady.nil
                    go_simp
                    refine hK _ _ ?_
                    clear hK K
                    refine wpAny_ready (rs := [11]) (by kernel_rfl) (by simp) ?_
                    refine AllReady.cons rfl (fun K hK => ?_) AllReady.nil
                    go_simp
                    go_at_call 180
                    (with_reducible refine (unhide hLA2).mono ?_)
                    rintro e w3 ⟨g3, c3, c4, rfl, ho3, hb3⟩
                    have hW3 := hW2.below hb3
                    have hqb3 := hqb2.below hb3 hqb2.lt
                    clear b0 b1 b2
                    obtain ⟨b0, b1, b2⟩ := blk3 hW3.box
                    refine hK _ _ ?_
                    clear hK K
                    refine wpAny_ready (rs := [13]) (by kernel_rfl) (by simp) ?_
                    refine AllReady.cons rfl (fun K hK => ?_) AllReady.nil
                    have hE3 := hEAk w3 g3 c4 c3 _ _ _ (hW3.bel hb hbq hv0) hW3.hq hW3.rows (own_mono ho3 (Nat.le_trans hb hW2.fr.size)) (by rw [List.length_append]; have := HPL.out; omega)
                    go_simp
                    go_at_call 139
                    (with_reducible refine (unhide hE3).mono ?_)
                    rintro e w4 ⟨rfl, v4, xs4, hq4, hT4, hF4⟩
                    have hW4 := hW3.step hqlt hq4 hT4 hF4
                    have hqb4 := hF4.blk hqb3 (Ne.symm hqq) (own_blk_ne hW3.rows.own hqb3 (by decide))
                    refine hK _ _ ?_
                    clear hK K
                    refine wpAny_take (i := 14) (v := ?_) rfl (by kernel_rfl) (by kernel_rfl) (by kernel_rfl) (fun _ _ _ h => h) (Or.inl ⟨by kernel_rfl, ?_⟩) ?_
                    rotate_left
                    · intro w
                      go_simp
                      try with_reducible rfl
                    refine wpAny_take (i := 15) (v := ?_) rfl (by kernel_rfl) (by kernel_rfl) (by kernel_rfl) (fun _ _ _ h => h) (Or.inl ⟨by kernel_rfl, ?_⟩) ?_
                    rotate_left
                    · intro w
                      go_simp
                      try with_reducible rfl
                    refine wpAny_done (by kernel_rfl) ?_ _
                    clear q0 b0 b1 b2 hW hWd hW2 hW3 hqb hqb2 hqb3 ho3 hb3 hq4 hT4 hF4 hLA2 hE3
                    rw [List.append_assoc, ← HP1.out] at hW4
                    go_simp
                    go_wp2_with fail
                    go_roundg 1
                    case measure => have := HK2.out; omega
                    case rel => exact ⟨1, _, _, _, by have := HK2.out; omega, by go_num, rfl, hW4, hqb4⟩
                  · go_simp
                    refine hK _ _ ?_
                    clear hK K
                    refine wpAny_ready (rs := [6, 11]) (by kernel_rfl) (by simp) ?_
                    refine AllReady.cons rfl (fun K hK => ?_) (AllReady.cons rfl (fun K hK => ?_) AllReady.nil)
                    · go_simp
                      refine hK _ _ ?_
                      clear hK K
                      refine wpAny_ready (rs := [11]) (by kernel_rfl) (by simp) ?_
                      refine AllReady.cons rfl (fun K hK => ?_) AllReady.nil
                      go_simp
                      go_at_call 180
                      (with_reducible refine (unhide hLA2).mono ?_)
                      rintro e w3 ⟨g3, c3, c4, rfl, ho3, hb3⟩
                      have hW3 := hW2.below hb3
                      have hqb3 := hqb2.below hb3 hqb2.lt
                      clear b0 b1 b2
                      obtain ⟨b0, b1, b2⟩ := blk3 hW3.box
                      refine hK _ _ ?_
                      clear hK K
                      refine wpAny_ready (rs := [13]) (by kernel_rfl) (by simp) ?_
                      refine AllReady.cons rfl (fun K hK => ?_) AllReady.nil
                      have hE3 := hEAk w3 g3 c4 c3 _ _ _ (hW3.bel hb hbq hv0) hW3.hq hW3.rows (own_mono ho3 (Nat.le_trans hb hW2.fr.size)) (by rw [List.length_append]; have := HPL.out; omega)
                      go_simp
                      go_at_call 139
                      (with_reducible refine (unhide hE3).mono ?_)
                      rintro e w4 ⟨rfl, v4, xs4, hq4, hT4, hF4⟩
                      have hW4 := hW3.step hqlt hq4 hT4 hF4
                      have hqb4 := hF4.blk hqb3 (Ne.symm hqq) (own_blk_ne hW3.rows.own hqb3 (by decide))
                      refine hK _ _ ?_
                      clear hK K
                      refine wpAny_take (i := 14) (v := ?_) rfl (by kernel_rfl) (by kernel_rfl) (by kernel_rfl) (fun _ _ _ h => h) (Or.inl ⟨by kernel_rfl, ?_⟩) ?_
                      rotate_left
                      · intro w
                        go_simp
                        try with_reducible rfl
                      refine wpAny_take (i := 15) (v := ?_) rfl (by kernel_rfl) (by kernel_rfl) (by kernel_rfl) (fun _ _ _ h => h) (Or.inl ⟨by kernel_rfl, ?_⟩) ?_
                      rotate_left
                      · intro w
                        go_simp
                        try with_reducible rfl
                      refine wpAny_done (by kernel_rfl) ?_ _
                      clear q0 b0 b1 b2 hW hWd hW2 hW3 hqb hqb2 hqb3 ho3 hb3 hq4 hT4 hF4 hLA2 hE3
                      rw [List.append_assoc, ← HP1.out] at hW4
                      go_simp
                      go_wp2_with fail
                      go_roundg 1
                      case measure => have := HK2.out; omega
                      case rel => exact ⟨1, _, _, _, by have := HK2.out; omega, by go_num, rfl, hW4, hqb4⟩
                    · go_simp
                      go_at_call 180
                      (with_reducible refine (unhide hLA2).mono ?_)
                      rintro e w3 ⟨g3, c3, c4, rfl, ho3, hb3⟩
                      have hW3 := hW2.below hb3
                      have hqb3 := hqb2.below hb3 hqb2.lt
                      clear b0 b1 b2
                      obtain ⟨b0, b1, b2⟩ := blk3 hW3.box
                      refine hK _ _ ?_
                      clear hK K
                      refine wpAny_ready (rs := [6]) (by kernel_rfl) (by simp) ?_
                      refine AllReady.cons rfl (fun K hK => ?_) AllReady.nil
                      go_simp
                      refine hK _ _ ?_
                      clear hK K
                      refine wpAny_ready (rs := [13]) (by kernel_rfl) (by simp) ?_
                      refine AllReady.cons rfl (fun K hK => ?_) AllReady.nil
                      have hE3 := hEAk w3 g3 c4 c3 _ _ _ (hW3.bel hb hbq hv0) hW3.hq hW3.rows (own_mono ho3 (Nat.le_trans hb hW2.fr.size)) (by rw [List.length_append]; have := HPL.out; omega)
                      go_simp
                      go_at_call 139
                      (with_reducible refine (unhide hE3).mono ?_)
                      rintro e w4 ⟨rfl, v4, xs4, hq4, hT4, hF4⟩
                      have hW4 := hW3.step hqlt hq4 hT4 hF4
                      have hqb4 := hF4.blk hqb3 (Ne.symm hqq) (own_blk_ne hW3.rows.own hqb3 (by decide))
                      refine hK _ _ ?_
                      clear hK K
                      refine wpAny_take (i := 14) (v := ?_) rfl (by kernel_rfl) (by kernel_rfl) (by kernel_rfl) (fun _ _ _ h => h) (Or.inl ⟨by kernel_rfl, ?_⟩) ?_
                      rotate_left
                      · intro w
                        go_simp
                        try with_reducible rfl
                      refine wpAny_take (i := 15) (v := ?_) rfl (by kernel_rfl) (by kernel_rfl) (by kernel_rfl) (fun _ _ _ h => h) (Or.inl ⟨by kernel_rfl, ?_⟩) ?_
                      rotate_left
                      · intro w
                        go_simp
                        try with_reducible rfl
                      refine wpAny_done (by kernel_rfl) ?_ _
                      clear q0 b0 b1 b2 hW hWd hW2 hW3 hqb hqb2 hqb3 ho3 hb3 hq4 hT4 hF4 hLA2 hE3
                      rw [List.append_assoc, ← HP1.out] at hW4
                      go_simp
                      go_wp2_with fail
                      go_roundg 1
                      case measure => have := HK2.out; omega
                      case rel => exact ⟨1, _, _, _, by have := HK2.out; omega, by go_num, rfl, hW4, hqb4⟩
              · have HK2 := Lib.hid hk2
                clear hk2
                have q0 := hqb.cell 1
                simp at q0
                have hFRk := hFR k hlt 2
                have hp1 : preT R f L k 2 = preT R f L k 1 ++ (if frB R L k 2 = true then allT R f (lyV R L k 2) else []) := rfl
                have hpl := preT_len R f L k 1 (by omega)
                have HPL := Lib.hid hpl
                clear hpl
                obtain ⟨b0, b1, b2⟩ := blk3 hW.box
                go_upto_region 9 with fail
                have hWd := hW.below (Below.refl _ _).drew
                have hF1 := hFRk _ (hWd.bel hb hbq hv0) hWd.own
                cases hfb : frB R L k 2 with
                | false =>
                  rw [hfb] at hF1 hp1
                  have HP1 := Lib.hid hp1
                  clear hp1 hfb hFRk hLA hEA hFR
                  refine wp_region_any (by kernel_rfl) ?_
                  change wpAny _ _ _ _ _ _ _ (World.drew _)
                  refine wpAny_take (i := 1) (v := ?_) rfl (by kernel_rfl) (by kernel_rfl) (by kernel_rfl) (fun _ _ _ h => h) (Or.inl ⟨by kernel_rfl, ?_⟩) ?_
                  rotate_left
                  · intro w
                    go_simp
                    try with_reducible rfl
                  refine wpAny_take (i := 2) (v := ?_) rfl (by kernel_rfl) (by kernel_rfl) (by kernel_rfl) (fun _ _ _ h => h) (Or.inl ⟨by kernel_rfl, ?_⟩) ?_
                  rotate_left
                  · intro w
                    go_simp
                    try with_reducible rfl
                  refine wpAny_take (i := 3) (v := ?_) rfl (by kernel_rfl) (by kernel_rfl) (by kernel_rfl) (fun _ _ _ h => h) (Or.inl ⟨by kernel_rfl, ?_⟩) ?_
                  rotate_left
                  · intro w
                    go_simp
                    try with_reducible rfl
                  refine wpAny_ready (rs := [0]) (by kernel_rfl) (by simp) ?_
                  refine AllReady.cons rfl (fun K hK => ?_) AllReady.nil
                  go_simp
                  refine hK _ _ ?_
                  clear hK K
                  refine wpAny_ready (rs := [4]) (by kernel_rfl) (by simp) ?_
                  refine AllReady.cons rfl (fun K hK => ?_) AllReady.nil
                  go_simp
                  go_at_call 179
                  (with_reducible refine (unhide hF1).mono ?_)
                  rintro e w2 ⟨rfl, hb2⟩
                  refine hK _ _ ?_
                  clear hK K
                  refine wpAny_take (i := 5) (v := ?_) rfl (by kernel_rfl) (by kernel_rfl) (by kernel_rfl) (fun _ _ _ h => h) (Or.inl ⟨by kernel_rfl, ?_⟩) ?_
                  rotate_left
                  · intro w
                    go_simp
                    try with_reducible rfl
                  refine wpAny_take (i := 6) rfl (by kernel_rfl) (by kernel_rfl) (by kernel_rfl) (fun _ _ _ h => h) (Or.inr ⟨by kernel_rfl, rfl⟩) ?_
                  refine wpAny_take (i := 7) rfl (by kernel_rfl) (by kernel_rfl) (by kernel_rfl) (fun _ _ _ h => h) (Or.inr ⟨by kernel_rfl, rfl⟩) ?_
                  refine wpAny_take (i := 8) rfl (by kernel_rfl) (by kernel_rfl) (by kernel_rfl) (fun _ _ _ h => h) (Or.inr ⟨by kernel_rfl, rfl⟩) ?_
                  refine wpAny_take (i := 9) rfl (by kernel_rfl) (by kernel_rfl) (by kernel_rfl) (fun _ _ _ h => h) (Or.inr ⟨by kernel_rfl, rfl⟩) ?_
                  refine wpAny_take (i := 10) rfl (by kernel_rfl) (by kernel_rfl) (by kernel_rfl) (fun _ _ _ h => h) (Or.inr ⟨by kernel_rfl, rfl⟩) ?_
                  refine wpAny_take (i := 11) rfl (by kernel_rfl) (by kernel_rfl) (by kernel_rfl) (fun _ _ _ h => h) (Or.inr ⟨by kernel_rfl, rfl⟩) ?_
                  refine wpAny_take (i := 12) rfl (by kernel_rfl) (by kernel_rfl) (by kernel_rfl) (fun _ _ _ h => h) (Or.inr ⟨by kernel_rfl, rfl⟩) ?_
                  refine wpAny_take (i := 13) rfl (by kernel_rfl) (by kernel_rfl) (by kernel_rfl) (fun _ _ _ h => h) (Or.inr ⟨by kernel_rfl, rfl⟩) ?_
                  refine wpAny_take (i := 14) rfl (by kernel_rfl) (by kernel_rfl) (by kernel_rfl) (fun _ _ _ h => h) (Or.inr ⟨by kernel_rfl, rfl⟩) ?_
                  refine wpAny_take (i := 15) (v := ?_) rfl (by kernel_rfl) (by kernel_rfl) (by kernel_rfl) (fun _ _ _ h => h) (Or.inl ⟨by kernel_rfl, ?_⟩) ?_
                  rotate_left
                  · intro w
                    go_simp
                    try with_reducible rfl
                  refine wpAny_done (by kernel_rfl) ?_ _
                  have hW2 := hWd.below hb2
                  have hqb2 := hqb.drew.below hb2 hqb.drew.lt
                  clear q0 b0 b1 b2 hW hWd hF1 hb2
                  go_simp
                  go_wp2_with fail
                  go_roundg 0
                  case measure => have := HK2.out; omega
                  case rel => exact ⟨2, _, _, _, by have := HK2.out; omega, by go_num, by rw [HP1.out]; simp, hW2, hqb2⟩
                | true =>
                  rw [hfb] at hF1 hp1
                  rw [if_pos rfl] at hp1
                  have hLAk := fun w' hown => hLA k 2 hfb w' hown
                  have hEAk := fun w' g2 c2 d2 v' xs' Ts' hb' hq' hT' ho' hl' => hEA k 2 (by omega) hfb w' g2 c2 d2 v' xs' Ts' hb' hq' hT' ho' hl'
                  have HP1 := Lib.hid hp1
                  clear hp1 hfb hFRk hLA hEA hFR
                  refine wp_region_any (by kernel_rfl) ?_
                  change wpAny _ _ _ _ _ _ _ (World.drew _)
                  refine wpAny_take (i := 1) (v := ?_) rfl (by kernel_rfl) (by kernel_rfl) (by kernel_rfl) (fun _ _ _ h => h) (Or.inl ⟨by kernel_rfl, ?_⟩) ?_
                  rotate_left
                  · intro w
                    go_simp
                    try with_reducible rfl
                  refine wpAny_take (i := 2) (v := ?_) rfl (by kernel_rfl) (by kernel_rfl) (by kernel_rfl) (fun _ _ _ h => h) (Or.inl ⟨by kernel_rfl, ?_⟩) ?_
                  rotate_left
                  · intro w
                    go_simp
                    try with_reducible rfl
                  refine wpAny_take (i := 3) (v := ?_) rfl (by kernel_rfl) (by kernel_rfl) (by kernel_rfl) (fun _ _ _ h => h) (Or.inl ⟨by kernel_rfl, ?_⟩) ?_
                  rotate_left
                  · intro w
                    go_simp
                    try with_reducible rfl
                  refine wpAny_ready (rs := [0]) (by kernel_rfl) (by simp) ?_
                  refine AllReady.cons rfl (fun K hK => ?_) AllReady.nil
                  go_simp
                  refine hK _ _ ?_
                  clear hK K
                  refine wpAny_ready (rs := [4]) (by kernel_rfl) (by simp) ?_
                  refine AllReady.cons rfl (fun K hK => ?_) AllReady.nil
                  go_simp
                  go_at_call 179
                  (with_reducible refine (unhide hF1).mono ?_)
                  rintro e w2 ⟨rfl, hb2⟩
                  have hW2 := hWd.below hb2
                  have hqb2 := hqb.drew.below hb2 hqb.drew.lt
                  have hLA2 := hLAk w2 hW2.own
                  clear b0 b1 b2 hb2 hF1
                  obtain ⟨b0, b1, b2⟩ := blk3 hW2.box
                  refine hK _ _ ?_
                  clear hK K
                  refine wpAny_take (i := 5) (v := ?_) rfl (by kernel_rfl) (by kernel_rfl) (by kernel_rfl) (fun _ _ _ h => h) (Or.inl ⟨by kernel_rfl, ?_⟩) ?_
                  rotate_left
                  · intro w
                    go_simp
                    try with_reducible rfl
                  refine wpAny_take (i := 8) (v := ?_) rfl (by kernel_rfl) (by kernel_rfl) (by kernel_rfl) (fun _ _ _ h => h) (Or.inl ⟨by kernel_rfl, ?_⟩) ?_
                  rotate_left
                  · intro w
                    go_simp
                    try with_reducible rfl
                  refine wpAny_take (i := 9) (v := ?_) rfl (by kernel_rfl) (by kernel_rfl) (by kernel_rfl) (fun _ _ _ h => h) (Or.inl ⟨by kernel_rfl, ?_⟩) ?_
                  rotate_left
                  · intro w
                    go_simp
                    try with_reducible rfl
                  refine wpAny_take (i := 10) (v := ?_) rfl (by kernel_rfl) (by kernel_rfl) (by kernel_rfl) (fun _ _ _ h => h) (Or.inl ⟨by kernel_rfl, ?_⟩) ?_
                  rotate_left
                  · intro w
                    go_simp
                    try with_reducible rfl
                  refine wpAny_take (i := 12) (v := ?_) rfl (by kernel_rfl) (by kernel_rfl) (by kernel_rfl) (fun _ _ _ h => h) (Or.inl ⟨by kernel_rfl, ?_⟩) ?_
                  rotate_left
                  · intro w
                    go_simp
                    try with_reducible rfl
                  refine wpAny_ready (rs := [6, 7]) (by kernel_rfl) (by simp) ?_
                  refine AllReady.cons rfl (fun K hK => ?_) (AllReady.cons rfl (fun K hK => ?_) AllReady.nil)
                  · go_simp
                    refine hK _ _ ?_
                    clear hK K
                    refine wpAny_ready (rs := [7]) (by kernel_rfl) (by simp) ?_
                    refine AllReady.cons rfl (fun K hK => ?_) AllReady.nil
                    go_simp
                    refine hK _ _ ?_
                    clear hK K
                    refine wpAny_ready (rs := [11]) (by kernel_rfl) (by simp) ?_
                    refine AllReady.cons rfl (fun K hK => ?_) AllReady.nil
                    go_simp
                    go_at_call 180
                    (with_reducible refine (unhide hLA2).mono ?_)
                    rintro e w3 ⟨g3, c3, c4, rfl, ho3, hb3⟩
                    have hW3 := hW2.below hb3
                    have hqb3 := hqb2.below hb3 hqb2.lt
                    clear b0 b1 b2
                    obtain ⟨b0, b1, b2⟩ := blk3 hW3.box
                    refine hK _ _ ?_
                    clear hK K
                    refine wpAny_ready (rs := [13]) (by kernel_rfl) (by simp) ?_
                    refine AllReady.cons rfl (fun K hK => ?_) AllReady.nil
                    have hE3 := hEAk w3 g3 c4 c3 _ _ _ (hW3.bel hb hbq hv0) hW3.hq hW3.rows (own_mono ho3 (Nat.le_trans hb hW2.fr.size)) (by rw [List.length_append]; have := HPL.out; omega)
                    go_simp
                    go_at_call 139
                    (with_reducible refine (unhide hE3).mono ?_)
                    rintro e w4 ⟨rfl, v4, xs4, hq4, hT4, hF4⟩
                    have hW4 := hW3.step hqlt hq4 hT4 hF4
                    have hqb4 := hF4.blk hqb3 (Ne.symm hqq) (own_blk_ne hW3.rows.own hqb3 (by decide))
                    refine hK _ _ ?_
                    clear hK K
                    refine wpAny_take (i := 14) (v := ?_) rfl (by kernel_rfl) (by kernel_rfl) (by kernel_rfl) (fun _ _ _ h => h) (Or.inl ⟨by kernel_rfl, ?_⟩) ?_
                    rotate_left
                    · intro w
                      go_simp
                      try with_reducible rfl
                    refine wpAny_take (i := 15) (v := ?_) rfl (by kernel_rfl) (by kernel_rfl) (by kernel_rfl) (fun _ _ _ h => h) (Or.inl ⟨by kernel_rfl, ?_⟩) ?_
                    rotate_left
                    · intro w
                      go_simp
                      try with_reducible rfl
                    refine wpAny_done (by kernel_rfl) ?_ _
                    clear q0 b0 b1 b2 hW hWd hW2 hW3 hqb hqb2 hqb3 ho3 hb3 hq4 hT4 hF4 hLA2 hE3
                    rw [List.append_assoc, ← HP1.out] at hW4
                    go_simp
                    go_wp2_with fail
                    go_roundg 0
                    case measure => have := HK2.out; omega
                    case rel => exact ⟨2, _, _, _, by have := HK2.out; omega, by go_num, rfl, hW4, hqb4⟩
                  · go_simp
                    refine hK _ _ ?_
                    clear hK K
                    refine wpAny_ready (rs := [6, 11]) (by kernel_rfl) (by simp) ?_
                    refine AllReady.cons rfl (fun K hK => ?_) (AllReady.cons rfl (fun K hK => ?_) AllReady.nil)
                    · go_simp
                      refine hK _ _ ?_
                      clear hK K
                      refine wpAny_ready (rs := [11]) (by kernel_rfl) (by simp) ?_
                      refine AllReady.cons rfl (fun K hK => ?_) AllReady.nil
                      go_simp
                      go_at_call 180
                      (with_reducible refine (unhide hLA2).mono ?_)
                      rintro e w3 ⟨g3, c3, c4, rfl, ho3, hb3⟩
                      have hW3 := hW2.below hb3
                      have hqb3 := hqb2.below hb3 hqb2.lt
                      clear b0 b1 b2
                      obtain ⟨b0, b1, b2⟩ := blk3 hW3.box
                      refine hK _ _ ?_
                      clear hK K
                      refine wpAny_ready (rs := [13]) (by kernel_rfl) (by simp) ?_
                      refine AllReady.cons rfl (fun K hK => ?_) AllReady.nil
                      have hE3 := hEAk w3 g3 c4 c3 _ _ _ (hW3.bel hb hbq hv0) hW3.hq hW3.rows (own_mono ho3 (Nat.le_trans hb hW2.fr.size)) (by rw [List.length_append]; have := HPL.out; omega)
                      go_simp
                      go_at_call 139
                      (with_reducible refine (unhide hE3).mono ?_)
                      rintro e w4 ⟨rfl, v4, xs4, hq4, hT4, hF4⟩
                      have hW4 := hW3.step hqlt hq4 hT4 hF4
                      have hqb4 := hF4.blk hqb3 (Ne.symm hqq) (own_blk_ne hW3.rows.own hqb3 (by decide))
                      refine hK _ _ ?_
                      clear hK K
                      refine wpAny_take (i := 14) (v := ?_) rfl (by kernel_rfl) (by kernel_rfl) (by kernel_rfl) (fun _ _ _ h => h) (Or.inl ⟨by kernel_rfl, ?_⟩) ?_
                      rotate_left
                      · intro w
                        go_simp
                        try with_reducible rfl
                      refine wpAny_take (i := 15) (v := ?_) rfl (by kernel_rfl) (by kernel_rfl) (by kernel_rfl) (fun _ _ _ h => h) (Or.inl ⟨by kernel_rfl, ?_⟩) ?_
                      rotate_left
                      · intro w
                        go_simp
                        try with_reducible rfl
                      refine wpAny_done (by kernel_rfl) ?_ _
                      clear q0 b0 b1 b2 hW hWd hW2 hW3 hqb hqb2 hqb3 ho3 hb3 hq4 hT4 hF4 hLA2 hE3
                      rw [List.append_assoc, ← HP1.out] at hW4
                      go_simp
                      go_wp2_with fail
                      go_roundg 0
                      case measure => have := HK2.out; omega
                      case rel => exact ⟨2, _, _, _, by have := HK2.out; omega, by go_num, rfl, hW4, hqb4⟩
                    · go_simp
                      go_at_call 180
                      (with_reducible refine (unhide hLA2).mono ?_)
                      rintro e w3 ⟨g3, c3, c4, rfl, ho3, hb3⟩
                      have hW3 := hW2.below hb3
                      have hqb3 := hqb2.below hb3 hqb2.lt
                      clear b0 b1 b2
                      obtain ⟨b0, b1, b2⟩ := blk3 hW3.box
                      refine hK _ _ ?_
                      clear hK K
                      refine wpAny_ready (rs := [6]) (by kernel_rfl) (by simp) ?_
                      refine AllReady.cons rfl (fun K hK => ?_) AllReady.nil
                      go_simp
                      refine hK _ _ ?_
                      clear hK K
                      refine wpAny_ready (rs := [13]) (by kernel_rfl) (by simp) ?_
                      refine AllReady.cons rfl (fun K hK => ?_) AllReady.nil
                      have hE3 := hEAk w3 g3 c4 c3 _ _ _ (hW3.bel hb hbq hv0) hW3.hq hW3.rows (own_mono ho3 (Nat.le_trans hb hW2.fr.size)) (by rw [List.length_append]; have := HPL.out; omega)
                      go_simp
                      go_at_call 139
                      (with_reducible refine (unhide hE3).mono ?_)
                      rintro e w4 ⟨rfl, v4, xs4, hq4, hT4, hF4⟩
                      have hW4 := hW3.step hqlt hq4 hT4 hF4
                      have hqb4 := hF4.blk hqb3 (Ne.symm hqq) (own_blk_ne hW3.rows.own hqb3 (by decide))
                      refine hK _ _ ?_
                      clear hK K
                      refine wpAny_take (i := 14) (v := ?_) rfl (by kernel_rfl) (by kernel_rfl) (by kernel_rfl) (fun _ _ _ h => h) (Or.inl ⟨by kernel_rfl, ?_⟩) ?_
                      rotate_left
                      · intro w
                        go_simp
                        try with_reducible rfl
                      refine wpAny_take (i := 15) (v := ?_) rfl (by kernel_rfl) (by kernel_rfl) (by kernel_rfl) (fun _ _ _ h => h) (Or.inl ⟨by kernel_rfl, ?_⟩) ?_
                      rotate_left
                      · intro w
                        go_simp
                        try with_reducible rfl
                      refine wpAny_done (by kernel_rfl) ?_ _
                      clear q0 b0 b1 b2 hW hWd hW2 hW3 hqb hqb2 hqb3 ho3 hb3 hq4 hT4 hF4 hLA2 hE3
                      rw [List.append_assoc, ← HP1.out] at hW4
                      go_simp
                      go_wp2_with fail
                      go_roundg 0
                      case measure => have := HK2.out; omega
                      case rel => exact ⟨2, _, _, _, by have := HK2.out; omega, by go_num, rfl, hW4, hqb4⟩
              · rw [HFI.out] at hW
                clear hk2
                go_wp2_with fail
                go_ret
                exact ⟨rfl, v', xs', hW.hq, hW.rows, hW.fr⟩
          · have HNO : Hid (opB R L k = false) := Lib.hid (by rw [HOP.out, decide_eq_false hz]; rfl)
            have hu : (L.getD k 0 != 0) = true := by simpa using hz
            clear hcb HOP hz
            generalize L.getD k 0 = u at *
            go_wp2_with fail
            go_roundg (R.C.length - (k + 1))
            case measure => have := HK.out; omega
            case rel =>
              refine ⟨k + 1, by have := HK.out; omega, by go_num, fun j hj => ?_, rfl⟩
              by_cases hjk : j = k
              · subst hjk; exact HNO.out
              · exact HALL.out j (by omega)
      · exact absurd (fiV_none.2 fun j hj => HALL.out j (by have := HK.out; omega)) HFN.out

end Go.Proofs.Ythepfpiphlfgnaa

/-
  YthepfpiphlfgnaaTc: all tilings of the program, as rows.
-/
namespace Go.Proofs.Ythepfpiphlfgnaa
open Go.RowKit

theorem step_make_ints {w : World} {ops : Array Oper} {o : Oper} {a : Act} {K : Act → World → Prop} {Q : Exit → Act → World → Prop} {F : Prop}
    (hgd : o.guard = none) (l c : Operand) (hop : o.op = Op.makeSlice 26 l c) (n : Nat) (hn : n ≤ 4194304) (hl : a.eval l = .int .i64 (n : Int)) (hc : a.eval c = .int .i64 (n : Int))
    (hK : ∀ w', w'.ownsRow w.heap.size 3 1 (.slice (some ⟨w.heap.size, 0, none⟩) n n) n ((List.replicate n (0 : Int)).map (Value.int .i64)) → Below w.heap.size w w' → K (a.put o.dst (.slice (some ⟨w.heap.size, 0, none⟩) n n)) w') :
    if Region.wanted o (yielded ops a.tmps) = true then Oper.wp Try.prog o a w K Q else F := by
  have hw : Region.wanted o (yielded ops a.tmps) = true := by simp [Region.wanted, hgd]
  rw [if_pos hw]
  obtain ⟨w', hrun, r1, r2⟩ := make_ints n hn w
  unfold Oper.wp
  simp [execOp, hop, hl, hc, hrun, Result.andThen]
  exact hK w' r1 r2

theorem clipR_any (A : Option Addr) (n c : Nat) (hc : n ≤ c) (_hn : c ≤ 9223372036854775807) (w : World) :
    Calls Try.prog 141 #[.slice A n c] w fun e w' => e = .returned (.slice A n n) ∧ w = w' := by
  go_enter Try.func141, Try.ntmps141
  go_wp2_with fail
  go_ret
  exact ⟨rfl, rfl⟩

theorem own_capR {w : World} {base : Nat} {e : TypeId} {size : Nat} {A : Option Addr} {n c : Nat} {xs : List Value} (h : w.ownsRow base e size (.slice A n c) n xs) : c ≤ 9223372036854775807 := own_cap2 h

/-- Rows of one's own, as a result. -/
def RowsRet (w : World) (n : Nat) (Ts : List (List Int)) (e : Ending) (w' : World) : Prop :=
  ∃ A c c' xs, e = .returned (.slice A Ts.length c') ∧ RowsOf w' w.heap.size n (.slice A Ts.length c) xs Ts ∧ Below w.heap.size w w'

set_option maxHeartbeats 2000000 in
set_option maxRecDepth 20000 in
theorem tilings_any (R : Reg) (hR : R.ok) (A : Option Addr) (c B : Nat) (w : World) (hr : Reads w B 1 A R.C.length (R.C.map Value.bool)) (hB : B ≤ w.heap.size) :
    Calls Try.prog 73 #[.agg #[.int .i64 R.W, .int .i64 R.T, .slice A R.C.length c]] w (RowsRet w R.C.length (tilT R)) := by
  have hl36 := (len_bd hR).2
  have hb0 : Below w.heap.size w ((w.alloc (boxR R.W R.T A R.C.length c)).alloc (.cells #[.slice none 0 0] 74)) := ((Below.refl _ _).alloc (Nat.le_refl _) _).alloc (by simp) _
  have k0 : Blk ((w.alloc (boxR R.W R.T A R.C.length c)).alloc (.cells #[.slice none 0 0] 74)) w.heap.size 25 #[.int .i64 R.W, .int .i64 R.T, .slice A R.C.length c] := (Blk.new _ _ _).alloc _
  have k1 : Blk ((w.alloc (boxR R.W R.T A R.C.length c)).alloc (.cells #[.slice none 0 0] 74)) (w.heap.size + 1) 74 #[.slice none 0 0] := by
    have := Blk.new (w.alloc (boxR R.W R.T A R.C.length c)) 74 #[.slice none 0 0]
    simpa using this
  have hEA : ∀ (w' : World) (g : Nat), Below w.heap.size w w' → Blk w' (w.heap.size + 1) 74 #[.slice none 0 0] → w'.ownsRow w.heap.size 3 1 (.slice (some ⟨g, 0, none⟩) R.C.length R.C.length) R.C.length ((List.replicate R.C.length (0 : Int)).map (Value.int .i64)) →
      Hid (Calls Try.prog 139 #[.agg #[.int .i64 R.W, .int .i64 R.T, .slice A R.C.length c], .slice (some ⟨g, 0, none⟩) R.C.length R.C.length, .func (.func 140) #[] #[.pointer (some ⟨w.heap.size + 1, 0, none⟩)]] w' fun e w'' => e = .returned (.bool true) ∧ ∃ v' xs', Blk w'' (w.heap.size + 1) 74 #[v'] ∧ RowsOf w'' w.heap.size R.C.length v' xs' ([] ++ tilT R) ∧ Fr (w.heap.size + 1) (.slice none 0 0) v' w' w'') := fun w' g h hq ho =>
    hide (each_any R hR A c B (w.heap.size + 1) w.heap.size hB (by omega) 18 (bare R) g R.C.length R.C.length (.slice none 0 0) [] [] w' (lay_bare hR) (opN_bare hR) (hr.below (h.mono hB)) h.size hq (RowsOf.nil _ _ _) ho (by simp))
  clear hr
  go_enter Try.func73, Try.ntmps73
  go_upto_region 2 with fail
  generalize (w.alloc (boxR R.W R.T A R.C.length c)).alloc (.cells #[.slice none 0 0] 74) = w1 at *
  obtain ⟨b0, b1, b2⟩ := blk3 k0
  have q0 := k1.cell 0
  simp at q0
  refine wp_region_any (by kernel_rfl) ?_
  change wpAny _ _ _ _ _ _ _ (World.drew _)
  refine wpAny_take (i := 1) (v := ?_) rfl (by kernel_rfl) (by kernel_rfl) (by kernel_rfl) (fun _ _ _ h => h) (Or.inl ⟨by kernel_rfl, ?_⟩) ?_
  rotate_left
  · intro w
    go_simp
    try with_reducible rfl
  refine wpAny_take (i := 5) (v := ?_) rfl (by kernel_rfl) (by kernel_rfl) (by kernel_rfl) (fun _ _ _ h => h) (Or.inl ⟨by kernel_rfl, ?_⟩) ?_
  rotate_left
  · intro w
    go_simp
    try with_reducible rfl
  refine wpAny_ready (rs := [0, 2]) (by kernel_rfl) (by simp) ?_
  refine AllReady.cons rfl (fun K hK => ?_) (AllReady.cons rfl (fun K hK => ?_) AllReady.nil)
  · go_simp
    refine hK _ _ ?_
    clear hK K
    refine wpAny_ready (rs := [2]) (by kernel_rfl) (by simp) ?_
    refine AllReady.cons rfl (fun K hK => ?_) AllReady.nil
    go_simp
    refine hK _ _ ?_
    clear hK K
    refine wpAny_ready (rs := [3]) (by kernel_rfl) (by simp) ?_
    refine AllReady.cons rfl (fun K hK => ?_) AllReady.nil
    go_simp
    refine hK _ _ ?_
    clear hK K
    refine wpAny_ready (rs := [4]) (by kernel_rfl) (by simp) ?_
    refine AllReady.cons rfl (fun K hK => ?_) AllReady.nil
    refine step_make_ints rfl _ _ rfl R.C.length (by omega) rfl rfl ?_
    intro w2 ho2 hb2
    have hB2 := hb0.drew.trans (hb2.mono hb0.drew.size)
    have k02 := k0.drew.below hb2 k0.drew.lt
    have k12 := k1.drew.below hb2 k1.drew.lt
    have ho3 := own_mono ho2 hb0.drew.size
    have hE2 := hEA w2 w1.heap.size hB2 k12 ho3
    clear b0 b1 b2 q0 hb2
    obtain ⟨b0, b1, b2⟩ := blk3 k02
    refine hK _ _ ?_
    clear hK K
    refine wpAny_ready (rs := [6]) (by kernel_rfl) (by simp) ?_
    refine AllReady.cons rfl (fun K hK => ?_) AllReady.nil
    go_simp
    go_at_call 139
    (with_reducible refine (unhide hE2).mono ?_)
    rintro e w3 ⟨rfl, v3, xs3, hq3, hT3, hF3⟩
    refine hK _ _ ?_
    clear hK K
    refine wpAny_done (by kernel_rfl) ?_ _
    have hB3 := hB2.trans (hF3.below hB2.size (by omega) (fun k h => by simp [Value.ownBlock] at h))
    rw [List.nil_append] at hT3
    obtain ⟨A3, c3, rfl, hc3, _⟩ := own_form hT3.own
    have hcap := own_capR hT3.own
    have HL3 := Lib.hid hT3.len
    have q3 := hq3.cell 0
    simp at q3
    clear b0 b1 b2 hE2 k02 k12 ho2 ho3 hq3 hF3 hB2 k0 k1 hb0 hEA
    go_simp
    go_wp2_with (go_at_call 141; refine (clipR_any _ _ _ hc3 hcap _).mono ?_; rintro e w4 ⟨rfl, rfl⟩)
    go_ret
    exact ⟨A3, c3, _, xs3, by rw [← HL3.out]; rfl, by rw [← HL3.out]; exact hT3, hB3⟩
  · go_simp
    refine hK _ _ ?_
    clear hK K
    refine wpAny_ready (rs := [0, 3]) (by kernel_rfl) (by simp) ?_
    refine AllReady.cons rfl (fun K hK => ?_) (AllReady.cons rfl (fun K hK => ?_) AllReady.nil)
    · go_simp
      refine hK _ _ ?_
      clear hK K
      refine wpAny_ready (rs := [3]) (by kernel_rfl) (by simp) ?_
      refine AllReady.cons rfl (fun K hK => ?_) AllReady.nil
      go_simp
      refine hK _ _ ?_
      clear hK K
      refine wpAny_ready (rs := [4]) (by kernel_rfl) (by simp) ?_
      refine AllReady.cons rfl (fun K hK => ?_) AllReady.nil
      refine step_make_ints rfl _ _ rfl R.C.length (by omega) rfl rfl ?_
      intro w2 ho2 hb2
      have hB2 := hb0.drew.trans (hb2.mono hb0.drew.size)
      have k02 := k0.drew.below hb2 k0.drew.lt
      have k12 := k1.drew.below hb2 k1.drew.lt
      have ho3 := own_mono ho2 hb0.drew.size
      have hE2 := hEA w2 w1.heap.size hB2 k12 ho3
      clear b0 b1 b2 q0 hb2
      obtain ⟨b0, b1, b2⟩ := blk3 k02
      refine hK _ _ ?_
      clear hK K
      refine wpAny_ready (rs := [6]) (by kernel_rfl) (by simp) ?_
      refine AllReady.cons rfl (fun K hK => ?_) AllReady.nil
      go_simp
      go_at_call 139
      (with_reducible refine (unhide hE2).mono ?_)
      rintro e w3 ⟨rfl, v3, xs3, hq3, hT3, hF3⟩
      refine hK _ _ ?_
      clear hK K
      refine wpAny_done (by kernel_rfl) ?_ _
      have hB3 := hB2.trans (hF3.below hB2.size (by omega) (fun k h => by simp [Value.ownBlock] at h))
      rw [List.nil_append] at hT3
      obtain ⟨A3, c3, rfl, hc3, _⟩ := own_form hT3.own
      have hcap := own_capR hT3.own
      have HL3 := Lib.hid hT3.len
      have q3 := hq3.cell 0
      simp at q3
      clear b0 b1 b2 hE2 k02 k12 ho2 ho3 hq3 hF3 hB2 k0 k1 hb0 hEA
      go_simp
      go_wp2_with (go_at_call 141; refine (clipR_any _ _ _ hc3 hcap _).mono ?_; rintro e w4 ⟨rfl, rfl⟩)
      go_ret
      exact ⟨A3, c3, _, xs3, by rw [← HL3.out]; rfl, by rw [← HL3.out]; exact hT3, hB3⟩
    · go_simp
      refine hK _ _ ?_
      clear hK K
      refine wpAny_ready (rs := [0, 4]) (by kernel_rfl) (by simp) ?_
      refine AllReady.cons rfl (fun K hK => ?_) (AllReady.cons rfl (fun K hK => ?_) AllReady.nil)
      · go_simp
        refine hK _ _ ?_
        clear hK K
        refine wpAny_ready (rs := [4]) (by kernel_rfl) (by simp) ?_
        refine AllReady.cons rfl (fun K hK => ?_) AllReady.nil
        refine step_make_ints rfl _ _ rfl R.C.length (by omega) rfl rfl ?_
        intro w2 ho2 hb2
        have hB2 := hb0.drew.trans (hb2.mono hb0.drew.size)
        have k02 := k0.drew.below hb2 k0.drew.lt
        have k12 := k1.drew.below hb2 k1.drew.lt
        have ho3 := own_mono ho2 hb0.drew.size
        have hE2 := hEA w2 w1.heap.size hB2 k12 ho3
        clear b0 b1 b2 q0 hb2
        obtain ⟨b0, b1, b2⟩ := blk3 k02
        refine hK _ _ ?_
        clear hK K
        refine wpAny_ready (rs := [6]) (by kernel_rfl) (by simp) ?_
        refine AllReady.cons rfl (fun K hK => ?_) AllReady.nil
        go_simp
        go_at_call 139
        (with_reducible refine (unhide hE2).mono ?_)
        rintro e w3 ⟨rfl, v3, xs3, hq3, hT3, hF3⟩
        refine hK _ _ ?_
        clear hK K
        refine wpAny_done (by kernel_rfl) ?_ _
        have hB3 := hB2.trans (hF3.below hB2.size (by omega) (fun k h => by simp [Value.ownBlock] at h))
        rw [List.nil_append] at hT3
        obtain ⟨A3, c3, rfl, hc3, _⟩ := own_form hT3.own
        have hcap := own_capR hT3.own
        have HL3 := Lib.hid hT3.len
        have q3 := hq3.cell 0
        simp at q3
        clear b0 b1 b2 hE2 k02 k12 ho2 ho3 hq3 hF3 hB2 k0 k1 hb0 hEA
        go_simp
        go_wp2_with (go_at_call 141; refine (clipR_any _ _ _ hc3 hcap _).mono ?_; rintro e w4 ⟨rfl, rfl⟩)
        go_ret
        exact ⟨A3, c3, _, xs3, by rw [← HL3.out]; rfl, by rw [← HL3.out]; exact hT3, hB3⟩
      · refine step_make_ints rfl _ _ rfl R.C.length (by omega) rfl rfl ?_
        intro w2 ho2 hb2
        have hB2 := hb0.drew.trans (hb2.mono hb0.drew.size)
        have k02 := k0.drew.below hb2 k0.drew.lt
        have k12 := k1.drew.below hb2 k1.drew.lt
        have ho3 := own_mono ho2 hb0.drew.size
        have hE2 := hEA w2 w1.heap.size hB2 k12 ho3
        clear b0 b1 b2 q0 hb2
        obtain ⟨b0, b1, b2⟩ := blk3 k02
        refine hK _ _ ?_
        clear hK K
        refine wpAny_ready (rs := [0]) (by kernel_rfl) (by simp) ?_
        refine AllReady.cons rfl (fun K hK => ?_) AllReady.nil
        go_simp
        refine hK _ _ ?_
        clear hK K
        refine wpAny_ready (rs := [6]) (by kernel_rfl) (by simp) ?_
        refine AllReady.cons rfl (fun K hK => ?_) AllReady.nil
        go_simp
        go_at_call 139
        (with_reducible refine (unhide hE2).mono ?_)
        rintro e w3 ⟨rfl, v3, xs3, hq3, hT3, hF3⟩
        refine hK _ _ ?_
        clear hK K
        refine wpAny_done (by kernel_rfl) ?_ _
        have hB3 := hB2.trans (hF3.below hB2.size (by omega) (fun k h => by simp [Value.ownBlock] at h))
        rw [List.nil_append] at hT3
        obtain ⟨A3, c3, rfl, hc3, _⟩ := own_form hT3.own
        have hcap := own_capR hT3.own
        have HL3 := Lib.hid hT3.len
        have q3 := hq3.cell 0
        simp at q3
        clear b0 b1 b2 hE2 k02 k12 ho2 ho3 hq3 hF3 hB2 k0 k1 hb0 hEA
        go_simp
        go_wp2_with (go_at_call 141; refine (clipR_any _ _ _ hc3 hcap _).mono ?_; rintro e w4 ⟨rfl, rfl⟩)
        go_ret
        exact ⟨A3, c3, _, xs3, by rw [← HL3.out]; rfl, by rw [← HL3.out]; exact hT3, hB3⟩

end Go.Proofs.Ythepfpiphlfgnaa

/-
  YthepfpiphlfgnaaTe: all tilings of the reference.
-/
namespace Go.Proofs.Ythepfpiphlfgnaa
open Go.RowKit

/-- Rows, as a result; their base is given. -/
def RowsAt (b : Nat) (w : World) (n : Nat) (Ts : List (List Int)) (e : Ending) (w' : World) : Prop :=
  ∃ A c xs, e = .returned (.slice A Ts.length c) ∧ RowsOf w' b n (.slice A Ts.length c) xs Ts ∧ Below w.heap.size w w' ∧ ∀ k, (Value.slice A Ts.length c).ownBlock = some k → w.heap.size ≤ k

/-- Where the reference's search stands. -/
structure SW2 (w wr : World) (R : Reg) (A : Option Addr) (c b : Nat) (v : Value) (xs : List Value) (Ts : List (List Int)) (g c' : Nat) (L : List Int) : Prop where
  bel : Below w.heap.size w wr
  rows : RowsOf wr b R.C.length v xs Ts
  new : ∀ k, v.ownBlock = some k → w.heap.size ≤ k
  box : Blk wr w.heap.size 25 #[.int .i64 R.W, .int .i64 R.T, .slice A R.C.length c]
  own : wr.ownsRow b 3 1 (.slice (some ⟨g, 0, none⟩) R.C.length c') R.C.length (L.map (Value.int .i64))
section
variable {w wr w2 : World} {R : Reg} {A : Option Addr} {c b g c' : Nat} {v v' : Value} {xs xs' : List Value} {Ts Ts' : List (List Int)} {L : List Int}
theorem SW2.below (H : SW2 w wr R A c b v xs Ts g c' L) (hb : Below wr.heap.size wr w2) : SW2 w w2 R A c b v xs Ts g c' L :=
  ⟨H.bel.trans (hb.mono H.bel.size), H.rows.below hb, H.new, H.box.below hb H.box.lt, own_below H.own hb (Nat.le_refl _)⟩
theorem SW2.appN {v2 : Value} {xs2 : List Value} {Ts2 : List (List Int)} (H : SW2 w wr R A c b v xs Ts g c' L) (h2 : RowsOf wr b R.C.length v2 xs2 Ts2) (ho : w2.ownsRow b 26 1 v' (xs.length + xs2.length) (xs ++ xs2)) (hg : wr.grownBy w2 v.ownBlock) (hn : v'.ownBlock = v.ownBlock ∨ v'.ownBlock = some wr.heap.size) : SW2 w w2 R A c b v' (xs ++ xs2) (Ts ++ Ts2) g c' L := by
  refine ⟨H.bel.grown hg H.bel.size H.new, H.rows.appN h2 ho hg, fun k hk => ?_, H.box.grown hg (fun h => own_blk_ne H.rows.own H.box (by decide) h.symm), own_grown H.own hg (own_far H.own H.rows.own (by decide))⟩
  rcases hn with h | h
  · exact H.new k (by rw [← h]; exact hk)
  · rw [h] at hk
    have := H.bel.size
    simp at hk
    omega
end

set_option maxHeartbeats 1000000 in
set_option maxRecDepth 20000 in
theorem allS_none (R : Reg) (hR : R.ok) (A : Option Addr) (c B b : Nat) (hBb : B ≤ b) (L : List Int) (g c' d : Nat) (w : World) (hL : Lay R L) (hfn : fiV R L = none)
    (hr : Reads w B 1 A R.C.length (R.C.map Value.bool)) (hb : b ≤ w.heap.size) (ho : w.ownsRow b 3 1 (.slice (some ⟨g, 0, none⟩) R.C.length c') R.C.length (L.map (Value.int .i64))) :
    Calls Try.prog 148 #[.agg #[.int .i64 R.W, .int .i64 R.T, .slice A R.C.length c], .slice (some ⟨g, 0, none⟩) R.C.length d] w (RowsAt b w R.C.length [L]) := by
  have hW0 : SW2 w ((w.alloc (boxR R.W R.T A R.C.length c)).alloc (.cells #[] 26)) R A c b (.slice (some ⟨w.heap.size + 1, 0, none⟩) 0 0) [] [] g c' L := by
    refine ⟨((Below.refl _ _).alloc (Nat.le_refl _) _).alloc (by simp) _, ⟨?_, rfl, fun i x M h => by simp at h⟩, fun k hk => by simp [Value.ownBlock] at hk; omega, (Blk.new _ _ _).alloc _, (ho.alloc _).alloc _⟩
    have := World.ownsRow_made (base := b) (e := 26) (size := 1) (w.alloc (boxR R.W R.T A R.C.length c)) #[] 0 (by simp; omega) (by simp [maxLen]) (by simp)
    simpa using this
  have hFR := fun w' (h : Below w.heap.size w w') (hown : w'.ownsRow b 3 1 (.slice (some ⟨g, 0, none⟩) R.C.length c') R.C.length (L.map (Value.int .i64))) => hide (firstS_any R hR A c w'.heap.size L (some ⟨g, 0, none⟩) d hL.len w' ((hr.below (h.mono (Nat.le_trans hBb hb))).more (Nat.le_trans (Nat.le_trans hBb hb) h.size)) (Reads.of_own hown) (Nat.le_refl _))
  simp only [fiZ_none hfn] at hFR
  clear hfn hr ho
  go_enter Try.func148, Try.ntmps148
  go_upto_region 2 with fail
  generalize (w.alloc (boxR R.W R.T A R.C.length c)).alloc (.cells #[] 26) = w0 at *
  obtain ⟨b0, b1, b2⟩ := blk3 hW0.box
  go_wp2_with fail
  refine (unhide (hFR _ hW0.bel hW0.own)).mono ?_
  rintro e w1 ⟨rfl, hb1⟩
  have hW1 := hW0.below hb1
  clear hW0 hb1 b0 b1 b2 hFR
  go_wp2_with (at_builtin; refine wpList_app rfl _ _ _ rfl b 26 _ 24 Try.underlying74 info_ints rfl (by omega) (.slice (some ⟨w.heap.size + 1, 0, none⟩) 0 0) 0 [] rfl (hW1.rows.own.alloc _) w1.heap.size (.slice (some ⟨g, 0, none⟩) R.C.length d) rfl ?c1 rfl (by omega) ?c2 ?_)
  case c1 => simp
  case c2 => have := hW1.bel.size; simp; omega
  rintro g' cc' w2 hown hgr hgg hge _
  have hR2 := hW1.rows.app (x := .slice (some ⟨g, 0, none⟩) R.C.length d) (L := L) ⟨g, c', d, rfl, hW1.own⟩ hown hgr
  have hB2 := (hW1.bel.alloc hW1.bel.size (.cells #[.slice (some ⟨g, 0, none⟩) R.C.length d] 26)).grown hgr (by have := hW1.bel.size; simp; omega) hW1.new
  have hnew : ∀ k, (Value.slice (some ⟨g', 0, none⟩) 1 cc').ownBlock = some k → w.heap.size ≤ k := fun k hk => by
    simp [Value.ownBlock] at hk
    subst hk
    rcases hgg with h | h
    · exact hW1.new _ h.symm
    · have := hW1.bel.size
      have hz := World.size_alloc w1 (.cells #[.slice (some ⟨g, 0, none⟩) R.C.length d] 26)
      omega
  go_wp2_with fail
  go_ret
  exact ⟨_, cc', _, rfl, hR2, hB2, hnew⟩

set_option maxHeartbeats 4000000 in
set_option maxRecDepth 20000 in
theorem allS_any (R : Reg) (hR : R.ok) (A : Option Addr) (c B b : Nat) (hBb : B ≤ b) : ∀ (f : Nat) (L : List Int) (g c' d : Nat) (w : World) (_ : f ≤ 18) (_ : Lay R L) (_ : opN R L ≤ 2 * f)
    (_ : Reads w B 1 A R.C.length (R.C.map Value.bool)) (_ : b ≤ w.heap.size) (_ : w.ownsRow b 3 1 (.slice (some ⟨g, 0, none⟩) R.C.length c') R.C.length (L.map (Value.int .i64))),
    Calls Try.prog 148 #[.agg #[.int .i64 R.W, .int .i64 R.T, .slice A R.C.length c], .slice (some ⟨g, 0, none⟩) R.C.length d] w (RowsAt b w R.C.length (allT R f L)) := by
  intro f
  induction f with
  | zero =>
    intro L g c' d w _ hL hn hr hb ho
    have hfn := opN_zero (R := R) (L := L) (by omega)
    rw [allT_none hfn]
    exact allS_none R hR A c B b hBb L g c' d w hL hfn hr hb ho
  | succ f ih =>
    intro L g c' d w hf18 hL hn hr hb ho
    have hl36 := (len_bd hR).2
    have hl1 := (len_bd hR).1
    have hp18 : 2 ^ f ≤ 262144 := by
      have := Nat.pow_le_pow_right (n := 2) (by omega) (show f ≤ 18 by omega)
      simpa using this
    have hFI := hide (firstS_any R hR A c w.heap.size L (some ⟨g, 0, none⟩) d hL.len)
    have hW0 : SW2 w ((w.alloc (boxR R.W R.T A R.C.length c)).alloc (.cells #[] 26)) R A c b (.slice (some ⟨w.heap.size + 1, 0, none⟩) 0 0) [] [] g c' L := by
      refine ⟨((Below.refl _ _).alloc (Nat.le_refl _) _).alloc (by simp) _, ⟨?_, rfl, fun i x M h => by simp at h⟩, fun k hk => by simp [Value.ownBlock] at hk; omega, (Blk.new _ _ _).alloc _, (ho.alloc _).alloc _⟩
      have := World.ownsRow_made (base := b) (e := 26) (size := 1) (w.alloc (boxR R.W R.T A R.C.length c)) #[] 0 (by simp; omega) (by simp [maxLen]) (by simp)
      simpa using this
    have hFR := fun w' (h : Below w.heap.size w w') (hown : w'.ownsRow b 3 1 (.slice (some ⟨g, 0, none⟩) R.C.length c') R.C.length (L.map (Value.int .i64))) => hide (firstS_any R hR A c w'.heap.size L (some ⟨g, 0, none⟩) d hL.len w' ((hr.below (h.mono (Nat.le_trans hBb hb))).more (Nat.le_trans (Nat.le_trans hBb hb) h.size)) (Reads.of_own hown) (Nat.le_refl _))
    have hLO := fun (k : Nat) (hk : k < R.C.length) (way : Int) (hw : 1 ≤ way ∧ way ≤ 4) w' (h : Below w.heap.size w w') (hown : w'.ownsRow b 3 1 (.slice (some ⟨g, 0, none⟩) R.C.length c') R.C.length (L.map (Value.int .i64))) => hide (layOneS_any R hR A c w'.heap.size L (some ⟨g, 0, none⟩) d k hk way hw hL w' ((hr.below (h.mono (Nat.le_trans hBb hb))).more (Nat.le_trans (Nat.le_trans hBb hb) h.size)) (Reads.of_own hown) (Nat.le_refl _))
    have hIH := fun (k : Nat) (way : Int) (hw : way = 1 ∨ way = 2) (hf : frB R L k way = true) (w' : World) (g2 c2 d2 : Nat) (hb' : Below w.heap.size w w') (ho' : w'.ownsRow b 3 1 (.slice (some ⟨g2, 0, none⟩) R.C.length c2) R.C.length ((lyV R L k way).map (Value.int .i64))) =>
      hide (ih (lyV R L k way) g2 c2 d2 w' (by omega) (lay_lyV hR hL (by rcases hw with rfl | rfl <;> rfl) hf) (by have := opN_lay hR hL.len (by omega) hf; omega) (hr.below (hb'.mono (Nat.le_trans hBb hb))) (Nat.le_trans hb hb'.size) ho')
    clear ih hFI
    cases hfi : fiV R L with
    | none =>
      rw [allT_none hfi]
      exact allS_none R hR A c B b hBb L g c' d w hL hfi hr hb ho
    | some k =>
      have hklt := (fiV_some.1 hfi).1
      have HFI := Lib.hid (preT_two (f := f) hfi)
      simp only [fiZ_some hfi] at hFR
      have hneg : decide ((k : Int) < 0) = false := decide_eq_false (by omega)
      have hal := allT_len R f
      have HAL := Lib.hid hal
      clear hfi hr ho hal
      go_enter Try.func148, Try.ntmps148
      go_upto_region 2 with fail
      generalize (w.alloc (boxR R.W R.T A R.C.length c)).alloc (.cells #[] 26) = w0 at *
      obtain ⟨b0, b1, b2⟩ := blk3 hW0.box
      go_wp2_with fail
      refine (unhide (hFR _ hW0.bel hW0.own)).mono ?_
      rintro e w1 ⟨rfl, hb1⟩
      have hW1 := hW0.below hb1
      clear hW0 hb1 b0 b1 b2 hFR
      go_wp2_with fail
      go_loopg [5, 7] 2 (fun r s5 s7 wr => ∃ (j : Nat) (xs : List Value) (Ts : List (List Int)), j + r = 2 ∧ s7 = .int .i64 ((j : Int) + 1) ∧ Ts = preT R f L k j ∧ SW2 w wr R A c b s5 xs Ts g c' L)
      case atStart => exact ⟨0, _, _, by omega, rfl, rfl, hW1⟩
      case round =>
        clear hW1
        obtain ⟨j, xs, Ts, hj, rfl, rfl, hW⟩ := hrel
        have HJ := Lib.hid hj
        obtain ⟨b0, b1, b2⟩ := blk3 hW.box
        by_cases hj2 : j < 2
        · have hw : ((j : Int) + 1 = 1 ∨ (j : Int) + 1 = 2) := by omega
          have hLk := hLO k hklt ((j : Int) + 1) (by omega) _ hW.bel hW.own
          have hp1 : preT R f L k (j + 1) = preT R f L k j ++ (if frB R L k ((j : Int) + 1) = true then allT R f (lyV R L k ((j : Int) + 1)) else []) := rfl
          have HPL := Lib.hid (preT_len R f L k j (by omega))
          have hle2 : decide ((j : Int) + 1 ≤ 2) = true := decide_eq_true (by omega)
          cases hfb : frB R L k ((j : Int) + 1) with
          | false =>
            rw [hfb] at hLk hp1
            have HP1 := Lib.hid hp1
            clear hp1 hfb hIH
            go_wp2_with fail
            refine (unhide hLk).mono ?_
            rintro e w2 ⟨g2, c2, c3, rfl, ho2, hb2⟩
            have hW2 := hW.below hb2
            clear hW hb2 b0 b1 b2 hLk ho2
            go_wp2_with fail
            go_roundg (2 - (j + 1))
            case measure => have := HJ.out; omega
            case rel => exact ⟨j + 1, _, _, by have := HJ.out; omega, by go_num, rfl, by rw [HP1.out]; simpa using hW2⟩
          | true =>
            rw [hfb] at hLk hp1
            rw [if_pos rfl] at hp1 hLk
            have hI := fun w' g2 c2 d2 hb' ho' => hIH k ((j : Int) + 1) hw hfb w' g2 c2 d2 hb' ho'
            have HP1 := Lib.hid hp1
            clear hp1 hfb hIH
            go_wp2_with fail
            refine (unhide hLk).mono ?_
            rintro e w2 ⟨g2, c2, c3, rfl, ho2, hb2⟩
            have hW2 := hW.below hb2
            have hI2 := hI w2 g2 c3 c2 hW2.bel (own_mono ho2 (Nat.le_trans hb hW.bel.size))
            clear hW hb2 b0 b1 b2 hLk hI
            obtain ⟨b0, b1, b2⟩ := blk3 hW2.box
            go_wp2_with fail
            refine (unhide hI2).mono ?_
            rintro e w3 ⟨A4, c4, xs4, rfl, hR4, hb3, _⟩
            have hW3 := hW2.below hb3
            clear hW2 hb3 b0 b1 b2 hI2
            have HTL : Hid ((allT R f (lyV R L k ((j : Int) + 1))).length ≤ 262144) := Lib.hid (Nat.le_trans (HAL.out _) hp18)
            have HXL : Hid (xs.length ≤ 262144) := Lib.hid (by rw [hW3.rows.len]; exact Nat.le_trans HPL.out hp18)
            generalize allT R f (lyV R L k ((j : Int) + 1)) = TT at *
            have HL4 := Lib.hid hR4.len
            have ho4 := hR4.own
            rw [hR4.len] at ho4
            have hrd := Reads.of_own ho4
            have hone := hR4.one
            go_wp2_with (at_builtin; refine wpList_appN rfl _ _ _ rfl b 26 _ 24 Try.underlying74 info_ints rfl (by omega) _ xs.length xs rfl hW3.rows.own w3.heap.size A4 TT.length c4 xs4 rfl hrd hone (by have := HTL.out; have := HXL.out; omega) (Nat.le_trans hb hW3.bel.size) ?_; rintro v' w5 ho5 hg5 hn5)
            have hW5 := hW3.appN hR4 (by rw [HL4.out]; exact ho5) hg5 hn5
            clear hW3 ho5 hg5 hn5 ho4 hrd hone hR4
            go_wp2_with fail
            go_roundg (2 - (j + 1))
            case measure => have := HJ.out; omega
            case rel => exact ⟨j + 1, _, _, by have := HJ.out; omega, by go_num, rfl, by rw [HP1.out]; exact hW5⟩
        · obtain rfl : j = 2 := by omega
          rw [HFI.out] at hW
          have hle2 : decide (((2 : Nat) : Int) + 1 ≤ 2) = false := by decide
          obtain ⟨A5, c5, rfl, _, _⟩ := own_form hW.rows.own
          have HX := Lib.hid hW.rows.len
          go_wp2_with fail
          go_ret
          exact ⟨A5, c5, xs, by rw [← HX.out]; rfl, by rw [← HX.out]; exact hW.rows, hW.bel, by rw [← HX.out]; exact hW.new⟩

end Go.Proofs.Ythepfpiphlfgnaa

/-
  YthepfpiphlfgnaaTf: TilingsAll of the reference; HeightSum.
-/
namespace Go.Proofs.Ythepfpiphlfgnaa
open Go.RowKit

set_option maxHeartbeats 1000000 in
set_option maxRecDepth 20000 in
theorem tilingsAllS_ok (R : Reg) (hR : R.ok) (A : Option Addr) (c B : Nat) (w : World) (hr : Reads w B 1 A R.C.length (R.C.map Value.bool)) (hB : B ≤ w.heap.size) :
    Calls Try.prog 84 #[.agg #[.int .i64 R.W, .int .i64 R.T, .slice A R.C.length c]] w (RowsAt w.heap.size w R.C.length (tilT R)) := by
  have hl36 := (len_bd hR).2
  have HV := hide (validS_any R.W R.T A R.C.length c B R.C (w.alloc (boxR R.W R.T A R.C.length c)) (hr.alloc hB _) (by simp; omega) (by omega))
  rw [valid_of_ok hR] at HV
  have hLB := fun w' (h : Below w.heap.size w w') => hide (laidBareS_ok R hR A c B w' (hr.below (h.mono hB)) (Nat.le_trans hB h.size))
  have hAL : ∀ w' (g d : Nat), Below w.heap.size w w' → w'.ownsRow w.heap.size 3 1 (.slice (some ⟨g, 0, none⟩) R.C.length R.C.length) R.C.length ((List.replicate R.C.length (0 : Int)).map (Value.int .i64)) → Hid (Calls Try.prog 148 #[.agg #[.int .i64 R.W, .int .i64 R.T, .slice A R.C.length c], .slice (some ⟨g, 0, none⟩) R.C.length d] w' (RowsAt w.heap.size w' R.C.length (tilT R))) := fun w' g d h ho =>
    hide (allS_any R hR A c B w.heap.size hB 18 (bare R) g R.C.length d w' (Nat.le_refl _) (lay_bare hR) (opN_bare hR) (hr.below (h.mono hB)) h.size ho)
  clear hr
  generalize tilT R = TT at *
  go_enter Try.func84, Try.ntmps84
  go_wp2_with fail
  refine (unhide HV).mono ?_
  rintro e w1 ⟨rfl, hb1⟩
  obtain ⟨hB1, hk1, b0, b1, b2⟩ := box_keep hb1
  clear hb1 HV
  have hLB1 := hLB _ hB1.drew
  go_upto_region 3 with fail
  go_region_with
    (first
      | (go_at_call 131; (with_reducible refine (unhide hLB1).mono ?_); rintro e w2 ⟨g2, rfl, ho2, hb2⟩; have d0 := cell_kept (w := w1.drew) b0 hb2; have d1 := cell_kept (w := w1.drew) b1 hb2; have d2 := cell_kept (w := w1.drew) b2 hb2; have hB2 := hB1.drew.trans (hb2.mono hB1.drew.size); have ho3 := own_mono ho2 hB1.drew.size; have hA2 := hAL w2 g2 R.C.length hB2 ho3)
      | (go_at_call 148; (with_reducible refine (unhide hA2).mono ?_); rintro e w3 ⟨A3, c3, xs3, rfl, hR3, hb3, hn3⟩))
  all_goals
    have hB3 := hB2.trans (hb3.mono hB2.size)
    clear hLB hAL hLB1 hA2 d0 d1 d2 b0 b1 b2 ho2 ho3 hb2 hB1
    go_wp2_with fail
    go_ret
    exact ⟨A3, c3, xs3, rfl, hR3, hB3, fun k hk => Nat.le_trans hB2.size (hn3 k hk)⟩

/-- The sum of a corner's heights over tilings. -/
noncomputable def hAt (R : Reg) (k : Nat) (M : List Int) : Int := if (htsOf R.W R.T R.C M).getD k 0 = 99 then 0 else (htsOf R.W R.T R.C M).getD k 0
noncomputable def hsTo (R : Reg) (k n : Nat) : Int := (((tilT R).take n).map (hAt R k)).sum
theorem hsTo_succ {R : Reg} {k n : Nat} {M : List Int} (h : (tilT R)[n]? = some M) : hsTo R k (n + 1) = hsTo R k n + hAt R k M := by
  unfold hsTo
  rw [List.take_add_one, h, List.map_append, List.sum_append]
  simp
theorem hAt_bd (R : Reg) (k : Nat) (M : List Int) : -51 ≤ hAt R k M ∧ hAt R k M ≤ 99 := by
  unfold hAt
  split
  · omega
  · by_cases hk : k < (htsOf R.W R.T R.C M).length
    · exact htsOf_bd _ (by rw [List.getD_eq_getElem?_getD, List.getElem?_eq_getElem hk]; exact List.getElem_mem hk)
    · rw [List.getD_eq_getElem?_getD, List.getElem?_eq_none (by omega)]; simp
theorem hsTo_bd (R : Reg) (k : Nat) : ∀ n : Nat, -51 * (n : Int) ≤ hsTo R k n ∧ hsTo R k n ≤ 99 * (n : Int)
  | 0 => by simp [hsTo]
  | n + 1 => by
    have ih := hsTo_bd R k n
    cases h : (tilT R)[n]? with
    | none =>
      have : hsTo R k (n + 1) = hsTo R k n := by unfold hsTo; rw [List.take_add_one, h]; simp
      omega
    | some M =>
      rw [hsTo_succ h]
      have := hAt_bd R k M
      omega
noncomputable def hsmV (W T : Int) (bs : List Bool) (k : Int) : Int := if simpleB W T bs = true ∧ inB k 0 (cornersB W T bs - 1) = true then hsTo ⟨W.toNat, T.toNat, bs⟩ k.toNat (tilT ⟨W.toNat, T.toNat, bs⟩).length else -1000000

set_option maxHeartbeats 2000000 in
set_option maxRecDepth 20000 in
theorem heightSumI_ok (R : Reg) (hR : R.ok) (hS : SimpleP R) (hs : simpleB R.W R.T R.C = true) (A : Option Addr) (c B : Nat) (q : Nat) (hq : q < R.cn) (w : World) (hr : Reads w B 1 A R.C.length (R.C.map Value.bool)) (hB : B ≤ w.heap.size) :
    Calls Try.prog 28 #[.agg #[.int .i64 R.W, .int .i64 R.T, .slice A R.C.length c], .int .i64 (q : Nat)] w fun e w' => e = .returned (.int .i64 (hsTo R q (tilT R).length)) ∧ Below w.heap.size w w' := by
  have hl36 := (len_bd hR).2
  have hl1 := (len_bd hR).1
  have hcn := cn_bd hR
  have hSI := fun w' (h : Below w.heap.size w w') => hide (SimpleI_any R.W R.T A R.C.length c B R.C w' (hr.below (h.mono hB)) (Nat.le_trans hB h.size) (by omega))
  simp only [hs] at hSI
  have hCO := fun w' => hide (cornersN_any R hR A R.C.length c w')
  have I1 : inB (q : Int) 0 ((R.cn : Int) - 1) = true := inB_t (by omega)
  have hTI := fun w' (h : Below w.heap.size w w') => hide (tilings_any R hR A c B w' (hr.below (h.mono hB)) (Nat.le_trans hB h.size))
  have hHT : ∀ (M : List Int) (g d : Nat) w', Tile R M → Below w.heap.size w w' → Reads w' w'.heap.size 1 (some ⟨g, 0, none⟩) R.C.length (M.map (Value.int .i64)) → Hid (Calls Try.prog 80 #[.agg #[.int .i64 R.W, .int .i64 R.T, .slice A R.C.length c], .slice (some ⟨g, 0, none⟩) R.C.length d] w' fun e w'' => ∃ g2, e = .returned (.slice (some ⟨g2, 0, none⟩) R.cn R.cn) ∧ w''.cell? ⟨g2, q, none⟩ = some (.int .i64 ((htsOf R.W R.T R.C M).getD q 0)) ∧ Below w'.heap.size w' w'') := fun M g d w' hM h ha => by
    have hH := hts_of_tile hR hS hM
    have := heights_any R hR hS A c w'.heap.size M (some ⟨g, 0, none⟩) d hM.1 hM.2 _ hH w' ((hr.below (h.mono hB)).more (Nat.le_trans hB h.size)) (by rw [hM.1.len]; exact ha) (Nat.le_refl _)
    rw [hM.1.len] at this
    refine hide (this.mono ?_)
    rintro e w'' ⟨g2, rfl, ho, hb⟩
    rw [hH.len] at ho ⊢
    exact ⟨g2, rfl, by rw [ho.cellAt q (by omega), List.getElem?_map, List.getD_eq_getElem?_getD, List.getElem?_eq_getElem (by rw [hH.len]; exact hq)]; rfl, hb⟩
  have hTl : ∀ (k : Nat) (M : List Int), (tilT R)[k]? = some M → Tile R M := fun k M h => (tilT_iff hR).1 (List.mem_of_getElem? h)
  have HTL := Lib.hid hTl
  have hsu := fun n M h => hsTo_succ (R := R) (k := q) (n := n) (M := M) h
  have HSU := Lib.hid hsu
  have hbd := fun n => hsTo_bd R q n
  have HBD := Lib.hid hbd
  have hat : ∀ M, hAt R q M = if (htsOf R.W R.T R.C M).getD q 0 = 99 then 0 else (htsOf R.W R.T R.C M).getD q 0 := fun _ => rfl
  have HAT := Lib.hid hat
  have hbA := fun M => hAt_bd R q M
  have HBA := Lib.hid hbA
  have hnl := tilT_len R
  have HNL := Lib.hid hnl
  have hb0 : Below w.heap.size w (w.alloc (boxR R.W R.T A R.C.length c)) := (Below.refl _ _).alloc (Nat.le_refl _) _
  have k0 : Blk (w.alloc (boxR R.W R.T A R.C.length c)) w.heap.size 25 #[.int .i64 R.W, .int .i64 R.T, .slice A R.C.length c] := Blk.new _ _ _
  clear hTl hsu hbd hat hnl hbA hr hs
  generalize tilT R = TT at *
  go_enter Try.func28, Try.ntmps28
  go_wp2_with fail
  refine (unhide (hSI _ hb0)).mono ?_
  rintro e w1 ⟨rfl, hb1⟩
  have hB1 := hb0.trans (hb1.mono hb0.size)
  have k1 := k0.below hb1 k0.lt
  obtain ⟨b0, b1, b2⟩ := blk3 k1
  clear k0 hb0 hb1 hSI
  go_wp2_with fail
  refine (unhide (hCO _)).mono ?_
  rintro e w2 ⟨rfl, hb2⟩
  have hB2 := hB1.trans (hb2.mono hB1.size)
  have k2 := k1.below hb2 k1.lt
  clear b0 b1 b2 k1 hb2 hB1 hCO
  obtain ⟨b0, b1, b2⟩ := blk3 k2
  go_wp2_with (go_at_call 74; refine (in_any _ _ _ _).mono ?_; rintro e w' ⟨rfl, rfl⟩; rw [I1])
  refine (unhide (hTI _ hB2)).mono ?_
  rintro e w3 ⟨A3, c3, c3', xs, rfl, hR3, hb3⟩
  have hB3 := hB2.trans (hb3.mono hB2.size)
  have k3 := k2.below hb3 k2.lt
  have hR3' := hR3.mono (b' := 0) (by omega)
  clear b0 b1 b2 k2 hb3 hB2 hTI hR3
  go_wp2_with fail
  go_loopg [5, 23] TT.length (fun r s5 s23 wr => ∃ k : Nat, k + r = TT.length ∧ s23 = .int .i64 (k : Nat) ∧ s5 = .int .i64 (hsTo R q k) ∧ Below w.heap.size w wr ∧ Blk wr w.heap.size 25 #[.int .i64 R.W, .int .i64 R.T, .slice A R.C.length c] ∧ RowsOf wr 0 R.C.length (.slice A3 TT.length c3) xs TT)
  case atStart => exact ⟨0, by omega, rfl, by simp [hsTo], hB3, k3, hR3'⟩
  case round =>
    clear hR3' k3 hB3
    obtain ⟨k, hk, rfl, rfl, hB, hbk, hrow⟩ := hrel
    have HK := Lib.hid hk
    clear hk
    have hbdk := HBD.out k
    by_cases hlt : k < TT.length
    · obtain ⟨x, M, hx, hM, hin⟩ := hrow.at_ hlt
      obtain ⟨gx, cx, rfl, hrx⟩ := hin.reads
      have hTM := HTL.out k M hM
      have hown := hrow.own
      rw [hrow.len] at hown
      have hxl := (List.getElem?_eq_some_iff.1 hx).1
      obtain ⟨g3, cg3, hsh3, _, _, _⟩ := own_shape hown (by omega)
      simp only [Value.slice.injEq, true_and] at hsh3
      obtain ⟨rfl, rfl⟩ := hsh3
      have hxc : wr.cell? ⟨g3, k, none⟩ = some (.slice (some ⟨gx, 0, none⟩) R.C.length cx) := by rw [hown.cellAt k (by omega)]; exact hx
      have hHk := hHT M gx cx wr hTM hB hrx
      have hs1 := HSU.out k M hM
      have hat1 := HAT.out M
      have hba1 := HBA.out M
      rw [hat1] at hs1 hba1
      have hbdk1 := HBD.out (k + 1)
      have HS1 := Lib.hid hs1
      have hnl := HNL.out
      generalize (htsOf R.W R.T R.C M).getD q 0 = h at *
      obtain ⟨b0, b1, b2⟩ := blk3 hbk
      clear hat1 hs1 hM hx hown hxl hin hrx hTM
      go_wp2_with fail
      refine (unhide hHk).mono ?_
      rintro e w4 ⟨g4, rfl, hc4, hb4⟩
      have hB4 := hB.trans (hb4.mono hB.size)
      have k4 := hbk.below hb4 hbk.lt
      have hrow4 := hrow.below hb4
      clear b0 b1 b2 hxc hB hbk hrow hb4 hHk
      by_cases h99 : h = 99
      · subst h99
        have HE : Hid (hsTo R q (k + 1) = hsTo R q k) := Lib.hid (by have e := HS1.out; rw [if_pos rfl] at e; omega)
        clear HS1 hba1
        go_wp2_with fail
        go_roundg (TT.length - (k + 1))
        case measure => have := HK.out; omega
        case rel => exact ⟨k + 1, by have := HK.out; omega, by go_num, by rw [HE.out], hB4, k4, hrow4⟩
      · have hne : (h != 99) = true := by simpa using h99
        have HE : Hid (hsTo R q (k + 1) = hsTo R q k + h) := Lib.hid (by rw [HS1.out, if_neg h99])
        rw [if_neg h99] at hba1
        have hw := IntWalk.wrap64_in (hsTo R q k + h) (by omega)
        clear HS1 h99
        go_wp2_with fail
        go_roundg (TT.length - (k + 1))
        case measure => have := HK.out; omega
        case rel => exact ⟨k + 1, by have := HK.out; omega, by go_num, congrArg (Value.int .i64) (by rw [HE.out]), hB4, k4, hrow4⟩
    · obtain rfl : k = TT.length := by have := HK.out; omega
      go_wp2_with fail
      go_ret
      exact ⟨rfl, hB⟩


set_option maxHeartbeats 2000000 in
set_option maxRecDepth 20000 in
theorem heightSumS_ok (R : Reg) (hR : R.ok) (hS : SimpleP R) (hs : simpleB R.W R.T R.C = true) (A : Option Addr) (c B : Nat) (q : Nat) (hq : q < R.cn) (w : World) (hr : Reads w B 1 A R.C.length (R.C.map Value.bool)) (hB : B ≤ w.heap.size) :
    Calls Try.prog 29 #[.agg #[.int .i64 R.W, .int .i64 R.T, .slice A R.C.length c], .int .i64 (q : Nat)] w fun e w' => e = .returned (.int .i64 (hsTo R q (tilT R).length)) ∧ Below w.heap.size w w' := by
  have hl36 := (len_bd hR).2
  have hl1 := (len_bd hR).1
  have hcn := cn_bd hR
  have hSI := fun w' (h : Below w.heap.size w w') => hide (SimpleS_any R.W R.T A R.C.length c B R.C w' (hr.below (h.mono hB)) (Nat.le_trans hB h.size) (by omega))
  simp only [hs] at hSI
  have hCO := fun w' (h : Below w.heap.size w w') => hide (cornerManySN_ok R hR A c B w' (hr.below (h.mono hB)) (Nat.le_trans hB h.size))
  have I1 : inB (q : Int) 0 ((R.cn : Int) - 1) = true := inB_t (by omega)
  have hTI := fun w' (h : Below w.heap.size w w') => hide (tilingsAllS_ok R hR A c B w' (hr.below (h.mono hB)) (Nat.le_trans hB h.size))
  have hHT : ∀ (M : List Int) (g d : Nat) w', Tile R M → Below w.heap.size w w' → Reads w' w'.heap.size 1 (some ⟨g, 0, none⟩) R.C.length (M.map (Value.int .i64)) → Hid (Calls Try.prog 69 #[.agg #[.int .i64 R.W, .int .i64 R.T, .slice A R.C.length c], .slice (some ⟨g, 0, none⟩) R.C.length d] w' fun e w'' => ∃ g2 c2, e = .returned (.slice (some ⟨g2, 0, none⟩) R.cn c2) ∧ w''.cell? ⟨g2, q, none⟩ = some (.int .i64 ((htsOf R.W R.T R.C M).getD q 0)) ∧ Below w'.heap.size w' w'') := fun M g d w' hM h ha => by
    have hH := hts_of_tile hR hS hM
    refine hide ((heightsOfS_any R.W R.T A R.C.length c w'.heap.size R.C M (some ⟨g, 0, none⟩) R.C.length d w' rfl hM.1.len ((hr.below (h.mono hB)).more (Nat.le_trans hB h.size)) ha (Nat.le_refl _) (by omega) (by omega)).mono ?_)
    rintro e w'' h'
    obtain ⟨A1, c1, c2, rfl, ho, hb⟩ := ret_own h'
    rw [hH.len] at ho ⊢
    obtain ⟨g2, cg, hsh, _, _, _⟩ := own_shape ho (by omega)
    simp only [Value.slice.injEq, true_and] at hsh
    obtain ⟨rfl, rfl⟩ := hsh
    exact ⟨g2, _, rfl, by rw [ho.cellAt q (by omega), List.getElem?_map, List.getD_eq_getElem?_getD, List.getElem?_eq_getElem (by rw [hH.len]; exact hq)]; rfl, hb⟩
  have hTl : ∀ (k : Nat) (M : List Int), (tilT R)[k]? = some M → Tile R M := fun k M h => (tilT_iff hR).1 (List.mem_of_getElem? h)
  have HTL := Lib.hid hTl
  have hsu := fun n M h => hsTo_succ (R := R) (k := q) (n := n) (M := M) h
  have HSU := Lib.hid hsu
  have hbd := fun n => hsTo_bd R q n
  have HBD := Lib.hid hbd
  have hat : ∀ M, hAt R q M = if (htsOf R.W R.T R.C M).getD q 0 = 99 then 0 else (htsOf R.W R.T R.C M).getD q 0 := fun _ => rfl
  have HAT := Lib.hid hat
  have hbA := fun M => hAt_bd R q M
  have HBA := Lib.hid hbA
  have hnl := tilT_len R
  have HNL := Lib.hid hnl
  have hb0 : Below w.heap.size w (w.alloc (boxR R.W R.T A R.C.length c)) := (Below.refl _ _).alloc (Nat.le_refl _) _
  have k0 : Blk (w.alloc (boxR R.W R.T A R.C.length c)) w.heap.size 25 #[.int .i64 R.W, .int .i64 R.T, .slice A R.C.length c] := Blk.new _ _ _
  clear hTl hsu hbd hat hnl hbA hr hs
  generalize tilT R = TT at *
  go_enter Try.func29, Try.ntmps29
  go_wp2_with fail
  refine (unhide (hSI _ hb0)).mono ?_
  rintro e w1 ⟨rfl, hb1⟩
  have hB1 := hb0.trans (hb1.mono hb0.size)
  have k1 := k0.below hb1 k0.lt
  obtain ⟨b0, b1, b2⟩ := blk3 k1
  clear k0 hb0 hb1 hSI
  go_wp2_with fail
  refine (unhide (hCO _ hB1)).mono ?_
  rintro e w2 ⟨rfl, hb2⟩
  have hB2 := hB1.trans (hb2.mono hB1.size)
  have k2 := k1.below hb2 k1.lt
  clear b0 b1 b2 k1 hb2 hB1 hCO
  obtain ⟨b0, b1, b2⟩ := blk3 k2
  go_wp2_with (go_at_call 91; refine (l1In_any _ _ _ _).mono ?_; rintro e w' ⟨rfl, rfl⟩; rw [I1])
  refine (unhide (hTI _ hB2)).mono ?_
  rintro e w3 ⟨A3, c3, xs, rfl, hR3, hb3, _⟩
  have hB3 := hB2.trans (hb3.mono hB2.size)
  have k3 := k2.below hb3 k2.lt
  have hR3' := hR3.mono (b' := 0) (by omega)
  clear b0 b1 b2 k2 hb3 hB2 hTI hR3
  go_wp2_with fail
  go_loopg [5, 7] TT.length (fun r s5 s7 wr => ∃ k : Nat, k + r = TT.length ∧ s7 = .int .i64 (k : Nat) ∧ s5 = .int .i64 (hsTo R q k) ∧ Below w.heap.size w wr ∧ Blk wr w.heap.size 25 #[.int .i64 R.W, .int .i64 R.T, .slice A R.C.length c] ∧ RowsOf wr 0 R.C.length (.slice A3 TT.length c3) xs TT)
  case atStart => exact ⟨0, by omega, rfl, by simp [hsTo], hB3, k3, hR3'⟩
  case round =>
    clear hR3' k3 hB3
    obtain ⟨k, hk, rfl, rfl, hB, hbk, hrow⟩ := hrel
    have HK := Lib.hid hk
    clear hk
    have hbdk := HBD.out k
    by_cases hlt : k < TT.length
    · obtain ⟨x, M, hx, hM, hin⟩ := hrow.at_ hlt
      obtain ⟨gx, cx, rfl, hrx⟩ := hin.reads
      have hTM := HTL.out k M hM
      have hown := hrow.own
      rw [hrow.len] at hown
      have hxl := (List.getElem?_eq_some_iff.1 hx).1
      obtain ⟨g3, cg3, hsh3, _, _, _⟩ := own_shape hown (by omega)
      simp only [Value.slice.injEq, true_and] at hsh3
      obtain ⟨rfl, rfl⟩ := hsh3
      have hxc : wr.cell? ⟨g3, k, none⟩ = some (.slice (some ⟨gx, 0, none⟩) R.C.length cx) := by rw [hown.cellAt k (by omega)]; exact hx
      have hHk := hHT M gx cx wr.drew hTM hB.drew hrx
      have hs1 := HSU.out k M hM
      have hat1 := HAT.out M
      have hba1 := HBA.out M
      rw [hat1] at hs1 hba1
      have hbdk1 := HBD.out (k + 1)
      have HS1 := Lib.hid hs1
      have hnl := HNL.out
      generalize (htsOf R.W R.T R.C M).getD q 0 = h at *
      obtain ⟨b0, b1, b2⟩ := blk3 hbk
      clear hat1 hs1 hM hx hown hxl hin hrx hTM
      go_upto_region 8 with fail
      go_region_with
        (first
          | (go_at_call 69; (with_reducible refine (unhide hHk).mono ?_); rintro e w4 ⟨g4, c4, rfl, hc4, hb4⟩))
      all_goals
        have hB4 := hB.drew.trans (hb4.mono hB.drew.size)
        have k4 := hbk.drew.below hb4 hbk.drew.lt
        have hrow4 := (hrow.below (Below.refl wr.heap.size wr).drew).below hb4
        clear b0 b1 b2 hxc hB hbk hrow hb4 hHk
        by_cases h99 : h = 99
        · subst h99
          have HE : Hid (hsTo R q (k + 1) = hsTo R q k) := Lib.hid (by have e := HS1.out; rw [if_pos rfl] at e; omega)
          clear HS1 hba1
          go_wp2_with fail
          go_roundg (TT.length - (k + 1))
          case measure => have := HK.out; omega
          case rel => exact ⟨k + 1, by have := HK.out; omega, by go_num, by rw [HE.out], hB4, k4, hrow4⟩
        · have hne : (h != 99) = true := by simpa using h99
          have HE : Hid (hsTo R q (k + 1) = hsTo R q k + h) := Lib.hid (by rw [HS1.out, if_neg h99])
          rw [if_neg h99] at hba1
          have hw := IntWalk.wrap64_in (hsTo R q k + h) (by omega)
          clear HS1 h99
          go_wp2_with fail
          go_roundg (TT.length - (k + 1))
          case measure => have := HK.out; omega
          case rel => exact ⟨k + 1, by have := HK.out; omega, by go_num, congrArg (Value.int .i64) (by rw [HE.out]), hB4, k4, hrow4⟩
    · obtain rfl : k = TT.length := by have := HK.out; omega
      go_wp2_with fail
      go_ret
      exact ⟨rfl, hB⟩

theorem simple_cases {W T : Int} {bs : List Bool} (h : simpleB W T bs = true) : ∃ R : Reg, R.ok ∧ W = (R.W : Int) ∧ T = (R.T : Int) ∧ bs = R.C ∧ SimpleP R := by
  have hv : validB W T bs = true := by
    cases hv : validB W T bs with
    | true => rfl
    | false => rw [simpleB_no hv] at h; cases h
  obtain ⟨R, hR, rfl, rfl, rfl⟩ := reg_of_valid hv
  exact ⟨R, hR, rfl, rfl, rfl, (simple_of hR).1 h⟩
theorem hsmV_no {W T : Int} {bs : List Bool} {k : Int} (h : ¬ (simpleB W T bs = true ∧ inB k 0 (cornersB W T bs - 1) = true)) : hsmV W T bs k = -1000000 := by unfold hsmV; exact if_neg h
theorem hsmV_yes {R : Reg} {k : Int} (h : simpleB R.W R.T R.C = true) (g : inB k 0 (cornersB R.W R.T R.C - 1) = true) : hsmV R.W R.T R.C k = hsTo R k.toNat (tilT R).length := by unfold hsmV; rw [if_pos ⟨h, g⟩]; rfl

theorem heightSumI_any (W T : Int) (A : Option Addr) (n c B : Nat) (bs : List Bool) (k : Int) (w : World) (hbl : bs.length = n) (hr : Reads w B 1 A n (bs.map Value.bool)) (hB : B ≤ w.heap.size) (hn : n ≤ 9223372036854775807) :
    Calls Try.prog 28 #[.agg #[.int .i64 W, .int .i64 T, .slice A n c], .int .i64 k] w fun e w' => e = .returned (.int .i64 (hsmV W T bs k)) ∧ Below w.heap.size w w' := by
  have hb0 : Below w.heap.size w (w.alloc (boxR W T A n c)) := (Below.refl _ _).alloc (Nat.le_refl _) _
  have k0 : Blk (w.alloc (boxR W T A n c)) w.heap.size 25 #[.int .i64 W, .int .i64 T, .slice A n c] := Blk.new _ _ _
  have hSI := hide (SimpleI_any W T A n c B bs _ (hr.below (hb0.mono hB)) (Nat.le_trans hB hb0.size) hn)
  cases hs : simpleB W T bs with
  | false =>
    rw [hs] at hSI
    rw [hsmV_no (by rw [hs]; simp)]
    clear hs k0
    go_enter Try.func28, Try.ntmps28
    go_wp2_with fail
    refine (unhide hSI).mono ?_
    rintro e w1 ⟨rfl, hb1⟩
    go_wp2_with fail
    go_ret
    exact ⟨rfl, hb0.trans (hb1.mono hb0.size)⟩
  | true =>
    obtain ⟨R, hR, rfl, rfl, rfl, hS⟩ := simple_cases hs
    subst hbl
    have hcn := cn_bd hR
    cases hin : inB k 0 (cornersB R.W R.T R.C - 1) with
    | true =>
      rw [hsmV_yes hs hin]
      rw [cornersB_ok hR, show R.corners = R.cn from rfl] at hin
      unfold inB at hin
      rw [decide_eq_true_eq] at hin
      obtain ⟨q, rfl⟩ := Int.eq_ofNat_of_zero_le hin.1
      exact heightSumI_ok R hR hS hs A c B q (by omega) w hr hB
    | false =>
      rw [hsmV_no (by rw [hin]; simp)]
      rw [hs] at hSI
      rw [cornersB_ok hR, show R.corners = R.cn from rfl] at hin
      have HIN := Lib.hid hin
      have hCO := fun w' => hide (cornersN_any R hR A R.C.length c w')
      clear hs hin hS
      go_enter Try.func28, Try.ntmps28
      go_wp2_with fail
      refine (unhide hSI).mono ?_
      rintro e w1 ⟨rfl, hb1⟩
      have hB1 := hb0.trans (hb1.mono hb0.size)
      obtain ⟨b0, b1, b2⟩ := blk3 (k0.below hb1 k0.lt)
      clear k0 hb0 hb1 hSI
      go_wp2_with fail
      refine (unhide (hCO _)).mono ?_
      rintro e w2 ⟨rfl, hb2⟩
      go_wp2_with (go_at_call 74; refine (in_any _ _ _ _).mono ?_; rintro e w' ⟨rfl, rfl⟩; rw [HIN.out])
      go_ret
      exact ⟨rfl, hB1.trans (hb2.mono hB1.size)⟩

theorem heightSumS_any (W T : Int) (A : Option Addr) (n c B : Nat) (bs : List Bool) (k : Int) (w : World) (hbl : bs.length = n) (hr : Reads w B 1 A n (bs.map Value.bool)) (hB : B ≤ w.heap.size) (hn : n ≤ 9223372036854775807) :
    Calls Try.prog 29 #[.agg #[.int .i64 W, .int .i64 T, .slice A n c], .int .i64 k] w fun e w' => e = .returned (.int .i64 (hsmV W T bs k)) ∧ Below w.heap.size w w' := by
  have hb0 : Below w.heap.size w (w.alloc (boxR W T A n c)) := (Below.refl _ _).alloc (Nat.le_refl _) _
  have k0 : Blk (w.alloc (boxR W T A n c)) w.heap.size 25 #[.int .i64 W, .int .i64 T, .slice A n c] := Blk.new _ _ _
  have hSI := hide (SimpleS_any W T A n c B bs _ (hr.below (hb0.mono hB)) (Nat.le_trans hB hb0.size) hn)
  cases hs : simpleB W T bs with
  | false =>
    rw [hs] at hSI
    rw [hsmV_no (by rw [hs]; simp)]
    clear hs k0
    go_enter Try.func29, Try.ntmps29
    go_wp2_with fail
    refine (unhide hSI).mono ?_
    rintro e w1 ⟨rfl, hb1⟩
    go_wp2_with fail
    go_ret
    exact ⟨rfl, hb0.trans (hb1.mono hb0.size)⟩
  | true =>
    obtain ⟨R, hR, rfl, rfl, rfl, hS⟩ := simple_cases hs
    subst hbl
    have hcn := cn_bd hR
    cases hin : inB k 0 (cornersB R.W R.T R.C - 1) with
    | true =>
      rw [hsmV_yes hs hin]
      rw [cornersB_ok hR, show R.corners = R.cn from rfl] at hin
      unfold inB at hin
      rw [decide_eq_true_eq] at hin
      obtain ⟨q, rfl⟩ := Int.eq_ofNat_of_zero_le hin.1
      exact heightSumS_ok R hR hS hs A c B q (by omega) w hr hB
    | false =>
      rw [hsmV_no (by rw [hin]; simp)]
      rw [hs] at hSI
      rw [cornersB_ok hR, show R.corners = R.cn from rfl] at hin
      have HIN := Lib.hid hin
      have hCO := fun w' (h : Below w.heap.size w w') => hide (cornerManySN_ok R hR A c B w' (hr.below (h.mono hB)) (Nat.le_trans hB h.size))
      clear hs hin hS
      go_enter Try.func29, Try.ntmps29
      go_wp2_with fail
      refine (unhide hSI).mono ?_
      rintro e w1 ⟨rfl, hb1⟩
      have hB1 := hb0.trans (hb1.mono hb0.size)
      obtain ⟨b0, b1, b2⟩ := blk3 (k0.below hb1 k0.lt)
      clear k0 hb0 hb1 hSI
      go_wp2_with fail
      refine (unhide (hCO _ hB1)).mono ?_
      rintro e w2 ⟨rfl, hb2⟩
      go_wp2_with (go_at_call 91; refine (l1In_any _ _ _ _).mono ?_; rintro e w' ⟨rfl, rfl⟩; rw [HIN.out])
      go_ret
      exact ⟨rfl, hB1.trans (hb2.mono hB1.size)⟩

end Go.Proofs.Ythepfpiphlfgnaa

/-
  YthepfpiphlfgnaaTg: Lowest and Highest: the program.
-/
namespace Go.Proofs.Ythepfpiphlfgnaa
open Go.RowKit

/-- Heights picked of those of the first tilings. -/
noncomputable def exH (f : Int → Int → Int) (R : Reg) (H : List Int) (Ts : List (List Int)) : List Int := Ts.foldl (fun H M => List.zipWith f H (htsOf R.W R.T R.C M)) H
theorem exH_succ {f : Int → Int → Int} {R : Reg} {H : List Int} {Ts : List (List Int)} {n : Nat} {M : List Int} (h : Ts[n]? = some M) : exH f R H (Ts.take (n + 1)) = List.zipWith f (exH f R H (Ts.take n)) (htsOf R.W R.T R.C M) := by
  unfold exH
  rw [List.take_add_one, h, List.foldl_append]
  rfl
theorem exH_hp {f : Int → Int → Int} (hf : Keeps f) {R : Reg} (hR : R.ok) (hS : SimpleP R) : ∀ {Ts : List (List Int)} {H : List Int}, HP R H → (∀ M ∈ Ts, Tile R M) → HP R (exH f R H Ts)
  | [], _, h, _ => h
  | M :: Ts, H, h, hT => exH_hp (Ts := Ts) hf hR hS (hf hR hS.1 h (hp_of_tile hR hS (hT M (by simp)))) (fun N hN => hT N (by simp [hN]))
noncomputable def exV (f : Int → Int → Int) (W T : Int) (bs : List Bool) : List Int :=
  if simpleB W T bs = true ∧ tilT ⟨W.toNat, T.toNat, bs⟩ ≠ [] then tilH ⟨W.toNat, T.toNat, bs⟩ (exH f ⟨W.toNat, T.toNat, bs⟩ (htsOf W T bs ((tilT ⟨W.toNat, T.toNat, bs⟩).headD [])) (tilT ⟨W.toNat, T.toNat, bs⟩)) else []
noncomputable def exB (W T : Int) (bs : List Bool) : Bool := simpleB W T bs && !(tilT ⟨W.toNat, T.toNat, bs⟩).isEmpty
theorem exV_no {f : Int → Int → Int} {W T : Int} {bs : List Bool} (h : ¬ (simpleB W T bs = true ∧ tilT ⟨W.toNat, T.toNat, bs⟩ ≠ [])) : exV f W T bs = [] ∧ exB W T bs = false := by
  refine ⟨by unfold exV; exact if_neg h, ?_⟩
  unfold exB
  cases hs : simpleB W T bs with
  | false => rfl
  | true =>
    have : tilT ⟨W.toNat, T.toNat, bs⟩ = [] := Classical.byContradiction fun hx => h ⟨hs, hx⟩
    rw [this]; rfl
theorem exV_yes {f : Int → Int → Int} {R : Reg} (h : simpleB R.W R.T R.C = true) (g : tilT R ≠ []) : exV f R.W R.T R.C = tilH R (exH f R (htsOf R.W R.T R.C ((tilT R).headD [])) (tilT R)) ∧ exB R.W R.T R.C = true := by
  refine ⟨by unfold exV; rw [if_pos ⟨h, g⟩]; rfl, ?_⟩
  have e : (tilT ⟨(R.W : Int).toNat, (R.T : Int).toNat, R.C⟩).isEmpty = false := by
    have : tilT ⟨(R.W : Int).toNat, (R.T : Int).toNat, R.C⟩ = tilT R := rfl
    rw [this]
    cases hx : tilT R with
    | nil => exact absurd hx g
    | cons => rfl
  unfold exB
  rw [h, e]
  rfl

set_option maxHeartbeats 4000000 in
set_option maxRecDepth 20000 in
theorem extreme_ok (fv : Value) (f : Int → Int → Int) (hpk0 : PickAny fv f) (hf : Keeps f) (R : Reg) (hR : R.ok) (hS : SimpleP R) (hs : simpleB R.W R.T R.C = true) (hne : tilT R ≠ []) (A : Option Addr) (c B : Nat) (w : World) (hr : Reads w B 1 A R.C.length (R.C.map Value.bool)) (hB : B ≤ w.heap.size) :
    Calls Try.prog 83 #[.agg #[.int .i64 R.W, .int .i64 R.T, .slice A R.C.length c], fv] w (RetIB w (tilH R (exH f R (htsOf R.W R.T R.C ((tilT R).headD [])) (tilT R))) true) := by
  have hl36 := (len_bd hR).2
  have hl1 := (len_bd hR).1
  have hcn := cn_bd hR
  have HPK := Lib.hid hpk0
  clear hpk0
  have hSI := fun w' (h : Below w.heap.size w w') => hide (SimpleI_any R.W R.T A R.C.length c B R.C w' (hr.below (h.mono hB)) (Nat.le_trans hB h.size) (by omega))
  simp only [hs] at hSI
  have hTI := fun w' (h : Below w.heap.size w w') => hide (tilings_any R hR A c B w' (hr.below (h.mono hB)) (Nat.le_trans hB h.size))
  have hHT : ∀ (M : List Int) (g d : Nat) w', Tile R M → Below w.heap.size w w' → Reads w' w'.heap.size 1 (some ⟨g, 0, none⟩) R.C.length (M.map (Value.int .i64)) → Hid (Calls Try.prog 80 #[.agg #[.int .i64 R.W, .int .i64 R.T, .slice A R.C.length c], .slice (some ⟨g, 0, none⟩) R.C.length d] w' fun e w'' => ∃ g2, e = .returned (.slice (some ⟨g2, 0, none⟩) R.cn R.cn) ∧ Reads w'' w''.heap.size 1 (some ⟨g2, 0, none⟩) R.cn ((htsOf R.W R.T R.C M).map (Value.int .i64)) ∧ Below w'.heap.size w' w'') := fun M g d w' hM h ha => by
    have hH := hts_of_tile hR hS hM
    have := heights_any R hR hS A c w'.heap.size M (some ⟨g, 0, none⟩) d hM.1 hM.2 _ hH w' ((hr.below (h.mono hB)).more (Nat.le_trans hB h.size)) (by rw [hM.1.len]; exact ha) (Nat.le_refl _)
    rw [hM.1.len] at this
    refine hide (this.mono ?_)
    rintro e w'' ⟨g2, rfl, ho, hb⟩
    rw [hH.len] at ho ⊢
    exact ⟨g2, rfl, Reads.of_own ho, hb⟩
  have hBY : ∀ (H : List Int) (g d : Nat) w', HP R H → Below w.heap.size w w' → Reads w' w'.heap.size 1 (some ⟨g, 0, none⟩) R.cn (H.map (Value.int .i64)) → Hid (Calls Try.prog 133 #[.agg #[.int .i64 R.W, .int .i64 R.T, .slice A R.C.length c], .slice (some ⟨g, 0, none⟩) R.cn d] w' (IntsRet w' (tilH R H))) := fun H g d w' hH h ha => by
    have := by_any R hR A c w'.heap.size H ⟨g, 0, none⟩ d ((hok_iff hR hS).2 hH) w' ((hr.below (h.mono hB)).more (Nat.le_trans hB h.size)) ha (Nat.le_refl _)
    rw [byTo_til hR hS hH] at this
    exact hide this
  have hTl : ∀ (k : Nat) (M : List Int), (tilT R)[k]? = some M → Tile R M := fun k M h => (tilT_iff hR).1 (List.mem_of_getElem? h)
  have HTL := Lib.hid hTl
  have hhl : ∀ M, Tile R M → (htsOf R.W R.T R.C M).length = R.cn := fun M hM => (hts_of_tile hR hS hM).len
  have HHL := Lib.hid hhl
  obtain ⟨M0, hM0⟩ : ∃ M0, (tilT R)[0]? = some M0 := by
    cases hx : tilT R with
    | nil => exact absurd hx hne
    | cons a l => exact ⟨a, rfl⟩
  have hhd : (tilT R).headD [] = M0 := by
    cases hx : tilT R with
    | nil => exact absurd hx hne
    | cons a l => rw [hx] at hM0; simp at hM0; simpa using hM0
  rw [hhd]
  have hT0 := hTl 0 M0 hM0
  have hsu := fun n M h => exH_succ (f := f) (R := R) (H := htsOf R.W R.T R.C M0) (Ts := tilT R) (n := n) (M := M) h
  have HSU := Lib.hid hsu
  have hhp : ∀ n, HP R (exH f R (htsOf R.W R.T R.C M0) ((tilT R).take n)) := fun n => exH_hp hf hR hS (hp_of_tile hR hS hT0) fun M hM => (tilT_iff hR).1 (List.mem_of_mem_take hM)
  have HHP := Lib.hid hhp
  have hfin : exH f R (htsOf R.W R.T R.C M0) ((tilT R).take (tilT R).length) = exH f R (htsOf R.W R.T R.C M0) (tilT R) := by rw [List.take_length]
  have HFI := Lib.hid hfin
  have hnl := tilT_len R
  have HNL := Lib.hid hnl
  have htl : ∀ H, (tilH R H).length = R.C.length := fun H => tilH_len R H
  have HTH := Lib.hid htl
  have hpos : 0 < (tilT R).length := (List.getElem?_eq_some_iff.1 hM0).1
  have HM0 := Lib.hid hM0
  have hb0 : Below w.heap.size w (w.alloc (boxR R.W R.T A R.C.length c)) := (Below.refl _ _).alloc (Nat.le_refl _) _
  have k0 : Blk (w.alloc (boxR R.W R.T A R.C.length c)) w.heap.size 25 #[.int .i64 R.W, .int .i64 R.T, .slice A R.C.length c] := Blk.new _ _ _
  clear hTl hsu hnl hr hs hne hhd hhp hfin htl hM0 hhl
  generalize hTT : tilT R = TT at *
  clear hTT
  have hz0 : ((TT.length : Int) == 0) = false := by rw [beq_eq_false_iff_ne]; omega
  go_enter Try.func83, Try.ntmps83
  go_wp2_with fail
  refine (unhide (hSI _ hb0)).mono ?_
  rintro e w1 ⟨rfl, hb1⟩
  have hB1 := hb0.trans (hb1.mono hb0.size)
  have k1 := k0.below hb1 k0.lt
  obtain ⟨b0, b1, b2⟩ := blk3 k1
  clear k0 hb0 hb1 hSI
  go_wp2_with fail
  refine (unhide (hTI _ hB1)).mono ?_
  rintro e w3 ⟨A3, c3, c3', xs, rfl, hR3, hb3⟩
  have hB3 := hB1.trans (hb3.mono hB1.size)
  have k3 := k1.below hb3 k1.lt
  have hrow := hR3.mono (b' := 0) (by omega)
  clear b0 b1 b2 k1 hb3 hB1 hTI hR3
  obtain ⟨x, M, hx, hM, hin⟩ := hrow.at_ hpos
  obtain rfl : M = M0 := by have := HM0.out; rw [hM] at this; injection this
  obtain ⟨gx, cx, rfl, hrx⟩ := hin.reads
  have hown := hrow.own
  rw [hrow.len] at hown
  obtain ⟨g3, cg3, hsh3, _, _, _⟩ := own_shape hown hpos
  simp only [Value.slice.injEq, true_and] at hsh3
  obtain ⟨rfl, rfl⟩ := hsh3
  have hxc : w3.cell? ⟨g3, 0, none⟩ = some (.slice (some ⟨gx, 0, none⟩) R.C.length cx) := by rw [hown.cellAt 0 (by omega)]; exact hx
  have hHk := hHT M gx cx w3.drew hT0 hB3.drew hrx
  clear hown hin hrx hx hM
  obtain ⟨b0, b1, b2⟩ := blk3 k3
  go_upto_region 6 with fail
  go_region_with
    (first
      | (go_at_call 80; (with_reducible refine (unhide hHk).mono ?_); rintro e w4 ⟨g4, rfl, hh4, hb4⟩))
  all_goals
    have hB4 := hB3.drew.trans (hb4.mono hB3.drew.size)
    have k4 := k3.drew.below hb4 k3.drew.lt
    have hrow4 := (hrow.below (Below.refl w3.heap.size w3).drew).below hb4
    clear b0 b1 b2 hB3 k3 hrow hb4 hxc hHk
    go_wp2_with fail
    go_loopg [7, 25] TT.length (fun r s7 s25 wr => ∃ (k g d : Nat), k + r = TT.length ∧ s25 = .int .i64 (k : Nat) ∧ s7 = .slice (some ⟨g, 0, none⟩) R.cn d ∧ Reads wr wr.heap.size 1 (some ⟨g, 0, none⟩) R.cn ((exH f R (htsOf R.W R.T R.C M) (TT.take k)).map (Value.int .i64)) ∧ Below w.heap.size w wr ∧ Blk wr w.heap.size 25 #[.int .i64 R.W, .int .i64 R.T, .slice A R.C.length c] ∧ RowsOf wr 0 R.C.length (.slice (some ⟨g3, 0, none⟩) TT.length c3) xs TT)
    case atStart => exact ⟨0, g4, R.cn, by omega, rfl, rfl, by simpa [exH] using hh4, hB4, k4, hrow4⟩
    case round =>
      clear hh4 hB4 k4 hrow4
      obtain ⟨k, g, d, hk, rfl, rfl, hg, hBw, hbk, hrow⟩ := hrel
      have HK := Lib.hid hk
      clear hk
      by_cases hlt : k < TT.length
      · obtain ⟨x, N, hx, hN, hin⟩ := hrow.at_ hlt
        obtain ⟨gy, cy, rfl, hry⟩ := hin.reads
        have hTN := HTL.out k N hN
        have hown := hrow.own
        rw [hrow.len] at hown
        have hyc : wr.cell? ⟨g3, k, none⟩ = some (.slice (some ⟨gy, 0, none⟩) R.C.length cy) := by rw [hown.cellAt k (by omega)]; exact hx
        have hHN := hHT N gy cy wr hTN hBw hry
        have hs1 := HSU.out k N hN
        have hl1' := (HHP.out (k + 1)).len
        have hlk := (HHP.out k).len
        have hlN := HHL.out N hTN
        have HP1 := Lib.hid (HHP.out (k + 1))
        have hnl := HNL.out
        rw [hs1] at hl1'
        have HS1 := Lib.hid hs1
        obtain ⟨b0, b1, b2⟩ := blk3 hbk
        clear hs1 hN hx hown hin hry hTN
        obtain ⟨Z, hZ⟩ : ∃ Z, Z = List.zipWith f (exH f R (htsOf R.W R.T R.C M) (TT.take k)) (htsOf R.W R.T R.C N) := ⟨_, rfl⟩
        rw [← hZ] at HS1 hl1'
        have HZ := Lib.hid hZ
        clear hZ
        generalize exH f R (htsOf R.W R.T R.C M) (TT.take k) = Hk at *
        generalize htsOf R.W R.T R.C N = Hn at *
        go_wp2_with fail
        refine (unhide hHN).mono ?_
        rintro e w5 ⟨g5, rfl, hh5, hb5⟩
        have hB5 := hBw.trans (hb5.mono hBw.size)
        have k5 := hbk.below hb5 hbk.lt
        have hrow5 := hrow.below hb5
        have hPK := hide (HPK.out (some ⟨g, 0, none⟩) (some ⟨g5, 0, none⟩) d R.cn w5.heap.size Hk Hn R.cn hlk hlN (by omega) w5 ((hg.below hb5).more hb5.size) hh5 (Nat.le_refl _))
        rw [← HZ.out] at hPK
        have HLK := Lib.hid hl1'
        clear b0 b1 b2 hBw hbk hrow hb5 hHN hh5 hg hlk hlN hyc hl1'
        go_wp2_with fail
        refine (unhide hPK).mono ?_
        rintro e w6 ⟨g6, rfl, ho6, hb6⟩
        rw [HLK.out] at ho6 ⊢
        have hB6 := hB5.trans (hb6.mono hB5.size)
        have k6 := k5.below hb6 k5.lt
        have hrow6 := hrow5.below hb6
        have hr6 := Reads.of_own ho6
        clear hB5 k5 hrow5 hb6 ho6 hPK
        go_wp2_with fail
        go_roundg (TT.length - (k + 1))
        case measure => have := HK.out; omega
        case rel => exact ⟨k + 1, g6, R.cn, by have := HK.out; omega, by go_num, rfl, by rw [HS1.out]; exact hr6, hB6, k6, hrow6⟩
      · obtain rfl : k = TT.length := by have := HK.out; omega
        have hBYk := hBY _ g d wr (HHP.out TT.length) hBw hg
        rw [HFI.out] at hBYk
        obtain ⟨b0, b1, b2⟩ := blk3 hbk
        clear hg hBY hHT
        generalize tilH R (exH f R (htsOf R.W R.T R.C M) TT) = X at *
        go_wp2_with fail
        refine (unhide hBYk).mono ?_
        rintro e w5 ⟨g5, rfl, ho5, hb5⟩
        go_wp2_with fail
        go_ret2
        exact ⟨some ⟨g5, 0, none⟩, X.length, X.length, rfl, own_mono ho5 hBw.size, hBw.trans (hb5.mono hBw.size)⟩

set_option maxHeartbeats 1000000 in
theorem extreme_any (fv : Value) (f : Int → Int → Int) (hpk0 : PickAny fv f) (hf : Keeps f) (W T : Int) (A : Option Addr) (n c B : Nat) (bs : List Bool) (w : World) (hbl : bs.length = n) (hr : Reads w B 1 A n (bs.map Value.bool)) (hB : B ≤ w.heap.size) (hn : n ≤ 9223372036854775807) :
    Calls Try.prog 83 #[.agg #[.int .i64 W, .int .i64 T, .slice A n c], fv] w (RetIB w (exV f W T bs) (exB W T bs)) := by
  have hb0 : Below w.heap.size w (w.alloc (boxR W T A n c)) := (Below.refl _ _).alloc (Nat.le_refl _) _
  have k0 : Blk (w.alloc (boxR W T A n c)) w.heap.size 25 #[.int .i64 W, .int .i64 T, .slice A n c] := Blk.new _ _ _
  have hSI := hide (SimpleI_any W T A n c B bs _ (hr.below (hb0.mono hB)) (Nat.le_trans hB hb0.size) hn)
  cases hs : simpleB W T bs with
  | false =>
    obtain ⟨e1, e2⟩ := exV_no (f := f) (W := W) (T := T) (bs := bs) (by rw [hs]; simp)
    rw [e1, e2]
    rw [hs] at hSI
    clear hs k0 hpk0 hf e1 e2
    go_enter Try.func83, Try.ntmps83
    go_wp2_with fail
    refine (unhide hSI).mono ?_
    rintro e w1 ⟨rfl, hb1⟩
    go_wp2_with fail
    go_ret2
    exact ⟨none, 0, 0, rfl, ⟨rfl, .inl ⟨rfl, rfl⟩⟩, hb0.trans (hb1.mono hb0.size)⟩
  | true =>
    obtain ⟨R, hR, rfl, rfl, rfl, hS⟩ := simple_cases hs
    subst hbl
    by_cases hne : tilT R = []
    · obtain ⟨e1, e2⟩ := exV_no (f := f) (W := R.W) (T := R.T) (bs := R.C) (fun h => h.2 hne)
      rw [e1, e2]
      rw [hs] at hSI
      have hTI := fun w' (h : Below w.heap.size w w') => hide (tilings_any R hR A c B w' (hr.below (h.mono hB)) (Nat.le_trans hB h.size))
      rw [hne] at hTI
      clear hs hpk0 hf e1 e2 hr
      go_enter Try.func83, Try.ntmps83
      go_wp2_with fail
      refine (unhide hSI).mono ?_
      rintro e w1 ⟨rfl, hb1⟩
      have hB1 := hb0.trans (hb1.mono hb0.size)
      obtain ⟨b0, b1, b2⟩ := blk3 (k0.below hb1 k0.lt)
      clear k0 hb0 hb1 hSI
      go_wp2_with fail
      refine (unhide (hTI _ hB1)).mono ?_
      rintro e w3 ⟨A3, c3, c3', xs, rfl, hR3, hb3⟩
      go_wp2_with fail
      go_ret2
      exact ⟨none, 0, 0, rfl, ⟨rfl, .inl ⟨rfl, rfl⟩⟩, hB1.trans (hb3.mono hB1.size)⟩
    · obtain ⟨e1, e2⟩ := exV_yes (f := f) hs hne
      rw [e1, e2]
      exact extreme_ok fv f hpk0 hf R hR hS hs hne A c B w hr hB

theorem lowestI_any (W T : Int) (A : Option Addr) (n c B : Nat) (bs : List Bool) (w : World) (hbl : bs.length = n) (hr : Reads w B 1 A n (bs.map Value.bool)) (hB : B ≤ w.heap.size) (hn : n ≤ 9223372036854775807) :
    Calls Try.prog 24 #[.agg #[.int .i64 W, .int .i64 T, .slice A n c]] w (RetIB w (exV min W T bs) (exB W T bs)) := by
  have hb0 : Below w.heap.size w (w.alloc (boxR W T A n c)) := (Below.refl _ _).alloc (Nat.le_refl _) _
  have hEX := hide (extreme_any (.func (.func 66) #[] #[]) min pickLesser keeps_min W T A n c B bs _ hbl (hr.below (hb0.mono hB)) (Nat.le_trans hB hb0.size) hn)
  generalize exV min W T bs = X at *
  generalize exB W T bs = Y at *
  go_enter Try.func24, Try.ntmps24
  go_wp2_with fail
  refine (unhide hEX).mono ?_
  rintro e w1 ⟨A1, c1, c1', rfl, ho1, hb1⟩
  go_wp2_with fail
  go_ret2
  exact ⟨_, _, _, rfl, own_mono ho1 hb0.size, hb0.trans (hb1.mono hb0.size)⟩

theorem highestI_any (W T : Int) (A : Option Addr) (n c B : Nat) (bs : List Bool) (w : World) (hbl : bs.length = n) (hr : Reads w B 1 A n (bs.map Value.bool)) (hB : B ≤ w.heap.size) (hn : n ≤ 9223372036854775807) :
    Calls Try.prog 30 #[.agg #[.int .i64 W, .int .i64 T, .slice A n c]] w (RetIB w (exV max W T bs) (exB W T bs)) := by
  have hb0 : Below w.heap.size w (w.alloc (boxR W T A n c)) := (Below.refl _ _).alloc (Nat.le_refl _) _
  have hEX := hide (extreme_any (.func (.func 76) #[] #[]) max pickGreater keeps_max W T A n c B bs _ hbl (hr.below (hb0.mono hB)) (Nat.le_trans hB hb0.size) hn)
  generalize exV max W T bs = X at *
  generalize exB W T bs = Y at *
  go_enter Try.func30, Try.ntmps30
  go_wp2_with fail
  refine (unhide hEX).mono ?_
  rintro e w1 ⟨A1, c1, c1', rfl, ho1, hb1⟩
  go_wp2_with fail
  go_ret2
  exact ⟨_, _, _, rfl, own_mono ho1 hb0.size, hb0.trans (hb1.mono hb0.size)⟩

end Go.Proofs.Ythepfpiphlfgnaa

/-
  YthepfpiphlfgnaaTh: Lowest and Highest: the reference.
-/
namespace Go.Proofs.Ythepfpiphlfgnaa
open Go.RowKit

theorem tilingsAllS_no (W T : Int) (A : Option Addr) (n c B : Nat) (bs : List Bool) (hv : validB W T bs = false) (w : World) (hr : Reads w B 1 A n (bs.map Value.bool)) (hB : B ≤ w.heap.size) (hn : n ≤ 9223372036854775807) :
    Calls Try.prog 84 #[.agg #[.int .i64 W, .int .i64 T, .slice A n c]] w fun e w' => ∃ g, e = .returned (.slice (some ⟨g, 0, none⟩) 0 0) ∧ Below w.heap.size w w' := by
  have HV := hide (validS_any W T A n c B bs (w.alloc (boxR W T A n c)) (hr.alloc hB _) (by simp; omega) hn)
  rw [hv] at HV
  clear hr
  go_enter Try.func84, Try.ntmps84
  go_wp2_with fail
  refine (unhide HV).mono ?_
  rintro e w1 ⟨rfl, hb1⟩
  obtain ⟨hB1, hk1, b0, b1, b2⟩ := box_keep hb1
  go_wp2_with fail
  go_ret
  exact ⟨_, rfl, hB1.alloc hB1.size _⟩

theorem exH_one {f : Int → Int → Int} (hid : ∀ x, f x x = x) {R : Reg} {M : List Int} : List.zipWith f (htsOf R.W R.T R.C M) (htsOf R.W R.T R.C M) = htsOf R.W R.T R.C M := by
  generalize htsOf R.W R.T R.C M = H
  induction H with
  | nil => rfl
  | cons a l ih => rw [List.zipWith_cons_cons, ih, hid]
theorem min_self' (x : Int) : min x x = x := by omega
theorem max_self' (x : Int) : max x x = x := by omega

set_option maxHeartbeats 4000000 in
set_option maxRecDepth 20000 in
theorem lowestS_ok (R : Reg) (hR : R.ok) (hS : SimpleP R) (hs : simpleB R.W R.T R.C = true) (hne : tilT R ≠ []) (A : Option Addr) (c B : Nat) (w : World) (hr : Reads w B 1 A R.C.length (R.C.map Value.bool)) (hB : B ≤ w.heap.size) :
    Calls Try.prog 25 #[.agg #[.int .i64 R.W, .int .i64 R.T, .slice A R.C.length c]] w (RetIB w (tilH R (exH min R (htsOf R.W R.T R.C ((tilT R).headD [])) (tilT R))) true) := by
  have hl36 := (len_bd hR).2
  have hl1 := (len_bd hR).1
  have hTA := fun w' (h : Below w.heap.size w w') => hide (tilingsAllS_ok R hR A c B w' (hr.below (h.mono hB)) (Nat.le_trans hB h.size))
  have hSI := fun w' (h : Below w.heap.size w w') => hide (SimpleS_any R.W R.T A R.C.length c B R.C w' (hr.below (h.mono hB)) (Nat.le_trans hB h.size) (by omega))
  simp only [hs] at hSI
  have hTl : ∀ (k : Nat) (M : List Int), (tilT R)[k]? = some M → Tile R M := fun k M h => (tilT_iff hR).1 (List.mem_of_getElem? h)
  obtain ⟨M0, hM0⟩ : ∃ M0, (tilT R)[0]? = some M0 := by
    cases hx : tilT R with
    | nil => exact absurd hx hne
    | cons a l => exact ⟨a, rfl⟩
  have hhd : (tilT R).headD [] = M0 := by
    cases hx : tilT R with
    | nil => exact absurd hx hne
    | cons a l => rw [hx] at hM0; simp at hM0; simpa using hM0
  rw [hhd]
  have hT0 := hTl 0 M0 hM0
  have hhp : ∀ n, HP R (exH min R (htsOf R.W R.T R.C M0) ((tilT R).take n)) := fun n => exH_hp keeps_min hR hS (hp_of_tile hR hS hT0) fun M hM => (tilT_iff hR).1 (List.mem_of_mem_take hM)
  have hlow : ∀ n, Tile R (tilH R (exH min R (htsOf R.W R.T R.C M0) ((tilT R).take n))) := fun n => ⟨lay_tilH hR (hhp n), full_tilH hR (hhp n)⟩
  have h1st : tilH R (exH min R (htsOf R.W R.T R.C M0) ((tilT R).take 1)) = M0 := by
    rw [exH_succ (n := 0) hM0]
    show tilH R (List.zipWith min (htsOf R.W R.T R.C M0) (htsOf R.W R.T R.C M0)) = M0
    rw [exH_one min_self', tilH_hts hR ((tiled_ok hR).2 ⟨hS, hT0.1, hT0.2⟩)]
  have hTL : ∀ (k : Nat) (N : List Int) (g1 d1 g2 d2 : Nat) w', (tilT R)[k]? = some N → Below w.heap.size w w' → Reads w' w'.heap.size 1 (some ⟨g1, 0, none⟩) R.C.length ((tilH R (exH min R (htsOf R.W R.T R.C M0) ((tilT R).take k))).map (Value.int .i64)) → Reads w' w'.heap.size 1 (some ⟨g2, 0, none⟩) R.C.length (N.map (Value.int .i64)) →
      Hid (Calls Try.prog 15 #[.agg #[.int .i64 R.W, .int .i64 R.T, .slice A R.C.length c], .slice (some ⟨g1, 0, none⟩) R.C.length d1, .slice (some ⟨g2, 0, none⟩) R.C.length d2] w' (RetIB w' (tilH R (exH min R (htsOf R.W R.T R.C M0) ((tilT R).take (k + 1)))) true)) := fun k N g1 d1 g2 d2 w' hN h ha hb' => by
    have hTN := hTl k N hN
    have hlo := hlow k
    have t1 := (tiled_ok hR).2 ⟨hS, hlo.1, hlo.2⟩
    have t2 := (tiled_ok hR).2 ⟨hS, hTN.1, hTN.2⟩
    have := tilingLowS_any R.W R.T A R.C.length c w'.heap.size R.C _ (some ⟨g1, 0, none⟩) R.C.length d1 N (some ⟨g2, 0, none⟩) R.C.length d2 w' rfl hlo.1.len hTN.1.len ((hr.below (h.mono hB)).more (Nat.le_trans hB h.size)) ha hb' (Nat.le_refl _) (by omega) (by omega) (by omega)
    rw [twoV_yes t1 t2, htsOf_til hR hS (hhp k), ← exH_succ hN] at this
    have e : twoB R.W R.T R.C (tilH R (exH min R (htsOf R.W R.T R.C M0) ((tilT R).take k))) N = true := by unfold twoB; rw [t1, t2]; rfl
    rw [e] at this
    exact hide this
  have hfin : exH min R (htsOf R.W R.T R.C M0) ((tilT R).take (tilT R).length) = exH min R (htsOf R.W R.T R.C M0) (tilT R) := by rw [List.take_length]
  have hpos : 0 < (tilT R).length := (List.getElem?_eq_some_iff.1 hM0).1
  have hll : ∀ n, (tilH R (exH min R (htsOf R.W R.T R.C M0) ((tilT R).take n))).length = R.C.length := fun n => tilH_len R _
  have HLL := Lib.hid hll
  have HFI := Lib.hid hfin
  have HM0 := Lib.hid hM0
  have H1ST := Lib.hid h1st
  have hnl := tilT_len R
  have HNL := Lib.hid hnl
  have hb0 : Below w.heap.size w (w.alloc (boxR R.W R.T A R.C.length c)) := (Below.refl _ _).alloc (Nat.le_refl _) _
  have k0 : Blk (w.alloc (boxR R.W R.T A R.C.length c)) w.heap.size 25 #[.int .i64 R.W, .int .i64 R.T, .slice A R.C.length c] := Blk.new _ _ _
  clear hTl hhp hlow h1st hfin hM0 hhd hne hs hr hll hnl hT0
  generalize hTT : tilT R = TT at *
  clear hTT
  have hz0 : ((TT.length : Int) == 0) = false := by rw [beq_eq_false_iff_ne]; omega
  go_enter Try.func25, Try.ntmps25
  go_wp2_with fail
  refine (unhide (hTA _ hb0)).mono ?_
  rintro e w1 ⟨A3, c3, xs, rfl, hR3, hb1, _⟩
  have hR3b := hR3.mono (b' := w.heap.size) hb0.size
  have hB1 := hb0.trans (hb1.mono hb0.size)
  have k1 := k0.below hb1 k0.lt
  obtain ⟨b0, b1, b2⟩ := blk3 k1
  clear k0 hb0 hb1 hTA hR3
  go_wp2_with fail
  refine (unhide (hSI _ hB1)).mono ?_
  rintro e w3 ⟨rfl, hb3⟩
  have hB3 := hB1.trans (hb3.mono hB1.size)
  have k3 := k1.below hb3 k1.lt
  have hrow := hR3b.below hb3
  clear b0 b1 b2 k1 hb3 hB1 hSI hR3b
  obtain ⟨x, M, hx, hM, g0, d0, d0', rfl, hown0⟩ := hrow.at_ hpos
  obtain rfl : M = M0 := by have := HM0.out; rw [hM] at this; injection this
  have hown := hrow.own
  rw [hrow.len] at hown
  obtain ⟨g3, cg3, hsh3, _, _, _⟩ := own_shape hown hpos
  simp only [Value.slice.injEq, true_and] at hsh3
  obtain ⟨rfl, rfl⟩ := hsh3
  have hxc : w3.cell? ⟨g3, 0, none⟩ = some (.slice (some ⟨g0, 0, none⟩) R.C.length d0') := by rw [hown.cellAt 0 (by omega)]; exact hx
  have hlow1 : w3.ownsRow w.heap.size 3 1 (.slice (some ⟨g0, 0, none⟩) R.C.length d0) R.C.length ((tilH R (exH min R (htsOf R.W R.T R.C M) (TT.take 1))).map (Value.int .i64)) := by rw [H1ST.out]; exact hown0
  clear hown hown0 hx hM
  go_wp2_with fail
  go_loopg [5, 6] (TT.length - 1) (fun r s5 s6 wr => ∃ (k g d d' : Nat), k + r = TT.length ∧ 1 ≤ k ∧ s6 = .int .i64 (k : Nat) ∧ s5 = .slice (some ⟨g, 0, none⟩) R.C.length d' ∧ wr.ownsRow w.heap.size 3 1 (.slice (some ⟨g, 0, none⟩) R.C.length d) R.C.length ((tilH R (exH min R (htsOf R.W R.T R.C M) (TT.take k))).map (Value.int .i64)) ∧ Below w.heap.size w wr ∧ Blk wr w.heap.size 25 #[.int .i64 R.W, .int .i64 R.T, .slice A R.C.length c] ∧ RowsOf wr w.heap.size R.C.length (.slice (some ⟨g3, 0, none⟩) TT.length c3) xs TT)
  case atStart => exact ⟨1, g0, d0, d0', by omega, by omega, rfl, rfl, hlow1, hB3, k3, hrow⟩
  case round =>
    clear hlow1 hB3 k3 hrow hxc
    obtain ⟨k, g, d, d', hk, hk1, rfl, rfl, hlo, hBw, hbk, hrow⟩ := hrel
    have HK := Lib.hid hk
    clear hk
    by_cases hlt : k < TT.length
    · obtain ⟨x, N, hx, hN, hin⟩ := hrow.at_ hlt
      obtain ⟨gy, cy, rfl, hry⟩ := hin.reads
      have hown := hrow.own
      rw [hrow.len] at hown
      have hyc : wr.cell? ⟨g3, k, none⟩ = some (.slice (some ⟨gy, 0, none⟩) R.C.length cy) := by rw [hown.cellAt k (by omega)]; exact hx
      have hTk := hTL k N g d' gy cy wr.drew hN hBw.drew (Reads.of_own hlo) hry
      have hl2 := Lib.hid (HLL.out (k + 1))
      have hnl := HNL.out
      obtain ⟨b0, b1, b2⟩ := blk3 hbk
      clear hN hx hown hin hry hTL hlo
      generalize hL2e : tilH R (exH min R (htsOf R.W R.T R.C M) (TT.take (k + 1))) = L2 at *
      have HE2 := Lib.hid hL2e
      clear hL2e
      go_upto_region 8 with fail
      go_region_with
        (first
          | (go_at_call 15; (with_reducible refine (unhide hTk).mono ?_); rintro e w4 ⟨A4, c4, c4', rfl, ho4, hb4⟩))
      all_goals
        rw [hl2.out] at ho4
        obtain ⟨g4, cg4, hsh4, _, _, _⟩ := own_shape ho4 hl1
        simp only [Value.slice.injEq, true_and] at hsh4
        obtain ⟨rfl, rfl⟩ := hsh4
        have hB4 := hBw.drew.trans (hb4.mono hBw.drew.size)
        have k4 := hbk.drew.below hb4 hbk.drew.lt
        have hrow4 := (hrow.below (Below.refl wr.heap.size wr).drew).below hb4
        have ho5 := own_mono ho4 hBw.drew.size
        clear b0 b1 b2 hyc hBw hbk hrow hb4 hTk ho4
        go_wp2_with fail
        go_roundg (TT.length - (k + 1))
        case measure => have := HK.out; omega
        case rel => exact ⟨k + 1, g4, c4, c4', by have := HK.out; omega, by omega, by go_num, by rw [hl2.out], by rw [HE2.out]; exact ho5, hB4, k4, hrow4⟩
    · obtain rfl : k = TT.length := by have := HK.out; omega
      have hl2 := Lib.hid (HLL.out TT.length)
      rw [HFI.out] at hlo hl2
      go_wp2_with fail
      go_ret2
      exact ⟨some ⟨g, 0, none⟩, d, d', by rw [hl2.out]; rfl, by rw [hl2.out]; exact hlo, hBw⟩

set_option maxHeartbeats 1000000 in
theorem lowestS_any (W T : Int) (A : Option Addr) (n c B : Nat) (bs : List Bool) (w : World) (hbl : bs.length = n) (hr : Reads w B 1 A n (bs.map Value.bool)) (hB : B ≤ w.heap.size) (hn : n ≤ 9223372036854775807) :
    Calls Try.prog 25 #[.agg #[.int .i64 W, .int .i64 T, .slice A n c]] w (RetIB w (exV min W T bs) (exB W T bs)) := by
  have hb0 : Below w.heap.size w (w.alloc (boxR W T A n c)) := (Below.refl _ _).alloc (Nat.le_refl _) _
  have k0 : Blk (w.alloc (boxR W T A n c)) w.heap.size 25 #[.int .i64 W, .int .i64 T, .slice A n c] := Blk.new _ _ _
  have hSI := fun w' (h : Below w.heap.size w w') => hide (SimpleS_any W T A n c B bs w' (hr.below (h.mono hB)) (Nat.le_trans hB h.size) hn)
  by_cases hyes : simpleB W T bs = true ∧ tilT ⟨W.toNat, T.toNat, bs⟩ ≠ []
  · obtain ⟨R, hR, rfl, rfl, rfl, hS⟩ := simple_cases hyes.1
    subst hbl
    have hne : tilT R ≠ [] := hyes.2
    obtain ⟨e1, e2⟩ := exV_yes (f := min) hyes.1 hne
    rw [e1, e2]
    exact lowestS_ok R hR hS hyes.1 hne A c B w hr hB
  · obtain ⟨e1, e2⟩ := exV_no (f := min) hyes
    rw [e1, e2]
    have hTA : ∀ w', Below w.heap.size w w' → Hid (Calls Try.prog 84 #[.agg #[.int .i64 W, .int .i64 T, .slice A n c]] w' fun e w'' => ∃ (A1 : Option Addr) (m c1 : Nat), e = .returned (.slice A1 m c1) ∧ (simpleB W T bs = true → m = 0) ∧ Below w'.heap.size w' w'') := fun w' h => by
      cases hv : validB W T bs with
      | false =>
        refine hide ((tilingsAllS_no W T A n c B bs hv w' (hr.below (h.mono hB)) (Nat.le_trans hB h.size) hn).mono ?_)
        rintro e w'' ⟨g, rfl, hb⟩
        exact ⟨_, 0, 0, rfl, fun _ => rfl, hb⟩
      | true =>
        obtain ⟨R, hR, rfl, rfl, rfl⟩ := reg_of_valid hv
        subst hbl
        refine hide ((tilingsAllS_ok R hR A c B w' (hr.below (h.mono hB)) (Nat.le_trans hB h.size)).mono ?_)
        rintro e w'' ⟨A3, c3, xs, rfl, _, hb, _⟩
        refine ⟨A3, _, c3, rfl, fun hs => ?_, hb⟩
        have : tilT R = [] := Classical.byContradiction fun hx => hyes ⟨hs, hx⟩
        rw [this]; rfl
    clear e1 e2 hyes hr
    go_enter Try.func25, Try.ntmps25
    go_wp2_with fail
    refine (unhide (hTA _ hb0)).mono ?_
    rintro e w1 ⟨A1, m, c1, rfl, hm, hb1⟩
    have hB1 := hb0.trans (hb1.mono hb0.size)
    obtain ⟨b0, b1, b2⟩ := blk3 (k0.below hb1 k0.lt)
    have hS1 := hSI _ hB1
    clear k0 hb0 hb1 hTA hSI
    cases hs : simpleB W T bs with
    | false =>
      rw [hs] at hS1
      clear hm hs
      go_wp2_with fail
      refine (unhide hS1).mono ?_
      rintro e w3 ⟨rfl, hb3⟩
      have hB3 := hB1.trans (hb3.mono hB1.size)
      go_wp2_with fail
      go_ret2
      have ho := World.ownsRow_made (base := w.heap.size) (e := 3) (size := 1) w3 #[] 0 hB3.size (by simp [maxLen]) (by simp)
      exact ⟨_, 0, 0, rfl, by simpa using ho, hB3.alloc hB3.size _⟩
    | true =>
      rw [hs] at hS1
      obtain rfl := hm hs
      clear hm hs
      go_wp2_with fail
      refine (unhide hS1).mono ?_
      rintro e w3 ⟨rfl, hb3⟩
      have hB3 := hB1.trans (hb3.mono hB1.size)
      go_wp2_with fail
      go_ret2
      have ho := World.ownsRow_made (base := w.heap.size) (e := 3) (size := 1) w3 #[] 0 hB3.size (by simp [maxLen]) (by simp)
      exact ⟨_, 0, 0, rfl, by simpa using ho, hB3.alloc hB3.size _⟩

set_option maxHeartbeats 4000000 in
set_option maxRecDepth 20000 in
theorem highestS_ok (R : Reg) (hR : R.ok) (hS : SimpleP R) (hs : simpleB R.W R.T R.C = true) (hne : tilT R ≠ []) (A : Option Addr) (c B : Nat) (w : World) (hr : Reads w B 1 A R.C.length (R.C.map Value.bool)) (hB : B ≤ w.heap.size) :
    Calls Try.prog 33 #[.agg #[.int .i64 R.W, .int .i64 R.T, .slice A R.C.length c]] w (RetIB w (tilH R (exH max R (htsOf R.W R.T R.C ((tilT R).headD [])) (tilT R))) true) := by
  have hl36 := (len_bd hR).2
  have hl1 := (len_bd hR).1
  have hTA := fun w' (h : Below w.heap.size w w') => hide (tilingsAllS_ok R hR A c B w' (hr.below (h.mono hB)) (Nat.le_trans hB h.size))
  have hSI := fun w' (h : Below w.heap.size w w') => hide (SimpleS_any R.W R.T A R.C.length c B R.C w' (hr.below (h.mono hB)) (Nat.le_trans hB h.size) (by omega))
  simp only [hs] at hSI
  have hTl : ∀ (k : Nat) (M : List Int), (tilT R)[k]? = some M → Tile R M := fun k M h => (tilT_iff hR).1 (List.mem_of_getElem? h)
  obtain ⟨M0, hM0⟩ : ∃ M0, (tilT R)[0]? = some M0 := by
    cases hx : tilT R with
    | nil => exact absurd hx hne
    | cons a l => exact ⟨a, rfl⟩
  have hhd : (tilT R).headD [] = M0 := by
    cases hx : tilT R with
    | nil => exact absurd hx hne
    | cons a l => rw [hx] at hM0; simp at hM0; simpa using hM0
  rw [hhd]
  have hT0 := hTl 0 M0 hM0
  have hhp : ∀ n, HP R (exH max R (htsOf R.W R.T R.C M0) ((tilT R).take n)) := fun n => exH_hp keeps_max hR hS (hp_of_tile hR hS hT0) fun M hM => (tilT_iff hR).1 (List.mem_of_mem_take hM)
  have hlow : ∀ n, Tile R (tilH R (exH max R (htsOf R.W R.T R.C M0) ((tilT R).take n))) := fun n => ⟨lay_tilH hR (hhp n), full_tilH hR (hhp n)⟩
  have h1st : tilH R (exH max R (htsOf R.W R.T R.C M0) ((tilT R).take 1)) = M0 := by
    rw [exH_succ (n := 0) hM0]
    show tilH R (List.zipWith max (htsOf R.W R.T R.C M0) (htsOf R.W R.T R.C M0)) = M0
    rw [exH_one max_self', tilH_hts hR ((tiled_ok hR).2 ⟨hS, hT0.1, hT0.2⟩)]
  have hTL : ∀ (k : Nat) (N : List Int) (g1 d1 g2 d2 : Nat) w', (tilT R)[k]? = some N → Below w.heap.size w w' → Reads w' w'.heap.size 1 (some ⟨g1, 0, none⟩) R.C.length ((tilH R (exH max R (htsOf R.W R.T R.C M0) ((tilT R).take k))).map (Value.int .i64)) → Reads w' w'.heap.size 1 (some ⟨g2, 0, none⟩) R.C.length (N.map (Value.int .i64)) →
      Hid (Calls Try.prog 92 #[.agg #[.int .i64 R.W, .int .i64 R.T, .slice A R.C.length c], .slice (some ⟨g1, 0, none⟩) R.C.length d1, .slice (some ⟨g2, 0, none⟩) R.C.length d2] w' (RetIB w' (tilH R (exH max R (htsOf R.W R.T R.C M0) ((tilT R).take (k + 1)))) true)) := fun k N g1 d1 g2 d2 w' hN h ha hb' => by
    have hTN := hTl k N hN
    have hlo := hlow k
    have t1 := (tiled_ok hR).2 ⟨hS, hlo.1, hlo.2⟩
    have t2 := (tiled_ok hR).2 ⟨hS, hTN.1, hTN.2⟩
    have := tilingHighS_any R.W R.T A R.C.length c w'.heap.size R.C _ (some ⟨g1, 0, none⟩) R.C.length d1 N (some ⟨g2, 0, none⟩) R.C.length d2 w' rfl hlo.1.len hTN.1.len ((hr.below (h.mono hB)).more (Nat.le_trans hB h.size)) ha hb' (Nat.le_refl _) (by omega) (by omega) (by omega)
    rw [twoV_yes t1 t2, htsOf_til hR hS (hhp k), ← exH_succ hN] at this
    have e : twoB R.W R.T R.C (tilH R (exH max R (htsOf R.W R.T R.C M0) ((tilT R).take k))) N = true := by unfold twoB; rw [t1, t2]; rfl
    rw [e] at this
    exact hide this
  have hfin : exH max R (htsOf R.W R.T R.C M0) ((tilT R).take (tilT R).length) = exH max R (htsOf R.W R.T R.C M0) (tilT R) := by rw [List.take_length]
  have hpos : 0 < (tilT R).length := (List.getElem?_eq_some_iff.1 hM0).1
  have hll : ∀ n, (tilH R (exH max R (htsOf R.W R.T R.C M0) ((tilT R).take n))).length = R.C.length := fun n => tilH_len R _
  have HLL := Lib.hid hll
  have HFI := Lib.hid hfin
  have HM0 := Lib.hid hM0
  have H1ST := Lib.hid h1st
  have hnl := tilT_len R
  have HNL := Lib.hid hnl
  have hb0 : Below w.heap.size w (w.alloc (boxR R.W R.T A R.C.length c)) := (Below.refl _ _).alloc (Nat.le_refl _) _
  have k0 : Blk (w.alloc (boxR R.W R.T A R.C.length c)) w.heap.size 25 #[.int .i64 R.W, .int .i64 R.T, .slice A R.C.length c] := Blk.new _ _ _
  clear hTl hhp hlow h1st hfin hM0 hhd hne hs hr hll hnl hT0
  generalize hTT : tilT R = TT at *
  clear hTT
  have hz0 : ((TT.length : Int) == 0) = false := by rw [beq_eq_false_iff_ne]; omega
  go_enter Try.func33, Try.ntmps33
  go_wp2_with fail
  refine (unhide (hTA _ hb0)).mono ?_
  rintro e w1 ⟨A3, c3, xs, rfl, hR3, hb1, _⟩
  have hR3b := hR3.mono (b' := w.heap.size) hb0.size
  have hB1 := hb0.trans (hb1.mono hb0.size)
  have k1 := k0.below hb1 k0.lt
  obtain ⟨b0, b1, b2⟩ := blk3 k1
  clear k0 hb0 hb1 hTA hR3
  go_wp2_with fail
  refine (unhide (hSI _ hB1)).mono ?_
  rintro e w3 ⟨rfl, hb3⟩
  have hB3 := hB1.trans (hb3.mono hB1.size)
  have k3 := k1.below hb3 k1.lt
  have hrow := hR3b.below hb3
  clear b0 b1 b2 k1 hb3 hB1 hSI hR3b
  obtain ⟨x, M, hx, hM, g0, d0, d0', rfl, hown0⟩ := hrow.at_ hpos
  obtain rfl : M = M0 := by have := HM0.out; rw [hM] at this; injection this
  have hown := hrow.own
  rw [hrow.len] at hown
  obtain ⟨g3, cg3, hsh3, _, _, _⟩ := own_shape hown hpos
  simp only [Value.slice.injEq, true_and] at hsh3
  obtain ⟨rfl, rfl⟩ := hsh3
  have hxc : w3.cell? ⟨g3, 0, none⟩ = some (.slice (some ⟨g0, 0, none⟩) R.C.length d0') := by rw [hown.cellAt 0 (by omega)]; exact hx
  have hlow1 : w3.ownsRow w.heap.size 3 1 (.slice (some ⟨g0, 0, none⟩) R.C.length d0) R.C.length ((tilH R (exH max R (htsOf R.W R.T R.C M) (TT.take 1))).map (Value.int .i64)) := by rw [H1ST.out]; exact hown0
  clear hown hown0 hx hM
  go_wp2_with fail
  go_loopg [5, 6] (TT.length - 1) (fun r s5 s6 wr => ∃ (k g d d' : Nat), k + r = TT.length ∧ 1 ≤ k ∧ s6 = .int .i64 (k : Nat) ∧ s5 = .slice (some ⟨g, 0, none⟩) R.C.length d' ∧ wr.ownsRow w.heap.size 3 1 (.slice (some ⟨g, 0, none⟩) R.C.length d) R.C.length ((tilH R (exH max R (htsOf R.W R.T R.C M) (TT.take k))).map (Value.int .i64)) ∧ Below w.heap.size w wr ∧ Blk wr w.heap.size 25 #[.int .i64 R.W, .int .i64 R.T, .slice A R.C.length c] ∧ RowsOf wr w.heap.size R.C.length (.slice (some ⟨g3, 0, none⟩) TT.length c3) xs TT)
  case atStart => exact ⟨1, g0, d0, d0', by omega, by omega, rfl, rfl, hlow1, hB3, k3, hrow⟩
  case round =>
    clear hlow1 hB3 k3 hrow hxc
    obtain ⟨k, g, d, d', hk, hk1, rfl, rfl, hlo, hBw, hbk, hrow⟩ := hrel
    have HK := Lib.hid hk
    clear hk
    by_cases hlt : k < TT.length
    · obtain ⟨x, N, hx, hN, hin⟩ := hrow.at_ hlt
      obtain ⟨gy, cy, rfl, hry⟩ := hin.reads
      have hown := hrow.own
      rw [hrow.len] at hown
      have hyc : wr.cell? ⟨g3, k, none⟩ = some (.slice (some ⟨gy, 0, none⟩) R.C.length cy) := by rw [hown.cellAt k (by omega)]; exact hx
      have hTk := hTL k N g d' gy cy wr.drew hN hBw.drew (Reads.of_own hlo) hry
      have hl2 := Lib.hid (HLL.out (k + 1))
      have hnl := HNL.out
      obtain ⟨b0, b1, b2⟩ := blk3 hbk
      clear hN hx hown hin hry hTL hlo
      generalize hL2e : tilH R (exH max R (htsOf R.W R.T R.C M) (TT.take (k + 1))) = L2 at *
      have HE2 := Lib.hid hL2e
      clear hL2e
      go_upto_region 8 with fail
      go_region_with
        (first
          | (go_at_call 92; (with_reducible refine (unhide hTk).mono ?_); rintro e w4 ⟨A4, c4, c4', rfl, ho4, hb4⟩))
      all_goals
        rw [hl2.out] at ho4
        obtain ⟨g4, cg4, hsh4, _, _, _⟩ := own_shape ho4 hl1
        simp only [Value.slice.injEq, true_and] at hsh4
        obtain ⟨rfl, rfl⟩ := hsh4
        have hB4 := hBw.drew.trans (hb4.mono hBw.drew.size)
        have k4 := hbk.drew.below hb4 hbk.drew.lt
        have hrow4 := (hrow.below (Below.refl wr.heap.size wr).drew).below hb4
        have ho5 := own_mono ho4 hBw.drew.size
        clear b0 b1 b2 hyc hBw hbk hrow hb4 hTk ho4
        go_wp2_with fail
        go_roundg (TT.length - (k + 1))
        case measure => have := HK.out; omega
        case rel => exact ⟨k + 1, g4, c4, c4', by have := HK.out; omega, by omega, by go_num, by rw [hl2.out], by rw [HE2.out]; exact ho5, hB4, k4, hrow4⟩
    · obtain rfl : k = TT.length := by have := HK.out; omega
      have hl2 := Lib.hid (HLL.out TT.length)
      rw [HFI.out] at hlo hl2
      go_wp2_with fail
      go_ret2
      exact ⟨some ⟨g, 0, none⟩, d, d', by rw [hl2.out]; rfl, by rw [hl2.out]; exact hlo, hBw⟩

set_option maxHeartbeats 1000000 in
theorem highestS_any (W T : Int) (A : Option Addr) (n c B : Nat) (bs : List Bool) (w : World) (hbl : bs.length = n) (hr : Reads w B 1 A n (bs.map Value.bool)) (hB : B ≤ w.heap.size) (hn : n ≤ 9223372036854775807) :
    Calls Try.prog 33 #[.agg #[.int .i64 W, .int .i64 T, .slice A n c]] w (RetIB w (exV max W T bs) (exB W T bs)) := by
  have hb0 : Below w.heap.size w (w.alloc (boxR W T A n c)) := (Below.refl _ _).alloc (Nat.le_refl _) _
  have k0 : Blk (w.alloc (boxR W T A n c)) w.heap.size 25 #[.int .i64 W, .int .i64 T, .slice A n c] := Blk.new _ _ _
  have hSI := fun w' (h : Below w.heap.size w w') => hide (SimpleS_any W T A n c B bs w' (hr.below (h.mono hB)) (Nat.le_trans hB h.size) hn)
  by_cases hyes : simpleB W T bs = true ∧ tilT ⟨W.toNat, T.toNat, bs⟩ ≠ []
  · obtain ⟨R, hR, rfl, rfl, rfl, hS⟩ := simple_cases hyes.1
    subst hbl
    have hne : tilT R ≠ [] := hyes.2
    obtain ⟨e1, e2⟩ := exV_yes (f := max) hyes.1 hne
    rw [e1, e2]
    exact highestS_ok R hR hS hyes.1 hne A c B w hr hB
  · obtain ⟨e1, e2⟩ := exV_no (f := max) hyes
    rw [e1, e2]
    have hTA : ∀ w', Below w.heap.size w w' → Hid (Calls Try.prog 84 #[.agg #[.int .i64 W, .int .i64 T, .slice A n c]] w' fun e w'' => ∃ (A1 : Option Addr) (m c1 : Nat), e = .returned (.slice A1 m c1) ∧ (simpleB W T bs = true → m = 0) ∧ Below w'.heap.size w' w'') := fun w' h => by
      cases hv : validB W T bs with
      | false =>
        refine hide ((tilingsAllS_no W T A n c B bs hv w' (hr.below (h.mono hB)) (Nat.le_trans hB h.size) hn).mono ?_)
        rintro e w'' ⟨g, rfl, hb⟩
        exact ⟨_, 0, 0, rfl, fun _ => rfl, hb⟩
      | true =>
        obtain ⟨R, hR, rfl, rfl, rfl⟩ := reg_of_valid hv
        subst hbl
        refine hide ((tilingsAllS_ok R hR A c B w' (hr.below (h.mono hB)) (Nat.le_trans hB h.size)).mono ?_)
        rintro e w'' ⟨A3, c3, xs, rfl, _, hb, _⟩
        refine ⟨A3, _, c3, rfl, fun hs => ?_, hb⟩
        have : tilT R = [] := Classical.byContradiction fun hx => hyes ⟨hs, hx⟩
        rw [this]; rfl
    clear e1 e2 hyes hr
    go_enter Try.func33, Try.ntmps33
    go_wp2_with fail
    refine (unhide (hTA _ hb0)).mono ?_
    rintro e w1 ⟨A1, m, c1, rfl, hm, hb1⟩
    have hB1 := hb0.trans (hb1.mono hb0.size)
    obtain ⟨b0, b1, b2⟩ := blk3 (k0.below hb1 k0.lt)
    have hS1 := hSI _ hB1
    clear k0 hb0 hb1 hTA hSI
    cases hs : simpleB W T bs with
    | false =>
      rw [hs] at hS1
      clear hm hs
      go_wp2_with fail
      refine (unhide hS1).mono ?_
      rintro e w3 ⟨rfl, hb3⟩
      have hB3 := hB1.trans (hb3.mono hB1.size)
      go_wp2_with fail
      go_ret2
      have ho := World.ownsRow_made (base := w.heap.size) (e := 3) (size := 1) w3 #[] 0 hB3.size (by simp [maxLen]) (by simp)
      exact ⟨_, 0, 0, rfl, by simpa using ho, hB3.alloc hB3.size _⟩
    | true =>
      rw [hs] at hS1
      obtain rfl := hm hs
      clear hm hs
      go_wp2_with fail
      refine (unhide hS1).mono ?_
      rintro e w3 ⟨rfl, hb3⟩
      have hB3 := hB1.trans (hb3.mono hB1.size)
      go_wp2_with fail
      go_ret2
      have ho := World.ownsRow_made (base := w.heap.size) (e := 3) (size := 1) w3 #[] 0 hB3.size (by simp [maxLen]) (by simp)
      exact ⟨_, 0, 0, rfl, by simpa using ho, hB3.alloc hB3.size _⟩

theorem exV_len {f : Int → Int → Int} {W T : Int} {bs : List Bool} : (exV f W T bs).length ≤ 36 := by
  by_cases h : simpleB W T bs = true ∧ tilT ⟨W.toNat, T.toNat, bs⟩ ≠ []
  · obtain ⟨R, hR, rfl, rfl, rfl, _⟩ := simple_cases h.1
    rw [(exV_yes h.1 h.2).1, tilH_len]
    exact (len_bd hR).2
  · rw [(exV_no h).1]; simp

end Go.Proofs.Ythepfpiphlfgnaa
