/-
  YtpeifojfpkkcpaaTm: the first tiling of the program: the search with the function that stops, Complete, TilingFirst.
-/
import Derived.Test.YtpeifojfpkkcpaaTb
import Derived.Test.YtpeifojfpkkcpaaTt
namespace Go.Proofs.Ytpeifojfpkkcpaa
open Go.RowKit

theorem leafF_any (q n c' : Nat) (D : Option Addr) (v : Value) (w : World) (hq : Blk w q 26 #[v]) :
    Calls Try.prog 170 #[.slice D n c', .pointer (some ⟨q, 0, none⟩)] w fun e w' => e = .returned (.bool false) ∧ w' = w.setCell ⟨q, 0, none⟩ (.slice D n c') := by
  have q0 := hq.cell 0
  have f0 := hq.frozen 0
  simp at q0
  go_enter Try.func170, Try.ntmps170
  go_wp2_with fail
  go_ret
  exact ⟨rfl, rfl⟩

/-- What the search for one tiling leaves. -/
def EachOne (R : Reg) (q b : Nat) (Ts : List (List Int)) (w : World) (e : Ending) (w' : World) : Prop :=
  ∃ bb : Bool, e = .returned (.bool bb) ∧ (bb = true → Ts = [] ∧ Below w.heap.size w w') ∧ (bb = false → ∃ (M : List Int) (l : List (List Int)) (g c1 c2 : Nat), Ts = M :: l ∧ w.grownBy w' (some q) ∧ Blk w' q 26 #[.slice (some ⟨g, 0, none⟩) R.C.length c1] ∧ w'.ownsRow b 3 1 (.slice (some ⟨g, 0, none⟩) R.C.length c2) R.C.length (M.map (Value.int .i64)))
/-- Where the search stands: nothing is changed but for the box. -/
structure CW1 (w wx : World) (R : Reg) (A : Option Addr) (c : Nat) : Prop where
  bel : Below w.heap.size w wx
  box : Blk wx w.heap.size 25 #[.int .i64 R.W, .int .i64 R.T, .slice A R.C.length c]
section
variable {w wx w2 : World} {R : Reg} {A : Option Addr} {c b g c' : Nat} {L : List Int}
theorem CW1.below (H : CW1 w wx R A c) (hb : Below wx.heap.size wx w2) : CW1 w w2 R A c := ⟨H.bel.trans (hb.mono H.bel.size), H.box.below hb H.box.lt⟩
theorem CW1.own (H : CW1 w wx R A c) (ho : w.ownsRow b 3 1 (.slice (some ⟨g, 0, none⟩) R.C.length c') R.C.length (L.map (Value.int .i64))) : wx.ownsRow b 3 1 (.slice (some ⟨g, 0, none⟩) R.C.length c') R.C.length (L.map (Value.int .i64)) := own_below ho H.bel (Nat.le_refl _)
end
theorem preT_tail {R : Reg} {f : Nat} {L : List Int} {k : Nat} (hf : fiV R L = some k) (j : Nat) (hj : 1 ≤ j ∧ j ≤ 2) {M : List Int} {l : List (List Int)} (h : preT R f L k j = M :: l) : ∃ l', allT R (f + 1) L = M :: l' := by
  rw [← preT_two hf]
  rcases (show j = 1 ∨ j = 2 by omega) with rfl | rfl
  · exact ⟨l ++ (if frB R L k ((1 : Int) + 1) = true then allT R f (lyV R L k ((1 : Int) + 1)) else []), by show preT R f L k 1 ++ _ = _; rw [h]; rfl⟩
  · exact ⟨l, h⟩

set_option maxHeartbeats 2000000 in
set_option maxRecDepth 20000 in
theorem eachF_none (R : Reg) (hR : R.ok) (A : Option Addr) (c B q b : Nat) (hBb : B ≤ b) (L : List Int) (g c' d : Nat) (v : Value) (w : World) (hL : Lay R L) (hfn : fiV R L = none)
    (hr : Reads w B 1 A R.C.length (R.C.map Value.bool)) (hb : b ≤ w.heap.size) (hq : Blk w q 26 #[v]) (ho : w.ownsRow b 3 1 (.slice (some ⟨g, 0, none⟩) R.C.length c') R.C.length (L.map (Value.int .i64))) :
    Calls Try.prog 162 #[.agg #[.int .i64 R.W, .int .i64 R.T, .slice A R.C.length c], .slice (some ⟨g, 0, none⟩) R.C.length d, .func (.func 170) #[] #[.pointer (some ⟨q, 0, none⟩)]] w (EachOne R q b [L] w) := by
  have HFN := Lib.hid (fiV_none.1 hfn)
  have hl36 := (len_bd hR).2
  have hqlt := hq.lt
  have hW0 : CW1 w (w.alloc (boxR R.W R.T A R.C.length c)) R A c := ⟨(Below.refl _ _).alloc (Nat.le_refl _) _, Blk.new _ _ _⟩
  have hCG := fun k (hk : k < R.C.length) w' (hb' : Below w.heap.size w w') => getB (hr.below (hb'.mono (Nat.le_trans hBb hb))) hk
  clear hfn
  go_enter Try.func162, Try.ntmps162
  go_upto_region 2 with fail
  generalize w.alloc (boxR R.W R.T A R.C.length c) = w0 at *
  go_loopg [7] R.C.length (fun r s7 wr => ∃ k : Nat, k + r = R.C.length ∧ s7 = .int .i64 (k : Nat) ∧ (∀ j, j < k → opB R L j = false) ∧ wr = w0)
  case atStart => exact ⟨0, by omega, rfl, fun j hj => absurd hj (by omega), rfl⟩
  case round =>
    obtain ⟨k, hk, rfl, hall, rfl⟩ := hrel
    have HK := Lib.hid hk
    have HALL := Lib.hid hall
    clear hk hall
    have hbw := hW0.bel
    by_cases hlt : k < R.C.length
    · obtain ⟨ac, rfl, hac, hcc⟩ := hCG k hlt _ hbw
      have hop : opB R L k = (R.C.getD k false && decide (L.getD k 0 = 0)) := rfl
      have HOP := Lib.hid hop
      have hxk : wr.cell? ⟨g, k, none⟩ = some (.int .i64 (L.getD k 0)) := by
        rw [(hW0.own ho).cellAt k (by omega), List.getElem?_map, List.getD_eq_getElem?_getD, List.getElem?_eq_getElem (by rw [hL.len]; exact hlt)]; rfl
      obtain ⟨b0, b1, b2⟩ := blk3 hW0.box
      clear hop
      cases hcb : R.C.getD k false with
      | false =>
        rw [hcb] at hcc HOP
        have HNO : Hid (opB R L k = false) := Lib.hid (by rw [HOP.out]; rfl)
        clear hcb HOP
        go_wp2_with fail
        go_roundg (R.C.length - (k + 1))
        case measure => have := HK.out; omega
        case rel =>
          refine ⟨k + 1, by have := HK.out; omega, by go_num, fun j hj => ?_, rfl⟩
          by_cases hjk : j = k
          · subst hjk; exact HNO.out
          · exact HALL.out j (by omega)
      | true =>
        rw [hcb] at hcc HOP
        by_cases hz : L.getD k 0 = 0
        · exact absurd (show opB R L k = true by rw [HOP.out, hz]; rfl) (by rw [HFN.out k hlt]; decide)
        · have HNO : Hid (opB R L k = false) := Lib.hid (by rw [HOP.out, decide_eq_false hz]; rfl)
          have hu : (L.getD k 0 != 0) = true := by simpa using hz
          clear hcb HOP hz
          generalize L.getD k 0 = u at *
          go_wp2_with fail
          go_roundg (R.C.length - (k + 1))
          case measure => have := HK.out; omega
          case rel =>
            refine ⟨k + 1, by have := HK.out; omega, by go_num, fun j hj => ?_, rfl⟩
            by_cases hjk : j = k
            · subst hjk; exact HNO.out
            · exact HALL.out j (by omega)
    · obtain rfl : k = R.C.length := by have := HK.out; omega
      have hqr := hq.below hbw hqlt
      have hor := hW0.own ho
      have hLF := hide (leafF_any q R.C.length d (some ⟨g, 0, none⟩) v wr hqr)
      go_wp2_with fail
      refine (unhide hLF).mono ?_
      rintro e w2 ⟨rfl, rfl⟩
      go_wp2_with fail
      go_ret
      exact ⟨false, rfl, (fun h => by cases h), fun _ => ⟨L, [], g, d, c', rfl, only_setCell (only_of_below hbw _) (.inl rfl) _, hqr.set_ 0 _, ownsRow_setCell_other hor (a := ⟨q, 0, none⟩) (own_blk_ne hor hqr (by decide)) _⟩⟩

set_option maxHeartbeats 4000000 in
set_option maxRecDepth 20000 in
theorem eachF_any (R : Reg) (hR : R.ok) (A : Option Addr) (c B q b : Nat) (hBb : B ≤ b) : ∀ (f : Nat) (L : List Int) (g c' d : Nat) (v : Value) (w : World) (_ : Lay R L) (_ : opN R L ≤ 2 * f)
    (_ : Reads w B 1 A R.C.length (R.C.map Value.bool)) (_ : b ≤ w.heap.size) (_ : Blk w q 26 #[v]) (_ : w.ownsRow b 3 1 (.slice (some ⟨g, 0, none⟩) R.C.length c') R.C.length (L.map (Value.int .i64))),
    Calls Try.prog 162 #[.agg #[.int .i64 R.W, .int .i64 R.T, .slice A R.C.length c], .slice (some ⟨g, 0, none⟩) R.C.length d, .func (.func 170) #[] #[.pointer (some ⟨q, 0, none⟩)]] w (EachOne R q b (allT R f L) w) := by
  intro f
  induction f with
  | zero =>
    intro L g c' d v w hL hn hr hb hq ho
    have hfn := opN_zero (R := R) (L := L) (by omega)
    rw [allT_none hfn]
    exact eachF_none R hR A c B q b hBb L g c' d v w hL hfn hr hb hq ho
  | succ f ih =>
    intro L g c' d v w hL hn hr hb hq ho
    by_cases hfn : fiV R L = none
    · rw [allT_none hfn]
      exact eachF_none R hR A c B q b hBb L g c' d v w hL hfn hr hb hq ho
    have HFN := Lib.hid hfn
    clear hfn
    have hl36 := (len_bd hR).2
    have hqlt := hq.lt
    have hW0 : CW1 w (w.alloc (boxR R.W R.T A R.C.length c)) R A c := ⟨(Below.refl _ _).alloc (Nat.le_refl _) _, Blk.new _ _ _⟩
    have hFR := fun (k : Nat) (hk : k < R.C.length) (way : Int) (w' : World) (hb' : Below w.heap.size w w') (hown : w'.ownsRow b 3 1 (.slice (some ⟨g, 0, none⟩) R.C.length c') R.C.length (L.map (Value.int .i64))) => hide (free_any R hR A c w'.heap.size L (some ⟨g, 0, none⟩) d k hk way hL.len w' ((hr.below (hb'.mono (Nat.le_trans hBb hb))).more (Nat.le_trans (Nat.le_trans hBb hb) hb'.size)) (Reads.of_own hown))
    have hLA := fun (k : Nat) (way : Int) (hf : frB R L k way = true) (w' : World) (hown : w'.ownsRow b 3 1 (.slice (some ⟨g, 0, none⟩) R.C.length c') R.C.length (L.map (Value.int .i64))) => hide (lay_any R hR A R.C.length c w'.heap.size L (some ⟨g, 0, none⟩) d k way (.inr ⟨_, _, rfl⟩) hL.len hf w' (Reads.of_own hown) (Nat.le_refl _))
    have hEA := fun (k : Nat) (way : Int) (hw : way = 1 ∨ way = 2) (hf : frB R L k way = true) (w' : World) (g2 c2 d2 : Nat) (hb' : Below w.heap.size w w') (ho' : w'.ownsRow b 3 1 (.slice (some ⟨g2, 0, none⟩) R.C.length c2) R.C.length ((lyV R L k way).map (Value.int .i64))) =>
      hide (ih (lyV R L k way) g2 c2 d2 v w' (lay_lyV hR hL (by rcases hw with rfl | rfl <;> rfl) hf) (by have := opN_lay hR hL.len (by omega) hf; omega) (hr.below (hb'.mono (Nat.le_trans hBb hb))) (Nat.le_trans hb hb'.size) (hq.below hb' hqlt) ho')
    have hCG := fun k (hk : k < R.C.length) w' (hb' : Below w.heap.size w w') => getB (hr.below (hb'.mono (Nat.le_trans hBb hb))) hk
    clear ih
    go_enter Try.func162, Try.ntmps162
    go_upto_region 2 with fail
    generalize w.alloc (boxR R.W R.T A R.C.length c) = w0 at *
    go_loopg [7] R.C.length (fun r s7 wr => ∃ k : Nat, k + r = R.C.length ∧ s7 = .int .i64 (k : Nat) ∧ (∀ j, j < k → opB R L j = false) ∧ wr = w0)
    case atStart => exact ⟨0, by omega, rfl, fun j hj => absurd hj (by omega), rfl⟩
    case round =>
      obtain ⟨k, hk, rfl, hall, rfl⟩ := hrel
      have HK := Lib.hid hk
      have HALL := Lib.hid hall
      clear hk hall
      have hbw := hW0.bel
      by_cases hlt : k < R.C.length
      · obtain ⟨ac, rfl, hac, hcc⟩ := hCG k hlt _ hbw
        have hop : opB R L k = (R.C.getD k false && decide (L.getD k 0 = 0)) := rfl
        have HOP := Lib.hid hop
        have hxk : wr.cell? ⟨g, k, none⟩ = some (.int .i64 (L.getD k 0)) := by
          rw [(hW0.own ho).cellAt k (by omega), List.getElem?_map, List.getD_eq_getElem?_getD, List.getElem?_eq_getElem (by rw [hL.len]; exact hlt)]; rfl
        obtain ⟨b0, b1, b2⟩ := blk3 hW0.box
        clear hop
        cases hcb : R.C.getD k false with
        | false =>
          rw [hcb] at hcc HOP
          have HNO : Hid (opB R L k = false) := Lib.hid (by rw [HOP.out]; rfl)
          clear hcb HOP
          go_wp2_with fail
          go_roundg (R.C.length - (k + 1))
          case measure => have := HK.out; omega
          case rel =>
            refine ⟨k + 1, by have := HK.out; omega, by go_num, fun j hj => ?_, rfl⟩
            by_cases hjk : j = k
            · subst hjk; exact HNO.out
            · exact HALL.out j (by omega)
        | true =>
          rw [hcb] at hcc HOP
          by_cases hz : L.getD k 0 = 0
          · have HYES : Hid (opB R L k = true) := Lib.hid (by rw [HOP.out, hz]; rfl)
            have hfi : fiV R L = some k := fiV_some.2 ⟨hlt, HYES.out, HALL.out⟩
            rw [hz] at hxk
            have hne : ((k : Int) == (R.C.length : Int)) = false := by simp; omega
            clear hz hcb HOP
            have HFI := Lib.hid (preT_two (f := f) hfi)
            have HXF : Hid (∀ j, 1 ≤ j ∧ j ≤ 2 → ∀ (M : List Int) (l : List (List Int)) (g5 c5 c6 : Nat) (w4 : World), preT R f L k j = M :: l → w.grownBy w4 (some q) → Blk w4 q 26 #[.slice (some ⟨g5, 0, none⟩) R.C.length c5] → w4.ownsRow b 3 1 (.slice (some ⟨g5, 0, none⟩) R.C.length c6) R.C.length (M.map (Value.int .i64)) →
                ∃ (M : List Int) (l : List (List Int)) (g c1 c2 : Nat), allT R (f + 1) L = M :: l ∧ w.grownBy w4 (some q) ∧ Blk w4 q 26 #[.slice (some ⟨g, 0, none⟩) R.C.length c1] ∧ w4.ownsRow b 3 1 (.slice (some ⟨g, 0, none⟩) R.C.length c2) R.C.length (M.map (Value.int .i64))) := Lib.hid fun j hj M l g5 c5 c6 w4 h1 h2 h3 h4 => by
              obtain ⟨l', h5⟩ := preT_tail hfi j hj h1
              exact ⟨M, l', g5, c5, c6, h5, h2, h3, h4⟩
            have hW6 := hW0.below (w2 := wr.alloc (.cells #[.int .i64 1, .int .i64 2] 3)) ((Below.refl _ _).alloc (Nat.le_refl _) _)
            have hq6 := Blk.new wr 3 #[.int .i64 1, .int .i64 2]
            have hbs := hbw.size
            go_upto_region 7 with fail
            generalize wr.alloc (.cells #[.int .i64 1, .int .i64 2] 3) = w6 at *
            clear hW0 b0 b1 b2 hxk hcc hbw
            generalize wr.heap.size = qb at *
            go_loopg [40] 2 (fun r s40 wx => ∃ j : Nat, j + r = 2 ∧ s40 = .int .i64 (j : Nat) ∧ Hid (preT R f L k j = []) ∧ CW1 w wx R (some ac) c ∧ Blk wx qb 3 #[.int .i64 1, .int .i64 2])
            case atStart => exact ⟨0, by omega, rfl, Lib.hid rfl, hW6, hq6⟩
            case round =>
              clear hW6 hq6
              obtain ⟨j, hk2, rfl, HPJ, hW, hqb⟩ := hrel
              rcases (show j = 0 ∨ j = 1 ∨ j = 2 by omega) with rfl | rfl | rfl
              · have HK2 := Lib.hid hk2
                clear hk2
                have q0 := hqb.cell 0
                simp at q0
                have hFRk := hFR k hlt 1
                have hp1 : preT R f L k 1 = preT R f L k 0 ++ (if frB R L k 1 = true then allT R f (lyV R L k 1) else []) := rfl
                obtain ⟨b0, b1, b2⟩ := blk3 hW.box
                go_upto_region 9 with fail
                have hWd := hW.below (Below.refl _ _).drew
                have hF1 := hFRk _ hWd.bel (hWd.own ho)
                cases hfb : frB R L k 1 with
                | false =>
                  rw [hfb] at hF1 hp1
                  have HP1 := Lib.hid hp1
                  clear hp1 hfb hFRk hLA hEA hFR
                  refine wp_region_any (by kernel_rfl) ?_
                  change wpAny _ _ _ _ _ _ _ (World.drew _)
                  refine wpAny_take (i := 1) (v := ?_) rfl (by kernel_rfl) (by kernel_rfl) (by kernel_rfl) (fun _ _ _ h => h) (Or.inl ⟨by kernel_rfl, ?_⟩) ?_
                  rotate_left
                  · intro w
                    go_simp
                    try with_reducible rfl
                  refine wpAny_take (i := 2) (v := ?_) rfl (by kernel_rfl) (by kernel_rfl) (by kernel_rfl) (fun _ _ _ h => h) (Or.inl ⟨by kernel_rfl, ?_⟩) ?_
                  rotate_left
                  · intro w
                    go_simp
                    try with_reducible rfl
                  refine wpAny_take (i := 3) (v := ?_) rfl (by kernel_rfl) (by kernel_rfl) (by kernel_rfl) (fun _ _ _ h => h) (Or.inl ⟨by kernel_rfl, ?_⟩) ?_
                  rotate_left
                  · intro w
                    go_simp
                    try with_reducible rfl
                  refine wpAny_ready (rs := [0]) (by kernel_rfl) (by simp) ?_
                  refine AllReady.cons rfl (fun K hK => ?_) AllReady.nil
                  go_simp
                  refine hK _ _ ?_
                  clear hK K
                  refine wpAny_ready (rs := [4]) (by kernel_rfl) (by simp) ?_
                  refine AllReady.cons rfl (fun K hK => ?_) AllReady.nil
                  go_simp
                  go_at_call 179
                  (with_reducible refine (unhide hF1).mono ?_)
                  rintro e w2 ⟨rfl, hb2⟩
                  refine hK _ _ ?_
                  clear hK K
                  refine wpAny_take (i := 5) (v := ?_) rfl (by kernel_rfl) (by kernel_rfl) (by kernel_rfl) (fun _ _ _ h => h) (Or.inl ⟨by kernel_rfl, ?_⟩) ?_
                  rotate_left
                  · intro w
                    go_simp
                    try with_reducible rfl
                  refine wpAny_take (i := 6) rfl (by kernel_rfl) (by kernel_rfl) (by kernel_rfl) (fun _ _ _ h => h) (Or.inr ⟨by kernel_rfl, rfl⟩) ?_
                  refine wpAny_take (i := 7) rfl (by kernel_rfl) (by kernel_rfl) (by kernel_rfl) (fun _ _ _ h => h) (Or.inr ⟨by kernel_rfl, rfl⟩) ?_
                  refine wpAny_take (i := 8) rfl (by kernel_rfl) (by kernel_rfl) (by kernel_rfl) (fun _ _ _ h => h) (Or.inr ⟨by kernel_rfl, rfl⟩) ?_
                  refine wpAny_take (i := 9) rfl (by kernel_rfl) (by kernel_rfl) (by kernel_rfl) (fun _ _ _ h => h) (Or.inr ⟨by kernel_rfl, rfl⟩) ?_
                  refine wpAny_take (i := 10) rfl (by kernel_rfl) (by kernel_rfl) (by kernel_rfl) (fun _ _ _ h => h) (Or.inr ⟨by kernel_rfl, rfl⟩) ?_
                  refine wpAny_take (i := 11) rfl (by kernel_rfl) (by kernel_rfl) (by kernel_rfl) (fun _ _ _ h => h) (Or.inr ⟨by kernel_rfl, rfl⟩) ?_
                  refine wpAny_take (i := 12) rfl (by kernel_rfl) (by kernel_rfl) (by kernel_rfl) (fun _ _ _ h => h) (Or.inr ⟨by kernel_rfl, rfl⟩) ?_
                  refine wpAny_take (i := 13) rfl (by kernel_rfl) (by kernel_rfl) (by kernel_rfl) (fun _ _ _ h => h) (Or.inr ⟨by kernel_rfl, rfl⟩) ?_
                  refine wpAny_take (i := 14) rfl (by kernel_rfl) (by kernel_rfl) (by kernel_rfl) (fun _ _ _ h => h) (Or.inr ⟨by kernel_rfl, rfl⟩) ?_
                  refine wpAny_take (i := 15) (v := ?_) rfl (by kernel_rfl) (by kernel_rfl) (by kernel_rfl) (fun _ _ _ h => h) (Or.inl ⟨by kernel_rfl, ?_⟩) ?_
                  rotate_left
                  · intro w
                    go_simp
                    try with_reducible rfl
                  refine wpAny_done (by kernel_rfl) ?_ _
                  have hW2 := hWd.below hb2
                  have hqb2 := hqb.drew.below hb2 hqb.drew.lt
                  clear q0 b0 b1 b2 hW hWd hF1 hb2
                  go_simp
                  go_wp2_with fail
                  go_roundg 1
                  case measure => have := HK2.out; omega
                  case rel => exact ⟨1, by have := HK2.out; omega, by go_num, Lib.hid (by rw [HP1.out, HPJ.out]; rfl), hW2, hqb2⟩
                | true =>
                  rw [hfb, if_pos rfl] at hp1
                  rw [hfb] at hF1
                  have HP1 := Lib.hid hp1
                  have hLAk := hLA k 1 hfb
                  have hEAk := hEA k 1 (by omega) hfb
                  clear hp1 hfb hFRk hLA hEA hFR
                  refine wp_region_any (by kernel_rfl) ?_
                  change wpAny _ _ _ _ _ _ _ (World.drew _)
                  refine wpAny_take (i := 1) (v := ?_) rfl (by kernel_rfl) (by kernel_rfl) (by kernel_rfl) (fun _ _ _ h => h) (Or.inl ⟨by kernel_rfl, ?_⟩) ?_
                  rotate_left
                  · intro w
                    go_simp
                    try with_reducible rfl
                  refine wpAny_take (i := 2) (v := ?_) rfl (by kernel_rfl) (by kernel_rfl) (by kernel_rfl) (fun _ _ _ h => h) (Or.inl ⟨by kernel_rfl, ?_⟩) ?_
                  rotate_left
                  · intro w
                    go_simp
                    try with_reducible rfl
                  refine wpAny_take (i := 3) (v := ?_) rfl (by kernel_rfl) (by kernel_rfl) (by kernel_rfl) (fun _ _ _ h => h) (Or.inl ⟨by kernel_rfl, ?_⟩) ?_
                  rotate_left
                  · intro w
                    go_simp
                    try with_reducible rfl
                  refine wpAny_ready (rs := [0]) (by kernel_rfl) (by simp) ?_
                  refine AllReady.cons rfl (fun K hK => ?_) AllReady.nil
                  go_simp
                  refine hK _ _ ?_
                  clear hK K
                  refine wpAny_ready (rs := [4]) (by kernel_rfl) (by simp) ?_
                  refine AllReady.cons rfl (fun K hK => ?_) AllReady.nil
                  go_simp
                  go_at_call 179
                  (with_reducible refine (unhide hF1).mono ?_)
                  rintro e w2 ⟨rfl, hb2⟩
                  have hW2 := hWd.below hb2
                  have hqb2 := hqb.drew.below hb2 hqb.drew.lt
                  have hLA2 := hLAk w2 (hW2.own ho)
                  clear b0 b1 b2 hb2 hF1
                  obtain ⟨b0, b1, b2⟩ := blk3 hW2.box
                  refine hK _ _ ?_
                  clear hK K
                  refine wpAny_take (i := 5) (v := ?_) rfl (by kernel_rfl) (by kernel_rfl) (by kernel_rfl) (fun _ _ _ h => h) (Or.inl ⟨by kernel_rfl, ?_⟩) ?_
                  rotate_left
                  · intro w
                    go_simp
                    try with_reducible rfl
                  refine wpAny_take (i := 8) (v := ?_) rfl (by kernel_rfl) (by kernel_rfl) (by kernel_rfl) (fun _ _ _ h => h) (Or.inl ⟨by kernel_rfl, ?_⟩) ?_
                  rotate_left
                  · intro w
                    go_simp
                    try with_reducible rfl
                  refine wpAny_take (i := 9) (v := ?_) rfl (by kernel_rfl) (by kernel_rfl) (by kernel_rfl) (fun _ _ _ h => h) (Or.inl ⟨by kernel_rfl, ?_⟩) ?_
                  rotate_left
                  · intro w
                    go_simp
                    try with_reducible rfl
                  refine wpAny_take (i := 10) (v := ?_) rfl (by kernel_rfl) (by kernel_rfl) (by kernel_rfl) (fun _ _ _ h => h) (Or.inl ⟨by kernel_rfl, ?_⟩) ?_
                  rotate_left
                  · intro w
                    go_simp
                    try with_reducible rfl
                  refine wpAny_take (i := 12) (v := ?_) rfl (by kernel_rfl) (by kernel_rfl) (by kernel_rfl) (fun _ _ _ h => h) (Or.inl ⟨by kernel_rfl, ?_⟩) ?_
                  rotate_left
                  · intro w
                    go_simp
                    try with_reducible rfl
                  refine wpAny_ready (rs := [6, 7]) (by kernel_rfl) (by simp) ?_
                  refine AllReady.cons rfl (fun K hK => ?_) (AllReady.cons rfl (fun K hK => ?_) AllReady.nil)
                  · go_simp
                    refine hK _ _ ?_
                    clear hK K
                    refine wpAny_ready (rs := [7]) (by kernel_rfl) (by simp) ?_
                    refine AllReady.cons rfl (fun K hK => ?_) AllReady.nil
                    go_simp
                    refine hK _ _ ?_
                    clear hK K
                    refine wpAny_ready (rs := [11]) (by kernel_rfl) (by simp) ?_
                    refine AllReady.cons rfl (fun K hK => ?_) AllReady.nil
                    go_simp
                    go_at_call 180
                    (with_reducible refine (unhide hLA2).mono ?_)
                    rintro e w3 ⟨g3, c3, c4, rfl, ho3, hb3⟩
                    have hW3 := hW2.below hb3
                    have hqb3 := hqb2.below hb3 hqb2.lt
                    clear b0 b1 b2
                    obtain ⟨b0, b1, b2⟩ := blk3 hW3.box
                    refine hK _ _ ?_
                    clear hK K
                    refine wpAny_ready (rs := [13]) (by kernel_rfl) (by simp) ?_
                    refine AllReady.cons rfl (fun K hK => ?_) AllReady.nil
                    have hE3 := hEAk w3 g3 c4 c3 hW3.bel (own_mono ho3 (Nat.le_trans hb hW2.bel.size))
                    go_simp
                    go_at_call 162
                    (with_reducible refine (unhide hE3).mono ?_)
                    rintro e w4 ⟨bb, rfl, hx1, hx2⟩
                    have hqb4 := hqb3
                    refine hK _ _ ?_
                    clear hK K
                    refine wpAny_take (i := 14) (v := ?_) rfl (by kernel_rfl) (by kernel_rfl) (by kernel_rfl) (fun _ _ _ h => h) (Or.inl ⟨by kernel_rfl, ?_⟩) ?_
                    rotate_left
                    · intro w
                      go_simp
                      try with_reducible rfl
                    refine wpAny_take (i := 15) (v := ?_) rfl (by kernel_rfl) (by kernel_rfl) (by kernel_rfl) (fun _ _ _ h => h) (Or.inl ⟨by kernel_rfl, ?_⟩) ?_
                    rotate_left
                    · intro w
                      go_simp
                      try with_reducible rfl
                    refine wpAny_done (by kernel_rfl) ?_ _
                    clear q0 b0 b1 b2 hW hWd hW2 hqb hqb2 ho3 hb3 hLA2 hE3
                    rw [HPJ.out, List.nil_append] at HP1
                    go_simp
                    cases bb with
                    | true =>
                      obtain ⟨hTs, hb4⟩ := hx1 rfl
                      have hW4 := hW3.below hb4
                      have hqb5 := hqb4.below hb4 hqb4.lt
                      clear hx1 hx2 hW3 hqb3 hqb4 hb4
                      go_wp2_with fail
                      go_roundg 1
                      case measure => have := HK2.out; omega
                      case rel => exact ⟨1, by have := HK2.out; omega, by go_num, Lib.hid (by rw [HP1.out, hTs]), hW4, hqb5⟩
                    | false =>
                      obtain ⟨M, l, g5, c5, c6, hTs, hg4, hq4, ho4⟩ := hx2 rfl
                      have hbw4 := hW3.bel
                      clear hx1 hx2 hW3 hqb3 hqb4
                      go_wp2_with fail
                      go_ret
                      exact ⟨false, rfl, (fun h => by cases h), fun _ => HXF.out 1 (by omega) M l g5 c5 c6 w4 (by rw [HP1.out, hTs]) ((only_of_below hbw4 _).trans hg4) hq4 ho4⟩
                  · go_simp
                    refine hK _ _ ?_
                    clear hK K
                    refine wpAny_ready (rs := [6, 11]) (by kernel_rfl) (by simp) ?_
                    refine AllReady.cons rfl (fun K hK => ?_) (AllReady.cons rfl (fun K hK => ?_) AllReady.nil)
                    · go_simp
                      refine hK _ _ ?_
                      clear hK K
                      refine wpAny_ready (rs := [11]) (by kernel_rfl) (by simp) ?_
                      refine AllReady.cons rfl (fun K hK => ?_) AllReady.nil
                      go_simp
                      go_at_call 180
                      (with_reducible refine (unhide hLA2).mono ?_)
                      rintro e w3 ⟨g3, c3, c4, rfl, ho3, hb3⟩
                      have hW3 := hW2.below hb3
                      have hqb3 := hqb2.below hb3 hqb2.lt
                      clear b0 b1 b2
                      obtain ⟨b0, b1, b2⟩ := blk3 hW3.box
                      refine hK _ _ ?_
                      clear hK K
                      refine wpAny_ready (rs := [13]) (by kernel_rfl) (by simp) ?_
                      refine AllReady.cons rfl (fun K hK => ?_) AllReady.nil
                      have hE3 := hEAk w3 g3 c4 c3 hW3.bel (own_mono ho3 (Nat.le_trans hb hW2.bel.size))
                      go_simp
                      go_at_call 162
                      (with_reducible refine (unhide hE3).mono ?_)
                      rintro e w4 ⟨bb, rfl, hx1, hx2⟩
                      have hqb4 := hqb3
                      refine hK _ _ ?_
                      clear hK K
                      refine wpAny_take (i := 14) (v := ?_) rfl (by kernel_rfl) (by kernel_rfl) (by kernel_rfl) (fun _ _ _ h => h) (Or.inl ⟨by kernel_rfl, ?_⟩) ?_
                      rotate_left
                      · intro w
                        go_simp
                        try with_reducible rfl
                      refine wpAny_take (i := 15) (v := ?_) rfl (by kernel_rfl) (by kernel_rfl) (by kernel_rfl) (fun _ _ _ h => h) (Or.inl ⟨by kernel_rfl, ?_⟩) ?_
                      rotate_left
                      · intro w
                        go_simp
                        try with_reducible rfl
                      refine wpAny_done (by kernel_rfl) ?_ _
                      clear q0 b0 b1 b2 hW hWd hW2 hqb hqb2 ho3 hb3 hLA2 hE3
                      rw [HPJ.out, List.nil_append] at HP1
                      go_simp
                      cases bb with
                      | true =>
                        obtain ⟨hTs, hb4⟩ := hx1 rfl
                        have hW4 := hW3.below hb4
                        have hqb5 := hqb4.below hb4 hqb4.lt
                        clear hx1 hx2 hW3 hqb3 hqb4 hb4
                        go_wp2_with fail
                        go_roundg 1
                        case measure => have := HK2.out; omega
                        case rel => exact ⟨1, by have := HK2.out; omega, by go_num, Lib.hid (by rw [HP1.out, hTs]), hW4, hqb5⟩
                      | false =>
                        obtain ⟨M, l, g5, c5, c6, hTs, hg4, hq4, ho4⟩ := hx2 rfl
                        have hbw4 := hW3.bel
                        clear hx1 hx2 hW3 hqb3 hqb4
                        go_wp2_with fail
                        go_ret
                        exact ⟨false, rfl, (fun h => by cases h), fun _ => HXF.out 1 (by omega) M l g5 c5 c6 w4 (by rw [HP1.out, hTs]) ((only_of_below hbw4 _).trans hg4) hq4 ho4⟩
                    · go_simp
                      go_at_call 180
                      (with_reducible refine (unhide hLA2).mono ?_)
                      rintro e w3 ⟨g3, c3, c4, rfl, ho3, hb3⟩
                      have hW3 := hW2.below hb3
                      have hqb3 := hqb2.below hb3 hqb2.lt
                      clear b0 b1 b2
                      obtain ⟨b0, b1, b2⟩ := blk3 hW3.box
                      refine hK _ _ ?_
                      clear hK K
                      refine wpAny_ready (rs := [6]) (by kernel_rfl) (by simp) ?_
                      refine AllReady.cons rfl (fun K hK => ?_) AllReady.nil
                      go_simp
                      refine hK _ _ ?_
                      clear hK K
                      refine wpAny_ready (rs := [13]) (by kernel_rfl) (by simp) ?_
                      refine AllReady.cons rfl (fun K hK => ?_) AllReady.nil
                      have hE3 := hEAk w3 g3 c4 c3 hW3.bel (own_mono ho3 (Nat.le_trans hb hW2.bel.size))
                      go_simp
                      go_at_call 162
                      (with_reducible refine (unhide hE3).mono ?_)
                      rintro e w4 ⟨bb, rfl, hx1, hx2⟩
                      have hqb4 := hqb3
                      refine hK _ _ ?_
                      clear hK K
                      refine wpAny_take (i := 14) (v := ?_) rfl (by kernel_rfl) (by kernel_rfl) (by kernel_rfl) (fun _ _ _ h => h) (Or.inl ⟨by kernel_rfl, ?_⟩) ?_
                      rotate_left
                      · intro w
                        go_simp
                        try with_reducible rfl
                      refine wpAny_take (i := 15) (v := ?_) rfl (by kernel_rfl) (by kernel_rfl) (by kernel_rfl) (fun _ _ _ h => h) (Or.inl ⟨by kernel_rfl, ?_⟩) ?_
                      rotate_left
                      · intro w
                        go_simp
                        try with_reducible rfl
                      refine wpAny_done (by kernel_rfl) ?_ _
                      clear q0 b0 b1 b2 hW hWd hW2 hqb hqb2 ho3 hb3 hLA2 hE3
                      rw [HPJ.out, List.nil_append] at HP1
                      go_simp
                      cases bb with
                      | true =>
                        obtain ⟨hTs, hb4⟩ := hx1 rfl
                        have hW4 := hW3.below hb4
                        have hqb5 := hqb4.below hb4 hqb4.lt
                        clear hx1 hx2 hW3 hqb3 hqb4 hb4
                        go_wp2_with fail
                        go_roundg 1
                        case measure => have := HK2.out; omega
                        case rel => exact ⟨1, by have := HK2.out; omega, by go_num, Lib.hid (by rw [HP1.out, hTs]), hW4, hqb5⟩
                      | false =>
                        obtain ⟨M, l, g5, c5, c6, hTs, hg4, hq4, ho4⟩ := hx2 rfl
                        have hbw4 := hW3.bel
                        clear hx1 hx2 hW3 hqb3 hqb4
                        go_wp2_with fail
                        go_ret
                        exact ⟨false, rfl, (fun h => by cases h), fun _ => HXF.out 1 (by omega) M l g5 c5 c6 w4 (by rw [HP1.out, hTs]) ((only_of_below hbw4 _).trans hg4) hq4 ho4⟩
              · have HK2 := Lib.hid hk2
                clear hk2
                have q0 := hqb.cell 1
                simp at q0
                have hFRk := hFR k hlt 2
                have hp1 : preT R f L k 2 = preT R f L k 1 ++ (if frB R L k 2 = true then allT R f (lyV R L k 2) else []) := rfl
                obtain ⟨b0, b1, b2⟩ := blk3 hW.box
                go_upto_region 9 with fail
                have hWd := hW.below (Below.refl _ _).drew
                have hF1 := hFRk _ hWd.bel (hWd.own ho)
                cases hfb : frB R L k 2 with
                | false =>
                  rw [hfb] at hF1 hp1
                  have HP1 := Lib.hid hp1
                  clear hp1 hfb hFRk hLA hEA hFR
                  refine wp_region_any (by kernel_rfl) ?_
                  change wpAny _ _ _ _ _ _ _ (World.drew _)
                  refine wpAny_take (i := 1) (v := ?_) rfl (by kernel_rfl) (by kernel_rfl) (by kernel_rfl) (fun _ _ _ h => h) (Or.inl ⟨by kernel_rfl, ?_⟩) ?_
                  rotate_left
                  · intro w
                    go_simp
                    try with_reducible rfl
                  refine wpAny_take (i := 2) (v := ?_) rfl (by kernel_rfl) (by kernel_rfl) (by kernel_rfl) (fun _ _ _ h => h) (Or.inl ⟨by kernel_rfl, ?_⟩) ?_
                  rotate_left
                  · intro w
                    go_simp
                    try with_reducible rfl
                  refine wpAny_take (i := 3) (v := ?_) rfl (by kernel_rfl) (by kernel_rfl) (by kernel_rfl) (fun _ _ _ h => h) (Or.inl ⟨by kernel_rfl, ?_⟩) ?_
                  rotate_left
                  · intro w
                    go_simp
                    try with_reducible rfl
                  refine wpAny_ready (rs := [0]) (by kernel_rfl) (by simp) ?_
                  refine AllReady.cons rfl (fun K hK => ?_) AllReady.nil
                  go_simp
                  refine hK _ _ ?_
                  clear hK K
                  refine wpAny_ready (rs := [4]) (by kernel_rfl) (by simp) ?_
                  refine AllReady.cons rfl (fun K hK => ?_) AllReady.nil
                  go_simp
                  go_at_call 179
                  (with_reducible refine (unhide hF1).mono ?_)
                  rintro e w2 ⟨rfl, hb2⟩
                  refine hK _ _ ?_
                  clear hK K
                  refine wpAny_take (i := 5) (v := ?_) rfl (by kernel_rfl) (by kernel_rfl) (by kernel_rfl) (fun _ _ _ h => h) (Or.inl ⟨by kernel_rfl, ?_⟩) ?_
                  rotate_left
                  · intro w
                    go_simp
                    try with_reducible rfl
                  refine wpAny_take (i := 6) rfl (by kernel_rfl) (by kernel_rfl) (by kernel_rfl) (fun _ _ _ h => h) (Or.inr ⟨by kernel_rfl, rfl⟩) ?_
                  refine wpAny_take (i := 7) rfl (by kernel_rfl) (by kernel_rfl) (by kernel_rfl) (fun _ _ _ h => h) (Or.inr ⟨by kernel_rfl, rfl⟩) ?_
                  refine wpAny_take (i := 8) rfl (by kernel_rfl) (by kernel_rfl) (by kernel_rfl) (fun _ _ _ h => h) (Or.inr ⟨by kernel_rfl, rfl⟩) ?_
                  refine wpAny_take (i := 9) rfl (by kernel_rfl) (by kernel_rfl) (by kernel_rfl) (fun _ _ _ h => h) (Or.inr ⟨by kernel_rfl, rfl⟩) ?_
                  refine wpAny_take (i := 10) rfl (by kernel_rfl) (by kernel_rfl) (by kernel_rfl) (fun _ _ _ h => h) (Or.inr ⟨by kernel_rfl, rfl⟩) ?_
                  refine wpAny_take (i := 11) rfl (by kernel_rfl) (by kernel_rfl) (by kernel_rfl) (fun _ _ _ h => h) (Or.inr ⟨by kernel_rfl, rfl⟩) ?_
                  refine wpAny_take (i := 12) rfl (by kernel_rfl) (by kernel_rfl) (by kernel_rfl) (fun _ _ _ h => h) (Or.inr ⟨by kernel_rfl, rfl⟩) ?_
                  refine wpAny_take (i := 13) rfl (by kernel_rfl) (by kernel_rfl) (by kernel_rfl) (fun _ _ _ h => h) (Or.inr ⟨by kernel_rfl, rfl⟩) ?_
                  refine wpAny_take (i := 14) rfl (by kernel_rfl) (by kernel_rfl) (by kernel_rfl) (fun _ _ _ h => h) (Or.inr ⟨by kernel_rfl, rfl⟩) ?_
                  refine wpAny_take (i := 15) (v := ?_) rfl (by kernel_rfl) (by kernel_rfl) (by kernel_rfl) (fun _ _ _ h => h) (Or.inl ⟨by kernel_rfl, ?_⟩) ?_
                  rotate_left
                  · intro w
                    go_simp
                    try with_reducible rfl
                  refine wpAny_done (by kernel_rfl) ?_ _
                  have hW2 := hWd.below hb2
                  have hqb2 := hqb.drew.below hb2 hqb.drew.lt
                  clear q0 b0 b1 b2 hW hWd hF1 hb2
                  go_simp
                  go_wp2_with fail
                  go_roundg 0
                  case measure => have := HK2.out; omega
                  case rel => exact ⟨2, by have := HK2.out; omega, by go_num, Lib.hid (by rw [HP1.out, HPJ.out]; rfl), hW2, hqb2⟩
                | true =>
                  rw [hfb, if_pos rfl] at hp1
                  rw [hfb] at hF1
                  have HP1 := Lib.hid hp1
                  have hLAk := hLA k 2 hfb
                  have hEAk := hEA k 2 (by omega) hfb
                  clear hp1 hfb hFRk hLA hEA hFR
                  refine wp_region_any (by kernel_rfl) ?_
                  change wpAny _ _ _ _ _ _ _ (World.drew _)
                  refine wpAny_take (i := 1) (v := ?_) rfl (by kernel_rfl) (by kernel_rfl) (by kernel_rfl) (fun _ _ _ h => h) (Or.inl ⟨by kernel_rfl, ?_⟩) ?_
                  rotate_left
                  · intro w
                    go_simp
                    try with_reducible rfl
                  refine wpAny_take (i := 2) (v := ?_) rfl (by kernel_rfl) (by kernel_rfl) (by kernel_rfl) (fun _ _ _ h => h) (Or.inl ⟨by kernel_rfl, ?_⟩) ?_
                  rotate_left
                  · intro w
                    go_simp
                    try with_reducible rfl
                  refine wpAny_take (i := 3) (v := ?_) rfl (by kernel_rfl) (by kernel_rfl) (by kernel_rfl) (fun _ _ _ h => h) (Or.inl ⟨by kernel_rfl, ?_⟩) ?_
                  rotate_left
                  · intro w
                    go_simp
                    try with_reducible rfl
                  refine wpAny_ready (rs := [0]) (by kernel_rfl) (by simp) ?_
                  refine AllReady.cons rfl (fun K hK => ?_) AllReady.nil
                  go_simp
                  refine hK _ _ ?_
                  clear hK K
                  refine wpAny_ready (rs := [4]) (by kernel_rfl) (by simp) ?_
                  refine AllReady.cons rfl (fun K hK => ?_) AllReady.nil
                  go_simp
                  go_at_call 179
                  (with_reducible refine (unhide hF1).mono ?_)
                  rintro e w2 ⟨rfl, hb2⟩
                  have hW2 := hWd.below hb2
                  have hqb2 := hqb.drew.below hb2 hqb.drew.lt
                  have hLA2 := hLAk w2 (hW2.own ho)
                  clear b0 b1 b2 hb2 hF1
                  obtain ⟨b0, b1, b2⟩ := blk3 hW2.box
                  refine hK _ _ ?_
                  clear hK K
                  refine wpAny_take (i := 5) (v := ?_) rfl (by kernel_rfl) (by kernel_rfl) (by kernel_rfl) (fun _ _ _ h => h) (Or.inl ⟨by kernel_rfl, ?_⟩) ?_
                  rotate_left
                  · intro w
                    go_simp
                    try with_reducible rfl
                  refine wpAny_take (i := 8) (v := ?_) rfl (by kernel_rfl) (by kernel_rfl) (by kernel_rfl) (fun _ _ _ h => h) (Or.inl ⟨by kernel_rfl, ?_⟩) ?_
                  rotate_left
                  · intro w
                    go_simp
                    try with_reducible rfl
                  refine wpAny_take (i := 9) (v := ?_) rfl (by kernel_rfl) (by kernel_rfl) (by kernel_rfl) (fun _ _ _ h => h) (Or.inl ⟨by kernel_rfl, ?_⟩) ?_
                  rotate_left
                  · intro w
                    go_simp
                    try with_reducible rfl
                  refine wpAny_take (i := 10) (v := ?_) rfl (by kernel_rfl) (by kernel_rfl) (by kernel_rfl) (fun _ _ _ h => h) (Or.inl ⟨by kernel_rfl, ?_⟩) ?_
                  rotate_left
                  · intro w
                    go_simp
                    try with_reducible rfl
                  refine wpAny_take (i := 12) (v := ?_) rfl (by kernel_rfl) (by kernel_rfl) (by kernel_rfl) (fun _ _ _ h => h) (Or.inl ⟨by kernel_rfl, ?_⟩) ?_
                  rotate_left
                  · intro w
                    go_simp
                    try with_reducible rfl
                  refine wpAny_ready (rs := [6, 7]) (by kernel_rfl) (by simp) ?_
                  refine AllReady.cons rfl (fun K hK => ?_) (AllReady.cons rfl (fun K hK => ?_) AllReady.nil)
                  · go_simp
                    refine hK _ _ ?_
                    clear hK K
                    refine wpAny_ready (rs := [7]) (by kernel_rfl) (by simp) ?_
                    refine AllReady.cons rfl (fun K hK => ?_) AllReady.nil
                    go_simp
                    refine hK _ _ ?_
                    clear hK K
                    refine wpAny_ready (rs := [11]) (by kernel_rfl) (by simp) ?_
                    refine AllReady.cons rfl (fun K hK => ?_) AllReady.nil
                    go_simp
                    go_at_call 180
                    (with_reducible refine (unhide hLA2).mono ?_)
                    rintro e w3 ⟨g3, c3, c4, rfl, ho3, hb3⟩
                    have hW3 := hW2.below hb3
                    have hqb3 := hqb2.below hb3 hqb2.lt
                    clear b0 b1 b2
                    obtain ⟨b0, b1, b2⟩ := blk3 hW3.box
                    refine hK _ _ ?_
                    clear hK K
                    refine wpAny_ready (rs := [13]) (by kernel_rfl) (by simp) ?_
                    refine AllReady.cons rfl (fun K hK => ?_) AllReady.nil
                    have hE3 := hEAk w3 g3 c4 c3 hW3.bel (own_mono ho3 (Nat.le_trans hb hW2.bel.size))
                    go_simp
                    go_at_call 162
                    (with_reducible refine (unhide hE3).mono ?_)
                    rintro e w4 ⟨bb, rfl, hx1, hx2⟩
                    have hqb4 := hqb3
                    refine hK _ _ ?_
                    clear hK K
                    refine wpAny_take (i := 14) (v := ?_) rfl (by kernel_rfl) (by kernel_rfl) (by kernel_rfl) (fun _ _ _ h => h) (Or.inl ⟨by kernel_rfl, ?_⟩) ?_
                    rotate_left
                    · intro w
                      go_simp
                      try with_reducible rfl
                    refine wpAny_take (i := 15) (v := ?_) rfl (by kernel_rfl) (by kernel_rfl) (by kernel_rfl) (fun _ _ _ h => h) (Or.inl ⟨by kernel_rfl, ?_⟩) ?_
                    rotate_left
                    · intro w
                      go_simp
                      try with_reducible rfl
                    refine wpAny_done (by kernel_rfl) ?_ _
                    clear q0 b0 b1 b2 hW hWd hW2 hqb hqb2 ho3 hb3 hLA2 hE3
                    rw [HPJ.out, List.nil_append] at HP1
                    go_simp
                    cases bb with
                    | true =>
                      obtain ⟨hTs, hb4⟩ := hx1 rfl
                      have hW4 := hW3.below hb4
                      have hqb5 := hqb4.below hb4 hqb4.lt
                      clear hx1 hx2 hW3 hqb3 hqb4 hb4
                      go_wp2_with fail
                      go_roundg 0
                      case measure => have := HK2.out; omega
                      case rel => exact ⟨2, by have := HK2.out; omega, by go_num, Lib.hid (by rw [HP1.out, hTs]), hW4, hqb5⟩
                    | false =>
                      obtain ⟨M, l, g5, c5, c6, hTs, hg4, hq4, ho4⟩ := hx2 rfl
                      have hbw4 := hW3.bel
                      clear hx1 hx2 hW3 hqb3 hqb4
                      go_wp2_with fail
                      go_ret
                      exact ⟨false, rfl, (fun h => by cases h), fun _ => HXF.out 2 (by omega) M l g5 c5 c6 w4 (by rw [HP1.out, hTs]) ((only_of_below hbw4 _).trans hg4) hq4 ho4⟩
                  · go_simp
                    refine hK _ _ ?_
                    clear hK K
                    refine wpAny_ready (rs := [6, 11]) (by kernel_rfl) (by simp) ?_
                    refine AllReady.cons rfl (fun K hK => ?_) (AllReady.cons rfl (fun K hK => ?_) AllReady.nil)
                    · go_simp
                      refine hK _ _ ?_
                      clear hK K
                      refine wpAny_ready (rs := [11]) (by kernel_rfl) (by simp) ?_
                      refine AllReady.cons rfl (fun K hK => ?_) AllReady.nil
                      go_simp
                      go_at_call 180
                      (with_reducible refine (unhide hLA2).mono ?_)
                      rintro e w3 ⟨g3, c3, c4, rfl, ho3, hb3⟩
                      have hW3 := hW2.below hb3
                      have hqb3 := hqb2.below hb3 hqb2.lt
                      clear b0 b1 b2
                      obtain ⟨b0, b1, b2⟩ := blk3 hW3.box
                      refine hK _ _ ?_
                      clear hK K
                      refine wpAny_ready (rs := [13]) (by kernel_rfl) (by simp) ?_
                      refine AllReady.cons rfl (fun K hK => ?_) AllReady.nil
                      have hE3 := hEAk w3 g3 c4 c3 hW3.bel (own_mono ho3 (Nat.le_trans hb hW2.bel.size))
                      go_simp
                      go_at_call 162
                      (with_reducible refine (unhide hE3).mono ?_)
                      rintro e w4 ⟨bb, rfl, hx1, hx2⟩
                      have hqb4 := hqb3
                      refine hK _ _ ?_
                      clear hK K
                      refine wpAny_take (i := 14) (v := ?_) rfl (by kernel_rfl) (by kernel_rfl) (by kernel_rfl) (fun _ _ _ h => h) (Or.inl ⟨by kernel_rfl, ?_⟩) ?_
                      rotate_left
                      · intro w
                        go_simp
                        try with_reducible rfl
                      refine wpAny_take (i := 15) (v := ?_) rfl (by kernel_rfl) (by kernel_rfl) (by kernel_rfl) (fun _ _ _ h => h) (Or.inl ⟨by kernel_rfl, ?_⟩) ?_
                      rotate_left
                      · intro w
                        go_simp
                        try with_reducible rfl
                      refine wpAny_done (by kernel_rfl) ?_ _
                      clear q0 b0 b1 b2 hW hWd hW2 hqb hqb2 ho3 hb3 hLA2 hE3
                      rw [HPJ.out, List.nil_append] at HP1
                      go_simp
                      cases bb with
                      | true =>
                        obtain ⟨hTs, hb4⟩ := hx1 rfl
                        have hW4 := hW3.below hb4
                        have hqb5 := hqb4.below hb4 hqb4.lt
                        clear hx1 hx2 hW3 hqb3 hqb4 hb4
                        go_wp2_with fail
                        go_roundg 0
                        case measure => have := HK2.out; omega
                        case rel => exact ⟨2, by have := HK2.out; omega, by go_num, Lib.hid (by rw [HP1.out, hTs]), hW4, hqb5⟩
                      | false =>
                        obtain ⟨M, l, g5, c5, c6, hTs, hg4, hq4, ho4⟩ := hx2 rfl
                        have hbw4 := hW3.bel
                        clear hx1 hx2 hW3 hqb3 hqb4
                        go_wp2_with fail
                        go_ret
                        exact ⟨false, rfl, (fun h => by cases h), fun _ => HXF.out 2 (by omega) M l g5 c5 c6 w4 (by rw [HP1.out, hTs]) ((only_of_below hbw4 _).trans hg4) hq4 ho4⟩
                    · go_simp
                      go_at_call 180
                      (with_reducible refine (unhide hLA2).mono ?_)
                      rintro e w3 ⟨g3, c3, c4, rfl, ho3, hb3⟩
                      have hW3 := hW2.below hb3
                      have hqb3 := hqb2.below hb3 hqb2.lt
                      clear b0 b1 b2
                      obtain ⟨b0, b1, b2⟩ := blk3 hW3.box
                      refine hK _ _ ?_
                      clear hK K
                      refine wpAny_ready (rs := [6]) (by kernel_rfl) (by simp) ?_
                      refine AllReady.cons rfl (fun K hK => ?_) AllReady.nil
                      go_simp
                      refine hK _ _ ?_
                      clear hK K
                      refine wpAny_ready (rs := [13]) (by kernel_rfl) (by simp) ?_
                      refine AllReady.cons rfl (fun K hK => ?_) AllReady.nil
                      have hE3 := hEAk w3 g3 c4 c3 hW3.bel (own_mono ho3 (Nat.le_trans hb hW2.bel.size))
                      go_simp
                      go_at_call 162
                      (with_reducible refine (unhide hE3).mono ?_)
                      rintro e w4 ⟨bb, rfl, hx1, hx2⟩
                      have hqb4 := hqb3
                      refine hK _ _ ?_
                      clear hK K
                      refine wpAny_take (i := 14) (v := ?_) rfl (by kernel_rfl) (by kernel_rfl) (by kernel_rfl) (fun _ _ _ h => h) (Or.inl ⟨by kernel_rfl, ?_⟩) ?_
                      rotate_left
                      · intro w
                        go_simp
                        try with_reducible rfl
                      refine wpAny_take (i := 15) (v := ?_) rfl (by kernel_rfl) (by kernel_rfl) (by kernel_rfl) (fun _ _ _ h => h) (Or.inl ⟨by kernel_rfl, ?_⟩) ?_
                      rotate_left
                      · intro w
                        go_simp
                        try with_reducible rfl
                      refine wpAny_done (by kernel_rfl) ?_ _
                      clear q0 b0 b1 b2 hW hWd hW2 hqb hqb2 ho3 hb3 hLA2 hE3
                      rw [HPJ.out, List.nil_append] at HP1
                      go_simp
                      cases bb with
                      | true =>
                        obtain ⟨hTs, hb4⟩ := hx1 rfl
                        have hW4 := hW3.below hb4
                        have hqb5 := hqb4.below hb4 hqb4.lt
                        clear hx1 hx2 hW3 hqb3 hqb4 hb4
                        go_wp2_with fail
                        go_roundg 0
                        case measure => have := HK2.out; omega
                        case rel => exact ⟨2, by have := HK2.out; omega, by go_num, Lib.hid (by rw [HP1.out, hTs]), hW4, hqb5⟩
                      | false =>
                        obtain ⟨M, l, g5, c5, c6, hTs, hg4, hq4, ho4⟩ := hx2 rfl
                        have hbw4 := hW3.bel
                        clear hx1 hx2 hW3 hqb3 hqb4
                        go_wp2_with fail
                        go_ret
                        exact ⟨false, rfl, (fun h => by cases h), fun _ => HXF.out 2 (by omega) M l g5 c5 c6 w4 (by rw [HP1.out, hTs]) ((only_of_below hbw4 _).trans hg4) hq4 ho4⟩
              · rw [HFI.out] at HPJ
                clear hk2
                have hbel := hW.bel
                go_wp2_with fail
                go_ret
                exact ⟨true, rfl, fun _ => ⟨HPJ.out, hbel⟩, fun h => by cases h⟩
          · have HNO : Hid (opB R L k = false) := Lib.hid (by rw [HOP.out, decide_eq_false hz]; rfl)
            have hu : (L.getD k 0 != 0) = true := by simpa using hz
            clear hcb HOP hz
            generalize L.getD k 0 = u at *
            go_wp2_with fail
            go_roundg (R.C.length - (k + 1))
            case measure => have := HK.out; omega
            case rel =>
              refine ⟨k + 1, by have := HK.out; omega, by go_num, fun j hj => ?_, rfl⟩
              by_cases hjk : j = k
              · subst hjk; exact HNO.out
              · exact HALL.out j (by omega)
      · exact absurd (fiV_none.2 fun j hj => HALL.out j (by have := HK.out; omega)) HFN.out

end Go.Proofs.Ytpeifojfpkkcpaa
