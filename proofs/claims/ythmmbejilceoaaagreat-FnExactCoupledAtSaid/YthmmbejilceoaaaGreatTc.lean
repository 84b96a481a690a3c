/-
  YthmmbejilceoaaaGreatTc: all tilings of the program, as rows.
-/
import Derived.Test.YthmmbejilceoaaaGreatTb
namespace Go.Proofs.YthmmbejilceoaaaGreat
open Go.RowKit

theorem step_make_ints {w : World} {ops : Array Oper} {o : Oper} {a : Act} {K : Act → World → Prop} {Q : Exit → Act → World → Prop} {F : Prop}
    (hgd : o.guard = none) (l c : Operand) (hop : o.op = Op.makeSlice 38 l c) (n : Nat) (hn : n ≤ 4194304) (hl : a.eval l = .int .i64 (n : Int)) (hc : a.eval c = .int .i64 (n : Int))
    (hK : ∀ w', w'.ownsRow w.heap.size 3 1 (.slice (some ⟨w.heap.size, 0, none⟩) n n) n ((List.replicate n (0 : Int)).map (Value.int .i64)) → Below w.heap.size w w' → K (a.put o.dst (.slice (some ⟨w.heap.size, 0, none⟩) n n)) w') :
    if Region.wanted o (yielded ops a.tmps) = true then Oper.wp Tryz.prog o a w K Q else F := by
  have hw : Region.wanted o (yielded ops a.tmps) = true := by simp [Region.wanted, hgd]
  rw [if_pos hw]
  obtain ⟨w', hrun, r1, r2⟩ := make_ints n hn w
  unfold Oper.wp
  simp [execOp, hop, hl, hc, hrun, Result.andThen]
  exact hK w' r1 r2

theorem clipR_any (A : Option Addr) (n c : Nat) (hc : n ≤ c) (_hn : c ≤ 9223372036854775807) (w : World) :
    Calls Tryz.prog 92 #[.slice A n c] w fun e w' => e = .returned (.slice A n n) ∧ w = w' := by
  go_enter Tryz.func92, Tryz.ntmps92
  go_wp2_with fail
  go_ret
  exact ⟨rfl, rfl⟩

theorem own_capR {w : World} {base : Nat} {e : TypeId} {size : Nat} {A : Option Addr} {n c : Nat} {xs : List Value} (h : w.ownsRow base e size (.slice A n c) n xs) : c ≤ 9223372036854775807 := own_cap2 h

/-- Rows of one's own, as a result. -/
def RowsRet (w : World) (n : Nat) (Ts : List (List Int)) (e : Ending) (w' : World) : Prop :=
  ∃ A c c' xs, e = .returned (.slice A Ts.length c') ∧ RowsOf w' w.heap.size n (.slice A Ts.length c) xs Ts ∧ Below w.heap.size w w'

set_option maxHeartbeats 2000000 in
set_option maxRecDepth 20000 in
theorem tilings_any (R : Reg) (hR : R.ok) (A : Option Addr) (c B : Nat) (w : World) (hr : Reads w B 1 A R.C.length (R.C.map Value.bool)) (hB : B ≤ w.heap.size) :
    Calls Tryz.prog 68 #[.agg #[.int .i64 R.W, .int .i64 R.T, .slice A R.C.length c]] w (RowsRet w R.C.length (tilT R)) := by
  have hl36 := (len_bd hR).2
  have hb0 : Below w.heap.size w ((w.alloc (boxR R.W R.T A R.C.length c)).alloc (.cells #[.slice none 0 0] 53)) := ((Below.refl _ _).alloc (Nat.le_refl _) _).alloc (by simp) _
  have k0 : Blk ((w.alloc (boxR R.W R.T A R.C.length c)).alloc (.cells #[.slice none 0 0] 53)) w.heap.size 29 #[.int .i64 R.W, .int .i64 R.T, .slice A R.C.length c] := (Blk.new _ _ _).alloc _
  have k1 : Blk ((w.alloc (boxR R.W R.T A R.C.length c)).alloc (.cells #[.slice none 0 0] 53)) (w.heap.size + 1) 53 #[.slice none 0 0] := by
    have := Blk.new (w.alloc (boxR R.W R.T A R.C.length c)) 53 #[.slice none 0 0]
    simpa using this
  have hEA : ∀ (w' : World) (g : Nat), Below w.heap.size w w' → Blk w' (w.heap.size + 1) 53 #[.slice none 0 0] → w'.ownsRow w.heap.size 3 1 (.slice (some ⟨g, 0, none⟩) R.C.length R.C.length) R.C.length ((List.replicate R.C.length (0 : Int)).map (Value.int .i64)) →
      Hid (Calls Tryz.prog 90 #[.agg #[.int .i64 R.W, .int .i64 R.T, .slice A R.C.length c], .slice (some ⟨g, 0, none⟩) R.C.length R.C.length, .func (.func 91) #[] #[.pointer (some ⟨w.heap.size + 1, 0, none⟩)]] w' fun e w'' => e = .returned (.bool true) ∧ ∃ v' xs', Blk w'' (w.heap.size + 1) 53 #[v'] ∧ RowsOf w'' w.heap.size R.C.length v' xs' ([] ++ tilT R) ∧ Fr (w.heap.size + 1) (.slice none 0 0) v' w' w'') := fun w' g h hq ho =>
    hide (each_any R hR A c B (w.heap.size + 1) w.heap.size hB (by omega) 18 (bare R) g R.C.length R.C.length (.slice none 0 0) [] [] w' (lay_bare hR) (opN_bare hR) (hr.below (h.mono hB)) h.size hq (RowsOf.nil _ _ _) ho (by simp))
  clear hr
  go_enter Tryz.func68, Tryz.ntmps68
  go_upto_region 2 with fail
  generalize (w.alloc (boxR R.W R.T A R.C.length c)).alloc (.cells #[.slice none 0 0] 53) = w1 at *
  obtain ⟨b0, b1, b2⟩ := blk3 k0
  have q0 := k1.cell 0
  simp at q0
  refine wp_region_any (by kernel_rfl) ?_
  change wpAny _ _ _ _ _ _ _ (World.drew _)
  refine wpAny_take (i := 1) (v := ?_) rfl (by kernel_rfl) (by kernel_rfl) (by kernel_rfl) (fun _ _ _ h => h) (Or.inl ⟨by kernel_rfl, ?_⟩) ?_
  rotate_left
  · intro w
    go_simp
    try with_reducible rfl
  refine wpAny_take (i := 5) (v := ?_) rfl (by kernel_rfl) (by kernel_rfl) (by kernel_rfl) (fun _ _ _ h => h) (Or.inl ⟨by kernel_rfl, ?_⟩) ?_
  rotate_left
  · intro w
    go_simp
    try with_reducible rfl
  refine wpAny_ready (rs := [0, 2]) (by kernel_rfl) (by simp) ?_
  refine AllReady.cons rfl (fun K hK => ?_) (AllReady.cons rfl (fun K hK => ?_) AllReady.nil)
  · go_simp
    refine hK _ _ ?_
    clear hK K
    refine wpAny_ready (rs := [2]) (by kernel_rfl) (by simp) ?_
    refine AllReady.cons rfl (fun K hK => ?_) AllReady.nil
    go_simp
    refine hK _ _ ?_
    clear hK K
    refine wpAny_ready (rs := [3]) (by kernel_rfl) (by simp) ?_
    refine AllReady.cons rfl (fun K hK => ?_) AllReady.nil
    go_simp
    refine hK _ _ ?_
    clear hK K
    refine wpAny_ready (rs := [4]) (by kernel_rfl) (by simp) ?_
    refine AllReady.cons rfl (fun K hK => ?_) AllReady.nil
    refine step_make_ints rfl _ _ rfl R.C.length (by omega) rfl rfl ?_
    intro w2 ho2 hb2
    have hB2 := hb0.drew.trans (hb2.mono hb0.drew.size)
    have k02 := k0.drew.below hb2 k0.drew.lt
    have k12 := k1.drew.below hb2 k1.drew.lt
    have ho3 := own_mono ho2 hb0.drew.size
    have hE2 := hEA w2 w1.heap.size hB2 k12 ho3
    clear b0 b1 b2 q0 hb2
    obtain ⟨b0, b1, b2⟩ := blk3 k02
    refine hK _ _ ?_
    clear hK K
    refine wpAny_ready (rs := [6]) (by kernel_rfl) (by simp) ?_
    refine AllReady.cons rfl (fun K hK => ?_) AllReady.nil
    go_simp
    go_at_call 90
    (with_reducible refine (unhide hE2).mono ?_)
    rintro e w3 ⟨rfl, v3, xs3, hq3, hT3, hF3⟩
    refine hK _ _ ?_
    clear hK K
    refine wpAny_done (by kernel_rfl) ?_ _
    have hB3 := hB2.trans (hF3.below hB2.size (by omega) (fun k h => by simp [Value.ownBlock] at h))
    rw [List.nil_append] at hT3
    obtain ⟨A3, c3, rfl, hc3, _⟩ := own_form hT3.own
    have hcap := own_capR hT3.own
    have HL3 := Lib.hid hT3.len
    have q3 := hq3.cell 0
    simp at q3
    clear b0 b1 b2 hE2 k02 k12 ho2 ho3 hq3 hF3 hB2 k0 k1 hb0 hEA
    go_simp
    go_wp2_with (go_at_call 92; refine (clipR_any _ _ _ hc3 hcap _).mono ?_; rintro e w4 ⟨rfl, rfl⟩)
    go_ret
    exact ⟨A3, c3, _, xs3, by rw [← HL3.out]; rfl, by rw [← HL3.out]; exact hT3, hB3⟩
  · go_simp
    refine hK _ _ ?_
    clear hK K
    refine wpAny_ready (rs := [0, 3]) (by kernel_rfl) (by simp) ?_
    refine AllReady.cons rfl (fun K hK => ?_) (AllReady.cons rfl (fun K hK => ?_) AllReady.nil)
    · go_simp
      refine hK _ _ ?_
      clear hK K
      refine wpAny_ready (rs := [3]) (by kernel_rfl) (by simp) ?_
      refine AllReady.cons rfl (fun K hK => ?_) AllReady.nil
      go_simp
      refine hK _ _ ?_
      clear hK K
      refine wpAny_ready (rs := [4]) (by kernel_rfl) (by simp) ?_
      refine AllReady.cons rfl (fun K hK => ?_) AllReady.nil
      refine step_make_ints rfl _ _ rfl R.C.length (by omega) rfl rfl ?_
      intro w2 ho2 hb2
      have hB2 := hb0.drew.trans (hb2.mono hb0.drew.size)
      have k02 := k0.drew.below hb2 k0.drew.lt
      have k12 := k1.drew.below hb2 k1.drew.lt
      have ho3 := own_mono ho2 hb0.drew.size
      have hE2 := hEA w2 w1.heap.size hB2 k12 ho3
      clear b0 b1 b2 q0 hb2
      obtain ⟨b0, b1, b2⟩ := blk3 k02
      refine hK _ _ ?_
      clear hK K
      refine wpAny_ready (rs := [6]) (by kernel_rfl) (by simp) ?_
      refine AllReady.cons rfl (fun K hK => ?_) AllReady.nil
      go_simp
      go_at_call 90
      (with_reducible refine (unhide hE2).mono ?_)
      rintro e w3 ⟨rfl, v3, xs3, hq3, hT3, hF3⟩
      refine hK _ _ ?_
      clear hK K
      refine wpAny_done (by kernel_rfl) ?_ _
      have hB3 := hB2.trans (hF3.below hB2.size (by omega) (fun k h => by simp [Value.ownBlock] at h))
      rw [List.nil_append] at hT3
      obtain ⟨A3, c3, rfl, hc3, _⟩ := own_form hT3.own
      have hcap := own_capR hT3.own
      have HL3 := Lib.hid hT3.len
      have q3 := hq3.cell 0
      simp at q3
      clear b0 b1 b2 hE2 k02 k12 ho2 ho3 hq3 hF3 hB2 k0 k1 hb0 hEA
      go_simp
      go_wp2_with (go_at_call 92; refine (clipR_any _ _ _ hc3 hcap _).mono ?_; rintro e w4 ⟨rfl, rfl⟩)
      go_ret
      exact ⟨A3, c3, _, xs3, by rw [← HL3.out]; rfl, by rw [← HL3.out]; exact hT3, hB3⟩
    · go_simp
      refine hK _ _ ?_
      clear hK K
      refine wpAny_ready (rs := [0, 4]) (by kernel_rfl) (by simp) ?_
      refine AllReady.cons rfl (fun K hK => ?_) (AllReady.cons rfl (fun K hK => ?_) AllReady.nil)
      · go_simp
        refine hK _ _ ?_
        clear hK K
        refine wpAny_ready (rs := [4]) (by kernel_rfl) (by simp) ?_
        refine AllReady.cons rfl (fun K hK => ?_) AllReady.nil
        refine step_make_ints rfl _ _ rfl R.C.length (by omega) rfl rfl ?_
        intro w2 ho2 hb2
        have hB2 := hb0.drew.trans (hb2.mono hb0.drew.size)
        have k02 := k0.drew.below hb2 k0.drew.lt
        have k12 := k1.drew.below hb2 k1.drew.lt
        have ho3 := own_mono ho2 hb0.drew.size
        have hE2 := hEA w2 w1.heap.size hB2 k12 ho3
        clear b0 b1 b2 q0 hb2
        obtain ⟨b0, b1, b2⟩ := blk3 k02
        refine hK _ _ ?_
        clear hK K
        refine wpAny_ready (rs := [6]) (by kernel_rfl) (by simp) ?_
        refine AllReady.cons rfl (fun K hK => ?_) AllReady.nil
        go_simp
        go_at_call 90
        (with_reducible refine (unhide hE2).mono ?_)
        rintro e w3 ⟨rfl, v3, xs3, hq3, hT3, hF3⟩
        refine hK _ _ ?_
        clear hK K
        refine wpAny_done (by kernel_rfl) ?_ _
        have hB3 := hB2.trans (hF3.below hB2.size (by omega) (fun k h => by simp [Value.ownBlock] at h))
        rw [List.nil_append] at hT3
        obtain ⟨A3, c3, rfl, hc3, _⟩ := own_form hT3.own
        have hcap := own_capR hT3.own
        have HL3 := Lib.hid hT3.len
        have q3 := hq3.cell 0
        simp at q3
        clear b0 b1 b2 hE2 k02 k12 ho2 ho3 hq3 hF3 hB2 k0 k1 hb0 hEA
        go_simp
        go_wp2_with (go_at_call 92; refine (clipR_any _ _ _ hc3 hcap _).mono ?_; rintro e w4 ⟨rfl, rfl⟩)
        go_ret
        exact ⟨A3, c3, _, xs3, by rw [← HL3.out]; rfl, by rw [← HL3.out]; exact hT3, hB3⟩
      · refine step_make_ints rfl _ _ rfl R.C.length (by omega) rfl rfl ?_
        intro w2 ho2 hb2
        have hB2 := hb0.drew.trans (hb2.mono hb0.drew.size)
        have k02 := k0.drew.below hb2 k0.drew.lt
        have k12 := k1.drew.below hb2 k1.drew.lt
        have ho3 := own_mono ho2 hb0.drew.size
        have hE2 := hEA w2 w1.heap.size hB2 k12 ho3
        clear b0 b1 b2 q0 hb2
        obtain ⟨b0, b1, b2⟩ := blk3 k02
        refine hK _ _ ?_
        clear hK K
        refine wpAny_ready (rs := [0]) (by kernel_rfl) (by simp) ?_
        refine AllReady.cons rfl (fun K hK => ?_) AllReady.nil
        go_simp
        refine hK _ _ ?_
        clear hK K
        refine wpAny_ready (rs := [6]) (by kernel_rfl) (by simp) ?_
        refine AllReady.cons rfl (fun K hK => ?_) AllReady.nil
        go_simp
        go_at_call 90
        (with_reducible refine (unhide hE2).mono ?_)
        rintro e w3 ⟨rfl, v3, xs3, hq3, hT3, hF3⟩
        refine hK _ _ ?_
        clear hK K
        refine wpAny_done (by kernel_rfl) ?_ _
        have hB3 := hB2.trans (hF3.below hB2.size (by omega) (fun k h => by simp [Value.ownBlock] at h))
        rw [List.nil_append] at hT3
        obtain ⟨A3, c3, rfl, hc3, _⟩ := own_form hT3.own
        have hcap := own_capR hT3.own
        have HL3 := Lib.hid hT3.len
        have q3 := hq3.cell 0
        simp at q3
        clear b0 b1 b2 hE2 k02 k12 ho2 ho3 hq3 hF3 hB2 k0 k1 hb0 hEA
        go_simp
        go_wp2_with (go_at_call 92; refine (clipR_any _ _ _ hc3 hcap _).mono ?_; rintro e w4 ⟨rfl, rfl⟩)
        go_ret
        exact ⟨A3, c3, _, xs3, by rw [← HL3.out]; rfl, by rw [← HL3.out]; exact hT3, hB3⟩

end Go.Proofs.YthmmbejilceoaaaGreat
