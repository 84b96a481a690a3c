/-
  YtpeifojfpkkcpaaGreatTt: the texts Tc, Te, Tf, Tg, Th in one file.
-/
import Derived.Test.YtpeifojfpkkcpaaGreatTb
import Derived.Test.YtpeifojfpkkcpaaGreatTd
import Derived.Test.YtpeifojfpkkcpaaGreatPv
import Derived.Test.YtpeifojfpkkcpaaGreatLz

/-
  YtpeifojfpkkcpaaGreatTc: all tilings of the program, as rows.
-/
namespace Go.Proofs.YtpeifojfpkkcpaaGreat
open Go.RowKit

theorem step_make_ints {w : World} {ops : Array Oper} {o : Oper} {a : Act} {K : Act → World → Prop} {Q : Exit → Act → World → Prop} {F : Prop}
    (hgd : o.guard = none) (l c : Operand) (hop : o.op = Op.makeSlice 26 l c) (n : Nat) (hn : n ≤ 4194304) (hl : a.eval l = .int .i64 (n : Int)) (hc : a.eval c = .int .i64 (n : Int))
    (hK : ∀ w', w'.ownsRow w.heap.size 3 1 (.slice (some ⟨w.heap.size, 0, none⟩) n n) n ((List.replicate n (0 : Int)).map (Value.int .i64)) → Below w.heap.size w w' → K (a.put o.dst (.slice (some ⟨w.heap.size, 0, none⟩) n n)) w') :
    if Region.wanted o (yielded ops a.tmps) = true then Oper.wp Tryz.prog o a w K Q else F := by
  have hw : Region.wanted o (yielded ops a.tmps) = true := by simp [Region.wanted, hgd]
  rw [if_pos hw]
  obtain ⟨w', hrun, r1, r2⟩ := make_ints n hn w
  unfold Oper.wp
  simp [execOp, hop, hl, hc, hrun, Result.andThen]
  exact hK w' r1 r2

theorem clipR_any (A : Option Addr) (n c : Nat) (hc : n ≤ c) (_hn : c ≤ 9223372036854775807) (w : World) :
    Calls Tryz.prog 85 #[.slice A n c] w fun e w' => e = .returned (.slice A n n) ∧ w = w' := by
  go_enter Tryz.func85, Tryz.ntmps85
  go_wp2_with fail
  go_ret
  exact ⟨rfl, rfl⟩

theorem own_capR {w : World} {base : Nat} {e : TypeId} {size : Nat} {A : Option Addr} {n c : Nat} {xs : List Value} (h : w.ownsRow base e size (.slice A n c) n xs) : c ≤ 9223372036854775807 := own_cap2 h

/-- Rows of one's own, as a result. -/
def RowsRet (w : World) (n : Nat) (Ts : List (List Int)) (e : Ending) (w' : World) : Prop :=
  ∃ A c c' xs, e = .returned (.slice A Ts.length c') ∧ RowsOf w' w.heap.size n (.slice A Ts.length c) xs Ts ∧ Below w.heap.size w w'

set_option maxHeartbeats 2000000 in
set_option maxRecDepth 20000 in
theorem tilings_any (R : Reg) (hR : R.ok) (A : Option Addr) (c B : Nat) (w : World) (hr : Reads w B 1 A R.C.length (R.C.map Value.bool)) (hB : B ≤ w.heap.size) :
    Calls Tryz.prog 58 #[.agg #[.int .i64 R.W, .int .i64 R.T, .slice A R.C.length c]] w (RowsRet w R.C.length (tilT R)) := by
  have hl36 := (len_bd hR).2
  have hb0 : Below w.heap.size w ((w.alloc (boxR R.W R.T A R.C.length c)).alloc (.cells #[.slice none 0 0] 72)) := ((Below.refl _ _).alloc (Nat.le_refl _) _).alloc (by simp) _
  have k0 : Blk ((w.alloc (boxR R.W R.T A R.C.length c)).alloc (.cells #[.slice none 0 0] 72)) w.heap.size 25 #[.int .i64 R.W, .int .i64 R.T, .slice A R.C.length c] := (Blk.new _ _ _).alloc _
  have k1 : Blk ((w.alloc (boxR R.W R.T A R.C.length c)).alloc (.cells #[.slice none 0 0] 72)) (w.heap.size + 1) 72 #[.slice none 0 0] := by
    have := Blk.new (w.alloc (boxR R.W R.T A R.C.length c)) 72 #[.slice none 0 0]
    simpa using this
  have hEA : ∀ (w' : World) (g : Nat), Below w.heap.size w w' → Blk w' (w.heap.size + 1) 72 #[.slice none 0 0] → w'.ownsRow w.heap.size 3 1 (.slice (some ⟨g, 0, none⟩) R.C.length R.C.length) R.C.length ((List.replicate R.C.length (0 : Int)).map (Value.int .i64)) →
      Hid (Calls Tryz.prog 83 #[.agg #[.int .i64 R.W, .int .i64 R.T, .slice A R.C.length c], .slice (some ⟨g, 0, none⟩) R.C.length R.C.length, .func (.func 84) #[] #[.pointer (some ⟨w.heap.size + 1, 0, none⟩)]] w' fun e w'' => e = .returned (.bool true) ∧ ∃ v' xs', Blk w'' (w.heap.size + 1) 72 #[v'] ∧ RowsOf w'' w.heap.size R.C.length v' xs' ([] ++ tilT R) ∧ Fr (w.heap.size + 1) (.slice none 0 0) v' w' w'') := fun w' g h hq ho =>
    hide (each_any R hR A c B (w.heap.size + 1) w.heap.size hB (by omega) 18 (bare R) g R.C.length R.C.length (.slice none 0 0) [] [] w' (lay_bare hR) (opN_bare hR) (hr.below (h.mono hB)) h.size hq (RowsOf.nil _ _ _) ho (by simp))
  clear hr
  go_enter Tryz.func58, Tryz.ntmps58
  go_upto_region 2 with fail
  generalize (w.alloc (boxR R.W R.T A R.C.length c)).alloc (.cells #[.slice none 0 0] 72) = w1 at *
  obtain ⟨b0, b1, b2⟩ := blk3 k0
  have q0 := k1.cell 0
  simp at q0
  refine wp_region_any (by kernel_rfl) ?_
  change wpAny _ _ _ _ _ _ _ (World.drew _)
  refine wpAny_take (i := 1) (v := ?_) rfl (by kernel_rfl) (by kernel_rfl) (by kernel_rfl) (fun _ _ _ h => h) (Or.inl ⟨by kernel_rfl, ?_⟩) ?_
  rotate_left
  · intro w
    go_simp
    try with_reducible rfl
  refine wpAny_take (i := 5) (v := ?_) rfl (by kernel_rfl) (by kernel_rfl) (by kernel_rfl) (fun _ _ _ h => h) (Or.inl ⟨by kernel_rfl, ?_⟩) ?_
  rotate_left
  · intro w
    go_simp
    try with_reducible rfl
  refine wpAny_ready (rs := [0, 2]) (by kernel_rfl) (by simp) ?_
  refine AllReady.cons rfl (fun K hK => ?_) (AllReady.cons rfl (fun K hK => ?_) AllReady.nil)
  · go_simp
    refine hK _ _ ?_
    clear hK K
    refine wpAny_ready (rs := [2]) (by kernel_rfl) (by simp) ?_
    refine AllReady.cons rfl (fun K hK => ?_) AllReady.nil
    go_simp
    refine hK _ _ ?_
    clear hK K
    refine wpAny_ready (rs := [3]) (by kernel_rfl) (by simp) ?_
    refine AllReady.cons rfl (fun K hK => ?_) AllReady.nil
    go_simp
    refine hK _ _ ?_
    clear hK K
    refine wpAny_ready (rs := [4]) (by kernel_rfl) (by simp) ?_
    refine AllReady.cons rfl (fun K hK => ?_) AllReady.nil
    refine step_make_ints rfl _ _ rfl R.C.length (by omega) rfl rfl ?_
    intro w2 ho2 hb2
    have hB2 := hb0.drew.trans (hb2.mono hb0.drew.size)
    have k02 := k0.drew.below hb2 k0.drew.lt
    have k12 := k1.drew.below hb2 k1.drew.lt
    have ho3 := own_mono ho2 hb0.drew.size
    have hE2 := hEA w2 w1.heap.size hB2 k12 ho3
    clear b0 b1 b2 q0 hb2
    obtain ⟨b0, b1, b2⟩ := blk3 k02
    refine hK _ _ ?_
    clear hK K
    refine wpAny_ready (rs := [6]) (by kernel_rfl) (by simp) ?_
    refine AllReady.cons rfl (fun K hK => ?_) AllReady.nil
    go_simp
    go_at_call 83
    (with_reducible refine (unhide hE2).mono ?_)
    rintro e w3 ⟨rfl, v3, xs3, hq3, hT3, hF3⟩
    refine hK _ _ ?_
    clear hK K
    refine wpAny_done (by kernel_rfl) ?_ _
    have hB3 := hB2.trans (hF3.below hB2.size (by omega) (fun k h => by simp [Value.ownBlock] at h))
    rw [List.nil_append] at hT3
    obtain ⟨A3, c3, rfl, hc3, _⟩ := own_form hT3.own
    have hcap := own_capR hT3.own
    have HL3 := Lib.hid hT3.len
    have q3 := hq3.cell 0
    simp at q3
    clear b0 b1 b2 hE2 k02 k12 ho2 ho3 hq3 hF3 hB2 k0 k1 hb0 hEA
    go_simp
    go_wp2_with (go_at_call 85; refine (clipR_any _ _ _ hc3 hcap _).mono ?_; rintro e w4 ⟨rfl, rfl⟩)
    go_ret
    exact ⟨A3, c3, _, xs3, by rw [← HL3.out]; rfl, by rw [← HL3.out]; exact hT3, hB3⟩
  · go_simp
    refine hK _ _ ?_
    clear hK K
    refine wpAny_ready (rs := [0, 3]) (by kernel_rfl) (by simp) ?_
    refine AllReady.cons rfl (fun K hK => ?_) (AllReady.cons rfl (fun K hK => ?_) AllReady.nil)
    · go_simp
      refine hK _ _ ?_
      clear hK K
      refine wpAny_ready (rs := [3]) (by kernel_rfl) (by simp) ?_
      refine AllReady.cons rfl (fun K hK => ?_) AllReady.nil
      go_simp
      refine hK _ _ ?_
      clear hK K
      refine wpAny_ready (rs := [4]) (by kernel_rfl) (by simp) ?_
      refine AllReady.cons rfl (fun K hK => ?_) AllReady.nil
      refine step_make_ints rfl _ _ rfl R.C.length (by omega) rfl rfl ?_
      intro w2 ho2 hb2
      have hB2 := hb0.drew.trans (hb2.mono hb0.drew.size)
      have k02 := k0.drew.below hb2 k0.drew.lt
      have k12 := k1.drew.below hb2 k1.drew.lt
      have ho3 := own_mono ho2 hb0.drew.size
      have hE2 := hEA w2 w1.heap.size hB2 k12 ho3
      clear b0 b1 b2 q0 hb2
      obtain ⟨b0, b1, b2⟩ := blk3 k02
      refine hK _ _ ?_
      clear hK K
      refine wpAny_ready (rs := [6]) (by kernel_rfl) (by simp) ?_
      refine AllReady.cons rfl (fun K hK => ?_) AllReady.nil
      go_simp
      go_at_call 83
      (with_reducible refine (unhide hE2).mono ?_)
      rintro e w3 ⟨rfl, v3, xs3, hq3, hT3, hF3⟩
      refine hK _ _ ?_
      clear hK K
      refine wpAny_done (by kernel_rfl) ?_ _
      have hB3 := hB2.trans (hF3.below hB2.size (by omega) (fun k h => by simp [Value.ownBlock] at h))
      rw [List.nil_append] at hT3
      obtain ⟨A3, c3, rfl, hc3, _⟩ := own_form hT3.own
      have hcap := own_capR hT3.own
      have HL3 := Lib.hid hT3.len
      have q3 := hq3.cell 0
      simp at q3
      clear b0 b1 b2 hE2 k02 k12 ho2 ho3 hq3 hF3 hB2 k0 k1 hb0 hEA
      go_simp
      go_wp2_with (go_at_call 85; refine (clipR_any _ _ _ hc3 hcap _).mono ?_; rintro e w4 ⟨rfl, rfl⟩)
      go_ret
      exact ⟨A3, c3, _, xs3, by rw [← HL3.out]; rfl, by rw [← HL3.out]; exact hT3, hB3⟩
    · go_simp
      refine hK _ _ ?_
      clear hK K
      refine wpAny_ready (rs := [0, 4]) (by kernel_rfl) (by simp) ?_
      refine AllReady.cons rfl (fun K hK => ?_) (AllReady.cons rfl (fun K hK => ?_) AllReady.nil)
      · go_simp
        refine hK _ _ ?_
        clear hK K
        refine wpAny_ready (rs := [4]) (by kernel_rfl) (by simp) ?_
        refine AllReady.cons rfl (fun K hK => ?_) AllReady.nil
        refine step_make_ints rfl _ _ rfl R.C.length (by omega) rfl rfl ?_
        intro w2 ho2 hb2
        have hB2 := hb0.drew.trans (hb2.mono hb0.drew.size)
        have k02 := k0.drew.below hb2 k0.drew.lt
        have k12 := k1.drew.below hb2 k1.drew.lt
        have ho3 := own_mono ho2 hb0.drew.size
        have hE2 := hEA w2 w1.heap.size hB2 k12 ho3
        clear b0 b1 b2 q0 hb2
        obtain ⟨b0, b1, b2⟩ := blk3 k02
        refine hK _ _ ?_
        clear hK K
        refine wpAny_ready (rs := [6]) (by kernel_rfl) (by simp) ?_
        refine AllReady.cons rfl (fun K hK => ?_) AllReady.nil
        go_simp
        go_at_call 83
        (with_reducible refine (unhide hE2).mono ?_)
        rintro e w3 ⟨rfl, v3, xs3, hq3, hT3, hF3⟩
        refine hK _ _ ?_
        clear hK K
        refine wpAny_done (by kernel_rfl) ?_ _
        have hB3 := hB2.trans (hF3.below hB2.size (by omega) (fun k h => by simp [Value.ownBlock] at h))
        rw [List.nil_append] at hT3
        obtain ⟨A3, c3, rfl, hc3, _⟩ := own_form hT3.own
        have hcap := own_capR hT3.own
        have HL3 := Lib.hid hT3.len
        have q3 := hq3.cell 0
        simp at q3
        clear b0 b1 b2 hE2 k02 k12 ho2 ho3 hq3 hF3 hB2 k0 k1 hb0 hEA
        go_simp
        go_wp2_with (go_at_call 85; refine (clipR_any _ _ _ hc3 hcap _).mono ?_; rintro e w4 ⟨rfl, rfl⟩)
        go_ret
        exact ⟨A3, c3, _, xs3, by rw [← HL3.out]; rfl, by rw [← HL3.out]; exact hT3, hB3⟩
      · refine step_make_ints rfl _ _ rfl R.C.length (by omega) rfl rfl ?_
        intro w2 ho2 hb2
        have hB2 := hb0.drew.trans (hb2.mono hb0.drew.size)
        have k02 := k0.drew.below hb2 k0.drew.lt
        have k12 := k1.drew.below hb2 k1.drew.lt
        have ho3 := own_mono ho2 hb0.drew.size
        have hE2 := hEA w2 w1.heap.size hB2 k12 ho3
        clear b0 b1 b2 q0 hb2
        obtain ⟨b0, b1, b2⟩ := blk3 k02
        refine hK _ _ ?_
        clear hK K
        refine wpAny_ready (rs := [0]) (by kernel_rfl) (by simp) ?_
        refine AllReady.cons rfl (fun K hK => ?_) AllReady.nil
        go_simp
        refine hK _ _ ?_
        clear hK K
        refine wpAny_ready (rs := [6]) (by kernel_rfl) (by simp) ?_
        refine AllReady.cons rfl (fun K hK => ?_) AllReady.nil
        go_simp
        go_at_call 83
        (with_reducible refine (unhide hE2).mono ?_)
        rintro e w3 ⟨rfl, v3, xs3, hq3, hT3, hF3⟩
        refine hK _ _ ?_
        clear hK K
        refine wpAny_done (by kernel_rfl) ?_ _
        have hB3 := hB2.trans (hF3.below hB2.size (by omega) (fun k h => by simp [Value.ownBlock] at h))
        rw [List.nil_append] at hT3
        obtain ⟨A3, c3, rfl, hc3, _⟩ := own_form hT3.own
        have hcap := own_capR hT3.own
        have HL3 := Lib.hid hT3.len
        have q3 := hq3.cell 0
        simp at q3
        clear b0 b1 b2 hE2 k02 k12 ho2 ho3 hq3 hF3 hB2 k0 k1 hb0 hEA
        go_simp
        go_wp2_with (go_at_call 85; refine (clipR_any _ _ _ hc3 hcap _).mono ?_; rintro e w4 ⟨rfl, rfl⟩)
        go_ret
        exact ⟨A3, c3, _, xs3, by rw [← HL3.out]; rfl, by rw [← HL3.out]; exact hT3, hB3⟩

end Go.Proofs.YtpeifojfpkkcpaaGreat

/-
  YtpeifojfpkkcpaaGreatTe: all tilings of the reference.
-/
namespace Go.Proofs.YtpeifojfpkkcpaaGreat
open Go.RowKit


/-- Where the reference's search stands. -/
structure SW2 (w wr : World) (R : Reg) (A : Option Addr) (c b : Nat) (v : Value) (xs : List Value) (Ts : List (List Int)) (g c' : Nat) (L : List Int) : Prop where
  bel : Below w.heap.size w wr
  rows : RowsOf wr b R.C.length v xs Ts
  new : ∀ k, v.ownBlock = some k → w.heap.size ≤ k
  box : Blk wr w.heap.size 25 #[.int .i64 R.W, .int .i64 R.T, .slice A R.C.length c]
  own : wr.ownsRow b 3 1 (.slice (some ⟨g, 0, none⟩) R.C.length c') R.C.length (L.map (Value.int .i64))
section
variable {w wr w2 : World} {R : Reg} {A : Option Addr} {c b g c' : Nat} {v v' : Value} {xs xs' : List Value} {Ts Ts' : List (List Int)} {L : List Int}
theorem SW2.below (H : SW2 w wr R A c b v xs Ts g c' L) (hb : Below wr.heap.size wr w2) : SW2 w w2 R A c b v xs Ts g c' L :=
  ⟨H.bel.trans (hb.mono H.bel.size), H.rows.below hb, H.new, H.box.below hb H.box.lt, own_below H.own hb (Nat.le_refl _)⟩
theorem SW2.appN {v2 : Value} {xs2 : List Value} {Ts2 : List (List Int)} (H : SW2 w wr R A c b v xs Ts g c' L) (h2 : RowsOf wr b R.C.length v2 xs2 Ts2) (ho : w2.ownsRow b 26 1 v' (xs.length + xs2.length) (xs ++ xs2)) (hg : wr.grownBy w2 v.ownBlock) (hn : v'.ownBlock = v.ownBlock ∨ v'.ownBlock = some wr.heap.size) : SW2 w w2 R A c b v' (xs ++ xs2) (Ts ++ Ts2) g c' L := by
  refine ⟨H.bel.grown hg H.bel.size H.new, H.rows.appN h2 ho hg, fun k hk => ?_, H.box.grown hg (fun h => own_blk_ne H.rows.own H.box (by decide) h.symm), own_grown H.own hg (own_far H.own H.rows.own (by decide))⟩
  rcases hn with h | h
  · exact H.new k (by rw [← h]; exact hk)
  · rw [h] at hk
    have := H.bel.size
    simp at hk
    omega
end



end Go.Proofs.YtpeifojfpkkcpaaGreat

/-
  YtpeifojfpkkcpaaGreatTf: TilingsAll of the reference; HeightSum.
-/
namespace Go.Proofs.YtpeifojfpkkcpaaGreat
open Go.RowKit





theorem simple_cases {W T : Int} {bs : List Bool} (h : simpleB W T bs = true) : ∃ R : Reg, R.ok ∧ W = (R.W : Int) ∧ T = (R.T : Int) ∧ bs = R.C ∧ SimpleP R := by
  have hv : validB W T bs = true := by
    cases hv : validB W T bs with
    | true => rfl
    | false => rw [simpleB_no hv] at h; cases h
  obtain ⟨R, hR, rfl, rfl, rfl⟩ := reg_of_valid hv
  exact ⟨R, hR, rfl, rfl, rfl, (simple_of hR).1 h⟩



end Go.Proofs.YtpeifojfpkkcpaaGreat

/-
  YtpeifojfpkkcpaaGreatTg: Lowest and Highest: the program.
-/
namespace Go.Proofs.YtpeifojfpkkcpaaGreat
open Go.RowKit

/-- Heights picked of those of the first tilings. -/
noncomputable def exH (f : Int → Int → Int) (R : Reg) (H : List Int) (Ts : List (List Int)) : List Int := Ts.foldl (fun H M => List.zipWith f H (htsOf R.W R.T R.C M)) H
theorem exH_succ {f : Int → Int → Int} {R : Reg} {H : List Int} {Ts : List (List Int)} {n : Nat} {M : List Int} (h : Ts[n]? = some M) : exH f R H (Ts.take (n + 1)) = List.zipWith f (exH f R H (Ts.take n)) (htsOf R.W R.T R.C M) := by
  unfold exH
  rw [List.take_add_one, h, List.foldl_append]
  rfl
theorem exH_hp {f : Int → Int → Int} (hf : Keeps f) {R : Reg} (hR : R.ok) (hS : SimpleP R) : ∀ {Ts : List (List Int)} {H : List Int}, HP R H → (∀ M ∈ Ts, Tile R M) → HP R (exH f R H Ts)
  | [], _, h, _ => h
  | M :: Ts, H, h, hT => exH_hp (Ts := Ts) hf hR hS (hf hR hS.1 h (hp_of_tile hR hS (hT M (by simp)))) (fun N hN => hT N (by simp [hN]))
noncomputable def exV (f : Int → Int → Int) (W T : Int) (bs : List Bool) : List Int :=
  if simpleB W T bs = true ∧ tilT ⟨W.toNat, T.toNat, bs⟩ ≠ [] then tilH ⟨W.toNat, T.toNat, bs⟩ (exH f ⟨W.toNat, T.toNat, bs⟩ (htsOf W T bs ((tilT ⟨W.toNat, T.toNat, bs⟩).headD [])) (tilT ⟨W.toNat, T.toNat, bs⟩)) else []
noncomputable def exB (W T : Int) (bs : List Bool) : Bool := simpleB W T bs && !(tilT ⟨W.toNat, T.toNat, bs⟩).isEmpty
theorem exV_no {f : Int → Int → Int} {W T : Int} {bs : List Bool} (h : ¬ (simpleB W T bs = true ∧ tilT ⟨W.toNat, T.toNat, bs⟩ ≠ [])) : exV f W T bs = [] ∧ exB W T bs = false := by
  refine ⟨by unfold exV; exact if_neg h, ?_⟩
  unfold exB
  cases hs : simpleB W T bs with
  | false => rfl
  | true =>
    have : tilT ⟨W.toNat, T.toNat, bs⟩ = [] := Classical.byContradiction fun hx => h ⟨hs, hx⟩
    rw [this]; rfl
theorem exV_yes {f : Int → Int → Int} {R : Reg} (h : simpleB R.W R.T R.C = true) (g : tilT R ≠ []) : exV f R.W R.T R.C = tilH R (exH f R (htsOf R.W R.T R.C ((tilT R).headD [])) (tilT R)) ∧ exB R.W R.T R.C = true := by
  refine ⟨by unfold exV; rw [if_pos ⟨h, g⟩]; rfl, ?_⟩
  have e : (tilT ⟨(R.W : Int).toNat, (R.T : Int).toNat, R.C⟩).isEmpty = false := by
    have : tilT ⟨(R.W : Int).toNat, (R.T : Int).toNat, R.C⟩ = tilT R := rfl
    rw [this]
    cases hx : tilT R with
    | nil => exact absurd hx g
    | cons => rfl
  unfold exB
  rw [h, e]
  rfl

set_option maxHeartbeats 4000000 in
set_option maxRecDepth 20000 in
theorem extreme_ok (fv : Value) (f : Int → Int → Int) (hpk0 : PickAny fv f) (hf : Keeps f) (R : Reg) (hR : R.ok) (hS : SimpleP R) (hs : simpleB R.W R.T R.C = true) (hne : tilT R ≠ []) (A : Option Addr) (c B : Nat) (w : World) (hr : Reads w B 1 A R.C.length (R.C.map Value.bool)) (hB : B ≤ w.heap.size) :
    Calls Tryz.prog 24 #[.agg #[.int .i64 R.W, .int .i64 R.T, .slice A R.C.length c], fv] w (RetIB w (tilH R (exH f R (htsOf R.W R.T R.C ((tilT R).headD [])) (tilT R))) true) := by
  have hl36 := (len_bd hR).2
  have hl1 := (len_bd hR).1
  have hcn := cn_bd hR
  have HPK := Lib.hid hpk0
  clear hpk0
  have hSI := fun w' (h : Below w.heap.size w w') => hide (SimpleI_any R.W R.T A R.C.length c B R.C w' (hr.below (h.mono hB)) (Nat.le_trans hB h.size) (by omega))
  simp only [hs] at hSI
  have hTI := fun w' (h : Below w.heap.size w w') => hide (tilings_any R hR A c B w' (hr.below (h.mono hB)) (Nat.le_trans hB h.size))
  have hHT : ∀ (M : List Int) (g d : Nat) w', Tile R M → Below w.heap.size w w' → Reads w' w'.heap.size 1 (some ⟨g, 0, none⟩) R.C.length (M.map (Value.int .i64)) → Hid (Calls Tryz.prog 29 #[.agg #[.int .i64 R.W, .int .i64 R.T, .slice A R.C.length c], .slice (some ⟨g, 0, none⟩) R.C.length d] w' fun e w'' => ∃ g2, e = .returned (.slice (some ⟨g2, 0, none⟩) R.cn R.cn) ∧ Reads w'' w''.heap.size 1 (some ⟨g2, 0, none⟩) R.cn ((htsOf R.W R.T R.C M).map (Value.int .i64)) ∧ Below w'.heap.size w' w'') := fun M g d w' hM h ha => by
    have hH := hts_of_tile hR hS hM
    have := heights_any R hR hS A c w'.heap.size M (some ⟨g, 0, none⟩) d hM.1 hM.2 _ hH w' ((hr.below (h.mono hB)).more (Nat.le_trans hB h.size)) (by rw [hM.1.len]; exact ha) (Nat.le_refl _)
    rw [hM.1.len] at this
    refine hide (this.mono ?_)
    rintro e w'' ⟨g2, rfl, ho, hb⟩
    rw [hH.len] at ho ⊢
    exact ⟨g2, rfl, Reads.of_own ho, hb⟩
  have hBY : ∀ (H : List Int) (g d : Nat) w', HP R H → Below w.heap.size w w' → Reads w' w'.heap.size 1 (some ⟨g, 0, none⟩) R.cn (H.map (Value.int .i64)) → Hid (Calls Tryz.prog 59 #[.agg #[.int .i64 R.W, .int .i64 R.T, .slice A R.C.length c], .slice (some ⟨g, 0, none⟩) R.cn d] w' (IntsRet w' (tilH R H))) := fun H g d w' hH h ha => by
    have := by_any R hR A c w'.heap.size H ⟨g, 0, none⟩ d ((hok_iff hR hS).2 hH) w' ((hr.below (h.mono hB)).more (Nat.le_trans hB h.size)) ha (Nat.le_refl _)
    rw [byTo_til hR hS hH] at this
    exact hide this
  have hTl : ∀ (k : Nat) (M : List Int), (tilT R)[k]? = some M → Tile R M := fun k M h => (tilT_iff hR).1 (List.mem_of_getElem? h)
  have HTL := Lib.hid hTl
  have hhl : ∀ M, Tile R M → (htsOf R.W R.T R.C M).length = R.cn := fun M hM => (hts_of_tile hR hS hM).len
  have HHL := Lib.hid hhl
  obtain ⟨M0, hM0⟩ : ∃ M0, (tilT R)[0]? = some M0 := by
    cases hx : tilT R with
    | nil => exact absurd hx hne
    | cons a l => exact ⟨a, rfl⟩
  have hhd : (tilT R).headD [] = M0 := by
    cases hx : tilT R with
    | nil => exact absurd hx hne
    | cons a l => rw [hx] at hM0; simp at hM0; simpa using hM0
  rw [hhd]
  have hT0 := hTl 0 M0 hM0
  have hsu := fun n M h => exH_succ (f := f) (R := R) (H := htsOf R.W R.T R.C M0) (Ts := tilT R) (n := n) (M := M) h
  have HSU := Lib.hid hsu
  have hhp : ∀ n, HP R (exH f R (htsOf R.W R.T R.C M0) ((tilT R).take n)) := fun n => exH_hp hf hR hS (hp_of_tile hR hS hT0) fun M hM => (tilT_iff hR).1 (List.mem_of_mem_take hM)
  have HHP := Lib.hid hhp
  have hfin : exH f R (htsOf R.W R.T R.C M0) ((tilT R).take (tilT R).length) = exH f R (htsOf R.W R.T R.C M0) (tilT R) := by rw [List.take_length]
  have HFI := Lib.hid hfin
  have hnl := tilT_len R
  have HNL := Lib.hid hnl
  have htl : ∀ H, (tilH R H).length = R.C.length := fun H => tilH_len R H
  have HTH := Lib.hid htl
  have hpos : 0 < (tilT R).length := (List.getElem?_eq_some_iff.1 hM0).1
  have HM0 := Lib.hid hM0
  have hb0 : Below w.heap.size w (w.alloc (boxR R.W R.T A R.C.length c)) := (Below.refl _ _).alloc (Nat.le_refl _) _
  have k0 : Blk (w.alloc (boxR R.W R.T A R.C.length c)) w.heap.size 25 #[.int .i64 R.W, .int .i64 R.T, .slice A R.C.length c] := Blk.new _ _ _
  clear hTl hsu hnl hr hs hne hhd hhp hfin htl hM0 hhl
  generalize hTT : tilT R = TT at *
  clear hTT
  have hz0 : ((TT.length : Int) == 0) = false := by rw [beq_eq_false_iff_ne]; omega
  go_enter Tryz.func24, Tryz.ntmps24
  go_wp2_with fail
  refine (unhide (hSI _ hb0)).mono ?_
  rintro e w1 ⟨rfl, hb1⟩
  have hB1 := hb0.trans (hb1.mono hb0.size)
  have k1 := k0.below hb1 k0.lt
  obtain ⟨b0, b1, b2⟩ := blk3 k1
  clear k0 hb0 hb1 hSI
  go_wp2_with fail
  refine (unhide (hTI _ hB1)).mono ?_
  rintro e w3 ⟨A3, c3, c3', xs, rfl, hR3, hb3⟩
  have hB3 := hB1.trans (hb3.mono hB1.size)
  have k3 := k1.below hb3 k1.lt
  have hrow := hR3.mono (b' := 0) (by omega)
  clear b0 b1 b2 k1 hb3 hB1 hTI hR3
  obtain ⟨x, M, hx, hM, hin⟩ := hrow.at_ hpos
  obtain rfl : M = M0 := by have := HM0.out; rw [hM] at this; injection this
  obtain ⟨gx, cx, rfl, hrx⟩ := hin.reads
  have hown := hrow.own
  rw [hrow.len] at hown
  obtain ⟨g3, cg3, hsh3, _, _, _⟩ := own_shape hown hpos
  simp only [Value.slice.injEq, true_and] at hsh3
  obtain ⟨rfl, rfl⟩ := hsh3
  have hxc : w3.cell? ⟨g3, 0, none⟩ = some (.slice (some ⟨gx, 0, none⟩) R.C.length cx) := by rw [hown.cellAt 0 (by omega)]; exact hx
  have hHk := hHT M gx cx w3.drew hT0 hB3.drew hrx
  clear hown hin hrx hx hM
  obtain ⟨b0, b1, b2⟩ := blk3 k3
  go_upto_region 6 with fail
  go_region_with
    (first
      | (go_at_call 29; (with_reducible refine (unhide hHk).mono ?_); rintro e w4 ⟨g4, rfl, hh4, hb4⟩))
  all_goals
    have hB4 := hB3.drew.trans (hb4.mono hB3.drew.size)
    have k4 := k3.drew.below hb4 k3.drew.lt
    have hrow4 := (hrow.below (Below.refl w3.heap.size w3).drew).below hb4
    clear b0 b1 b2 hB3 k3 hrow hb4 hxc hHk
    go_wp2_with fail
    go_loopg [7, 25] TT.length (fun r s7 s25 wr => ∃ (k g d : Nat), k + r = TT.length ∧ s25 = .int .i64 (k : Nat) ∧ s7 = .slice (some ⟨g, 0, none⟩) R.cn d ∧ Reads wr wr.heap.size 1 (some ⟨g, 0, none⟩) R.cn ((exH f R (htsOf R.W R.T R.C M) (TT.take k)).map (Value.int .i64)) ∧ Below w.heap.size w wr ∧ Blk wr w.heap.size 25 #[.int .i64 R.W, .int .i64 R.T, .slice A R.C.length c] ∧ RowsOf wr 0 R.C.length (.slice (some ⟨g3, 0, none⟩) TT.length c3) xs TT)
    case atStart => exact ⟨0, g4, R.cn, by omega, rfl, rfl, by simpa [exH] using hh4, hB4, k4, hrow4⟩
    case round =>
      clear hh4 hB4 k4 hrow4
      obtain ⟨k, g, d, hk, rfl, rfl, hg, hBw, hbk, hrow⟩ := hrel
      have HK := Lib.hid hk
      clear hk
      by_cases hlt : k < TT.length
      · obtain ⟨x, N, hx, hN, hin⟩ := hrow.at_ hlt
        obtain ⟨gy, cy, rfl, hry⟩ := hin.reads
        have hTN := HTL.out k N hN
        have hown := hrow.own
        rw [hrow.len] at hown
        have hyc : wr.cell? ⟨g3, k, none⟩ = some (.slice (some ⟨gy, 0, none⟩) R.C.length cy) := by rw [hown.cellAt k (by omega)]; exact hx
        have hHN := hHT N gy cy wr hTN hBw hry
        have hs1 := HSU.out k N hN
        have hl1' := (HHP.out (k + 1)).len
        have hlk := (HHP.out k).len
        have hlN := HHL.out N hTN
        have HP1 := Lib.hid (HHP.out (k + 1))
        have hnl := HNL.out
        rw [hs1] at hl1'
        have HS1 := Lib.hid hs1
        obtain ⟨b0, b1, b2⟩ := blk3 hbk
        clear hs1 hN hx hown hin hry hTN
        obtain ⟨Z, hZ⟩ : ∃ Z, Z = List.zipWith f (exH f R (htsOf R.W R.T R.C M) (TT.take k)) (htsOf R.W R.T R.C N) := ⟨_, rfl⟩
        rw [← hZ] at HS1 hl1'
        have HZ := Lib.hid hZ
        clear hZ
        generalize exH f R (htsOf R.W R.T R.C M) (TT.take k) = Hk at *
        generalize htsOf R.W R.T R.C N = Hn at *
        go_wp2_with fail
        refine (unhide hHN).mono ?_
        rintro e w5 ⟨g5, rfl, hh5, hb5⟩
        have hB5 := hBw.trans (hb5.mono hBw.size)
        have k5 := hbk.below hb5 hbk.lt
        have hrow5 := hrow.below hb5
        have hPK := hide (HPK.out (some ⟨g, 0, none⟩) (some ⟨g5, 0, none⟩) d R.cn w5.heap.size Hk Hn R.cn hlk hlN (by omega) w5 ((hg.below hb5).more hb5.size) hh5 (Nat.le_refl _))
        rw [← HZ.out] at hPK
        have HLK := Lib.hid hl1'
        clear b0 b1 b2 hBw hbk hrow hb5 hHN hh5 hg hlk hlN hyc hl1'
        go_wp2_with fail
        refine (unhide hPK).mono ?_
        rintro e w6 ⟨g6, rfl, ho6, hb6⟩
        rw [HLK.out] at ho6 ⊢
        have hB6 := hB5.trans (hb6.mono hB5.size)
        have k6 := k5.below hb6 k5.lt
        have hrow6 := hrow5.below hb6
        have hr6 := Reads.of_own ho6
        clear hB5 k5 hrow5 hb6 ho6 hPK
        go_wp2_with fail
        go_roundg (TT.length - (k + 1))
        case measure => have := HK.out; omega
        case rel => exact ⟨k + 1, g6, R.cn, by have := HK.out; omega, by go_num, rfl, by rw [HS1.out]; exact hr6, hB6, k6, hrow6⟩
      · obtain rfl : k = TT.length := by have := HK.out; omega
        have hBYk := hBY _ g d wr (HHP.out TT.length) hBw hg
        rw [HFI.out] at hBYk
        obtain ⟨b0, b1, b2⟩ := blk3 hbk
        clear hg hBY hHT
        generalize tilH R (exH f R (htsOf R.W R.T R.C M) TT) = X at *
        go_wp2_with fail
        refine (unhide hBYk).mono ?_
        rintro e w5 ⟨g5, rfl, ho5, hb5⟩
        go_wp2_with fail
        go_ret2
        exact ⟨some ⟨g5, 0, none⟩, X.length, X.length, rfl, own_mono ho5 hBw.size, hBw.trans (hb5.mono hBw.size)⟩

set_option maxHeartbeats 1000000 in
theorem extreme_any (fv : Value) (f : Int → Int → Int) (hpk0 : PickAny fv f) (hf : Keeps f) (W T : Int) (A : Option Addr) (n c B : Nat) (bs : List Bool) (w : World) (hbl : bs.length = n) (hr : Reads w B 1 A n (bs.map Value.bool)) (hB : B ≤ w.heap.size) (hn : n ≤ 9223372036854775807) :
    Calls Tryz.prog 24 #[.agg #[.int .i64 W, .int .i64 T, .slice A n c], fv] w (RetIB w (exV f W T bs) (exB W T bs)) := by
  have hb0 : Below w.heap.size w (w.alloc (boxR W T A n c)) := (Below.refl _ _).alloc (Nat.le_refl _) _
  have k0 : Blk (w.alloc (boxR W T A n c)) w.heap.size 25 #[.int .i64 W, .int .i64 T, .slice A n c] := Blk.new _ _ _
  have hSI := hide (SimpleI_any W T A n c B bs _ (hr.below (hb0.mono hB)) (Nat.le_trans hB hb0.size) hn)
  cases hs : simpleB W T bs with
  | false =>
    obtain ⟨e1, e2⟩ := exV_no (f := f) (W := W) (T := T) (bs := bs) (by rw [hs]; simp)
    rw [e1, e2]
    rw [hs] at hSI
    clear hs k0 hpk0 hf e1 e2
    go_enter Tryz.func24, Tryz.ntmps24
    go_wp2_with fail
    refine (unhide hSI).mono ?_
    rintro e w1 ⟨rfl, hb1⟩
    go_wp2_with fail
    go_ret2
    exact ⟨none, 0, 0, rfl, ⟨rfl, .inl ⟨rfl, rfl⟩⟩, hb0.trans (hb1.mono hb0.size)⟩
  | true =>
    obtain ⟨R, hR, rfl, rfl, rfl, hS⟩ := simple_cases hs
    subst hbl
    by_cases hne : tilT R = []
    · obtain ⟨e1, e2⟩ := exV_no (f := f) (W := R.W) (T := R.T) (bs := R.C) (fun h => h.2 hne)
      rw [e1, e2]
      rw [hs] at hSI
      have hTI := fun w' (h : Below w.heap.size w w') => hide (tilings_any R hR A c B w' (hr.below (h.mono hB)) (Nat.le_trans hB h.size))
      rw [hne] at hTI
      clear hs hpk0 hf e1 e2 hr
      go_enter Tryz.func24, Tryz.ntmps24
      go_wp2_with fail
      refine (unhide hSI).mono ?_
      rintro e w1 ⟨rfl, hb1⟩
      have hB1 := hb0.trans (hb1.mono hb0.size)
      obtain ⟨b0, b1, b2⟩ := blk3 (k0.below hb1 k0.lt)
      clear k0 hb0 hb1 hSI
      go_wp2_with fail
      refine (unhide (hTI _ hB1)).mono ?_
      rintro e w3 ⟨A3, c3, c3', xs, rfl, hR3, hb3⟩
      go_wp2_with fail
      go_ret2
      exact ⟨none, 0, 0, rfl, ⟨rfl, .inl ⟨rfl, rfl⟩⟩, hB1.trans (hb3.mono hB1.size)⟩
    · obtain ⟨e1, e2⟩ := exV_yes (f := f) hs hne
      rw [e1, e2]
      exact extreme_ok fv f hpk0 hf R hR hS hs hne A c B w hr hB

theorem lowestI_any (W T : Int) (A : Option Addr) (n c B : Nat) (bs : List Bool) (w : World) (hbl : bs.length = n) (hr : Reads w B 1 A n (bs.map Value.bool)) (hB : B ≤ w.heap.size) (hn : n ≤ 9223372036854775807) :
    Calls Tryz.prog 9 #[.agg #[.int .i64 W, .int .i64 T, .slice A n c]] w (RetIB w (exV min W T bs) (exB W T bs)) := by
  have hb0 : Below w.heap.size w (w.alloc (boxR W T A n c)) := (Below.refl _ _).alloc (Nat.le_refl _) _
  have hEX := hide (extreme_any (.func (.func 25) #[] #[]) min pickLesser keeps_min W T A n c B bs _ hbl (hr.below (hb0.mono hB)) (Nat.le_trans hB hb0.size) hn)
  generalize exV min W T bs = X at *
  generalize exB W T bs = Y at *
  go_enter Tryz.func9, Tryz.ntmps9
  go_wp2_with fail
  refine (unhide hEX).mono ?_
  rintro e w1 ⟨A1, c1, c1', rfl, ho1, hb1⟩
  go_wp2_with fail
  go_ret2
  exact ⟨_, _, _, rfl, own_mono ho1 hb0.size, hb0.trans (hb1.mono hb0.size)⟩

theorem highestI_any (W T : Int) (A : Option Addr) (n c B : Nat) (bs : List Bool) (w : World) (hbl : bs.length = n) (hr : Reads w B 1 A n (bs.map Value.bool)) (hB : B ≤ w.heap.size) (hn : n ≤ 9223372036854775807) :
    Calls Tryz.prog 10 #[.agg #[.int .i64 W, .int .i64 T, .slice A n c]] w (RetIB w (exV max W T bs) (exB W T bs)) := by
  have hb0 : Below w.heap.size w (w.alloc (boxR W T A n c)) := (Below.refl _ _).alloc (Nat.le_refl _) _
  have hEX := hide (extreme_any (.func (.func 26) #[] #[]) max pickGreater keeps_max W T A n c B bs _ hbl (hr.below (hb0.mono hB)) (Nat.le_trans hB hb0.size) hn)
  generalize exV max W T bs = X at *
  generalize exB W T bs = Y at *
  go_enter Tryz.func10, Tryz.ntmps10
  go_wp2_with fail
  refine (unhide hEX).mono ?_
  rintro e w1 ⟨A1, c1, c1', rfl, ho1, hb1⟩
  go_wp2_with fail
  go_ret2
  exact ⟨_, _, _, rfl, own_mono ho1 hb0.size, hb0.trans (hb1.mono hb0.size)⟩

end Go.Proofs.YtpeifojfpkkcpaaGreat

/-
  YtpeifojfpkkcpaaGreatTh: Lowest and Highest: the reference.
-/
namespace Go.Proofs.YtpeifojfpkkcpaaGreat
open Go.RowKit







theorem exV_len {f : Int → Int → Int} {W T : Int} {bs : List Bool} : (exV f W T bs).length ≤ 36 := by
  by_cases h : simpleB W T bs = true ∧ tilT ⟨W.toNat, T.toNat, bs⟩ ≠ []
  · obtain ⟨R, hR, rfl, rfl, rfl, _⟩ := simple_cases h.1
    rw [(exV_yes h.1 h.2).1, tilH_len]
    exact (len_bd hR).2
  · rw [(exV_no h).1]; simp

end Go.Proofs.YtpeifojfpkkcpaaGreat
