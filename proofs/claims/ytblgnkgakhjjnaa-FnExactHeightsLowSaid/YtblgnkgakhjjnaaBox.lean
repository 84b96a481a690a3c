/-
  YtblgnkgakhjjnaaBox: field, RegionBox, CellsMany; alive.
-/
import Derived.Test.YtblgnkgakhjjnaaW1
namespace Go.Proofs.Ytblgnkgakhjjnaa
open Go.RowKit

theorem info_bool : (Try.prog.info? 4).map (fun i => (i.zero, i.size, i.bytes)) = some (some (.bool false), 1, 1) := by kernel_rfl
theorem info_int : (Try.prog.info? 3).map (fun i => (i.zero, i.size, i.bytes)) = some (some (.int .i64 0), 1, 8) := by kernel_rfl

/-- 'make([]bool, n)', for every world. -/
theorem make_bools (n : Nat) (hn : n ≤ 4194304) (w : World) :
    ∃ w', (Instr.makeSlice 22 (.int .i64 (n : Int)) (.int .i64 (n : Int))).run Try.prog w = .ok (.slice (some ⟨w.heap.size, 0, none⟩) n n) w' ∧
      w'.ownsRow w.heap.size 4 1 (.slice (some ⟨w.heap.size, 0, none⟩) n n) n ((List.replicate n false).map Value.bool) ∧ Below w.heap.size w w' := by
  obtain ⟨i0, hi, hz, hs, hby⟩ := info_parts info_bool
  obtain ⟨w', h1, h2, h3⟩ := run_make_full (P := Try.prog) w w.heap.size 22 4 i0 _ 1 Try.underlying22 hi hz hs .i64 .i64 n (by rw [hby]; omega) (by simp only [maxLen]; omega) (Nat.le_refl _)
  refine ⟨w', h1, ?_, (Below.refl _ _).grown h3 (Nat.le_refl _) (by simp)⟩
  have e : (madeCells (Value.bool false).cells (n * 1)).toList = (List.replicate n false).map Value.bool := by
    rw [Nat.mul_one]
    show (madeCells #[Value.bool false] n).toList = _
    rw [toList_madeCells_one, List.map_replicate]
  rw [e] at h2
  exact h2

/-- .. at the operation. -/
theorem wpList_make_bools {w : World} {ops : Array Oper} {rest : List Oper} {o : Oper} {a : Act} {Q : Exit → Act → World → Prop}
    (hg : o.guard = none) (l c : Operand) (hop : o.op = Op.makeSlice 22 l c) (n : Nat) (hn : n ≤ 4194304) {L C : Int} (hl : a.eval l = .int .i64 L) (hc : a.eval c = .int .i64 C) (hL : L = (n : Int)) (hC : C = (n : Int))
    (hK : ∀ w', w'.ownsRow w.heap.size 4 1 (.slice (some ⟨w.heap.size, 0, none⟩) n n) n ((List.replicate n false).map Value.bool) → Below w.heap.size w w' →
      wpList Try.prog ops Q rest (a.put o.dst (.slice (some ⟨w.heap.size, 0, none⟩) n n)) w') :
    wpList Try.prog ops Q (o :: rest) a w := by
  refine wpList_plain hg fun K hK' => ?_
  obtain ⟨w', hrun, r1, r2⟩ := make_bools n hn w
  subst hL
  subst hC
  unfold Oper.wp
  simp [execOp, hop, hl, hc, hrun, Result.andThen]
  exact hK' _ _ (hK w' r1 r2)

/-- 'make([]int, n)', for every world. -/
theorem make_ints (n : Nat) (hn : n ≤ 4194304) (w : World) :
    ∃ w', (Instr.makeSlice 35 (.int .i64 (n : Int)) (.int .i64 (n : Int))).run Try.prog w = .ok (.slice (some ⟨w.heap.size, 0, none⟩) n n) w' ∧
      w'.ownsRow w.heap.size 3 1 (.slice (some ⟨w.heap.size, 0, none⟩) n n) n ((List.replicate n (0 : Int)).map (Value.int .i64)) ∧ Below w.heap.size w w' := by
  obtain ⟨i0, hi, hz, hs, hby⟩ := info_parts info_int
  obtain ⟨w', h1, h2, h3⟩ := run_make_full (P := Try.prog) w w.heap.size 35 3 i0 _ 1 Try.underlying35 hi hz hs .i64 .i64 n (by rw [hby]; omega) (by simp only [maxLen]; omega) (Nat.le_refl _)
  refine ⟨w', h1, ?_, (Below.refl _ _).grown h3 (Nat.le_refl _) (by simp)⟩
  have e : (madeCells (Value.int .i64 0).cells (n * 1)).toList = (List.replicate n (0 : Int)).map (Value.int .i64) := by
    rw [Nat.mul_one]
    show (madeCells #[Value.int .i64 0] n).toList = _
    rw [toList_madeCells_one, List.map_replicate]
  rw [e] at h2
  exact h2

/-- .. at the operation. -/
theorem wpList_make_ints {w : World} {ops : Array Oper} {rest : List Oper} {o : Oper} {a : Act} {Q : Exit → Act → World → Prop}
    (hg : o.guard = none) (l c : Operand) (hop : o.op = Op.makeSlice 35 l c) (n : Nat) (hn : n ≤ 4194304) {L C : Int} (hl : a.eval l = .int .i64 L) (hc : a.eval c = .int .i64 C) (hL : L = (n : Int)) (hC : C = (n : Int))
    (hK : ∀ w', w'.ownsRow w.heap.size 3 1 (.slice (some ⟨w.heap.size, 0, none⟩) n n) n ((List.replicate n (0 : Int)).map (Value.int .i64)) → Below w.heap.size w w' →
      wpList Try.prog ops Q rest (a.put o.dst (.slice (some ⟨w.heap.size, 0, none⟩) n n)) w') :
    wpList Try.prog ops Q (o :: rest) a w := by
  refine wpList_plain hg fun K hK' => ?_
  obtain ⟨w', hrun, r1, r2⟩ := make_ints n hn w
  subst hL
  subst hC
  unfold Oper.wp
  simp [execOp, hop, hl, hc, hrun, Result.andThen]
  exact hK' _ _ (hK w' r1 r2)

theorem field_any (W T : Nat) (hW : 1 ≤ W ∧ W ≤ 6) (hT : 1 ≤ T ∧ T ≤ 6) (w : World) :
    Calls Try.prog 144 #[.int .i64 W, .int .i64 T] w fun e w' => ∃ g c, e = .returned (.agg #[.int .i64 W, .int .i64 T, .slice (some ⟨g, 0, none⟩) (W * T) c]) ∧
      w'.ownsRow w.heap.size 4 1 (.slice (some ⟨g, 0, none⟩) (W * T) c) (W * T) ((List.replicate (W * T) false).map Value.bool) ∧ Below w.heap.size w w' := by
  have hm := mul_bdN hW.1 hW.2 hT.1 hT.2
  have hmi : (W : Int) * (T : Int) ≤ 36 ∧ 1 ≤ (W : Int) * (T : Int) := by
    have : (W : Int) * (T : Int) = ((W * T : Nat) : Int) := by simp
    omega
  obtain ⟨hm1, hm2⟩ := hmi
  go_enter Try.func144, Try.ntmps144
  go_wp2_with (at_make; refine wpList_make_bools rfl _ _ rfl (W * T) (by omega) rfl rfl (by simp) (by simp) ?_; intro w1 hown hb; simp only [World.size_alloc] at hown hb; obtain ⟨hc, hf⟩ := bcell hb; have hz := hb.size; simp only [World.size_alloc] at hz)
  refine bodyPost_ret (v := .agg #[.int .i64 W, .int .i64 T, .slice (some ⟨w.heap.size + 1, 0, none⟩) (W * T) (W * T)]) (by simp [results, Try.results144, go_sem, hc]) rfl ⟨_, _, rfl, ?_, ?_⟩
  · exact own_mono (ownsRow_setCell_below (ownsRow_setCell_below (ownsRow_setCell_below hown (by simp) _) (by simp) _) (by simp) _) (by omega)
  · exact (((((Below.refl _ _).alloc (Nat.le_refl _) _).trans (hb.mono (by omega))).setCell (by simp) _).setCell (by simp) _).setCell (by simp) _

theorem set_rep (n k : Nat) (h : k < n) : (((List.replicate k true ++ List.replicate (n - k) false).map Value.bool).set k (.bool true)) = (List.replicate (k + 1) true ++ List.replicate (n - (k + 1)) false).map Value.bool := by
  obtain ⟨m, rfl⟩ : ∃ m, n = k + 1 + m := ⟨n - (k + 1), by omega⟩
  have e1 : k + 1 + m - k = m + 1 := by omega
  have e2 : k + 1 + m - (k + 1) = m := by omega
  rw [e1, e2, List.replicate_succ' (n := k), List.replicate_succ (n := m)]
  simp

theorem box_any (W T : Nat) (hW : 1 ≤ W ∧ W ≤ 6) (hT : 1 ≤ T ∧ T ≤ 6) (hWT : W * T ≤ 24) (w : World) :
    Calls Try.prog 93 #[.int .i64 W, .int .i64 T] w fun e w' => ∃ v, e = .returned (.agg #[.int .i64 W, .int .i64 T, v]) ∧
      w'.ownsRow w.heap.size 4 1 v (W * T) ((List.replicate (W * T) true).map Value.bool) ∧ Below w.heap.size w w' := by
  have hm := mul_bdN hW.1 hW.2 hT.1 hT.2
  have hmi : (W : Int) * (T : Int) ≤ 24 ∧ 1 ≤ (W : Int) * (T : Int) := by
    have : (W : Int) * (T : Int) = ((W * T : Nat) : Int) := by simp
    omega
  obtain ⟨hm1, hm2⟩ := hmi
  have h1 : inB (W : Int) 1 6 = true := inB_t (by omega)
  have h2 : inB (T : Int) 1 6 = true := inB_t (by omega)
  go_enter Try.func93, Try.ntmps93
  go_wp2_with (first
    | (go_at_call 73; refine (in_any _ _ _ _).mono ?_; rintro e w' ⟨rfl, rfl⟩)
    | (go_at_call 144; refine (field_any W T hW hT _).mono ?_; rintro e w1 ⟨g, c, rfl, hown, hb⟩; simp only [World.size_alloc] at hown hb; obtain ⟨hc, hf⟩ := bcell hb; have hz := hb.size; simp only [World.size_alloc] at hz))
  have hB1 : Blk (w1.alloc (.cells #[.int .i64 W, .int .i64 T, .slice (some ⟨g, 0, none⟩) (W * T) c] 28)) w1.heap.size 28 #[.int .i64 W, .int .i64 T, .slice (some ⟨g, 0, none⟩) (W * T) c] := Blk.new _ _ _
  have hB0 : Blk (w1.alloc (.cells #[.int .i64 W, .int .i64 T, .slice (some ⟨g, 0, none⟩) (W * T) c] 28)) w.heap.size 28 #[.int .i64 0, .int .i64 0, .slice none 0 0] :=
    ((Blk.new w _ _).below hb (by omega)).alloc _
  have hown1 := hown.alloc (.cells #[.int .i64 W, .int .i64 T, .slice (some ⟨g, 0, none⟩) (W * T) c] 28)
  have hbw : Below w.heap.size w (w1.alloc (.cells #[.int .i64 W, .int .i64 T, .slice (some ⟨g, 0, none⟩) (W * T) c] 28)) := (((Below.refl _ _).alloc (Nat.le_refl _) _).trans (hb.mono (by omega))).alloc (by omega) _
  have hg := hown.lt g rfl
  have hne1 : g ≠ w.heap.size := by omega
  have hne2 : g ≠ w1.heap.size := by omega
  clear hown hb hc hf
  go_loopw [28] (fun i wr => ∃ k : Nat, k ≤ W * T ∧ i = .int .i64 k ∧ wr.ownsRow (w.heap.size + 1) 4 1 (.slice (some ⟨g, 0, none⟩) (W * T) c) (W * T) ((List.replicate k true ++ List.replicate (W * T - k) false).map Value.bool) ∧
      Blk wr w1.heap.size 28 #[.int .i64 W, .int .i64 T, .slice (some ⟨g, 0, none⟩) (W * T) c] ∧ Blk wr w.heap.size 28 #[.int .i64 0, .int .i64 0, .slice none 0 0] ∧ Below w.heap.size w wr)
    (fun i _ => W * T - (intOf i).toNat)
  case atStart => exact ⟨0, Nat.zero_le _, rfl, by simpa using hown1, hB1, hB0, hbw⟩
  case round =>
    obtain ⟨k, hk, rfl, hown, hR, hS, hbw'⟩ := hrel
    clear hown1 hB1 hB0 hbw
    have hi : ((W * T : Nat) : Int) = (W : Int) * (T : Int) := by simp
    have r0 := hR.cell 0
    have r1 := hR.cell 1
    have r2 := hR.cell 2
    simp at r0 r1 r2
    have s0 := hS.cell 0
    have s1 := hS.cell 1
    have s2 := hS.cell 2
    simp at s0 s1 s2
    have q0 := hS.frozen 0
    have q1 := hS.frozen 1
    have q2 := hS.frozen 2
    by_cases hlt : k < W * T
    · have hlti : (k : Int) < (W : Int) * (T : Int) := by omega
      obtain ⟨u, hu⟩ : ∃ u, wr.cell? ⟨g, k, none⟩ = some u := by
        rw [hown.cellAt k (by omega)]
        exact ⟨_, List.getElem?_eq_getElem (by simp; omega)⟩
      have hfr := hown.frozenAt k
      clear hi
      go_wp2
      go_roundw
      case rel =>
        refine ⟨k + 1, by omega, by go_num, ?_, hR.far (p := ⟨g, k, none⟩) (by simpa using hne2.symm) _, hS.far (p := ⟨g, k, none⟩) (by simpa using hne1.symm) _, hbw'.setCell (by simp; omega) _⟩
        have := (hown.stored k (.bool true)).1
        rwa [set_rep _ _ hlt] at this
      case measure => simp [intOf]; omega
    · have hlti : (W : Int) * (T : Int) ≤ (k : Int) := by omega
      clear hi
      go_wp2
      have hk' : k = W * T := by omega
      subst hk'
      refine bodyPost_ret (v := .agg #[.int .i64 W, .int .i64 T, .slice (some ⟨g, 0, none⟩) (W * T) c]) (by simp [results, Try.results93, go_sem, s0, s1, s2]) rfl ⟨_, rfl, ?_, ?_⟩
      · have := own_mono (ownsRow_setCell_below (ownsRow_setCell_below (ownsRow_setCell_below hown (a := ⟨w.heap.size, 0, none⟩) (by simp) (.int .i64 W)) (a := ⟨w.heap.size, 1, none⟩) (by simp) (.int .i64 T)) (a := ⟨w.heap.size, 2, none⟩) (by simp) (.slice (some ⟨g, 0, none⟩) (W * T) c)) (base' := w.heap.size) (by omega)
        simpa using this
      · exact ((hbw'.setCell (by simp) _).setCell (by simp) _).setCell (by simp) _

theorem cells_yes (W T : Int) (A : Option Addr) (n c B : Nat) (bs : List Bool) (w : World) (hr : Reads w B 1 A n (bs.map Value.bool)) (hB : B ≤ w.heap.size) (hn : n ≤ 9223372036854775807) (hv : validB W T bs = true) :
    Calls Try.prog 92 #[.agg #[.int .i64 W, .int .i64 T, .slice A n c]] w fun e w' => e = .returned (.int .i64 (cnt bs)) ∧ Below w.heap.size w w' := by
  go_enter Try.func92, Try.ntmps92
  go_wp2_with (first
    | (go_at_call 90; refine (valid_any W T A n c B bs _ (hr.alloc hB _) (by simp; omega) hn).mono ?_; rintro e w1 ⟨rfl, hb⟩; simp only [World.size_alloc] at hb; obtain ⟨hc, hf⟩ := bcell hb)
    | (go_at_call 140; refine (many_any A n c B bs _ ((hr.alloc hB _).below (hb.mono (by omega))) hn).mono ?_; rintro e w' ⟨rfl, rfl⟩))
  go_ret
  exact ⟨rfl, ((Below.refl _ _).alloc (Nat.le_refl _) _).trans (hb.mono (by omega))⟩

theorem cnt_rep (n : Nat) : cnt (List.replicate n true) = n := by simp [cnt, List.countP_replicate]

theorem alive_any (w : World) :
    Calls Try.prog 34 #[] w fun e w' => e = .returned (.bool true) ∧ Below w.heap.size w w' := by
  go_enter Try.func34, Try.ntmps34
  go_wp2_with fail
  refine (box_any 2 3 (by omega) (by omega) (by omega) _).mono ?_
  rintro e w1 ⟨v, rfl, hown, hb⟩
  obtain ⟨A, c, rfl, hc, hr⟩ := own_form hown
  go_wp2_with fail
  refine (cells_yes 2 3 A 6 c _ (List.replicate 6 true) _ hr (Nat.le_refl _) (by omega) (by decide +kernel)).mono ?_
  rintro e w2 ⟨rfl, hb2⟩
  rw [cnt_rep]
  go_wp2
  go_ret
  exact ⟨rfl, hb.trans (hb2.mono hb.size)⟩

end Go.Proofs.Ytblgnkgakhjjnaa
