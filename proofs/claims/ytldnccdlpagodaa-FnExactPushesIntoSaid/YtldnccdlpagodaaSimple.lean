/-
  YtldnccdlpagodaaSimple: simple and Simple of the program.
-/
import Derived.Test.YtldnccdlpagodaaDfs
import Derived.StillTailTactics
namespace Go.Proofs.Ytldnccdlpagodaa
open Go.RowKit

theorem Blk.new' {w : World} {g : Nat} {t : TypeId} {cs : Array Value} (h : g = w.heap.size) : Blk (w.alloc (.cells cs t)) g t cs := by subst h; exact Blk.new w t cs

set_option maxRecDepth 100000 in
set_option maxHeartbeats 1000000 in
theorem simpleI_ok (R : Reg) (hR : R.ok) (A : Option Addr) (c B : Nat) (w : World) (hr : Reads w B 1 A R.C.length (R.C.map Value.bool)) (hB : B ≤ w.heap.size) :
    Calls Try.prog 115 #[.agg #[.int .i64 R.W, .int .i64 R.T, .slice A R.C.length c]] w fun e w' => e = .returned (.bool (simpleB R.W R.T R.C)) ∧ Below w.heap.size w w' := by
  have hW6 := hR.2.1
  have hT6 := hR.2.2.2.1
  have hpn := pn_bd hR
  have hpe : ((R.pn : Nat) : Int) = ((R.W : Int) + 2) * ((R.T : Int) + 2) := by simp [Reg.pn]
  have HPE := Lib.hid hpe
  have q0 : 0 ≤ ((R.W : Int) + 2) * ((R.T : Int) + 2) := by omega
  have q1 : ((R.W : Int) + 2) * ((R.T : Int) + 2) ≤ 64 := by omega
  clear hpe
  go_enter Try.func115, Try.ntmps115
  go_upto_region 1 with fail
  go_cut [3, 4] (fun s3 s4 wx => ∃ bw bt, s3 = .pointer (some ⟨bw, 0, none⟩) ∧ s4 = .pointer (some ⟨bt, 0, none⟩) ∧ Blk wx w.heap.size 29 #[.int .i64 R.W, .int .i64 R.T, .slice A R.C.length c] ∧
      Blk wx bw 3 #[.int .i64 ((R.W : Int) + 2)] ∧ Blk wx bt 3 #[.int .i64 ((R.T : Int) + 2)] ∧ Below w.heap.size w wx)
  case first =>
    go_region
    all_goals go_wp2_with fail
    · go_meet
      exact ⟨w.heap.size + 1, w.heap.size + 1 + 1, rfl, rfl, (((Blk.new w _ _).alloc _).alloc _).drew, ((Blk.new' (by simp)).alloc _).drew, (Blk.new' (by simp)).drew, ((((Below.refl _ _).alloc (Nat.le_refl _) _).alloc (by simp) _).alloc (by simp; omega) _).drew⟩
    · go_meet
      exact ⟨w.heap.size + 1 + 1, w.heap.size + 1, rfl, rfl, (((Blk.new w _ _).alloc _).alloc _).drew, (Blk.new' (by simp)).drew, ((Blk.new' (by simp)).alloc _).drew, ((((Below.refl _ _).alloc (Nat.le_refl _) _).alloc (by simp) _).alloc (by simp; omega) _).drew⟩
  case rest =>
    obtain ⟨bw, bt, rfl, rfl, hb0, hbw, hbt, hbel⟩ := hcut
    have cw := hbw.cell 0
    have ct := hbt.cell 0
    simp at cw ct
    go_wp2_with (at_make; refine wpList_make_bools rfl _ _ rfl R.pn (by omega) rfl rfl (by simp [HPE.out]) (by simp [HPE.out]) ?_; intro w1 hown hb; have hz := hb.size)
    have hD : DW ((w1.alloc (.cells #[.slice (some ⟨wc.heap.size, 0, none⟩) R.pn R.pn] 22)).alloc (.cells #[.func (.func 145) #[] #[.pointer (some ⟨bw, 0, none⟩), .pointer (some ⟨bt, 0, none⟩), .pointer (some ⟨w1.heap.size, 0, none⟩), .pointer (some ⟨w.heap.size, 0, none⟩), .pointer (some ⟨w1.heap.size + 1, 0, none⟩)]] 126))
        R A c B bw bt w1.heap.size w.heap.size (w1.heap.size + 1) wc.heap.size (List.replicate R.pn false) := by
      refine ⟨((hbw.below hb hbw.lt).alloc _).alloc _, ((hbt.below hb hbt.lt).alloc _).alloc _, (Blk.new w1 _ _).alloc _, ((hb0.below hb hb0.lt).alloc _).alloc _, ?_, own_mono ((hown.alloc _).alloc _) (Nat.zero_le _), ?_, ?_⟩
      · have := Blk.new (w1.alloc (.cells #[.slice (some ⟨wc.heap.size, 0, none⟩) R.pn R.pn] 22)) 126 #[.func (.func 145) #[] #[.pointer (some ⟨bw, 0, none⟩), .pointer (some ⟨bt, 0, none⟩), .pointer (some ⟨w1.heap.size, 0, none⟩), .pointer (some ⟨w.heap.size, 0, none⟩), .pointer (some ⟨w1.heap.size + 1, 0, none⟩)]]
        simpa using this
      · exact ((((hr.below (hbel.mono hB)).below (hb.mono (by have := hbel.size; omega))).alloc (by have := hbel.size; omega) _).alloc (by have := hbel.size; simp; omega) _)
      · have := hbel.size; omega
    have hbel2 : Below w.heap.size w ((w1.alloc (.cells #[.slice (some ⟨wc.heap.size, 0, none⟩) R.pn R.pn] 22)).alloc (.cells #[.func (.func 145) #[] #[.pointer (some ⟨bw, 0, none⟩), .pointer (some ⟨bt, 0, none⟩), .pointer (some ⟨w1.heap.size, 0, none⟩), .pointer (some ⟨w.heap.size, 0, none⟩), .pointer (some ⟨w1.heap.size + 1, 0, none⟩)]] 126)) :=
      ((hbel.trans (hb.mono hbel.size)).alloc (by have := hbel.size; omega) _).alloc (by have := hbel.size; simp; omega) _
    refine (dfs_any R hR A c B bw bt _ _ _ _ R.pn (List.replicate R.pn false) 0 0 _ (by omega) (by omega) (by omega) (by omega) (by omega) hD).mono ?_
    rintro e w2 ⟨M, rfl, D2, F2, G2⟩
    have hS := spread_of_dfs F2
    have hcount := spread_count hR hS
    have hbel3 : Below w.heap.size w w2 := hbel2.grown G2 (by have := hbel2.size; omega) (fun k hk => by injection hk with hk; have := hbel.size; omega)
    obtain ⟨cw, ct, cm, cr0, cr1, cr2, ck⟩ := D2.cs
    have hlen := D2.len
    have hown2 := (Reads.of_own D2.own)
    have hle1 : cnt M ≤ 64 := by have := cnt_le M; omega
    have hle2 : cnt R.C ≤ 24 := hR.2.2.2.2.2
    have HC := Lib.hid hcount
    have HS := Lib.hid hS
    clear hcount hS hown hb hz hD hbel2
    go_upto_region 6 with fail
    have hB2 : B ≤ w2.heap.size := by have := D2.low; have := D2.glt; omega
    have hl36 := (len_bd hR).2
    have m1 : Calls Try.prog 124 #[.slice (some ⟨wc.heap.size, 0, none⟩) R.pn R.pn] w2.drew fun e w' => e = .returned (.int .i64 (cnt M)) ∧ w' = w2.drew := (many_any _ R.pn R.pn w2.heap.size M w2.drew hown2.drew (by omega)).mono fun _ _ h => ⟨h.1, h.2.symm⟩
    have m2 : Calls Try.prog 124 #[.slice A R.C.length c] w2.drew fun e w' => e = .returned (.int .i64 (cnt R.C)) ∧ w' = w2.drew := (many_any A R.C.length c B R.C w2.drew D2.cells.drew (by omega)).mono fun _ _ h => ⟨h.1, h.2.symm⟩
    have m3 : Calls Try.prog 146 #[.agg #[.int .i64 R.W, .int .i64 R.T, .slice A R.C.length c]] w2.drew fun e w' => ∃ m : Nat, e = .returned (.int .i64 m) ∧ (m = 1 ↔ InConn R) ∧ Below w2.heap.size w2.drew w' := partsMany_any R hR A c B w2.drew D2.cells.drew hB2
    have M1 := hide m1
    have M2 := hide m2
    have M3 := hide m3
    clear m1 m2 m3
    refine wp_region_still_tail 11 (by kernel_rfl) (by kernel_rfl) ?_
    simp only [List.take_succ_cons, List.take_zero, List.drop_succ_cons, List.drop_zero]
    still_step
    still_call (unhide M1)
    still_step
    still_step
    still_step
    still_step
    still_step
    still_call (unhide M2)
    still_step
    still_step
    still_step
    refine wpStill_nil ?_
    change wpList _ _ _ _ _ w2.drew
    by_cases hO : OutConn R
    · have heq : ((cnt M : Int) == ((R.W : Int) + 2) * ((R.T : Int) + 2) - (cnt R.C : Int)) = true := by
        have h1 := HC.out.2 hO
        have h2 := HPE.out
        simp; omega
      have heqp : (cnt M : Int) = ((R.W : Int) + 2) * ((R.T : Int) + 2) - (cnt R.C : Int) := by simpa using heq
      by_cases hI : InConn R
      · have HSB := Lib.hid ((simple_of hR).2 ⟨hI, hO⟩)
        go_wp2_with (go_at_call 146; (with_reducible refine (unhide M3).mono ?_); rintro e w3 ⟨m, rfl, hm, hb3⟩; have hm1 : ((m : Int) == 1) = true := by have := hm.2 hI; subst this; rfl)
        go_ret
        exact ⟨ret_bool (by rw [HSB.out]), hbel3.trans (Below.trans ((Below.refl _ _).drew) (hb3.mono hbel3.size))⟩
      · have hsb : simpleB R.W R.T R.C = false := by
          rw [Bool.eq_false_iff]; intro h; exact hI ((simple_of hR).1 h).1
        have HSB := Lib.hid hsb
        clear hsb
        go_wp2_with (go_at_call 146; (with_reducible refine (unhide M3).mono ?_); rintro e w3 ⟨m, rfl, hm, hb3⟩; have hm1 : ((m : Int) == 1) = false := by have : ¬ m = 1 := fun h => hI (hm.1 h); simp; omega)
        go_ret
        exact ⟨ret_bool (by rw [HSB.out]), hbel3.trans (Below.trans ((Below.refl _ _).drew) (hb3.mono hbel3.size))⟩
    · have heq : ((cnt M : Int) == ((R.W : Int) + 2) * ((R.T : Int) + 2) - (cnt R.C : Int)) = false := by
        have h1 : ¬ cnt M + cnt R.C = R.pn := fun h => hO (HC.out.1 h)
        have h2 := HPE.out
        simp; omega
      have heqp : ¬ (cnt M : Int) = ((R.W : Int) + 2) * ((R.T : Int) + 2) - (cnt R.C : Int) := by simpa using heq
      have hsb : simpleB R.W R.T R.C = false := by
        rw [Bool.eq_false_iff]; intro h; exact hO ((simple_of hR).1 h).2
      have HSB := Lib.hid hsb
      clear hsb
      go_wp2_with fail
      go_ret
      exact ⟨ret_bool (by rw [HSB.out]), hbel3.drew⟩

theorem simpleB_no {W T : Int} {bs : List Bool} (h : validB W T bs = false) : simpleB W T bs = false := by unfold simpleB; rw [h]; rfl

theorem SimpleI_any (W T : Int) (A : Option Addr) (n c B : Nat) (bs : List Bool) (w : World) (hr : Reads w B 1 A n (bs.map Value.bool)) (hB : B ≤ w.heap.size) (hn : n ≤ 9223372036854775807) :
    Calls Try.prog 68 #[.agg #[.int .i64 W, .int .i64 T, .slice A n c]] w fun e w' => e = .returned (.bool (simpleB W T bs)) ∧ Below w.heap.size w w' := by
  cases hv : validB W T bs with
  | false =>
    have HV := Lib.hid hv
    have HS := Lib.hid (simpleB_no hv)
    clear hv
    go_enter Try.func68, Try.ntmps68
    go_wp2_with fail
    refine (valid_any _ _ A _ c B bs _ (hr.alloc hB _) (by simp; omega) hn).mono ?_
    rintro e w0 ⟨rfl, hb0⟩
    rw [HV.out]
    simp only [World.size_alloc] at hb0
    go_wp2_with fail
    go_ret
    exact ⟨ret_bool (by rw [HS.out]), ((Below.refl _ _).alloc (Nat.le_refl _) _).trans (hb0.mono (by omega))⟩
  | true =>
    obtain ⟨R, hR, rfl, rfl, rfl⟩ := reg_of_valid hv
    have hl : R.C.length = n := by have := hr.1; simpa using this
    subst hl
    have HV := Lib.hid hv
    clear hv
    go_enter Try.func68, Try.ntmps68
    go_wp2_with fail
    refine (valid_any _ _ A _ c B R.C _ (hr.alloc hB _) (by simp; omega) hn).mono ?_
    rintro e w0 ⟨rfl, hb0⟩
    rw [HV.out]
    simp only [World.size_alloc] at hb0
    obtain ⟨hc0, hf0⟩ := bcell hb0
    have hz0 := hb0.size
    simp only [World.size_alloc] at hz0
    go_wp2_with fail
    refine (simpleI_ok R hR A c B _ ((hr.alloc hB _).below (hb0.mono (by omega))) (by omega)).mono ?_
    rintro e w1 ⟨rfl, hb1⟩
    go_wp2_with fail
    go_ret
    exact ⟨rfl, (((Below.refl _ _).alloc (Nat.le_refl _) _).trans (hb0.mono (by omega))).trans (hb1.mono (by omega))⟩

end Go.Proofs.Ytldnccdlpagodaa
