/-
  YtpeifojfpkkcpaaFnFlipRunW: the walk of FnFlipRun.
-/
import Derived.Test.YtpeifojfpkkcpaaDj
import Derived.Test.YtpeifojfpkkcpaaLw
import Derived.Test.YtpeifojfpkkcpaaLh
import Derived.Test.YtpeifojfpkkcpaaFvs
import Derived.BigRegion
namespace Go.Proofs.Ytpeifojfpkkcpaa
open Go.RowKit

set_option maxHeartbeats 4000000 in
set_option maxRecDepth 20000 in
theorem FnFlipRun_walk (w : World) (A : Option Addr) (n c : Nat) (zs : List Int) (hnc : n ≤ c) (hm : n ≤ maxLen) (_hl : zs.length = n) (hr : Reads w w.heap.size 1 A n (zs.map (Value.int .u8))) (hwz : ∀ z ∈ zs, (Lit.int .u8 z).wf = true) :
    Calls Try.prog 3 #[.slice A n c] w fun e w' => e = .returned (.bool true) ∧ Below w.heap.size w w' := by
  unfold maxLen at hm
  by_cases hb : 1048576 < n
  · go_enter Try.func3, Try.ntmps3
    go_wp2_with fail
    go_ret
    exact ⟨rfl, Below.refl _ _⟩
  · have hDR := hide (drawFlipRun_any A n c zs w hr hnc (by omega) hwz)
    clear hr hwz hm _hl
    go_enter Try.func3, Try.ntmps3
    go_wp2_with fail
    refine (unhide hDR).mono ?_
    rintro e w1 ⟨W, T, A2, c2, Da, da, Db, db, bs, a, b, rfl, hreg, ha1, hna, hb1, hnb, hcap, hzb, hB1⟩
    clear hDR
    have hS2 := LS.start (W := W) (T := T) hB1 hreg
    have ha2 : LI w (w1.alloc (.cells #[.int .i64 W, .int .i64 T, .slice A2 bs.length c2] 25)) Da da a := ha1.below ((Below.refl _ _).alloc (Nat.le_refl _) _)
    have hb2 : LI w (w1.alloc (.cells #[.int .i64 W, .int .i64 T, .slice A2 bs.length c2] 25)) Db db b := hb1.below ((Below.refl _ _).alloc (Nat.le_refl _) _)
    clear hreg hB1 ha1 hb1
    go_upto_region 4 with fail
    generalize w1.alloc (.cells #[.int .i64 W, .int .i64 T, .slice A2 bs.length c2] 25) = w2 at *
    generalize w1.heap.size = x at *
    have hbs := hS2.len
    obtain ⟨f1, f2⟩ := fqL_len (W := W) (T := T) (bs := bs) (L := a) (cs := b)
    have hlaw := law_flipRun (W := W) (T := T) (bs := bs) (L := a) (cs := b)
    have hno := fqL_no (W := W) (T := T) (bs := bs) (L := a) (cs := b)
    have hfb := fqB_laid (W := W) (T := T) (bs := bs) (L := a) (cs := b)
    obtain ⟨ok, hok⟩ : ∃ ok, fqB W T bs a b = ok := ⟨_, rfl⟩
    obtain ⟨lo, hlo⟩ : ∃ lo, laidB W T bs a = lo := ⟨_, rfl⟩
    obtain ⟨X, hX⟩ : ∃ X, fqL W T bs a b = X := ⟨_, rfl⟩
    obtain ⟨N, hN⟩ : ∃ N, fqN W T bs a b = N := ⟨_, rfl⟩
    rw [hok] at hlaw hno hfb
    rw [hX] at f1 hlaw hno
    rw [hN] at f2 hlaw hno
    rw [hlo] at hfb
    have hzb6 : ∀ z ∈ b, z ≤ 1000000 := fun z hz => by have := hzb z hz; omega
    have HZ := Lib.hid hzb6
    have hnn : (((N : Nat) : Int) != ((N : Nat) : Int)) = false := by simp
    clear hzb hzb6
    have hC2 := flipRunI_any W T A2 bs.length c2 w2.heap.size bs a b Da Db a.length da b.length db (HZ.out) ha2.plain w2 rfl rfl rfl hS2.rd ha2.rd hb2.rd (Nat.le_refl _) (by omega) (by omega)
    rw [hX, hN] at hC2
    obtain ⟨x0, x1, x2⟩ := hS2.cells
    go_wp2_with fail
    refine hC2.mono ?_
    rintro e w3 ⟨A3, c3, c3', rfl, ho3, hw3⟩
    have hS3 := hS2.below hw3
    have ha3 := ha2.below hw3
    have hb3 := hb2.below hw3
    have hX3 : LI w w3 A3 c3' X := LI.of hS2.bel.size ho3
    clear hS2 hC2 hw3 ha2 hb2 ho3 x0 x1 x2
    have hC3 := flipRunS_any W T A2 bs.length c2 w3.heap.size bs a b Da Db a.length da b.length db (HZ.out) ha3.plain w3 rfl rfl rfl hS3.rd ha3.rd hb3.rd (Nat.le_refl _) (by omega) (by omega)
    rw [hX, hN] at hC3
    obtain ⟨x0, x1, x2⟩ := hS3.cells
    go_wp2_with fail
    refine hC3.mono ?_
    rintro e w4 ⟨A4, c4, c4', rfl, ho4, hw4⟩
    have hS4 := hS3.below hw4
    have ha4 := ha3.below hw4
    have hb4 := hb3.below hw4
    have hX4 := hX3.below hw4
    have hY4 : LI w w4 A4 c4' X := LI.of hS3.bel.size ho4
    clear hS3 hC3 hw4 ha3 hb3 hX3 ho4 x0 x1 x2
    have hC4 := sameInts_any X X A3 A4 X.length c3' X.length c4' w4.heap.size w4 rfl rfl hX4.rd hY4.rd (by omega) (by omega)
    rw [beq_self_list] at hC4
    go_wp2_with fail
    refine hC4.mono ?_
    rintro e w5 ⟨rfl, hw5⟩
    have hS5 := hS4.below hw5
    have ha5 := ha4.below hw5
    have hb5 := hb4.below hw5
    have hX5 := hX4.below hw5
    clear hS4 hC4 hw5 ha4 hb4 hX4 hY4 
    have hC5 := laidOkS_any W T A2 bs.length c2 w5.heap.size bs a Da a.length da w5 rfl rfl hS5.rd ha5.rd (Nat.le_refl _) (by omega) (by omega)
    rw [hlo] at hC5
    obtain ⟨x0, x1, x2⟩ := hS5.cells
    go_wp2_with fail
    refine hC5.mono ?_
    rintro e w6 ⟨rfl, hw6⟩
    have hS6 := hS5.below hw6
    have ha6 := ha5.below hw6
    have hb6 := hb5.below hw6
    have hX6 := hX5.below hw6
    clear hS5 hC5 hw6 ha5 hb5 hX5 x0 x1 x2
    cases lo with
    | false =>
      obtain ⟨rfl, rfl⟩ := hno (hfb.trans rfl)
      clear hno hlaw hnn hX hN
      have hbel := hS6.bel
      clear hS6 ha6 hb6 hX6
      go_wp2_with fail
      refine (alive_any _).mono ?_
      rintro e w7 ⟨rfl, hw7⟩
      go_wp2_with fail
      go_ret
      exact ⟨rfl, hbel.trans (hw7.mono hbel.size)⟩
    | true =>
      by_cases hlen : b.length ≤ 60
      ·
        have hok2 : ok = true := hfb.trans (by rw [decide_eq_true hlen]; rfl)
        subst hok2
        obtain ⟨k, hk⟩ : ∃ k, b.length / 2 = k := ⟨_, rfl⟩
        have hq2 : (b.length : Int).tdiv 2 = ((k : Nat) : Int) := by rw [Int.tdiv_eq_ediv_of_nonneg (by omega)]; omega
        have hkb : k ≤ b.length := by omega
        have hi0 : (0 : Int) ≤ (k : Int) := by omega
        have hi1 : (k : Int) ≤ (b.length : Int) := by omega
        have hi2 : (k : Int) ≤ (db : Int) := by omega
        have hi3 : (b.length : Int) ≤ (db : Int) := by omega
        obtain ⟨g1, g2, g3, g4⟩ := hlaw rfl k
        obtain ⟨m1, m2⟩ := fqL_len (W := W) (T := T) (bs := bs) (L := a) (cs := b.take k)
        obtain ⟨M, hM⟩ : ∃ M, fqL W T bs a (b.take k) = M := ⟨_, rfl⟩
        obtain ⟨P, hP⟩ : ∃ P, fqN W T bs a (b.take k) = P := ⟨_, rfl⟩
        rw [hM] at g1 g2 m1
        rw [hP] at g2 m2
        obtain ⟨Q, hQ⟩ : ∃ Q, fqN W T bs M (b.drop k) = Q := ⟨_, rfl⟩
        rw [hQ] at g2
        have G1 := Lib.hid g1
        have G2 := Lib.hid g2
        have G3 := Lib.hid g3
        have G4 := Lib.hid g4
        have HQ := Lib.hid hQ
        have hlt : (b.take k).length = k := by rw [List.length_take]; omega
        have hld : (b.drop k).length = b.length - k := List.length_drop
        have hz1 : ∀ z ∈ b.take k, z ≤ 1000000 := fun z hz => HZ.out z (List.mem_of_mem_take hz)
        have hz2 : ∀ z ∈ b.drop k, z ≤ 1000000 := fun z hz => HZ.out z (List.mem_of_mem_drop hz)
        have HC1 := fun w' (h : Below w6.heap.size w6 w') => hide (flipRunI_any W T A2 bs.length c2 w'.heap.size bs a (b.take k) Da Db a.length da k db hz1 ha6.plain w' rfl rfl hlt (hS6.below h).rd (ha6.below h).rd ((hb6.below h).rd.takeI hkb) (Nat.le_refl _) (by omega) (by omega))
        rw [hM, hP] at HC1
        clear hlaw hno hfb hnn hX hN g1 g2 g3 g4 hQ hM hP hz1 hlt
        go_upto_region 11 with fail
        have hd0 := (Below.refl w6.heap.size w6).drew
        obtain ⟨x0, x1, x2⟩ := (hS6.below hd0).cells
        go_region_held3 (fun w' => w'.cell? ⟨x, 0, none⟩ = some (.int .i64 W) ∧ w'.cell? ⟨x, 1, none⟩ = some (.int .i64 T) ∧ w'.cell? ⟨x, 2, none⟩ = some (.slice A2 bs.length c2))
          (first
            | exact ⟨x0, x1, x2⟩
            | exact (hS6.below hB8).cells)
          (first
            | (go_at_call 15; (with_reducible refine (unhide (HC1 _ hd0)).mono ?_); rintro e w8 ⟨A8, c8, c8', rfl, ho8, hb8⟩; have hB8 := hd0.trans (hb8.mono hd0.size)))
        have hS8 := hS6.below hB8
        have ha8 := ha6.below hB8
        have hb8' := hb6.below hB8
        have hX8 := hX6.below hB8
        have hM8 : LI w w8 A8 c8' M := LI.of (wr := w6.drew) (by simpa using hS6.bel.size) ho8
        clear hS6 ha6 hb6 hX6 HC1 hb8 hB8 ho8 hd0 x0 x1 x2
        go_upto_region 12 with fail
        go_cut [13, 14] (fun s13 s14 wx => ∃ (A9 : Option Addr) (c9 : Nat), s13 = .slice A9 X.length c9 ∧ s14 = .int .i64 (Q : Nat) ∧ LS w wx x W T A2 c2 bs ∧ LI w wx Da da a ∧ LI w wx A3 c3' X ∧ LI w wx A9 c9 X)
        case first =>
          have hd0 := (Below.refl w8.heap.size w8).drew
          obtain ⟨x0, x1, x2⟩ := (hS8.below hd0).cells
          have hsz8 := hS8.bel.size
          by_cases hdk : db = k
          · subst hdk
            have HC2 := hide (flipRunI_any W T A2 bs.length c2 w8.drew.heap.size bs M (b.drop db) A8 Db M.length c8' 0 0 hz2 hM8.plain w8.drew rfl rfl (by omega) (hS8.below hd0).rd (hM8.below hd0).rd (by have := ((hb8'.below hd0).rd.cutI hkb hcap); rw [if_pos rfl, show b.length - db = 0 by omega] at this; exact this) (Nat.le_refl _) (by omega) (by omega))
            rw [G1.out, HQ.out] at HC2
            clear hz2 hld HQ G1
            go_region_held3 (fun w' => w'.cell? ⟨x, 0, none⟩ = some (.int .i64 W) ∧ w'.cell? ⟨x, 1, none⟩ = some (.int .i64 T) ∧ w'.cell? ⟨x, 2, none⟩ = some (.slice A2 bs.length c2))
              (first
                | exact ⟨x0, x1, x2⟩
                | exact (hS8.below hB9).cells)
              (first
                | (go_at_call 15; (with_reducible refine (unhide HC2).mono ?_); rintro e w9 ⟨A9, c9, c9', rfl, ho9, hb9⟩; have hB9 := hd0.trans (hb9.mono hd0.size)))
            go_wp2_with fail
            go_meet
            exact ⟨A9, c9', rfl, rfl, hS8.below hB9, ha8.below hB9, hX8.below hB9, LI.of (wr := w8.drew) (by simpa using hsz8) ho9⟩
          · have HC2 := hide (flipRunI_any W T A2 bs.length c2 w8.drew.heap.size bs M (b.drop k) A8 (Db.map (·.add k)) M.length c8' (b.length - k) (db - k) hz2 hM8.plain w8.drew rfl rfl hld (hS8.below hd0).rd (hM8.below hd0).rd (by have := ((hb8'.below hd0).rd.cutI hkb hcap); rw [if_neg hdk] at this; exact this) (Nat.le_refl _) (by omega) (by omega))
            rw [G1.out, HQ.out] at HC2
            clear hz2 hld HQ G1
            go_region_held3 (fun w' => w'.cell? ⟨x, 0, none⟩ = some (.int .i64 W) ∧ w'.cell? ⟨x, 1, none⟩ = some (.int .i64 T) ∧ w'.cell? ⟨x, 2, none⟩ = some (.slice A2 bs.length c2))
              (first
                | exact ⟨x0, x1, x2⟩
                | exact (hS8.below hB9).cells)
              (first
                | (go_at_call 15; (with_reducible refine (unhide HC2).mono ?_); rintro e w9 ⟨A9, c9, c9', rfl, ho9, hb9⟩; have hB9 := hd0.trans (hb9.mono hd0.size)))
            go_wp2_with fail
            go_meet
            exact ⟨A9, c9', rfl, rfl, hS8.below hB9, ha8.below hB9, hX8.below hB9, LI.of (wr := w8.drew) (by simpa using hsz8) ho9⟩
        case rest =>
          clear hS8 ha8 hb8' hX8 hM8 hz2 hld HQ G1
          obtain ⟨A9, c9, rfl, rfl, hS9, ha9, hX9, hZ9⟩ := hcut
          go_upto_region 13 with fail
          have hd9 := (Below.refl wc.heap.size wc).drew
          have hG1 := hide (sameInts_any X X A9 A3 X.length c9 X.length c3' wc.drew.heap.size wc.drew rfl rfl (hZ9.below hd9).rd (hX9.below hd9).rd (by omega) (by omega))
          have hG2 := fun w' (h : Below wc.heap.size wc w') => hide (laidOkI_any W T A2 bs.length c2 w'.heap.size bs X A3 X.length c3' w' rfl rfl (hS9.below h).rd (hX9.below h).rd (Nat.le_refl _) (by omega) (by omega))
          have hG3 := fun w' (h : Below wc.heap.size wc w') => hide (tilingOkI_any W T A2 bs.length c2 w'.heap.size bs X A3 X.length c3' w' rfl rfl (hS9.below h).rd (hX9.below h).rd (Nat.le_refl _) (by omega) (by omega))
          have hG4 := fun w' (h : Below wc.heap.size wc w') => hide (tilingOkI_any W T A2 bs.length c2 w'.heap.size bs a Da a.length da w' rfl rfl (hS9.below h).rd (ha9.below h).rd (Nat.le_refl _) (by omega) (by omega))
          rw [beq_self_list] at hG1
          simp only [G3.out] at hG2
          simp only [G4.out] at hG3
          generalize tilingB W T bs a = tb at *
          have hsum : (P : Int) + (Q : Int) = (N : Int) := by have := G2.out; omega
          have hwN : IntKind.i64.wrap ((N : Nat) : Int) = ((N : Nat) : Int) := IntWalk.i64_in _ (by omega)
          have heqN : (((N : Nat) : Int) == ((N : Nat) : Int)) = true := by simp
          obtain ⟨x0, x1, x2⟩ := hS9.cells
          have hbel := hS9.bel
          clear ha9 hX9 hZ9 hi0 hi1 hi2 hi3
          refine wp_region_any (by kernel_rfl) ?_
          change wpAny _ _ _ _ _ _ _ (World.drew _)
          refine wpAny_take (i := 0) (v := ?_) rfl (by kernel_rfl) (by kernel_rfl) (by kernel_rfl) (fun _ _ _ h => h) (Or.inl ⟨by kernel_rfl, ?_⟩) ?_
          rotate_left
          · intro w
            go_simp
            try with_reducible rfl
          refine wpAny_take (i := 1) (v := ?_) rfl (by kernel_rfl) (by kernel_rfl) (by kernel_rfl) (fun _ _ _ h => h) (Or.inl ⟨by kernel_rfl, ?_⟩) ?_
          rotate_left
          · intro w
            go_simp
            try with_reducible rfl
          refine wpAny_ready (rs := [2]) (by kernel_rfl) (by simp) ?_
          refine AllReady.cons rfl (fun K hK => ?_) AllReady.nil
          go_simp
          go_at_call 17
          (with_reducible refine (unhide (hG1)).mono ?_)
          rintro e w10 ⟨rfl, hb10⟩
          have hB10 := hd9.trans (hb10.mono hd9.size)
          clear x0 x1 x2
          obtain ⟨x0, x1, x2⟩ := (hS9.below hB10).cells
          refine hK _ _ ?_
          clear hK K
          refine wpAny_take (i := 3) (v := ?_) rfl (by kernel_rfl) (by kernel_rfl) (by kernel_rfl) (fun _ _ _ h => h) (Or.inl ⟨by kernel_rfl, ?_⟩) ?_
          rotate_left
          · intro w
            go_simp
            try with_reducible rfl
          refine wpAny_take (i := 4) (v := ?_) rfl (by kernel_rfl) (by kernel_rfl) (by kernel_rfl) (fun _ _ _ h => h) (Or.inl ⟨by kernel_rfl, ?_⟩) ?_
          rotate_left
          · intro w
            go_simp
            try with_reducible rfl
          refine wpAny_take (i := 5) (v := ?_) rfl (by kernel_rfl) (by kernel_rfl) (by kernel_rfl) (fun _ _ _ h => h) (Or.inl ⟨by kernel_rfl, ?_⟩) ?_
          rotate_left
          · intro w
            go_simp
            try with_reducible rfl
          refine wpAny_take (i := 6) (v := ?_) rfl (by kernel_rfl) (by kernel_rfl) (by kernel_rfl) (fun _ _ _ h => h) (Or.inl ⟨by kernel_rfl, ?_⟩) ?_
          rotate_left
          · intro w
            go_simp
            try with_reducible rfl
          refine wpAny_take (i := 7) (v := ?_) rfl (by kernel_rfl) (by kernel_rfl) (by kernel_rfl) (fun _ _ _ h => h) (Or.inl ⟨by kernel_rfl, ?_⟩) ?_
          rotate_left
          · intro w
            go_simp
            try with_reducible rfl
          refine wpAny_take (i := 8) (v := ?_) rfl (by kernel_rfl) (by kernel_rfl) (by kernel_rfl) (fun _ _ _ h => h) (Or.inl ⟨by kernel_rfl, ?_⟩) ?_
          rotate_left
          · intro w
            go_simp
            try with_reducible rfl
          refine wpAny_take (i := 9) (v := ?_) rfl (by kernel_rfl) (by kernel_rfl) (by kernel_rfl) (fun _ _ _ h => h) (Or.inl ⟨by kernel_rfl, ?_⟩) ?_
          rotate_left
          · intro w
            go_simp
            try with_reducible rfl
          refine wpAny_take (i := 10) (v := ?_) rfl (by kernel_rfl) (by kernel_rfl) (by kernel_rfl) (fun _ _ _ h => h) (Or.inl ⟨by kernel_rfl, ?_⟩) ?_
          rotate_left
          · intro w
            go_simp
            try with_reducible rfl
          refine wpAny_take (i := 12) (v := ?_) rfl (by kernel_rfl) (by kernel_rfl) (by kernel_rfl) (fun _ _ _ h => h) (Or.inl ⟨by kernel_rfl, ?_⟩) ?_
          rotate_left
          · intro w
            go_simp
            try with_reducible rfl
          refine wpAny_ready (rs := [11]) (by kernel_rfl) (by simp) ?_
          refine AllReady.cons rfl (fun K hK => ?_) AllReady.nil
          go_simp
          refine hK _ _ ?_
          clear hK K
          refine wpAny_ready (rs := [13]) (by kernel_rfl) (by simp) ?_
          refine AllReady.cons rfl (fun K hK => ?_) AllReady.nil
          go_simp
          go_at_call 20
          (with_reducible refine (unhide (hG2 w10 hB10)).mono ?_)
          rintro e w11 ⟨rfl, hb11⟩
          have hB11 := hB10.trans (hb11.mono hB10.size)
          clear x0 x1 x2
          obtain ⟨x0, x1, x2⟩ := (hS9.below hB11).cells
          refine hK _ _ ?_
          clear hK K
          refine wpAny_take (i := 14) (v := ?_) rfl (by kernel_rfl) (by kernel_rfl) (by kernel_rfl) (fun _ _ _ h => h) (Or.inl ⟨by kernel_rfl, ?_⟩) ?_
          rotate_left
          · intro w
            go_simp
            try with_reducible rfl
          refine wpAny_take (i := 15) (v := ?_) rfl (by kernel_rfl) (by kernel_rfl) (by kernel_rfl) (fun _ _ _ h => h) (Or.inl ⟨by kernel_rfl, ?_⟩) ?_
          rotate_left
          · intro w
            go_simp
            try with_reducible rfl
          refine wpAny_take (i := 17) (v := ?_) rfl (by kernel_rfl) (by kernel_rfl) (by kernel_rfl) (fun _ _ _ h => h) (Or.inl ⟨by kernel_rfl, ?_⟩) ?_
          rotate_left
          · intro w
            go_simp
            try with_reducible rfl
          refine wpAny_take (i := 20) (v := ?_) rfl (by kernel_rfl) (by kernel_rfl) (by kernel_rfl) (fun _ _ _ h => h) (Or.inl ⟨by kernel_rfl, ?_⟩) ?_
          rotate_left
          · intro w
            go_simp
            try with_reducible rfl
          refine wpAny_ready (rs := [16, 19]) (by kernel_rfl) (by simp) ?_
          refine AllReady.cons rfl (fun K hK => ?_) (AllReady.cons rfl (fun K hK => ?_) AllReady.nil)
          · go_simp
            refine hK _ _ ?_
            clear hK K
            refine wpAny_ready (rs := [18, 19]) (by kernel_rfl) (by simp) ?_
            refine AllReady.cons rfl (fun K hK => ?_) (AllReady.cons rfl (fun K hK => ?_) AllReady.nil)
            · go_simp
              go_at_call 21
              (with_reducible refine (unhide (hG3 w11 hB11)).mono ?_)
              rintro e w12 ⟨rfl, hb12⟩
              have hB12 := hB11.trans (hb12.mono hB11.size)
              clear x0 x1 x2
              obtain ⟨x0, x1, x2⟩ := (hS9.below hB12).cells
              refine hK _ _ ?_
              clear hK K
              refine wpAny_ready (rs := [19]) (by kernel_rfl) (by simp) ?_
              refine AllReady.cons rfl (fun K hK => ?_) AllReady.nil
              go_simp
              refine hK _ _ ?_
              clear hK K
              refine wpAny_ready (rs := [21]) (by kernel_rfl) (by simp) ?_
              refine AllReady.cons rfl (fun K hK => ?_) AllReady.nil
              go_simp
              go_at_call 21
              (with_reducible refine (unhide (hG4 w12 hB12)).mono ?_)
              rintro e w13 ⟨rfl, hb13⟩
              have hB13 := hB12.trans (hb13.mono hB12.size)
              clear x0 x1 x2
              obtain ⟨x0, x1, x2⟩ := (hS9.below hB13).cells
              refine hK _ _ ?_
              clear hK K
              refine wpAny_take (i := 22) (v := ?_) rfl (by kernel_rfl) (by kernel_rfl) (by kernel_rfl) (fun _ _ _ h => h) (Or.inl ⟨by kernel_rfl, ?_⟩) ?_
              rotate_left
              · intro w
                go_simp
                try with_reducible rfl
              refine wpAny_take (i := 23) (v := ?_) rfl (by kernel_rfl) (by kernel_rfl) (by kernel_rfl) (fun _ _ _ h => h) (Or.inl ⟨by kernel_rfl, ?_⟩) ?_
              rotate_left
              · intro w
                go_simp
                try with_reducible rfl
              refine wpAny_take (i := 24) (v := ?_) rfl (by kernel_rfl) (by kernel_rfl) (by kernel_rfl) (fun _ _ _ h => h) (Or.inl ⟨by kernel_rfl, ?_⟩) ?_
              rotate_left
              · intro w
                go_simp
                try with_reducible rfl
              refine wpAny_done (by kernel_rfl) ?_ _
              go_simp
              go_wp2_with fail
              go_ret
              exact ⟨rfl, hbel.trans (hB13.mono hbel.size)⟩
            · go_simp
              refine hK _ _ ?_
              clear hK K
              refine wpAny_ready (rs := [18]) (by kernel_rfl) (by simp) ?_
              refine AllReady.cons rfl (fun K hK => ?_) AllReady.nil
              go_simp
              go_at_call 21
              (with_reducible refine (unhide (hG3 w11 hB11)).mono ?_)
              rintro e w12 ⟨rfl, hb12⟩
              have hB12 := hB11.trans (hb12.mono hB11.size)
              clear x0 x1 x2
              obtain ⟨x0, x1, x2⟩ := (hS9.below hB12).cells
              refine hK _ _ ?_
              clear hK K
              refine wpAny_ready (rs := [21]) (by kernel_rfl) (by simp) ?_
              refine AllReady.cons rfl (fun K hK => ?_) AllReady.nil
              go_simp
              go_at_call 21
              (with_reducible refine (unhide (hG4 w12 hB12)).mono ?_)
              rintro e w13 ⟨rfl, hb13⟩
              have hB13 := hB12.trans (hb13.mono hB12.size)
              clear x0 x1 x2
              obtain ⟨x0, x1, x2⟩ := (hS9.below hB13).cells
              refine hK _ _ ?_
              clear hK K
              refine wpAny_take (i := 22) (v := ?_) rfl (by kernel_rfl) (by kernel_rfl) (by kernel_rfl) (fun _ _ _ h => h) (Or.inl ⟨by kernel_rfl, ?_⟩) ?_
              rotate_left
              · intro w
                go_simp
                try with_reducible rfl
              refine wpAny_take (i := 23) (v := ?_) rfl (by kernel_rfl) (by kernel_rfl) (by kernel_rfl) (fun _ _ _ h => h) (Or.inl ⟨by kernel_rfl, ?_⟩) ?_
              rotate_left
              · intro w
                go_simp
                try with_reducible rfl
              refine wpAny_take (i := 24) (v := ?_) rfl (by kernel_rfl) (by kernel_rfl) (by kernel_rfl) (fun _ _ _ h => h) (Or.inl ⟨by kernel_rfl, ?_⟩) ?_
              rotate_left
              · intro w
                go_simp
                try with_reducible rfl
              refine wpAny_done (by kernel_rfl) ?_ _
              go_simp
              go_wp2_with fail
              go_ret
              exact ⟨rfl, hbel.trans (hB13.mono hbel.size)⟩
          · go_simp
            refine hK _ _ ?_
            clear hK K
            refine wpAny_ready (rs := [16]) (by kernel_rfl) (by simp) ?_
            refine AllReady.cons rfl (fun K hK => ?_) AllReady.nil
            go_simp
            refine hK _ _ ?_
            clear hK K
            refine wpAny_ready (rs := [18]) (by kernel_rfl) (by simp) ?_
            refine AllReady.cons rfl (fun K hK => ?_) AllReady.nil
            go_simp
            go_at_call 21
            (with_reducible refine (unhide (hG3 w11 hB11)).mono ?_)
            rintro e w12 ⟨rfl, hb12⟩
            have hB12 := hB11.trans (hb12.mono hB11.size)
            clear x0 x1 x2
            obtain ⟨x0, x1, x2⟩ := (hS9.below hB12).cells
            refine hK _ _ ?_
            clear hK K
            refine wpAny_ready (rs := [21]) (by kernel_rfl) (by simp) ?_
            refine AllReady.cons rfl (fun K hK => ?_) AllReady.nil
            go_simp
            go_at_call 21
            (with_reducible refine (unhide (hG4 w12 hB12)).mono ?_)
            rintro e w13 ⟨rfl, hb13⟩
            have hB13 := hB12.trans (hb13.mono hB12.size)
            clear x0 x1 x2
            obtain ⟨x0, x1, x2⟩ := (hS9.below hB13).cells
            refine hK _ _ ?_
            clear hK K
            refine wpAny_take (i := 22) (v := ?_) rfl (by kernel_rfl) (by kernel_rfl) (by kernel_rfl) (fun _ _ _ h => h) (Or.inl ⟨by kernel_rfl, ?_⟩) ?_
            rotate_left
            · intro w
              go_simp
              try with_reducible rfl
            refine wpAny_take (i := 23) (v := ?_) rfl (by kernel_rfl) (by kernel_rfl) (by kernel_rfl) (fun _ _ _ h => h) (Or.inl ⟨by kernel_rfl, ?_⟩) ?_
            rotate_left
            · intro w
              go_simp
              try with_reducible rfl
            refine wpAny_take (i := 24) (v := ?_) rfl (by kernel_rfl) (by kernel_rfl) (by kernel_rfl) (fun _ _ _ h => h) (Or.inl ⟨by kernel_rfl, ?_⟩) ?_
            rotate_left
            · intro w
              go_simp
              try with_reducible rfl
            refine wpAny_done (by kernel_rfl) ?_ _
            go_simp
            go_wp2_with fail
            go_ret
            exact ⟨rfl, hbel.trans (hB13.mono hbel.size)⟩

      · have hok2 : ok = false := hfb.trans (by rw [decide_eq_false hlen]; rfl)
        have h60 : decide ((60 : Int) < (b.length : Int)) = true := decide_eq_true (by omega)
        obtain ⟨rfl, rfl⟩ := hno hok2
        clear hno hlaw hnn hX hN hfb
        have hbel := hS6.bel
        clear hS6 ha6 hb6 hX6
        go_wp2_with fail
        refine (alive_any _).mono ?_
        rintro e w7 ⟨rfl, hw7⟩
        go_wp2_with fail
        go_ret
        exact ⟨rfl, hbel.trans (hw7.mono hbel.size)⟩

end Go.Proofs.Ytpeifojfpkkcpaa
