/-
  YthepfpiphlfgnaaRk: the texts R1, R2, R3 in one file.
-/
import Derived.BigRegion
import Derived.Deep.CutBlock
import Derived.StillTailTactics
import Derived.Deep.RegionHeldLaw
import Derived.Test.YthepfpiphlfgnaaTd
import Derived.Test.YthepfpiphlfgnaaQz
import Derived.Test.YthepfpiphlfgnaaFs

/-
  YthepfpiphlfgnaaR1: TilingsMany of the reference: it counts all tilings.
-/
namespace Go.Proofs.Ythepfpiphlfgnaa
open Go.RowKit

def nvs (S : List Nat) : List Value := S.map fun n : Nat => Value.int .i64 (n : Int)
theorem nvs_len (S : List Nat) : (nvs S).length = S.length := by simp [nvs]
theorem nvs_at {S : List Nat} {k : Nat} (h : k < S.length) : (nvs S)[k]? = some (.int .i64 ((S.getD k 0 : Nat) : Int)) := by
  unfold nvs
  rw [List.getElem?_map, List.getD_eq_getElem?_getD, List.getElem?_eq_getElem h]; rfl
theorem nvs_app (S : List Nat) (o : Nat) : nvs (S ++ [o]) = nvs S ++ [.int .i64 (o : Int)] := by simp [nvs]
theorem nvs_set (S : List Nat) (q v : Nat) : nvs (S.set q v) = (nvs S).set q (.int .i64 (v : Int)) := by unfold nvs; rw [List.map_set]
theorem shr_bit (s W : Nat) : (((s : Int) / 2 ^ W).tmod 2 == 0) = decide (s / 2 ^ W % 2 = 0) := by
  have h : (s : Int) / 2 ^ W = ((s / 2 ^ W : Nat) : Int) := by simp
  rw [h]
  generalize s / 2 ^ W = q
  rw [Int.tmod_eq_emod_of_nonneg (by omega), Bool.eq_iff_iff]
  simp only [beq_iff_eq, decide_eq_true_eq]
  omega
theorem shl_opt (s W : Nat) (hs : s < 64) (h1 : 1 ≤ W) (h6 : W ≤ 6) : wrap64 ((s : Int) / 2 + wrap64 (2 ^ (W - 1))) = ((s / 2 + 2 ^ (W - 1) : Nat) : Int) := by
  rcases (show W = 1 ∨ W = 2 ∨ W = 3 ∨ W = 4 ∨ W = 5 ∨ W = 6 by omega) with rfl | rfl | rfl | rfl | rfl | rfl <;> simp [wrap64] <;> omega
theorem cell_new1 (w : World) (u : Value) (t : TypeId) : (w.alloc (.cells #[u] t)).cell? ⟨w.heap.size, 0, none⟩ = some u := (Blk.new w t #[u]).cell 0
abbrev rowN (w : World) (b g c : Nat) (S : List Nat) : Prop := w.ownsRow b 3 1 (.slice (some ⟨g, 0, none⟩) S.length c) S.length (nvs S)
theorem rowN_cell {w : World} {b g c : Nat} {S : List Nat} (h : rowN w b g c S) {k : Nat} (hk : k < S.length) : w.cell? ⟨g, k, none⟩ = some (.int .i64 ((S.getD k 0 : Nat) : Int)) := by
  have := h.cellAt k (by omega)
  rw [nvs_at hk] at this
  exact this
theorem rowN_new (w : World) (b : Nat) (hb : b ≤ w.heap.size) : rowN (w.alloc (.cells #[] 3)) b w.heap.size 0 [] := by
  have := World.ownsRow_made (base := b) (e := 3) (size := 1) w #[] 0 (by omega) (by simp [maxLen]) (by simp)
  exact this
theorem rowN_one (w : World) (b : Nat) (hb : b ≤ w.heap.size) (x : Nat) : rowN (w.alloc (.cells #[.int .i64 (x : Int)] 3)) b w.heap.size 1 [x] :=
  ⟨by simp [nvs], .inr ⟨w.heap.size, 1, #[.int .i64 (x : Int)], rfl, hb, heap_alloc_new w _, by simp, by simp [maxLen], by simp, by simp [nvs]⟩⟩

/-- Where the count stands: the sets, their numbers, the region's box. -/
structure T1 (w wr : World) (R : Reg) (A : Option Addr) (c gs cs gm cm : Nat) (S M : List Nat) : Prop where
  bel : Below w.heap.size w wr
  box : Blk wr w.heap.size 25 #[.int .i64 R.W, .int .i64 R.T, .slice A R.C.length c]
  sS : rowN wr w.heap.size gs cs S
  sM : rowN wr w.heap.size gm cm M
/-- The new lists. -/
structure T2 (w1 w2 : World) (gn cn gy cy : Nat) (S' M' : List Nat) : Prop where
  bel : Below w1.heap.size w1 w2
  sN : rowN w2 w1.heap.size gn cn S'
  sY : rowN w2 w1.heap.size gy cy M'
  ne : gn ≠ gy
/-- And the options. -/
structure T3 (w1 w3 : World) (gn cn gy cy go co : Nat) (S' M' os : List Nat) : Prop where
  t : T2 w1 w3 gn cn gy cy S' M'
  sO : rowN w3 w1.heap.size go co os
  no : go ≠ gn
  yo : go ≠ gy
section
variable {w w1 w2 w3 w4 wr : World} {R : Reg} {A : Option Addr} {c gs cs gm cm gn cn gy cy go co g c' : Nat} {S M S' M' os : List Nat}
theorem T1.below (h : T1 w wr R A c gs cs gm cm S M) (hb : Below wr.heap.size wr w2) : T1 w w2 R A c gs cs gm cm S M :=
  ⟨h.bel.trans (hb.mono h.bel.size), h.box.below hb h.box.lt, own_below h.sS hb (Nat.le_refl _), own_below h.sM hb (Nat.le_refl _)⟩
theorem T1.new (h : T1 w wr R A c gs cs gm cm S M) (h2 : T2 wr w2 gn cn gy cy S' M') : T1 w w2 R A c gn cn gy cy S' M' :=
  ⟨h.bel.trans (h2.bel.mono h.bel.size), h.box.below h2.bel h.box.lt, own_mono h2.sN h.bel.size, own_mono h2.sY h.bel.size⟩
theorem T2.below (h : T2 w1 w2 gn cn gy cy S' M') (hb : Below w2.heap.size w2 w3) : T2 w1 w3 gn cn gy cy S' M' :=
  ⟨h.bel.trans (hb.mono h.bel.size), own_below h.sN hb (Nat.le_refl _), own_below h.sY hb (Nat.le_refl _), h.ne⟩
theorem T2.start (w1 : World) : T2 w1 ((w1.alloc (.cells #[] 3)).alloc (.cells #[] 3)) w1.heap.size 0 (w1.heap.size + 1) 0 [] [] := by
  refine ⟨((Below.refl _ _).alloc (Nat.le_refl _) _).alloc (by simp) _, (rowN_new w1 _ (Nat.le_refl _)).alloc _, ?_, by omega⟩
  have := rowN_new (w1.alloc (.cells #[] 3)) w1.heap.size (by simp)
  simpa using this
theorem rowN_lt {b : Nat} (h : rowN w b g c' S) : b ≤ g ∧ g < w.heap.size := own_lt h rfl
theorem T3.start (h : T2 w1 w2 gn cn gy cy S' M') : T3 w1 (w2.alloc (.cells #[] 3)) gn cn gy cy w2.heap.size 0 S' M' [] := by
  have h1 := (rowN_lt h.sN).2
  have h2 := (rowN_lt h.sY).2
  exact ⟨h.below ((Below.refl _ _).alloc (Nat.le_refl _) _), rowN_new w2 _ h.bel.size, by omega, by omega⟩
theorem T3.below (h : T3 w1 w2 gn cn gy cy go co S' M' os) (hb : Below w2.heap.size w2 w3) : T3 w1 w3 gn cn gy cy go co S' M' os :=
  ⟨h.t.below hb, own_below h.sO hb (Nat.le_refl _), h.no, h.yo⟩
theorem row_far {b g' c'' : Nat} {T : List Nat} (h : rowN w b g' c'' T) (hg : w.grownBy w2 (some g)) (hne : g' ≠ g) : rowN w2 b g' c'' T :=
  own_grown h hg (.inr (by simp [Value.ownBlock]; exact hne))
theorem T3.appO (h : T3 w1 w3 gn cn gy cy go co S' M' os) {o : Nat} (hown : w4.ownsRow w1.heap.size 3 1 (.slice (some ⟨g, 0, none⟩) (os.length + 1) c') (os.length + 1) (nvs os ++ [.int .i64 (o : Int)])) (hg : w3.grownBy w4 (some go)) (hgg : g = go ∨ w3.heap.size ≤ g) :
    T3 w1 w4 gn cn gy cy g c' S' M' (os ++ [o]) := by
  have h1 := (rowN_lt h.t.sN).2
  have h2 := (rowN_lt h.t.sY).2
  have h3 := rowN_lt h.sO
  refine ⟨⟨h.t.bel.grown hg h.t.bel.size (fun k hk => by simp at hk; omega), row_far h.t.sN hg (Ne.symm h.no), row_far h.t.sY hg (Ne.symm h.yo), h.t.ne⟩, ?_, ?_, ?_⟩
  · unfold rowN; rw [nvs_app]; simpa using hown
  · rcases hgg with hgg | hgg
    · have := h.no; omega
    · omega
  · rcases hgg with hgg | hgg
    · have := h.yo; omega
    · omega
theorem T3.appN (h : T3 w1 w3 gn cn gy cy go co S' M' os) {o : Nat} (hown : w4.ownsRow w1.heap.size 3 1 (.slice (some ⟨g, 0, none⟩) (S'.length + 1) c') (S'.length + 1) (nvs S' ++ [.int .i64 (o : Int)])) (hg : w3.grownBy w4 (some gn)) (hgg : g = gn ∨ w3.heap.size ≤ g) :
    T3 w1 w4 g c' gy cy go co (S' ++ [o]) M' os := by
  have h1 := rowN_lt h.t.sN
  have h2 := (rowN_lt h.t.sY).2
  have h3 := rowN_lt h.sO
  refine ⟨⟨h.t.bel.grown hg h.t.bel.size (fun k hk => by simp at hk; omega), ?_, row_far h.t.sY hg (Ne.symm h.t.ne), ?_⟩, row_far h.sO hg h.no, ?_, h.yo⟩
  · unfold rowN; rw [nvs_app]; simpa using hown
  · rcases hgg with hgg | hgg
    · have := h.t.ne; omega
    · omega
  · rcases hgg with hgg | hgg
    · have := h.no; omega
    · omega
theorem T3.appY (h : T3 w1 w3 gn cn gy cy go co S' M' os) {o : Nat} (hown : w4.ownsRow w1.heap.size 3 1 (.slice (some ⟨g, 0, none⟩) (M'.length + 1) c') (M'.length + 1) (nvs M' ++ [.int .i64 (o : Int)])) (hg : w3.grownBy w4 (some gy)) (hgg : g = gy ∨ w3.heap.size ≤ g) :
    T3 w1 w4 gn cn g c' go co S' (M' ++ [o]) os := by
  have h1 := rowN_lt h.t.sN
  have h2 := rowN_lt h.t.sY
  have h3 := rowN_lt h.sO
  refine ⟨⟨h.t.bel.grown hg h.t.bel.size (fun k hk => by simp at hk; omega), row_far h.t.sN hg h.t.ne, ?_, ?_⟩, row_far h.sO hg h.yo, h.no, ?_⟩
  · unfold rowN; rw [nvs_app]; simpa using hown
  · rcases hgg with hgg | hgg
    · have := h.t.ne; omega
    · omega
  · rcases hgg with hgg | hgg
    · have := h.yo; omega
    · omega
theorem T3.setY (h : T3 w1 w3 gn cn gy cy go co S' M' os) (q v : Nat) : T3 w1 (w3.setCell ⟨gy, q, none⟩ (.int .i64 (v : Int))) gn cn gy cy go co S' (M'.set q v) os := by
  have h2 := rowN_lt h.t.sY
  have ho := h.t.sY.stored q (.int .i64 (v : Int))
  refine ⟨⟨h.t.bel.setCell h2.1 _, row_far h.t.sN ho.2 h.t.ne, ?_, h.t.ne⟩, row_far h.sO ho.2 h.yo, h.no, h.yo⟩
  unfold rowN
  rw [nvs_set, List.length_set]
  exact ho.1
end

set_option maxHeartbeats 4000000 in
set_option maxRecDepth 100000 in
theorem tilingsManyS_ok (R : Reg) (hR : R.ok) (A : Option Addr) (c B : Nat) (w : World) (hr : Reads w B 1 A R.C.length (R.C.map Value.bool)) (hB : B ≤ w.heap.size) :
    Calls Try.prog 99 #[.agg #[.int .i64 R.W, .int .i64 R.T, .slice A R.C.length c]] w fun e w' => e = .returned (.int .i64 (nT R : Nat)) ∧ Below w.heap.size w w' := by
  have hl36 := (len_bd hR).2
  have hl1 := (len_bd hR).1
  have hW1 := hR.1
  have hW6 := hR.2.1
  have hb0 : Below w.heap.size w (w.alloc (boxR R.W R.T A R.C.length c)) := (Below.refl _ _).alloc (Nat.le_refl _) _
  have k0 : Blk (w.alloc (boxR R.W R.T A R.C.length c)) w.heap.size 25 #[.int .i64 R.W, .int .i64 R.T, .slice A R.C.length c] := Blk.new _ _ _
  have hV := hide (validS_any R.W R.T A R.C.length c B R.C (w.alloc (boxR R.W R.T A R.C.length c)) (hr.alloc hB _) (by simp; omega) (by omega))
  rw [valid_of_ok hR] at hV
  have hST := fun (j : Nat) (hj : j < R.C.length) (way : Int) w' => hide (stepS_any R hR A R.C.length c j hj way w')
  obtain ⟨ad, rfl, hab, hcl⟩ := hr.2 (by omega)
  have hCE : ∀ wr, Below w.heap.size w wr → ∀ k, k < R.C.length → wr.cell? (ad.add k) = some (.bool (R.C.getD k false)) := fun wr hb k hk => by
    refine (hb.cell (p := ad.add k) (by rw [block_of_add]; omega)).trans (hcl k _ ?_)
    rw [List.getElem?_map, List.getElem?_eq_getElem hk, List.getD_eq_getElem?_getD, List.getElem?_eq_getElem hk]; rfl
  obtain ⟨V, hV0⟩ : ∃ V, V = nT R := ⟨_, rfl⟩
  rw [← hV0]
  have HV := Lib.hid hV0
  clear hV0 hr hcl
  go_enter Try.func99, Try.ntmps99
  go_wp2_with fail
  refine (unhide hV).mono ?_
  rintro e w1 ⟨rfl, hb1⟩
  have hB1 := hb0.trans (hb1.mono hb0.size)
  have k1 := k0.below hb1 k0.lt
  clear hV k0 hb0 hb1
  have hW1 : T1 w ((w1.alloc (.cells #[.int .i64 0] 3)).alloc (.cells #[.int .i64 1] 3)) R (some ad) c w1.heap.size 1 (w1.heap.size + 1) 1 [0] [1] := by
    refine ⟨(hB1.alloc hB1.size _).alloc (by have := hB1.size; simp; omega) _, (k1.alloc _).alloc _, (rowN_one w1 _ hB1.size 0).alloc _, ?_⟩
    have := rowN_one (w1.alloc (.cells #[.int .i64 0] 3)) w.heap.size (by have := hB1.size; simp; omega) 1
    simpa using this
  clear hB1 k1
  go_wp2_with fail
  go_loopg [3, 4, 5] R.C.length (fun r s3 s4 s5 wr => ∃ (k gs cs gm cm : Nat) (S M : List Nat), k + r = R.C.length ∧ s5 = .int .i64 (k : Nat) ∧ s3 = .slice (some ⟨gs, 0, none⟩) S.length cs ∧ s4 = .slice (some ⟨gm, 0, none⟩) M.length cm ∧ T1 w wr R (some ad) c gs cs gm cm S M ∧ TAt R k S M)
  case atStart => exact ⟨0, _, _, _, _, [0], [1], by omega, rfl, rfl, rfl, hW1, TAt.start R⟩
  case round =>
    clear hW1
    obtain ⟨k, gs, cs, gm, cm, S, M, hk, rfl, rfl, rfl, hT, hA⟩ := hrel
    obtain ⟨b0, b1, b2⟩ := blk3 hT.box
    have HK := Lib.hid hk
    have HL := Lib.hid hA.len
    obtain ⟨wo, rfl⟩ : ∃ wo, wo = wr := ⟨wr, rfl⟩
    by_cases hlt : k < R.C.length
    · have hT2 := T2.start wo
      have hM0 := TMid.start R k S M []
      have hSl := hA.len_le hR
      go_wp2_with fail
      go_loopg [6, 7, 8] S.length (fun r s6 s7 s8 wx => ∃ (i gn cn gy cy : Nat) (S' M' : List Nat), i + r = S.length ∧ s8 = .int .i64 (i : Nat) ∧ s6 = .slice (some ⟨gn, 0, none⟩) S'.length cn ∧ s7 = .slice (some ⟨gy, 0, none⟩) M'.length cy ∧ T2 wo wx gn cn gy cy S' M' ∧ TMid R k S M i [] 0 S' M')
      case atStart => exact ⟨0, _, _, _, _, [], [], by omega, rfl, rfl, rfl, hT2, hM0⟩
      case round =>
        clear hT2 hM0 b0 b1 b2
        obtain ⟨i, gn, cn, gy, cy, S', M', hi, rfl, rfl, rfl, hT2, hM⟩ := hrel
        have HI := Lib.hid hi
        clear hi
        have hTx := hT.below (hT2.bel)
        obtain ⟨b0, b1, b2⟩ := blk3 hTx.box
        by_cases hil : i < S.length
        · have hcs := rowN_cell hTx.sS hil
          have hslt := hA.lt _ (getD_mem hil)
          have hHS : ∃ s, S.getD i 0 = s := ⟨_, rfl⟩
          obtain ⟨s, hs⟩ := hHS
          rw [hs] at hcs hslt
          have HS := Lib.hid hs
          have hck := hCE _ (hTx.bel.alloc hTx.bel.size (.cells #[] 3)) k hlt
          clear hs
          have hs64 : s < 64 := by have := Nat.pow_le_pow_right (n := 2) (by omega) hW6; omega
          have hT3 := T3.start hT2
          obtain ⟨b3, b4, b5⟩ := blk3 (hT.below hT3.t.bel).box
          have hz1 : wo.heap.size ≤ wr.heap.size := hT2.bel.size
          have hcbe : ∃ cb : Bool, decide (s % 2 = 1) = cb := ⟨_, rfl⟩
          obtain ⟨cb, hcb⟩ := hcbe
          have hc1 : (((s : Int) % 2) == 1) = cb := by rw [← hcb, Bool.eq_iff_iff]; simp; omega
          have HCB := Lib.hid hcb
          clear hT2 hcb
          go_upto_block 4 with fail
          go_cut [11] (fun s11 wx => ∃ go co, s11 = .slice (some ⟨go, 0, none⟩) (optV R k s).length co ∧ T3 wo wx gn cn gy cy go co S' M' (optV R k s))
          case first =>
            have happ : ∀ (w3 : World) (go co : Nat) (os : List Nat) (o : Nat), os.length ≤ 2 → T3 wo w3 gn cn gy cy go co S' M' os → ∀ (w4 : World) (g c' : Nat), w4.ownsRow wo.heap.size 3 1 (.slice (some ⟨g, 0, none⟩) (os.length + 1) c') (os.length + 1) (nvs os ++ [.int .i64 (o : Int)]) → (w3.alloc (.cells #[.int .i64 (o : Int)] 3)).grownBy w4 (some go) → (g = go ∨ w3.heap.size + 1 ≤ g) → T3 wo w4 gn cn gy cy g c' S' M' (os ++ [o]) :=
              fun w3 go co os o _ h w4 g c' h1 h2 h3 => (h.below ((Below.refl _ _).alloc (Nat.le_refl _) _)).appO h1 h2 (by simpa using h3)
            have e2 : (s : Int) / 2 = ((s / 2 : Nat) : Int) := by simp
            have E2 := Lib.hid e2
            clear e2
            cases hcv : covB R k s with
            | true =>
              have hopt := Lib.hid (optV_cov hcv)
              clear hc1
              cases cb with
              | true =>
                go_wp2_with (at_builtin; refine wpList_app rfl _ _ _ rfl wo.heap.size 3 (.int .i64 0) 8 Try.underlying26 info_int rfl (by omega) (.slice (some ⟨wr.heap.size, 0, none⟩) 0 0) 0 [] rfl (hT3.sO.alloc _) (wr.heap.size + 1) (.int .i64 ((s / 2 : Nat) : Int)) rfl ?c1 rfl (by omega) ?c2 ?_)
                case c1 => simp
                case c2 => simp; omega
                rintro g' cc' w4 hown hgr hgg _ _
                have hT4 := happ _ _ _ _ _ (by simp) hT3 _ _ _ hown hgr (hgg.elim (fun h => .inl (Option.some.inj h)) (fun h => .inr (by simp; omega)))
                go_wp2_with fail
                go_meet
                exact ⟨g', cc', by rw [hopt.out]; rfl, by rw [hopt.out]; exact hT4⟩
              | false =>
                have hckf : R.C.getD k false = false := by
                  unfold covB at hcv
                  rw [HCB.out] at hcv
                  simpa using hcv
                rw [hckf] at hck
                go_wp2_with (at_builtin; refine wpList_app rfl _ _ _ rfl wo.heap.size 3 (.int .i64 0) 8 Try.underlying26 info_int rfl (by omega) (.slice (some ⟨wr.heap.size, 0, none⟩) 0 0) 0 [] rfl (hT3.sO.alloc _) (wr.heap.size + 1) (.int .i64 ((s / 2 : Nat) : Int)) rfl ?d1 rfl (by omega) ?d2 ?_)
                case d1 => simp
                case d2 => simp; omega
                rintro g' cc' w4 hown hgr hgg _ _
                have hT4 := happ _ _ _ _ _ (by simp) hT3 _ _ _ hown hgr (hgg.elim (fun h => .inl (Option.some.inj h)) (fun h => .inr (by simp; omega)))
                go_wp2_with fail
                go_meet
                exact ⟨g', cc', by rw [hopt.out]; rfl, by rw [hopt.out]; exact hT4⟩
            | false =>
              have hcbf : cb = false ∧ R.C.getD k false = true := by
                unfold covB at hcv
                rw [HCB.out] at hcv
                simpa using hcv
              obtain ⟨rfl, hckt⟩ := hcbf
              rw [hckt] at hck
              have hopt := Lib.hid (optV_no hcv)
              clear hc1 hckt
              go_wp2_with fail
              refine (unhide (hST k hlt 1 _)).mono ?_
              rintro e w5 ⟨rfl, hb5⟩
              have hT5 := hT3.below hb5
              clear b0 b1 b2
              obtain ⟨b0, b1, b2⟩ := blk3 (hT.below hT5.t.bel).box
              go_wp2_with fail
              refine (unhide (hST k hlt 2 _)).mono ?_
              rintro e w6 ⟨rfl, hb6⟩
              have hT6 := hT5.below hb6
              have hTy := hT.below hT6.t.bel
              clear b0 b1 b2 hTx hT3 hT5 hb5 hb6 hcs hck
              obtain ⟨b0, b1, b2⟩ := blk3 hTy.box
              have hC6 := fun q hq => hCE w6 hTy.bel q hq
              obtain ⟨eb, heb⟩ : ∃ eb, eb = eastB R k s := ⟨_, rfl⟩
              obtain ⟨nb, hnb⟩ : ∃ nb, nb = northB R k s := ⟨_, rfl⟩
              have he1 : ∀ q : Nat, R.step k 1 = (q : Int) → q < R.C.length := fun q hq => (step_lt hR (.inl rfl) hlt hq).1
              have he2 : ∀ q : Nat, R.step k 2 = (q : Int) → q < R.C.length := fun q hq => (step_lt hR (.inr rfl) hlt hq).1
              rw [← heb, ← hnb] at hopt
              unfold eastB at heb
              unfold northB at hnb
              generalize R.step k 1 = z1 at *
              generalize R.step k 2 = z2 at *
              have HEB := Lib.hid heb
              have HNB := Lib.hid hnb
              clear heb hnb hST
              go_upto_region 18 with fail
              go_cut [66] (fun s66 wx => s66 = .bool eb ∧ w6 = wx)
              case first =>
                rcases (show z1 < 0 ∨ 0 ≤ z1 by omega) with hz | hz
                · have d1 : decide (0 ≤ z1) = false := decide_eq_false (by omega)
                  have he : eb = false := by rw [HEB.out, d1]; rfl
                  go_wp2_with fail
                  go_meet
                  exact ⟨by rw [he], rfl⟩
                · obtain ⟨q, rfl⟩ := Int.eq_ofNat_of_zero_le hz
                  have hq := he1 q rfl
                  have hcq := hC6 q hq
                  clear hC6
                  have d1 : decide (0 ≤ (q : Int)) = true := decide_eq_true (by omega)
                  have heb : eb = (R.C.getD q false && decide (s / 2 % 2 = 0)) := by rw [HEB.out, d1]; simp
                  have HE := Lib.hid heb
                  clear heb hz
                  generalize R.C.getD q false = cq at *
                  cases cq with
                  | false =>
                    go_wp2_with fail
                    go_meet
                    exact ⟨by rw [HE.out]; rfl, rfl⟩
                  | true =>
                    have hm : (((s : Int) / 2 % 2) == 0) = decide (s / 2 % 2 = 0) := by rw [Bool.eq_iff_iff]; simp; omega
                    go_wp2_with fail
                    go_meet
                    exact ⟨by rw [HE.out]; rfl, rfl⟩
              case rest =>
                obtain ⟨rfl, hw6⟩ := hcut
                subst hw6
                go_upto_if 66 with fail
                go_cut [11] (fun s11 wx => ∃ go co os, s11 = .slice (some ⟨go, 0, none⟩) os.length co ∧ T3 wo wx gn cn gy cy go co S' M' os ∧ os = (if eb = true then [s / 2 + 1] else []))
                case first =>
                  cases eb with
                  | false =>
                    go_wp2_with fail
                    go_meet
                    exact ⟨_, 0, [], rfl, hT6, rfl⟩
                  | true =>
                    go_wp2_with (at_builtin; refine wpList_app rfl _ _ _ rfl wo.heap.size 3 (.int .i64 0) 8 Try.underlying26 info_int rfl (by omega) (.slice (some ⟨wr.heap.size, 0, none⟩) 0 0) 0 [] rfl (hT6.sO.alloc _) w6.heap.size (.int .i64 ((s : Int) / 2 + 1)) rfl ?c1 rfl (by omega) ?c2 ?_)
                    case c2 => have := hT6.t.bel.size; simp; omega
                    rintro g' cc' w4 hown hgr hgg _ _
                    have e3 : (s : Int) / 2 + 1 = ((s / 2 + 1 : Nat) : Int) := by simp
                    rw [e3] at hown hgr
                    have hT4 := happ _ _ _ _ _ (by simp) hT6 _ _ _ hown hgr (hgg.elim (fun h => .inl (Option.some.inj h)) (fun h => .inr (by omega)))
                    go_wp2_with fail
                    go_meet
                    exact ⟨g', cc', [s / 2 + 1], rfl, hT4, rfl⟩
                case rest =>
                  obtain ⟨go, co, os, rfl, hT7, hos⟩ := hcut
                  have hol : os.length ≤ 1 := by rw [hos]; split <;> simp
                  have HOS := Lib.hid hos
                  clear hos b0 b1 b2 b3 b4 b5 hC6 hTy hT6
                  obtain ⟨b0, b1, b2⟩ := blk3 (hT.below hT7.t.bel).box
                  have hC6 := fun q hq => hCE _ (hT.below hT7.t.bel).bel q hq
                  go_upto_region 20 with fail
                  go_cut [89] (fun s89 wx => s89 = .bool nb ∧ T3 wo wx gn cn gy cy go co S' M' os)
                  case first =>
                    rcases (show z2 < 0 ∨ 0 ≤ z2 by omega) with hz | hz
                    · have d1 : decide (0 ≤ z2) = false := decide_eq_false (by omega)
                      have he : nb = false := by rw [HNB.out, d1]; rfl
                      go_wp2_with fail
                      go_meet
                      exact ⟨by rw [he], hT7⟩
                    · obtain ⟨q, rfl⟩ := Int.eq_ofNat_of_zero_le hz
                      have hq := he2 q rfl
                      have hcq := hC6 q hq
                      clear hC6
                      have d1 : decide (0 ≤ (q : Int)) = true := decide_eq_true (by omega)
                      have heb : nb = (R.C.getD q false && decide (s / 2 ^ R.W % 2 = 0)) := by rw [HNB.out, d1]; simp
                      have HE := Lib.hid heb
                      clear heb hz
                      generalize R.C.getD q false = cq at *
                      cases cq with
                      | false =>
                        go_wp2_with fail
                        go_meet
                        exact ⟨by rw [HE.out]; rfl, hT7⟩
                      | true =>
                        go_wp2_with fail
                        go_meet
                        exact ⟨by rw [HE.out, shr_bit]; rfl, hT7⟩
                  case rest =>
                    obtain ⟨rfl, hT8⟩ := hcut
                    clear b0 b1 b2
                    obtain ⟨b0, b1, b2⟩ := blk3 (hT.below hT8.t.bel).box
                    cases nb with
                    | false =>
                      have hfin : optV R k s = os := by rw [hopt.out, HOS.out]; simp
                      go_wp2_with fail
                      go_meet
                      exact ⟨go, co, by rw [hfin], by rw [hfin]; exact hT8⟩
                    | true =>
                      have hfin : optV R k s = os ++ [s / 2 + 2 ^ (R.W - 1)] := by rw [hopt.out, HOS.out]; simp
                      have HFIN := Lib.hid hfin
                      have hsz := hT8.t.bel.size
                      clear hfin hopt HOS HNB HEB
                      go_upto_region 21 with fail
                      go_wp2_with (at_builtin; refine wpList_app rfl _ _ _ rfl wo.heap.size 3 (.int .i64 0) 8 Try.underlying26 info_int rfl (by omega) (.slice (some ⟨go, 0, none⟩) os.length co) os.length (nvs os) rfl (hT8.sO.alloc _) _ _ rfl (cell_new1 _ _ _) rfl (by omega) ?c2 ?_)
                      case c2 => simp; omega
                      rintro g' cc' w4 hown hgr hgg _ _
                      rw [shl_opt s R.W hs64 hW1 hW6] at hown hgr
                      have hT4 := happ _ _ _ _ _ (by omega) hT8 _ _ _ hown hgr (hgg.elim (fun h => .inl (Option.some.inj h)) (fun h => .inr (by omega)))
                      go_wp2_with fail
                      go_meet
                      exact ⟨g', cc', by rw [HFIN.out]; simp, by rw [HFIN.out]; exact hT4⟩
          case rest =>
            obtain ⟨go, co, rfl, hT4⟩ := hcut
            have hol := optV_len R k s
            have holt := optV_lt hR hlt hslt
            obtain ⟨os, hos⟩ : ∃ os, optV R k s = os := ⟨_, rfl⟩
            rw [hos] at hol holt hT4 ⊢
            have HOS := Lib.hid hos
            have HOLT := Lib.hid holt
            clear hos holt hST hTx hT3 hcs hck hc1 HCB b0 b1 b2 b3 b4 b5 hslt hab
            have hM0 := hM.more (os' := os)
            have HM1 : Hid (1 ≤ M.getD i 0) := Lib.hid (hA.pos _ (getD_mem (by have := HL.out; omega)))
            clear hM
            go_wp2_with fail
            go_loopg [6, 7, 14] os.length (fun r s6 s7 s14 wx => ∃ (j gn cn gy cy : Nat) (S1 M1 : List Nat), j + r = os.length ∧ s14 = .int .i64 (j : Nat) ∧ s6 = .slice (some ⟨gn, 0, none⟩) S1.length cn ∧ s7 = .slice (some ⟨gy, 0, none⟩) M1.length cy ∧ T3 wo wx gn cn gy cy go co S1 M1 os ∧ TMid R k S M i os j S1 M1)
            case atStart => exact ⟨0, _, _, _, _, S', M', by omega, rfl, rfl, rfl, hT4, hM0⟩
            case round =>
              clear hT4 hM0
              obtain ⟨j, gn, cn, gy, cy, S1, M1, hj, rfl, rfl, rfl, hT5, hM5⟩ := hrel
              have HJ := Lib.hid hj
              clear hj
              have hM5l := hM5.len
              have hS1 := hM5.len_le hR hA hol
              have HM5L := Lib.hid hM5l
              clear hM5l
              by_cases hjl : j < os.length
              · obtain ⟨o, ho⟩ : ∃ o, os.getD j 0 = o := ⟨_, rfl⟩
                have HO := Lib.hid ho
                clear ho
                have hfin1 : ∀ q, q < S1.length → S1.getD q 0 = o → TMid R k S M i os (j + 1) S1 (M1.set q (M1.getD q 0 + M.getD i 0)) := fun q hq he => hM5.old hjl hq (by rw [he, HO.out])
                have hfin2 := hM5.new hjl HM1.out (HOLT.out _ (getD_mem hjl))
                rw [HO.out] at hfin2
                have HF1 := Lib.hid hfin1
                have HF2 := Lib.hid hfin2
                clear hfin1 hfin2
                go_wp2_with fail
                go_loopg [15] S1.length (fun r s15 wy => ∃ (q : Nat), q + r = S1.length ∧ s15 = .int .i64 (q : Nat) ∧ T3 wo wy gn cn gy cy go co S1 M1 os)
                case atStart => exact ⟨0, by omega, rfl, hT5⟩
                case round =>
                  clear hT5
                  obtain ⟨q, hq, rfl, hT6⟩ := hrel
                  have HQ := Lib.hid hq
                  clear hq
                  have hoj := rowN_cell hT6.sO hjl
                  rw [HO.out] at hoj
                  by_cases hql : q < S1.length
                  · have hcq := rowN_cell hT6.t.sN hql
                    obtain ⟨v, hv⟩ : ∃ v, S1.getD q 0 = v := ⟨_, rfl⟩
                    rw [hv] at hcq
                    have HV2 := Lib.hid hv
                    clear hv
                    by_cases hvo : v = o
                    · subst hvo
                      have hF := HF1.out q hql HV2.out
                      clear HF2 HF1
                      have hne : (((v : Nat) : Int) != ((v : Nat) : Int)) = false := by simp
                      have hqe : (((q : Nat) : Int) == ((S1.length : Nat) : Int)) = false := by simp; omega
                      go_wp2
                      go_quiet (fail)
                      go_upto_region 33 with fail
                      have hT7 := hT6.below (below_drewN (Below.refl wr.heap.size wr) nq)
                      clear hT6 hoj hcq
                      generalize wr.drewN nq = w5 at *
                      have hT8 := hT7.below (Below.refl w5.heap.size w5).drew
                      have hqm : q < M1.length := by have := HM5L.out; omega
                      have him : i < M.length := by have := HL.out; omega
                      have cm1 := rowN_cell hT8.t.sY hqm
                      have cm2 := rowN_cell (hT.below hT8.t.bel).sM him
                      have fr := hT8.t.sY.frozenAt q
                      have bd1 := Nat.le_trans (at_le_wsum S1 M1 q HM5L.out) (hM5.sum_le hR hA hol)
                      have bd2 := Nat.le_trans (at_le_wsum S M i HL.out) (hA.sum_le hR)
                      have hset := hT8.setY q (M1.getD q 0 + M.getD i 0)
                      clear HM1 hM5
                      generalize M1.getD q 0 = va at *
                      generalize M.getD i 0 = vb at *
                      have hwr : IntKind.i64.wrap ((va : Int) + (vb : Int)) = (va : Int) + (vb : Int) := IntWalk.i64_in _ (by omega)
                      go_region
                      all_goals
                        clear cm1 cm2 fr
                        go_wp2_with fail
                        go_roundg (os.length - (j + 1))
                        case measure => have := HJ.out; omega
                        case rel => exact ⟨j + 1, gn, cn, gy, cy, S1, M1.set q (va + vb), by have := HJ.out; omega, by go_num, rfl, by rw [List.length_set], hset, hF⟩
                    · have hne : (((v : Nat) : Int) != ((o : Nat) : Int)) = true := by simp; omega
                      clear hvo HF1 HF2
                      go_wp2
                      go_quiet (fail)
                      go_wp2_with fail
                      go_roundg (S1.length - (q + 1))
                      case measure => have := HQ.out; omega
                      case rel => exact ⟨q + 1, by have := HQ.out; omega, by go_num, hT6.below (below_drewN (Below.refl _ _) _)⟩
                  · obtain rfl : q = S1.length := by have := HQ.out; omega
                    clear HF1
                    have hqe : (((S1.length : Nat) : Int) == ((S1.length : Nat) : Int)) = true := by simp
                    go_wp2
                    go_quiet (fail)
                    go_upto_region 31 with fail
                    have hT7 := hT6.below (below_drewN (Below.refl wr.heap.size wr) nq)
                    clear hT6 hoj
                    generalize wr.drewN nq = w5 at *
                    have hoj := rowN_cell hT7.sO hjl
                    rw [HO.out] at hoj
                    have hz5 := hT7.t.bel.size
                    have hm1 : M1.length ≤ 67108864 := by have := HM5L.out; omega
                    go_upto_region 32 with (at_builtin; refine wpList_app rfl _ _ _ rfl wo.heap.size 3 (.int .i64 0) 8 Try.underlying26 info_int rfl (by omega) (.slice (some ⟨gn, 0, none⟩) S1.length cn) S1.length (nvs S1) rfl (hT7.t.sN.alloc _) _ _ rfl (cell_new1 _ _ _) rfl (by omega) ?c2 ?_)
                    case c2 => simp; omega
                    rintro g6 c6 w6 hown hgr hgg _ _
                    have hT9 := (hT7.below ((Below.refl _ _).alloc (Nat.le_refl _) _)).appN hown hgr (hgg.elim (fun h => .inl (Option.some.inj h)) (fun h => .inr (by rw [h]; simp)))
                    clear hown hgr hgg hoj hz5
                    have hz6 := hT9.t.bel.size
                    go_upto_region 32 with fail
                    go_upto_region 33 with (at_builtin; refine wpList_app rfl _ _ _ rfl wo.heap.size 3 (.int .i64 0) 8 Try.underlying26 info_int rfl (by omega) (.slice (some ⟨gy, 0, none⟩) M1.length cy) M1.length (nvs M1) rfl (hT9.t.sY.alloc _) _ _ rfl (cell_new1 _ _ _) rfl (by omega) ?d2 ?_)
                    case d2 => simp; omega
                    rintro g7 c7 w7 hown hgr hgg _ _
                    have hTa := (hT9.below ((Below.refl _ _).alloc (Nat.le_refl _) _)).appY (o := 0) hown hgr (hgg.elim (fun h => .inl (Option.some.inj h)) (fun h => .inr (by rw [h]; simp)))
                    clear hown hgr hgg hT9 hz6
                    go_upto_region 33 with fail
                    have hT8 := hTa.below (Below.refl w7.heap.size w7).drew
                    have him : i < M.length := by have := HL.out; omega
                    have hqm : S1.length < (M1 ++ [0]).length := by have := HM5L.out; simp; omega
                    have cm1 := rowN_cell hT8.t.sY hqm
                    have e0 : (M1 ++ [0]).getD S1.length 0 = 0 := by rw [HM5L.out]; simp
                    rw [e0] at cm1
                    have cm2 := rowN_cell (hT.below hT8.t.bel).sM him
                    have fr := hT8.t.sY.frozenAt S1.length
                    have bd2 := Nat.le_trans (at_le_wsum S M i HL.out) (hA.sum_le hR)
                    have hset := (hTa.setY S1.length (M.getD i 0)).below (Below.refl _ _).drew
                    have hF := HF2.out
                    rw [← HM5L.out] at hF
                    have hqm2 : S1.length < M1.length + 1 := by have := HM5L.out; omega
                    clear HM1 hM5 e0 HF2 hqm
                    generalize M.getD i 0 = vb at *
                    have hwr : IntKind.i64.wrap (vb : Int) = (vb : Int) := IntWalk.i64_in _ (by omega)
                    go_region
                    all_goals
                      clear cm1 cm2 fr
                      go_wp2_with fail
                      go_roundg (os.length - (j + 1))
                      case measure => have := HJ.out; omega
                      case rel => exact ⟨j + 1, g6, c6, g7, c7, S1 ++ [o], (M1 ++ [0]).set S1.length vb, by have := HJ.out; omega, by go_num, by simp, by simp, hset, hF⟩
              · obtain rfl : j = os.length := by have := HJ.out; omega
                have hM6 := hM5
                rw [← HOS.out, ← HS.out] at hM6
                have hM7 := TMid.next (os' := []) HL.out (by have := HL.out; omega) hM6
                clear hM6 hM5
                go_wp2_with fail
                go_roundg (S.length - (i + 1))
                case measure => have := HI.out; omega
                case rel => exact ⟨i + 1, gn, cn, gy, cy, S1, M1, by have := HI.out; omega, by go_num, rfl, rfl, hT5.t, hM7⟩
        · obtain rfl : i = S.length := by have := HI.out; omega
          rw [HL.out] at hM
          have hA2 := hA.next hlt (hM.done HL.out)
          have hT3 := hT.new hT2
          clear hM hT2 hA hT
          go_wp2_with fail
          go_roundg (R.C.length - (k + 1))
          case measure => have := HK.out; omega
          case rel => exact ⟨k + 1, gn, cn, gy, cy, S', M', by have := HK.out; omega, by go_num, rfl, rfl, hT3, hA2⟩
    · obtain rfl : k = R.C.length := by have := HK.out; omega
      have hSl := hA.len_le hR
      have he0 : endV S M 0 = 0 := by simp [endV, wsum]
      go_wp2_with fail
      go_loopg [16, 17] S.length (fun r s16 s17 wx => ∃ (i x : Nat), i + r = S.length ∧ s17 = .int .i64 (i : Nat) ∧ s16 = .int .i64 (x : Nat) ∧ Hid (x = endV S M i) ∧ T1 w wx R (some ad) c gs cs gm cm S M)
      case atStart => exact ⟨0, 0, by omega, rfl, rfl, Lib.hid he0.symm, hT⟩
      case round =>
        clear hT he0 b0 b1 b2
        obtain ⟨i, x, hi, rfl, rfl, HX, hT⟩ := hrel
        have HI := Lib.hid hi
        clear hi
        by_cases hil : i < S.length
        · have him : i < M.length := by have := HL.out; omega
          have c1 := rowN_cell hT.sS hil
          have c2 := rowN_cell hT.sM him
          have hnx := endV_next HL.out him
          have hle := endV_le hR hA i
          have bd2 := Nat.le_trans (at_le_wsum S M i HL.out) (hA.sum_le hR)
          rw [← HX.out] at hnx hle
          have HNX := Lib.hid hnx
          clear hnx
          generalize S.getD i 0 = v at *
          generalize M.getD i 0 = vb at *
          by_cases hv : v = 0
          · subst hv
            have hwr : IntKind.i64.wrap ((x : Int) + (vb : Int)) = (x : Int) + (vb : Int) := IntWalk.i64_in _ (by omega)
            go_wp2_with fail
            go_roundg (S.length - (i + 1))
            case measure => have := HI.out; omega
            case rel => exact ⟨i + 1, x + vb, by have := HI.out; omega, by go_num, by go_num, Lib.hid (by rw [HNX.out]; simp), hT⟩
          · have hvn : (((v : Nat) : Int) == 0) = false := by simp; omega
            go_wp2_with fail
            go_roundg (S.length - (i + 1))
            case measure => have := HI.out; omega
            case rel => exact ⟨i + 1, x, by have := HI.out; omega, by go_num, rfl, Lib.hid (by rw [HNX.out, if_neg hv]; omega), hT⟩
        · obtain rfl : i = S.length := by have := HI.out; omega
          have hX := HX.out
          rw [HL.out, endV_all hR hA, ← HV.out] at hX
          have HX2 := Lib.hid hX
          clear hX HX
          go_wp2_with fail
          go_ret
          exact ⟨by rw [HX2.out]; rfl, hT.bel⟩

end Go.Proofs.Ythepfpiphlfgnaa

/-
  YthepfpiphlfgnaaR2: counting the tilings with given dominoes: l3Less of the reference.
-/
namespace Go.Proofs.Ythepfpiphlfgnaa
open Go.RowKit

/-- The covered cells among the first k. -/
def cvN (L : List Int) (k : Nat) : List Nat := (List.range k).filter fun j => decide (L.getD j 0 ≠ 0)
theorem cvN_succ (L : List Int) (k : Nat) : cvN L (k + 1) = if L.getD k 0 ≠ 0 then cvN L k ++ [k] else cvN L k := by
  unfold cvN
  rw [List.range_succ, List.filter_append]
  split
  · rename_i h; rw [List.filter_cons_of_pos (by simpa using h)]; rfl
  · rename_i h; rw [List.filter_cons_of_neg (by simpa using h)]; simp
theorem cvN_mem {L : List Int} {k j : Nat} : j ∈ cvN L k ↔ j < k ∧ L.getD j 0 ≠ 0 := by
  unfold cvN; rw [List.mem_filter, List.mem_range]; simp
theorem cvN_len (L : List Int) (k : Nat) : (cvN L k).length ≤ k := by
  have := List.length_filter_le (fun j => decide (L.getD j 0 ≠ 0)) (List.range k)
  unfold cvN; simpa using this
/-- The cells of a region without some. -/
def clr (C : List Bool) (cs : List Nat) : List Bool := (List.range C.length).map fun j => C.getD j false && !decide (j ∈ cs)
theorem clr_len (C : List Bool) (cs : List Nat) : (clr C cs).length = C.length := by simp [clr]
theorem clr_nil (C : List Bool) : clr C [] = C := by
  apply List.ext_getElem (clr_len C [])
  intro j h1 h2
  simp [clr, List.getD_eq_getElem?_getD, List.getElem?_eq_getElem h2]
theorem clr_one (C : List Bool) (cs : List Nat) (q : Nat) : clr C (cs ++ [q]) = (clr C cs).set q false := by
  apply List.ext_getElem (by simp [clr])
  intro j h1 h2
  rw [List.getElem_set]
  by_cases hj : q = j
  · subst hj; simp [clr]
  · have : ¬ j = q := fun h => hj h.symm
    simp [clr, hj, this]
theorem clr_take {C : List Bool} {cs : List Nat} {k : Nat} (hk : k < cs.length) : clr C (cs.take (k + 1)) = (clr C (cs.take k)).set (cs.getD k 0) false := by
  rw [List.take_succ_eq_append_getElem hk, clr_one, List.getD_eq_getElem?_getD, List.getElem?_eq_getElem hk]; rfl
theorem clr_less {R : Reg} {L : List Int} : clr R.C (cvN L R.C.length) = (less R L).C := by
  apply List.ext_getElem (by simp [clr, less])
  intro j h1 h2
  have hj : j < R.C.length := by simpa [clr] using h1
  have e1 : (clr R.C (cvN L R.C.length))[j] = (R.C.getD j false && !decide (j ∈ cvN L R.C.length)) := by simp [clr]
  have e2 : (less R L).C[j] = (R.C.getD j false && decide (L.getD j 0 = 0)) := by simp [less, opB]
  rw [e1, e2]
  congr 1
  have := cvN_mem (L := L) (k := R.C.length) (j := j)
  by_cases h0 : L.getD j 0 = 0
  · rw [decide_eq_true h0, decide_eq_false (by rw [this]; exact fun h => h.2 h0)]; rfl
  · rw [decide_eq_false h0, decide_eq_true (by rw [this]; exact ⟨hj, h0⟩)]; rfl

/-- Where l3Less stands: the results' block, the region's block, its cells. -/
structure LZ (w wr : World) (R : Reg) (x g c' : Nat) (bs : List Bool) : Prop where
  bel : Below w.heap.size w wr
  res : Blk wr (w.heap.size + 1) 25 #[.int .i64 0, .int .i64 0, .slice none 0 0]
  out : Blk wr x 25 #[.int .i64 R.W, .int .i64 R.T, .slice (some ⟨g, 0, none⟩) R.C.length c']
  own : wr.ownsRow w.heap.size 4 1 (.slice (some ⟨g, 0, none⟩) R.C.length c') R.C.length (bs.map Value.bool)
theorem LZ.below {w wr w2 : World} {R : Reg} {x g c' : Nat} {bs : List Bool} (h : LZ w wr R x g c' bs) (hb : Below wr.heap.size wr w2) : LZ w w2 R x g c' bs :=
  ⟨h.bel.trans (hb.mono h.bel.size), h.res.below hb h.res.lt, h.out.below hb h.out.lt, own_below h.own hb (Nat.le_refl _)⟩
theorem LZ.set {w wr : World} {R : Reg} {x g c' : Nat} {bs : List Bool} (h : LZ w wr R x g c' bs) (j : Nat) : LZ w (wr.setCell ⟨g, j, none⟩ (.bool false)) R x g c' (bs.set j false) := by
  have hb := own_lt h.own rfl
  have hne1 : g ≠ w.heap.size + 1 := by have := own_blk_ne h.own h.res (by decide); simpa [Value.ownBlock] using this
  have hne2 : g ≠ x := by have := own_blk_ne h.own h.out (by decide); simpa [Value.ownBlock] using this
  exact ⟨h.bel.setCell (p := ⟨g, j, none⟩) hb.1 _, h.res.far (p := ⟨g, j, none⟩) (Ne.symm hne1) _, h.out.far (p := ⟨g, j, none⟩) (Ne.symm hne2) _, by rw [List.map_set]; exact (h.own.stored j _).1⟩
theorem set3 {w : World} {k : Nat} {u0 u1 u2 v0 v1 v2 : Value} {t : TypeId} (h : Blk w k t #[u0, u1, u2]) : Blk (((w.setCell ⟨k, 0, none⟩ v0).setCell ⟨k, 1, none⟩ v1).setCell ⟨k, 2, none⟩ v2) k t #[v0, v1, v2] := by
  have := ((h.set_ 0 v0).set_ 1 v1).set_ 2 v2
  simpa using this
theorem far3 {w : World} {k y : Nat} {v0 v1 v2 : Value} {cs : Array Value} {t : TypeId} (h : Blk w y t cs) (hne : y ≠ k) : Blk (((w.setCell ⟨k, 0, none⟩ v0).setCell ⟨k, 1, none⟩ v1).setCell ⟨k, 2, none⟩ v2) y t cs :=
  ((h.far (p := ⟨k, 0, none⟩) hne v0).far (p := ⟨k, 1, none⟩) hne v1).far (p := ⟨k, 2, none⟩) hne v2
theorem own3 {w : World} {k base : Nat} {e : TypeId} {size : Nat} {v : Value} {n : Nat} {xs : List Value} {v0 v1 v2 : Value} (h : w.ownsRow base e size v n xs) (hne : v.ownBlock ≠ some k) : (((w.setCell ⟨k, 0, none⟩ v0).setCell ⟨k, 1, none⟩ v1).setCell ⟨k, 2, none⟩ v2).ownsRow base e size v n xs :=
  ownsRow_setCell_other (ownsRow_setCell_other (ownsRow_setCell_other h (a := ⟨k, 0, none⟩) hne v0) (a := ⟨k, 1, none⟩) hne v1) (a := ⟨k, 2, none⟩) hne v2
theorem below3 {w w' : World} {B k : Nat} {v0 v1 v2 : Value} (h : Below B w w') (hk : B ≤ k) : Below B w (((w'.setCell ⟨k, 0, none⟩ v0).setCell ⟨k, 1, none⟩ v1).setCell ⟨k, 2, none⟩ v2) :=
  ((h.setCell (p := ⟨k, 0, none⟩) hk v0).setCell (p := ⟨k, 1, none⟩) hk v1).setCell (p := ⟨k, 2, none⟩) hk v2
theorem LZ.made {w w5 : World} {R : Reg} {x g c' : Nat} (hb5 : Below w.heap.size w w5) (k3 : Blk w5 (w.heap.size + 1) 25 #[.int .i64 0, .int .i64 0, .slice none 0 0]) (k4 : Blk w5 x 25 #[.int .i64 0, .int .i64 0, .slice none 0 0]) (hx : w.heap.size + 1 < x)
    (ho : w5.ownsRow w.heap.size 4 1 (.slice (some ⟨g, 0, none⟩) (0 + R.C.length) c') (0 + R.C.length) ([] ++ R.C.map Value.bool)) :
    LZ w (((w5.setCell ⟨x, 0, none⟩ (.int .i64 R.W)).setCell ⟨x, 1, none⟩ (.int .i64 R.T)).setCell ⟨x, 2, none⟩ (.slice (some ⟨g, 0, none⟩) R.C.length c')) R x g c' R.C := by
  rw [Nat.zero_add, List.nil_append] at ho
  exact ⟨below3 hb5 (by omega), far3 k3 (by omega), set3 k4, own3 ho (own_blk_ne ho k4 (by decide))⟩
theorem LZ.made1 {w w5 : World} {R : Reg} {g c' : Nat} (hb5 : Below w.heap.size w w5) (k3 : Blk w5 (w.heap.size + 1) 25 #[.int .i64 0, .int .i64 0, .slice none 0 0])
    (ho : w5.ownsRow w.heap.size 4 1 (.slice (some ⟨g, 0, none⟩) (0 + R.C.length) c') (0 + R.C.length) ([] ++ R.C.map Value.bool)) :
    LZ w (w5.alloc (.cells #[.int .i64 R.W, .int .i64 R.T, .slice (some ⟨g, 0, none⟩) R.C.length c'] 25)) R w5.heap.size g c' R.C := by
  rw [Nat.zero_add, List.nil_append] at ho
  exact ⟨hb5.alloc hb5.size _, k3.alloc _, Blk.new _ _ _, ho.alloc _⟩
theorem bools_one {bs : List Bool} : ∀ u ∈ bs.map Value.bool, u.oneCell' = true := by
  intro u hu
  obtain ⟨z, _, rfl⟩ := List.mem_map.1 hu
  rfl
theorem reads_news {w : World} {B n : Nat} {ad : Addr} {xs : List Value} (h : Reads w B 1 (some ad) n xs) (hn : 0 < n) : ∀ j u, xs[j]? = some u → w.cell? (ad.add j) = some u := by
  obtain ⟨ad2, e, _, hc⟩ := h.2 hn
  injection e with e
  subst e
  exact hc

set_option maxHeartbeats 4000000 in
set_option maxRecDepth 100000 in
theorem l3LessS_any (R : Reg) (hR : R.ok) (A : Option Addr) (c B : Nat) (cs : List Nat) (hcs : ∀ x ∈ cs, x < R.C.length) (D : Option Addr) (m d : Nat) (hm : cs.length = m) (hm2 : m ≤ 36) (w : World)
    (hr : Reads w B 1 A R.C.length (R.C.map Value.bool)) (hd : Reads w B 1 D m (nvs cs)) (hB : B ≤ w.heap.size) :
    Calls Try.prog 188 #[.agg #[.int .i64 R.W, .int .i64 R.T, .slice A R.C.length c], .slice D m d] w fun e w' => ∃ g c', e = .returned (.agg #[.int .i64 R.W, .int .i64 R.T, .slice (some ⟨g, 0, none⟩) R.C.length c']) ∧ w'.ownsRow w.heap.size 4 1 (.slice (some ⟨g, 0, none⟩) R.C.length c') R.C.length ((clr R.C cs).map Value.bool) ∧ Below w.heap.size w w' := by
  have hl36 := (len_bd hR).2
  have hl1 := (len_bd hR).1
  go_enter Try.func188, Try.ntmps188
  obtain ⟨i0, hi0, hz0, hs0, hby0⟩ := info_parts info_bool
  obtain ⟨ad, rfl, hab, hcl⟩ := hr.2 (by omega)
  have hrd : ∀ w', Below w.heap.size w w' → Reads w' B 1 (some ad) R.C.length (R.C.map Value.bool) := fun w' h => hr.below (h.mono hB)
  go_upto_region 1 with fail
  go_cut [5] (fun s5 wx => ∃ x g c', s5 = .pointer (some ⟨x, 0, none⟩) ∧ LZ w wx R x g c' R.C)
  case first =>
    have k0 : Blk ((w.alloc (boxR R.W R.T (some ad) R.C.length c)).alloc (boxR 0 0 none 0 0)) w.heap.size 25 #[.int .i64 R.W, .int .i64 R.T, .slice (some ad) R.C.length c] := (Blk.new _ _ _).alloc _
    have k1 : Blk ((w.alloc (boxR R.W R.T (some ad) R.C.length c)).alloc (boxR 0 0 none 0 0)) (w.heap.size + 1) 25 #[.int .i64 0, .int .i64 0, .slice none 0 0] := by
      have := Blk.new (w.alloc (boxR R.W R.T (some ad) R.C.length c)) 25 #[.int .i64 0, .int .i64 0, .slice none 0 0]
      simpa [boxR] using this
    have hb0 : Below w.heap.size w ((w.alloc (boxR R.W R.T (some ad) R.C.length c)).alloc (boxR 0 0 none 0 0)) := ((Below.refl _ _).alloc (Nat.le_refl _) _).alloc (by simp) _
    simp only [boxR] at k0 k1 hb0
    generalize (w.alloc (.cells #[.int .i64 R.W, .int .i64 R.T, .slice (some ad) R.C.length c] 25)).alloc (.cells #[.int .i64 0, .int .i64 0, .slice none 0 0] 25) = w2 at *
    obtain ⟨b0, b1, b2⟩ := blk3 k0
    have hsz := hb0.size
    have hx0 := k0.lt
    have hx1 := k1.lt
    obtain ⟨a0, a1, a2⟩ := blk3 (k0.alloc (.cells #[] 4))
    obtain ⟨c0, c1, c2⟩ := blk3 (k0.alloc (.cells #[.int .i64 0, .int .i64 0, .slice none 0 0] 25))
    obtain ⟨d0, d1, d2⟩ := blk3 ((k0.alloc (.cells #[] 4)).alloc (.cells #[.int .i64 0, .int .i64 0, .slice none 0 0] 25))
    obtain ⟨e0, e1, e2⟩ := blk3 ((k0.alloc (.cells #[.int .i64 0, .int .i64 0, .slice none 0 0] 25)).alloc (.cells #[] 4))
    have hoA : (w2.alloc (.cells #[] 4)).drew.ownsRow w.heap.size 4 1 (.slice (some ⟨w2.heap.size, 0, none⟩) 0 0) 0 [] := own_below (by simpa using World.ownsRow_made (base := w.heap.size) (e := 4) (size := 1) w2 #[] 0 (by omega) (by simp [maxLen]) (by simp)) (Below.refl _ _).drew (Nat.le_refl _)
    have hoB : ((w2.alloc (.cells #[] 4)).alloc (.cells #[.int .i64 0, .int .i64 0, .slice none 0 0] 25)).drew.ownsRow w.heap.size 4 1 (.slice (some ⟨w2.heap.size, 0, none⟩) 0 0) 0 [] := own_below (World.ownsRow.alloc (by simpa using World.ownsRow_made (base := w.heap.size) (e := 4) (size := 1) w2 #[] 0 (by omega) (by simp [maxLen]) (by simp)) _) (Below.refl _ _).drew (Nat.le_refl _)
    have hoC : ((w2.alloc (.cells #[.int .i64 0, .int .i64 0, .slice none 0 0] 25)).alloc (.cells #[] 4)).drew.ownsRow w.heap.size 4 1 (.slice (some ⟨w2.heap.size + 1, 0, none⟩) 0 0) 0 [] := own_below (by simpa using World.ownsRow_made (base := w.heap.size) (e := 4) (size := 1) (w2.alloc (.cells #[.int .i64 0, .int .i64 0, .slice none 0 0] 25)) #[] 0 (by simp; omega) (by simp [maxLen]) (by simp)) (Below.refl _ _).drew (Nat.le_refl _)
    have hzB : Blk ((w2.alloc (.cells #[] 4)).alloc (.cells #[.int .i64 0, .int .i64 0, .slice none 0 0] 25)).drew (w2.heap.size + 1) 25 #[.int .i64 0, .int .i64 0, .slice none 0 0] := (by simpa using Blk.new (w2.alloc (.cells #[] 4)) 25 #[.int .i64 0, .int .i64 0, .slice none 0 0] : Blk ((w2.alloc (.cells #[] 4)).alloc (.cells #[.int .i64 0, .int .i64 0, .slice none 0 0] 25)) (w2.heap.size + 1) 25 #[.int .i64 0, .int .i64 0, .slice none 0 0]).drew
    have hzC : Blk ((w2.alloc (.cells #[.int .i64 0, .int .i64 0, .slice none 0 0] 25)).alloc (.cells #[] 4)).drew w2.heap.size 25 #[.int .i64 0, .int .i64 0, .slice none 0 0] := ((Blk.new w2 25 #[.int .i64 0, .int .i64 0, .slice none 0 0]).alloc (.cells #[] 4)).drew
    go_region_held_law (fun w' => w'.cell? ⟨w.heap.size, 0, none⟩ = some (Value.int IntKind.i64 R.W) ∧ w'.cell? ⟨w.heap.size, 1, none⟩ = some (Value.int IntKind.i64 R.T) ∧ w'.cell? ⟨w.heap.size, 2, none⟩ = some (.slice (some ad) R.C.length c)) (first | exact ⟨b0, b1, b2⟩ | exact ⟨a0, a1, a2⟩ | exact ⟨c0, c1, c2⟩ | exact ⟨d0, d1, d2⟩ | exact ⟨e0, e1, e2⟩ | exact ⟨y0, y1, y2⟩ | exact ⟨t0, t1, t2⟩ | exact blk3 (k2.alloc _) | exact blk3 (((k2.far (p := ⟨_, 0, none⟩) (by simp; omega) _).far (p := ⟨_, 1, none⟩) (by simp; omega) _).far (p := ⟨_, 2, none⟩) (by simp; omega) _) | fail) (first
      | ((refine step_append_lies _ rfl _ _ _ rfl w.heap.size 4 i0 _ 1 1 Try.underlying23 hi0 hz0 hs0 hby0 rfl (by omega) (.slice (some ⟨w2.heap.size, 0, none⟩) 0 0) 0 [] rfl hoA ad R.C.length c (R.C.map Value.bool) rfl (by simp) (reads_news (hrd _ ((hb0.alloc hb0.size (.cells #[] 4)).drew)) hl1) bools_one (by omega) (by simp only [maxLen]; omega) (by omega) ((hb0.alloc hb0.size (.cells #[] 4)).drew.size) _ rfl ?_); intro g' cap w5 hown5 hgrow _ hlt5; have k2 := ((k0.alloc (.cells #[] 4)).drew).grown hgrow (by simp [Value.ownBlock]; omega); have k3 := ((k1.alloc (.cells #[] 4)).drew).grown hgrow (by simp [Value.ownBlock]; omega); obtain ⟨y0, y1, y2⟩ := blk3 k2; obtain ⟨t0, t1, t2⟩ := blk3 (k2.alloc (.cells #[.int .i64 0, .int .i64 0, .slice none 0 0] 25)); have hb5 := ((hb0.alloc hb0.size (.cells #[] 4)).drew).grown hgrow ((hb0.alloc hb0.size (.cells #[] 4)).drew.size) (fun j hj => by simp [Value.ownBlock] at hj; omega); go_simp)
      | ((refine step_append_lies _ rfl _ _ _ rfl w.heap.size 4 i0 _ 1 1 Try.underlying23 hi0 hz0 hs0 hby0 rfl (by omega) (.slice (some ⟨w2.heap.size, 0, none⟩) 0 0) 0 [] rfl hoB ad R.C.length c (R.C.map Value.bool) rfl (by simp) (reads_news (hrd _ (((hb0.alloc hb0.size (.cells #[] 4)).alloc (hb0.alloc hb0.size (.cells #[] 4)).size (.cells #[.int .i64 0, .int .i64 0, .slice none 0 0] 25)).drew)) hl1) bools_one (by omega) (by simp only [maxLen]; omega) (by omega) (((hb0.alloc hb0.size (.cells #[] 4)).alloc (hb0.alloc hb0.size (.cells #[] 4)).size (.cells #[.int .i64 0, .int .i64 0, .slice none 0 0] 25)).drew.size) _ rfl ?_); intro g' cap w5 hown5 hgrow _ hlt5; have k2 := (((k0.alloc (.cells #[] 4)).alloc (.cells #[.int .i64 0, .int .i64 0, .slice none 0 0] 25)).drew).grown hgrow (by simp [Value.ownBlock]; omega); have k3 := (((k1.alloc (.cells #[] 4)).alloc (.cells #[.int .i64 0, .int .i64 0, .slice none 0 0] 25)).drew).grown hgrow (by simp [Value.ownBlock]; omega); obtain ⟨y0, y1, y2⟩ := blk3 k2; obtain ⟨t0, t1, t2⟩ := blk3 (k2.alloc (.cells #[.int .i64 0, .int .i64 0, .slice none 0 0] 25)); have hb5 := (((hb0.alloc hb0.size (.cells #[] 4)).alloc (hb0.alloc hb0.size (.cells #[] 4)).size (.cells #[.int .i64 0, .int .i64 0, .slice none 0 0] 25)).drew).grown hgrow (((hb0.alloc hb0.size (.cells #[] 4)).alloc (hb0.alloc hb0.size (.cells #[] 4)).size (.cells #[.int .i64 0, .int .i64 0, .slice none 0 0] 25)).drew.size) (fun j hj => by simp [Value.ownBlock] at hj; omega); have k4 := (hzB).grown hgrow (by simp [Value.ownBlock]); obtain ⟨z0, z1, z2⟩ := blk3 k4; have f0 := k4.frozen 0; have f1 := k4.frozen 1; have f2 := k4.frozen 2; go_simp)
      | ((refine step_append_lies _ rfl _ _ _ rfl w.heap.size 4 i0 _ 1 1 Try.underlying23 hi0 hz0 hs0 hby0 rfl (by omega) (.slice (some ⟨w2.heap.size + 1, 0, none⟩) 0 0) 0 [] rfl hoC ad R.C.length c (R.C.map Value.bool) rfl (by simp) (reads_news (hrd _ (((hb0.alloc hb0.size (.cells #[.int .i64 0, .int .i64 0, .slice none 0 0] 25)).alloc (hb0.alloc hb0.size (.cells #[.int .i64 0, .int .i64 0, .slice none 0 0] 25)).size (.cells #[] 4)).drew)) hl1) bools_one (by omega) (by simp only [maxLen]; omega) (by omega) (((hb0.alloc hb0.size (.cells #[.int .i64 0, .int .i64 0, .slice none 0 0] 25)).alloc (hb0.alloc hb0.size (.cells #[.int .i64 0, .int .i64 0, .slice none 0 0] 25)).size (.cells #[] 4)).drew.size) _ rfl ?_); intro g' cap w5 hown5 hgrow _ hlt5; have k2 := (((k0.alloc (.cells #[.int .i64 0, .int .i64 0, .slice none 0 0] 25)).alloc (.cells #[] 4)).drew).grown hgrow (by simp [Value.ownBlock]; omega); have k3 := (((k1.alloc (.cells #[.int .i64 0, .int .i64 0, .slice none 0 0] 25)).alloc (.cells #[] 4)).drew).grown hgrow (by simp [Value.ownBlock]; omega); obtain ⟨y0, y1, y2⟩ := blk3 k2; obtain ⟨t0, t1, t2⟩ := blk3 (k2.alloc (.cells #[.int .i64 0, .int .i64 0, .slice none 0 0] 25)); have hb5 := (((hb0.alloc hb0.size (.cells #[.int .i64 0, .int .i64 0, .slice none 0 0] 25)).alloc (hb0.alloc hb0.size (.cells #[.int .i64 0, .int .i64 0, .slice none 0 0] 25)).size (.cells #[] 4)).drew).grown hgrow (((hb0.alloc hb0.size (.cells #[.int .i64 0, .int .i64 0, .slice none 0 0] 25)).alloc (hb0.alloc hb0.size (.cells #[.int .i64 0, .int .i64 0, .slice none 0 0] 25)).size (.cells #[] 4)).drew.size) (fun j hj => by simp [Value.ownBlock] at hj; omega); have k4 := (hzC).grown hgrow (by simp [Value.ownBlock]); obtain ⟨z0, z1, z2⟩ := blk3 k4; have f0 := k4.frozen 0; have f1 := k4.frozen 1; have f2 := k4.frozen 2; go_simp))
    all_goals
      first | go_meet | (go_wp2_with fail; go_meet)
    · exact ⟨_, g', cap, rfl, LZ.made1 hb5 k3 hown5⟩
    · exact ⟨_, g', cap, rfl, LZ.made hb5 k3 k4 (by omega) hown5⟩
    · exact ⟨_, g', cap, rfl, LZ.made hb5 k3 k4 (by omega) hown5⟩
  case rest =>
    obtain ⟨x, g, c', rfl, hL⟩ := hcut
    have hL0 : LZ w wc R x g c' (clr R.C (cs.take 0)) := by rw [List.take_zero, clr_nil]; exact hL
    have HM := Lib.hid hm
    clear hL hm hcl hab hrd hi0 hz0 hs0 hby0
    go_wp2_with fail
    go_loopg [6] m (fun r s6 wr => ∃ k : Nat, k + r = m ∧ s6 = .int .i64 (k : Nat) ∧ LZ w wr R x g c' (clr R.C (cs.take k)))
    case atStart => exact ⟨0, by omega, rfl, hL0⟩
    case round =>
      clear hL0
      obtain ⟨k, hk, rfl, hL⟩ := hrel
      have HK := Lib.hid hk
      clear hk
      by_cases hlt : k < m
      · have hLd := hL.below (Below.refl wr.heap.size wr).drew
        have hkc : k < cs.length := by have := HM.out; omega
        obtain ⟨o, ho⟩ : ∃ o, cs.getD k 0 = o := ⟨_, rfl⟩
        have hon : o < R.C.length := by rw [← ho]; exact hcs _ (getD_mem hkc)
        obtain ⟨a2, hD2, _, hc2⟩ := hd.2 (by omega)
        have hck := (hLd.bel.cell (p := a2.add k) (by rw [block_of_add]; omega)).trans (hc2 k _ (nvs_at hkc))
        rw [ho] at hck
        have hset := (hL.set o).below (Below.refl _ _).drew
        have hset2 := hLd.set o
        rw [← ho, ← clr_take hkc, ho] at hset hset2
        obtain ⟨d0, d1, d2⟩ := blk3 hLd.out
        have hfr := hLd.own.frozenAt o
        obtain ⟨z0, hz0⟩ : ∃ z0, wr.drew.cell? ⟨g, o, none⟩ = some z0 := ⟨_, (hLd.own.cellAt o (by omega)).trans (by rw [List.getElem?_map, List.getElem?_eq_getElem (by rw [clr_len]; exact hon)]; rfl)⟩
        subst hD2
        clear ho hkc hLd hL hc2
        go_upto_region 5 with fail
        go_region
        all_goals
          clear d0 d1 d2 hfr hz0 hck
          go_wp2_with fail
          go_roundg (m - (k + 1))
          case measure => have := HK.out; omega
          case rel => exact ⟨k + 1, by have := HK.out; omega, by go_num, by first | exact hset | exact hset2⟩
      · obtain rfl : k = m := by have := HK.out; omega
        have hall : cs.take k = cs := List.take_of_length_le (by have := HM.out; omega)
        rw [hall] at hL
        obtain ⟨d0, d1, d2⟩ := blk3 hL.out
        obtain ⟨r0, r1, r2⟩ := blk3 (set3 (v0 := .int .i64 R.W) (v1 := .int .i64 R.T) (v2 := .slice (some ⟨g, 0, none⟩) R.C.length c') hL.res)
        have q0 := hL.res.frozen 0
        have q1 := hL.res.frozen 1
        have q2 := hL.res.frozen 2
        obtain ⟨y0, y1, y2⟩ := blk3 hL.res
        have ho := own3 (v0 := .int .i64 R.W) (v1 := .int .i64 R.T) (v2 := .slice (some ⟨g, 0, none⟩) R.C.length c') hL.own (own_blk_ne hL.own hL.res (by decide))
        have hb := below3 (v0 := .int .i64 R.W) (v1 := .int .i64 R.T) (v2 := .slice (some ⟨g, 0, none⟩) R.C.length c') (k := w.heap.size + 1) hL.bel (by omega)
        clear hall
        go_wp2_with fail
        exact bodyPost_ret (v := .agg #[.int .i64 R.W, .int .i64 R.T, .slice (some ⟨g, 0, none⟩) R.C.length c']) (by simp [results, Try.results188, go_sem, r0, r1, r2]) rfl ⟨g, c', rfl, ho, hb⟩

end Go.Proofs.Ythepfpiphlfgnaa

/-
  YthepfpiphlfgnaaR3: l3With of the reference: how many tilings have given dominoes.
-/
namespace Go.Proofs.Ythepfpiphlfgnaa
open Go.RowKit

set_option maxHeartbeats 4000000 in
set_option maxRecDepth 100000 in
theorem l3WithS_any (R : Reg) (hR : R.ok) (A : Option Addr) (c B : Nat) (L : List Int) (D : Option Addr) (d : Nat) (hL : L.length = R.C.length) (w : World)
    (hr : Reads w B 1 A R.C.length (R.C.map Value.bool)) (hd : Reads w B 1 D R.C.length (L.map (Value.int .i64))) (hB : B ≤ w.heap.size) :
    Calls Try.prog 158 #[.agg #[.int .i64 R.W, .int .i64 R.T, .slice A R.C.length c], .slice D R.C.length d] w fun e w' => e = .returned (.int .i64 (nT (less R L) : Nat)) ∧ Below w.heap.size w w' := by
  have hl36 := (len_bd hR).2
  have hl1 := (len_bd hR).1
  obtain ⟨V, hV⟩ : ∃ V, V = nT (less R L) := ⟨_, rfl⟩
  rw [← hV]
  have HV := Lib.hid hV
  have HL := Lib.hid hL
  clear hV
  have hLE := fun w' (h : Below w.heap.size w w') (A2 : Option Addr) (d2 : Nat) (hd2 : Reads w' w'.heap.size 1 A2 (cvN L R.C.length).length (nvs (cvN L R.C.length))) => hide (l3LessS_any R hR A c w'.heap.size (cvN L R.C.length) (fun x hx => (cvN_mem.1 hx).1) A2 _ d2 rfl (Nat.le_trans (cvN_len L _) hl36) w' ((hr.below (h.mono hB)).more (Nat.le_trans hB h.size)) hd2 (Nat.le_refl _))
  rw [clr_less] at hLE
  have hTM := fun (w' : World) (g c' : Nat) (ho : w'.ownsRow w.heap.size 4 1 (.slice (some ⟨g, 0, none⟩) R.C.length c') R.C.length ((less R L).C.map Value.bool)) => hide (by simpa [less_len] using tilingsManyS_ok (less R L) (less_ok hR L) (some ⟨g, 0, none⟩) c' w'.heap.size w' (by rw [less_len]; exact Reads.of_own ho) (Nat.le_refl _))
  clear hr
  go_enter Try.func158, Try.ntmps158
  go_wp2_with fail
  go_loopg [5, 6] R.C.length (fun r s5 s6 wr => ∃ (k g c' : Nat), k + r = R.C.length ∧ s6 = .int .i64 (k : Nat) ∧ s5 = .slice (some ⟨g, 0, none⟩) (cvN L k).length c' ∧ Below w.heap.size w wr ∧ Blk wr w.heap.size 25 #[.int .i64 R.W, .int .i64 R.T, .slice A R.C.length c] ∧ rowN wr w.heap.size g c' (cvN L k))
  case atStart =>
    refine ⟨0, w.heap.size + 1, 0, by omega, rfl, rfl, ((Below.refl _ _).alloc (Nat.le_refl _) _).alloc (by simp) _, (Blk.new _ _ _).alloc _, ?_⟩
    have := rowN_new (w.alloc (boxR R.W R.T A R.C.length c)) w.heap.size (by simp)
    simpa [boxR, cvN] using this
  case round =>
    obtain ⟨k, g, c', hk, rfl, rfl, hB1, hk1, hrow⟩ := hrel
    have HK := Lib.hid hk
    clear hk hL
    have hcl := cvN_len L k
    by_cases hlt : k < R.C.length
    · obtain ⟨a2, rfl, _, hc2⟩ := hd.getI hlt
      have hc3 := (hB1.cell (p := a2.add k) (World.block_lt_of_cell? w _ hc2)).trans hc2
      have hcv := cvN_succ L k
      have HCV := Lib.hid hcv
      obtain ⟨z, hz⟩ : ∃ z, L.getD k 0 = z := ⟨_, rfl⟩
      rw [hz] at hc3
      have HZ := Lib.hid hz
      clear hz hcv hLE hTM hc2
      by_cases h0 : z = 0
      · have h0d : (z != 0) = false := by simpa using h0
        have hsame : cvN L (k + 1) = cvN L k := by rw [HCV.out, if_neg (by rw [HZ.out, h0]; simp)]
        have HSM := Lib.hid hsame
        clear hsame h0
        go_wp2_with fail
        go_roundg (R.C.length - (k + 1))
        case measure => have := HK.out; omega
        case rel => exact ⟨k + 1, g, c', by have := HK.out; omega, by go_num, by rw [HSM.out], hB1, hk1, by rw [HSM.out]; exact hrow⟩
      · have h0d : (z != 0) = true := by simpa using h0
        have hsame : cvN L (k + 1) = cvN L k ++ [k] := by rw [HCV.out, if_pos (by rw [HZ.out]; exact h0)]
        have HSM := Lib.hid hsame
        have hsz := hB1.size
        have hgl := rowN_lt hrow
        clear hsame h0
        obtain ⟨M, hM⟩ : ∃ M, cvN L k = M := ⟨_, rfl⟩
        rw [hM] at hrow hcl HSM ⊢
        clear hM HCV
        go_wp2_with (at_builtin; refine wpList_app rfl _ _ _ rfl w.heap.size 3 (.int .i64 0) 8 Try.underlying26 info_int rfl (by omega) (.slice (some ⟨g, 0, none⟩) M.length c') M.length (nvs M) rfl (hrow.alloc _) _ _ rfl (cell_new1 _ _ _) rfl (by omega) ?c2 ?_)
        case c2 => simp; omega
        rintro g6 c6 w6 hown hgr hgg _ _
        have hB6 := (hB1.alloc hB1.size (.cells #[.int .i64 (k : Nat)] 3)).grown hgr (by simp; omega) (fun j hj => by simp [Value.ownBlock] at hj; omega)
        have hk6 := (hk1.alloc (.cells #[.int .i64 (k : Nat)] 3)).grown hgr (by
          have := own_blk_ne hrow hk1 (by decide)
          intro h; exact this h.symm)
        go_wp2_with fail
        go_roundg (R.C.length - (k + 1))
        case measure => have := HK.out; omega
        case rel => exact ⟨k + 1, g6, c6, by have := HK.out; omega, by go_num, by rw [HSM.out]; simp, hB6, hk6, by rw [HSM.out]; unfold rowN; rw [nvs_app]; simpa using hown⟩
    · obtain rfl : k = R.C.length := by have := HK.out; omega
      obtain ⟨b0, b1, b2⟩ := blk3 hk1
      have hL1 := hLE wr hB1 _ c' (Reads.of_own hrow)
      clear hLE hd
      generalize cvN L R.C.length = M at *
      go_wp2_with fail
      refine (unhide hL1).mono ?_
      rintro e w6 ⟨g6, c6, rfl, ho6, hb6⟩
      have hT6 := hTM w6 g6 c6 (own_mono ho6 hB1.size)
      rw [← HV.out] at hT6
      have hB6 := hB1.trans (hb6.mono hB1.size)
      clear hTM hL1 b0 b1 b2
      go_wp2_with fail
      refine (unhide hT6).mono ?_
      rintro e w7 ⟨rfl, hb7⟩
      clear hT6
      go_wp2_with fail
      go_ret
      exact ⟨rfl, hB6.trans (hb7.mono hB6.size)⟩

end Go.Proofs.Ythepfpiphlfgnaa
