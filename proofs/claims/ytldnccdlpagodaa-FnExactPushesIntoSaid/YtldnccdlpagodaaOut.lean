/-
  YtldnccdlpagodaaOut: l4Outside and Simple of the reference.
-/
import Derived.Test.YtldnccdlpagodaaSimple
import Derived.Test.YtldnccdlpagodaaMa
namespace Go.Proofs.Ytldnccdlpagodaa
open Go.RowKit

theorem own_own_ne {w : World} {base base' : Nat} {e e' : TypeId} {size size' n n' g g' c c' : Nat} {xs xs' : List Value} (h : w.ownsRow base e size (.slice (some ⟨g, 0, none⟩) n c) n xs) (h' : w.ownsRow base' e' size' (.slice (some ⟨g', 0, none⟩) n' c') n' xs') (hne : e ≠ e') : g ≠ g' := by
  rintro rfl
  rcases h.2 with ⟨h0, _⟩ | ⟨a, cap, cur, hv, _, hh, _⟩
  · simp at h0
  · rcases h'.2 with ⟨h0, _⟩ | ⟨a', cap', cur', hv', _, hh', _⟩
    · simp at h0
    · simp only [Value.slice.injEq, Option.some.injEq, Addr.mk.injEq, and_true, true_and] at hv hv'
      obtain ⟨rfl, _⟩ := hv
      obtain ⟨rfl, _⟩ := hv'
      rw [hh] at hh'
      injection hh' with hh'
      injection hh' with _ ht
      exact hne ht

structure BW (w wr : World) (R : Reg) (A : Option Addr) (c g h cc : Nat) (M : List Bool) (Q : List Int) : Prop where
  bel : Below w.heap.size w wr
  box : Blk wr w.heap.size 29 #[.int .i64 R.W, .int .i64 R.T, .slice A R.C.length c]
  seen : wr.ownsRow (w.heap.size + 1) 4 1 (.slice (some ⟨g, 0, none⟩) R.pn R.pn) R.pn (M.map Value.bool)
  que : wr.ownsRow (w.heap.size + 1) 3 1 (.slice (some ⟨h, 0, none⟩) Q.length cc) Q.length (Q.map (Value.int .i64))

section
variable {w wr w2 : World} {R : Reg} {A : Option Addr} {c g h cc : Nat} {M : List Bool} {Q : List Int}
theorem BW.glt (H : BW w wr R A c g h cc M Q) : w.heap.size < g ∧ g < wr.heap.size := by have := H.seen.lt g rfl; omega
theorem BW.hlt (H : BW w wr R A c g h cc M Q) : w.heap.size < h ∧ h < wr.heap.size := by have := H.que.lt h rfl; omega
theorem BW.ne (H : BW w wr R A c g h cc M Q) : g ≠ h := own_own_ne H.seen H.que (by decide)
theorem BW.below (H : BW w wr R A c g h cc M Q) (hb : Below wr.heap.size wr w2) : BW w w2 R A c g h cc M Q :=
  ⟨H.bel.trans (hb.mono H.bel.size), H.box.below hb H.box.lt, own_below H.seen hb (Nat.le_refl _), own_below H.que hb (Nat.le_refl _)⟩
theorem BW.alloc (H : BW w wr R A c g h cc M Q) (o : Obj) : BW w (wr.alloc o) R A c g h cc M Q := H.below ((Below.refl _ _).alloc (Nat.le_refl _) o)
theorem BW.mark (H : BW w wr R A c g h cc M Q) (j : Nat) : BW w (wr.setCell ⟨g, j, none⟩ (.bool true)) R A c g h cc (M.set j true) Q := by
  have hg := H.glt
  refine ⟨H.bel.setCell (by simp; omega) _, H.box.far (p := ⟨g, j, none⟩) (by simp; omega) _, ?_, ownsRow_setCell_other H.que (a := ⟨g, j, none⟩) (by simp [Value.ownBlock]; exact Ne.symm H.ne) _⟩
  have := (H.seen.stored j (.bool true)).1
  rwa [← List.map_set] at this
theorem BW.app {g' k' : Nat} {x : Int} {o : Obj} (H : BW w wr R A c g h cc M Q)
    (ho : w2.ownsRow (w.heap.size + 1) 3 1 (.slice (some ⟨g', 0, none⟩) (Q.length + 1) k') (Q.length + 1) (Q.map (Value.int .i64) ++ [.int .i64 x])) (hg : (wr.alloc o).grownBy w2 (Value.slice (some ⟨h, 0, none⟩) Q.length cc).ownBlock) : BW w w2 R A c g g' k' M (Q ++ [x]) := by
  have hh := H.hlt
  refine ⟨(H.bel.alloc H.bel.size o).grown hg (by have := H.bel.size; simp; omega) (fun j hj => by simp [Value.ownBlock] at hj; omega), (H.box.alloc o).grown hg (by simp [Value.ownBlock]; omega), (H.seen.alloc o).kept hg (by simp [Value.ownBlock]; exact H.ne), ?_⟩
  rw [List.length_append, List.length_singleton, List.map_append]
  exact ho
theorem BW.scell (H : BW w wr R A c g h cc M Q) (hl : M.length = R.pn) {j : Nat} {b : Bool} (hj : M[j]? = some b) : wr.cell? ⟨g, j, none⟩ = some (.bool b) := by
  have : j < M.length := (List.getElem?_eq_some_iff.1 hj).1
  rw [H.seen.cellAt j (by omega), List.getElem?_map, hj]; rfl
theorem BW.qcell (H : BW w wr R A c g h cc M Q) {j : Nat} {q : Int} (hj : Q[j]? = some q) : wr.cell? ⟨h, j, none⟩ = some (.int .i64 q) := by
  have : j < Q.length := (List.getElem?_eq_some_iff.1 hj).1
  rw [H.que.cellAt j (by omega), List.getElem?_map, hj]; rfl
theorem BW.rcells (H : BW w wr R A c g h cc M Q) : wr.cell? ⟨w.heap.size, 0, none⟩ = some (.int .i64 R.W) ∧ wr.cell? ⟨w.heap.size, 1, none⟩ = some (.int .i64 R.T) ∧ wr.cell? ⟨w.heap.size, 2, none⟩ = some (.slice A R.C.length c) := by
  have r0 := H.box.cell 0
  have r1 := H.box.cell 1
  have r2 := H.box.cell 2
  simp at r0 r1 r2
  exact ⟨r0, r1, r2⟩
end

theorem int_mod {a b x : Nat} (h : a % b = x) : (a : Int) % (b : Int) = (x : Int) := by subst h; simp
theorem int_div {a b x : Nat} (h : a / b = x) : (a : Int) / (b : Int) = (x : Int) := by subst h; simp

open Classical in
noncomputable def outB (R : Reg) : Bool := decide (OutConn R)

set_option maxRecDepth 100000 in
set_option maxHeartbeats 1000000 in
theorem outside_any (R : Reg) (hR : R.ok) (A : Option Addr) (c B : Nat) (w : World) (hr : Reads w B 1 A R.C.length (R.C.map Value.bool)) (hB : B ≤ w.heap.size) :
    Calls Try.prog 110 #[.agg #[.int .i64 R.W, .int .i64 R.T, .slice A R.C.length c]] w fun e w' => e = .returned (.bool (outB R)) ∧ Below w.heap.size w w' := by
  have hW1 := hR.1
  have hW6 := hR.2.1
  have hT6 := hR.2.2.2.1
  have hpn := pn_bd hR
  have hpe : ((R.pn : Nat) : Int) = ((R.W : Int) + 2) * ((R.T : Int) + 2) := by simp [Reg.pn]
  have HPE := Lib.hid hpe
  have q0 : 0 ≤ ((R.W : Int) + 2) * ((R.T : Int) + 2) := by omega
  have q1 : ((R.W : Int) + 2) * ((R.T : Int) + 2) ≤ 64 := by omega
  clear hpe
  go_enter Try.func110, Try.ntmps110
  go_upto_region 3 with (at_make; refine wpList_make_bools rfl _ _ rfl R.pn (by omega) rfl rfl (by simp [HPE.out]) (by simp [HPE.out]) ?_; intro w1 hown hb)
  have hz := hb.size
  simp only [World.size_alloc] at hown hb hz
  have c0 := hown.cellAt 0 (by omega)
  have f0 := hown.frozenAt 0
  have e0 : ((List.replicate R.pn false).map Value.bool)[0]? = some (.bool false) := by
    rw [List.getElem?_map, List.getElem?_replicate, if_pos (by omega)]; rfl
  rw [e0] at c0
  clear e0
  go_wp2_with fail
  have hb1 : Below w.heap.size w w1 := ((Below.refl _ _).alloc (Nat.le_refl _) _).trans (hb.mono (by omega))
  have h0 : BW w ((w1.setCell ⟨w.heap.size + 1, 0, none⟩ (.bool true)).alloc (.cells #[.int .i64 0] 3)) R A c (w.heap.size + 1) w1.heap.size 1 ((List.replicate R.pn false).set 0 true) [0] := by
    have hs := (hown.stored 0 (.bool true)).1
    rw [← List.map_set] at hs
    have hlt := (hown.lt _ rfl).2
    refine ⟨(hb1.setCell (by simp) _).alloc (by simp [World.setCell]; omega) _, (((Blk.new w _ _).below hb (by simp)).far (p := ⟨w.heap.size + 1, 0, none⟩) (by simp) _).alloc _, hs.alloc _, ?_⟩
    have := World.ownsRow_lit (base := w.heap.size + 1) (e := 3) (size := 1) (w1.setCell ⟨w.heap.size + 1, 0, none⟩ (.bool true)) #[.int .i64 0] 1 (by simp [World.setCell]; omega) (by simp [maxLen]) (by simp)
    simpa [World.setCell] using this
  have hB0 := Lib.hid (bfs_start hR)
  have hM0 : marked ((List.replicate R.pn false).set 0 true) 0 := by
    unfold marked; rw [List.getElem?_set, if_pos rfl, if_pos (by simp; omega)]
  have HM0 := Lib.hid hM0
  clear hM0 hown hb hb1 c0 f0 hz
  go_loopg [5, 6] R.pn (fun r s5 s6 wr => ∃ k h cc M Q, k + r = R.pn ∧ s6 = .int .i64 (k : Nat) ∧ s5 = .slice (some ⟨h, 0, none⟩) Q.length cc ∧ BW w wr R A c (w.heap.size + 1) h cc M Q ∧ Bfs R M Q k 1 ∧ marked M 0)
  case atStart => exact ⟨0, _, _, _, _, by omega, rfl, rfl, h0, hB0.out, HM0.out⟩
  case round =>
    clear h0 hB0 HM0
    obtain ⟨k, h, cc, M, Q, hk, rfl, rfl, hW, hBfs, hM0⟩ := hrel
    have HB := Lib.hid hBfs
    have HM := Lib.hid hM0
    have HK := Lib.hid hk
    have hql : Q.length ≤ 64 := by have := hBfs.qlen; have := cnt_le M; have := hBfs.len; omega
    have hqk : Q.length ≤ R.pn := by have := hBfs.qlen; have := cnt_le M; have := hBfs.len; omega
    clear hBfs hM0 hk
    by_cases hlt : k < Q.length
    · obtain ⟨q, hq⟩ : ∃ q, Q[k]? = some q := ⟨_, List.getElem?_eq_getElem hlt⟩
      obtain ⟨x, y, rfl, hf, _, _⟩ := HB.out.each k q hq
      have hx := (free_in hf).1
      have hy := (free_in hf).2
      have hqc := hW.qcell hq
      have HQ := Lib.hid hq
      obtain ⟨r0, r1, r2⟩ := hW.rcells
      have hpl := pi_lt hx hy
      have ex : ((R.pi x y : Nat) : Int) % ((R.W : Int) + 2) = (x : Int) := by
        rw [show ((R.W : Int) + 2) = ((R.W + 2 : Nat) : Int) from by omega]
        exact int_mod (mk_mod y hx)
      have ey : ((R.pi x y : Nat) : Int) / ((R.W : Int) + 2) = (y : Int) := by
        rw [show ((R.W : Int) + 2) = ((R.W + 2 : Nat) : Int) from by omega]
        exact int_div (mk_div y hx)
      have hw0 : ((R.W : Int) + 2 == 0) = false := by simp; omega
      obtain ⟨p, hp⟩ : ∃ p, p = R.pi x y := ⟨_, rfl⟩
      rw [← hp] at hqc ex ey
      have HP := Lib.hid hp
      have d0 : 0 ≤ (p : Int) / ((R.W : Int) + 2) := by omega
      have d1 : (p : Int) / ((R.W : Int) + 2) ≤ 64 := by omega
      have HEX := Lib.hid ex
      have HEY := Lib.hid ey
      clear hq hf hp ex ey
      go_upto_region 10 with fail
      rw [HEX.out, HEY.out]
      clear d0 d1 hqc r0 r1 r2
      have hW' := hW
      clear hW
      go_wp2_with fail
      obtain ⟨wo, rfl⟩ : ∃ wo : World, wo = wr := ⟨_, rfl⟩
      obtain ⟨gk0, rfl⟩ : ∃ gk0 : Nat, gk0 = gk := ⟨_, rfl⟩
      go_loopg [5, 9] 4 (fun r s5 s9 wr => ∃ t h cc M Q, t + r = 5 ∧ 1 ≤ t ∧ s9 = .int .i64 (t : Nat) ∧ s5 = .slice (some ⟨h, 0, none⟩) Q.length cc ∧ BW w wr R A c (w.heap.size + 1) h cc M Q ∧ Bfs R M Q k t ∧ marked M 0 ∧ Q[k]? = some ((R.pi x y : Nat) : Int))
      case atStart => exact ⟨1, _, _, _, _, by omega, by omega, rfl, rfl, hW', HB.out, HM.out, HQ.out⟩
      case round =>
        clear hW' HB HM HQ hql hqk hlt
        obtain ⟨t, h, cc, M, Q, ht, ht1, rfl, rfl, hW, hBfs, hM0, hq⟩ := hrel
        have HB := Lib.hid hBfs
        have HM := Lib.hid hM0
        have HQ := Lib.hid hq
        have HT := Lib.hid ht
        have hlen := hBfs.len
        have HLen := Lib.hid hlen
        have hkq : k < Q.length := (List.getElem?_eq_some_iff.1 hq).1
        have hqc2 := hBfs.qlen
        have hcm := cnt_le M
        have hql : Q.length ≤ 64 := by omega
        have hkpn : k + 1 ≤ R.pn := by omega
        clear hBfs hM0 hq hlen hqc2 hcm
        by_cases htl : t ≤ 4
        · have h4 : t = 1 ∨ t = 2 ∨ t = 3 ∨ t = 4 := by omega
          go_upto_region 13 with fail
          go_cut [10] (fun s wx => s = .int .i64 ((x : Int) + dxOf t) ∧ Below wr.heap.size wr wx)
          case first =>
            clear ht
            rcases h4 with rfl | rfl | rfl | rfl
            all_goals
              go_wp2
              go_meet
              exact ⟨by simp [dxOf]; try omega, (Below.refl _ _).alloc (Nat.le_refl _) _⟩
          case rest =>
            obtain ⟨rfl, hbc⟩ := hcut
            obtain ⟨wa, rfl⟩ : ∃ wa : World, wa = wc := ⟨_, rfl⟩
            go_upto_region 14 with fail
            go_cut [11] (fun s wx => s = .int .i64 ((y : Int) + dyOf t) ∧ Below wa.heap.size wa wx)
            case first =>
              clear ht
              rcases h4 with rfl | rfl | rfl | rfl
              all_goals
                go_wp2
                go_meet
                exact ⟨by simp [dyOf]; try omega, (Below.refl _ _).alloc (Nat.le_refl _) _⟩
            case rest =>
              obtain ⟨rfl, hbd⟩ := hcut
              have hW2 := (hW.below hbc).below hbd
              have hrr := (hr.below (hW2.bel.mono hB))
              clear hW hbc hbd
              obtain ⟨nx, hnx⟩ : ∃ nx : Int, nx = (x : Int) + dxOf t := ⟨_, rfl⟩
              obtain ⟨ny, hny⟩ : ∃ ny : Int, ny = (y : Int) + dyOf t := ⟨_, rfl⟩
              rw [← hnx, ← hny]
              have bx : -1 ≤ nx ∧ nx ≤ (R.W : Int) + 2 := by rw [hnx]; unfold dxOf; repeat (first | omega | split)
              have by' : -1 ≤ ny ∧ ny ≤ (R.T : Int) + 2 := by rw [hny]; unfold dyOf; repeat (first | omega | split)
              have HNX := Lib.hid hnx
              have HNY := Lib.hid hny
              clear hnx hny
              obtain ⟨r0, r1, r2⟩ := hW2.rcells
              obtain ⟨bx0, bx1⟩ := bx
              obtain ⟨by0, by1⟩ := by'
              have hBw : B ≤ wc.heap.size := by have := hW2.bel.size; omega
              by_cases hxi : 0 ≤ nx ∧ nx ≤ (R.W : Int) + 2 - 1
              · have I1 := inB_t hxi
                by_cases hyi : 0 ≤ ny ∧ ny ≤ (R.T : Int) + 1
                · have I2 := inB_t hyi
                  obtain ⟨u, rfl⟩ := Int.eq_ofNat_of_zero_le hxi.1
                  obtain ⟨v, rfl⟩ := Int.eq_ofNat_of_zero_le hyi.1
                  have hul : u < R.W + 2 := by omega
                  have hvl : v < R.T + 2 := by omega
                  have hpp := pi_lt hul hvl
                  have hpe2 : ((R.pi u v : Nat) : Int) = (v : Int) * ((R.W : Int) + 2) + (u : Int) := by simp [Reg.pi]
                  have e0 : 0 ≤ (v : Int) * ((R.W : Int) + 2) := Int.mul_nonneg (by omega) (by omega)
                  have e1 : (v : Int) * ((R.W : Int) + 2) + (u : Int) ≤ 64 := by omega
                  have e2 : (v : Int) * ((R.W : Int) + 2) + (u : Int) < (R.pn : Int) := by omega
                  have HPI := Lib.hid hpe2
                  obtain ⟨b, hb⟩ : ∃ b, M[R.pi u v]? = some b := ⟨_, List.getElem?_eq_getElem (by rw [HLen.out]; exact hpp)⟩
                  have hsc : wc.cell? ⟨w.heap.size + 1, v * (R.W + 2) + u, none⟩ = some (.bool b) := hW2.scell HLen.out hb
                  have hsf : wc.frozen? ⟨w.heap.size + 1, v * (R.W + 2) + u, none⟩ = false := hW2.seen.frozenAt _
                  have HBB := Lib.hid hb
                  clear hb hpe2
                  cases b with
                  | true =>
                    go_wp2_with (first
                      | (go_at_call 65; refine (l1In_any _ _ _ _).mono ?_; rintro e w' ⟨rfl, rfl⟩))
                    go_roundg (5 - (t + 1))
                    case measure => have := HT.out; omega
                    case rel => exact ⟨t + 1, h, cc, M, Q, by omega, by omega, by go_num, rfl, hW2, bfs_skip HB.out hx HQ.out (fun u' v' e1 e2 _ => by
                      obtain rfl : u' = u := by have := HNX.out; omega
                      obtain rfl : v' = v := by have := HNY.out; omega
                      exact HBB.out), HM.out, HQ.out⟩
                  | false =>
                    cases hat : R.at ((u : Int) - 1) ((v : Int) - 1) with
                    | true =>
                      have HAT := Lib.hid hat
                      clear hat
                      go_wp2_with (first
                        | (go_at_call 65; refine (l1In_any _ _ _ _).mono ?_; rintro e w' ⟨rfl, rfl⟩)
                        | (go_at_call 135; refine (atS_any R hR A c B _ _ (by omega) (by omega) _ hrr hBw).mono ?_; rintro e w3 ⟨rfl, hb3⟩; rw [HAT.out]))
                      go_roundg (5 - (t + 1))
                      case measure => have := HT.out; omega
                      case rel => exact ⟨t + 1, h, cc, M, Q, by omega, by omega, by go_num, rfl, hW2.below hb3, bfs_skip HB.out hx HQ.out (fun u' v' e1 e2 hf => by
                        obtain rfl : u' = u := by have := HNX.out; omega
                        obtain rfl : v' = v := by have := HNY.out; omega
                        simp [Reg.free, HAT.out] at hf), HM.out, HQ.out⟩
                    | false =>
                      have hf : R.free u v = true := by
                        simp only [Reg.free, hat, Bool.and_eq_true, decide_eq_true_eq, Bool.not_false, and_true]
                        omega
                      have HF := Lib.hid hf
                      have HAT := Lib.hid hat
                      clear hat hf
                      go_upto_region 16 with (first
                        | (go_at_call 65; refine (l1In_any _ _ _ _).mono ?_; rintro e w' ⟨rfl, rfl⟩)
                        | (go_at_call 135; refine (atS_any R hR A c B _ _ (by omega) (by omega) _ hrr hBw).mono ?_; rintro e w3 ⟨rfl, hb3⟩; rw [HAT.out]))
                      have hW3 := hW2.below hb3
                      have hW4 := hW3.mark (R.pi u v)
                      have hsc : w3.cell? ⟨w.heap.size + 1, v * (R.W + 2) + u, none⟩ = some (.bool false) := hW3.scell HLen.out HBB.out
                      have hsf : w3.frozen? ⟨w.heap.size + 1, v * (R.W + 2) + u, none⟩ = false := hW3.seen.frozenAt _
                      clear r0 r1 r2
                      go_upto_region 17 with fail
                      go_wp2_with (at_builtin; refine wpList_app rfl _ _ _ rfl (w.heap.size + 1) 3 _ 8 Try.underlying25 info_int rfl (by omega) _ _ _ rfl (hW4.que.alloc _) w3.heap.size (.int .i64 ((v : Int) * ((R.W : Int) + 2) + (u : Int))) rfl ?c1 rfl (by omega) ?c2 ?_)
                      case c1 =>
                        have := World.cell?_alloc_at (w := w3.setCell ⟨w.heap.size + 1, v * (R.W + 2) + u, none⟩ (.bool true)) #[.int .i64 ((v : Int) * ((R.W : Int) + 2) + (u : Int))] 3 w3.heap.size 0 (by simp [World.setCell])
                        simpa using this
                      case c2 => have h1 := hW4.hlt; simp [World.setCell] at h1 ⊢; omega
                      rintro g' c' w5 hown hgr _ _ _
                      have hW5 := hW4.app hown hgr
                      clear hown hgr hW4 hW3 hW2
                      go_wp2_with fail
                      go_roundg (5 - (t + 1))
                      case measure => have := HT.out; omega
                      case rel =>
                        have hpi : (v : Int) * ((R.W : Int) + 2) + (u : Int) = ((R.pi u v : Nat) : Int) := HPI.out.symm
                        rw [hpi] at hW5
                        have hkl : k < Q.length := (List.getElem?_eq_some_iff.1 HQ.out).1
                        refine ⟨t + 1, g', c', M.set (R.pi u v) true, Q ++ [((R.pi u v : Nat) : Int)], by omega, by omega, by go_num, by simp, hW5, bfs_add HB.out ⟨ht1, htl⟩ hx HQ.out HNX.out HNY.out HF.out HBB.out (cnt_set HBB.out), ?_, by rw [List.getElem?_append_left hkl]; exact HQ.out⟩
                        exact (marked_set (by rw [HLen.out]; exact hpp)).2 (.inr HM.out)
                · have I2 := inB_f hyi
                  have hno : ∀ u' v' : Nat, (u' : Int) = x + dxOf t → (v' : Int) = y + dyOf t → R.free u' v' = true → marked M (R.pi u' v') := fun u' v' e1 e2 hf => by
                    have := free_in hf; have := HNY.out; omega
                  have HNO := Lib.hid hno
                  clear hyi hno
                  go_wp2_with (first
                    | (go_at_call 65; refine (l1In_any _ _ _ _).mono ?_; rintro e w' ⟨rfl, rfl⟩))
                  go_roundg (5 - (t + 1))
                  case measure => have := HT.out; omega
                  case rel => exact ⟨t + 1, h, cc, M, Q, by omega, by omega, by go_num, rfl, hW2, bfs_skip HB.out hx HQ.out HNO.out, HM.out, HQ.out⟩
              · have I1 := inB_f hxi
                have hno : ∀ u' v' : Nat, (u' : Int) = x + dxOf t → (v' : Int) = y + dyOf t → R.free u' v' = true → marked M (R.pi u' v') := fun u' v' e1 e2 hf => by
                  have := free_in hf; have := HNX.out; omega
                have HNO := Lib.hid hno
                clear hxi hno
                go_wp2_with (first
                  | (go_at_call 65; refine (l1In_any _ _ _ _).mono ?_; rintro e w' ⟨rfl, rfl⟩))
                go_roundg (5 - (t + 1))
                case measure => have := HT.out; omega
                case rel => exact ⟨t + 1, h, cc, M, Q, by omega, by omega, by go_num, rfl, hW2, bfs_skip HB.out hx HQ.out HNO.out, HM.out, HQ.out⟩
        · go_wp2_with fail
          go_roundg (R.pn - (k + 1))
          case measure => have := HK.out; omega
          case rel =>
            obtain rfl : t = 5 := by omega
            exact ⟨k + 1, h, cc, M, Q, by omega, by go_num, rfl, hW, bfs_next HB.out, HM.out⟩
    · have hS := bfs_end HB.out HM.out (by omega)
      have hcount := spread_count hR hS
      have hql2 := HB.out.qlen
      obtain ⟨r0, r1, r2⟩ := hW.rcells
      have hB2 : B ≤ wr.heap.size := by have := hW.bel.size; omega
      have hl36 := (len_bd hR).2
      have hle2 : cnt R.C ≤ 24 := hR.2.2.2.2.2
      have hrr := hr.below (hW.bel.mono hB)
      have HC := Lib.hid hcount
      have HQ2 := Lib.hid hql2
      have hbel := hW.bel
      clear hS hcount hql2 hW
      go_wp2_with (go_at_call 119; refine (countS_any A R.C.length c B R.C _ hrr (by omega)).mono ?_; rintro e w' ⟨rfl, rfl⟩)
      go_ret
      refine ⟨ret_bool ?_, hbel⟩
      unfold outB
      have h1 := HC.out
      have h2 := HQ2.out
      rw [Bool.eq_iff_iff]
      simp only [beq_iff_eq, decide_eq_true_eq]
      rw [← h1]
      omega

theorem SimpleS_any (W T : Int) (A : Option Addr) (n c B : Nat) (bs : List Bool) (w : World) (hr : Reads w B 1 A n (bs.map Value.bool)) (hB : B ≤ w.heap.size) (hn : n ≤ 9223372036854775807) :
    Calls Try.prog 64 #[.agg #[.int .i64 W, .int .i64 T, .slice A n c]] w fun e w' => e = .returned (.bool (simpleB W T bs)) ∧ Below w.heap.size w w' := by
  cases hv : validB W T bs with
  | false =>
    have HV := Lib.hid hv
    have HS := Lib.hid (simpleB_no hv)
    clear hv
    go_enter Try.func64, Try.ntmps64
    go_wp2_with fail
    refine (partsManyS_no _ _ A _ c B bs _ (hr.alloc hB _) (by simp; omega) hn HV.out).mono ?_
    rintro e w0 ⟨rfl, hb0⟩
    simp only [World.size_alloc] at hb0
    go_wp2_with fail
    go_ret
    exact ⟨ret_bool (by rw [HS.out]), ((Below.refl _ _).alloc (Nat.le_refl _) _).trans (hb0.mono (by omega))⟩
  | true =>
    obtain ⟨R, hR, rfl, rfl, rfl⟩ := reg_of_valid hv
    have hl : R.C.length = n := by have := hr.1; simpa using this
    subst hl
    clear hv
    go_enter Try.func64, Try.ntmps64
    go_wp2_with fail
    refine (partsManyS_ok R hR A c B _ (hr.alloc hB _) (by simp; omega)).mono ?_
    rintro e w0 ⟨m, rfl, hm, hb0⟩
    have HM := Lib.hid hm
    clear hm
    simp only [World.size_alloc] at hb0
    obtain ⟨hc0, hf0⟩ := bcell hb0
    have hz0 := hb0.size
    simp only [World.size_alloc] at hz0
    by_cases hI : InConn R
    · have h1 : ((m : Int) == 1) = true := by have := HM.out.2 hI; subst this; rfl
      have hres : outB R = simpleB R.W R.T R.C := by
        rw [Bool.eq_iff_iff, simple_of hR]
        unfold outB SimpleP
        simp [hI]
      have HR := Lib.hid hres
      clear hres
      go_wp2_with fail
      refine (outside_any R hR A c B _ ((hr.alloc hB _).below (hb0.mono (by omega))) (by omega)).mono ?_
      rintro e w1 ⟨rfl, hb1⟩
      go_wp2_with fail
      go_ret
      exact ⟨ret_bool (by rw [HR.out]), (((Below.refl _ _).alloc (Nat.le_refl _) _).trans (hb0.mono (by omega))).trans (hb1.mono (by omega))⟩
    · have h1 : ((m : Int) == 1) = false := by have : ¬ m = 1 := fun h => hI (HM.out.1 h); simp; omega
      have hres : simpleB R.W R.T R.C = false := by
        rw [Bool.eq_false_iff]; intro h; exact hI ((simple_of hR).1 h).1
      have HR := Lib.hid hres
      clear hres
      go_wp2_with fail
      go_ret
      exact ⟨ret_bool (by rw [HR.out]), ((Below.refl _ _).alloc (Nat.le_refl _) _).trans (hb0.mono (by omega))⟩

end Go.Proofs.Ytldnccdlpagodaa
