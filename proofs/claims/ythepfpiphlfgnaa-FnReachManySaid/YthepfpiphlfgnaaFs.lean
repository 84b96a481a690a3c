/-
  YthepfpiphlfgnaaFs: flips of the reference: l5Square, FlipMay, FlipOne.
-/
import Derived.Test.YthepfpiphlfgnaaQ4
import Derived.Test.YthepfpiphlfgnaaHS
import Derived.Test.YthepfpiphlfgnaaRb
namespace Go.Proofs.Ythepfpiphlfgnaa
open Go.RowKit

def innB (R : Reg) (k : Nat) : Bool :=
  R.at (((k % (R.W + 1) : Nat) : Int) - 1) (((k / (R.W + 1) : Nat) : Int) - 1) && R.at ((k % (R.W + 1) : Nat) : Int) (((k / (R.W + 1) : Nat) : Int) - 1) && R.at (((k % (R.W + 1) : Nat) : Int) - 1) ((k / (R.W + 1) : Nat) : Int) && R.at ((k % (R.W + 1) : Nat) : Int) ((k / (R.W + 1) : Nat) : Int)

def sq5 (a b c d : Int) (e : Bool) : Value := .tuple #[.int .i64 a, .int .i64 b, .int .i64 c, .int .i64 d, .bool e]

set_option maxHeartbeats 1000000 in
set_option maxRecDepth 20000 in
theorem squareS_any (R : Reg) (hR : R.ok) (A : Option Addr) (c B : Nat) (k : Nat) (hk : k < R.cn) (w : World) (hr : Reads w B 1 A R.C.length (R.C.map Value.bool)) (hB : B ≤ w.heap.size) :
    Calls Try.prog 167 #[.agg #[.int .i64 R.W, .int .i64 R.T, .slice A R.C.length c], .int .i64 (k : Nat)] w fun e w' =>
      (∃ a b c d : Int, e = .returned (sq5 a b c d (innB R k)) ∧ (innB R k = true → a = (swc R k : Nat) ∧ b = (swc R k : Nat) + 1 ∧ c = (swc R k : Nat) + R.W ∧ d = (swc R k : Nat) + R.W + 1)) ∧ Below w.heap.size w w' := by
  have hW6 := hR.2.1
  have hT6 := hR.2.2.2.1
  obtain ⟨x, hx⟩ : ∃ x, x = k % (R.W + 1) := ⟨_, rfl⟩
  obtain ⟨y, hy⟩ : ∃ y, y = k / (R.W + 1) := ⟨_, rfl⟩
  have hxy := ci_in hk
  rw [← hx, ← hy] at hxy
  obtain ⟨hx6, hy6⟩ := hxy
  have hmod : Int.tmod (k : Int) ((R.W : Int) + 1) = (x : Int) := by
    rw [hx, show (R.W : Int) + 1 = ((R.W + 1 : Nat) : Int) by omega]; rfl
  have hdiv : Int.tdiv (k : Int) ((R.W : Int) + 1) = (y : Int) := by
    rw [hy, show (R.W : Int) + 1 = ((R.W + 1 : Nat) : Int) by omega]; rfl
  have hIN : innB R k = (R.at ((x : Int) - 1) ((y : Int) - 1) && R.at x ((y : Int) - 1) && R.at ((x : Int) - 1) y && R.at x y) := by rw [hx, hy]; rfl
  have HIN := Lib.hid hIN
  have hsw : innB R k = true → ((y : Int) - 1) * R.W + x - 1 = (swc R k : Nat) := by
    intro h
    rw [hIN] at h
    simp only [Bool.and_eq_true] at h
    obtain ⟨a, b, e1, e2, ha, hb, _⟩ := at_cell hR h.1.1.1
    obtain rfl : x = a + 1 := by omega
    obtain rfl : y = b + 1 := by omega
    unfold swc
    rw [← hx, ← hy, Nat.add_sub_cancel, Nat.add_sub_cancel, show ((b + 1 : Nat) : Int) - 1 = (b : Int) by omega]
    simp; omega
  have HSW := Lib.hid hsw
  have hpb : -7 ≤ ((y : Int) - 1) * (R.W : Int) ∧ ((y : Int) - 1) * (R.W : Int) ≤ 49 := by
    by_cases h0 : y = 0
    · subst h0; simp; omega
    · obtain ⟨z, hz⟩ : ∃ z : Nat, (y : Int) - 1 = z := ⟨y - 1, by omega⟩
      rw [hz]
      have := prod_bd (a := z) (b := R.W) (by omega) (by omega)
      omega
  obtain ⟨p0, p1⟩ := hpb
  have U := Lib.hid (IntWalk.i64_in ((R.W : Int) + 1) (by omega))
  have hAT := fun (u v : Int) (hu : -1 ≤ u ∧ u ≤ 7) (hv : -1 ≤ v ∧ v ≤ 7) w' (h : Below w.heap.size w w') => hide (atS_any R hR A c B u v (by omega) (by omega) w' (hr.below (h.mono hB)) (Nat.le_trans hB h.size))
  have H1 := fun w' (h : Below w.heap.size w w') => hAT ((x : Int) - 1) ((y : Int) - 1) (by omega) (by omega) w' h
  have H2 := fun w' (h : Below w.heap.size w w') => hAT (x : Int) ((y : Int) - 1) (by omega) (by omega) w' h
  have H3 := fun w' (h : Below w.heap.size w w') => hAT ((x : Int) - 1) (y : Int) (by omega) (by omega) w' h
  have H4 := fun w' (h : Below w.heap.size w w') => hAT (x : Int) (y : Int) (by omega) (by omega) w' h
  have v1 : IntKind.i64.wrap ((x : Int) - 1) = (x : Int) - 1 := IntWalk.i64_in _ (by omega)
  have v2 : IntKind.i64.wrap ((y : Int) - 1) = (y : Int) - 1 := IntWalk.i64_in _ (by omega)
  have hb0 : Below w.heap.size w (w.alloc (boxR R.W R.T A R.C.length c)) := (Below.refl _ _).alloc (Nat.le_refl _) _
  obtain ⟨_, hk0, b0, b1, b2⟩ := box_keep (w := w) (W := R.W) (T := R.T) (A := A) (n := R.C.length) (c := c) (Below.refl _ _)
  clear hsw hIN hAT hx hy
  generalize innB R k = ib at *
  generalize R.at ((x : Int) - 1) ((y : Int) - 1) = t1 at *
  generalize R.at x ((y : Int) - 1) = t2 at *
  generalize R.at ((x : Int) - 1) y = t3 at *
  generalize R.at x y = t4 at *
  generalize swc R k = s at *
  have u := U.out
  go_enter Try.func167, Try.ntmps167
  go_upto_region 1 with fail
  generalize w.alloc (boxR R.W R.T A R.C.length c) = w1 at *
  go_wp2_with fail
  refine (unhide (H1 _ hb0)).mono ?_
  rintro e w2 ⟨rfl, hb2⟩
  have hB2 := hb0.trans (hb2.mono hb0.size)
  clear b0 b1 b2
  obtain ⟨hk2, b0, b1, b2⟩ := blk_keep hk0 hb2
  clear hk0 hb2 H1
  cases t1 with
  | false =>
    have hib : ib = false := by rw [HIN.out]; rfl
    clear H2 H3 H4
    go_wp2_with fail
    refine bodyPost_ret (v := _) (results_tmp5 rfl _ _ _) rfl ⟨⟨0, 0, 0, 0, by rw [hib]; rfl, fun h => by rw [hib] at h; cases h⟩, hB2⟩
  | true =>
    go_wp2_with fail
    refine (unhide (H2 _ hB2)).mono ?_
    rintro e w3 ⟨rfl, hb3⟩
    have hB3 := hB2.trans (hb3.mono hB2.size)
    clear b0 b1 b2
    obtain ⟨hk3, b0, b1, b2⟩ := blk_keep hk2 hb3
    clear hk2 hb3 H2
    cases t2 with
    | false =>
      have hib : ib = false := by rw [HIN.out]; simp
      clear H3 H4
      go_wp2_with fail
      refine bodyPost_ret (v := _) (results_tmp5 rfl _ _ _) rfl ⟨⟨0, 0, 0, 0, by rw [hib]; rfl, fun h => by rw [hib] at h; cases h⟩, hB3⟩
    | true =>
      go_wp2_with fail
      refine (unhide (H3 _ hB3)).mono ?_
      rintro e w4 ⟨rfl, hb4⟩
      have hB4 := hB3.trans (hb4.mono hB3.size)
      clear b0 b1 b2
      obtain ⟨hk4, b0, b1, b2⟩ := blk_keep hk3 hb4
      clear hk3 hb4 H3
      cases t3 with
      | false =>
        have hib : ib = false := by rw [HIN.out]; simp
        clear H4
        go_wp2_with fail
        refine bodyPost_ret (v := _) (results_tmp5 rfl _ _ _) rfl ⟨⟨0, 0, 0, 0, by rw [hib]; rfl, fun h => by rw [hib] at h; cases h⟩, hB4⟩
      | true =>
        go_wp2_with fail
        refine (unhide (H4 _ hB4)).mono ?_
        rintro e w5 ⟨rfl, hb5⟩
        have hB5 := hB4.trans (hb5.mono hB4.size)
        clear b0 b1 b2
        obtain ⟨hk5, b0, b1, b2⟩ := blk_keep hk4 hb5
        clear hk4 hb5 H4
        cases t4 with
        | false =>
          have hib : ib = false := by rw [HIN.out]; simp
          go_wp2_with fail
          refine bodyPost_ret (v := _) (results_tmp5 rfl _ _ _) rfl ⟨⟨0, 0, 0, 0, by rw [hib]; rfl, fun h => by rw [hib] at h; cases h⟩, hB5⟩
        | true =>
          have hib : ib = true := HIN.out
          have hs := HSW.out hib
          have q1 : IntKind.i64.wrap (((y : Int) - 1) * (R.W : Int)) = ((y : Int) - 1) * (R.W : Int) := IntWalk.i64_in _ (by omega)
          have q2 : IntKind.i64.wrap (((y : Int) - 1) * (R.W : Int) + x) = ((y : Int) - 1) * (R.W : Int) + x := IntWalk.i64_in _ (by omega)
          have q3 : IntKind.i64.wrap (((y : Int) - 1) * (R.W : Int) + x - 1) = (s : Int) := by rw [hs]; exact IntWalk.i64_in _ (by omega)
          have q4 : IntKind.i64.wrap ((s : Int) + 1) = (s : Int) + 1 := IntWalk.i64_in _ (by omega)
          have q5 : IntKind.i64.wrap ((s : Int) + R.W) = (s : Int) + R.W := IntWalk.i64_in _ (by omega)
          have q6 : IntKind.i64.wrap ((s : Int) + R.W + 1) = (s : Int) + R.W + 1 := IntWalk.i64_in _ (by omega)
          clear hs p0 p1
          go_wp2_with fail
          clear q1 q2 q3
          go_quiet (fail)
          go_wp2_with fail
          refine bodyPost_ret (v := _) (results_tmp5 rfl _ _ _) rfl ⟨⟨s, (s : Int) + 1, (s : Int) + R.W, (s : Int) + R.W + 1, by rw [hib]; rfl, fun _ => ⟨rfl, rfl, rfl, rfl⟩⟩, below_drewN hB5 _⟩

/-! ### FlipMay -/
theorem innB_inner {R : Reg} {k : Nat} : innB R k = true ↔ R.inner ((k % (R.W + 1) : Nat) : Int) ((k / (R.W + 1) : Nat) : Int) := by
  unfold innB Reg.inner
  simp only [Bool.and_eq_true]
  constructor
  · rintro ⟨⟨⟨a, b⟩, c⟩, d⟩; exact ⟨d, c, b, a⟩
  · rintro ⟨d, c, b, a⟩; exact ⟨⟨⟨a, b⟩, c⟩, d⟩
theorem innB_ins {R : Reg} (hR : R.ok) {k : Nat} (h : innB R k = true) : insB R k = true := by
  obtain ⟨a, b, h1, h2, ha, hb, _⟩ := inner_nat hR (innB_inner.1 h)
  unfold insB
  exact decide_eq_true (by omega)
theorem fl_innB {R : Reg} {L : List Int} (hL : Lay R L) {k : Nat} (h : flB R L k = true) : innB R k = true := by
  obtain ⟨a, b, ha, hb, hk, hc⟩ := fl_cases h
  obtain rfl : k = R.ci (a + 1) (b + 1) := Int.ofNat.inj hk
  rw [innB_inner, ci_mod _ (by omega), ci_div _ (by omega)]
  rcases hc with ⟨h, _⟩ | ⟨h, _⟩
  · exact fl_inner hL (.inl h)
  · exact fl_inner hL (.inr h)
theorem flB_range {R : Reg} {L : List Int} {k : Int} (h : ¬ (0 ≤ k ∧ k ≤ (R.cn : Int) - 1)) : flB R L k = false := by
  cases hf : flB R L k with
  | false => rfl
  | true =>
    obtain ⟨a, b, ha, hb, rfl, _⟩ := fl_cases hf
    have := ci_lt (R := R) (x := a + 1) (y := b + 1) (by omega) (by omega)
    omega

set_option maxHeartbeats 1000000 in
set_option maxRecDepth 20000 in
theorem flipMayS_ok (R : Reg) (hR : R.ok) (A : Option Addr) (c B : Nat) (L : List Int) (D : Option Addr) (d : Nat) (k : Int) (hL : Lay R L) (w : World)
    (hr : Reads w B 1 A R.C.length (R.C.map Value.bool)) (hd : Reads w B 1 D R.C.length (L.map (Value.int .i64))) (hB : B ≤ w.heap.size) :
    Calls Try.prog 109 #[.agg #[.int .i64 R.W, .int .i64 R.T, .slice A R.C.length c], .slice D R.C.length d, .int .i64 k] w fun e w' => e = .returned (.bool (flB R L k)) ∧ Below w.heap.size w w' := by
  have hcn := cn_bd hR
  have hl36 := (len_bd hR).2
  have hlo : laidB R.W R.T R.C L = true := by rw [laidB_ok hR]; exact (laysB_iff hR).2 hL
  have hb0 : Below w.heap.size w (w.alloc (boxR R.W R.T A R.C.length c)) := (Below.refl _ _).alloc (Nat.le_refl _) _
  have hLO := hide (laidOkS_any R.W R.T A R.C.length c B R.C L D R.C.length d (w.alloc (boxR R.W R.T A R.C.length c)) rfl hL.len (hr.alloc hB _) (hd.alloc hB _) (by simp; omega) (by omega) (by omega))
  rw [hlo] at hLO
  have hCM := fun w' (h : Below w.heap.size w w') => hide (cornerManySN_ok R hR A c B w' (hr.below (h.mono hB)) (Nat.le_trans hB h.size))
  have u1 : IntKind.i64.wrap ((R.cn : Int) - 1) = (R.cn : Int) - 1 := IntWalk.i64_in _ (by omega)
  by_cases hin : 0 ≤ k ∧ k ≤ (R.cn : Int) - 1
  · obtain ⟨m, rfl⟩ := Int.eq_ofNat_of_zero_le hin.1
    have I := Lib.hid (inB_t hin)
    have hm : m < R.cn := by omega
    have hSQ := fun w' (h : Below w.heap.size w w') => hide (squareS_any R hR A c B m hm w' (hr.below (h.mono hB)) (Nat.le_trans hB h.size))
    have hFI : innB R m = false → flB R L (m : Int) = false := fun h => by
      cases hf : flB R L (m : Int) with
      | false => rfl
      | true => rw [fl_innB hL hf] at h; cases h
    have HFI := Lib.hid hFI
    have hFT : innB R m = true → swc R m + R.W + 1 < R.C.length ∧ flB R L (m : Int) = ((L.getD (swc R m) 0 == 1 && L.getD (swc R m + R.W) 0 == 1) || (L.getD (swc R m) 0 == 2 && L.getD (swc R m + 1) 0 == 2)) := fun h => by
      have hi := innB_ins hR h
      refine ⟨ins_cells hR hi, ?_⟩
      have hz : insZ R (m : Int) = true := by unfold insZ; rw [Int.toNat_natCast, hi, decide_eq_true (by omega)]; rfl
      unfold flB fl1 fl2
      rw [hz, Int.toNat_natCast]; rfl
    have HFT := Lib.hid hFT
    clear hin hFI hFT hlo hL
    generalize flB R L (m : Int) = fb at *
    cases hib : innB R m with
    | false =>
      have hfb := HFI.out hib
      simp only [hib] at hSQ
      clear HFT HFI hib
      subst hfb
      go_enter Try.func109, Try.ntmps109
      go_wp2_with fail
      refine (unhide hLO).mono ?_
      rintro e w1 ⟨rfl, hb1⟩
      obtain ⟨hB1, hk1, b0, b1, b2⟩ := box_keep hb1
      go_wp2_with fail
      refine (unhide (hCM _ hB1)).mono ?_
      rintro e w2 ⟨rfl, hb2⟩
      have hB2 := hB1.trans (hb2.mono hB1.size)
      clear b0 b1 b2
      obtain ⟨hk2, b0, b1, b2⟩ := blk_keep hk1 hb2
      go_wp2_with (go_at_call 91; refine (l1In_any _ _ _ _).mono ?_; rintro e w' ⟨rfl, rfl⟩; rw [I.out])
      refine (unhide (hSQ _ hB2)).mono ?_
      rintro e w3 ⟨⟨a, b, c3, d3, rfl, _⟩, hb3⟩
      unfold sq5
      go_wp2_with fail
      go_ret
      exact ⟨rfl, hB2.trans (hb3.mono hB2.size)⟩
    | true =>
      obtain ⟨hcl, hfb⟩ := HFT.out hib
      simp only [hib] at hSQ
      have HS := hSQ
      clear HFT HFI hib hSQ
      generalize swc R m = s at *
      obtain ⟨c1, hc1⟩ : ∃ c1 : Nat, s + 1 = c1 := ⟨_, rfl⟩
      obtain ⟨c2, hc2⟩ : ∃ c2 : Nat, s + R.W = c2 := ⟨_, rfl⟩
      obtain ⟨c3, hc3⟩ : ∃ c3 : Nat, c2 + 1 = c3 := ⟨_, rfl⟩
      simp only [show (s : Int) + 1 = (c1 : Nat) by omega, show (s : Int) + (R.W : Int) = (c2 : Nat) by omega, show (c2 : Int) + 1 = (c3 : Nat) by omega, forall_const] at HS
      rw [hc1, hc2] at hfb
      have l0 : s < R.C.length := by omega
      have l1 : c1 < R.C.length := by omega
      have l2 : c2 < R.C.length := by omega
      obtain ⟨ad, rfl, _, r0⟩ := hd.getI l0
      obtain ⟨ad1, e1, _, r1⟩ := hd.getI l1
      obtain ⟨ad2, e2, _, r2⟩ := hd.getI l2
      obtain rfl : ad = ad1 := by injection e1
      obtain rfl : ad = ad2 := by injection e2
      clear e1 e2 hc1 hc2 hc3
      generalize L.getD s 0 = v0 at *
      generalize L.getD c1 0 = v1 at *
      generalize L.getD c2 0 = v2 at *
      have HFB := Lib.hid hfb
      clear hfb
      go_enter Try.func109, Try.ntmps109
      go_wp2_with fail
      refine (unhide hLO).mono ?_
      rintro e w1 ⟨rfl, hb1⟩
      obtain ⟨hB1, hk1, b0, b1, b2⟩ := box_keep hb1
      go_wp2_with fail
      refine (unhide (hCM _ hB1)).mono ?_
      rintro e w2 ⟨rfl, hb2⟩
      have hB2 := hB1.trans (hb2.mono hB1.size)
      clear b0 b1 b2
      obtain ⟨hk2, b0, b1, b2⟩ := blk_keep hk1 hb2
      go_wp2_with (go_at_call 91; refine (l1In_any _ _ _ _).mono ?_; rintro e w' ⟨rfl, rfl⟩; rw [I.out])
      refine (unhide (HS _ hB2)).mono ?_
      rintro e w3 ⟨⟨a, b, c3', d3, rfl, rfl, rfl, rfl, rfl⟩, hb3⟩
      have hB3 := hB2.trans (hb3.mono hB2.size)
      have d0 := (hB3.cell (p := ad.add s) (World.block_lt_of_cell? w _ r0)).trans r0
      have d1 := (hB3.cell (p := ad.add c1) (World.block_lt_of_cell? w _ r1)).trans r1
      have d2 := (hB3.cell (p := ad.add c2) (World.block_lt_of_cell? w _ r2)).trans r2
      unfold sq5
      cases h1 : v0 == 1 with
      | true =>
        have h2 : (v0 == 2) = false := by simp at h1 ⊢; omega
        cases h3 : v2 == 1 with
        | true =>
          go_wp2_with fail
          go_ret
          exact ⟨by rw [HFB.out, h1, h3]; rfl, hB3⟩
        | false =>
          go_wp2_with fail
          go_ret
          exact ⟨by rw [HFB.out, h1, h2, h3]; rfl, hB3⟩
      | false =>
        cases h2 : v0 == 2 with
        | true =>
          go_wp2_with fail
          go_ret
          exact ⟨by rw [HFB.out, h1, h2]; rfl, hB3⟩
        | false =>
          go_wp2_with fail
          go_ret
          exact ⟨by rw [HFB.out, h1, h2]; rfl, hB3⟩
  · have I := Lib.hid (inB_f hin)
    rw [flB_range hin]
    clear hin hlo
    go_enter Try.func109, Try.ntmps109
    go_wp2_with fail
    refine (unhide hLO).mono ?_
    rintro e w1 ⟨rfl, hb1⟩
    obtain ⟨hB1, hk1, b0, b1, b2⟩ := box_keep hb1
    go_wp2_with fail
    refine (unhide (hCM _ hB1)).mono ?_
    rintro e w2 ⟨rfl, hb2⟩
    have hB2 := hB1.trans (hb2.mono hB1.size)
    go_wp2_with (go_at_call 91; refine (l1In_any _ _ _ _).mono ?_; rintro e w' ⟨rfl, rfl⟩; rw [I.out])
    go_ret
    exact ⟨rfl, hB2⟩

/-- append of a whole slice to a row of the call's own. -/
theorem wpList_appN {w : World} {ops : Array Oper} {rest : List Oper} {o : Oper} {a : Act} {Q : Exit → Act → World → Prop} (hgd : o.guard = none) (s x : Operand) (t : TypeId)
    (ho : o.op = .call { callee := .builtin .append, args := #[s, x], argTypes := #[t, t] })
    (base : Nat) (e : TypeId) (z : Value) (bytes : Nat) (ht : Try.prog.underlying t = some (.slice e)) (hinfo : (Try.prog.info? e).map (fun i => (i.zero, i.size, i.bytes)) = some (some z, 1, bytes)) (hzs : z.cells.size = 1) (hb64 : bytes ≤ 64)
    (v : Value) (n : Nat) (xs : List Value) (hs : a.eval s = v) (hown : w.ownsRow base e 1 v n xs) (B : Nat) (A : Option Addr) (m c : Nat) (news : List Value) (hx : a.eval x = .slice A m c) (hr : Reads w B 1 A m news) (h1 : ∀ u ∈ news, u.oneCell' = true) (hn : n + m ≤ 4294967296) (hbase : base ≤ w.heap.size)
    (hK : ∀ v' w', w'.ownsRow base e 1 v' (n + m) (xs ++ news) → w.grownBy w' v.ownBlock → (v'.ownBlock = v.ownBlock ∨ v'.ownBlock = some w.heap.size) →
      wpList Try.prog ops Q rest (a.put o.dst v') w') : wpList Try.prog ops Q (o :: rest) a w := by
  refine wpList_plain hgd fun _ hK' => ?_
  obtain ⟨i0, hi, hz, hsz, hby⟩ := info_parts hinfo
  have hm : (n + m) * bytes ≤ 4294967296 * 64 := Nat.mul_le_mul hn hb64
  obtain ⟨v', w', hrun, h2, h3, h4⟩ := run_append_any (P := Try.prog) w base t o.type e i0 z 1 bytes ht hi hz hsz hby hzs (by omega) v n xs hown B A m c news hr h1 (by simp only [maxLen]; omega) (by omega) hbase
  unfold Oper.wp execOp
  simp only [ho, resolve, invoke, builtin, Sem.run_bind, Sem.run_pure, Result.andThen_ok, List.map_toArray, List.map_cons, List.map_nil, hs, hx, hrun]
  exact hK' _ _ (hK v' w' h2 h3 h4)
theorem ints_one {L : List Int} : ∀ u ∈ L.map (Value.int .i64), u.oneCell' = true := by
  intro u hu
  obtain ⟨z, _, rfl⟩ := List.mem_map.1 hu
  rfl

theorem pg_copy {w w1 w3 : World} {R : Reg} {A : Option Addr} {c n : Nat} {L : List Int} {v' : Value} (hB1 : Below w.heap.size w w1) (hk1 : Blk w1 w.heap.size 25 #[.int .i64 R.W, .int .i64 R.T, .slice A R.C.length c])
    (ho : w3.ownsRow (w.heap.size + 1) 3 1 v' (0 + n) ([] ++ L.map (Value.int .i64))) (hg : (w1.alloc (.cells #[] 3)).grownBy w3 (Value.slice (some ⟨w1.heap.size, 0, none⟩) 0 0).ownBlock) (hn : L.length = n) (h1 : 1 ≤ n) :
    ∃ g c', v' = .slice (some ⟨g, 0, none⟩) n c' ∧ PG w w3 R A c g c' L := by
  subst hn
  rw [Nat.zero_add, List.nil_append] at ho
  obtain ⟨g, c', rfl, _, hg1, hg2⟩ := own_shape ho h1
  have hlt := hk1.lt
  exact ⟨g, c', rfl, (hB1.alloc hB1.size _).grown hg (by simp; omega) (fun j hj => by simp [Value.ownBlock] at hj; omega), (hk1.alloc _).grown hg (by simp [Value.ownBlock]; omega), ho⟩

set_option maxHeartbeats 1000000 in
set_option maxRecDepth 20000 in
theorem flipOneS_ok (R : Reg) (hR : R.ok) (A : Option Addr) (c B : Nat) (L : List Int) (D : Option Addr) (d : Nat) (k : Int) (hL : Lay R L) (w : World)
    (hr : Reads w B 1 A R.C.length (R.C.map Value.bool)) (hd : Reads w B 1 D R.C.length (L.map (Value.int .i64))) (hB : B ≤ w.heap.size) :
    Calls Try.prog 163 #[.agg #[.int .i64 R.W, .int .i64 R.T, .slice A R.C.length c], .slice D R.C.length d, .int .i64 k] w (RetIB w (flV R L k) (flB R L k)) := by
  have hl36 := (len_bd hR).2
  have hl1 := (len_bd hR).1
  have hlo : laidB R.W R.T R.C L = true := by rw [laidB_ok hR]; exact (laysB_iff hR).2 hL
  have hb0 : Below w.heap.size w (w.alloc (boxR R.W R.T A R.C.length c)) := (Below.refl _ _).alloc (Nat.le_refl _) _
  have hLO := hide (laidOkS_any R.W R.T A R.C.length c B R.C L D R.C.length d (w.alloc (boxR R.W R.T A R.C.length c)) rfl hL.len (hr.alloc hB _) (hd.alloc hB _) (by simp; omega) (by omega) (by omega))
  rw [hlo] at hLO
  have hFM := fun w' (h : Below w.heap.size w w') => hide (flipMayS_ok R hR A c B L D d k hL w' (hr.below (h.mono hB)) (hd.below (h.mono hB)) (Nat.le_trans hB h.size))
  have hLn := hL.len
  have hONE := ints_one (L := L)
  cases hfl : flB R L k with
  | false =>
    rw [flV_no hfl]
    simp only [hfl] at hFM
    clear hfl hlo hL
    go_enter Try.func163, Try.ntmps163
    go_wp2_with fail
    refine (unhide hLO).mono ?_
    rintro e w1 ⟨rfl, hb1⟩
    obtain ⟨hB1, hk1, b0, b1, b2⟩ := box_keep hb1
    clear hb1
    have ho1 : (w1.alloc (.cells #[] 3)).ownsRow (w.heap.size + 1) 3 1 (.slice (some ⟨w1.heap.size, 0, none⟩) 0 0) 0 [] := by simpa using World.ownsRow_made (base := w.heap.size + 1) (e := 3) (size := 1) w1 #[] 0 hk1.lt (by simp [maxLen]) (by simp)
    have hk2 := hk1.alloc (.cells #[] 3)
    have hB2 := hB1.alloc hB1.size (.cells #[] 3)
    have hd2 := hd.below (hB2.mono hB)
    clear b0 b1 b2
    go_wp2_with (at_builtin; refine wpList_appN rfl _ _ _ rfl (w.heap.size + 1) 3 _ 8 Try.underlying26 info_int rfl (by omega) (.slice (some ⟨w1.heap.size, 0, none⟩) 0 0) 0 [] rfl ho1 B D R.C.length d (L.map (Value.int .i64)) rfl hd2 hONE (by omega) (by have := hk2.lt; omega) ?_; rintro v' w3 ho3 hg3 _; obtain ⟨g, c', rfl, hP3⟩ := pg_copy hB1 hk1 ho3 hg3 hLn hl1; obtain ⟨b0, b1, b2⟩ := hP3.rcells; clear ho3 hg3)
    refine (unhide (hFM _ hP3.bel)).mono ?_
    rintro e w4 ⟨rfl, hb4⟩
    have hP4 := hP3.below hb4
    go_wp2_with fail
    go_ret2
    exact ⟨some ⟨g, 0, none⟩, c', c', by rw [hLn]; rfl, own_mono hP4.own (by omega), hP4.bel⟩
  | true =>
    obtain ⟨a, b, ha, hb, rfl, hc⟩ := fl_cases hfl
    have hci := ci_lt (R := R) (x := a + 1) (y := b + 1) (by omega) (by omega)
    have hSQ := fun w' (h : Below w.heap.size w w') => hide (squareS_any R hR A c B (R.ci (a + 1) (b + 1)) hci w' (hr.below (h.mono hB)) (Nat.le_trans hB h.size))
    have hib := fl_innB hL hfl
    simp only [hib] at hSQ
    have hsw := (ab_ins ha hb).2
    simp only [hsw] at hSQ
    simp only [hfl] at hFM
    have hcl := ins_cells hR (innB_ins hR hib)
    rw [hsw] at hcl
    have hv0 := (ways4 (L := L) ha hb).1
    have hcase : (L.getD (b * R.W + a) 0 = 1 ∧ flV R L (R.ci (a + 1) (b + 1) : Nat) = set4 R L (b * R.W + a) 2 2 4 4) ∨ (L.getD (b * R.W + a) 0 = 2 ∧ flV R L (R.ci (a + 1) (b + 1) : Nat) = set4 R L (b * R.W + a) 1 3 1 3) := by
      rcases hc with ⟨h, e⟩ | ⟨h, e⟩
      · exact .inl ⟨by rw [hv0]; exact h.1, e⟩
      · exact .inr ⟨by rw [hv0]; exact h.1, e⟩
    have hW2 : 2 ≤ R.W := by omega
    unfold set4 at hcase
    have HS := hSQ
    clear hSQ hfl hib hsw hv0 hc hci
    generalize R.ci (a + 1) (b + 1) = k at *
    generalize b * R.W + a = s at *
    clear ha hb
    obtain ⟨c1, hc1⟩ : ∃ c1 : Nat, s + 1 = c1 := ⟨_, rfl⟩
    obtain ⟨c2, hc2⟩ : ∃ c2 : Nat, s + R.W = c2 := ⟨_, rfl⟩
    obtain ⟨c3, hc3⟩ : ∃ c3 : Nat, c2 + 1 = c3 := ⟨_, rfl⟩
    simp only [show (s : Int) + 1 = (c1 : Nat) by omega, show (s : Int) + (R.W : Int) = (c2 : Nat) by omega, show (c2 : Int) + 1 = (c3 : Nat) by omega, forall_const] at HS
    rw [hc1, hc2, hc3] at hcase
    have l0 : s < L.length := by omega
    have l1 : c1 < L.length := by omega
    have l2 : c2 < L.length := by omega
    have l3 : c3 < L.length := by omega
    obtain ⟨ad, rfl, _, r0⟩ := hd.getI (k := s) (by omega)
    generalize flV R L (k : Int) = V at *
    have n1 : c1 ≠ s := by omega
    have n2 : c2 ≠ s := by omega
    have n3 : c3 ≠ s := by omega
    have n4 : c2 ≠ c1 := by omega
    have n5 : c3 ≠ c1 := by omega
    have n6 : c3 ≠ c2 := by omega
    generalize L.getD s 0 = v0 at *
    have HCASE := Lib.hid hcase
    clear hcase hc1 hc2 hc3 hlo
    go_enter Try.func163, Try.ntmps163
    go_wp2_with fail
    refine (unhide hLO).mono ?_
    rintro e w1 ⟨rfl, hb1⟩
    obtain ⟨hB1, hk1, b0, b1, b2⟩ := box_keep hb1
    clear hb1
    have ho1 : (w1.alloc (.cells #[] 3)).ownsRow (w.heap.size + 1) 3 1 (.slice (some ⟨w1.heap.size, 0, none⟩) 0 0) 0 [] := by simpa using World.ownsRow_made (base := w.heap.size + 1) (e := 3) (size := 1) w1 #[] 0 hk1.lt (by simp [maxLen]) (by simp)
    have hk2 := hk1.alloc (.cells #[] 3)
    have hB2 := hB1.alloc hB1.size (.cells #[] 3)
    have hd2 := hd.below (hB2.mono hB)
    clear b0 b1 b2
    go_wp2_with (at_builtin; refine wpList_appN rfl _ _ _ rfl (w.heap.size + 1) 3 _ 8 Try.underlying26 info_int rfl (by omega) (.slice (some ⟨w1.heap.size, 0, none⟩) 0 0) 0 [] rfl ho1 B (some ad) R.C.length d (L.map (Value.int .i64)) rfl hd2 hONE (by omega) (by have := hk2.lt; omega) ?_; rintro v' w3 ho3 hg3 _; obtain ⟨g, c', rfl, hP3⟩ := pg_copy hB1 hk1 ho3 hg3 hLn hl1; obtain ⟨b0, b1, b2⟩ := hP3.rcells; clear ho3 hg3)
    refine (unhide (hFM _ hP3.bel)).mono ?_
    rintro e w4 ⟨rfl, hb4⟩
    have hP4 := hP3.below hb4
    clear hP3 hb4 b0 b1 b2
    obtain ⟨b0, b1, b2⟩ := hP4.rcells
    go_wp2_with fail
    refine (unhide (HS _ hP4.bel)).mono ?_
    rintro e w5 ⟨⟨a', b', c3', d3, rfl, rfl, rfl, rfl, rfl⟩, hb5⟩
    have hP5 := hP4.below hb5
    have d0 := (hP5.bel.cell (p := ad.add s) (World.block_lt_of_cell? w _ r0)).trans r0
    clear hP4 hb5 b0 b1 b2 HS hFM hLO hd2 ho1 hk2 hB2 hk1 hB1
    unfold sq5
    rcases HCASE.out with ⟨hv, hV⟩ | ⟨hv, hV⟩
    · have e1 : (v0 == 1) = true := by rw [hv]; rfl
      have q0 := hP5.ocell l0
      have f0 := hP5.free s
      have hP6 := hP5.set s 2
      have q1 := hP6.ocell (j := c1) (by simp; exact l1)
      have f1 := hP6.free c1
      have hP7 := hP6.set c1 2
      have q2 := hP7.ocell (j := c2) (by simp; exact l2)
      have f2 := hP7.free c2
      have hP8 := hP7.set c2 4
      have q3 := hP8.ocell (j := c3) (by simp; exact l3)
      have f3 := hP8.free c3
      have hP9 := hP8.set c3 4
      have HV := Lib.hid hV
      clear hv hV
      go_wp2_with fail
      go_ret2
      have hVl : V.length = R.C.length := by rw [HV.out]; simp [hLn]
      refine ⟨some ⟨g, 0, none⟩, c', c', by rw [hVl]; rfl, ?_, hP9.bel⟩
      have := own_mono hP9.own (base' := w.heap.size) (by omega)
      rw [← HV.out] at this
      exact this
    · have e1 : (v0 == 1) = false := by rw [hv]; rfl
      have q0 := hP5.ocell l0
      have f0 := hP5.free s
      have hP6 := hP5.set s 1
      have q1 := hP6.ocell (j := c2) (by simp; exact l2)
      have f1 := hP6.free c2
      have hP7 := hP6.set c2 1
      have q2 := hP7.ocell (j := c1) (by simp; exact l1)
      have f2 := hP7.free c1
      have hP8 := hP7.set c1 3
      have q3 := hP8.ocell (j := c3) (by simp; exact l3)
      have f3 := hP8.free c3
      have hP9 := hP8.set c3 3
      have hV2 : V = (((L.set s 1).set c2 1).set c1 3).set c3 3 := by rw [hV, List.set_comm _ _ n4.symm]
      have HV := Lib.hid hV2
      clear hv hV hV2
      go_wp2_with fail
      go_ret2
      have hVl : V.length = R.C.length := by rw [HV.out]; simp [hLn]
      refine ⟨some ⟨g, 0, none⟩, c', c', by rw [hVl]; rfl, ?_, hP9.bel⟩
      have := own_mono hP9.own (base' := w.heap.size) (by omega)
      rw [← HV.out] at this
      exact this

end Go.Proofs.Ythepfpiphlfgnaa
