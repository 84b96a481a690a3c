/-
  YthepfpiphlfgnaaSd: sides of cells: their form in memory, and what the program's small functions on them return.
-/
import Derived.Test.YthepfpiphlfgnaaWa
import Derived.Test.YthepfpiphlfgnaaMa
import Derived.Deep.RegionHeld3
namespace Go.Proofs.Ythepfpiphlfgnaa
open Go.RowKit

structure Sd where
  f : Int
  t : Int
  lx : Int
  ly : Int
  rx : Int
  ry : Int
def Sd.cs (s : Sd) : List Value := [.int .i64 s.f, .int .i64 s.t, .int .i64 s.lx, .int .i64 s.ly, .int .i64 s.rx, .int .i64 s.ry]
def Sd.val (s : Sd) : Value := .agg #[.int .i64 s.f, .int .i64 s.t, .int .i64 s.lx, .int .i64 s.ly, .int .i64 s.rx, .int .i64 s.ry]
def sds (l : List Sd) : List Value := l.flatMap Sd.cs
theorem sds_len : ∀ l : List Sd, (sds l).length = l.length * 6
  | [] => rfl
  | s :: l => by
    have := sds_len l
    simp only [sds, List.flatMap_cons, List.length_append, List.length_cons] at this ⊢
    rw [this]; simp [Sd.cs]; omega
theorem sds_at : ∀ {l : List Sd} {k : Nat} {s : Sd}, l[k]? = some s → ∀ i u, s.cs[i]? = some u → (sds l)[k * 6 + i]? = some u
  | [], k, s, h, _, _, _ => by simp at h
  | x :: l, 0, s, h, i, u, hu => by
    simp at h; subst h
    have hi : i < x.cs.length := (List.getElem?_eq_some_iff.1 hu).1
    simp only [sds, List.flatMap_cons]
    rw [Nat.zero_mul, Nat.zero_add, List.getElem?_append_left hi]; exact hu
  | x :: l, k + 1, s, h, i, u, hu => by
    simp at h
    have := sds_at h i u hu
    simp only [sds, List.flatMap_cons] at this ⊢
    rw [List.getElem?_append_right (by simp [Sd.cs]; omega)]
    rw [← this]; congr 1; simp [Sd.cs]; omega
theorem sds_snoc (l : List Sd) (s : Sd) : sds (l ++ [s]) = sds l ++ s.cs := by simp [sds]
/-- Bounds in which all numbers of a side lie. -/
def Sd.bd (s : Sd) : Prop := -1 ≤ s.lx ∧ s.lx ≤ 7 ∧ -1 ≤ s.ly ∧ s.ly ≤ 7 ∧ -1 ≤ s.rx ∧ s.rx ≤ 7 ∧ -1 ≤ s.ry ∧ s.ry ≤ 7

theorem cell_kept {w w' : World} {p : Addr} {v : Value} (h : w.cell? p = some v) (hb : Below w.heap.size w w') : w'.cell? p = some v := (hb.cell (World.block_lt_of_cell? w p h)).trans h

theorem Reads.sd {w : World} {B n k : Nat} {A : Option Addr} {l : List Sd} {s : Sd} (h : Reads w B 6 A n (sds l)) (hn : l.length = n) (hk : l[k]? = some s) :
    ∃ ad, A = some ad ∧ ad.block < B ∧ w.cell? (ad.add (k * 6)) = some (.int .i64 s.f) ∧ w.cell? (ad.add (k * 6 + 1)) = some (.int .i64 s.t) ∧ w.cell? (ad.add (k * 6 + 2)) = some (.int .i64 s.lx) ∧
      w.cell? (ad.add (k * 6 + 3)) = some (.int .i64 s.ly) ∧ w.cell? (ad.add (k * 6 + 4)) = some (.int .i64 s.rx) ∧ w.cell? (ad.add (k * 6 + 5)) = some (.int .i64 s.ry) := by
  have hkl : k < l.length := (List.getElem?_eq_some_iff.1 hk).1
  obtain ⟨ad, e, hb, hc⟩ := h.2 (by omega)
  exact ⟨ad, e, hb, hc _ _ (sds_at hk 0 _ rfl), hc _ _ (sds_at hk 1 _ rfl), hc _ _ (sds_at hk 2 _ rfl), hc _ _ (sds_at hk 3 _ rfl), hc _ _ (sds_at hk 4 _ rfl), hc _ _ (sds_at hk 5 _ rfl)⟩

theorem dark_any (f t lx ly rx ry : Int) (hx : -1 ≤ lx ∧ lx ≤ 7) (hy : -1 ≤ ly ∧ ly ≤ 7) (w : World) :
    Calls Try.prog 184 #[.agg #[.int .i64 f, .int .i64 t, .int .i64 lx, .int .i64 ly, .int .i64 rx, .int .i64 ry]] w fun e w' => e = .returned (.bool (decide (sg lx ly = 1))) ∧ Below w.heap.size w w' := by
  obtain ⟨hx1, hx2⟩ := hx
  obtain ⟨hy1, hy2⟩ := hy
  have hs : decide (sg lx ly = 1) = (Int.tmod (lx + ly) 2 == 0) := by
    rw [Bool.eq_iff_iff]
    simp only [beq_iff_eq, sg]
    have : Int.tmod (lx + ly) 2 = 0 ↔ (lx + ly) % 2 = 0 := by
      rw [← Int.dvd_iff_tmod_eq_zero, ← Int.dvd_iff_emod_eq_zero]
    rw [this]
    split <;> simp_all
  have HS := Lib.hid hs
  clear hs
  go_enter Try.func184, Try.ntmps184
  go_wp2_with fail
  go_ret
  exact ⟨ret_bool (by rw [HS.out]), (Below.refl _ _).alloc (Nat.le_refl _) _⟩

theorem rise_any (f t lx ly rx ry : Int) (hx : -1 ≤ lx ∧ lx ≤ 7) (hy : -1 ≤ ly ∧ ly ≤ 7) (w : World) :
    Calls Try.prog 146 #[.agg #[.int .i64 f, .int .i64 t, .int .i64 lx, .int .i64 ly, .int .i64 rx, .int .i64 ry]] w fun e w' => e = .returned (.int .i64 (sg lx ly)) ∧ Below w.heap.size w w' := by
  have HD := fun w' => hide (dark_any f t lx ly rx ry hx hy w')
  have hor := sg_or lx ly
  rcases hor with h | h
  · rw [h] at HD ⊢
    clear h
    go_enter Try.func146, Try.ntmps146
    go_wp2_with (go_at_call 184; refine (unhide (HD _)).mono ?_; rintro e w1 ⟨rfl, hb⟩)
    go_ret
    exact ⟨rfl, ((Below.refl _ _).alloc (Nat.le_refl _) _).trans (hb.mono (by simp))⟩
  · rw [h] at HD ⊢
    clear h
    go_enter Try.func146, Try.ntmps146
    go_wp2_with (go_at_call 184; refine (unhide (HD _)).mono ?_; rintro e w1 ⟨rfl, hb⟩)
    go_ret
    exact ⟨rfl, ((Below.refl _ _).alloc (Nat.le_refl _) _).trans (hb.mono (by simp))⟩


theorem inner_any (R : Reg) (hR : R.ok) (A : Option Addr) (c B : Nat) (f t lx ly rx ry : Int) (h1 : -1 ≤ lx ∧ lx ≤ 7) (h2 : -1 ≤ ly ∧ ly ≤ 7) (h3 : -1 ≤ rx ∧ rx ≤ 7) (h4 : -1 ≤ ry ∧ ry ≤ 7) (w : World) (hr : Reads w B 1 A R.C.length (R.C.map Value.bool)) (hB : B ≤ w.heap.size) :
    Calls Try.prog 174 #[.agg #[.int .i64 R.W, .int .i64 R.T, .slice A R.C.length c], .agg #[.int .i64 f, .int .i64 t, .int .i64 lx, .int .i64 ly, .int .i64 rx, .int .i64 ry]] w fun e w' =>
      e = .returned (.bool (R.at lx ly && R.at rx ry)) ∧ Below w.heap.size w w' := by
  have HL := fun w' (hb : Below w.heap.size w w') => hide (at_any R hR A c B lx ly (by omega) (by omega) w' (hr.below (hb.mono hB)) (Nat.le_trans hB hb.size))
  have HR := fun w' (hb : Below w.heap.size w w') => hide (at_any R hR A c B rx ry (by omega) (by omega) w' (hr.below (hb.mono hB)) (Nat.le_trans hB hb.size))
  have hb0 : ∀ o o', Below w.heap.size w ((w.alloc o).alloc o') := fun o o' => ((Below.refl _ _).alloc (Nat.le_refl _) _).alloc (by simp) _
  generalize R.at lx ly = p at *
  generalize R.at rx ry = q at *
  clear hr h1 h2 h3 h4
  cases p with
  | false =>
    go_enter Try.func174, Try.ntmps174
    go_wp2_with (go_at_call 152; refine (unhide (HL _ (hb0 _ _))).mono ?_; rintro e w1 ⟨rfl, hb1⟩)
    go_ret
    exact ⟨rfl, (hb0 _ _).trans (hb1.mono (by simp; omega))⟩
  | true =>
    go_enter Try.func174, Try.ntmps174
    go_upto_region 1 with fail
    go_wp2_with fail
    refine (unhide (HL _ (hb0 _ _))).mono ?_
    rintro e w1 ⟨rfl, hb1⟩
    have hB1 := (hb0 _ _).trans (hb1.mono (by simp; omega))
    obtain ⟨hc1, hf1⟩ := bcell hb1
    clear hb1
    go_wp2_with fail
    refine (unhide (HR _ hB1)).mono ?_
    rintro e w2 ⟨rfl, hb2⟩
    go_wp2_with fail
    go_ret
    exact ⟨by simp, hB1.trans (hb2.mono hB1.size)⟩

/-- Does a domino lie across a side? -/
def crossB (R : Reg) (L : List Int) (lx ly rx ry : Int) : Bool :=
  R.at lx ly && R.at rx ry && (decide (R.way L lx ly ≠ 0) && decide (R.step (ly * R.W + lx).toNat (R.way L lx ly) = ry * R.W + rx))
theorem Reads.getI {w : World} {B n k : Nat} {A : Option Addr} {L : List Int} (h : Reads w B 1 A n (L.map (Value.int .i64))) (hk : k < n) :
    ∃ ad, A = some ad ∧ ad.block < B ∧ w.cell? (ad.add k) = some (.int .i64 (L.getD k 0)) := by
  obtain ⟨ad, u, e, hb, hx, hc⟩ := h.at_ hk
  refine ⟨ad, e, hb, ?_⟩
  rw [hc]
  rw [List.getElem?_map] at hx
  rw [List.getD_eq_getElem?_getD]
  cases hl : L[k]? with
  | none => rw [hl] at hx; cases hx
  | some x => rw [hl] at hx; simp at hx; simp [hx]

theorem crossed_any (R : Reg) (hR : R.ok) (A : Option Addr) (c B : Nat) (L : List Int) (D : Option Addr) (d : Nat) (hL : L.length = R.C.length) (f t lx ly rx ry : Int) (h1 : -1 ≤ lx ∧ lx ≤ 7) (h2 : -1 ≤ ly ∧ ly ≤ 7) (h3 : -1 ≤ rx ∧ rx ≤ 7) (h4 : -1 ≤ ry ∧ ry ≤ 7) (w : World)
    (hr : Reads w B 1 A R.C.length (R.C.map Value.bool)) (hd : Reads w B 1 D L.length (L.map (Value.int .i64))) (hB : B ≤ w.heap.size) :
    Calls Try.prog 147 #[.agg #[.int .i64 R.W, .int .i64 R.T, .slice A R.C.length c], .agg #[.int .i64 f, .int .i64 t, .int .i64 lx, .int .i64 ly, .int .i64 rx, .int .i64 ry], .slice D L.length d] w fun e w' =>
      e = .returned (.bool (crossB R L lx ly rx ry)) ∧ Below w.heap.size w w' := by
  have HI := fun w' (hb : Below w.heap.size w w') => hide (inner_any R hR A c B f t lx ly rx ry h1 h2 h3 h4 w' (hr.below (hb.mono hB)) (Nat.le_trans hB hb.size))
  have hb0 : ∀ o o', Below w.heap.size w ((w.alloc o).alloc o') := fun o o' => ((Below.refl _ _).alloc (Nat.le_refl _) _).alloc (by simp) _
  cases hin : (R.at lx ly && R.at rx ry) with
  | false =>
    have hc : crossB R L lx ly rx ry = false := by unfold crossB; rw [hin]; rfl
    simp only [hin] at HI
    rw [hc]
    clear hc hin hr hd h1 h2 h3 h4
    go_enter Try.func147, Try.ntmps147
    go_wp2_with fail
    refine (unhide (HI _ (hb0 _ _))).mono ?_
    rintro e w1 ⟨rfl, hb1⟩
    go_wp2_with fail
    go_ret
    exact ⟨rfl, (hb0 _ _).trans (hb1.mono (by simp; omega))⟩
  | true =>
    simp only [hin] at HI
    have hin' := hin
    rw [Bool.and_eq_true] at hin'
    obtain ⟨a, b, rfl, rfl, ha, hb, hc1⟩ := at_cell hR hin'.1
    obtain ⟨p, q, rfl, rfl, hp, hq, hc2⟩ := at_cell hR hin'.2
    have hcr : crossB R L a b p q = (decide (L.getD (b * R.W + a) 0 ≠ 0) && decide (R.step (b * R.W + a) (L.getD (b * R.W + a) 0) = ((q * R.W + p : Nat) : Int))) := by
      unfold crossB
      rw [hin, Bool.true_and, way_in ha hb]
      congr 1
    rw [hcr]
    have hj := idx_lt hR ha hb
    have hlen := (len_bd hR).2
    have hW6 := hR.2.1
    have hT6 := hR.2.2.2.1
    obtain ⟨p0, p1⟩ := prod_bd (a := b) (b := R.W) (by omega) (by omega)
    obtain ⟨q0, q1⟩ := prod_bd (a := q) (b := R.W) (by omega) (by omega)
    have e1 : IntKind.i64.wrap ((b : Int) * (R.W : Int)) = (b : Int) * R.W := IntWalk.i64_in _ (by omega)
    have e2 : IntKind.i64.wrap ((b : Int) * (R.W : Int) + (a : Int)) = (b : Int) * R.W + a := IntWalk.i64_in _ (by omega)
    have e3 : IntKind.i64.wrap ((q : Int) * (R.W : Int)) = (q : Int) * R.W := IntWalk.i64_in _ (by omega)
    have e4 : IntKind.i64.wrap ((q : Int) * (R.W : Int) + (p : Int)) = (q : Int) * R.W + p := IntWalk.i64_in _ (by omega)
    have hji : ((b * R.W + a : Nat) : Int) = (b : Int) * R.W + a := by simp
    have hki : ((q * R.W + p : Nat) : Int) = (q : Int) * R.W + p := by simp
    generalize b * R.W + a = j at *
    generalize q * R.W + p = k at *
    have E1 := Lib.hid e1
    have E2 := Lib.hid e2
    have E3 := Lib.hid e3
    have E4 := Lib.hid e4
    have HJ := Lib.hid hji
    have HK := Lib.hid hki
    clear hcr hin hin' hc1 hc2 e1 e2 e3 e4 hji hki h1 h2 h3 h4
    obtain ⟨ad, rfl, hab, hcell⟩ := hd.getI (k := j) (by omega)
    have HS := fun w' => hide (step_any R hR A R.C.length c j hj (L.getD j 0) w')
    generalize L.getD j 0 = v at *
    go_enter Try.func147, Try.ntmps147
    go_wp2_with fail
    refine (unhide (HI _ (hb0 _ _))).mono ?_
    rintro e w1 ⟨rfl, hb1⟩
    have hB1 := (hb0 _ _).trans (hb1.mono (by simp; omega))
    have hk := ((Blk.new w 25 #[.int .i64 R.W, .int .i64 R.T, .slice A R.C.length c]).alloc (.cells #[.int .i64 f, .int .i64 t, .int .i64 a, .int .i64 b, .int .i64 p, .int .i64 q] 120)).below hb1 (by simp; omega)
    have hs : Blk w1 (w.heap.size + 1) 120 #[.int .i64 f, .int .i64 t, .int .i64 a, .int .i64 b, .int .i64 p, .int .i64 q] := by
      have := (Blk.new (w.alloc (.cells #[.int .i64 R.W, .int .i64 R.T, .slice A R.C.length c] 25)) 120 #[.int .i64 f, .int .i64 t, .int .i64 a, .int .i64 b, .int .i64 p, .int .i64 q]).below hb1 (by simp)
      simpa using this
    have hcell1 := (hB1.cell (p := ad.add j) (by rw [block_of_add]; omega)).trans hcell
    have k0 := hk.cell 0
    have k1 := hk.cell 1
    have k2 := hk.cell 2
    have s2 := hs.cell 2
    have s3 := hs.cell 3
    have s4 := hs.cell 4
    have s5 := hs.cell 5
    simp at k0 k1 k2 s2 s3 s4 s5
    clear hk hs hb1 hb0 HI
    go_upto_region 4 with fail
    go_cut [7, 8] (fun s7 s8 wx => s7 = .int .i64 (j : Nat) ∧ s8 = .int .i64 (k : Nat) ∧ ∃ n, wx = w1.drewN n)
    case first =>
      have e1 := E1.out
      have e2 := E2.out
      have e3 := E3.out
      have e4 := E4.out
      go_quiet (fail)
      go_wp2_with fail
      go_meet
      exact ⟨by rw [HJ.out], by rw [HK.out], _, rfl⟩
    case rest =>
      obtain ⟨rfl, rfl, n, rfl⟩ := hcut
      clear E1 E2 E3 E4 s2 s3 s4 s5 hL hcell p0 p1 q0 q1 ha hb hp hq HJ HK hr hd
      by_cases hv : v = 0
      · subst hv
        go_wp2_with fail
        go_quiet (fail)
        go_wp2_with fail
        go_ret
        exact ⟨rfl, by simpa using below_drewN hB1 _⟩
      · have hv1 : (v != 0) = true := by simpa using hv
        have hres : (decide (v ≠ 0) && decide (R.step j v = (k : Int))) = (R.step j v == (k : Int)) := by simp [hv, Bool.beq_eq_decide_eq]
        have HRES := Lib.hid hres
        clear hres hv
        go_wp2_with fail
        go_region_held3 (fun w' => w'.cell? (ad.add j) = some (Value.int IntKind.i64 v) ∧ w'.cell? ⟨w.heap.size, 0, none⟩ = some (.int .i64 R.W) ∧ w'.cell? ⟨w.heap.size, 1, none⟩ = some (.int .i64 R.T) ∧ w'.cell? ⟨w.heap.size, 2, none⟩ = some (.slice A R.C.length c))
          (first | exact ⟨hcell1, k0, k1, k2⟩ | exact ⟨cell_kept (w := w1.drewN (n + 1)) hcell1 hb2, cell_kept (w := w1.drewN (n + 1)) k0 hb2, cell_kept (w := w1.drewN (n + 1)) k1 hb2, cell_kept (w := w1.drewN (n + 1)) k2 hb2⟩)
          (first
            | (go_at_call 175; refine (unhide (HS _)).mono ?_; rintro e w2 ⟨rfl, hb2⟩))
        go_wp2_with fail
        go_ret
        have hb3 : Below w1.heap.size w1 (w1.drewN (n + 1)) := below_drewN (Below.refl _ _) _
        exact ⟨ret_bool HRES.out.symm, hB1.trans (Below.mono (hb3.trans (hb2.mono (Nat.le_refl _))) hB1.size)⟩

/-! ### append of one element that lies in a block of its own -/
theorem run_app_blk {w : World} (base : Nat) (t e : TypeId) (z : Value) (size bytes : Nat) (ht : Try.prog.underlying t = some (.slice e)) (hinfo : (Try.prog.info? e).map (fun i => (i.zero, i.size, i.bytes)) = some (some z, size, bytes)) (hzs : z.cells.size = size) (hsz : 0 < size) (hb64 : bytes ≤ 64)
    (ty : TypeId) (v : Value) (n : Nat) (xs : List Value) (hown : w.ownsRow base e size v n xs) (h : Nat) (e' : TypeId) (cs : Array Value) (hc : Blk w h e' cs) (hcs : cs.size = size) (h1 : ∀ u ∈ cs.toList, u.oneCell' = true) (hn : n ≤ 4294967296) (hbase : base ≤ w.heap.size) :
    ∃ g c w', (Builtin.append_ #[t, t] ty #[v, .slice (some ⟨h, 0, none⟩) 1 1]).run Try.prog w = .ok (.slice (some ⟨g, 0, none⟩) (n + 1) c) w' ∧ w'.ownsRow base e size (.slice (some ⟨g, 0, none⟩) (n + 1) c) (n + 1) (xs ++ cs.toList) ∧ w.grownBy w' v.ownBlock ∧ (some g = v.ownBlock ∨ g = w.heap.size) ∧ base ≤ g ∧ n + 1 ≤ c := by
  obtain ⟨i0, hi, hz, hs, hby⟩ := info_parts hinfo
  have hr : Reads w w.heap.size size (some ⟨h, 0, none⟩) 1 cs.toList := ⟨by simp [hcs], fun _ => ⟨_, rfl, hc.lt, fun j x hj => by
    have := hc.cell j
    rw [show (⟨h, 0, none⟩ : Addr).add j = ⟨h, j, none⟩ by unfold Addr.add; split <;> simp_all, this]
    simpa using hj⟩⟩
  have hm : (n + 1) * bytes ≤ (4294967296 + 1) * 64 := Nat.mul_le_mul (by omega) hb64
  obtain ⟨v', w', h1, h2, h3, h4⟩ := run_append_any (P := Try.prog) w base t ty e i0 z size bytes ht hi hz hs hby hzs hsz v n xs hown w.heap.size (some ⟨h, 0, none⟩) 1 1 cs.toList hr h1 (by simp only [maxLen]; omega) (by omega) hbase
  obtain ⟨g, c, rfl, hc', hb', _⟩ := own_shape h2 (by omega)
  refine ⟨g, c, w', h1, h2, h3, ?_, hb', hc'⟩
  rcases h4 with h4 | h4
  · exact .inl h4
  · exact .inr (by simpa [Value.ownBlock] using h4)

theorem wpList_app_blk {w : World} {ops : Array Oper} {rest : List Oper} {o : Oper} {a : Act} {Q : Exit → Act → World → Prop} (hgd : o.guard = none) (s x : Operand) (t : TypeId)
    (ho : o.op = .call { callee := .builtin .append, args := #[s, x], argTypes := #[t, t] })
    (base : Nat) (e : TypeId) (z : Value) (size bytes : Nat) (ht : Try.prog.underlying t = some (.slice e)) (hinfo : (Try.prog.info? e).map (fun i => (i.zero, i.size, i.bytes)) = some (some z, size, bytes)) (hzs : z.cells.size = size) (hsz : 0 < size) (hb64 : bytes ≤ 64)
    (v : Value) (n : Nat) (xs : List Value) (hs : a.eval s = v) (hown : w.ownsRow base e size v n xs) (h : Nat) (e' : TypeId) (cs : Array Value) (hx : a.eval x = .slice (some ⟨h, 0, none⟩) 1 1) (hc : Blk w h e' cs) (hcs : cs.size = size) (h1 : ∀ u ∈ cs.toList, u.oneCell' = true) (hn : n ≤ 4294967296) (hbase : base ≤ w.heap.size)
    (hK : ∀ g c w', w'.ownsRow base e size (.slice (some ⟨g, 0, none⟩) (n + 1) c) (n + 1) (xs ++ cs.toList) → w.grownBy w' v.ownBlock → (some g = v.ownBlock ∨ g = w.heap.size) → base ≤ g → n + 1 ≤ c →
      wpList Try.prog ops Q rest (a.put o.dst (.slice (some ⟨g, 0, none⟩) (n + 1) c)) w') : wpList Try.prog ops Q (o :: rest) a w := by
  refine wpList_plain hgd fun _ hK' => ?_
  obtain ⟨g, c, w', hrun, h2, h3, h4, h5, h6⟩ := run_app_blk base t e z size bytes ht hinfo hzs hsz hb64 o.type v n xs hown h e' cs hc hcs h1 hn hbase
  unfold Oper.wp execOp
  simp only [ho, resolve, invoke, builtin, Sem.run_bind, Sem.run_pure, Result.andThen_ok, List.map_toArray, List.map_cons, List.map_nil, hs, hx, hrun]
  exact hK' _ _ (hK g c w' h2 h3 h4 h5 h6)

theorem info_side : (Try.prog.info? 120).map (fun i => (i.zero, i.size, i.bytes)) = some (some (.agg #[.int .i64 0, .int .i64 0, .int .i64 0, .int .i64 0, .int .i64 0, .int .i64 0]), 6, 48) := by kernel_rfl

/-! ### All sides of a region -/
def sideE (R : Reg) (x y : Nat) : List Sd := if R.at x y || R.at x ((y : Int) - 1) then [⟨(R.ci x y : Nat), ((R.ci x y : Nat) : Int) + 1, x, y, x, (y : Int) - 1⟩] else []
def sideN (R : Reg) (x y : Nat) : List Sd := if R.at x y || R.at ((x : Int) - 1) y then [⟨(R.ci x y : Nat), ((R.ci x y : Nat) : Int) + ((R.W : Int) + 1), (x : Int) - 1, y, x, y⟩] else []
def sidesAt (R : Reg) (c : Nat) : List Sd := sideE R (c % (R.W + 1)) (c / (R.W + 1)) ++ sideN R (c % (R.W + 1)) (c / (R.W + 1))
def sidesTo (R : Reg) (k : Nat) : List Sd := (List.range k).flatMap (sidesAt R)
def sidesOf (R : Reg) : List Sd := sidesTo R R.cn
theorem sideE_len (R : Reg) (x y : Nat) : (sideE R x y).length ≤ 1 := by unfold sideE; split <;> simp
theorem sideN_len (R : Reg) (x y : Nat) : (sideN R x y).length ≤ 1 := by unfold sideN; split <;> simp
theorem sidesTo_succ (R : Reg) {x : Nat} (y : Nat) (hx : x ≤ R.W) : sidesTo R (R.ci x y + 1) = sidesTo R (R.ci x y) ++ sideE R x y ++ sideN R x y := by
  unfold sidesTo
  rw [List.range_succ, List.flatMap_append, List.flatMap_singleton, sidesAt, ci_mod y hx, ci_div y hx, List.append_assoc]
theorem sidesTo_len (R : Reg) : ∀ k, (sidesTo R k).length ≤ 2 * k
  | 0 => by simp [sidesTo]
  | k + 1 => by
    have := sidesTo_len R k
    unfold sidesTo at this ⊢
    rw [List.range_succ, List.flatMap_append, List.flatMap_singleton, List.length_append]
    have h1 := sideE_len R (k % (R.W + 1)) (k / (R.W + 1))
    have h2 := sideN_len R (k % (R.W + 1)) (k / (R.W + 1))
    simp only [sidesAt, List.length_append]
    omega

theorem own_block_ge {w : World} {base : Nat} {e : TypeId} {size : Nat} {v : Value} {n : Nat} {xs : List Value} (h : w.ownsRow base e size v n xs) {g : Nat} (hg : v.ownBlock = some g) : base ≤ g := by
  rcases h.2 with ⟨rfl, _⟩ | ⟨g', cap, cur, rfl, hb, _⟩
  · simp [Value.ownBlock] at hg
  · have : g' = g := by simpa [Value.ownBlock] using hg
    omega

/-- A world with a boxed region and one growing row. -/
structure SW (w wr : World) (R : Reg) (A : Option Addr) (c : Nat) (v : Value) (l : List Sd) : Prop where
  own : wr.ownsRow (w.heap.size + 1) 120 6 v l.length (sds l)
  box : Blk wr w.heap.size 25 #[.int .i64 R.W, .int .i64 R.T, .slice A R.C.length c]
  bel : Below w.heap.size w wr
section
variable {w wr w2 : World} {R : Reg} {A : Option Addr} {c : Nat} {v : Value} {l : List Sd}
theorem SW.below (H : SW w wr R A c v l) (hb : Below wr.heap.size wr w2) : SW w w2 R A c v l :=
  ⟨own_below H.own hb (Nat.le_refl _), H.box.below hb H.box.lt, H.bel.trans (hb.mono H.bel.size)⟩
theorem SW.app {o : Obj} {v' : Value} {s : Sd} (H : SW w wr R A c v l) (ho : w2.ownsRow (w.heap.size + 1) 120 6 v' (l.length + 1) (sds l ++ s.cs)) (hg : (wr.alloc o).grownBy w2 v.ownBlock) : SW w w2 R A c v' (l ++ [s]) := by
  refine ⟨?_, (H.box.alloc o).grown hg (fun e => by have := own_block_ge H.own e.symm; omega), (H.bel.alloc H.bel.size o).grown hg (by have := H.bel.size; simp; omega) (fun g e => by have := own_block_ge H.own e; omega)⟩
  rw [List.length_append, List.length_singleton, sds_snoc]
  exact ho
theorem SW.cells (H : SW w wr R A c v l) : wr.cell? ⟨w.heap.size, 0, none⟩ = some (.int .i64 R.W) ∧ wr.cell? ⟨w.heap.size, 1, none⟩ = some (.int .i64 R.T) ∧ wr.cell? ⟨w.heap.size, 2, none⟩ = some (.slice A R.C.length c) := by
  have r0 := H.box.cell 0
  have r1 := H.box.cell 1
  have r2 := H.box.cell 2
  simp at r0 r1 r2
  exact ⟨r0, r1, r2⟩
end

def SidesRet (w : World) (R : Reg) (e : Ending) (w' : World) : Prop :=
  ∃ v, e = .returned v ∧ w'.ownsRow w.heap.size 120 6 v (sidesOf R).length (sds (sidesOf R)) ∧ Below w.heap.size w w'

set_option maxHeartbeats 1000000 in
theorem sides_any (R : Reg) (hR : R.ok) (A : Option Addr) (c B : Nat) (w : World) (hr : Reads w B 1 A R.C.length (R.C.map Value.bool)) (hB : B ≤ w.heap.size) :
    Calls Try.prog 145 #[.agg #[.int .i64 R.W, .int .i64 R.T, .slice A R.C.length c]] w (SidesRet w R) := by
  have hW6 := hR.2.1
  have hT6 := hR.2.2.2.1
  have hcn := cn_bd hR
  go_enter Try.func145, Try.ntmps145
  go_wp2_with fail
  go_loopg [3, 5] (R.T + 1) (fun r s3 s5 wr => ∃ y : Nat, y + r = R.T + 1 ∧ s5 = .int .i64 (y : Nat) ∧ SW w wr R A c s3 (sidesTo R (R.ci 0 y)))
  case atStart =>
    refine ⟨0, by omega, rfl, ?_, Blk.new _ _ _, (Below.refl _ _).alloc (Nat.le_refl _) _⟩
    have : sidesTo R (R.ci 0 0) = [] := by simp [Reg.ci, sidesTo]
    rw [this]
    exact ⟨rfl, .inl ⟨rfl, rfl⟩⟩
  case round =>
    obtain ⟨y, hy, rfl, hW⟩ := hrel
    have HY := Lib.hid hy
    clear hy
    obtain ⟨b0, b1, b2⟩ := hW.cells
    by_cases hlt : y ≤ R.T
    · go_wp2_with fail
      obtain ⟨wo, rfl⟩ : ∃ wo : World, wo = wr := ⟨_, rfl⟩
      obtain ⟨gk0, rfl⟩ : ∃ gk0 : Nat, gk0 = gk := ⟨_, rfl⟩
      go_loopg [3, 6] (R.W + 1) (fun r s3 s6 wr => ∃ x : Nat, x + r = R.W + 1 ∧ s6 = .int .i64 (x : Nat) ∧ SW w wr R A c s3 (sidesTo R (R.ci x y)))
      case atStart => exact ⟨0, by omega, rfl, hW⟩
      case round =>
        clear hW b0 b1 b2
        obtain ⟨x, hx, rfl, hW⟩ := hrel
        have HX := Lib.hid hx
        clear hx
        obtain ⟨b0, b1, b2⟩ := hW.cells
        by_cases hltx : x ≤ R.W
        · obtain ⟨p0, p1⟩ := prod_bd (a := y) (b := R.W + 1) (by omega) (by omega)
          simp only [Int.natCast_add, Int.natCast_one] at p0 p1
          have hci : ((R.ci x y : Nat) : Int) = (y : Int) * ((R.W : Int) + 1) + x := by simp [Reg.ci]
          have HCI := Lib.hid hci
          clear hci
          have HA1 := fun w' (h : Below w.heap.size w w') => hide (at_any R hR A c B x y (by omega) (by omega) w' (hr.below (h.mono hB)) (Nat.le_trans hB h.size))
          have HA2 := fun w' (h : Below w.heap.size w w') => hide (at_any R hR A c B x ((y : Int) - 1) (by omega) (by omega) w' (hr.below (h.mono hB)) (Nat.le_trans hB h.size))
          have HA3 := fun w' (h : Below w.heap.size w w') => hide (at_any R hR A c B ((x : Int) - 1) y (by omega) (by omega) w' (hr.below (h.mono hB)) (Nat.le_trans hB h.size))
          have hlen : (sidesTo R (R.ci x y)).length ≤ 98 := by
            have := sidesTo_len R (R.ci x y)
            have := ci_lt hltx hlt
            omega
          have HLN := Lib.hid hlen
          have hEy : ∀ b, (R.at x y || R.at x ((y : Int) - 1)) = b → Hid (sideE R x y = if b then [⟨(R.ci x y : Nat), ((R.ci x y : Nat) : Int) + 1, x, y, x, (y : Int) - 1⟩] else []) := fun b h => Lib.hid (by unfold sideE; rw [h])
          have hNy : ∀ b, (R.at x y || R.at ((x : Int) - 1) y) = b → Hid (sideN R x y = if b then [⟨(R.ci x y : Nat), ((R.ci x y : Nat) : Int) + ((R.W : Int) + 1), (x : Int) - 1, y, x, y⟩] else []) := fun b h => Lib.hid (by unfold sideN; rw [h])
          generalize R.at x y = p at *
          generalize R.at x ((y : Int) - 1) = q at *
          generalize R.at ((x : Int) - 1) y = q' at *
          clear hlen
          go_upto_region 10 with fail
          go_cut [38] (fun s wx => s = .bool (p || q) ∧ Below wr.heap.size wr wx)
          case first =>
            go_wp2_with fail
            refine (unhide (HA1 _ hW.bel)).mono ?_
            rintro e w1 ⟨rfl, hb1⟩
            cases p with
            | true =>
              go_wp2_with fail
              go_meet
              exact ⟨by simp, hb1⟩
            | false =>
              obtain ⟨d0, d1, d2⟩ := (hW.below hb1).cells
              go_wp2_with fail
              refine (unhide (HA2 _ (hW.below hb1).bel)).mono ?_
              rintro e w2 ⟨rfl, hb2⟩
              go_wp2_with fail
              go_meet
              exact ⟨by simp, hb1.trans (hb2.mono hb1.size)⟩
          case rest =>
            obtain ⟨rfl, hbc⟩ := hcut
            have hW1 := hW.below hbc
            clear hbc b0 b1 b2
            obtain ⟨wb, rfl⟩ : ∃ wb : World, wb = wc := ⟨_, rfl⟩
            have hlen : (sidesTo R (R.ci x y)).length ≤ 99 := by have := HLN.out; omega
            go_upto_if 38 with fail
            go_cut [3] (fun s3 wx => SW w wx R A c s3 (sidesTo R (R.ci x y) ++ sideE R x y))
            case first =>
              cases hpq : (p || q) with
              | true =>
                have HY := hEy _ hpq
                clear hpq
                go_wp2_with (at_builtin; refine wpList_app_blk rfl _ _ _ rfl (w.heap.size + 1) 120 _ 6 48 Try.underlying117 info_side rfl (by omega) (by omega) _ _ _ rfl (hW1.own.alloc _) wb.heap.size 120 #[.int .i64 ((y : Int) * ((R.W : Int) + 1) + x), .int .i64 ((y : Int) * ((R.W : Int) + 1) + x + 1), .int .i64 x, .int .i64 y, .int .i64 x, .int .i64 ((y : Int) - 1)] rfl (Blk.new _ _ _) rfl (by simp [Value.oneCell']) (by omega) (by have := hW1.bel.size; simp; omega) ?_)
                intro g cc w2 ho hg _ _ _
                have hW2 := hW1.app (s := ⟨(R.ci x y : Nat), ((R.ci x y : Nat) : Int) + 1, x, y, x, (y : Int) - 1⟩) (by rw [HCI.out]; simpa [Sd.cs] using ho) hg
                go_wp2_with fail
                go_meet
                rw [HY.out]
                exact hW2
              | false =>
                have HY := hEy _ hpq
                clear hpq
                go_wp2_with fail
                go_meet
                rw [HY.out]
                simpa using hW1
            case rest =>
              have hWn := hcut
              clear hW1 hcut hlen
              obtain ⟨wa, rfl⟩ : ∃ wa : World, wa = wc := ⟨_, rfl⟩
              obtain ⟨b0, b1, b2⟩ := hWn.cells
              go_upto_region 12 with fail
              go_cut [61] (fun s wx => s = .bool (p || q') ∧ Below wa.heap.size wa wx)
              case first =>
                go_wp2_with fail
                refine (unhide (HA1 _ hWn.bel)).mono ?_
                rintro e w1 ⟨rfl, hb1⟩
                cases p with
                | true =>
                  go_wp2_with fail
                  go_meet
                  exact ⟨by simp, hb1⟩
                | false =>
                  obtain ⟨d0, d1, d2⟩ := (hWn.below hb1).cells
                  go_wp2_with fail
                  refine (unhide (HA3 _ (hWn.below hb1).bel)).mono ?_
                  rintro e w2 ⟨rfl, hb2⟩
                  go_wp2_with fail
                  go_meet
                  exact ⟨by simp, hb1.trans (hb2.mono hb1.size)⟩
              case rest =>
                obtain ⟨rfl, hbc⟩ := hcut
                have hW1 := hWn.below hbc
                clear hbc b0 b1 b2
                obtain ⟨wb, rfl⟩ : ∃ wb : World, wb = wc := ⟨_, rfl⟩
                have hlen : (sidesTo R (R.ci x y) ++ sideE R x y).length ≤ 99 := by have := HLN.out; have := sideE_len R x y; rw [List.length_append]; omega
                cases hpq : (p || q') with
                | true =>
                  have HY := hNy _ hpq
                  clear hpq
                  go_wp2_with (at_builtin; refine wpList_app_blk rfl _ _ _ rfl (w.heap.size + 1) 120 _ 6 48 Try.underlying117 info_side rfl (by omega) (by omega) _ _ _ rfl (hW1.own.alloc _) wb.heap.size 120 #[.int .i64 ((y : Int) * ((R.W : Int) + 1) + x), .int .i64 ((y : Int) * ((R.W : Int) + 1) + x + ((R.W : Int) + 1)), .int .i64 ((x : Int) - 1), .int .i64 y, .int .i64 x, .int .i64 y] rfl (Blk.new _ _ _) rfl (by simp [Value.oneCell']) (by omega) (by have := hW1.bel.size; simp; omega) ?_)
                  intro g cc w2 ho hg _ _ _
                  have hW2 := hW1.app (s := ⟨(R.ci x y : Nat), ((R.ci x y : Nat) : Int) + ((R.W : Int) + 1), (x : Int) - 1, y, x, y⟩) (by rw [HCI.out]; simpa [Sd.cs] using ho) hg
                  go_wp2_with fail
                  go_roundg (R.W + 1 - (x + 1))
                  case measure => have := HX.out; omega
                  case rel =>
                    refine ⟨x + 1, by have := HX.out; omega, by go_num, ?_⟩
                    have e : R.ci (x + 1) y = R.ci x y + 1 := by unfold Reg.ci; omega
                    rw [e, sidesTo_succ R y hltx, HY.out]
                    exact hW2
                | false =>
                  have HY := hNy _ hpq
                  clear hpq
                  go_wp2_with fail
                  go_roundg (R.W + 1 - (x + 1))
                  case measure => have := HX.out; omega
                  case rel =>
                    refine ⟨x + 1, by have := HX.out; omega, by go_num, ?_⟩
                    have e : R.ci (x + 1) y = R.ci x y + 1 := by unfold Reg.ci; omega
                    rw [e, sidesTo_succ R y hltx, HY.out]
                    simpa using hW1
        · go_wp2_with fail
          go_roundg (R.T + 1 - (y + 1))
          case measure => have := HY.out; omega
          case rel =>
            obtain rfl : x = R.W + 1 := by have := HX.out; omega
            refine ⟨y + 1, by have := HY.out; omega, by go_num, ?_⟩
            have e : R.ci 0 (y + 1) = R.ci (R.W + 1) y := by unfold Reg.ci; rw [Nat.add_mul]; omega
            rw [e]
            exact hW
    · go_wp2_with fail
      go_ret
      obtain rfl : y = R.T + 1 := by have := HY.out; omega
      have e : sidesTo R (R.ci 0 (R.T + 1)) = sidesOf R := by
        unfold sidesOf Reg.ci Reg.cn
        rw [Nat.add_zero, Nat.mul_comm]
      rw [e] at hW
      exact ⟨_, rfl, own_mono hW.own (by omega), hW.bel⟩

end Go.Proofs.Ythepfpiphlfgnaa
