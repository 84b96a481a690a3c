/-
  YtldnccdlpagodaaPush: lists of pushes (a corner's number, a truth): how they lie in memory, and what the exact laws' own functions do with them.
-/
import Derived.Test.YtldnccdlpagodaaGlue
import Derived.Test.YtldnccdlpagodaaOpen
import Derived.StillTailTactics
namespace Go.Proofs.Ytldnccdlpagodaa
open Go.RowKit

/-- A list of pushes, in cells. -/
def pc (ps : List (Int × Bool)) : List Value := ps.flatMap fun p => [.int .i64 p.1, .bool p.2]
theorem pc_cons (p : Int × Bool) (ps : List (Int × Bool)) : pc (p :: ps) = .int .i64 p.1 :: .bool p.2 :: pc ps := rfl
theorem pc_len (ps : List (Int × Bool)) : (pc ps).length = ps.length * 2 := by
  induction ps with
  | nil => rfl
  | cons p ps ih => rw [pc_cons]; simp [ih]; omega
theorem pc_at {ps : List (Int × Bool)} {k : Nat} {p : Int × Bool} (h : ps[k]? = some p) : (pc ps)[k * 2]? = some (.int .i64 p.1) ∧ (pc ps)[k * 2 + 1]? = some (.bool p.2) := by
  induction ps generalizing k with
  | nil => simp at h
  | cons q ps ih =>
    rw [pc_cons]
    cases k with
    | zero => simp at h; subst h; simp
    | succ k =>
      have := ih (by simpa using h)
      rw [show (k + 1) * 2 = k * 2 + 1 + 1 by omega]
      simpa using this
theorem pc_set (ps : List (Int × Bool)) (k : Nat) (z : Int) (b : Bool) (hk : k < ps.length) : pc (ps.set k (z, b)) = ((pc ps).set (k * 2) (.int .i64 z)).set (k * 2 + 1) (.bool b) := by
  induction ps generalizing k with
  | nil => simp at hk
  | cons q ps ih =>
    cases k with
    | zero => simp [pc_cons]
    | succ k =>
      rw [show (k + 1) * 2 = k * 2 + 1 + 1 by omega]
      simp only [List.set_cons_succ, pc_cons]
      rw [ih k (by simpa using hk)]
theorem pc_set1 (ps : List (Int × Bool)) (k : Nat) (z : Int) (p : Int × Bool) (h : ps[k]? = some p) : pc (ps.set k (z, p.2)) = (pc ps).set (k * 2) (.int .i64 z) := by
  induction ps generalizing k with
  | nil => simp at h
  | cons q ps ih =>
    cases k with
    | zero => simp at h; subst h; simp [pc_cons]
    | succ k =>
      rw [show (k + 1) * 2 = k * 2 + 1 + 1 by omega]
      simp only [List.set_cons_succ, pc_cons]
      rw [ih k (by simpa using h)]
theorem pc_set2 (ps : List (Int × Bool)) (k : Nat) (b : Bool) (p : Int × Bool) (h : ps[k]? = some p) : pc (ps.set k (p.1, b)) = (pc ps).set (k * 2 + 1) (.bool b) := by
  induction ps generalizing k with
  | nil => simp at h
  | cons q ps ih =>
    cases k with
    | zero => simp at h; subst h; simp [pc_cons]
    | succ k =>
      rw [show (k + 1) * 2 = k * 2 + 1 + 1 by omega]
      simp only [List.set_cons_succ, pc_cons]
      rw [ih k (by simpa using h)]

/-- A push that is read: its two cells. -/
theorem Reads.push {w : World} {B n k : Nat} {A : Option Addr} {ps : List (Int × Bool)} (h : Reads w B 2 A n (pc ps)) (hn : ps.length = n) (hk : k < n) :
    ∃ ad p, A = some ad ∧ ad.block < B ∧ ps[k]? = some p ∧ w.cell? (ad.add (k * 2)) = some (.int .i64 p.1) ∧ w.cell? ⟨(ad.add (k * 2)).block, (ad.add (k * 2)).off + 1, none⟩ = some (.bool p.2) := by
  obtain ⟨ad, e, hb, hc⟩ := h.2 (by omega)
  have hp : ps[k]? = some (ps[k]'(by omega)) := List.getElem?_eq_getElem (by omega)
  have h2 := pc_at hp
  refine ⟨ad, _, e, hb, hp, hc _ _ h2.1, ?_⟩
  have := hc _ _ h2.2
  rw [← add_of_add] at this
  exact this

theorem own_push_len {w : World} {base n : Nat} {e : TypeId} {v : Value} {ps : List (Int × Bool)} (h : w.ownsRow base e 2 v n (pc ps)) : ps.length = n := by
  have := h.1
  rw [pc_len] at this
  omega
/-- A push of an owned row: its two cells. -/
theorem own_push {w : World} {base g n c k : Nat} {e : TypeId} {ps : List (Int × Bool)} (h : w.ownsRow base e 2 (.slice (some ⟨g, 0, none⟩) n c) n (pc ps)) (hk : k < n) :
    ∃ p, ps[k]? = some p ∧ w.cell? ⟨g, k * 2, none⟩ = some (.int .i64 p.1) ∧ w.cell? ⟨g, k * 2 + 1, none⟩ = some (.bool p.2) ∧ w.frozen? ⟨g, k * 2, none⟩ = false ∧ w.frozen? ⟨g, k * 2 + 1, none⟩ = false := by
  have hl := own_push_len h
  have hp : ps[k]? = some (ps[k]'(by omega)) := List.getElem?_eq_getElem (by omega)
  have h2 := pc_at hp
  exact ⟨_, hp, (h.cellAt _ (by omega)).trans h2.1, (h.cellAt _ (by omega)).trans h2.2, h.frozenAt _, h.frozenAt _⟩
theorem own_push_set {w : World} {base g n c k : Nat} {e : TypeId} {ps : List (Int × Bool)} (h : w.ownsRow base e 2 (.slice (some ⟨g, 0, none⟩) n c) n (pc ps)) (hk : k < n) (z : Int) (b : Bool) :
    ((w.setCell ⟨g, k * 2, none⟩ (.int .i64 z)).setCell ⟨g, k * 2 + 1, none⟩ (.bool b)).ownsRow base e 2 (.slice (some ⟨g, 0, none⟩) n c) n (pc (ps.set k (z, b))) := by
  have hl := own_push_len h
  have h1 := (h.stored (k * 2) (.int .i64 z)).1
  have h2 := (h1.stored (k * 2 + 1) (.bool b)).1
  rwa [pc_set _ _ _ _ (by omega)]

theorem toPush_any (z : Int) (b : Bool) (w : World) :
    Calls Try.prog 32 #[.agg #[.int .i64 z, .bool b]] w fun e w' => e = .returned (.agg #[.int .i64 z, .bool b]) ∧ Below w.heap.size w w' := by
  go_enter Try.func32, Try.ntmps32
  go_wp2
  refine bodyPost_ret (v := .agg #[.int .i64 z, .bool b]) (by simp [results, Try.results32, go_sem]) rfl ⟨rfl, ?_⟩
  exact (((Below.refl _ _).alloc (Nat.le_refl _) _).alloc (by simp) _).alloc (by simp; omega) _

theorem eqPush_same (z : Int) (b : Bool) (w : World) :
    Calls Try.prog 90 #[.agg #[.int .i64 z, .bool b], .agg #[.int .i64 z, .bool b]] w fun e w' => e = .returned (.bool true) ∧ Below w.heap.size w w' := by
  have h1 : (z != z) = false := by simp
  have h2 : (b != b) = false := by cases b <;> rfl
  go_enter Try.func90, Try.ntmps90
  go_wp2
  go_ret
  exact ⟨rfl, ((Below.refl _ _).alloc (Nat.le_refl _) _).alloc (by simp) _⟩

theorem szPushS_any (A : Option Addr) (n c : Nat) (left : Int) (w : World) (hn : n ≤ 9223372036854775807) (hl : 0 ≤ left ∧ left ≤ 1048576) :
    Calls Try.prog 34 #[.slice A n c, .int .i64 left] w fun e w' => e = .returned (.int .i64 (if left - n < 0 then -1 else left - n)) ∧ w = w' := by
  obtain ⟨h0, h1⟩ := hl
  by_cases h : left - n < 0
  · have hp : (if left - (n : Int) < 0 then (-1 : Int) else left - n) = -1 := if_pos h
    have HP := Lib.hid hp
    clear hp
    go_enter Try.func34, Try.ntmps34
    go_wp2
    go_ret
    exact ⟨ret_int (by first | rfl | exact HP.out.symm), rfl⟩
  · have hp : (if left - (n : Int) < 0 then (-1 : Int) else left - n) = left - n := if_neg h
    have HP := Lib.hid hp
    clear hp
    go_enter Try.func34, Try.ntmps34
    go_wp2
    go_ret
    exact ⟨ret_int (by first | rfl | exact HP.out.symm), rfl⟩

theorem info_push : (Try.prog.info? 45).map (fun i => (i.zero, i.size, i.bytes)) = some (some (.agg #[.int .i64 0, .bool false]), 2, 16) := by kernel_rfl

theorem pc_rep (n : Nat) : (madeCells (Value.agg #[.int .i64 0, .bool false]).cells (n * 2)).toList = pc (List.replicate n (0, false)) := by
  have hl : (pc (List.replicate n ((0 : Int), false))).length = n * 2 := by rw [pc_len]; simp
  apply List.ext_getElem?
  intro i
  by_cases hi : i < n * 2
  · have hp : (List.replicate n ((0 : Int), false))[i / 2]? = some (0, false) := by rw [List.getElem?_replicate, if_pos (by omega)]
    obtain ⟨h1, h2⟩ := pc_at hp
    rcases Nat.mod_two_eq_zero_or_one i with h | h
    · rw [show i / 2 * 2 = i by omega] at h1
      rw [h1]
      simp [madeCells, Value.cells, hi, h]
    · rw [show i / 2 * 2 + 1 = i by omega] at h2
      rw [h2]
      simp [madeCells, Value.cells, hi, h]
  · rw [List.getElem?_eq_none (by simp [size_madeCells]; omega), List.getElem?_eq_none (by omega)]
/-- 'make([]Push, n)', for every world. -/
theorem make_pushes (n : Nat) (hn : n ≤ 4194304) (w : World) :
    ∃ w', (Instr.makeSlice 51 (.int .i64 (n : Int)) (.int .i64 (n : Int))).run Try.prog w = .ok (.slice (some ⟨w.heap.size, 0, none⟩) n n) w' ∧
      w'.ownsRow w.heap.size 45 2 (.slice (some ⟨w.heap.size, 0, none⟩) n n) n (pc (List.replicate n (0, false))) ∧ Below w.heap.size w w' := by
  obtain ⟨i0, hi, hz, hs, hby⟩ := info_parts info_push
  obtain ⟨w', h1, h2, h3⟩ := run_make_full (P := Try.prog) w w.heap.size 51 45 i0 _ 2 Try.underlying51 hi hz hs .i64 .i64 n (by rw [hby]; omega) (by simp only [maxLen]; omega) (Nat.le_refl _)
  refine ⟨w', h1, ?_, (Below.refl _ _).grown h3 (Nat.le_refl _) (by simp)⟩
  rw [pc_rep] at h2
  exact h2

/-- .. at the operation. -/
theorem wpList_make_pushes {w : World} {ops : Array Oper} {rest : List Oper} {o : Oper} {a : Act} {Q : Exit → Act → World → Prop}
    (hg : o.guard = none) (l c : Operand) (hop : o.op = Op.makeSlice 51 l c) (n : Nat) (hn : n ≤ 4194304) {L C : Int} (hl : a.eval l = .int .i64 L) (hc : a.eval c = .int .i64 C) (hL : L = (n : Int)) (hC : C = (n : Int))
    (hK : ∀ w', w'.ownsRow w.heap.size 45 2 (.slice (some ⟨w.heap.size, 0, none⟩) n n) n (pc (List.replicate n (0, false))) → Below w.heap.size w w' →
      wpList Try.prog ops Q rest (a.put o.dst (.slice (some ⟨w.heap.size, 0, none⟩) n n)) w') :
    wpList Try.prog ops Q (o :: rest) a w := by
  refine wpList_plain hg fun K hK' => ?_
  obtain ⟨w', hrun, r1, r2⟩ := make_pushes n hn w
  subst hL
  subst hC
  unfold Oper.wp
  simp [execOp, hop, hl, hc, hrun, Result.andThen]
  exact hK' _ _ (hK w' r1 r2)

/-- A fresh row of pushes. -/
def PushesRet (w : World) (ps : List (Int × Bool)) (e : Ending) (w' : World) : Prop :=
  ∃ g, e = .returned (.slice (some ⟨g, 0, none⟩) ps.length ps.length) ∧ w'.ownsRow w.heap.size 45 2 (.slice (some ⟨g, 0, none⟩) ps.length ps.length) ps.length (pc ps) ∧ Below w.heap.size w w'

theorem toPushS_any (A : Option Addr) (c B : Nat) (ps : List (Int × Bool)) (w : World) (hr : Reads w B 2 A ps.length (pc ps)) (hB : B ≤ w.heap.size) (hn : ps.length ≤ 1048576) :
    Calls Try.prog 36 #[.slice A ps.length c] w (PushesRet w ps) := by
  go_enter Try.func36, Try.ntmps36
  go_wp2_with (at_make; refine wpList_make_pushes rfl _ _ rfl ps.length (by omega) rfl rfl rfl rfl ?_; intro w1 hown hb)
  have hr1 := hr.below (hb.mono hB)
  go_loopg [4] ps.length (fun r i wr => ∃ (k : Nat) (L : List (Int × Bool)), k + r = ps.length ∧ i = .int .i64 (k : Nat) ∧ L.length = ps.length ∧ (∀ j, j < k → L[j]? = ps[j]?) ∧ wr.ownsRow w.heap.size 45 2 (.slice (some ⟨w.heap.size, 0, none⟩) ps.length ps.length) ps.length (pc L) ∧ Below w.heap.size w wr)
  case atStart => exact ⟨0, _, by omega, rfl, by simp, fun j hj => by omega, hown, hb⟩
  case round =>
    clear hown hb hr1
    obtain ⟨k, L, hk, rfl, hl, hL, hown, hb⟩ := hrel
    have HK := Lib.hid hk
    have HL := Lib.hid hL
    have HLen := Lib.hid hl
    clear hL hl hk
    by_cases hlt : k < ps.length
    · obtain ⟨ad, ⟨z, b⟩, rfl, hab, hp, hcell, hcell2⟩ := (hr.below (hb.mono hB)).push rfl hlt
      have HB := Lib.hid hp
      clear hp
      dsimp only at hcell hcell2
      go_wp2_with (go_at_call 32; refine (toPush_any z b _).mono ?_; rintro e w2 ⟨rfl, hb2⟩; have hown2 := own_below hown hb2 (Nat.le_refl _); obtain ⟨p0, _, c0, c1, f0, f1⟩ := own_push hown2 hlt)
      go_roundg (ps.length - (k + 1))
      case measure => have := HK.out; omega
      case rel =>
        have hs := set_next HLen.out HB.out HL.out
        have hle := hb.size
        exact ⟨k + 1, L.set k (z, b), by omega, by go_num, hs.1, hs.2, own_push_set hown2 hlt z b, ((hb.trans (hb2.mono hle)).setCell (by simp) _).setCell (by simp) _⟩
    · go_wp2
      go_ret
      obtain rfl : k = ps.length := by have := HK.out; omega
      have := list_all HLen.out HL.out
      subst this
      exact ⟨_, rfl, hown, hb⟩

set_option maxRecDepth 20000 in
theorem eqPushS_same (A A' : Option Addr) (c c' B B' : Nat) (ps : List (Int × Bool)) (w : World) (hr : Reads w B 2 A ps.length (pc ps)) (hr' : Reads w B' 2 A' ps.length (pc ps)) (hB : B ≤ w.heap.size) (hB' : B' ≤ w.heap.size) (hn : ps.length ≤ 1048576) :
    Calls Try.prog 38 #[.slice A ps.length c, .slice A' ps.length c'] w fun e w' => e = .returned (.bool true) ∧ Below w.heap.size w w' := by
  have hne : ((ps.length : Int) != (ps.length : Int)) = false := by simp
  go_enter Try.func38, Try.ntmps38
  go_wp2
  go_loopg [5] ps.length (fun r i wr => ∃ k : Nat, k + r = ps.length ∧ i = .int .i64 (k : Nat) ∧ Below w.heap.size w wr)
  case atStart => exact ⟨0, by omega, rfl, Below.refl _ _⟩
  case round =>
    obtain ⟨k, hk, rfl, hb⟩ := hrel
    have HK := Lib.hid hk
    clear hk
    by_cases hlt : k < ps.length
    · obtain ⟨ad, ⟨z, b⟩, rfl, hab, hp, hcell, hcell2⟩ := (hr.below (hb.mono hB)).push rfl hlt
      obtain ⟨ad', ⟨z', b'⟩, rfl, hab', hp', hcell', hcell2'⟩ := (hr'.below (hb.mono hB')).push rfl hlt
      rw [hp] at hp'
      obtain ⟨rfl, rfl⟩ : z = z' ∧ b = b' := by simpa using hp'
      clear hp hp'
      dsimp only at hcell hcell2 hcell' hcell2'
      clear hne
      go_upto_region 6 with fail
      refine wp_region_still_tail 8 (by kernel_rfl) (by kernel_rfl) ?_
      simp only [List.take_succ_cons, List.take_zero, List.drop_succ_cons, List.drop_zero]
      change wpStill _ _ wr.drew (fun a' => wpList _ _ _ _ a' wr.drew) _ _
      have hbd : Below w.heap.size w wr.drew := hb.drew
      have g1 : wr.drew.cell? (ad.add (k * 2)) = some (Value.int IntKind.i64 z) := hcell
      have g2 : wr.drew.cell? ⟨(ad.add (k * 2)).block, (ad.add (k * 2)).off + 1, none⟩ = some (Value.bool b) := hcell2
      have g3 : wr.drew.cell? (ad'.add (k * 2)) = some (Value.int IntKind.i64 z) := hcell'
      have g4 : wr.drew.cell? ⟨(ad'.add (k * 2)).block, (ad'.add (k * 2)).off + 1, none⟩ = some (Value.bool b) := hcell2'
      generalize wr.drew = wd at hbd g1 g2 g3 g4 ⊢
      clear hcell hcell2 hcell' hcell2'
      still_step
      still_step
      still_step
      still_step
      still_step
      still_step
      still_step
      still_step
      refine wpStill_nil ?_
      go_wp2_with (go_at_call 90; refine (eqPush_same z b _).mono ?_; rintro e w2 ⟨rfl, hb2⟩)
      go_roundg (ps.length - (k + 1))
      case measure => have := HK.out; omega
      case rel => exact ⟨k + 1, by omega, by go_num, hbd.trans (hb2.mono hbd.size)⟩
    · go_wp2
      go_ret
      exact ⟨rfl, hb⟩

/-! ### Marks -/
/-- The pushes that a list is marked with. -/
def marksP (k : Int) (n : Nat) : List (Int × Bool) := (List.range n).map fun i : Nat => (k + 2 * (i : Int), (k + 2 * (i : Int) + 1) % 3 == 0)
theorem marksP_len (k : Int) (n : Nat) : (marksP k n).length = n := by simp [marksP]
theorem marksP_at (k : Int) (n j : Nat) (h : j < n) : (marksP k n)[j]? = some (k + 2 * (j : Int), (k + 2 * (j : Int) + 1) % 3 == 0) := by simp [marksP, h]
def PMarked (w : World) (base : Nat) (v : Value) (n : Nat) (k : Int) (e : Ending) (w' : World) : Prop :=
  e = .returned (.int .i64 (k + 2 * n)) ∧ w'.ownsRow base 45 2 v n (pc (marksP k n)) ∧ w.grownBy w' v.ownBlock

theorem markPushS_any (v : Value) (n base : Nat) (ps : List (Int × Bool)) (k : Int) (w : World) (hown : w.ownsRow base 45 2 v n (pc ps)) (hn : n ≤ 1048576) (hk : 0 ≤ k ∧ k ≤ 1000000000) :
    Calls Try.prog 39 #[v, .int .i64 k] w (PMarked w base v n k) := by
  obtain ⟨hk0, hk1⟩ := hk
  have hpl := own_push_len hown
  rcases Nat.eq_zero_or_pos n with hz | hpos
  · subst hz
    obtain ⟨A, c, rfl, _, _⟩ := own_form hown
    have hzs : ps = [] := by simpa using hpl
    subst hzs
    go_enter Try.func39, Try.ntmps39
    go_wp2
    go_loopg [1, 5] 0 (fun _ s1 s5 wr => s1 = .int .i64 k ∧ s5 = .int .i64 0 ∧ wr = w)
    case atStart => exact ⟨rfl, rfl, rfl⟩
    case round =>
      obtain ⟨rfl, rfl, rfl⟩ := hrel
      go_wp2
      go_ret
      exact ⟨by simp, by simpa [marksP] using hown, World.grownBy.refl _ _⟩
  · obtain ⟨g, c, rfl, hc, _, _⟩ := own_shape hown hpos
    go_enter Try.func39, Try.ntmps39
    go_wp2
    go_loopg [1, 5] n (fun r s1 s5 wr => ∃ (j : Nat) (L : List (Int × Bool)), j + r = n ∧ s1 = .int .i64 (k + 2 * j) ∧ s5 = .int .i64 (j : Nat) ∧ L.length = (marksP k n).length ∧ (∀ i, i < j → L[i]? = (marksP k n)[i]?) ∧ wr.ownsRow base 45 2 (.slice (some ⟨g, 0, none⟩) n c) n (pc L) ∧ w.grownBy wr (some g))
    case atStart => exact ⟨0, ps, by omega, by simp, rfl, by rw [marksP_len]; exact hpl, fun i hi => by omega, hown, World.grownBy.refl _ _⟩
    case round =>
      clear hown hpl
      obtain ⟨j, L, hj, rfl, rfl, hlen, hL, hown, hg⟩ := hrel
      have HJ := Lib.hid hj
      have HLen := Lib.hid hlen
      have HL := Lib.hid hL
      clear hj hlen hL
      by_cases hlt : j < n
      · obtain ⟨p0, hp0, c0, c1, f0, f1⟩ := own_push hown hlt
        clear hp0
        go_wp2
        go_roundg (n - (j + 1))
        case measure => have := HJ.out; omega
        case rel =>
          have ho := own_push_set hown hlt (k + 2 * (j : Int)) ((k + 2 * (j : Int) + 1) % 3 == 0)
          have hs := set_next HLen.out (marksP_at k n j hlt) HL.out
          have o1 := (hown.stored (j * 2) (.int .i64 (k + 2 * (j : Int))))
          exact ⟨j + 1, L.set j (k + 2 * (j : Int), (k + 2 * (j : Int) + 1) % 3 == 0), by omega, by congr 1; omega, by go_num, hs.1, hs.2, ho, (hg.trans o1.2).trans (o1.1.stored (j * 2 + 1) _).2⟩
      · go_wp2
        go_ret
        obtain rfl : j = n := by have := HJ.out; omega
        have := list_all HLen.out (fun i hi => HL.out i (by rw [marksP_len] at hi; exact hi))
        subst this
        exact ⟨rfl, hown, hg⟩

end Go.Proofs.Ytldnccdlpagodaa
