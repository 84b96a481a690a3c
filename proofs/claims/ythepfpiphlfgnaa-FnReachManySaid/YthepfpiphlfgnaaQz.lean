/-
  YthepfpiphlfgnaaQz: the texts Q8, Q9 in one file.
-/
import Derived.Test.YthepfpiphlfgnaaFm

/-
  YthepfpiphlfgnaaQ8: counting tilings by a transfer over sets of covered cells. Plain Lean.
-/
namespace Go.Proofs.Ythepfpiphlfgnaa

/-! ### A count over sets, each in so many ways -/
def wsum (f : Nat → Nat) : List Nat → List Nat → Nat
  | s :: S, m :: M => m * f s + wsum f S M
  | _, _ => 0
theorem wsum_app (f : Nat → Nat) (o v : Nat) : ∀ (S M : List Nat), S.length = M.length → wsum f (S ++ [o]) (M ++ [v]) = wsum f S M + v * f o
  | [], [], _ => by simp [wsum]
  | s :: S, m :: M, h => by
    have := wsum_app f o v S M (by simpa using h)
    simp only [List.cons_append, wsum, this]
    omega
theorem wsum_set (f : Nat → Nat) (v : Nat) : ∀ (S M : List Nat) (i : Nat), S.length = M.length → i < M.length → wsum f S (M.set i (M.getD i 0 + v)) = wsum f S M + v * f (S.getD i 0)
  | [], M, i, h, hi => by simp at h; omega
  | s :: S, m :: M, 0, h, hi => by simp [wsum, Nat.add_mul]; omega
  | s :: S, m :: M, i + 1, h, hi => by
    have := wsum_set f v S M i (by simpa using h) (by simpa using hi)
    simp only [List.set_cons_succ, List.getD_cons_succ, wsum]
    omega
theorem wsum_take (f : Nat → Nat) : ∀ (S M : List Nat) (i : Nat), S.length = M.length → i < M.length → wsum f (S.take (i + 1)) (M.take (i + 1)) = wsum f (S.take i) (M.take i) + M.getD i 0 * f (S.getD i 0)
  | [], M, i, h, hi => by simp at h; omega
  | s :: S, m :: M, 0, h, hi => by simp [wsum]
  | s :: S, m :: M, i + 1, h, hi => by
    have := wsum_take f S M i (by simpa using h) (by simpa using hi)
    simp only [List.take_succ_cons, List.getD_cons_succ, wsum]
    omega
theorem wsum_le (f g : Nat → Nat) (c : Nat) (h : ∀ s, f s ≤ c * g s) : ∀ (S M : List Nat), wsum f S M ≤ c * wsum g S M
  | [], _ => by simp [wsum]
  | _ :: _, [] => by simp [wsum]
  | s :: S, m :: M => by
    have h1 := wsum_le f g c h S M
    have h2 := Nat.mul_le_mul_left m (h s)
    simp only [wsum, Nat.mul_add]
    have : m * (c * g s) = c * (m * g s) := by rw [← Nat.mul_assoc, Nat.mul_comm m c, Nat.mul_assoc]
    omega
theorem wsum_congr (f g : Nat → Nat) : ∀ (S M : List Nat), (∀ s ∈ S, f s = g s) → wsum f S M = wsum g S M
  | [], _, _ => by simp [wsum]
  | _ :: _, [], _ => by simp [wsum]
  | s :: S, m :: M, h => by
    simp only [wsum]
    rw [h s (by simp), wsum_congr f g S M fun x hx => h x (by simp [hx])]
theorem len_le_wsum : ∀ (S M : List Nat), S.length = M.length → (∀ m ∈ M, 1 ≤ m) → S.length ≤ wsum (fun _ => 1) S M
  | [], [], _, _ => by simp
  | s :: S, m :: M, h, hp => by
    have h1 := len_le_wsum S M (by simpa using h) fun x hx => hp x (by simp [hx])
    have h2 := hp m (by simp)
    simp only [wsum, List.length_cons]
    omega
theorem at_le_wsum : ∀ (S M : List Nat) (i : Nat), S.length = M.length → M.getD i 0 ≤ wsum (fun _ => 1) S M
  | [], [], i, _ => by simp
  | s :: S, m :: M, 0, h => by simp [wsum]
  | s :: S, m :: M, i + 1, h => by
    have := at_le_wsum S M i (by simpa using h)
    simp only [List.getD_cons_succ, wsum]
    omega

/-! ### The options of a cell -/
def covB (R : Reg) (k s : Nat) : Bool := decide (s % 2 = 1) || !R.C.getD k false
def eastB (R : Reg) (k s : Nat) : Bool := decide (0 ≤ R.step k 1) && R.C.getD (R.step k 1).toNat false && decide (s / 2 % 2 = 0)
def northB (R : Reg) (k s : Nat) : Bool := decide (0 ≤ R.step k 2) && R.C.getD (R.step k 2).toNat false && decide (s / 2 ^ R.W % 2 = 0)
def optV (R : Reg) (k s : Nat) : List Nat :=
  if covB R k s = true then [s / 2] else (if eastB R k s = true then [s / 2 + 1] else []) ++ (if northB R k s = true then [s / 2 + 2 ^ (R.W - 1)] else [])
theorem optV_cov {R : Reg} {k s : Nat} (h : covB R k s = true) : optV R k s = [s / 2] := by unfold optV; rw [if_pos h]
theorem optV_no {R : Reg} {k s : Nat} (h : covB R k s = false) : optV R k s = (if eastB R k s = true then [s / 2 + 1] else []) ++ (if northB R k s = true then [s / 2 + 2 ^ (R.W - 1)] else []) := by unfold optV; rw [if_neg (by rw [h]; simp)]
theorem optV_len (R : Reg) (k s : Nat) : (optV R k s).length ≤ 2 := by unfold optV; split <;> (try split) <;> (try split) <;> simp
theorem optV_len1 {R : Reg} {k s : Nat} (h : R.C.getD k false = false) : (optV R k s).length ≤ 1 := by
  rw [optV_cov (by unfold covB; rw [h]; simp)]; simp
theorem pow_half {W : Nat} (hW : 1 ≤ W) : 2 ^ W = 2 ^ (W - 1) + 2 ^ (W - 1) := by
  obtain ⟨n, rfl⟩ : ∃ n, W = n + 1 := ⟨W - 1, by omega⟩
  rw [Nat.pow_succ, Nat.add_sub_cancel]; omega
theorem optV_lt {R : Reg} (hR : R.ok) {k s : Nat} (hk : k < R.C.length) (hs : s < 2 ^ R.W) : ∀ o ∈ optV R k s, o < 2 ^ R.W := by
  intro o ho
  have hh := pow_half hR.1
  have hP := place_of hR hk
  by_cases hc : covB R k s = true
  · rw [optV_cov hc] at ho; simp at ho; omega
  · rw [optV_no (by simpa using hc), List.mem_append] at ho
    rcases ho with ho | ho
    · by_cases he : eastB R k s = true
      · rw [if_pos he] at ho
        simp at ho
        unfold eastB at he
        simp only [Bool.and_eq_true, decide_eq_true_eq] at he
        have h1 := he.1.1
        rw [step_1 hP] at h1
        split at h1
        · have : 2 ^ 2 ≤ 2 ^ R.W := Nat.pow_le_pow_right (by omega) (by omega)
          omega
        · omega
      · rw [if_neg he] at ho; cases ho
    · split at ho
      · simp at ho; omega
      · cases ho

/-- In how many ways can the last m cells be covered, if the set tells which of them are covered already? -/
def trN (R : Reg) : Nat → Nat → Nat
  | 0, s => if s = 0 then 1 else 0
  | m + 1, s => ((optV R (R.C.length - (m + 1)) s).map (trN R m)).sum

theorem bit_east {s i : Nat} (h : s % 2 = 0) : (s + 1).testBit i = (s.testBit i || decide (i = 0)) := by
  cases i with
  | zero => simp [Nat.testBit_zero]; omega
  | succ i =>
    rw [Nat.testBit_add_one, Nat.testBit_add_one]
    have : (s + 1) / 2 = s / 2 := by omega
    rw [this]; simp
theorem bit_north {s n i : Nat} (h : s < 2 ^ n) : (s + 2 ^ n).testBit i = (s.testBit i || decide (i = n)) := by
  rw [Nat.add_comm]
  rcases Nat.lt_trichotomy i n with hi | hi | hi
  · rw [Nat.testBit_two_pow_add_gt hi]; simp; omega
  · subst hi
    rw [Nat.testBit_two_pow_add_eq, Nat.testBit_lt_two_pow h]; simp
  · have h1 : 2 ^ n + s < 2 ^ i := by
      have : 2 ^ (n + 1) ≤ 2 ^ i := Nat.pow_le_pow_right (by omega) hi
      rw [Nat.pow_succ] at this; omega
    have h2 : s < 2 ^ i := by omega
    rw [Nat.testBit_lt_two_pow h1, Nat.testBit_lt_two_pow h2]; simp; omega

theorem opB_lyV {R : Reg} (hR : R.ok) {L : List Int} (hl : L.length = R.C.length) {c e : Nat} {way : Int} (hw : way ≠ 0) (he : R.step c way = (e : Int)) (hc : c < R.C.length) (hel : e < R.C.length) (j : Nat) :
    opB R (lyV R L c way) j = (opB R L j && !decide (j = c) && !decide (j = e)) := by
  have hne := step_ne hR hc he
  have hat := lyV_at he hl hc hel hne j
  have hb := (back_pos way).1
  unfold opB
  rw [hat]
  by_cases h1 : j = e
  · rw [if_pos h1, decide_eq_false (by omega)]; simp [h1]
  · rw [if_neg h1]
    by_cases h2 : j = c
    · rw [if_pos h2, decide_eq_false hw]; simp [h2]
    · rw [if_neg h2]; simp [h1, h2]

/-- How a set tells what a list covers, from a cell on. -/
structure Cov (R : Reg) (L : List Int) (k s : Nat) : Prop where
  pre : ∀ j, j < k → opB R L j = false
  at_ : ∀ i, k + i < R.C.length → opB R L (k + i) = (R.C.getD (k + i) false && !s.testBit i)
  lt : s < 2 ^ R.W
  bit : ∀ i, s.testBit i = true → k + i < R.C.length
theorem Cov.next {R : Reg} {L : List Int} {k s : Nat} (h : Cov R L k s) (ho : opB R L k = false) : Cov R L (k + 1) (s / 2) where
  pre j hj := by
    by_cases e : j = k
    · rw [e]; exact ho
    · exact h.pre j (by omega)
  at_ i hi := by
    have := h.at_ (i + 1) (by omega)
    rw [Nat.testBit_div_two, show k + 1 + i = k + (i + 1) by omega]; exact this
  lt := by have := h.lt; omega
  bit i hi := by rw [Nat.testBit_div_two] at hi; have := h.bit _ hi; omega
theorem Cov.zero {R : Reg} {L : List Int} {s : Nat} (h : Cov R L R.C.length s) : s = 0 ∧ fiV R L = none := by
  refine ⟨?_, fiV_none.2 h.pre⟩
  apply Nat.eq_of_testBit_eq
  intro i
  rw [Nat.zero_testBit]
  cases hb : s.testBit i with
  | false => rfl
  | true => have := h.bit i hb; omega
theorem step_lt {R : Reg} (hR : R.ok) {c e : Nat} {way : Int} (hw : way = 1 ∨ way = 2) (hc : c < R.C.length) (h : R.step c way = (e : Int)) : e < R.C.length ∧ e = c + (if way = 1 then 1 else R.W) := by
  have hP := place_of hR hc
  have hl := hR.2.2.2.2.1
  generalize c % R.W = x at hP
  generalize c / R.W = y at hP
  rcases hw with rfl | rfl
  · rw [step_1 hP] at h
    split at h
    · rename_i hx
      have hP2 : R.place e (x + 1) y := ⟨hx, hP.row, by have := hP.eq; omega⟩
      exact ⟨hP2.lt hR, by simp; omega⟩
    · omega
  · rw [step_2 hP] at h
    split at h
    · rename_i hy
      have hP2 : R.place e x (y + 1) := ⟨hP.col, hy, by have := hP.eq; rw [Nat.add_mul]; omega⟩
      exact ⟨hP2.lt hR, by simp; omega⟩
    · omega

theorem frB_set {R : Reg} (hR : R.ok) {L : List Int} {k s : Nat} (hk : k < R.C.length) (h : Cov R L k s) (ho : opB R L k = true) {way : Int} (hw : way = 1 ∨ way = 2) :
    frB R L k way = (if way = 1 then eastB R k s else northB R k s) := by
  have key : ∀ e : Nat, R.step k way = (e : Int) → frB R L k way = (R.C.getD e false && !s.testBit (if way = 1 then 1 else R.W)) := by
    intro e he
    obtain ⟨h1, h2⟩ := step_lt hR hw hk he
    unfold frB
    rw [he, ho, Int.toNat_natCast, decide_eq_true (by omega), Bool.true_and, Bool.true_and, h2, h.at_ _ (by omega)]
  by_cases hs : 0 ≤ R.step k way
  · obtain ⟨e, he⟩ := Int.eq_ofNat_of_zero_le hs
    rw [key e he]
    rcases hw with rfl | rfl
    · simp only [if_true]
      unfold eastB
      rw [he, Int.toNat_natCast, decide_eq_true (by omega), Bool.true_and]
      congr 1
      rw [Nat.testBit_add_one, Nat.testBit_zero]
      by_cases hb : s / 2 % 2 = 1
      · simp [hb]
      · simp [show s / 2 % 2 = 0 by omega]
    · rw [if_neg (by decide), if_neg (by decide)]
      unfold northB
      rw [he, Int.toNat_natCast, decide_eq_true (by omega), Bool.true_and]
      congr 1
      rw [Nat.testBit_lt_two_pow h.lt, Nat.div_eq_of_lt h.lt]; simp
  · have hf : frB R L k way = false := by unfold frB; rw [decide_eq_false hs, Bool.false_and]
    rw [hf]
    rcases hw with rfl | rfl
    · rw [if_pos rfl]; unfold eastB; rw [decide_eq_false hs]; simp
    · rw [if_neg (by decide)]; unfold northB; rw [decide_eq_false hs]; simp

theorem Cov.lay {R : Reg} (hR : R.ok) {L : List Int} (hl : L.length = R.C.length) {k s : Nat} (hk : k < R.C.length) (h : Cov R L k s) (ho : opB R L k = true) {way : Int} (hw : way = 1 ∨ way = 2) (hf : frB R L k way = true) :
    Cov R (lyV R L k way) (k + 1) (s / 2 + (if way = 1 then 1 else 2 ^ (R.W - 1))) := by
  obtain ⟨e, he, _, _, h3, h4⟩ := frB_iff.1 hf
  obtain ⟨hel, hee⟩ := step_lt hR hw hk he
  have hop := opB_lyV hR hl (by omega) he hk hel
  have hW := hR.1
  have hh := pow_half hW
  have h0 := (h.next (R := R) (L := L))
  have hbit : ∀ i, (s / 2 + (if way = 1 then 1 else 2 ^ (R.W - 1))).testBit i = ((s / 2).testBit i || decide (k + 1 + i = e)) := by
    intro i
    rcases hw with rfl | rfl
    · rw [if_pos rfl]
      rw [if_pos rfl] at hee
      have hfs := frB_set hR hk h ho (.inl rfl)
      rw [hf, if_pos rfl] at hfs
      unfold eastB at hfs
      have h2 : s / 2 % 2 = 0 := by
        have := hfs.symm
        simp only [Bool.and_eq_true, decide_eq_true_eq] at this
        exact this.2
      rw [bit_east h2]
      congr 1
      rw [decide_eq_decide]; omega
    · rw [if_neg (by decide)]
      rw [if_neg (by decide)] at hee
      have := h.lt
      rw [bit_north (by omega)]
      congr 1
      rw [decide_eq_decide]; omega
  constructor
  · intro j hj
    rw [hop]
    by_cases e : j = k
    · subst e; simp
    · rw [h.pre j (by omega)]; simp
  · intro i hi
    rw [hop, hbit, show k + 1 + i = k + (i + 1) by omega, h.at_ (i + 1) (by omega), Nat.testBit_div_two, decide_eq_false (show ¬ k + (i + 1) = k by omega)]
    cases R.C.getD (k + (i + 1)) false <;> cases s.testBit (i + 1) <;> simp
  · have := h.lt
    rcases hw with rfl | rfl
    · rw [if_pos rfl]
      have hP := place_of hR hk
      rw [step_1 hP] at he
      split at he
      · have hfs := frB_set hR hk h ho (.inl rfl)
        rw [hf, if_pos rfl] at hfs
        unfold eastB at hfs
        have h2 : s / 2 % 2 = 0 := by
          have := hfs.symm
          simp only [Bool.and_eq_true, decide_eq_true_eq] at this
          exact this.2
        have : 2 ^ 2 ≤ 2 ^ R.W := Nat.pow_le_pow_right (by omega) (by omega)
        omega
      · omega
    · rw [if_neg (by decide)]; omega
  · intro i hi
    rw [hbit] at hi
    rcases Bool.or_eq_true _ _ ▸ hi with h1 | h1
    · rw [Nat.testBit_div_two] at h1; have := h.bit _ h1; omega
    · have := of_decide_eq_true h1; omega

theorem tr_allT {R : Reg} (hR : R.ok) : ∀ (m k s f : Nat) (L : List Int), k + m = R.C.length → Lay R L → Cov R L k s → opN R L ≤ 2 * f → trN R m s = (allT R f L).length
  | 0, k, s, f, L, hk, hL, hc, hn => by
    obtain rfl : k = R.C.length := by omega
    obtain ⟨rfl, hf⟩ := hc.zero
    rw [allT_none hf]; rfl
  | m + 1, k, s, f, L, hk, hL, hc, hn => by
    have ih := tr_allT hR m
    have hkl : k < R.C.length := by omega
    have hkk : R.C.length - (m + 1) = k := by omega
    have ha := hc.at_ 0 (by omega)
    rw [Nat.add_zero] at ha
    unfold trN
    rw [hkk]
    by_cases hcv : covB R k s = true
    · rw [optV_cov hcv]
      have ho : opB R L k = false := by
        rw [ha]
        unfold covB at hcv
        rw [Nat.testBit_zero]
        cases h1 : R.C.getD k false with
        | false => rfl
        | true => rw [h1] at hcv; simp at hcv; simp [hcv]
      simp only [List.map_cons, List.map_nil, List.sum_cons, List.sum_nil, Nat.add_zero]
      exact ih (k + 1) (s / 2) f L (by omega) hL (hc.next ho) hn
    · have hcv' : covB R k s = false := by simpa using hcv
      rw [optV_no hcv']
      have ho : opB R L k = true := by
        rw [ha]
        unfold covB at hcv'
        rw [Nat.testBit_zero]
        simp only [Bool.or_eq_false_iff, Bool.not_eq_false', decide_eq_false_iff_not] at hcv'
        rw [hcv'.2]; simp [show ¬ s % 2 = 1 from hcv'.1]
      have hfi : fiV R L = some k := fiV_some.2 ⟨hkl, ho, hc.pre⟩
      cases f with
      | zero => rw [opN_zero (by omega)] at hfi; cases hfi
      | succ f =>
        rw [allT_some hfi, List.length_append, List.map_append, List.sum_append]
        congr 1
        · have hfs := frB_set hR hkl hc ho (way := 1) (.inl rfl)
          rw [if_pos rfl] at hfs
          rw [hfs]
          cases he : eastB R k s with
          | false => simp
          | true =>
            rw [he] at hfs
            have hn2 := opN_lay hR hL.len (by decide) hfs
            have := ih (k + 1) _ f _ (by omega) (lay_lyV hR hL rfl hfs) (hc.lay hR hL.len hkl ho (.inl rfl) hfs) (by omega)
            simp only [if_true, List.map_cons, List.map_nil, List.sum_cons, List.sum_nil, Nat.add_zero]
            exact this
        · have hfs := frB_set hR hkl hc ho (way := 2) (.inr rfl)
          rw [if_neg (by decide)] at hfs
          rw [hfs]
          cases he : northB R k s with
          | false => simp
          | true =>
            rw [he] at hfs
            have hn2 := opN_lay hR hL.len (by decide) hfs
            have := ih (k + 1) _ f _ (by omega) (lay_lyV hR hL rfl hfs) (hc.lay hR hL.len hkl ho (.inr rfl) hfs) (by omega)
            rw [if_neg (by decide)] at this
            simp only [if_true, List.map_cons, List.map_nil, List.sum_cons, List.sum_nil, Nat.add_zero]
            exact this

/-- How many tilings a region has. -/
def nT (R : Reg) : Nat := (tilT R).length
theorem nT_le (R : Reg) : nT R ≤ 262144 := tilT_len R
theorem tr_nT {R : Reg} (hR : R.ok) : trN R R.C.length 0 = nT R := by
  refine tr_allT hR _ 0 0 18 (bare R) (by omega) (lay_bare hR) ⟨fun j hj => by omega, fun i hi => ?_, Nat.two_pow_pos _, fun i hi => by simp at hi⟩ (opN_bare hR)
  unfold opB
  rw [bare_at, Nat.zero_testBit]; simp

/-! ### One cell's transfer, and all of them -/
/-- The lists behind a cell. -/
structure TStep (R : Reg) (k : Nat) (S M S' M' : List Nat) : Prop where
  len : S'.length = M'.length
  lt : ∀ s ∈ S', s < 2 ^ R.W
  pos : ∀ m ∈ M', 1 ≤ m
  val : ∀ f, wsum f S' M' = wsum (fun s => ((optV R k s).map f).sum) S M
/-- The lists in front of a cell. -/
structure TAt (R : Reg) (k : Nat) (S M : List Nat) : Prop where
  len : S.length = M.length
  lt : ∀ s ∈ S, s < 2 ^ R.W
  pos : ∀ m ∈ M, 1 ≤ m
  bd : wsum (fun _ => 1) S M ≤ 2 ^ cnt (R.C.take k)
  val : wsum (trN R (R.C.length - k)) S M = trN R R.C.length 0
theorem TAt.start (R : Reg) : TAt R 0 [0] [1] := ⟨rfl, by simp [Nat.two_pow_pos], by simp, by simp [wsum, cnt], by simp [wsum]⟩
theorem map_one_sum (l : List Nat) : (l.map fun _ => 1).sum = l.length := by
  induction l with
  | nil => rfl
  | cons a l ih => simp [ih]; omega
theorem TAt.next {R : Reg} {k : Nat} {S M S' M' : List Nat} (h : TAt R k S M) (hk : k < R.C.length) (hs : TStep R k S M S' M') : TAt R (k + 1) S' M' := by
  refine ⟨hs.len, hs.lt, hs.pos, ?_, ?_⟩
  · have hv := hs.val (fun _ => 1)
    simp only [map_one_sum] at hv
    rw [hv, cnt_take _ _ hk]
    have hg : R.C.getD k false = R.C[k] := by rw [List.getD_eq_getElem?_getD, List.getElem?_eq_getElem hk]; rfl
    have hbd := h.bd
    by_cases hc : R.C[k] = true
    · rw [if_pos hc, Nat.pow_succ]
      have := wsum_le (fun s => (optV R k s).length) (fun _ => 1) 2 (fun s => by have := optV_len R k s; omega) S M
      omega
    · rw [if_neg hc, Nat.add_zero]
      have := wsum_le (fun s => (optV R k s).length) (fun _ => 1) 1 (fun s => by have := optV_len1 (R := R) (k := k) (s := s) (by rw [hg]; simpa using hc); omega) S M
      omega
  · rw [hs.val, ← h.val, show R.C.length - k = (R.C.length - (k + 1)) + 1 by omega]
    refine wsum_congr _ _ S M fun s _ => ?_
    show _ = ((optV R (R.C.length - (R.C.length - (k + 1) + 1)) s).map _).sum
    rw [show R.C.length - (R.C.length - (k + 1) + 1) = k by omega]
theorem TAt.sum_le {R : Reg} (hR : R.ok) {k : Nat} {S M : List Nat} (h : TAt R k S M) : wsum (fun _ => 1) S M ≤ 16777216 := by
  refine Nat.le_trans h.bd ?_
  have h1 : cnt (R.C.take k) ≤ 24 := by
    refine Nat.le_trans ?_ hR.2.2.2.2.2
    unfold cnt
    exact List.Sublist.countP_le (List.take_sublist _ _)
  exact Nat.le_trans (Nat.pow_le_pow_right (by omega) h1) (by decide)
theorem TAt.done {R : Reg} (hR : R.ok) {S M : List Nat} (h : TAt R R.C.length S M) : wsum (fun s => if s = 0 then 1 else 0) S M = nT R := by
  have hv := h.val
  rw [Nat.sub_self, tr_nT hR] at hv
  rw [← hv]
  rfl

/-- Amid a cell: i sets are done, and j options of the next one. -/
structure TMid (R : Reg) (k : Nat) (S M : List Nat) (i : Nat) (os : List Nat) (j : Nat) (S' M' : List Nat) : Prop where
  len : S'.length = M'.length
  lt : ∀ s ∈ S', s < 2 ^ R.W
  pos : ∀ m ∈ M', 1 ≤ m
  val : ∀ f, wsum f S' M' = wsum (fun s => ((optV R k s).map f).sum) (S.take i) (M.take i) + M.getD i 0 * ((os.take j).map f).sum
theorem TMid.start (R : Reg) (k : Nat) (S M : List Nat) (os : List Nat) : TMid R k S M 0 os 0 [] [] := ⟨rfl, by simp, by simp, fun f => by simp [wsum]⟩
theorem TMid.next {R : Reg} {k : Nat} {S M : List Nat} {i : Nat} {os' : List Nat} {S' M' : List Nat} (hl : S.length = M.length) (hi : i < M.length) (h : TMid R k S M i (optV R k (S.getD i 0)) (optV R k (S.getD i 0)).length S' M') : TMid R k S M (i + 1) os' 0 S' M' := by
  refine ⟨h.len, h.lt, h.pos, fun f => ?_⟩
  rw [h.val f, wsum_take _ S M i hl hi, List.take_of_length_le (Nat.le_refl _)]
  simp
theorem TMid.more {R : Reg} {k : Nat} {S M : List Nat} {i : Nat} {os os' : List Nat} {S' M' : List Nat} (h : TMid R k S M i os 0 S' M') : TMid R k S M i os' 0 S' M' :=
  ⟨h.len, h.lt, h.pos, fun f => by have := h.val f; simpa using this⟩
theorem TMid.done {R : Reg} {k : Nat} {S M : List Nat} {os : List Nat} {S' M' : List Nat} (hl : S.length = M.length) (h : TMid R k S M M.length os 0 S' M') : TStep R k S M S' M' := by
  refine ⟨h.len, h.lt, h.pos, fun f => ?_⟩
  rw [h.val f, List.take_of_length_le (by omega), List.take_of_length_le (Nat.le_refl _)]
  simp
theorem take_one_more {os : List Nat} {j : Nat} (hj : j < os.length) (f : Nat → Nat) : ((os.take (j + 1)).map f).sum = ((os.take j).map f).sum + f (os.getD j 0) := by
  rw [List.take_succ_eq_append_getElem hj, List.map_append, List.sum_append, List.getD_eq_getElem?_getD, List.getElem?_eq_getElem hj]
  simp
theorem getD_mem {l : List Nat} {i : Nat} (h : i < l.length) : l.getD i 0 ∈ l := by
  rw [List.getD_eq_getElem?_getD, List.getElem?_eq_getElem h]
  exact List.getElem_mem h
/-- An option that is there already. -/
theorem TMid.old {R : Reg} {k : Nat} {S M : List Nat} {i : Nat} {os : List Nat} {j : Nat} {S' M' : List Nat} (h : TMid R k S M i os j S' M') (hj : j < os.length) {q : Nat} (hq : q < S'.length) (he : S'.getD q 0 = os.getD j 0) :
    TMid R k S M i os (j + 1) S' (M'.set q (M'.getD q 0 + M.getD i 0)) := by
  refine ⟨by rw [List.length_set]; exact h.len, h.lt, fun m hm => ?_, fun f => ?_⟩
  · rcases List.mem_or_eq_of_mem_set hm with h1 | h1
    · exact h.pos m h1
    · have := h.pos _ (getD_mem (l := M') (i := q) (by rw [← h.len]; exact hq))
      omega
  · rw [wsum_set f _ S' M' q h.len (by rw [← h.len]; exact hq), h.val f, he, take_one_more hj, Nat.mul_add]
    omega
/-- A further option. -/
theorem TMid.new {R : Reg} {k : Nat} {S M : List Nat} {i : Nat} {os : List Nat} {j : Nat} {S' M' : List Nat} (h : TMid R k S M i os j S' M') (hj : j < os.length) (hm1 : 1 ≤ M.getD i 0) (hlt : os.getD j 0 < 2 ^ R.W) :
    TMid R k S M i os (j + 1) (S' ++ [os.getD j 0]) ((M' ++ [0]).set M'.length (M.getD i 0)) := by
  have hset : (M' ++ [0]).set M'.length (M.getD i 0) = M' ++ [M.getD i 0] := by
    rw [List.set_append_right _ _ (Nat.le_refl _), Nat.sub_self]; rfl
  rw [hset]
  refine ⟨by simp [h.len], fun s hs => ?_, fun m hm => ?_, fun f => ?_⟩
  · rw [List.mem_append] at hs
    rcases hs with hs | hs
    · exact h.lt s hs
    · simp only [List.mem_singleton] at hs; rw [hs]; exact hlt
  · rw [List.mem_append] at hm
    rcases hm with hm | hm
    · exact h.pos m hm
    · simp only [List.mem_singleton] at hm; rw [hm]; exact hm1
  · rw [wsum_app f _ _ S' M' h.len, h.val f, take_one_more hj, Nat.mul_add]
    omega
/-- The sums stay small. -/
theorem wsum_take_le (f : Nat → Nat) : ∀ (S M : List Nat) (i : Nat), wsum f (S.take i) (M.take i) ≤ wsum f S M
  | [], _, i => by simp [wsum]
  | _ :: _, [], i => by simp [wsum]
  | s :: S, m :: M, 0 => by simp [wsum]
  | s :: S, m :: M, i + 1 => by
    have := wsum_take_le f S M i
    simp only [List.take_succ_cons, wsum]
    omega
theorem TMid.sum_le {R : Reg} (hR : R.ok) {k : Nat} {S M : List Nat} (hA : TAt R k S M) {i : Nat} {os : List Nat} {j : Nat} {S' M' : List Nat} (h : TMid R k S M i os j S' M') (ho : os.length ≤ 2) : wsum (fun _ => 1) S' M' ≤ 67108864 := by
  have h1 := h.val (fun _ => 1)
  simp only [map_one_sum] at h1
  have h2 := wsum_le (fun s => (optV R k s).length) (fun _ => 1) 2 (fun s => by have := optV_len R k s; omega) (S.take i) (M.take i)
  have h3 := wsum_take_le (fun _ => 1) S M i
  have h4 := hA.sum_le hR
  have h5 := at_le_wsum S M i hA.len
  have h6 : (os.take j).length ≤ 2 := by rw [List.length_take]; omega
  have h7 : M.getD i 0 * (os.take j).length ≤ M.getD i 0 * 2 := Nat.mul_le_mul_left _ h6
  omega
theorem TMid.len_le {R : Reg} (hR : R.ok) {k : Nat} {S M : List Nat} (hA : TAt R k S M) {i : Nat} {os : List Nat} {j : Nat} {S' M' : List Nat} (h : TMid R k S M i os j S' M') (ho : os.length ≤ 2) : S'.length ≤ 67108864 :=
  Nat.le_trans (len_le_wsum S' M' h.len h.pos) (h.sum_le hR hA ho)
theorem TAt.len_le {R : Reg} (hR : R.ok) {k : Nat} {S M : List Nat} (h : TAt R k S M) : S.length ≤ 16777216 := Nat.le_trans (len_le_wsum S M h.len h.pos) (h.sum_le hR)
/-- The sum at the end. -/
def endV (S M : List Nat) (i : Nat) : Nat := wsum (fun s => if s = 0 then 1 else 0) (S.take i) (M.take i)
theorem endV_next {S M : List Nat} {i : Nat} (hl : S.length = M.length) (hi : i < M.length) : endV S M (i + 1) = endV S M i + (if S.getD i 0 = 0 then M.getD i 0 else 0) := by
  unfold endV
  rw [wsum_take _ S M i hl hi]
  split <;> simp
theorem endV_le {R : Reg} (hR : R.ok) {k : Nat} {S M : List Nat} (h : TAt R k S M) (i : Nat) : endV S M i ≤ 16777216 := by
  have h1 := wsum_take_le (fun s => if s = 0 then 1 else 0) S M i
  have h2 := wsum_le (fun s => if s = 0 then 1 else 0) (fun _ => 1) 1 (fun s => by split <;> omega) S M
  have h3 := h.sum_le hR
  unfold endV; omega
theorem endV_all {R : Reg} (hR : R.ok) {S M : List Nat} (h : TAt R R.C.length S M) : endV S M M.length = nT R := by
  unfold endV
  have := h.len
  rw [List.take_of_length_le (by omega), List.take_of_length_le (Nat.le_refl _)]
  exact h.done hR

/-! ### Less of a region; counts over a list -/
/-- The region without the cells that a list covers. -/
def less (R : Reg) (L : List Int) : Reg := ⟨R.W, R.T, (List.range R.C.length).map (opB R L)⟩
theorem less_len (R : Reg) (L : List Int) : (less R L).C.length = R.C.length := by simp [less]
theorem less_at {R : Reg} {L : List Int} {k : Nat} (hk : k < R.C.length) : (less R L).C.getD k false = opB R L k := by
  unfold less
  rw [List.getD_eq_getElem?_getD, List.getElem?_map, List.getElem?_range hk]; rfl
theorem less_ok {R : Reg} (hR : R.ok) (L : List Int) : (less R L).ok := by
  refine ⟨hR.1, hR.2.1, hR.2.2.1, hR.2.2.2.1, by rw [less_len]; exact hR.2.2.2.2.1, Nat.le_trans ?_ hR.2.2.2.2.2⟩
  rw [cnt_range, cnt_range, less_len]
  rw [countP_same (q := opB R L) fun j hj => less_at hj]
  apply List.countP_mono_left
  intro j _ h
  unfold opB at h
  simp only [Bool.and_eq_true] at h
  exact h.1
theorem opB_out {R : Reg} {L : List Int} {j : Nat} (h : R.C.length ≤ j) : opB R L j = false := by
  unfold opB
  rw [List.getD_eq_getElem?_getD, List.getElem?_eq_none h]; rfl
theorem allT_same {R R' : Reg} (hR : R.ok) (hR' : R'.ok) (hW : R'.W = R.W) (hT : R'.T = R.T) : ∀ (f : Nat) (L L' : List Int), L.length = R.C.length → L'.length = R'.C.length → (∀ j, opB R' L' j = opB R L j) → (allT R' f L').length = (allT R f L).length
  | 0, L, L', _, _, _ => by simp [allT]
  | f + 1, L, L', hl, hl', hop => by
    have hlen : R'.C.length = R.C.length := by rw [hR.2.2.2.2.1, hR'.2.2.2.2.1, hW, hT]
    have hstep : ∀ c way, R'.step c way = R.step c way := fun c way => by unfold Reg.step; rw [hW, hT]
    have hfi : fiV R' L' = fiV R L := by
      unfold fiV
      rw [hlen, show opB R' L' = opB R L from funext hop]
    cases hf : fiV R L with
    | none => rw [allT_none hf, allT_none (by rw [hfi]; exact hf)]; rfl
    | some c =>
      rw [allT_some hf, allT_some (by rw [hfi]; exact hf), List.length_append, List.length_append]
      have hfr : ∀ way, frB R' L' c way = frB R L c way := fun way => by unfold frB; rw [hstep, hop, hop]
      have key : ∀ way : Int, way ≠ 0 → (if frB R' L' c way = true then allT R' f (lyV R' L' c way) else []).length = (if frB R L c way = true then allT R f (lyV R L c way) else []).length := by
        intro way hw
        rw [hfr]
        by_cases hb : frB R L c way = true
        · rw [if_pos hb, if_pos hb]
          obtain ⟨e, he, h1, _, h3, _⟩ := frB_iff.1 hb
          have hc := cell_lt h1
          have hel := cell_lt h3
          refine allT_same hR hR' hW hT f _ _ (by rw [lyV_len]; exact hl) (by rw [lyV_len]; exact hl') fun j => ?_
          rw [opB_lyV hR hl hw he hc hel, opB_lyV hR' hl' hw (by rw [hstep]; exact he) (by omega) (by omega), hop]
        · rw [if_neg hb, if_neg hb]
      rw [key 1 (by decide), key 2 (by decide)]
/-- All tilings with the dominoes of a list. -/
def cT (R : Reg) (L : List Int) : List (List Int) := allT R 18 L
theorem opN_le {R : Reg} (hR : R.ok) (L : List Int) : opN R L ≤ 2 * 18 := by
  have := (len_bd hR).2
  unfold opN
  have h := List.countP_le_length (p := opB R L) (l := List.range R.C.length)
  rw [List.length_range] at h
  omega
theorem nT_less {R : Reg} (hR : R.ok) {L : List Int} (hl : L.length = R.C.length) : nT (less R L) = (cT R L).length := by
  refine allT_same hR (less_ok hR L) rfl rfl 18 L _ hl (by simp [bare]) fun j => ?_
  by_cases hj : j < R.C.length
  · show ((less R L).C.getD j false && _) = _
    rw [less_at hj, bare_at]; simp
  · rw [opB_out (by rw [less_len]; omega), opB_out (by omega)]
theorem allT_fuel {R : Reg} (hR : R.ok) : ∀ (f g : Nat) (L : List Int), L.length = R.C.length → opN R L ≤ 2 * f → opN R L ≤ 2 * g → allT R f L = allT R g L
  | 0, g, L, hl, h1, h2 => by rw [allT_none (opN_zero (by omega)), allT_none (opN_zero (by omega))]
  | f + 1, 0, L, hl, h1, h2 => by rw [allT_none (opN_zero (by omega)), allT_none (opN_zero (by omega))]
  | f + 1, g + 1, L, hl, h1, h2 => by
    cases hf : fiV R L with
    | none => rw [allT_none hf, allT_none hf]
    | some c =>
      rw [allT_some hf, allT_some hf]
      have key : ∀ way : Int, way ≠ 0 → (if frB R L c way = true then allT R f (lyV R L c way) else []) = (if frB R L c way = true then allT R g (lyV R L c way) else []) := by
        intro way hw
        by_cases hb : frB R L c way = true
        · rw [if_pos hb, if_pos hb]
          have := opN_lay hR hl hw hb
          exact allT_fuel hR f g _ (by rw [lyV_len]; exact hl) (by omega) (by omega)
        · rw [if_neg hb, if_neg hb]
      rw [key 1 (by decide), key 2 (by decide)]
theorem cT_none {R : Reg} {L : List Int} (h : fiV R L = none) : cT R L = [L] := allT_none h
theorem cT_some {R : Reg} (hR : R.ok) {L : List Int} (hl : L.length = R.C.length) {c : Nat} (h : fiV R L = some c) : cT R L = (if frB R L c 1 = true then cT R (lyV R L c 1) else []) ++ (if frB R L c 2 = true then cT R (lyV R L c 2) else []) := by
  have key : ∀ way : Int, way ≠ 0 → (if frB R L c way = true then allT R 17 (lyV R L c way) else []) = (if frB R L c way = true then cT R (lyV R L c way) else []) := by
    intro way hw
    by_cases hb : frB R L c way = true
    · rw [if_pos hb, if_pos hb]
      have h1 := opN_lay hR hl hw hb
      have h2 := opN_le hR L
      exact allT_fuel hR 17 18 _ (by rw [lyV_len]; exact hl) (by omega) (by omega)
    · rw [if_neg hb, if_neg hb]
  rw [← key 1 (by decide), ← key 2 (by decide)]
  exact allT_some h

end Go.Proofs.Ythepfpiphlfgnaa

/-
  YthepfpiphlfgnaaQ9: a tiling's number among all of them. Plain Lean.
-/
namespace Go.Proofs.Ythepfpiphlfgnaa

theorem length_pos_of {α : Type} {l : List α} {r : Nat} {x : α} (h : l[r]? = some x) : r < l.length := by
  rcases Nat.lt_or_ge r l.length with h1 | h1
  · exact h1
  · rw [List.getElem?_eq_none h1] at h; cases h
/-- How many tilings have the domino to the east. -/
def lowN (R : Reg) (L : List Int) (c : Nat) : Nat := if frB R L c 1 = true then (cT R (lyV R L c 1)).length else 0
theorem cT_low {R : Reg} (hR : R.ok) {L : List Int} (hl : L.length = R.C.length) {c : Nat} (h : fiV R L = some c) {r : Nat} (hr : r < lowN R L c) :
    frB R L c 1 = true ∧ (cT R L)[r]? = (cT R (lyV R L c 1))[r]? ∧ r < (cT R (lyV R L c 1)).length := by
  unfold lowN at hr
  by_cases hb : frB R L c 1 = true
  · rw [if_pos hb] at hr
    refine ⟨hb, ?_, hr⟩
    rw [cT_some hR hl h, if_pos hb, List.getElem?_append_left hr]
  · rw [if_neg hb] at hr; omega
theorem cT_high {R : Reg} (hR : R.ok) {L : List Int} (hl : L.length = R.C.length) {c : Nat} (h : fiV R L = some c) {r : Nat} (hr : lowN R L c ≤ r) (hr2 : r < (cT R L).length) :
    frB R L c 2 = true ∧ (cT R L)[r]? = (cT R (lyV R L c 2))[r - lowN R L c]? ∧ r - lowN R L c < (cT R (lyV R L c 2)).length := by
  have e1 : (if frB R L c 1 = true then cT R (lyV R L c 1) else []).length = lowN R L c := by unfold lowN; split <;> rfl
  have hc := cT_some hR hl h
  rw [hc, List.length_append, e1] at hr2
  by_cases hb : frB R L c 2 = true
  · rw [if_pos hb] at hr2
    refine ⟨hb, ?_, by omega⟩
    rw [hc, List.getElem?_append_right (by rw [e1]; exact hr), e1, if_pos hb]
  · rw [if_neg hb] at hr2; simp at hr2; omega
theorem lowN_le (R : Reg) (L : List Int) (c : Nat) : lowN R L c ≤ 262144 := by
  unfold lowN
  split
  · exact allT_len R 18 _
  · omega

/-- A tiling has a list's dominoes. -/
def Agr (L M : List Int) : Prop := ∀ j, L.getD j 0 ≠ 0 → M.getD j 0 = L.getD j 0
theorem agr_bare (R : Reg) (M : List Int) : Agr (bare R) M := fun j hj => absurd (bare_at R j) hj
theorem agr_done {R : Reg} (hR : R.ok) {L M : List Int} (hM : Tile R M) (hL : Lay R L) (hf : fiV R L = none) (hag : Agr L M) : M = L := by
  apply List.ext_getElem (by rw [hM.1.len, hL.len])
  intro k h1 h2
  have e1 : M[k] = M.getD k 0 := by rw [List.getD_eq_getElem?_getD, List.getElem?_eq_getElem h1]; rfl
  have e2 : L[k] = L.getD k 0 := by rw [List.getD_eq_getElem?_getD, List.getElem?_eq_getElem h2]; rfl
  rw [e1, e2]
  by_cases h0 : L.getD k 0 = 0
  · rw [h0]
    have hk : k < R.C.length := by rw [← hL.len]; exact h2
    have hno := fiV_none.1 hf k hk
    rcases layAt_of hR hM.1 hk with hz | ⟨e, _, hc, _⟩
    · exact hz
    · rw [opB_cell.2 ⟨hc, h0⟩] at hno; cases hno
  · exact hag k h0
theorem agr_next {R : Reg} (hR : R.ok) {L M : List Int} (hM : Tile R M) (hL : Lay R L) {c : Nat} (hf : fiV R L = some c) (hag : Agr L M) :
    (M.getD c 0 = 1 ∨ M.getD c 0 = 2) ∧ frB R L c (M.getD c 0) = true ∧ Agr (lyV R L c (M.getD c 0)) M := by
  obtain ⟨hc, ho, hfirst⟩ := fiV_some.1 hf
  obtain ⟨hcc, hc0⟩ := opB_cell.1 ho
  have hne0 : M.getD c 0 ≠ 0 := by
    have := (fullB_iff hR).2 hM.2
    unfold fullB at this
    rw [List.all_eq_true] at this
    have := this c (List.mem_range.2 hc)
    unfold fullAtB at this
    rw [getD_cell.2 hcc] at this
    simpa using this
  rcases layAt_of hR hM.1 hc with hz | ⟨e, he, _, hec, hbk⟩
  · exact absurd hz hne0
  · have hel := cell_lt hec
    have hne := step_ne hR hc he
    have he0 : L.getD e 0 = 0 := Classical.byContradiction fun hx => by
      have h1 := hag e hx
      rcases layAt_of hR hL hel with hz | ⟨g, hg, _, _, hgb⟩
      · exact hx hz
      · have hP : R.step e (back (M.getD c 0)) = (c : Int) := step_back hR.1 (xy_lt hR hc).2 he
        rw [← h1, hbk, hP] at hg
        have hgc : g = c := by omega
        subst hgc
        have := (back_pos (L.getD e 0)).1
        omega
    have hway : M.getD c 0 = 1 ∨ M.getD c 0 = 2 := by
      have hP := place_of hR hc
      have hge : ¬ e < c := fun hlt => by
        have := hfirst e hlt
        rw [opB_cell.2 ⟨hec, he0⟩] at this
        cases this
      have hW := hR.1
      by_cases hw : 1 ≤ M.getD c 0 ∧ M.getD c 0 ≤ 4
      · rcases (show M.getD c 0 = 1 ∨ M.getD c 0 = 2 ∨ M.getD c 0 = 3 ∨ M.getD c 0 = 4 by omega) with h | h | h | h
        · exact .inl h
        · exact .inr h
        · rw [h, step_3 hP] at he; split at he <;> omega
        · rw [h, step_4 hP] at he; split at he <;> omega
      · rw [step_no hw] at he; omega
    refine ⟨hway, frB_iff.2 ⟨e, he, hcc, hc0, hec, he0⟩, fun j hj => ?_⟩
    have hat := lyV_at he hL.len hc hel hne j
    rw [hat] at hj ⊢
    by_cases h1 : j = e
    · rw [if_pos h1, h1]; exact hbk
    · rw [if_neg h1] at hj ⊢
      by_cases h2 : j = c
      · rw [if_pos h2, h2]
      · rw [if_neg h2] at hj ⊢; exact hag j hj
theorem allT_agr {R : Reg} (hR : R.ok) : ∀ (f : Nat) (L : List Int), L.length = R.C.length → ∀ M ∈ allT R f L, Agr L M
  | 0, L, _, M, hM => by simp [allT] at hM; subst hM; exact fun _ _ => rfl
  | f + 1, L, hl, M, hM => by
    cases hf : fiV R L with
    | none => rw [allT_none hf] at hM; simp at hM; subst hM; exact fun _ _ => rfl
    | some c =>
      rw [allT_some hf, List.mem_append] at hM
      have key : ∀ way : Int, M ∈ (if frB R L c way = true then allT R f (lyV R L c way) else []) → Agr L M := fun way hm => by
        by_cases hb : frB R L c way = true
        · rw [if_pos hb] at hm
          obtain ⟨e, he, h1, h2, h3, h4⟩ := frB_iff.1 hb
          have hc := cell_lt h1
          have hel := cell_lt h3
          have hne := step_ne hR hc he
          have ih := allT_agr hR f _ (by rw [lyV_len]; exact hl) M hm
          intro j hj
          have hat := lyV_at he hl hc hel hne j
          have h5 := ih j
          rw [hat, if_neg (by rintro rfl; exact hj h4), if_neg (by rintro rfl; exact hj h2)] at h5
          exact h5 hj
        · rw [if_neg hb] at hm; cases hm
      exact hM.elim (key 1) (key 2)
theorem allT_at {R : Reg} (hR : R.ok) {f : Nat} {L M : List Int} (hl : L.length = R.C.length) {c : Nat} {way : Int} (hw : way ≠ 0) (hb : frB R L c way = true) (hM : M ∈ allT R f (lyV R L c way)) : M.getD c 0 = way := by
  obtain ⟨e, he, h1, h2, h3, h4⟩ := frB_iff.1 hb
  have hc := cell_lt h1
  have hel := cell_lt h3
  have hne := step_ne hR hc he
  have hat := lyV_at he hl hc hel hne c
  rw [if_neg hne, if_pos rfl] at hat
  have := allT_agr hR f _ (by rw [lyV_len]; exact hl) M hM c
  rw [hat] at this
  exact this hw
theorem allT_nodup {R : Reg} (hR : R.ok) : ∀ (f : Nat) (L : List Int), L.length = R.C.length → (allT R f L).Nodup
  | 0, L, _ => by simp [allT]
  | f + 1, L, hl => by
    cases hf : fiV R L with
    | none => rw [allT_none hf]; simp
    | some c =>
      rw [allT_some hf, List.nodup_append]
      have key : ∀ way : Int, (if frB R L c way = true then allT R f (lyV R L c way) else []).Nodup := fun way => by
        split
        · exact allT_nodup hR f _ (by rw [lyV_len]; exact hl)
        · simp
      refine ⟨key 1, key 2, fun M hM N hN => ?_⟩
      rintro rfl
      by_cases h1 : frB R L c 1 = true
      · by_cases h2 : frB R L c 2 = true
        · rw [if_pos h1] at hM
          rw [if_pos h2] at hN
          have e1 := allT_at hR hl (by decide) h1 hM
          have e2 := allT_at hR hl (by decide) h2 hN
          omega
        · rw [if_neg h2] at hN; cases hN
      · rw [if_neg h1] at hM; cases hM
theorem tilT_nodup {R : Reg} (hR : R.ok) : (tilT R).Nodup := allT_nodup hR 18 _ (by simp [bare])
theorem nodup_inj {α : Type} {l : List α} (h : l.Nodup) {i j : Nat} {x : α} (h1 : l[i]? = some x) (h2 : l[j]? = some x) : i = j := by
  have a := length_pos_of h1
  have b := length_pos_of h2
  rw [List.getElem?_eq_getElem a] at h1
  rw [List.getElem?_eq_getElem b] at h2
  injection h1 with h1
  injection h2 with h2
  rcases Nat.lt_trichotomy i j with hij | hij | hij
  · have := List.pairwise_iff_getElem.1 h i j a b hij
    exact absurd (h1.trans h2.symm) this
  · exact hij
  · have := List.pairwise_iff_getElem.1 h j i b a hij
    exact absurd (h2.trans h1.symm) this
/-- A tiling's rank. -/
def rkV (R : Reg) (M : List Int) : Nat := (tilT R).idxOf M
theorem rkV_of {R : Reg} (hR : R.ok) {M : List Int} {n : Nat} (h : (tilT R)[n]? = some M) : rkV R M = n := by
  have hm : M ∈ tilT R := List.mem_of_getElem? h
  have hlt : (tilT R).idxOf M < (tilT R).length := List.idxOf_lt_length_iff.2 hm
  have h2 : (tilT R)[(tilT R).idxOf M]? = some M := by
    rw [List.getElem?_eq_getElem hlt]
    congr 1
    exact List.getElem_idxOf hlt
  exact nodup_inj (tilT_nodup hR) h2 h
theorem rkV_at {R : Reg} (hR : R.ok) {M : List Int} (hM : Tile R M) : (tilT R)[rkV R M]? = some M ∧ rkV R M < nT R := by
  have hm : M ∈ tilT R := (tilT_iff hR).2 hM
  have hlt : (tilT R).idxOf M < (tilT R).length := List.idxOf_lt_length_iff.2 hm
  refine ⟨?_, hlt⟩
  unfold rkV
  rw [List.getElem?_eq_getElem hlt]
  congr 1
  exact List.getElem_idxOf hlt
theorem rkV_inj {R : Reg} (hR : R.ok) {M N : List Int} (hM : Tile R M) (hN : Tile R N) (h : rkV R M = rkV R N) : M = N := by
  have h1 := (rkV_at hR hM).1
  have h2 := (rkV_at hR hN).1
  rw [h, h2] at h1
  injection h1 with h1
  exact h1.symm
/-- The tiling of a rank. -/
def tlV (R : Reg) (n : Nat) : List Int := (tilT R).getD n []
theorem tlV_at {R : Reg} {n : Nat} (h : n < nT R) : (tilT R)[n]? = some (tlV R n) := by
  unfold tlV
  rw [List.getD_eq_getElem?_getD]
  unfold nT at h
  rw [List.getElem?_eq_getElem h]; rfl
theorem tlV_tile {R : Reg} (hR : R.ok) {n : Nat} (h : n < nT R) : Tile R (tlV R n) := (tilT_iff hR).1 (List.mem_of_getElem? (tlV_at h))
theorem rkV_tlV {R : Reg} (hR : R.ok) {n : Nat} (h : n < nT R) : rkV R (tlV R n) = n := rkV_of hR (tlV_at h)
theorem tlV_rkV {R : Reg} (hR : R.ok) {M : List Int} (hM : Tile R M) : tlV R (rkV R M) = M := by
  have h1 := (rkV_at hR hM).1
  rw [tlV_at (rkV_at hR hM).2] at h1
  injection h1

/-- The search for a rank's tiling stands at a list; r tilings of it come first. -/
structure AtL (R : Reg) (n : Nat) (L : List Int) (r : Nat) : Prop where
  lay : Lay R L
  lt : r < (cT R L).length
  eq : (cT R L)[r]? = (tilT R)[n]?
theorem AtL.start {R : Reg} (hR : R.ok) {n : Nat} (h : n < nT R) : AtL R n (bare R) n := ⟨lay_bare hR, h, rfl⟩
theorem AtL.done {R : Reg} {n : Nat} {L : List Int} {r : Nat} (h : AtL R n L r) (hf : fiV R L = none) (hn : n < nT R) : L = tlV R n := by
  have h1 := h.lt
  have h2 := h.eq
  rw [cT_none hf] at h1 h2
  simp at h1
  subst h1
  rw [tlV_at hn] at h2
  simpa using h2
theorem AtL.low {R : Reg} (hR : R.ok) {n : Nat} {L : List Int} {r c : Nat} (h : AtL R n L r) (hf : fiV R L = some c) (hr : r < lowN R L c) : frB R L c 1 = true ∧ AtL R n (lyV R L c 1) r := by
  obtain ⟨a, b, d⟩ := cT_low hR h.lay.len hf hr
  exact ⟨a, lay_lyV hR h.lay rfl a, d, by rw [← b]; exact h.eq⟩
theorem AtL.high {R : Reg} (hR : R.ok) {n : Nat} {L : List Int} {r c : Nat} (h : AtL R n L r) (hf : fiV R L = some c) (hr : lowN R L c ≤ r) : frB R L c 2 = true ∧ AtL R n (lyV R L c 2) (r - lowN R L c) := by
  obtain ⟨a, b, d⟩ := cT_high hR h.lay.len hf hr h.lt
  exact ⟨a, lay_lyV hR h.lay rfl a, d, by rw [← b]; exact h.eq⟩
/-- The search for a tiling's rank: a list that it agrees with, and how many tilings come ahead of all that have these dominoes. -/
structure AtM (R : Reg) (M L : List Int) (n : Nat) : Prop where
  lay : Lay R L
  agr : Agr L M
  lt : ∀ q, q < (cT R L).length → (cT R L)[q]? = (tilT R)[n + q]?
  le : n + (cT R L).length ≤ nT R
theorem AtM.start {R : Reg} (hR : R.ok) (M : List Int) : AtM R M (bare R) 0 := ⟨lay_bare hR, agr_bare R M, fun q _ => by rw [Nat.zero_add]; rfl, by rw [Nat.zero_add]; exact Nat.le_refl _⟩
theorem AtM.done {R : Reg} (hR : R.ok) {M L : List Int} {n : Nat} (hM : Tile R M) (h : AtM R M L n) (hf : fiV R L = none) : rkV R M = n := by
  have e := agr_done hR hM h.lay hf h.agr
  subst e
  have := h.lt 0 (by rw [cT_none hf]; simp)
  rw [cT_none hf, Nat.add_zero] at this
  exact rkV_of hR this.symm
theorem AtM.next {R : Reg} (hR : R.ok) {M L : List Int} {n c : Nat} (hM : Tile R M) (h : AtM R M L n) (hf : fiV R L = some c) :
    frB R L c (M.getD c 0) = true ∧ ((M.getD c 0 = 1 ∧ AtM R M (lyV R L c 1) n) ∨ (M.getD c 0 = 2 ∧ AtM R M (lyV R L c 2) (n + lowN R L c))) := by
  obtain ⟨hw, hb, ha⟩ := agr_next hR hM h.lay hf h.agr
  refine ⟨hb, ?_⟩
  have e1 : (if frB R L c 1 = true then cT R (lyV R L c 1) else []).length = lowN R L c := by unfold lowN; split <;> rfl
  have hcs := cT_some hR h.lay.len hf
  have hle := h.le
  have hlt := h.lt
  rw [hcs] at hle hlt
  rw [List.length_append, e1] at hle hlt
  rcases hw with hw | hw
  · rw [hw] at hb ha
    have hlow : lowN R L c = (cT R (lyV R L c 1)).length := by unfold lowN; rw [if_pos hb]
    refine .inl ⟨hw, lay_lyV hR h.lay rfl hb, ha, fun q hq => ?_, by omega⟩
    have := hlt q (by omega)
    rw [if_pos hb, List.getElem?_append_left hq] at this
    exact this
  · rw [hw] at hb ha
    rw [if_pos hb] at hle
    refine .inr ⟨hw, lay_lyV hR h.lay rfl hb, ha, fun q hq => ?_, by omega⟩
    have := hlt (lowN R L c + q) (by rw [if_pos hb]; omega)
    rw [List.getElem?_append_right (by rw [e1]; omega), e1, if_pos hb, show lowN R L c + q - lowN R L c = q by omega, ← Nat.add_assoc] at this
    exact this

end Go.Proofs.Ythepfpiphlfgnaa
