/-
  YthepfpiphlfgnaaCz: the texts Qa, Kn, Cn, Co, Cp, Cq, To, Tq, Ll, Lm, Ln, Ts, Lo, Lr, Lt, Ha, Gw in one file.
-/
import Derived.Maps.Own
import Derived.Maps.OwnSet
import Derived.Maps.Views
import Derived.StringKeys
import Derived.Maps.Range
import Derived.Maps.RangeWalk
import Derived.Maps.OwnOps
import Derived.BigRegion
import Derived.Deep.RegionHeld
import Derived.Test.YthepfpiphlfgnaaQz
import Derived.Test.YthepfpiphlfgnaaRw
import Derived.Test.YthepfpiphlfgnaaRep
import Derived.Test.YthepfpiphlfgnaaWa
import Derived.Test.YthepfpiphlfgnaaTt
import Derived.Test.YthepfpiphlfgnaaLz
import Derived.Test.YthepfpiphlfgnaaLee
import Derived.Test.YthepfpiphlfgnaaFd3

/-
  YthepfpiphlfgnaaQa: plain Lean: counting tilings by what is covered; the keys of what is known.
-/
namespace Go.Proofs.Ythepfpiphlfgnaa

/-- The list that a covering tells; how many tilings have it. -/
def cvL (cv : List Bool) : List Int := cv.map fun b => if b = true then 1 else 0
def cN (R : Reg) (cv : List Bool) : Nat := (cT R (cvL cv)).length
/-- Does a cell want a domino? -/
def opC (R : Reg) (cv : List Bool) (j : Nat) : Bool := R.C.getD j false && !cv.getD j false
theorem cvL_len (cv : List Bool) : (cvL cv).length = cv.length := by simp [cvL]
theorem cvL_at (cv : List Bool) (j : Nat) : (cvL cv).getD j 0 = if cv.getD j false = true then 1 else 0 := by
  unfold cvL
  rw [List.getD_eq_getElem?_getD, List.getD_eq_getElem?_getD, List.getElem?_map]
  cases cv[j]? with
  | none => rfl
  | some b => rfl
theorem opB_cvL (R : Reg) (cv : List Bool) (j : Nat) : opB R (cvL cv) j = opC R cv j := by
  unfold opB opC
  rw [cvL_at]
  cases cv.getD j false <;> rfl
theorem cN_le (R : Reg) (cv : List Bool) : cN R cv ≤ 262144 := allT_len R 18 _
theorem cT_same {R : Reg} (hR : R.ok) {L L' : List Int} (hl : L.length = R.C.length) (hl' : L'.length = R.C.length) (h : ∀ j, opB R L' j = opB R L j) : (cT R L').length = (cT R L).length := allT_same hR hR rfl rfl 18 L L' hl hl' h
theorem cN_same {R : Reg} (hR : R.ok) {cv cv' : List Bool} (hl : cv.length = R.C.length) (hl' : cv'.length = R.C.length) (h : ∀ j, opC R cv' j = opC R cv j) : cN R cv' = cN R cv :=
  cT_same hR (by rw [cvL_len]; exact hl) (by rw [cvL_len]; exact hl') fun j => by rw [opB_cvL, opB_cvL]; exact h j
/-- What a list covers. -/
theorem cN_list {R : Reg} (hR : R.ok) {L : List Int} (hl : L.length = R.C.length) : cN R (L.map fun z => z != 0) = (cT R L).length := by
  refine cT_same hR hl (by rw [cvL_len, List.length_map]; exact hl) fun j => ?_
  rw [opB_cvL]
  unfold opC opB
  congr 1
  rw [List.getD_eq_getElem?_getD, List.getD_eq_getElem?_getD, List.getElem?_map]
  cases L[j]? with
  | none => rfl
  | some z =>
    show (!(z != 0)) = decide (z = 0)
    by_cases hz : z = 0
    · subst hz; rfl
    · rw [decide_eq_false hz]; simpa using hz
theorem cN_none {R : Reg} {cv : List Bool} (h : ∀ j, j < R.C.length → opC R cv j = false) : cN R cv = 1 := by
  unfold cN
  rw [cT_none (fiV_none.2 fun j hj => by rw [opB_cvL]; exact h j hj)]
  rfl
/-- The covering behind a domino; how many tilings have this domino. -/
def nxC (cv : List Bool) (c e : Nat) : List Bool := (cv.set c true).set e true
def wyN2 (R : Reg) (cv : List Bool) (c : Nat) (way : Int) : Nat := if decide (0 ≤ R.step c way) && (R.C.getD (R.step c way).toNat false && !cv.getD (R.step c way).toNat false) then cN R (nxC cv c (R.step c way).toNat) else 0
theorem nxC_len (cv : List Bool) (c e : Nat) : (nxC cv c e).length = cv.length := by simp [nxC]
theorem opC_nx {R : Reg} {cv : List Bool} {c e : Nat} (hc : c < cv.length) (he : e < cv.length) (j : Nat) : opC R (nxC cv c e) j = (opC R cv j && !decide (j = c) && !decide (j = e)) := by
  unfold opC nxC
  rw [List.getD_eq_getElem?_getD, List.getD_eq_getElem?_getD, List.getD_eq_getElem?_getD, List.getElem?_set, List.getElem?_set, List.length_set]
  by_cases h1 : e = j
  · subst h1; rw [if_pos rfl, if_pos he]; simp
  · rw [if_neg h1]
    by_cases h2 : c = j
    · subst h2; rw [if_pos rfl, if_pos hc]; simp
    · rw [if_neg h2]
      simp [Ne.symm h1, Ne.symm h2]
theorem cN_some {R : Reg} (hR : R.ok) {cv : List Bool} (hl : cv.length = R.C.length) {c : Nat} (hc : c < R.C.length) (ho : opC R cv c = true) (hf : ∀ j, j < c → opC R cv j = false) : cN R cv = wyN2 R cv c 1 + wyN2 R cv c 2 := by
  have hfi : fiV R (cvL cv) = some c := fiV_some.2 ⟨hc, by rw [opB_cvL]; exact ho, fun j hj => by rw [opB_cvL]; exact hf j hj⟩
  have hcl : (cvL cv).length = R.C.length := by rw [cvL_len]; exact hl
  have key : ∀ way : Int, way ≠ 0 → (if frB R (cvL cv) c way = true then cT R (lyV R (cvL cv) c way) else []).length = wyN2 R cv c way := by
    intro way hw
    have hfr : frB R (cvL cv) c way = (decide (0 ≤ R.step c way) && (R.C.getD (R.step c way).toNat false && !cv.getD (R.step c way).toNat false)) := by
      unfold frB
      rw [opB_cvL, opB_cvL, ho, Bool.true_and]
      rfl
    unfold wyN2
    rw [← hfr]
    by_cases hb : frB R (cvL cv) c way = true
    · rw [if_pos hb, if_pos hb]
      obtain ⟨e, he, _, _, h3, _⟩ := frB_iff.1 hb
      have hel := cell_lt h3
      rw [he, Int.toNat_natCast]
      refine (cT_same hR (by rw [lyV_len]; exact hcl) (by rw [cvL_len, nxC_len]; exact hl) fun j => ?_).symm
      rw [opB_cvL, opB_lyV hR hcl hw he hc hel, opB_cvL, opC_nx (by omega) (by omega)]
    · rw [if_neg hb, if_neg hb]; rfl
  unfold cN
  rw [cT_some hR hcl hfi, List.length_append, key 1 (by decide), key 2 (by decide)]
/-- Nothing is wanted ahead of a cell, also behind a domino from it. -/
theorem opC_ahead {R : Reg} {cv : List Bool} {c e : Nat} (hc : c < cv.length) (he : e < cv.length) (hf : ∀ j, j < c → opC R cv j = false) : ∀ j, j < c + 1 → opC R (nxC cv c e) j = false := by
  intro j hj
  rw [opC_nx hc he]
  by_cases h : j = c
  · subst h; simp
  · rw [hf j (by omega)]; rfl

/-! ### Keys -/
def keyB (b : Bool) : UInt8 := if b = true then 49 else 48
def keyL (cell : Nat) (cv : List Bool) : List UInt8 := UInt8.ofNat cell :: (cv.drop cell).map keyB
theorem keyB_inj {a b : Bool} (h : keyB a = keyB b) : a = b := by
  cases a <;> cases b <;> first | rfl | (exact absurd h (by decide))
theorem map_inj {α β : Type} {f : α → β} (hf : ∀ a b, f a = f b → a = b) : ∀ {l m : List α}, l.map f = m.map f → l = m
  | [], [], _ => rfl
  | [], _ :: _, h => by cases h
  | _ :: _, [], h => by cases h
  | a :: l, b :: m, h => by
    simp only [List.map_cons, List.cons.injEq] at h
    rw [hf _ _ h.1, map_inj hf h.2]
theorem keyL_inj {c c' : Nat} {cv cv' : List Bool} (hc : c < 256) (hc' : c' < 256) (h : keyL c cv = keyL c' cv') : c = c' ∧ cv.drop c = cv'.drop c' := by
  unfold keyL at h
  simp only [List.cons.injEq] at h
  refine ⟨?_, map_inj (fun a b => keyB_inj) h.2⟩
  have := congrArg UInt8.toNat h.1
  simp only [UInt8.toNat_ofNat'] at this
  omega
/-- Equal keys, equal counts. -/
theorem key_same {R : Reg} (hR : R.ok) {c c' : Nat} {cv cv' : List Bool} (hl : cv.length = R.C.length) (hl' : cv'.length = R.C.length) (hc : c < R.C.length) (hc' : c' < R.C.length) (hf : ∀ j, j < c → opC R cv j = false) (hf' : ∀ j, j < c' → opC R cv' j = false) (h : keyL c cv = keyL c' cv') : cN R cv' = cN R cv := by
  have h36 := (len_bd hR).2
  obtain ⟨rfl, hd⟩ := keyL_inj (by omega) (by omega) h
  refine cN_same hR hl hl' fun j => ?_
  by_cases hj : j < c
  · rw [hf j hj, hf' j hj]
  · have hg : cv'.getD j false = cv.getD j false := by
      have := congrArg (fun l => l.getD (j - c) false) hd
      simp only [List.getD_eq_getElem?_getD, List.getElem?_drop] at this
      rw [show c + (j - c) = j by omega] at this
      rw [List.getD_eq_getElem?_getD, List.getD_eq_getElem?_getD]
      exact this.symm
    unfold opC
    rw [hg]

end Go.Proofs.Ythepfpiphlfgnaa

/-
  YthepfpiphlfgnaaKn: what the map of 'count' holds: at each key that may be asked for, how many ways go on.
-/
namespace Go.Proofs.Ythepfpiphlfgnaa
open Go.RowKit Go.Maps

/-- A datum of the map: no handle in it. -/
abbrev DU := DataW Unit
def zU : DU := .lit (.int .i64 0)
def KnownD (R : Reg) (D : DU) : Prop := ∀ (c : Nat) (cv : List Bool), c < R.C.length → cv.length = R.C.length → (∀ j, j < c → opC R cv j = false) → Maps.has D (.string (keyL c cv)) = true → D.atKey (.string (keyL c cv)) zU = .lit (.int .i64 (cN R cv))

theorem known_nil (R : Reg) : KnownD R (.map []) := by
  intro c cv _ _ _ h
  simp [Maps.has] at h

theorem known_put {R : Reg} (hR : R.ok) {D : DU} (hD : IsMap D) (h : KnownD R D) {c : Nat} {cv : List Bool} (hc : c < R.C.length) (hl : cv.length = R.C.length) (hf : ∀ j, j < c → opC R cv j = false) : KnownD R (D.put (.string (keyL c cv)) (.lit (.int .i64 (cN R cv)))) := by
  intro c' cv' hc' hl' hf' hh
  by_cases he : keyL c' cv' = keyL c cv
  · rw [he, atKey_put_same hD (show WideAt.IsKeyLit (.string (keyL c cv)) from trivial), key_same hR hl hl' hc hc' hf hf' he.symm]
  · have hne : (Lit.string (keyL c' cv')) ≠ .string (keyL c cv) := fun e => he (by injection e)
    rw [has_put_other hne] at hh
    rw [atKey_put_other hne]
    exact h c' cv' hc' hl' hf' hh

end Go.Proofs.Ythepfpiphlfgnaa

/-
  YthepfpiphlfgnaaCn: 'count' of the program: the search that remembers.
-/
namespace Go.Proofs.Ythepfpiphlfgnaa
open Go.RowKit Go.Maps

theorem Bl.info_bool : (Try.prog.info? 4).map (fun i => (i.zero, i.size, i.bytes)) = some (some (.bool false), 1, 1) := by kernel_rfl
theorem Bl.info_byte : (Try.prog.info? 5).map (fun i => (i.zero, i.size, i.bytes)) = some (some (.int .u8 0), 1, 1) := by kernel_rfl

set_option maxHeartbeats 2000000 in
set_option maxRecDepth 100000 in
theorem cloneB_any (g c B : Nat) (cv : List Bool) (w : World) (h1 : 1 ≤ cv.length) (hn : cv.length ≤ 4096) (hr : Reads w B 1 (some ⟨g, 0, none⟩) cv.length (cv.map Value.bool)) :
    Calls Try.prog 182 #[.slice (some ⟨g, 0, none⟩) cv.length c] w fun e w' => ∃ g' c', e = .returned (.slice (some ⟨g', 0, none⟩) cv.length c') ∧ w'.ownsRow w.heap.size 4 1 (.slice (some ⟨g', 0, none⟩) cv.length c') cv.length (cv.map Value.bool) ∧ Below w.heap.size w w' := by
  obtain ⟨i0, hi, hz0, hz1, hz2⟩ := info_parts Bl.info_bool
  have q22 : ∀ (w : World) (a : Option Addr) (n c n' c' : Nat), (binOp .eql 23 (.slice a n c) (.slice none n' c')).run Try.prog w = .ok (.bool a.isNone) w := fun w a n c n' c' => Lib.run_eql_slice_nil w _ _ a n c n' c' Try.underlying23
  have hcg : ∀ j (hj : j < cv.length), w.cell? ⟨g, j, none⟩ = some (.bool (cv.getD j false)) := fun j hj => by
    obtain ⟨p, hp, _, hc⟩ := getB hr hj
    injection hp with hp
    subst hp
    rw [Addr.add_lit, Nat.zero_add] at hc
    exact hc
  have HCG := Lib.hid hcg
  clear hcg hr
  go_enter Try.func182, Try.ntmps182
  go_wp2_with (at_builtin; refine wpList_append_own _ rfl _ _ 23 rfl w.heap.size 4 i0 (.bool false) 1 1 Try.underlying23 hi hz0 hz1 hz2 rfl (by decide) _ _ _ rfl (World.ownsRow_made w #[] 0 (Nat.le_refl _) (Nat.zero_le _) rfl) ⟨g, 0, none⟩ cv.length c (cv.map Value.bool) rfl ?qc1 ?qc2 ?qc3 ?qc4 ?qc5 ?qc6 ?_)
  case qc1 => simp
  case qc2 =>
    intro j u hj
    have hjn : j < cv.length := by simpa using (List.getElem?_eq_some_iff.1 hj).1
    rw [Addr.add_lit]
    refine Lib.cell?_alloc_some _ ?_
    rw [Nat.zero_add, HCG.out j hjn]
    have e : (cv.map Value.bool)[j]? = some (Value.bool (cv.getD j false)) := by simp [List.getD, List.getElem?_eq_getElem hjn]
    rw [e] at hj
    exact hj
  case qc3 => intro u hu; obtain ⟨x, _, rfl⟩ := List.mem_map.1 hu; rfl
  case qc4 => unfold maxLen; omega
  case qc5 => omega
  case qc6 => simp
  intro v' w1 hown hgrow hnil
  obtain ⟨g', c', rfl, _⟩ := own_shape hown (by omega)
  go_wp2
  go_ret
  refine ⟨g', c', by simp, by simpa using hown, ?_⟩
  exact ((Below.refl _ w).alloc (Nat.le_refl _) _).grown hgrow (by simp) (by intro k hk; simp [Value.ownBlock] at hk; omega)

/-- Where the count stands: the captured variables, the map, the region's cells. -/
structure CWn (R : Reg) (A : Option Addr) (c B rb kb wb mb : Nat) (fv : Value) (w wx : World) (n : Nat) (D : DU) : Prop where
  box : Blk wx rb 25 #[.int .i64 R.W, .int .i64 R.T, .slice A R.C.length c]
  kn : Blk wx kb 143 #[.map (some mb)]
  wk : Blk wx wb 95 #[fv]
  map : wx.ownsMap Try.prog 9 (plainElem Try.prog 3) mb n D
  rd : Reads wx B 1 A R.C.length (R.C.map Value.bool)
  ok : KnownD R D
  gr : w.grownBy wx (some mb)

theorem map_blk_ne {w : World} {P : Program} {k e : TypeId} {b n g : Nat} {D : DU} {t : TypeId} {cs : Array Value} (h : w.ownsMap P k (plainElem P e) b n D) (hg : Blk w g t cs) : some g ≠ some b := by
  intro he
  injection he with he
  subst he
  obtain ⟨es, clock, hb, _⟩ := h
  unfold Blk at hg
  rw [hb] at hg
  simp at hg
theorem map_own_ne {w : World} {P : Program} {k e : TypeId} {b n : Nat} {D : DU} (h : w.ownsMap P k (plainElem P e) b n D) {base : Nat} {t : TypeId} {size m : Nat} {v : Value} {xs : List Value} (ho : w.ownsRow base t size v m xs) : v.ownBlock ≠ some b := by
  rcases ho.2 with ⟨rfl, _⟩ | ⟨g', cap, cur, rfl, _, hh, _⟩
  · simp [Value.ownBlock]
  · intro he
    have : g' = b := by simpa [Value.ownBlock] using he
    subst this
    obtain ⟨es, clock, hb, _⟩ := h
    rw [hb] at hh
    simp at hh
theorem grownMap_below {w w' : World} {b B : Nat} (h : w.grownBy w' (some b)) (hb : B ≤ b) (hB : B ≤ w.heap.size) : Below B w w' :=
  ⟨h.os, h.tape, h.output, h.size, fun k hk => h.block k (by omega) (by simp; omega)⟩
theorem below_grown {w w' : World} (h : Below w.heap.size w w') (row : Option Nat) : w.grownBy w' row := ⟨h.os, h.tape, h.output, h.size, fun k hk _ => h.block k hk⟩

section
variable {R : Reg} {A : Option Addr} {c B rb kb wb mb n n' : Nat} {fv : Value} {w wx w2 : World} {D D' : DU}
theorem CWn.grown (H : CWn R A c B rb kb wb mb fv w wx n D) (hB : B ≤ mb) (hg : wx.grownBy w2 (some mb)) (hm : w2.ownsMap Try.prog 9 (plainElem Try.prog 3) mb n' D') (hk : KnownD R D') : CWn R A c B rb kb wb mb fv w w2 n' D' :=
  ⟨H.box.grown hg (map_blk_ne H.map H.box), H.kn.grown hg (map_blk_ne H.map H.kn), H.wk.grown hg (map_blk_ne H.map H.wk), hm, H.rd.below (grownMap_below hg hB (by have := H.map.lt; omega)), hk, H.gr.trans hg⟩
theorem CWn.below (H : CWn R A c B rb kb wb mb fv w wx n D) (hB : B ≤ mb) (hb : Below wx.heap.size wx w2) : CWn R A c B rb kb wb mb fv w w2 n D :=
  H.grown hB (below_grown hb _) (H.map.kept (below_grown hb none) (by simp)) H.ok
end

def bytesV (l : List UInt8) : List Value := l.map fun x => .int .u8 (x.toNat : Int)
theorem grown_none {w w' : World} (h : w.grownBy w' none) : Below w.heap.size w w' := ⟨h.os, h.tape, h.output, h.size, fun k hk => h.block k hk (by simp)⟩
/-- The key while it is written. -/
structure KW (w wx : World) (v : Value) (l : List UInt8) : Prop where
  own : wx.ownsRow w.heap.size 5 1 v l.length (bytesV l)
  below : Below w.heap.size w wx
theorem KW.push {w wx w2 : World} {v v' : Value} {l : List UInt8} (H : KW w wx v l) {o : Obj} (x : UInt8) {u : Value} (hu : u = .int .u8 (x.toNat : Int)) (hown : w2.ownsRow w.heap.size 5 1 v' (l.length + 1) (bytesV l ++ [u])) (hgr : (wx.alloc o).grownBy w2 v.ownBlock) : KW w w2 v' (l ++ [x]) := by
  subst hu
  refine ⟨by simpa [bytesV] using hown, ?_⟩
  exact (H.below.alloc H.below.size o).grown hgr (by have := H.below.size; simp; omega) (fun j hj => (H.own.lt j hj).1)

end Go.Proofs.Ythepfpiphlfgnaa

/-
  YthepfpiphlfgnaaCo: 'count' of the program: the function that calls itself.
-/
namespace Go.Proofs.Ythepfpiphlfgnaa
open Go.RowKit Go.Maps Go.WideMaps

theorem CWn.here {R : Reg} {A : Option Addr} {c B rb kb wb mb n : Nat} {fv : Value} {w wx : World} {D : DU} (H : CWn R A c B rb kb wb mb fv w wx n D) : CWn R A c B rb kb wb mb fv wx wx n D := ⟨H.box, H.kn, H.wk, H.map, H.rd, H.ok, World.grownBy.refl _ _⟩
theorem CWn.trans {R : Reg} {A : Option Addr} {c B rb kb wb mb n n' : Nat} {fv : Value} {w wx w2 : World} {D D' : DU} (H : CWn R A c B rb kb wb mb fv w wx n D) (H' : CWn R A c B rb kb wb mb fv wx w2 n' D') : CWn R A c B rb kb wb mb fv w w2 n' D' := ⟨H'.box, H'.kn, H'.wk, H'.map, H'.rd, H'.ok, H.gr.trans H'.gr⟩

/-- The key's first bytes. -/
def keyP (k : Nat) (cv : List Bool) (i : Nat) : List UInt8 := UInt8.ofNat k :: ((cv.drop k).take i).map keyB
theorem keyP_all (k : Nat) (cv : List Bool) : keyP k cv (cv.length - k) = keyL k cv := by
  unfold keyP keyL
  rw [List.take_of_length_le (by simp)]
theorem keyP_succ {k i : Nat} {cv : List Bool} (h : k + i < cv.length) : keyP k cv (i + 1) = keyP k cv i ++ [keyB (cv.getD (k + i) false)] := by
  unfold keyP
  have hd : i < (cv.drop k).length := by simp; omega
  rw [List.take_succ_eq_append_getElem hd]
  simp [List.getD, List.getElem?_eq_getElem h]
theorem keyP_len {k i : Nat} {cv : List Bool} (h : k + i ≤ cv.length) : (keyP k cv i).length = i + 1 := by
  simp [keyP]; omega

/-- The ways that were gone. -/
def preN (R : Reg) (cv : List Bool) (k : Nat) : Nat → Nat
  | 0 => 0
  | j + 1 => preN R cv k j + wyN2 R cv k ((j : Int) + 1)


/-- The closure's value. -/
def fvC (rb kb wb : Nat) : Value := .func (.func 181) #[] #[.pointer (some ⟨rb, 0, none⟩), .pointer (some ⟨kb, 0, none⟩), .pointer (some ⟨wb, 0, none⟩)]

theorem own_bytes {w : World} {b g m c : Nat} {l : List UInt8} (h : w.ownsRow b 5 1 (.slice (some ⟨g, 0, none⟩) m c) m (bytesV l)) (hl : l.length = m) : ∀ j (hj : j < l.length), w.cell? ((⟨g, 0, none⟩ : Addr).add j) = some (.int .u8 (l[j].toNat : Int)) := fun j hj => by
  rw [Addr.add_lit, Nat.zero_add, h.cellAt j (by omega)]
  simp [bytesV, hj]
theorem wyN2_le (R : Reg) (cv : List Bool) (k : Nat) (way : Int) : wyN2 R cv k way ≤ 262144 := by
  unfold wyN2
  split
  · exact cN_le _ _
  · omega
theorem preN_le (R : Reg) (cv : List Bool) (k : Nat) : ∀ j, preN R cv k j ≤ j * 262144
  | 0 => by simp [preN]
  | j + 1 => by
    have := preN_le R cv k j
    have := wyN2_le R cv k ((j : Int) + 1)
    simp only [preN]
    omega
theorem wy_no {R : Reg} {cv : List Bool} {k : Nat} {way : Int} (h : R.step k way = -1) : wyN2 R cv k way = 0 := by unfold wyN2; rw [h]; rfl
theorem wy_at {R : Reg} {cv : List Bool} {k e : Nat} {way : Int} (h : R.step k way = (e : Int)) : wyN2 R cv k way = if opC R cv e = true then cN R (nxC cv k e) else 0 := by
  unfold wyN2 opC
  rw [h, Int.toNat_natCast, decide_eq_true (show (0 : Int) ≤ (e : Int) by omega)]
  rfl

set_option maxHeartbeats 4000000 in
set_option maxRecDepth 20000 in
theorem walk_any (R : Reg) (hR : R.ok) (A : Option Addr) (c B rb kb wb mb : Nat) (hB : B ≤ mb) : ∀ (r cell : Nat) (cv : List Bool) (b g c' n : Nat) (D : DU) (w : World), R.C.length ≤ cell + r → cell ≤ R.C.length → cv.length = R.C.length → (∀ j, j < cell → opC R cv j = false) →
    CWn R A c B rb kb wb mb (fvC rb kb wb) w w n D → w.ownsRow b 4 1 (.slice (some ⟨g, 0, none⟩) R.C.length c') R.C.length (cv.map Value.bool) → n + 2 ^ r ≤ 4294967296 * 1048576 →
    Calls Try.prog 181 #[.slice (some ⟨g, 0, none⟩) R.C.length c', .int .i64 (cell : Nat), .pointer (some ⟨rb, 0, none⟩), .pointer (some ⟨kb, 0, none⟩), .pointer (some ⟨wb, 0, none⟩)] w fun e w' => e = .returned (.int .i64 (cN R cv : Nat)) ∧ ∃ n' D', CWn R A c B rb kb wb mb (fvC rb kb wb) w w' n' D' ∧ n' + 1 ≤ n + 2 ^ r := by
  intro r
  induction r using Nat.strongRecOn with
  | ind r ih =>
  intro cell cv b g c' n D w hcr hcl hl hf hW ho hn
  have hl36 := (len_bd hR).2
  have hcap : R.C.length ≤ c' := by
    rcases ho.2 with ⟨h0, _⟩ | ⟨g', cap, cur, hv, _, _, hcp, _⟩
    · simp at h0
    · simp only [Value.slice.injEq] at hv
      omega
  have h2r : 0 < 2 ^ r := Nat.two_pow_pos r
  have HN := Lib.hid hn
  have H2R := Lib.hid h2r
  have HL := Lib.hid hl
  have HCR := Lib.hid hcr
  have HF := Lib.hid hf
  have hST := fun (k : Nat) (hk : k < R.C.length) (way : Int) w' => hide (step_any R hR A R.C.length c k hk way w')
  have hRC : Reads w w.heap.size 1 (some ⟨g, 0, none⟩) R.C.length (cv.map Value.bool) := Reads.of_own ho
  have hCV := fun (k : Nat) (hk : k < R.C.length) => getB hRC hk
  have hCG := fun (k : Nat) (hk : k < R.C.length) => getB hW.rd hk
  have IH := Lib.hid ih
  clear ih hn hl hcr hf h2r hRC
  obtain ⟨b0, b1, b2⟩ := blk3 hW.box
  go_enter Try.func181, Try.ntmps181
  go_upto_region 1 with fail
  go_loopg [1] (R.C.length - cell) (fun r s1 wr => ∃ k : Nat, k + r = R.C.length ∧ cell ≤ k ∧ s1 = .int .i64 (k : Nat) ∧ (∀ j, j < k → opC R cv j = false) ∧ wr = w)
  case atStart => exact ⟨cell, by omega, Nat.le_refl _, rfl, HF.out, rfl⟩
  case round =>
    obtain ⟨k, hk, hck, rfl, hall, rfl⟩ := hrel
    have HK := Lib.hid hk
    have HCK := Lib.hid hck
    have HALL := Lib.hid hall
    clear hk hck hall
    by_cases hlt : k < R.C.length
    · obtain ⟨ac, rfl, hac, hcc⟩ := hCG k hlt
      obtain ⟨ad, e1, had, hcd⟩ := hCV k hlt
      injection e1 with e1
      subst e1
      rw [Addr.add_lit, Nat.zero_add] at hcd
      have hop : opC R cv k = (R.C.getD k false && !cv.getD k false) := rfl
      have HOP := Lib.hid hop
      clear hop
      cases hcb : R.C.getD k false with
      | false =>
        rw [hcb] at hcc HOP
        have HNO : Hid (opC R cv k = false) := Lib.hid (by rw [HOP.out]; rfl)
        clear hcb HOP
        go_wp2_with fail
        go_roundg (R.C.length - (k + 1))
        case measure => have := HK.out; omega
        case rel =>
          refine ⟨k + 1, by have := HK.out; omega, by have := HCK.out; omega, by go_num, fun j hj => ?_, rfl⟩
          by_cases hjk : j = k
          · subst hjk; exact HNO.out
          · exact HALL.out j (by omega)
      | true =>
        rw [hcb] at hcc HOP
        cases hvb : cv.getD k false with
        | true =>
          rw [hvb] at hcd HOP
          have HNO : Hid (opC R cv k = false) := Lib.hid (by rw [HOP.out]; rfl)
          clear hcb hvb HOP
          go_wp2_with fail
          go_roundg (R.C.length - (k + 1))
          case measure => have := HK.out; omega
          case rel =>
            refine ⟨k + 1, by have := HK.out; omega, by have := HCK.out; omega, by go_num, fun j hj => ?_, rfl⟩
            by_cases hjk : j = k
            · subst hjk; exact HNO.out
            · exact HALL.out j (by omega)
        | false =>
          rw [hvb] at hcd HOP
          have HYES : Hid (opC R cv k = true) := Lib.hid (by rw [HOP.out]; rfl)
          clear hcb hvb HOP
          have hne : ((k : Int) == (R.C.length : Int)) = false := by simp; omega
          obtain ⟨w0, hw0⟩ : ∃ w0, w0 = wr := ⟨_, rfl⟩
          subst hw0
          obtain ⟨i0, hi, hz0, hz1, hz2⟩ := info_parts Bl.info_byte
          go_upto_region 5 with fail
          go_upto_region 6 with (at_make; refine wpList_make_own _ rfl _ _ 22 rfl w0.heap.size 5 i0 (.int .u8 0) 1 Try.underlying22 hi hz0 hz1 .i64 .i64 ((R.C.length : Int) + 1) (R.C.length + 1) rfl rfl (by simp) (by rw [hz2]; omega) (by unfold maxLen; omega) (Nat.le_refl _) ?_; intro w1 hk1 hgr1)
          have hKW0 : KW w0 w1 (.slice (some ⟨w0.heap.size, 0, none⟩) 0 (R.C.length + 1)) [] := ⟨by simpa [bytesV] using hk1, grown_none hgr1⟩
          have hs1 := hKW0.below.size
          have hu8 : IntKind.u8.wrap (k : Int) = (k : Int) := IntWalk.u8_in _ (by omega)
          go_upto_region 7 with (at_builtin; go_loud (refine wpList_app rfl _ _ _ rfl w0.heap.size 5 (.int .u8 0) 1 Try.underlying22 Bl.info_byte rfl (by omega) _ 0 [] rfl (hk1.alloc _) w1.heap.size (.int .u8 (k : Int)) rfl (by simp) rfl (by omega) (by simp; omega) ?_; intro g1 c1 w2 hown2 hgr2 hgg2 hge2 hcc2))
          have hKW1 := hKW0.push (UInt8.ofNat k) (by rw [show (UInt8.ofNat k).toNat = k by simp; omega]) hown2 hgr2
          have hP0 : [] ++ [UInt8.ofNat k] = keyP k cv 0 := by simp [keyP]
          rw [hP0] at hKW1
          clear hKW0 hs1 hk1 hgr1 hown2 hgr2 hgg2 hge2 hcc2 hP0
          have hkc : ¬ c' = k := by omega
          go_upto_region 8 with fail
          go_loopg [8, 55] (R.C.length - k) (fun r s8 s55 wx => ∃ (i g1 c1 : Nat), i + r = R.C.length - k ∧ s55 = .int .i64 (i : Nat) ∧ s8 = .slice (some ⟨g1, 0, none⟩) (i + 1) c1 ∧ KW w0 wx (.slice (some ⟨g1, 0, none⟩) (i + 1) c1) (keyP k cv i))
          case atStart => exact ⟨0, _, _, by omega, rfl, rfl, hKW1⟩
          case round =>
            obtain ⟨i, g1, c1, hi, rfl, rfl, hKW⟩ := hrel
            have HI := Lib.hid hi
            have hik : (keyP k cv i).length = i + 1 := keyP_len (by rw [HL.out]; omega)
            have HIK := Lib.hid hik
            clear hi hik
            by_cases hil : i < R.C.length - k
            · have hbs := hKW.below.size
              obtain ⟨ad, e1, _, hce⟩ := hCV (k + i) (by omega)
              injection e1 with e1
              subst e1
              rw [Addr.add_lit, Nat.zero_add] at hce
              have hce := cell_kept hce hKW.below
              have hown := hKW.own
              rw [HIK.out] at hown
              have HSU := Lib.hid (keyP_succ (k := k) (i := i) (cv := cv) (by rw [HL.out]; omega))
              have hm1 : i + 1 ≤ 4294967296 := by omega
              cases hvb : cv.getD (k + i) false with
              | true =>
                rw [hvb] at hce HSU
                go_wp2_with (at_builtin; go_loud (refine wpList_app rfl _ _ _ rfl w0.heap.size 5 (.int .u8 0) 1 Try.underlying22 Bl.info_byte rfl (by omega) _ (i + 1) _ rfl (hown.alloc _) wr.heap.size (.int .u8 49) rfl (by simp) rfl hm1 (by simp; omega) ?_; intro g2 c2 w3 hown3 hgr3 hgg3 hge3 hcc3))
                go_roundg (R.C.length - k - (i + 1))
                case measure => have := HI.out; omega
                case rel =>
                  have hp := hKW.push 49 rfl (by rw [HIK.out]; exact hown3) hgr3
                  refine ⟨i + 1, g2, c2, by have := HI.out; omega, by go_num, rfl, ?_⟩
                  rw [HSU.out]
                  exact hp
              | false =>
                rw [hvb] at hce HSU
                go_wp2_with (at_builtin; go_loud (refine wpList_app rfl _ _ _ rfl w0.heap.size 5 (.int .u8 0) 1 Try.underlying22 Bl.info_byte rfl (by omega) _ (i + 1) _ rfl (hown.alloc _) wr.heap.size (.int .u8 48) rfl (by simp) rfl hm1 (by simp; omega) ?_; intro g2 c2 w3 hown3 hgr3 hgg3 hge3 hcc3))
                go_roundg (R.C.length - k - (i + 1))
                case measure => have := HI.out; omega
                case rel =>
                  have hp := hKW.push 48 rfl (by rw [HIK.out]; exact hown3) hgr3
                  refine ⟨i + 1, g2, c2, by have := HI.out; omega, by go_num, rfl, ?_⟩
                  rw [HSU.out]
                  exact hp
            · obtain rfl : i = R.C.length - k := by have := HI.out; omega
              have hkl : keyP k cv (R.C.length - k) = keyL k cv := by rw [← HL.out]; exact keyP_all k cv
              rw [hkl] at hKW
              have hkl2 : (keyL k cv).length = R.C.length - k + 1 := by rw [← hkl]; exact HIK.out
              have hKEY := @known_put R hR
              have hW1 := hW.below hB hKW.below
              have ho1 := own_below ho hKW.below (Nat.le_refl _)
              have HKL := Lib.hid hkl2
              have hcv : ∀ W : World, W.ownsRow w0.heap.size 5 1 (.slice (some ⟨g1, 0, none⟩) (R.C.length - k + 1) c1) (R.C.length - k + 1) (bytesV (keyL k cv)) → (convert 22 9 (.slice (some ⟨g1, 0, none⟩) (R.C.length - k + 1) c1)).run Try.prog W = .ok (.string ⟨(keyL k cv).toArray⟩) W := fun W hWo => by
                have := run_convert_bytes_back (P := Try.prog) W 22 9 5 ⟨g1, 0, none⟩ c1 (keyL k cv) Try.underlying22 Try.underlying5 Try.underlying9 (own_bytes hWo HKL.out)
                rw [HKL.out] at this
                exact this
              have HCV := Lib.hid hcv
              have hkr := hKW.own
              rw [HKL.out] at hkr
              have hc0 := hcv wr hkr
              have hkey : keyOf Try.prog 9 (.string ⟨(keyL k cv).toArray⟩) = some (.string (keyL k cv)) := by
                simpa using keyOf_string_mk (P := Try.prog) Try.underlying9 (s := ⟨(keyL k cv).toArray⟩) (by have h1 := HKL.out; simp only [ByteArray.size, List.size_toArray, maxLen]; omega)
              have HKEY := Lib.hid hkey
              have hz3 : ∀ W : World, (zeroValue 3).run Try.prog W = .ok (.int .i64 0) W := fun W => by kernel_rfl
              obtain ⟨vv, vps, hlk, hvv⟩ := hW1.map.look_ok (string_keyed Try.underlying9) Try.underlying143 (hz3 _) (plainElem_int Try.underlying3 (by decide)) hkey
              have k0 := hW1.kn.cell 0
              simp at k0
              clear hkl hkl2 hcv hkey hz3 hKW1
              obtain ⟨z, rfl, hzz, _⟩ := plainElem_int_inv Try.underlying3 hvv
              have hzv : D.atKey (.string (keyL k cv)) zU = .lit (.int .i64 z) := congrArg Prod.fst hzz
              have HZV := Lib.hid hzv
              have HHAS := Lib.hid (hW1.ok k cv hlt HL.out HALL.out)
              clear hzv hzz hvv
              cases hh : Maps.has D (.string (keyL k cv)) with
              | true =>
                rw [hh] at hlk HHAS
                have hzc : z = (cN R cv : Int) := by
                  have h1 := HHAS.out rfl
                  rw [HZV.out] at h1
                  simpa using h1
                go_wp2_with fail
                go_ret
                have hfin : n + 1 ≤ n + 2 ^ r := by have := H2R.out; omega
                first
                  | exact ⟨rfl, n, D, hW1, hfin⟩
                  | exact ⟨rfl, n, ⟨D, hW1⟩, hfin⟩
              | false =>
                rw [hh] at hlk
                clear HHAS HZV hh
                have hba : Below wr.heap.size wr (wr.alloc (.cells #[.int .i64 1, .int .i64 2] 3)) := (Below.refl _ _).alloc (Nat.le_refl _) _
                have hq6 := Blk.new wr 3 #[.int .i64 1, .int .i64 2]
                have hW2 := hW1.below hB hba
                have ho2 := own_below ho1 hba (Nat.le_refl _)
                have hk2 := own_below hkr hba (Nat.le_refl _)
                have hr1 : 1 ≤ r := by have := HCR.out; have := HCK.out; omega
                have hpw : 2 ^ r = 2 ^ (r - 1) * 2 := by rw [← Nat.pow_succ]; congr 1; omega
                have hp1 := Nat.two_pow_pos (r - 1)
                have IHr := fun (cv' : List Bool) (b g c' n : Nat) (D : DU) (w : World) h1 h2 h3 h4 h5 => hide (IH.out (r - 1) (by omega) (k + 1) cv' b g c' n D w (by have := HCR.out; have := HCK.out; omega) (by omega) h1 h2 h3 h4 h5)
                have hCLN : ∀ W : World, W.ownsRow b 4 1 (.slice (some ⟨g, 0, none⟩) R.C.length c') R.C.length (cv.map Value.bool) → Hid (Calls Try.prog 182 #[.slice (some ⟨g, 0, none⟩) R.C.length c'] W fun e w' => ∃ g' c'', e = .returned (.slice (some ⟨g', 0, none⟩) R.C.length c'') ∧ w'.ownsRow W.heap.size 4 1 (.slice (some ⟨g', 0, none⟩) R.C.length c'') R.C.length (cv.map Value.bool) ∧ Below W.heap.size W w') := fun W hWo => by
                  have hrr := Reads.of_own hWo
                  have hll := HL.out
                  rw [← hll] at hrr ⊢
                  exact hide (cloneB_any g c' W.heap.size cv W (by omega) (by omega) hrr)
                have HNB := HN.out
                generalize 2 ^ (r - 1) = P at *
                generalize hP2 : 2 ^ r = P2 at *
                have HP2 := Lib.hid hP2
                clear hP2
                have HPW := Lib.hid hpw
                have HNP := Lib.hid HNB
                have HP1 := Lib.hid hp1
                have hF := cN_some hR HL.out hlt HYES.out HALL.out
                have HFS := Lib.hid hF
                have HALLK := HALL
                go_upto_region 19 with fail
                clear hba hKW hkr hW1 ho1 hc0 hlk k0 hcd hcc hCG hCV hpw HNB hp1 hF IH HN H2R hr1 HF ho hW b0 b1 b2
                generalize wr.alloc (.cells #[.int .i64 1, .int .i64 2] 3) = w6 at *
                generalize wr.heap.size = qb at *
                go_loopg [13, 78] 2 (fun r s13 s78 wx => ∃ (j n1 : Nat) (D1 : DU), j + r = 2 ∧ s78 = .int .i64 (j : Nat) ∧ s13 = .int .i64 (preN R cv k j : Nat) ∧ CWn R (some ac) c B rb kb wb mb (fvC rb kb wb) w0 wx n1 D1 ∧ wx.ownsRow b 4 1 (.slice (some ⟨g, 0, none⟩) R.C.length c') R.C.length (cv.map Value.bool) ∧ wx.ownsRow w0.heap.size 5 1 (.slice (some ⟨g1, 0, none⟩) (R.C.length - k + 1) c1) (R.C.length - k + 1) (bytesV (keyL k cv)) ∧ Blk wx qb 3 #[.int .i64 1, .int .i64 2] ∧ n1 + j ≤ n + j * P)
                case atStart => exact ⟨0, n, D, by omega, rfl, rfl, hW2, ho2, hk2, hq6, by omega⟩
                case round =>
                  clear hW2 ho2 hk2 hq6
                  obtain ⟨j, n1, D1, hj, rfl, rfl, hWx, hox, hkx, hqb, hb⟩ := hrel
                  rcases (show j = 0 ∨ j = 1 ∨ j = 2 by omega) with rfl | rfl | rfl
                  · have HB := Lib.hid hb
                    clear hb
                    have q0 := hqb.cell 0
                    simp at q0
                    have hST1 := hST k hlt 1
                    have hsr := step_range hR hlt 1
                    have hpr : preN R cv k 1 = preN R cv k 0 + wyN2 R cv k 1 := rfl
                    obtain ⟨b0, b1, b2⟩ := blk3 hWx.box
                    have hwn := fun h => wy_no (R := R) (cv := cv) (k := k) (way := 1) h
                    have hwa := fun (e : Nat) h => wy_at (R := R) (cv := cv) (k := k) (e := e) (way := 1) h
                    obtain ⟨z, hzq⟩ : ∃ z, z = R.step k 1 := ⟨_, rfl⟩
                    have HZQ := Lib.hid hzq
                    rw [← hzq] at hST1 hsr hwn hwa
                    clear hzq
                    generalize wyN2 R cv k 1 = wz at *
                    go_upto_region 22 with (go_at_call 175; refine (unhide (hST1 _)).mono ?_; rintro e w3 ⟨rfl, hb3⟩)
                    have hW3 := hWx.below hB hb3
                    have ho3 := own_below hox hb3 (Nat.le_refl _)
                    have hk3 := own_below hkx hb3 (Nat.le_refl _)
                    have hq3 := hqb.below hb3 hqb.lt
                    clear hWx hox hkx hqb hb3 q0 b0 b1 b2 hST1
                    obtain ⟨b0, b1, b2⟩ := blk3 hW3.box
                    rcases hsr with rfl | ⟨e, rfl, he⟩
                    · obtain rfl := hwn rfl
                      have HPR := Lib.hid hpr
                      clear hwn hwa hpr
                      go_wp2_with fail
                      go_roundg 1
                      case measure => omega
                      case rel => exact ⟨1, n1, D1, by omega, by go_num, by rw [HPR.out]; rfl, hW3, ho3, hk3, hq3, by have := HB.out; have := HP1.out; omega⟩
                    · have hwe := hwa e rfl
                      have hoe : opC R cv e = (R.C.getD e false && !cv.getD e false) := rfl
                      have hke : ¬ k = e := step_ne hR hlt HZQ.out.symm
                      have hek : ¬ e = k := fun h => hke h.symm
                      obtain ⟨ac', e1, _, hce⟩ := getB hW3.rd he
                      injection e1 with e1
                      subst e1
                      obtain ⟨ad', e1, _, hve⟩ := getB (Reads.of_own ho3) he
                      injection e1 with e1
                      subst e1
                      rw [Addr.add_lit, Nat.zero_add] at hve
                      have hz0 : decide (0 ≤ (e : Int)) = true := decide_eq_true (by omega)
                      clear hwn hwa
                      cases hcb : R.C.getD e false with
                      | false =>
                        rw [hcb] at hce hoe
                        rw [hoe] at hwe
                        obtain rfl : wz = 0 := by simpa using hwe
                        have HPR := Lib.hid hpr
                        clear hpr hwe hoe hcb
                        go_wp2_with fail
                        go_roundg 1
                        case measure => omega
                        case rel => exact ⟨1, n1, D1, by omega, by go_num, by rw [HPR.out]; rfl, hW3, ho3, hk3, hq3, by have := HB.out; have := HP1.out; omega⟩
                      | true =>
                        rw [hcb] at hce hoe
                        cases hvb : cv.getD e false with
                        | true =>
                          rw [hvb] at hve hoe
                          rw [hoe] at hwe
                          obtain rfl : wz = 0 := by simpa using hwe
                          have HPR := Lib.hid hpr
                          clear hpr hwe hoe hcb hvb
                          go_wp2_with fail
                          go_roundg 1
                          case measure => omega
                          case rel => exact ⟨1, n1, D1, by omega, by go_num, by rw [HPR.out]; rfl, hW3, ho3, hk3, hq3, by have := HB.out; have := HP1.out; omega⟩
                        | false =>
                          rw [hvb] at hve hoe
                          rw [hoe] at hwe
                          have hwe := hwe.trans (if_pos rfl)
                          have HPR := Lib.hid hpr
                          have HWE := Lib.hid hwe
                          have HOE := Lib.hid hoe
                          clear hpr hwe hoe hcb hvb
                          have hCL3 := hCLN _ ho3
                          go_upto_region 24 with (go_at_call 182; refine (unhide hCL3).mono ?_; rintro e' w4 ⟨g4, c4, rfl, ho4, hb4⟩)
                          clear hCL3 hce hve b0 b1 b2
                          have x1 := ho4.cellAt k (by omega)
                          have x2 := ho4.cellAt e (by omega)
                          have f1 := ho4.frozenAt k
                          have f2 := ho4.frozenAt e
                          rw [List.getElem?_map, List.getElem?_eq_getElem (by rw [HL.out]; exact hlt)] at x1
                          rw [List.getElem?_map, List.getElem?_eq_getElem (by rw [HL.out]; exact he)] at x2
                          simp only [Option.map_some] at x1 x2
                          go_upto_region 25 with fail
                          have hg4 : w3.heap.size ≤ g4 := (ho4.lt g4 rfl).1
                          have hb6 := (hb4.setCell (p := ⟨g4, k, none⟩) hg4 (.bool true)).setCell (p := ⟨g4, e, none⟩) hg4 (.bool true)
                          have ho6 := ((ho4.stored k (.bool true)).1.stored e (.bool true)).1
                          have hnx : ((cv.map Value.bool).set k (.bool true)).set e (.bool true) = (nxC cv k e).map Value.bool := by simp [nxC, List.map_set]
                          rw [hnx] at ho6
                          clear x1 x2 f1 f2 hnx hb4 ho4
                          generalize (w4.setCell ⟨g4, k, none⟩ (Value.bool true)).setCell ⟨g4, e, none⟩ (Value.bool true) = w7 at *
                          have hW7 := hW3.below hB hb6
                          have hoo7 := own_below ho3 hb6 (Nat.le_refl _)
                          have hkk7 := own_below hk3 hb6 (Nat.le_refl _)
                          have hqq7 := hq3.below hb6 hq3.lt
                          have hIH := IHr (nxC cv k e) w3.heap.size g4 c4 n1 D1 w7 (by rw [nxC_len]; exact HL.out) (opC_ahead (R := R) (by rw [HL.out]; exact hlt) (by rw [HL.out]; exact he) HALL.out) hW7.here ho6 (by have := HB.out; have := HNP.out; have := HPW.out; omega)
                          rw [← HWE.out] at hIH
                          have q9 := hW7.wk.cell 0
                          simp [fvC] at q9
                          have hpl := preN_le R cv k 0
                          have hwl : wz ≤ 262144 := by rw [HWE.out]; exact cN_le _ _
                          have HAD : IntKind.i64.wrap ((preN R cv k 0 : Int) + (wz : Int)) = (preN R cv k 0 : Int) + (wz : Int) := IntWalk.i64_in _ (by omega)
                          clear hW3 ho3 hk3 hq3 hb6 ho6 hg4
                          go_upto_region 26 with (go_at_call 181; go_loud (refine (unhide hIH).mono ?_; rintro e' w8 ⟨rfl, n2, D2, hW8, hn2⟩))
                          have hW9 := hW7.trans hW8
                          have hoo8 := hoo7.kept hW8.gr (.inr (map_own_ne hW7.map hoo7))
                          have hkk8 := hkk7.kept hW8.gr (.inr (map_own_ne hW7.map hkk7))
                          have hqq8 := hqq7.grown hW8.gr (map_blk_ne hW7.map hqq7)
                          go_wp2_with fail
                          go_roundg 1
                          case measure => omega
                          case rel => exact ⟨1, n2, D2, by omega, by go_num, by rw [← HWE.out, HPR.out, Int.natCast_add]; exact congrArg _ (IntWalk.wrap64_in _ (by omega)), hW9, hoo8, hkk8, hqq8, by have := HB.out; omega⟩
                  · have HB := Lib.hid hb
                    clear hb
                    have q0 := hqb.cell 1
                    simp at q0
                    have hST1 := hST k hlt 2
                    have hsr := step_range hR hlt 2
                    have hpr : preN R cv k 2 = preN R cv k 1 + wyN2 R cv k 2 := rfl
                    obtain ⟨b0, b1, b2⟩ := blk3 hWx.box
                    have hwn := fun h => wy_no (R := R) (cv := cv) (k := k) (way := 2) h
                    have hwa := fun (e : Nat) h => wy_at (R := R) (cv := cv) (k := k) (e := e) (way := 2) h
                    obtain ⟨z, hzq⟩ : ∃ z, z = R.step k 2 := ⟨_, rfl⟩
                    have HZQ := Lib.hid hzq
                    rw [← hzq] at hST1 hsr hwn hwa
                    clear hzq
                    generalize wyN2 R cv k 2 = wz at *
                    go_upto_region 22 with (go_at_call 175; refine (unhide (hST1 _)).mono ?_; rintro e w3 ⟨rfl, hb3⟩)
                    have hW3 := hWx.below hB hb3
                    have ho3 := own_below hox hb3 (Nat.le_refl _)
                    have hk3 := own_below hkx hb3 (Nat.le_refl _)
                    have hq3 := hqb.below hb3 hqb.lt
                    clear hWx hox hkx hqb hb3 q0 b0 b1 b2 hST1
                    obtain ⟨b0, b1, b2⟩ := blk3 hW3.box
                    rcases hsr with rfl | ⟨e, rfl, he⟩
                    · obtain rfl := hwn rfl
                      have HPR := Lib.hid hpr
                      clear hwn hwa hpr
                      go_wp2_with fail
                      go_roundg 0
                      case measure => omega
                      case rel => exact ⟨2, n1, D1, by omega, by go_num, by rw [HPR.out]; rfl, hW3, ho3, hk3, hq3, by have := HB.out; have := HP1.out; omega⟩
                    · have hwe := hwa e rfl
                      have hoe : opC R cv e = (R.C.getD e false && !cv.getD e false) := rfl
                      have hke : ¬ k = e := step_ne hR hlt HZQ.out.symm
                      have hek : ¬ e = k := fun h => hke h.symm
                      obtain ⟨ac', e1, _, hce⟩ := getB hW3.rd he
                      injection e1 with e1
                      subst e1
                      obtain ⟨ad', e1, _, hve⟩ := getB (Reads.of_own ho3) he
                      injection e1 with e1
                      subst e1
                      rw [Addr.add_lit, Nat.zero_add] at hve
                      have hz0 : decide (0 ≤ (e : Int)) = true := decide_eq_true (by omega)
                      clear hwn hwa
                      cases hcb : R.C.getD e false with
                      | false =>
                        rw [hcb] at hce hoe
                        rw [hoe] at hwe
                        obtain rfl : wz = 0 := by simpa using hwe
                        have HPR := Lib.hid hpr
                        clear hpr hwe hoe hcb
                        go_wp2_with fail
                        go_roundg 0
                        case measure => omega
                        case rel => exact ⟨2, n1, D1, by omega, by go_num, by rw [HPR.out]; rfl, hW3, ho3, hk3, hq3, by have := HB.out; have := HP1.out; omega⟩
                      | true =>
                        rw [hcb] at hce hoe
                        cases hvb : cv.getD e false with
                        | true =>
                          rw [hvb] at hve hoe
                          rw [hoe] at hwe
                          obtain rfl : wz = 0 := by simpa using hwe
                          have HPR := Lib.hid hpr
                          clear hpr hwe hoe hcb hvb
                          go_wp2_with fail
                          go_roundg 0
                          case measure => omega
                          case rel => exact ⟨2, n1, D1, by omega, by go_num, by rw [HPR.out]; rfl, hW3, ho3, hk3, hq3, by have := HB.out; have := HP1.out; omega⟩
                        | false =>
                          rw [hvb] at hve hoe
                          rw [hoe] at hwe
                          have hwe := hwe.trans (if_pos rfl)
                          have HPR := Lib.hid hpr
                          have HWE := Lib.hid hwe
                          have HOE := Lib.hid hoe
                          clear hpr hwe hoe hcb hvb
                          have hCL3 := hCLN _ ho3
                          go_upto_region 24 with (go_at_call 182; refine (unhide hCL3).mono ?_; rintro e' w4 ⟨g4, c4, rfl, ho4, hb4⟩)
                          clear hCL3 hce hve b0 b1 b2
                          have x1 := ho4.cellAt k (by omega)
                          have x2 := ho4.cellAt e (by omega)
                          have f1 := ho4.frozenAt k
                          have f2 := ho4.frozenAt e
                          rw [List.getElem?_map, List.getElem?_eq_getElem (by rw [HL.out]; exact hlt)] at x1
                          rw [List.getElem?_map, List.getElem?_eq_getElem (by rw [HL.out]; exact he)] at x2
                          simp only [Option.map_some] at x1 x2
                          go_upto_region 25 with fail
                          have hg4 : w3.heap.size ≤ g4 := (ho4.lt g4 rfl).1
                          have hb6 := (hb4.setCell (p := ⟨g4, k, none⟩) hg4 (.bool true)).setCell (p := ⟨g4, e, none⟩) hg4 (.bool true)
                          have ho6 := ((ho4.stored k (.bool true)).1.stored e (.bool true)).1
                          have hnx : ((cv.map Value.bool).set k (.bool true)).set e (.bool true) = (nxC cv k e).map Value.bool := by simp [nxC, List.map_set]
                          rw [hnx] at ho6
                          clear x1 x2 f1 f2 hnx hb4 ho4
                          generalize (w4.setCell ⟨g4, k, none⟩ (Value.bool true)).setCell ⟨g4, e, none⟩ (Value.bool true) = w7 at *
                          have hW7 := hW3.below hB hb6
                          have hoo7 := own_below ho3 hb6 (Nat.le_refl _)
                          have hkk7 := own_below hk3 hb6 (Nat.le_refl _)
                          have hqq7 := hq3.below hb6 hq3.lt
                          have hIH := IHr (nxC cv k e) w3.heap.size g4 c4 n1 D1 w7 (by rw [nxC_len]; exact HL.out) (opC_ahead (R := R) (by rw [HL.out]; exact hlt) (by rw [HL.out]; exact he) HALL.out) hW7.here ho6 (by have := HB.out; have := HNP.out; have := HPW.out; omega)
                          rw [← HWE.out] at hIH
                          have q9 := hW7.wk.cell 0
                          simp [fvC] at q9
                          have hpl := preN_le R cv k 1
                          have hwl : wz ≤ 262144 := by rw [HWE.out]; exact cN_le _ _
                          have HAD : IntKind.i64.wrap ((preN R cv k 1 : Int) + (wz : Int)) = (preN R cv k 1 : Int) + (wz : Int) := IntWalk.i64_in _ (by omega)
                          clear hW3 ho3 hk3 hq3 hb6 ho6 hg4
                          go_upto_region 26 with (go_at_call 181; go_loud (refine (unhide hIH).mono ?_; rintro e' w8 ⟨rfl, n2, D2, hW8, hn2⟩))
                          have hW9 := hW7.trans hW8
                          have hoo8 := hoo7.kept hW8.gr (.inr (map_own_ne hW7.map hoo7))
                          have hkk8 := hkk7.kept hW8.gr (.inr (map_own_ne hW7.map hkk7))
                          have hqq8 := hqq7.grown hW8.gr (map_blk_ne hW7.map hqq7)
                          go_wp2_with fail
                          go_roundg 0
                          case measure => omega
                          case rel => exact ⟨2, n2, D2, by omega, by go_num, by rw [← HWE.out, HPR.out, Int.natCast_add]; exact congrArg _ (IntWalk.wrap64_in _ (by omega)), hW9, hoo8, hkk8, hqq8, by have := HB.out; omega⟩
                  · have HB := Lib.hid hb
                    have hpc : preN R cv k 2 = cN R cv := by rw [HFS.out]; simp [preN]
                    rw [hpc]
                    have hcl := cN_le R cv
                    have HCL := Lib.hid hcl
                    have hcx := HCV.out _ hkx
                    have kx := hWx.kn.cell 0
                    simp at kx
                    clear hb hpc hcl
                    go_wp2_with (at_mapUpdate; go_loud (refine wpList_mapUpdate_own _ rfl _ _ _ 143 rfl 9 3 (string_keyed Try.underlying9) Try.underlying143 _ mb n1 D1 rfl hWx.map (by have := HB.out; have := HNP.out; have := HPW.out; simp only [maxLen]; omega) _ _ (.string (keyL k cv)) rfl rfl HKEY.out _ [] (plainElem_int Try.underlying3 (WalkArith.wf_i64 (by have := HCL.out; omega))) ?_; intro w9 hm9 hg9))
                    go_ret
                    have hfin : n1 + 1 + 1 ≤ n + 2 ^ r := by rw [HP2.out]; have := HB.out; have := HPW.out; omega
                    have hW9 := hWx.grown hB hg9 hm9 (hKEY hWx.map.isMap hWx.ok hlt HL.out HALL.out)
                    exact ⟨rfl, n1 + 1, _, hW9, hfin⟩
    · obtain rfl : k = R.C.length := by have := HK.out; omega
      have HONE := Lib.hid (cN_none (R := R) (cv := cv) (fun j hj => HALL.out j hj))
      go_wp2_with fail
      go_ret
      exact ⟨by rw [HONE.out]; rfl, n, D, hW, by have := H2R.out; omega⟩

end Go.Proofs.Ythepfpiphlfgnaa

/-
  YthepfpiphlfgnaaCp: 'count' of the program.
-/
namespace Go.Proofs.Ythepfpiphlfgnaa
open Go.RowKit Go.Maps Go.WideMaps

/-- What is covered behind the first k cells. -/
def covP (L : List Int) (k : Nat) : List Bool := (L.take k).map (fun z => z != 0) ++ List.replicate (L.length - k) false
theorem covP_zero (L : List Int) : covP L 0 = List.replicate L.length false := by simp [covP]
theorem covP_all (L : List Int) : covP L L.length = L.map (fun z => z != 0) := by simp [covP]
theorem covP_len {L : List Int} {k : Nat} (h : k ≤ L.length) : (covP L k).length = L.length := by simp [covP]; omega
theorem covP_set {L : List Int} {k : Nat} (h : k < L.length) : ((covP L k).map Value.bool).set k (.bool (L.getD k 0 != 0)) = (covP L (k + 1)).map Value.bool := by
  apply List.ext_getElem?
  intro i
  rw [List.getElem?_set]
  simp only [List.length_map, covP_len (Nat.le_of_lt h), List.getElem?_map]
  by_cases hi : k = i
  · subst hi
    rw [if_pos rfl, if_pos h]
    have : (covP L (k + 1))[k]? = some (L.getD k 0 != 0) := by
      unfold covP
      rw [List.getElem?_append_left (by simp; omega), List.getElem?_map, List.getElem?_take_of_lt (by omega), List.getElem?_eq_getElem h]
      simp [List.getD, List.getElem?_eq_getElem h]
    rw [this]
    rfl
  · rw [if_neg hi]
    congr 1
    unfold covP
    by_cases h2 : i < k
    · rw [List.getElem?_append_left (by simp; omega), List.getElem?_append_left (by simp; omega)]
      simp [List.getElem?_take_of_lt, h2, Nat.lt_succ_of_lt h2]
    · rw [List.getElem?_append_right (by simp; omega), List.getElem?_append_right (by simp; omega)]
      simp only [List.getElem?_replicate, List.length_map, List.length_take]
      rw [Nat.min_eq_left (by omega), Nat.min_eq_left (by omega)]
      by_cases h3 : i < L.length
      · rw [if_pos (by omega), if_pos (by omega)]
      · rw [if_neg (by omega), if_neg (by omega)]

set_option maxHeartbeats 4000000 in
set_option maxRecDepth 20000 in
theorem count_any (R : Reg) (hR : R.ok) (A : Option Addr) (c B : Nat) (L : List Int) (D : Option Addr) (d : Nat) (hl : L.length = R.C.length) (w : World)
    (hr : Reads w B 1 A R.C.length (R.C.map Value.bool)) (hd : Reads w B 1 D R.C.length (L.map (Value.int .i64))) (hB : B ≤ w.heap.size) :
    Calls Try.prog 142 #[.agg #[.int .i64 R.W, .int .i64 R.T, .slice A R.C.length c], .slice D R.C.length d] w fun e w' => e = .returned (.int .i64 ((cT R L).length : Nat)) ∧ Below w.heap.size w w' := by
  have hmm := @run_makeMap Try.prog
  have hl36 := (len_bd hR).2
  have HL := Lib.hid hl
  have HC := Lib.hid (cN_list hR hl)
  clear hl
  go_enter Try.func142, Try.ntmps142
  go_upto_region 4 with fail
  have hbox : Blk ((((w.alloc (.cells #[.int .i64 R.W, .int .i64 R.T, .slice A R.C.length c] 25)).alloc (.map #[] 0)).alloc (.cells #[.map (some (w.heap.size + 1))] 143)).alloc (.cells #[.func (.func 181) #[] #[.pointer (some ⟨w.heap.size, 0, none⟩), .pointer (some ⟨w.heap.size + 1 + 1, 0, none⟩), .pointer (some ⟨w.heap.size + 1 + 1 + 1, 0, none⟩)]] 95)) w.heap.size 25 #[.int .i64 R.W, .int .i64 R.T, .slice A R.C.length c] := (((Blk.new w _ _).alloc _).alloc _).alloc _
  have hkn : Blk ((((w.alloc (.cells #[.int .i64 R.W, .int .i64 R.T, .slice A R.C.length c] 25)).alloc (.map #[] 0)).alloc (.cells #[.map (some (w.heap.size + 1))] 143)).alloc (.cells #[.func (.func 181) #[] #[.pointer (some ⟨w.heap.size, 0, none⟩), .pointer (some ⟨w.heap.size + 1 + 1, 0, none⟩), .pointer (some ⟨w.heap.size + 1 + 1 + 1, 0, none⟩)]] 95)) (w.heap.size + 1 + 1) 143 #[.map (some (w.heap.size + 1))] := by
    have := (Blk.new ((w.alloc (.cells #[.int .i64 R.W, .int .i64 R.T, .slice A R.C.length c] 25)).alloc (.map #[] 0)) 143 #[.map (some (w.heap.size + 1))]).alloc (.cells #[.func (.func 181) #[] #[.pointer (some ⟨w.heap.size, 0, none⟩), .pointer (some ⟨w.heap.size + 1 + 1, 0, none⟩), .pointer (some ⟨w.heap.size + 1 + 1 + 1, 0, none⟩)]] 95)
    simpa using this
  have hwk : Blk ((((w.alloc (.cells #[.int .i64 R.W, .int .i64 R.T, .slice A R.C.length c] 25)).alloc (.map #[] 0)).alloc (.cells #[.map (some (w.heap.size + 1))] 143)).alloc (.cells #[.func (.func 181) #[] #[.pointer (some ⟨w.heap.size, 0, none⟩), .pointer (some ⟨w.heap.size + 1 + 1, 0, none⟩), .pointer (some ⟨w.heap.size + 1 + 1 + 1, 0, none⟩)]] 95)) (w.heap.size + 1 + 1 + 1) 95 #[fvC w.heap.size (w.heap.size + 1 + 1) (w.heap.size + 1 + 1 + 1)] := by
    have := Blk.new (((w.alloc (.cells #[.int .i64 R.W, .int .i64 R.T, .slice A R.C.length c] 25)).alloc (.map #[] 0)).alloc (.cells #[.map (some (w.heap.size + 1))] 143)) 95 #[fvC w.heap.size (w.heap.size + 1 + 1) (w.heap.size + 1 + 1 + 1)]
    simpa [fvC] using this
  have hmp : ((((w.alloc (.cells #[.int .i64 R.W, .int .i64 R.T, .slice A R.C.length c] 25)).alloc (.map #[] 0)).alloc (.cells #[.map (some (w.heap.size + 1))] 143)).alloc (.cells #[.func (.func 181) #[] #[.pointer (some ⟨w.heap.size, 0, none⟩), .pointer (some ⟨w.heap.size + 1 + 1, 0, none⟩), .pointer (some ⟨w.heap.size + 1 + 1 + 1, 0, none⟩)]] 95)).ownsMap Try.prog 9 (plainElem (H := Unit) Try.prog 3) (w.heap.size + 1) 0 (.map []) := by
    have := ((World.ownsMap_made (w.alloc (.cells #[.int .i64 R.W, .int .i64 R.T, .slice A R.C.length c] 25)) Try.prog 9 (plainElem (H := Unit) Try.prog 3)).alloc (.cells #[.map (some (w.heap.size + 1))] 143)).alloc (.cells #[.func (.func 181) #[] #[.pointer (some ⟨w.heap.size, 0, none⟩), .pointer (some ⟨w.heap.size + 1 + 1, 0, none⟩), .pointer (some ⟨w.heap.size + 1 + 1 + 1, 0, none⟩)]] 95)
    simpa using this
  have hbw : Below w.heap.size w ((((w.alloc (.cells #[.int .i64 R.W, .int .i64 R.T, .slice A R.C.length c] 25)).alloc (.map #[] 0)).alloc (.cells #[.map (some (w.heap.size + 1))] 143)).alloc (.cells #[.func (.func 181) #[] #[.pointer (some ⟨w.heap.size, 0, none⟩), .pointer (some ⟨w.heap.size + 1 + 1, 0, none⟩), .pointer (some ⟨w.heap.size + 1 + 1 + 1, 0, none⟩)]] 95)) :=
    ((((Below.refl _ _).alloc (Nat.le_refl _) _).alloc (by simp) _).alloc (by simp; omega) _).alloc (by simp; omega) _
  generalize (((w.alloc (.cells #[.int .i64 R.W, .int .i64 R.T, .slice A R.C.length c] 25)).alloc (.map #[] 0)).alloc (.cells #[.map (some (w.heap.size + 1))] 143)).alloc (.cells #[.func (.func 181) #[] #[.pointer (some ⟨w.heap.size, 0, none⟩), .pointer (some ⟨w.heap.size + 1 + 1, 0, none⟩), .pointer (some ⟨w.heap.size + 1 + 1 + 1, 0, none⟩)]] 95) = w4 at *
  obtain ⟨b0, b1, b2⟩ := blk3 hbox
  have hsz := hwk.lt
  go_upto_region 5 with (at_make; go_loud (refine wpList_make_bools rfl _ _ rfl R.C.length (by omega) rfl rfl rfl rfl ?_; intro w5 hc5 hb5))
  rw [← HL.out, ← covP_zero, HL.out] at hc5
  clear b0 b1 b2 hmm
  go_upto_region 6 with fail
  go_loopg [18] R.C.length (fun r s18 wx => ∃ k : Nat, k + r = R.C.length ∧ s18 = .int .i64 (k : Nat) ∧ wx.ownsRow w4.heap.size 4 1 (.slice (some ⟨w4.heap.size, 0, none⟩) R.C.length R.C.length) R.C.length ((covP L k).map Value.bool) ∧ Below w4.heap.size w4 wx)
  case atStart => exact ⟨0, by omega, rfl, hc5, hb5⟩
  case round =>
    clear hc5 hb5
    obtain ⟨k, hk, rfl, ho, hb⟩ := hrel
    have HK := Lib.hid hk
    clear hk
    have hB2 := hbw.trans (hb.mono hbw.size)
    by_cases hlt : k < R.C.length
    · obtain ⟨ad, rfl, hab, hcd⟩ := hd.getI hlt
      have hcd := cell_kept hcd hB2
      have x1 := ho.cellAt k (by omega)
      have f1 := ho.frozenAt k
      rw [List.getElem?_eq_getElem (by rw [List.length_map, covP_len (by rw [HL.out]; omega), HL.out]; exact hlt)] at x1
      have HS := Lib.hid (covP_set (L := L) (k := k) (by rw [HL.out]; exact hlt))
      generalize L.getD k 0 = u at *
      go_wp2_with fail
      go_roundg (R.C.length - (k + 1))
      case measure => have := HK.out; omega
      case rel =>
        have h1 := (ho.stored k (.bool (u != 0))).1
        rw [HS.out] at h1
        exact ⟨k + 1, by have := HK.out; omega, by go_num, h1, hb.setCell (Nat.le_refl _) _⟩
    · obtain rfl : k = R.C.length := by have := HK.out; omega
      have hco : covP L R.C.length = L.map (fun z => z != 0) := by rw [← HL.out]; exact covP_all L
      rw [hco] at ho
      have hW : CWn R A c B w.heap.size (w.heap.size + 1 + 1) (w.heap.size + 1 + 1 + 1) (w.heap.size + 1) (fvC w.heap.size (w.heap.size + 1 + 1) (w.heap.size + 1 + 1 + 1)) wr wr 0 (.map []) :=
        ⟨hbox.below hb hbox.lt, hkn.below hb hkn.lt, hwk.below hb hwk.lt, hmp.kept (below_grown hb none) (by simp), hr.below (hB2.mono hB), known_nil R, World.grownBy.refl _ _⟩
      have hWA := hide (walk_any R hR A c B w.heap.size (w.heap.size + 1 + 1) (w.heap.size + 1 + 1 + 1) (w.heap.size + 1) (by omega) R.C.length 0 (L.map (fun z => z != 0)) w4.heap.size w4.heap.size R.C.length 0 (.map []) wr (by omega) (by omega) (by rw [List.length_map]; exact HL.out) (fun j hj => absurd hj (by omega)) hW ho (by have := Nat.pow_le_pow_right (show 0 < 2 by omega) hl36; omega))
      rw [HC.out] at hWA
      have q9 := hW.wk.cell 0
      simp [fvC] at q9
      go_wp2_with (go_at_call 181; go_loud (refine (unhide hWA).mono ?_; rintro e w9 ⟨rfl, n9, D9, hW9, _⟩))
      go_ret
      exact ⟨rfl, hB2.trans (grownMap_below hW9.gr (by omega) hB2.size)⟩

end Go.Proofs.Ythepfpiphlfgnaa

/-
  YthepfpiphlfgnaaCq: total and TilingsMany of the program.
-/
namespace Go.Proofs.Ythepfpiphlfgnaa
open Go.RowKit

theorem step_mkI {w : World} {ops : Array Oper} {o : Oper} {a : Act} {K : Act → World → Prop} {Q : Exit → Act → World → Prop} {F : Prop}
    (hgd : o.guard = none) (l c : Operand) (hop : o.op = Op.makeSlice 26 l c) (n : Nat) (hn : n ≤ 4194304) (hl : a.eval l = .int .i64 (n : Int)) (hc : a.eval c = .int .i64 (n : Int))
    (hK : ∀ w', w'.ownsRow w.heap.size 3 1 (.slice (some ⟨w.heap.size, 0, none⟩) n n) n ((List.replicate n (0 : Int)).map (Value.int .i64)) → Below w.heap.size w w' → K (a.put o.dst (.slice (some ⟨w.heap.size, 0, none⟩) n n)) w') :
    if Region.wanted o (yielded ops a.tmps) = true then Oper.wp Try.prog o a w K Q else F := by
  have hw : Region.wanted o (yielded ops a.tmps) = true := by simp [Region.wanted, hgd]
  rw [if_pos hw]
  obtain ⟨w', hrun, r1, r2⟩ := make_ints n hn w
  unfold Oper.wp
  simp [execOp, hop, hl, hc, hrun, Result.andThen]
  exact hK w' r1 r2

set_option maxHeartbeats 1000000 in
set_option maxRecDepth 20000 in
theorem total_any (R : Reg) (hR : R.ok) (A : Option Addr) (c B : Nat) (w : World) (hr : Reads w B 1 A R.C.length (R.C.map Value.bool)) (hB : B ≤ w.heap.size) :
    Calls Try.prog 75 #[.agg #[.int .i64 R.W, .int .i64 R.T, .slice A R.C.length c]] w fun e w' => e = .returned (.int .i64 (nT R : Nat)) ∧ Below w.heap.size w w' := by
  have hl36 := (len_bd hR).2
  have hb0 : Below w.heap.size w (w.alloc (boxR R.W R.T A R.C.length c)) := (Below.refl _ _).alloc (Nat.le_refl _) _
  have k0 : Blk (w.alloc (boxR R.W R.T A R.C.length c)) w.heap.size 25 #[.int .i64 R.W, .int .i64 R.T, .slice A R.C.length c] := Blk.new _ _ _
  have hCO := fun (w' : World) (h : Below w.heap.size w w') (g : Nat) (b : Nat) (ho : w'.ownsRow b 3 1 (.slice (some ⟨g, 0, none⟩) R.C.length R.C.length) R.C.length ((bare R).map (Value.int .i64))) => hide (count_any R hR A c w'.heap.size (bare R) (some ⟨g, 0, none⟩) R.C.length (by simp [bare]) w' ((hr.below (h.mono hB)).more (Nat.le_trans hB h.size)) (Reads.of_own ho) (Nat.le_refl _))
  have hce : (cT R (bare R)).length = nT R := rfl
  rw [hce] at hCO
  have hbr : (List.replicate R.C.length (0 : Int)) = bare R := rfl
  clear hce hr
  generalize nT R = N at *
  go_enter Try.func75, Try.ntmps75
  go_upto_region 1 with fail
  generalize w.alloc (boxR R.W R.T A R.C.length c) = w1 at *
  have kd := k0.drew
  have hBd := hb0.trans (((Below.refl w1.heap.size w1).drew).mono hb0.size)
  clear k0 hb0
  obtain ⟨d0, d1, d2⟩ := blk3 kd
  refine wp_region_held_drew (S := (fun w' => w'.cell? ⟨w.heap.size, 0, none⟩ = some (.int .i64 R.W) ∧ w'.cell? ⟨w.heap.size, 1, none⟩ = some (.int .i64 R.T) ∧ w'.cell? ⟨w.heap.size, 2, none⟩ = some (.slice A R.C.length c))) (by kernel_rfl) ⟨d0, d1, d2⟩ ?_
  intro hHeld
  generalize w1.drew = wd at *
  refine wpAnyH_take (i := 0) (v := ?_) rfl (by kernel_rfl) (by kernel_rfl) (by kernel_rfl) (fun _ _ _ h => h) (Or.inl ⟨by kernel_rfl, ?_⟩) hHeld ?_
  rotate_left
  · intro w' hS'
    obtain ⟨x0, x1, x2⟩ := hS'
    go_simp
    try with_reducible rfl
  refine wpAnyH_take (i := 1) (v := ?_) rfl (by kernel_rfl) (by kernel_rfl) (by kernel_rfl) (fun _ _ _ h => h) (Or.inl ⟨by kernel_rfl, ?_⟩) hHeld ?_
  rotate_left
  · intro w' hS'
    clear hS'
    go_simp
    try with_reducible rfl
  refine wpAnyH_take (i := 2) (v := ?_) rfl (by kernel_rfl) (by kernel_rfl) (by kernel_rfl) (fun _ _ _ h => h) (Or.inl ⟨by kernel_rfl, ?_⟩) hHeld ?_
  rotate_left
  · intro w' hS'
    obtain ⟨x0, x1, x2⟩ := hS'
    go_simp
    try with_reducible rfl
  refine wpAnyH_take (i := 3) (v := ?_) rfl (by kernel_rfl) (by kernel_rfl) (by kernel_rfl) (fun _ _ _ h => h) (Or.inl ⟨by kernel_rfl, ?_⟩) hHeld ?_
  rotate_left
  · intro w' hS'
    clear hS'
    go_simp
    try with_reducible rfl
  refine wpAnyH_ready (rs := [4]) (by kernel_rfl) (by simp) ?_
  refine AllReadyH.cons rfl (fun K hK => ?_) AllReadyH.nil
  refine step_mkI rfl _ _ rfl R.C.length (by omega) (by simp [Act.eval, Act.put]) (by simp [Act.eval, Act.put]) ?_
  intro w2 ho2 hb2
  rw [hbr] at ho2
  have hB2 := hBd.trans (hb2.mono hBd.size)
  refine hK.out _ _ ?_ ?_
  · exact ⟨cell_kept d0 hb2, cell_kept d1 hb2, cell_kept d2 hb2⟩
  clear hHeld
  intro hHeld
  clear hK K
  refine wpAnyH_ready (rs := [5]) (by kernel_rfl) (by simp) ?_
  refine AllReadyH.cons rfl (fun K hK => ?_) AllReadyH.nil
  go_simp
  go_at_call 142
  (with_reducible refine (unhide (hCO _ hB2 _ _ ho2)).mono ?_)
  rintro e w3 ⟨rfl, hb3⟩
  refine hK.out _ _ ?_ ?_
  · exact ⟨cell_kept (cell_kept d0 hb2) hb3, cell_kept (cell_kept d1 hb2) hb3, cell_kept (cell_kept d2 hb2) hb3⟩
  clear hHeld
  intro hHeld
  clear hK K
  refine wpAnyH_take (i := 6) (v := ?_) rfl (by kernel_rfl) (by kernel_rfl) (by kernel_rfl) (fun _ _ _ h => h) (Or.inl ⟨by kernel_rfl, ?_⟩) hHeld ?_
  rotate_left
  · intro w' hS'
    clear hS'
    go_simp
    try with_reducible rfl
  refine wpAnyH_done (by kernel_rfl) ?_ _
  go_simp
  go_wp2_with fail
  go_ret
  exact ⟨rfl, hB2.trans (hb3.mono hB2.size)⟩

set_option maxHeartbeats 1000000 in
set_option maxRecDepth 100000 in
theorem tilingsManyI_no (W T : Int) (A : Option Addr) (n c B : Nat) (bs : List Bool) (w : World) (hr : Reads w B 1 A n (bs.map Value.bool)) (hB : B ≤ w.heap.size) (hn : n ≤ 9223372036854775807) (hv : validB W T bs = false) :
    Calls Try.prog 19 #[.agg #[.int .i64 W, .int .i64 T, .slice A n c]] w fun e w' => e = .returned (.int .i64 (-1)) ∧ Below w.heap.size w w' := by
  have HV := hide (valid_any W T A n c B bs (w.alloc (boxR W T A n c)) (hr.alloc hB _) (by simp; omega) hn)
  rw [hv] at HV
  clear hv
  go_enter Try.func19, Try.ntmps19
  go_wp2_with fail
  refine (unhide HV).mono ?_
  rintro e w1 ⟨rfl, hb1⟩
  obtain ⟨hB1, hk1, b0, b1, b2⟩ := box_keep hb1
  go_wp2_with fail
  go_ret
  exact ⟨rfl, hB1⟩

set_option maxHeartbeats 1000000 in
set_option maxRecDepth 100000 in
theorem tilingsManyI_ok (R : Reg) (hR : R.ok) (A : Option Addr) (c B : Nat) (w : World) (hr : Reads w B 1 A R.C.length (R.C.map Value.bool)) (hB : B ≤ w.heap.size) :
    Calls Try.prog 19 #[.agg #[.int .i64 R.W, .int .i64 R.T, .slice A R.C.length c]] w fun e w' => e = .returned (.int .i64 (nT R : Nat)) ∧ Below w.heap.size w w' := by
  have hl36 := (len_bd hR).2
  have HV := hide (valid_any R.W R.T A R.C.length c B R.C (w.alloc (boxR R.W R.T A R.C.length c)) (hr.alloc hB _) (by simp; omega) (by omega))
  rw [valid_of_ok hR] at HV
  have hTT := fun (w' : World) (h : Below w.heap.size w w') => hide (total_any R hR A c B w' (hr.below (h.mono hB)) (Nat.le_trans hB h.size))
  generalize nT R = N at *
  go_enter Try.func19, Try.ntmps19
  go_wp2_with fail
  refine (unhide HV).mono ?_
  rintro e w1 ⟨rfl, hb1⟩
  obtain ⟨hB1, hk1, b0, b1, b2⟩ := box_keep hb1
  go_wp2_with fail
  refine (unhide (hTT _ hB1)).mono ?_
  rintro e w2 ⟨rfl, hb2⟩
  have hB2 := hB1.trans (hb2.mono hB1.size)
  go_wp2_with fail
  go_ret
  exact ⟨rfl, hB2⟩

end Go.Proofs.Ythepfpiphlfgnaa

/-
  YthepfpiphlfgnaaTo: TilingOf of the program.
-/
namespace Go.Proofs.Ythepfpiphlfgnaa
open Go.RowKit




end Go.Proofs.Ythepfpiphlfgnaa

/-
  YthepfpiphlfgnaaTq: TilingsMany and TilingOf of the program, of any region.
-/
namespace Go.Proofs.Ythepfpiphlfgnaa
open Go.RowKit

/-- How many tilings, -1 of what is no region (XR4's tmV, word for word). -/
def tmI (W T : Int) (bs : List Bool) : Int := if validB W T bs = true then ((nT ⟨W.toNat, T.toNat, bs⟩ : Nat) : Int) else -1

theorem tilingsManyI_any (W T : Int) (A : Option Addr) (n c B : Nat) (bs : List Bool) (w : World) (hbl : bs.length = n) (hr : Reads w B 1 A n (bs.map Value.bool)) (hB : B ≤ w.heap.size) (hn : n ≤ 9223372036854775807) :
    Calls Try.prog 19 #[.agg #[.int .i64 W, .int .i64 T, .slice A n c]] w fun e w' => e = .returned (.int .i64 (tmI W T bs)) ∧ Below w.heap.size w w' := by
  cases hv : validB W T bs with
  | false =>
    have h : tmI W T bs = -1 := by unfold tmI; rw [if_neg (by rw [hv]; simp)]
    rw [h]
    exact tilingsManyI_no W T A n c B bs w hr hB hn hv
  | true =>
    have h : tmI W T bs = ((nT ⟨W.toNat, T.toNat, bs⟩ : Nat) : Int) := by unfold tmI; rw [if_pos hv]
    rw [h]
    obtain ⟨R, hR, rfl, rfl, rfl⟩ := reg_of_valid hv
    subst hbl
    simp only [Int.toNat_natCast]
    exact tilingsManyI_ok R hR A c B w hr hB


end Go.Proofs.Ythepfpiphlfgnaa

/-
  YthepfpiphlfgnaaLl: a tiling by its number: where there is a tiling, every number below how many there are gives one.
-/
namespace Go.Proofs.Ythepfpiphlfgnaa

theorem tmI_ok {R : Reg} (hR : R.ok) : tmI R.W R.T R.C = ((tilT R).length : Int) := by unfold tmI; rw [if_pos (valid_of_ok hR)]; rfl

end Go.Proofs.Ythepfpiphlfgnaa

/-
  YthepfpiphlfgnaaLm: what FnLowest, FnHighest, FnHeightSum and FnFrozen say of the values. Plain Lean.
-/
namespace Go.Proofs.Ythepfpiphlfgnaa

theorem tmI_bd (W T : Int) (bs : List Bool) : -1 ≤ tmI W T bs ∧ tmI W T bs ≤ 262144 := by
  unfold tmI
  split
  · have := nT_le ⟨W.toNat, T.toNat, bs⟩; omega
  · omega


end Go.Proofs.Ythepfpiphlfgnaa

/-
  YthepfpiphlfgnaaLn: lists without repeats, built by adding what is not there yet; and the search that adds all neighbours of what it has met. Plain Lean.
-/
namespace Go.Proofs.Ythepfpiphlfgnaa

theorem nodup_le {α : Type} [DecidableEq α] : ∀ {l m : List α}, l.Nodup → (∀ x ∈ l, x ∈ m) → l.length ≤ m.length
  | [], _, _, _ => by simp
  | a :: l, m, h, hs => by
    rw [List.nodup_cons] at h
    have ha := hs a (by simp)
    have := nodup_le (l := l) (m := m.erase a) h.2 fun x hx => (List.mem_erase_of_ne (fun e => h.1 (by rw [← e]; exact hx))).2 (hs x (by simp [hx]))
    rw [List.length_erase_of_mem ha] at this
    have := List.length_pos_of_mem ha
    rw [List.length_cons]; omega


end Go.Proofs.Ythepfpiphlfgnaa

/-
  YthepfpiphlfgnaaTs: Frozen and FlipLines of the program and of the reference.
-/
namespace Go.Proofs.Ythepfpiphlfgnaa
open Go.RowKit




/-- How many flips the first tilings have. -/
noncomputable def flTot (R : Reg) (n : Nat) : Nat := (((tilT R).take n).map fun M => (flL R M fun _ => true).length).sum
theorem flTot_succ {R : Reg} {n : Nat} {M : List Int} (h : (tilT R)[n]? = some M) : flTot R (n + 1) = flTot R n + (flL R M fun _ => true).length := by
  unfold flTot
  rw [List.take_add_one, h, List.map_append, List.sum_append]
  simp
theorem flL_le {R : Reg} (L : List Int) (p : Nat → Bool) : (flL R L p).length ≤ R.cn := by
  unfold flL
  rw [flTo_len_eq]
  have := List.length_filter_le (fun (j : Nat) => flB R L (j : Int) && p j) (List.range R.cn)
  rwa [List.length_range] at this
theorem flTot_le {R : Reg} (hR : R.ok) : ∀ n : Nat, flTot R n ≤ 49 * n
  | 0 => by simp [flTot]
  | n + 1 => by
    have ih := flTot_le hR n
    cases h : (tilT R)[n]? with
    | none =>
      have : flTot R (n + 1) = flTot R n := by unfold flTot; rw [List.take_add_one, h]; simp
      omega
    | some M =>
      rw [flTot_succ h]
      have := flL_le (R := R) M fun _ => true
      have := (cn_bd hR).2
      omega
noncomputable def flnV (W T : Int) (bs : List Bool) : Int := if validB W T bs = true ∧ cnt bs ≤ 16 then ((flTot ⟨W.toNat, T.toNat, bs⟩ (tilT ⟨W.toNat, T.toNat, bs⟩).length / 2 : Nat) : Int) else -1
theorem flnV_yes {R : Reg} (hR : R.ok) (g : cnt R.C ≤ 16) : flnV R.W R.T R.C = ((flTot R (tilT R).length / 2 : Nat) : Int) := by unfold flnV; rw [if_pos ⟨valid_of_ok hR, g⟩]; rfl
theorem flnV_no {W T : Int} {bs : List Bool} (h : ¬ (validB W T bs = true ∧ cnt bs ≤ 16)) : flnV W T bs = -1 := by unfold flnV; exact if_neg h

set_option maxHeartbeats 2000000 in
set_option maxRecDepth 20000 in
theorem flipLinesI_ok (R : Reg) (hR : R.ok) (hcnt : cnt R.C ≤ 16) (A : Option Addr) (c B : Nat) (w : World) (hr : Reads w B 1 A R.C.length (R.C.map Value.bool)) (hB : B ≤ w.heap.size) :
    Calls Try.prog 51 #[.agg #[.int .i64 R.W, .int .i64 R.T, .slice A R.C.length c]] w fun e w' => e = .returned (.int .i64 ((flTot R (tilT R).length / 2 : Nat) : Int)) ∧ Below w.heap.size w w' := by
  have hl36 := (len_bd hR).2
  have hl1 := (len_bd hR).1
  have hSM := fun w' (h : Below w.heap.size w w') => hide (small_any R.W R.T A R.C.length c B R.C w' (hr.below (h.mono hB)) (Nat.le_trans hB h.size) (by omega))
  have hsm : (validB R.W R.T R.C && decide (cnt R.C ≤ 16)) = true := by rw [valid_of_ok hR, decide_eq_true hcnt]; rfl
  simp only [hsm] at hSM
  have hTI := fun w' (h : Below w.heap.size w w') => hide (tilings_any R hR A c B w' (hr.below (h.mono hB)) (Nat.le_trans hB h.size))
  have hPF : ∀ (M : List Int) (g d : Nat) w', Below w.heap.size w w' → Reads w' w'.heap.size 1 (some ⟨g, 0, none⟩) R.C.length (M.map (Value.int .i64)) → Hid (Calls Try.prog 94 #[.agg #[.int .i64 R.W, .int .i64 R.T, .slice A R.C.length c], .slice (some ⟨g, 0, none⟩) R.C.length d, .func (.func 95) #[] #[]] w' (ClipInts w' (flL R M fun _ => true))) := fun M g d w' _ ha =>
    hide (flips_any 95 #[] (fun _ => true) R hR A c w'.heap.size M (some ⟨g, 0, none⟩) d w' enters_anyCorner (fun k w'' _ _ _ => anyCorner_any k w'') ha (Nat.le_refl _))
  have hsu := fun n M h => flTot_succ (R := R) (n := n) (M := M) h
  have HSU := Lib.hid hsu
  have hbd := fun n => flTot_le hR n
  have HBD := Lib.hid hbd
  have hnl := tilT_len R
  have HNL := Lib.hid hnl
  have hb0 : Below w.heap.size w (w.alloc (boxR R.W R.T A R.C.length c)) := (Below.refl _ _).alloc (Nat.le_refl _) _
  have k0 : Blk (w.alloc (boxR R.W R.T A R.C.length c)) w.heap.size 25 #[.int .i64 R.W, .int .i64 R.T, .slice A R.C.length c] := Blk.new _ _ _
  clear hsu hbd hnl hr hsm hcnt
  generalize tilT R = TT at *
  go_enter Try.func51, Try.ntmps51
  go_wp2_with fail
  refine (unhide (hSM _ hb0)).mono ?_
  rintro e w1 ⟨rfl, hb1⟩
  have hB1 := hb0.trans (hb1.mono hb0.size)
  have k1 := k0.below hb1 k0.lt
  obtain ⟨b0, b1, b2⟩ := blk3 k1
  clear k0 hb0 hb1 hSM
  go_wp2_with fail
  refine (unhide (hTI _ hB1)).mono ?_
  rintro e w3 ⟨A3, c3, c3', xs, rfl, hR3, hb3⟩
  have hB3 := hB1.trans (hb3.mono hB1.size)
  have k3 := k1.below hb3 k1.lt
  have hR3' := hR3.mono (b' := 0) (by omega)
  clear b0 b1 b2 k1 hb3 hB1 hTI hR3
  go_wp2_with fail
  go_loopg [3, 12] TT.length (fun r s5 s20 wr => ∃ k : Nat, k + r = TT.length ∧ s20 = .int .i64 (k : Nat) ∧ s5 = .int .i64 (flTot R k : Nat) ∧ Below w.heap.size w wr ∧ Blk wr w.heap.size 25 #[.int .i64 R.W, .int .i64 R.T, .slice A R.C.length c] ∧ RowsOf wr 0 R.C.length (.slice A3 TT.length c3) xs TT)
  case atStart => exact ⟨0, by omega, rfl, by simp [flTot], hB3, k3, hR3'⟩
  case round =>
    clear hR3' k3 hB3
    obtain ⟨k, hk, rfl, rfl, hBw, hbk, hrow⟩ := hrel
    have HK := Lib.hid hk
    clear hk
    have hbdk := HBD.out k
    by_cases hlt : k < TT.length
    · obtain ⟨x, M, hx, hM, hin⟩ := hrow.at_ hlt
      obtain ⟨gx, cx, rfl, hrx⟩ := hin.reads
      have hown := hrow.own
      rw [hrow.len] at hown
      obtain ⟨g3, cg3, hsh3, _, _, _⟩ := own_shape hown (by omega)
      simp only [Value.slice.injEq, true_and] at hsh3
      obtain ⟨rfl, rfl⟩ := hsh3
      have hxc : wr.cell? ⟨g3, k, none⟩ = some (.slice (some ⟨gx, 0, none⟩) R.C.length cx) := by rw [hown.cellAt k (by omega)]; exact hx
      have hHk := hPF M gx cx wr hBw hrx
      have hs1 := HSU.out k M hM
      have hbdk1 := HBD.out (k + 1)
      rw [hs1] at hbdk1
      have HS1 := Lib.hid hs1
      have hnl := HNL.out
      generalize (flL R M fun _ => true) = V at *
      generalize flTot R k = sN at *
      obtain ⟨b0, b1, b2⟩ := blk3 hbk
      have hw := IntWalk.wrap64_in ((sN : Int) + (V.length : Int)) (by omega)
      clear hs1 hM hx hown hin hrx hbdk hbdk1
      generalize hsI : (sN : Int) = sI at *
      have HSI := Lib.hid hsI
      clear hsI
      go_wp2_with fail
      refine (unhide hHk).mono ?_
      rintro e w4 ⟨A', c', rfl, _, hb4⟩
      have hrow4 := hrow.below hb4
      have k4 := hbk.below hb4 hbk.lt
      have hB4 := hBw.trans (hb4.mono hBw.size)
      clear b0 b1 b2 hxc hBw hbk hrow hb4 hHk
      go_wp2_with fail
      go_roundg (TT.length - (k + 1))
      case measure => have := HK.out; omega
      case rel => exact ⟨k + 1, by have := HK.out; omega, by go_num, congrArg (Value.int .i64) (by have e1 := HSI.out; rw [HS1.out]; omega), hB4, k4, hrow4⟩
    · obtain rfl : k = TT.length := by have := HK.out; omega
      go_wp2_with fail
      go_ret
      exact ⟨ret_int (by rw [IntWalk.wrap64_in _ (by have := HNL.out; omega)]; omega), hBw⟩

set_option maxHeartbeats 2000000 in
set_option maxRecDepth 20000 in
theorem flipLinesS_ok (R : Reg) (hR : R.ok) (hcnt : cnt R.C ≤ 16) (A : Option Addr) (c B : Nat) (w : World) (hr : Reads w B 1 A R.C.length (R.C.map Value.bool)) (hB : B ≤ w.heap.size) :
    Calls Try.prog 52 #[.agg #[.int .i64 R.W, .int .i64 R.T, .slice A R.C.length c]] w fun e w' => e = .returned (.int .i64 ((flTot R (tilT R).length / 2 : Nat) : Int)) ∧ Below w.heap.size w w' := by
  have hl36 := (len_bd hR).2
  have hl1 := (len_bd hR).1
  have hSM := fun w' (h : Below w.heap.size w w') => hide (validS_any R.W R.T A R.C.length c B R.C w' (hr.below (h.mono hB)) (Nat.le_trans hB h.size) (by omega))
  have hsm : validB R.W R.T R.C = true := valid_of_ok hR
  simp only [hsm] at hSM
  have hCM := fun w' (h : Below w.heap.size w w') => hide (cellsManyS_ok R hR A c B w' (hr.below (h.mono hB)) (Nat.le_trans hB h.size))
  have hgt : decide ((16 : Int) < cnt R.C) = false := decide_eq_false (by omega)
  have hTI := fun w' (h : Below w.heap.size w w') => hide (tilingsAllS_ok R hR A c B w' (hr.below (h.mono hB)) (Nat.le_trans hB h.size))
  have hPF : ∀ (M : List Int) (g d : Nat) w', Tile R M → Below w.heap.size w w' → Reads w' w'.heap.size 1 (some ⟨g, 0, none⟩) R.C.length (M.map (Value.int .i64)) → Hid (Calls Try.prog 42 #[.agg #[.int .i64 R.W, .int .i64 R.T, .slice A R.C.length c], .slice (some ⟨g, 0, none⟩) R.C.length d] w' (RetInts w' (flL R M fun _ => true))) := fun M g d w' hM h ha => by
    have := flipsOfS_any R.W R.T A R.C.length c w'.heap.size R.C M (some ⟨g, 0, none⟩) R.C.length d w' rfl hM.1.len ((hr.below (h.mono hB)).more (Nat.le_trans hB h.size)) ha (Nat.le_refl _) (by omega) (by omega)
    rw [fsV_yes (by rw [laidB_ok hR]; exact (laysB_iff hR).2 hM.1)] at this
    exact hide this
  have hTl : ∀ (k : Nat) (M : List Int), (tilT R)[k]? = some M → Tile R M := fun k M h => (tilT_iff hR).1 (List.mem_of_getElem? h)
  have HTL := Lib.hid hTl
  have hsu := fun n M h => flTot_succ (R := R) (n := n) (M := M) h
  have HSU := Lib.hid hsu
  have hbd := fun n => flTot_le hR n
  have HBD := Lib.hid hbd
  have hnl := tilT_len R
  have HNL := Lib.hid hnl
  have hb0 : Below w.heap.size w (w.alloc (boxR R.W R.T A R.C.length c)) := (Below.refl _ _).alloc (Nat.le_refl _) _
  have k0 : Blk (w.alloc (boxR R.W R.T A R.C.length c)) w.heap.size 25 #[.int .i64 R.W, .int .i64 R.T, .slice A R.C.length c] := Blk.new _ _ _
  clear hTl hsu hbd hnl hr hsm
  generalize tilT R = TT at *
  go_enter Try.func52, Try.ntmps52
  go_wp2_with fail
  refine (unhide (hSM _ hb0)).mono ?_
  rintro e w1 ⟨rfl, hb1⟩
  have hB1 := hb0.trans (hb1.mono hb0.size)
  have k1 := k0.below hb1 k0.lt
  obtain ⟨b0, b1, b2⟩ := blk3 k1
  clear k0 hb0 hb1 hSM
  go_wp2_with fail
  refine (unhide (hCM _ hB1)).mono ?_
  rintro e w22 ⟨rfl, hb22⟩
  have hB22 := hB1.trans (hb22.mono hB1.size)
  have k22 := k1.below hb22 k1.lt
  clear b0 b1 b2 k1 hb22 hB1 hCM
  obtain ⟨b0, b1, b2⟩ := blk3 k22
  go_wp2_with fail
  refine (unhide (hTI _ hB22)).mono ?_
  rintro e w3 ⟨A3, c3, xs, rfl, hR3, hb3, _⟩
  have hB3 := hB22.trans (hb3.mono hB22.size)
  have k3 := k22.below hb3 k22.lt
  have hR3' := hR3.mono (b' := 0) (by omega)
  clear b0 b1 b2 k22 hb3 hB22 hTI hR3
  go_wp2_with fail
  go_loopg [3, 5] TT.length (fun r s5 s7 wr => ∃ k : Nat, k + r = TT.length ∧ s7 = .int .i64 (k : Nat) ∧ s5 = .int .i64 (flTot R k : Nat) ∧ Below w.heap.size w wr ∧ Blk wr w.heap.size 25 #[.int .i64 R.W, .int .i64 R.T, .slice A R.C.length c] ∧ RowsOf wr 0 R.C.length (.slice A3 TT.length c3) xs TT)
  case atStart => exact ⟨0, by omega, rfl, by simp [flTot], hB3, k3, hR3'⟩
  case round =>
    clear hR3' k3 hB3
    obtain ⟨k, hk, rfl, rfl, hBw, hbk, hrow⟩ := hrel
    have HK := Lib.hid hk
    clear hk
    have hbdk := HBD.out k
    by_cases hlt : k < TT.length
    · obtain ⟨x, M, hx, hM, hin⟩ := hrow.at_ hlt
      obtain ⟨gx, cx, rfl, hrx⟩ := hin.reads
      have hTM := HTL.out k M hM
      have hown := hrow.own
      rw [hrow.len] at hown
      obtain ⟨g3, cg3, hsh3, _, _, _⟩ := own_shape hown (by omega)
      simp only [Value.slice.injEq, true_and] at hsh3
      obtain ⟨rfl, rfl⟩ := hsh3
      have hxc : wr.cell? ⟨g3, k, none⟩ = some (.slice (some ⟨gx, 0, none⟩) R.C.length cx) := by rw [hown.cellAt k (by omega)]; exact hx
      have hHk := hPF M gx cx wr.drew hTM hBw.drew hrx
      have hs1 := HSU.out k M hM
      have hbdk1 := HBD.out (k + 1)
      rw [hs1] at hbdk1
      have HS1 := Lib.hid hs1
      have hnl := HNL.out
      generalize (flL R M fun _ => true) = V at *
      generalize flTot R k = sN at *
      obtain ⟨b0, b1, b2⟩ := blk3 hbk
      have hw := IntWalk.wrap64_in ((sN : Int) + (V.length : Int)) (by omega)
      clear hs1 hM hx hown hin hrx hTM hbdk hbdk1
      generalize hsI : (sN : Int) = sI at *
      have HSI := Lib.hid hsI
      clear hsI
      go_upto_region 8 with fail
      go_region_with
        (first
          | (go_at_call 42; (with_reducible refine (unhide hHk).mono ?_); rintro e w4 ⟨A', c', c'', rfl, _, hb4⟩))
      all_goals
        have hrow4 := (hrow.below (Below.refl wr.heap.size wr).drew).below hb4
        have k4 := hbk.drew.below hb4 hbk.drew.lt
        have hB4 := hBw.drew.trans (hb4.mono hBw.drew.size)
        clear b0 b1 b2 hxc hBw hbk hrow hb4 hHk
        go_wp2_with fail
        go_roundg (TT.length - (k + 1))
        case measure => have := HK.out; omega
        case rel => exact ⟨k + 1, by have := HK.out; omega, by go_num, congrArg (Value.int .i64) (by have e1 := HSI.out; rw [HS1.out]; omega), hB4, k4, hrow4⟩
    · obtain rfl : k = TT.length := by have := HK.out; omega
      go_wp2_with fail
      go_ret
      exact ⟨ret_int (by rw [IntWalk.wrap64_in _ (by have := HNL.out; omega)]; omega), hBw⟩

theorem flipLinesI_any (W T : Int) (A : Option Addr) (n c B : Nat) (bs : List Bool) (w : World) (hbl : bs.length = n) (hr : Reads w B 1 A n (bs.map Value.bool)) (hB : B ≤ w.heap.size) (hn : n ≤ 9223372036854775807) :
    Calls Try.prog 51 #[.agg #[.int .i64 W, .int .i64 T, .slice A n c]] w fun e w' => e = .returned (.int .i64 (flnV W T bs)) ∧ Below w.heap.size w w' := by
  by_cases h : validB W T bs = true ∧ cnt bs ≤ 16
  · obtain ⟨R, hR, rfl, rfl, rfl⟩ := reg_of_valid h.1
    rw [flnV_yes hR h.2]
    subst hbl
    exact flipLinesI_ok R hR h.2 A c B w hr hB
  · rw [flnV_no h]
    have hb0 : Below w.heap.size w (w.alloc (boxR W T A n c)) := (Below.refl _ _).alloc (Nat.le_refl _) _
    have hSM := hide (small_any W T A n c B bs _ (hr.below (hb0.mono hB)) (Nat.le_trans hB hb0.size) hn)
    have hsm : (validB W T bs && decide (cnt bs ≤ 16)) = false := by
      cases hv : validB W T bs with
      | false => rfl
      | true => rw [decide_eq_false fun hc => h ⟨hv, hc⟩]; rfl
    rw [hsm] at hSM
    clear hsm h hr
    go_enter Try.func51, Try.ntmps51
    go_wp2_with fail
    refine (unhide hSM).mono ?_
    rintro e w1 ⟨rfl, hb1⟩
    go_wp2_with fail
    go_ret
    exact ⟨rfl, hb0.trans (hb1.mono hb0.size)⟩
theorem flipLinesS_any (W T : Int) (A : Option Addr) (n c B : Nat) (bs : List Bool) (w : World) (hbl : bs.length = n) (hr : Reads w B 1 A n (bs.map Value.bool)) (hB : B ≤ w.heap.size) (hn : n ≤ 9223372036854775807) :
    Calls Try.prog 52 #[.agg #[.int .i64 W, .int .i64 T, .slice A n c]] w fun e w' => e = .returned (.int .i64 (flnV W T bs)) ∧ Below w.heap.size w w' := by
  have hb0 : Below w.heap.size w (w.alloc (boxR W T A n c)) := (Below.refl _ _).alloc (Nat.le_refl _) _
  have k0 : Blk (w.alloc (boxR W T A n c)) w.heap.size 25 #[.int .i64 W, .int .i64 T, .slice A n c] := Blk.new _ _ _
  cases hv : validB W T bs with
  | false =>
    rw [flnV_no (by rw [hv]; simp)]
    have hSM := hide (validS_any W T A n c B bs _ (hr.below (hb0.mono hB)) (Nat.le_trans hB hb0.size) hn)
    rw [hv] at hSM
    clear hv hr k0
    go_enter Try.func52, Try.ntmps52
    go_wp2_with fail
    refine (unhide hSM).mono ?_
    rintro e w1 ⟨rfl, hb1⟩
    go_wp2_with fail
    go_ret
    exact ⟨rfl, hb0.trans (hb1.mono hb0.size)⟩
  | true =>
    obtain ⟨R, hR, rfl, rfl, rfl⟩ := reg_of_valid hv
    subst hbl
    by_cases hc : cnt R.C ≤ 16
    · rw [flnV_yes hR hc]
      exact flipLinesS_ok R hR hc A c B w hr hB
    · rw [flnV_no fun h => hc h.2]
      have hSM := hide (validS_any R.W R.T A R.C.length c B R.C _ (hr.below (hb0.mono hB)) (Nat.le_trans hB hb0.size) hn)
      rw [hv] at hSM
      have hCM := fun w' (h : Below w.heap.size w w') => hide (cellsManyS_ok R hR A c B w' (hr.below (h.mono hB)) (Nat.le_trans hB h.size))
      have hgt : decide ((16 : Int) < cnt R.C) = true := decide_eq_true (by omega)
      clear hv hr hc
      go_enter Try.func52, Try.ntmps52
      go_wp2_with fail
      refine (unhide hSM).mono ?_
      rintro e w1 ⟨rfl, hb1⟩
      have hB1 := hb0.trans (hb1.mono hb0.size)
      obtain ⟨b0, b1, b2⟩ := blk3 (k0.below hb1 k0.lt)
      have hCM := hCM _ hB1
      clear k0 hb0 hb1 hSM
      go_wp2_with fail
      refine (unhide hCM).mono ?_
      rintro e w2 ⟨rfl, hb2⟩
      go_wp2_with fail
      go_ret
      exact ⟨rfl, hB1.trans (hb2.mono hB1.size)⟩

end Go.Proofs.Ythepfpiphlfgnaa

/-
  YthepfpiphlfgnaaLo: what FnFlipLines (its first half), FnReachMany and FnPushedMany say of the values. Plain Lean.
-/
namespace Go.Proofs.Ythepfpiphlfgnaa

theorem sum_all {g : List Int → Nat} : ∀ {l : List (List Int)}, (∀ M ∈ l, 1 ≤ g M) → l.length ≤ (l.map g).sum
  | [], _ => by simp
  | M :: l, h => by
    have ih := sum_all (g := g) (l := l) fun N hN => h N (by simp [hN])
    have := h M (by simp)
    rw [List.map_cons, List.sum_cons, List.length_cons]; omega
theorem sum_but {g : List Int → Nat} {x : List Int} : ∀ {l : List (List Int)}, l.Nodup → (∀ M ∈ l, M ≠ x → 1 ≤ g M) → l.length ≤ (l.map g).sum + 1
  | [], _, _ => by simp
  | M :: l, hn, h => by
    rw [List.nodup_cons] at hn
    rw [List.map_cons, List.sum_cons, List.length_cons]
    by_cases hM : M = x
    · have := sum_all (g := g) (l := l) fun N hN => h N (by simp [hN]) fun e => hn.1 (by rw [hM, ← e]; exact hN)
      omega
    · have := sum_but (g := g) (x := x) (l := l) hn.2 fun N hN => h N (by simp [hN])
      have := h M (by simp) hM
      omega
theorem sum_split {f g h : List Int → Nat} : ∀ {l : List (List Int)}, (∀ M ∈ l, f M = g M + h M) → (l.map f).sum = (l.map g).sum + (l.map h).sum
  | [], _ => rfl
  | M :: l, hh => by
    have ih := sum_split (f := f) (g := g) (h := h) (l := l) fun N hN => hh N (by simp [hN])
    have := hh M (by simp)
    rw [List.map_cons, List.sum_cons, List.map_cons, List.sum_cons, List.map_cons, List.sum_cons]; omega
theorem up_dn (R : Reg) (L : List Int) : (flL R L fun _ => true).length = (upL R L).length + (dnL R L).length := by
  unfold upL dnL flL
  rw [flTo_len_eq, flTo_len_eq, flTo_len_eq]
  refine (filter_part (fun (j : Nat) => flB R L (j : Int)) _ _ (fun j hj => ?_) _).symm
  rw [rsZ_nat]
  rcases rsV_or hj with e | e
  · exact .inl ⟨by rw [e]; rfl, by rw [e]; rfl⟩
  · exact .inr ⟨by rw [e]; rfl, by rw [e]; rfl⟩
/-- In a simple region there are at least as many flips, each counted from both sides, as twice the tilings less 1. -/
theorem law_flipLines {W T : Int} {bs : List Bool} (hs : simpleB W T bs = true) (hc : cnt bs ≤ 16) : tmI W T bs - 1 ≤ flnV W T bs := by
  obtain ⟨R, hR, rfl, rfl, rfl, hS⟩ := simple_cases hs
  rw [flnV_yes hR hc, tmI_ok hR]
  have e : flTot R (tilT R).length = ((tilT R).map fun M => (flL R M fun _ => true).length).sum := by unfold flTot; rw [List.take_length]
  rw [e, sum_split (g := fun M => (upL R M).length) (h := fun M => (dnL R M).length) fun M _ => up_dn R M]
  have h1 := sum_but (g := fun M => (upL R M).length) (x := exV max R.W R.T R.C) (tilT_nodup hR) fun M hM hx => by
    have hM := (tilT_iff hR).1 hM
    rcases Nat.eq_zero_or_pos (upL R M).length with h0 | h0
    · exact absurd ((up_none hR hS hM).1 (List.eq_nil_of_length_eq_zero h0)).symm hx
    · exact h0
  have h2 := sum_but (g := fun M => (dnL R M).length) (x := exV min R.W R.T R.C) (tilT_nodup hR) fun M hM hx => by
    have hM := (tilT_iff hR).1 hM
    rcases Nat.eq_zero_or_pos (dnL R M).length with h0 | h0
    · exact absurd ((dn_none hR hS hM).1 (List.eq_nil_of_length_eq_zero h0)).symm hx
    · exact h0
  omega



end Go.Proofs.Ythepfpiphlfgnaa

/-
  YthepfpiphlfgnaaLr: left out.
-/
namespace Go.Proofs.Ythepfpiphlfgnaa

end Go.Proofs.Ythepfpiphlfgnaa

/-
  YthepfpiphlfgnaaLt: a region and its dominoes turned by a right angle. Plain Lean.
-/
namespace Go.Proofs.Ythepfpiphlfgnaa

theorem nodup_map_on {α β : Type} {f : α → β} : ∀ {l : List α}, l.Nodup → (∀ x ∈ l, ∀ y ∈ l, f x = f y → x = y) → (l.map f).Nodup
  | [], _, _ => by simp
  | a :: l, h, hi => by
    rw [List.nodup_cons] at h
    rw [List.map_cons, List.nodup_cons]
    refine ⟨fun hm => ?_, nodup_map_on h.2 fun x hx y hy => hi x (by simp [hx]) y (by simp [hy])⟩
    obtain ⟨y, hy, e⟩ := List.mem_map.1 hm
    have := hi y (by simp [hy]) a (by simp) e
    exact h.1 (this ▸ hy)
theorem count_le {α β : Type} [DecidableEq β] {l : List α} {m : List β} {f : α → β} (hn : l.Nodup) (hi : ∀ x ∈ l, ∀ y ∈ l, f x = f y → x = y) (hm : ∀ x ∈ l, f x ∈ m) : l.length ≤ m.length := by
  have := nodup_le (nodup_map_on hn hi) fun y hy => by
    obtain ⟨x, hx, rfl⟩ := List.mem_map.1 hy
    exact hm x hx
  rwa [List.length_map] at this
theorem sum_erase {g : List Int → Nat} {a : List Int} : ∀ {m : List (List Int)}, a ∈ m → (m.map g).sum = g a + ((m.erase a).map g).sum
  | [], h => by cases h
  | b :: m, h => by
    by_cases e : b = a
    · subst e
      rw [List.erase_cons_head, List.map_cons, List.sum_cons]
    · have hm : a ∈ m := by
        rcases List.mem_cons.1 h with h1 | h1
        · exact absurd h1.symm e
        · exact h1
      rw [List.erase_cons_tail (by simpa using e), List.map_cons, List.sum_cons, List.map_cons, List.sum_cons, sum_erase hm]
      omega
theorem sum_sub {g : List Int → Nat} : ∀ {l m : List (List Int)}, l.Nodup → (∀ x ∈ l, x ∈ m) → (l.map g).sum ≤ (m.map g).sum
  | [], _, _, _ => by simp
  | a :: l, m, h, hs => by
    rw [List.nodup_cons] at h
    rw [List.map_cons, List.sum_cons, sum_erase (hs a (by simp))]
    have := sum_sub (g := g) (l := l) (m := m.erase a) h.2 fun x hx => (List.mem_erase_of_ne (fun e => h.1 (by rw [← e]; exact hx))).2 (hs x (by simp [hx]))
    omega

/-- The shape alone. -/
def Reg.sh (R : Reg) : Prop := 1 ≤ R.W ∧ R.W ≤ 6 ∧ 1 ≤ R.T ∧ R.T ≤ 6 ∧ R.C.length = R.W * R.T
theorem sh_of_ok {R : Reg} (h : R.ok) : R.sh := ⟨h.1, h.2.1, h.2.2.1, h.2.2.2.1, h.2.2.2.2.1⟩
/-- Where the cell of the turned region was, and where a cell comes to. -/
def Reg.un (R : Reg) (p : Nat) : Nat := (R.T - 1 - p % R.T) * R.W + p / R.T
def Reg.to (R : Reg) (c : Nat) : Nat := (c % R.W) * R.T + (R.T - 1 - c / R.W)
def turnR (R : Reg) : Reg := ⟨R.T, R.W, (List.range R.C.length).map fun p => R.C.getD (R.un p) false⟩
def tuW (z : Int) : Int := if z = 0 then 0 else z % 4 + 1
def tuL (R : Reg) (L : List Int) : List Int := (List.range R.C.length).map fun p => tuW (L.getD (R.un p) 0)
theorem un_at {R : Reg} {a : Nat} (b : Nat) (ha : a < R.T) : R.un (b * R.T + a) = (R.T - 1 - a) * R.W + b := by
  unfold Reg.un
  rw [mk_mod b ha, mk_div b ha]
theorem to_at {R : Reg} {a : Nat} (b : Nat) (ha : a < R.W) : R.to (b * R.W + a) = a * R.T + (R.T - 1 - b) := by
  unfold Reg.to
  rw [mk_mod b ha, mk_div b ha]
theorem sh_turn {R : Reg} (h : R.sh) : (turnR R).sh := ⟨h.2.2.1, h.2.2.2.1, h.1, h.2.1, by show ((List.range R.C.length).map _).length = R.T * R.W; rw [List.length_map, List.length_range, h.2.2.2.2, Nat.mul_comm]⟩
theorem idx_sh {W T x y : Nat} (hx : x < W) (hy : y < T) : y * W + x < W * T := by
  calc y * W + x < y * W + W := by omega
    _ = (y + 1) * W := by rw [Nat.add_mul, Nat.one_mul]
    _ ≤ T * W := Nat.mul_le_mul_right _ (by omega)
    _ = W * T := Nat.mul_comm _ _
theorem at_turn {R : Reg} (h : R.sh) (x y : Int) : (turnR R).at x y = R.at y ((R.T : Int) - 1 - x) := by
  by_cases hin : 0 ≤ x ∧ x < R.T ∧ 0 ≤ y ∧ y < R.W
  · obtain ⟨a, rfl⟩ := Int.eq_ofNat_of_zero_le hin.1
    obtain ⟨b, rfl⟩ := Int.eq_ofNat_of_zero_le hin.2.2.1
    have ha : a < R.T := by omega
    have hb : b < R.W := by omega
    have e : ((R.T : Int) - 1 - (a : Int)) = ((R.T - 1 - a : Nat) : Int) := by omega
    rw [e, at_in (R := R) hb (by omega), at_in (R := turnR R) (x := a) (y := b) ha hb]
    show ((List.range R.C.length).map fun p => R.C.getD (R.un p) false).getD (b * R.T + a) false = _
    rw [List.getD_eq_getElem?_getD, List.getElem?_map, List.getElem?_range (by rw [h.2.2.2.2, Nat.mul_comm R.W]; exact idx_sh ha hb)]
    show R.C.getD (R.un (b * R.T + a)) false = _
    rw [un_at b ha]
  · rw [at_out (R := turnR R) (show ¬ (0 ≤ x ∧ x < ((turnR R).W : Int) ∧ 0 ≤ y ∧ y < ((turnR R).T : Int)) from hin), at_out (by omega)]
theorem way_turn {R : Reg} (h : R.sh) (L : List Int) (x y : Int) : (turnR R).way (tuL R L) x y = tuW (R.way L y ((R.T : Int) - 1 - x)) := by
  by_cases hin : 0 ≤ x ∧ x < R.T ∧ 0 ≤ y ∧ y < R.W
  · obtain ⟨a, rfl⟩ := Int.eq_ofNat_of_zero_le hin.1
    obtain ⟨b, rfl⟩ := Int.eq_ofNat_of_zero_le hin.2.2.1
    have ha : a < R.T := by omega
    have hb : b < R.W := by omega
    have e : ((R.T : Int) - 1 - (a : Int)) = ((R.T - 1 - a : Nat) : Int) := by omega
    rw [e, way_in (R := R) hb (by omega), way_in (R := turnR R) (x := a) (y := b) ha hb]
    show ((List.range R.C.length).map fun p => tuW (L.getD (R.un p) 0)).getD (b * R.T + a) 0 = _
    rw [List.getD_eq_getElem?_getD, List.getElem?_map, List.getElem?_range (by rw [h.2.2.2.2, Nat.mul_comm R.W]; exact idx_sh ha hb)]
    show tuW (L.getD (R.un (b * R.T + a)) 0) = _
    rw [un_at b ha]
  · rw [way_out (R := turnR R) (show ¬ (0 ≤ x ∧ x < ((turnR R).W : Int) ∧ 0 ≤ y ∧ y < ((turnR R).T : Int)) from hin), way_out (by omega)]
    rfl
theorem reg_ext {R S : Reg} (h : R.sh) (g : S.sh) (hW : R.W = S.W) (hT : R.T = S.T) (ha : ∀ x y : Nat, x < R.W → y < R.T → R.at x y = S.at x y) : R = S := by
  have hC : R.C = S.C := by
    have hl : R.C.length = S.C.length := by rw [h.2.2.2.2, g.2.2.2.2, hW, hT]
    apply List.ext_getElem hl
    intro i hi hi'
    have hi2 : i < R.W * R.T := by rw [← h.2.2.2.2]; exact hi
    have hx : i % R.W < R.W := Nat.mod_lt _ h.1
    have hy : i / R.W < R.T := Nat.div_lt_of_lt_mul hi2
    have e : i / R.W * R.W + i % R.W = i := by rw [Nat.mul_comm]; exact Nat.div_add_mod i R.W
    have := ha _ _ hx hy
    rw [at_in hx hy, at_in (R := S) (by rw [← hW]; exact hx) (by rw [← hT]; exact hy), ← hW, e, List.getD_eq_getElem?_getD, List.getD_eq_getElem?_getD, List.getElem?_eq_getElem hi, List.getElem?_eq_getElem hi'] at this
    exact this
  cases R; cases S
  simp only at hW hT hC
  subst hW hT hC
  rfl
/-- Turned four times it is as before. -/
theorem turn4 {R : Reg} (h : R.sh) : turnR (turnR (turnR (turnR R))) = R := by
  have h1 := sh_turn h
  have h2 := sh_turn h1
  have h3 := sh_turn h2
  refine reg_ext (sh_turn h3) h rfl rfl fun x y _ _ => ?_
  rw [at_turn h3, at_turn h2, at_turn h1, at_turn h]
  show R.at ((R.W : Int) - 1 - ((R.W : Int) - 1 - x)) ((R.T : Int) - 1 - ((R.T : Int) - 1 - y)) = R.at x y
  congr 1 <;> omega
theorem cnt_range2 (bs : List Bool) : ∀ n, n ≤ bs.length → ((List.range n).filter fun k => bs.getD k false).length = cnt (bs.take n)
  | 0, _ => by simp [cnt]
  | n + 1, h => by
    rw [cnt_take bs n (by omega), List.range_succ, List.filter_append, List.length_append, cnt_range2 bs n (by omega)]
    congr 1
    have : bs.getD n false = bs[n] := by rw [List.getD_eq_getElem?_getD, List.getElem?_eq_getElem (show n < bs.length by omega)]; rfl
    rw [List.filter_cons, this]
    cases bs[n] <;> rfl
theorem to_un {R : Reg} (h : R.sh) {c : Nat} (hc : c < R.C.length) : R.to c < R.C.length ∧ R.un (R.to c) = c := by
  have hc2 : c < R.W * R.T := by rw [← h.2.2.2.2]; exact hc
  have hx : c % R.W < R.W := Nat.mod_lt _ h.1
  have hy : c / R.W < R.T := Nat.div_lt_of_lt_mul hc2
  have e : c / R.W * R.W + c % R.W = c := by rw [Nat.mul_comm]; exact Nat.div_add_mod c R.W
  have h1 := h.2.2.1
  unfold Reg.to
  obtain ⟨a, ha⟩ : ∃ a, c % R.W = a := ⟨_, rfl⟩
  obtain ⟨b, hb⟩ : ∃ b, c / R.W = b := ⟨_, rfl⟩
  rw [ha] at hx e
  rw [hb] at hy e
  rw [ha, hb]
  refine ⟨by rw [h.2.2.2.2, Nat.mul_comm R.W]; exact idx_sh (by omega) hx, ?_⟩
  rw [un_at _ (by omega), show R.T - 1 - (R.T - 1 - b) = b by omega, e]
theorem cnt_le_turn {R : Reg} (h : R.sh) : cnt R.C ≤ cnt (turnR R).C := by
  have e1 := cnt_range2 R.C R.C.length (Nat.le_refl _)
  have hl : (turnR R).C.length = R.C.length := by show ((List.range R.C.length).map _).length = _; rw [List.length_map, List.length_range]
  have e2 := cnt_range2 (turnR R).C R.C.length (Nat.le_of_eq hl.symm)
  rw [List.take_length] at e1
  rw [← hl, List.take_length, hl] at e2
  rw [← e1, ← e2]
  refine count_le (f := R.to) (List.Pairwise.filter _ List.nodup_range) (fun x hx y hy he => ?_) fun x hx => ?_
  · rw [List.mem_filter, List.mem_range] at hx hy
    have a := (to_un h hx.1).2
    have b := (to_un h hy.1).2
    rw [he, b] at a
    exact a.symm
  · rw [List.mem_filter, List.mem_range] at hx
    obtain ⟨t1, t2⟩ := to_un h hx.1
    rw [List.mem_filter, List.mem_range]
    refine ⟨t1, ?_⟩
    show ((List.range R.C.length).map fun p => R.C.getD (R.un p) false).getD (R.to x) false = true
    rw [List.getD_eq_getElem?_getD, List.getElem?_map, List.getElem?_range t1]
    show R.C.getD (R.un (R.to x)) false = true
    rw [t2]; exact hx.2
theorem cnt_turn {R : Reg} (h : R.sh) : cnt (turnR R).C = cnt R.C := by
  have h1 := sh_turn h
  have h2 := sh_turn h1
  have h3 := sh_turn h2
  have a := cnt_le_turn h
  have b := cnt_le_turn h1
  have c := cnt_le_turn h2
  have d := cnt_le_turn h3
  rw [turn4 h] at d
  omega
theorem ok_turn {R : Reg} (hR : R.ok) : (turnR R).ok := by
  obtain ⟨a, b, c, d, e⟩ := sh_turn (sh_of_ok hR)
  exact ⟨a, b, c, d, e, by rw [cnt_turn (sh_of_ok hR)]; exact hR.2.2.2.2.2⟩

theorem tuW_bd {z : Int} (_h : 0 ≤ z ∧ z ≤ 4) : 0 ≤ tuW z ∧ tuW z ≤ 4 := by unfold tuW; split <;> omega
theorem tuW_0 {z : Int} (_h : 0 ≤ z ∧ z ≤ 4) : tuW z = 0 ↔ z = 0 := by unfold tuW; split <;> omega
theorem tuW_1 {z : Int} (h : 0 ≤ z ∧ z ≤ 4) : tuW z = 1 ↔ z = 4 := by unfold tuW; split <;> omega
theorem tuW_2 {z : Int} (h : 0 ≤ z ∧ z ≤ 4) : tuW z = 2 ↔ z = 1 := by unfold tuW; split <;> omega
theorem tuW_3 {z : Int} (h : 0 ≤ z ∧ z ≤ 4) : tuW z = 3 ↔ z = 2 := by unfold tuW; split <;> omega
theorem tuW_4 {z : Int} (h : 0 ≤ z ∧ z ≤ 4) : tuW z = 4 ↔ z = 3 := by unfold tuW; split <;> omega
theorem tuW4 {z : Int} (h : 0 ≤ z ∧ z ≤ 4) : tuW (tuW (tuW (tuW z))) = z := by
  rcases (show z = 0 ∨ z = 1 ∨ z = 2 ∨ z = 3 ∨ z = 4 by omega) with rfl | rfl | rfl | rfl | rfl <;> rfl
theorem lay_turn {R : Reg} (hR : R.ok) {L : List Int} (h : Lay R L) : Lay (turnR R) (tuL R L) where
  len := by show ((List.range R.C.length).map _).length = ((List.range R.C.length).map _).length; rw [List.length_map, List.length_map]
  at_ x y hw := by
    rw [way_turn (sh_of_ok hR)] at hw
    rw [at_turn (sh_of_ok hR)]
    exact h.at_ _ _ fun e => hw ((tuW_0 (h.rng _ _)).2 e)
  rng x y := by rw [way_turn (sh_of_ok hR)]; exact tuW_bd (h.rng _ _)
  hor x y := by
    rw [way_turn (sh_of_ok hR), way_turn (sh_of_ok hR), tuW_1 (h.rng _ _), tuW_3 (h.rng _ _), h.ver]
    have : (R.T : Int) - 1 - (x + 1) + 1 = (R.T : Int) - 1 - x := by omega
    rw [this]
  ver x y := by
    rw [way_turn (sh_of_ok hR), way_turn (sh_of_ok hR), tuW_2 (h.rng _ _), tuW_4 (h.rng _ _), h.hor]
theorem tile_turn {R : Reg} (hR : R.ok) {L : List Int} (h : Tile R L) : Tile (turnR R) (tuL R L) :=
  ⟨lay_turn hR h.1, fun x y ha => by
    rw [at_turn (sh_of_ok hR)] at ha
    rw [way_turn (sh_of_ok hR)]
    exact fun e => h.2 _ _ ha ((tuW_0 (h.1.rng _ _)).1 e)⟩
theorem tuL4 {R : Reg} (hR : R.ok) {L : List Int} (h : Lay R L) : tuL (turnR (turnR (turnR R))) (tuL (turnR (turnR R)) (tuL (turnR R) (tuL R L))) = L := by
  have k1 := ok_turn hR
  have k2 := ok_turn k1
  have k3 := ok_turn k2
  have h4 := lay_turn k3 (lay_turn k2 (lay_turn k1 (lay_turn hR h)))
  have hw : ∀ x y : Int, (turnR (turnR (turnR (turnR R)))).way (tuL (turnR (turnR (turnR R))) (tuL (turnR (turnR R)) (tuL (turnR R) (tuL R L)))) x y = R.way L x y := fun x y => by
    rw [way_turn (sh_of_ok k3), way_turn (sh_of_ok k2), way_turn (sh_of_ok k1), way_turn (sh_of_ok hR), tuW4 (h.rng _ _)]
    show R.way L ((R.W : Int) - 1 - ((R.W : Int) - 1 - x)) ((R.T : Int) - 1 - ((R.T : Int) - 1 - y)) = R.way L x y
    congr 1 <;> omega
  rw [turn4 (sh_of_ok hR)] at h4 hw
  exact lay_ext hR h4 h fun x y _ => hw x y
theorem tuL_inj {R : Reg} (hR : R.ok) {L M : List Int} (h : Lay R L) (g : Lay R M) (e : tuL R L = tuL R M) : L = M := by
  rw [← tuL4 hR h, e, tuL4 hR g]

/-- A corner, turned. -/
def Reg.ct (R : Reg) (k : Nat) : Nat := (k % (R.W + 1)) * (R.T + 1) + (R.T - k / (R.W + 1))
theorem fl_turn {R : Reg} (hR : R.ok) {L : List Int} (h : Lay R L) {k : Nat} (hf : flB R L (k : Int) = true) : flB (turnR R) (tuL R L) (R.ct k : Int) = true ∧ R.ct k < (turnR R).cn := by
  have hin : insB R k = true := by
    unfold flB fl1 fl2 insZ at hf
    simp only [Int.toNat_natCast] at hf
    cases hi : insB R k with
    | true => rfl
    | false => rw [hi] at hf; simp at hf
  have hin2 := hin
  simp only [insB, decide_eq_true_eq] at hin2
  obtain ⟨a, ha⟩ : ∃ a, k % (R.W + 1) = a := ⟨_, rfl⟩
  obtain ⟨b, hb⟩ : ∃ b, k / (R.W + 1) = b := ⟨_, rfl⟩
  rw [ha, hb] at hin2
  have hc1 : R.ct k % (R.T + 1) = R.T - b := by unfold Reg.ct; rw [ha, hb]; exact mk_mod _ (by omega)
  have hc2 : R.ct k / (R.T + 1) = a := by unfold Reg.ct; rw [ha, hb]; exact mk_div _ (by omega)
  have hs : swc R k = (b - 1) * R.W + (a - 1) := by unfold swc; rw [ha, hb]
  have hs1 : swc R k + 1 = (b - 1) * R.W + a := by rw [hs]; omega
  have hsW : swc R k + R.W = b * R.W + (a - 1) := by
    rw [hs]
    obtain ⟨b', rfl⟩ : ∃ b', b = b' + 1 := ⟨b - 1, by omega⟩
    rw [Nat.add_sub_cancel, Nat.add_mul, Nat.one_mul]; omega
  have hs' : swc (turnR R) (R.ct k) = (a - 1) * R.T + (R.T - b - 1) := by unfold swc; show (R.ct k / (R.T + 1) - 1) * R.T + (R.ct k % (R.T + 1) - 1) = _; rw [hc1, hc2]
  have hs1' : swc (turnR R) (R.ct k) + 1 = (a - 1) * R.T + (R.T - b) := by rw [hs']; omega
  have hsW' : swc (turnR R) (R.ct k) + (turnR R).W = a * R.T + (R.T - b - 1) := by
    rw [hs']
    show (a - 1) * R.T + (R.T - b - 1) + R.T = _
    obtain ⟨a', rfl⟩ : ∃ a', a = a' + 1 := ⟨a - 1, by omega⟩
    rw [Nat.add_sub_cancel, Nat.add_mul, Nat.one_mul]; omega
  have hi' : insB (turnR R) (R.ct k) = true := by
    simp only [insB, decide_eq_true_eq]
    show 1 ≤ R.ct k % (R.T + 1) ∧ R.ct k % (R.T + 1) + 1 ≤ R.T ∧ 1 ≤ R.ct k / (R.T + 1) ∧ R.ct k / (R.T + 1) + 1 ≤ R.W
    rw [hc1, hc2]; omega
  have w : ∀ x y : Nat, x < R.W → y < R.T → L.getD (y * R.W + x) 0 = R.way L x y := fun x y hx hy => (way_in hx hy).symm
  have w' : ∀ x y : Nat, x < R.T → y < R.W → (tuL R L).getD (y * R.T + x) 0 = tuW (R.way L y ((R.T : Int) - 1 - x)) := fun x y hx hy => by
    rw [← way_turn (sh_of_ok hR)]
    exact (way_in (R := turnR R) hx hy).symm
  refine ⟨?_, ?_⟩
  · unfold flB fl1 fl2 insZ at hf ⊢
    simp only [Int.toNat_natCast] at hf ⊢
    rw [hi', hs1', hsW', hs', w' _ _ (by omega) (by omega), w' _ _ (by omega) (by omega), w' _ _ (by omega) (by omega)]
    rw [hin, hs1, hsW, hs, w _ _ (by omega) (by omega), w _ _ (by omega) (by omega), w _ _ (by omega) (by omega)] at hf
    have e1 : (R.T : Int) - 1 - ((R.T - b - 1 : Nat) : Int) = (b : Int) := by omega
    have e2 : (R.T : Int) - 1 - ((R.T - b : Nat) : Int) = ((b - 1 : Nat) : Int) := by omega
    rw [e1, e2]
    have p : decide ((0 : Int) ≤ (k : Int)) = true := decide_eq_true (by omega)
    have p' : decide ((0 : Int) ≤ (R.ct k : Int)) = true := decide_eq_true (by omega)
    rw [p] at hf
    rw [p']
    simp only [Bool.true_and, Bool.or_eq_true, Bool.and_eq_true, beq_iff_eq] at hf ⊢
    have a1 : ((a - 1 : Nat) : Int) + 1 = (a : Int) := by omega
    have b1 : ((b - 1 : Nat) : Int) + 1 = (b : Int) := by omega
    rcases hf with ⟨f1, f2⟩ | ⟨f1, f2⟩
    · right
      exact ⟨(tuW_2 (h.rng _ _)).2 f2, (tuW_2 (h.rng _ _)).2 f1⟩
    · left
      have g1 := (h.ver _ _).1 f1
      have g2 := (h.ver _ _).1 f2
      rw [b1] at g1 g2
      exact ⟨(tuW_1 (h.rng _ _)).2 g1, (tuW_1 (h.rng _ _)).2 g2⟩
  · have : (turnR R).cn = (R.T + 1) * (R.W + 1) := rfl
    rw [this]
    unfold Reg.ct
    rw [ha, hb]
    exact idx_sh (by omega) (by omega)
def flc (R : Reg) (L : List Int) : Nat := (flL R L fun _ => true).length
theorem flc_eq (R : Reg) (L : List Int) : flc R L = ((List.range R.cn).filter fun (j : Nat) => flB R L (j : Int)).length := by
  unfold flc flL
  rw [flTo_len_eq]
  simp only [Bool.and_true]
theorem flc_le {R : Reg} (hR : R.ok) {L : List Int} (h : Lay R L) : flc R L ≤ flc (turnR R) (tuL R L) := by
  rw [flc_eq, flc_eq]
  have key : ∀ x, x < R.cn → flB R L (x : Int) = true → x / (R.W + 1) ≤ R.T := fun x hx _ => by
    have : x < (R.W + 1) * (R.T + 1) := hx
    have := Nat.div_lt_of_lt_mul this
    omega
  refine count_le (f := R.ct) (List.Pairwise.filter _ List.nodup_range) (fun x hx y hy he => ?_) fun x hx => ?_
  · rw [List.mem_filter, List.mem_range] at hx hy
    have kx := key x hx.1 hx.2
    have ky := key y hy.1 hy.2
    have m1 : ∀ z : Nat, R.ct z % (R.T + 1) = R.T - z / (R.W + 1) := fun z => by unfold Reg.ct; exact mk_mod _ (Nat.lt_succ_of_le (Nat.sub_le _ _))
    have m2 : ∀ z : Nat, R.ct z / (R.T + 1) = z % (R.W + 1) := fun z => by unfold Reg.ct; exact mk_div _ (Nat.lt_succ_of_le (Nat.sub_le _ _))
    have a := m1 x
    have b := m2 x
    rw [he, m1 y] at a
    rw [he, m2 y] at b
    rw [← Nat.div_add_mod x (R.W + 1), ← Nat.div_add_mod y (R.W + 1), b, show x / (R.W + 1) = y / (R.W + 1) by generalize x / (R.W + 1) = p at *; generalize y / (R.W + 1) = q at *; omega]
  · rw [List.mem_filter, List.mem_range] at hx
    obtain ⟨f1, f2⟩ := fl_turn hR h hx.2
    rw [List.mem_filter, List.mem_range]
    exact ⟨f2, f1⟩
/-- Turned, there are as many flips. -/
theorem flc_turn {R : Reg} (hR : R.ok) {L : List Int} (h : Lay R L) : flc (turnR R) (tuL R L) = flc R L := by
  have k1 := ok_turn hR
  have k2 := ok_turn k1
  have k3 := ok_turn k2
  have h1 := lay_turn hR h
  have h2 := lay_turn k1 h1
  have h3 := lay_turn k2 h2
  have a := flc_le hR h
  have b := flc_le k1 h1
  have c := flc_le k2 h2
  have d := flc_le k3 h3
  rw [tuL4 hR h, turn4 (sh_of_ok hR)] at d
  omega
noncomputable def flS (R : Reg) : Nat := ((tilT R).map (flc R)).sum
theorem flS_le {R : Reg} (hR : R.ok) : flS R ≤ flS (turnR R) := by
  unfold flS
  have e : (tilT R).map (flc R) = ((tilT R).map (tuL R)).map (flc (turnR R)) := by
    rw [List.map_map]
    exact List.map_congr_left fun M hM => (flc_turn hR ((tilT_iff hR).1 hM).1).symm
  rw [e]
  refine sum_sub (nodup_map_on (tilT_nodup hR) fun x hx y hy he => tuL_inj hR ((tilT_iff hR).1 hx).1 ((tilT_iff hR).1 hy).1 he) fun x hx => ?_
  obtain ⟨M, hM, rfl⟩ := List.mem_map.1 hx
  exact (tilT_iff (ok_turn hR)).2 (tile_turn hR ((tilT_iff hR).1 hM))
theorem flS_turn {R : Reg} (hR : R.ok) : flS (turnR R) = flS R := by
  have k1 := ok_turn hR
  have k2 := ok_turn k1
  have k3 := ok_turn k2
  have a := flS_le hR
  have b := flS_le k1
  have c := flS_le k2
  have d := flS_le k3
  rw [turn4 (sh_of_ok hR)] at d
  omega
theorem flTot_flS (R : Reg) : flTot R (tilT R).length = flS R := by
  unfold flTot flS
  rw [List.take_length]; rfl
theorem flnV_turn {R : Reg} (hR : R.ok) (g : cnt R.C ≤ 16) : flnV (turnR R).W (turnR R).T (turnR R).C = flnV R.W R.T R.C := by
  rw [flnV_yes (ok_turn hR) (by rw [cnt_turn (sh_of_ok hR)]; exact g), flnV_yes hR g, flTot_flS, flTot_flS, flS_turn hR]
theorem fsV_turn {R : Reg} (hR : R.ok) {L : List Int} (h : Lay R L) : (fsV (turnR R).W (turnR R).T (turnR R).C (tuL R L)).length = (fsV R.W R.T R.C L).length := by
  rw [fsV_yes (by rw [laidB_ok (ok_turn hR)]; exact (laysB_iff (ok_turn hR)).2 (lay_turn hR h)), fsV_yes (by rw [laidB_ok hR]; exact (laysB_iff hR).2 h)]
  exact flc_turn hR h

end Go.Proofs.Ythepfpiphlfgnaa

/-
  YthepfpiphlfgnaaHa: is a number among numbers (l1Has of the reference)?
-/
namespace Go.Proofs.Ythepfpiphlfgnaa
open Go.RowKit


set_option maxHeartbeats 1000000 in
theorem hasInt_any (L : List Int) (D : Option Addr) (m d B : Nat) (z : Int) (w : World) (hL : L.length = m) (h1 : Reads w B 1 D m (L.map (Value.int .i64))) (hm : m ≤ 16777216) :
    Calls Try.prog 45 #[.slice D m d, .int .i64 z] w fun e w' => e = .returned (.bool (decide (z ∈ L))) ∧ Below w.heap.size w w' := by
  have HL := Lib.hid hL
  clear hL
  have HLG := fun k (hk : k < m) => h1.getI hk
  go_enter Try.func45, Try.ntmps45
  go_wp2_with fail
  go_loopg [5] m (fun r s3 wr => ∃ k q : Nat, k + r = m ∧ s3 = .int .i64 (k : Int) ∧ wr = w.drewN q ∧ (∀ (j : Nat), j < k → L[j]? ≠ some z))
  case atStart => exact ⟨0, 0, by omega, rfl, rfl, fun j hj => by omega⟩
  case round =>
    obtain ⟨k, q, hk, rfl, rfl, hall⟩ := hrel
    have HK := Lib.hid hk
    have HALL := Lib.hid hall
    clear hk hall
    by_cases hlt : k < m
    · obtain ⟨ad, rfl, _, hc1⟩ := HLG k hlt
      have hbq := below_drewN (Below.refl w.heap.size w) q
      have x1 := (cell_kept hc1 hbq)
      have hx : L[k]? = some (L.getD k 0) := by rw [List.getD_eq_getElem?_getD, List.getElem?_eq_getElem (show k < L.length by rw [HL.out]; exact hlt)]; rfl
      have HX := Lib.hid hx
      clear HLG hx
      generalize L.getD k 0 = x at *
      cases hxz : (x == z) with
      | true =>
        have HXZ := Lib.hid hxz
        go_wp2_with fail
        go_ret
        exact ⟨ret_bool (decide_eq_true (List.mem_of_getElem? (HX.out.trans (by rw [eq_of_beq HXZ.out])))).symm, below_drewN (Below.refl _ _) _⟩
      | false =>
        have HXZ := Lib.hid hxz
        go_wp2_with fail
        go_roundg (m - (k + 1))
        case measure => have := HK.out; omega
        case rel =>
          refine ⟨k + 1, _, by have := HK.out; omega, by go_num, rfl, fun j hj hjz => ?_⟩
          by_cases hjk : j = k
          · subst hjk
            rw [HX.out] at hjz
            injection hjz with hjz
            have := HXZ.out
            rw [hjz] at this
            simp at this
          · exact HALL.out j (by omega) hjz
    · clear HLG
      have hk : k = m := by have := HK.out; omega
      have hno : decide (z ∈ L) = false := decide_eq_false fun h => by
        obtain ⟨j, hj⟩ := List.getElem?_of_mem h
        have hjl := (List.getElem?_eq_some_iff.1 hj).1
        exact HALL.out j (by rw [HL.out] at hjl; omega) hj
      go_wp2_with fail
      go_ret
      exact ⟨ret_bool hno.symm, below_drewN (Below.refl _ _) _⟩

end Go.Proofs.Ythepfpiphlfgnaa

/-
  YthepfpiphlfgnaaGw: left out.
-/
namespace Go.Proofs.Ythepfpiphlfgnaa

end Go.Proofs.Ythepfpiphlfgnaa
