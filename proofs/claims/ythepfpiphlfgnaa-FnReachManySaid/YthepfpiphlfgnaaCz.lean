/-
  YthepfpiphlfgnaaCz: the texts Qa, Kn, Cn, Co, Cp, Cq, To, Tq, Ll, Lm, Ln, Ts, Lo, Lr, Lt, Ha, Gw in one file.
-/
import Derived.Maps.Own
import Derived.Maps.OwnSet
import Derived.Maps.Views
import Derived.StringKeys
import Derived.Maps.Range
import Derived.Maps.RangeWalk
import Derived.Maps.OwnOps
import Derived.BigRegion
import Derived.Deep.RegionHeld
import Derived.Test.YthepfpiphlfgnaaQz
import Derived.Test.YthepfpiphlfgnaaRw
import Derived.Test.YthepfpiphlfgnaaRep
import Derived.Test.YthepfpiphlfgnaaWa
import Derived.Test.YthepfpiphlfgnaaTt
import Derived.Test.YthepfpiphlfgnaaLz
import Derived.Test.YthepfpiphlfgnaaLee
import Derived.Test.YthepfpiphlfgnaaRk
import Derived.Test.YthepfpiphlfgnaaFd3
import Derived.Test.YthepfpiphlfgnaaDq

/-
  YthepfpiphlfgnaaQa: plain Lean: counting tilings by what is covered; the keys of what is known.
-/
namespace Go.Proofs.Ythepfpiphlfgnaa

/-- The list that a covering tells; how many tilings have it. -/
def cvL (cv : List Bool) : List Int := cv.map fun b => if b = true then 1 else 0
def cN (R : Reg) (cv : List Bool) : Nat := (cT R (cvL cv)).length
/-- Does a cell want a domino? -/
def opC (R : Reg) (cv : List Bool) (j : Nat) : Bool := R.C.getD j false && !cv.getD j false
theorem cvL_len (cv : List Bool) : (cvL cv).length = cv.length := by simp [cvL]
theorem cvL_at (cv : List Bool) (j : Nat) : (cvL cv).getD j 0 = if cv.getD j false = true then 1 else 0 := by
  unfold cvL
  rw [List.getD_eq_getElem?_getD, List.getD_eq_getElem?_getD, List.getElem?_map]
  cases cv[j]? with
  | none => rfl
  | some b => rfl
theorem opB_cvL (R : Reg) (cv : List Bool) (j : Nat) : opB R (cvL cv) j = opC R cv j := by
  unfold opB opC
  rw [cvL_at]
  cases cv.getD j false <;> rfl
theorem cN_le (R : Reg) (cv : List Bool) : cN R cv ≤ 262144 := allT_len R 18 _
theorem cT_same {R : Reg} (hR : R.ok) {L L' : List Int} (hl : L.length = R.C.length) (hl' : L'.length = R.C.length) (h : ∀ j, opB R L' j = opB R L j) : (cT R L').length = (cT R L).length := allT_same hR hR rfl rfl 18 L L' hl hl' h
theorem cN_same {R : Reg} (hR : R.ok) {cv cv' : List Bool} (hl : cv.length = R.C.length) (hl' : cv'.length = R.C.length) (h : ∀ j, opC R cv' j = opC R cv j) : cN R cv' = cN R cv :=
  cT_same hR (by rw [cvL_len]; exact hl) (by rw [cvL_len]; exact hl') fun j => by rw [opB_cvL, opB_cvL]; exact h j
/-- What a list covers. -/
theorem cN_list {R : Reg} (hR : R.ok) {L : List Int} (hl : L.length = R.C.length) : cN R (L.map fun z => z != 0) = (cT R L).length := by
  refine cT_same hR hl (by rw [cvL_len, List.length_map]; exact hl) fun j => ?_
  rw [opB_cvL]
  unfold opC opB
  congr 1
  rw [List.getD_eq_getElem?_getD, List.getD_eq_getElem?_getD, List.getElem?_map]
  cases L[j]? with
  | none => rfl
  | some z =>
    show (!(z != 0)) = decide (z = 0)
    by_cases hz : z = 0
    · subst hz; rfl
    · rw [decide_eq_false hz]; simpa using hz
theorem cN_none {R : Reg} {cv : List Bool} (h : ∀ j, j < R.C.length → opC R cv j = false) : cN R cv = 1 := by
  unfold cN
  rw [cT_none (fiV_none.2 fun j hj => by rw [opB_cvL]; exact h j hj)]
  rfl
/-- The covering behind a domino; how many tilings have this domino. -/
def nxC (cv : List Bool) (c e : Nat) : List Bool := (cv.set c true).set e true
def wyN2 (R : Reg) (cv : List Bool) (c : Nat) (way : Int) : Nat := if decide (0 ≤ R.step c way) && (R.C.getD (R.step c way).toNat false && !cv.getD (R.step c way).toNat false) then cN R (nxC cv c (R.step c way).toNat) else 0
theorem nxC_len (cv : List Bool) (c e : Nat) : (nxC cv c e).length = cv.length := by simp [nxC]
theorem opC_nx {R : Reg} {cv : List Bool} {c e : Nat} (hc : c < cv.length) (he : e < cv.length) (j : Nat) : opC R (nxC cv c e) j = (opC R cv j && !decide (j = c) && !decide (j = e)) := by
  unfold opC nxC
  rw [List.getD_eq_getElem?_getD, List.getD_eq_getElem?_getD, List.getD_eq_getElem?_getD, List.getElem?_set, List.getElem?_set, List.length_set]
  by_cases h1 : e = j
  · subst h1; rw [if_pos rfl, if_pos he]; simp
  · rw [if_neg h1]
    by_cases h2 : c = j
    · subst h2; rw [if_pos rfl, if_pos hc]; simp
    · rw [if_neg h2]
      simp [Ne.symm h1, Ne.symm h2]
theorem cN_some {R : Reg} (hR : R.ok) {cv : List Bool} (hl : cv.length = R.C.length) {c : Nat} (hc : c < R.C.length) (ho : opC R cv c = true) (hf : ∀ j, j < c → opC R cv j = false) : cN R cv = wyN2 R cv c 1 + wyN2 R cv c 2 := by
  have hfi : fiV R (cvL cv) = some c := fiV_some.2 ⟨hc, by rw [opB_cvL]; exact ho, fun j hj => by rw [opB_cvL]; exact hf j hj⟩
  have hcl : (cvL cv).length = R.C.length := by rw [cvL_len]; exact hl
  have key : ∀ way : Int, way ≠ 0 → (if frB R (cvL cv) c way = true then cT R (lyV R (cvL cv) c way) else []).length = wyN2 R cv c way := by
    intro way hw
    have hfr : frB R (cvL cv) c way = (decide (0 ≤ R.step c way) && (R.C.getD (R.step c way).toNat false && !cv.getD (R.step c way).toNat false)) := by
      unfold frB
      rw [opB_cvL, opB_cvL, ho, Bool.true_and]
      rfl
    unfold wyN2
    rw [← hfr]
    by_cases hb : frB R (cvL cv) c way = true
    · rw [if_pos hb, if_pos hb]
      obtain ⟨e, he, _, _, h3, _⟩ := frB_iff.1 hb
      have hel := cell_lt h3
      rw [he, Int.toNat_natCast]
      refine (cT_same hR (by rw [lyV_len]; exact hcl) (by rw [cvL_len, nxC_len]; exact hl) fun j => ?_).symm
      rw [opB_cvL, opB_lyV hR hcl hw he hc hel, opB_cvL, opC_nx (by omega) (by omega)]
    · rw [if_neg hb, if_neg hb]; rfl
  unfold cN
  rw [cT_some hR hcl hfi, List.length_append, key 1 (by decide), key 2 (by decide)]
/-- Nothing is wanted ahead of a cell, also behind a domino from it. -/
theorem opC_ahead {R : Reg} {cv : List Bool} {c e : Nat} (hc : c < cv.length) (he : e < cv.length) (hf : ∀ j, j < c → opC R cv j = false) : ∀ j, j < c + 1 → opC R (nxC cv c e) j = false := by
  intro j hj
  rw [opC_nx hc he]
  by_cases h : j = c
  · subst h; simp
  · rw [hf j (by omega)]; rfl

/-! ### Keys -/
def keyB (b : Bool) : UInt8 := if b = true then 49 else 48
def keyL (cell : Nat) (cv : List Bool) : List UInt8 := UInt8.ofNat cell :: (cv.drop cell).map keyB
theorem keyB_inj {a b : Bool} (h : keyB a = keyB b) : a = b := by
  cases a <;> cases b <;> first | rfl | (exact absurd h (by decide))
theorem map_inj {α β : Type} {f : α → β} (hf : ∀ a b, f a = f b → a = b) : ∀ {l m : List α}, l.map f = m.map f → l = m
  | [], [], _ => rfl
  | [], _ :: _, h => by cases h
  | _ :: _, [], h => by cases h
  | a :: l, b :: m, h => by
    simp only [List.map_cons, List.cons.injEq] at h
    rw [hf _ _ h.1, map_inj hf h.2]
theorem keyL_inj {c c' : Nat} {cv cv' : List Bool} (hc : c < 256) (hc' : c' < 256) (h : keyL c cv = keyL c' cv') : c = c' ∧ cv.drop c = cv'.drop c' := by
  unfold keyL at h
  simp only [List.cons.injEq] at h
  refine ⟨?_, map_inj (fun a b => keyB_inj) h.2⟩
  have := congrArg UInt8.toNat h.1
  simp only [UInt8.toNat_ofNat'] at this
  omega
/-- Equal keys, equal counts. -/
theorem key_same {R : Reg} (hR : R.ok) {c c' : Nat} {cv cv' : List Bool} (hl : cv.length = R.C.length) (hl' : cv'.length = R.C.length) (hc : c < R.C.length) (hc' : c' < R.C.length) (hf : ∀ j, j < c → opC R cv j = false) (hf' : ∀ j, j < c' → opC R cv' j = false) (h : keyL c cv = keyL c' cv') : cN R cv' = cN R cv := by
  have h36 := (len_bd hR).2
  obtain ⟨rfl, hd⟩ := keyL_inj (by omega) (by omega) h
  refine cN_same hR hl hl' fun j => ?_
  by_cases hj : j < c
  · rw [hf j hj, hf' j hj]
  · have hg : cv'.getD j false = cv.getD j false := by
      have := congrArg (fun l => l.getD (j - c) false) hd
      simp only [List.getD_eq_getElem?_getD, List.getElem?_drop] at this
      rw [show c + (j - c) = j by omega] at this
      rw [List.getD_eq_getElem?_getD, List.getD_eq_getElem?_getD]
      exact this.symm
    unfold opC
    rw [hg]

end Go.Proofs.Ythepfpiphlfgnaa

/-
  YthepfpiphlfgnaaKn: what the map of 'count' holds: at each key that may be asked for, how many ways go on.
-/
namespace Go.Proofs.Ythepfpiphlfgnaa
open Go.RowKit Go.Maps

/-- A datum of the map: no handle in it. -/
abbrev DU := DataW Unit
def zU : DU := .lit (.int .i64 0)
def KnownD (R : Reg) (D : DU) : Prop := ∀ (c : Nat) (cv : List Bool), c < R.C.length → cv.length = R.C.length → (∀ j, j < c → opC R cv j = false) → Maps.has D (.string (keyL c cv)) = true → D.atKey (.string (keyL c cv)) zU = .lit (.int .i64 (cN R cv))

theorem known_nil (R : Reg) : KnownD R (.map []) := by
  intro c cv _ _ _ h
  simp [Maps.has] at h

theorem known_put {R : Reg} (hR : R.ok) {D : DU} (hD : IsMap D) (h : KnownD R D) {c : Nat} {cv : List Bool} (hc : c < R.C.length) (hl : cv.length = R.C.length) (hf : ∀ j, j < c → opC R cv j = false) : KnownD R (D.put (.string (keyL c cv)) (.lit (.int .i64 (cN R cv)))) := by
  intro c' cv' hc' hl' hf' hh
  by_cases he : keyL c' cv' = keyL c cv
  · rw [he, atKey_put_same hD (show WideAt.IsKeyLit (.string (keyL c cv)) from trivial), key_same hR hl hl' hc hc' hf hf' he.symm]
  · have hne : (Lit.string (keyL c' cv')) ≠ .string (keyL c cv) := fun e => he (by injection e)
    rw [has_put_other hne] at hh
    rw [atKey_put_other hne]
    exact h c' cv' hc' hl' hf' hh

end Go.Proofs.Ythepfpiphlfgnaa

/-
  YthepfpiphlfgnaaCn: 'count' of the program: the search that remembers.
-/
namespace Go.Proofs.Ythepfpiphlfgnaa
open Go.RowKit Go.Maps

theorem Bl.info_bool : (Try.prog.info? 4).map (fun i => (i.zero, i.size, i.bytes)) = some (some (.bool false), 1, 1) := by kernel_rfl
theorem Bl.info_byte : (Try.prog.info? 5).map (fun i => (i.zero, i.size, i.bytes)) = some (some (.int .u8 0), 1, 1) := by kernel_rfl

set_option maxHeartbeats 2000000 in
set_option maxRecDepth 100000 in
theorem cloneB_any (g c B : Nat) (cv : List Bool) (w : World) (h1 : 1 ≤ cv.length) (hn : cv.length ≤ 4096) (hr : Reads w B 1 (some ⟨g, 0, none⟩) cv.length (cv.map Value.bool)) :
    Calls Try.prog 182 #[.slice (some ⟨g, 0, none⟩) cv.length c] w fun e w' => ∃ g' c', e = .returned (.slice (some ⟨g', 0, none⟩) cv.length c') ∧ w'.ownsRow w.heap.size 4 1 (.slice (some ⟨g', 0, none⟩) cv.length c') cv.length (cv.map Value.bool) ∧ Below w.heap.size w w' := by
  obtain ⟨i0, hi, hz0, hz1, hz2⟩ := info_parts Bl.info_bool
  have q22 : ∀ (w : World) (a : Option Addr) (n c n' c' : Nat), (binOp .eql 23 (.slice a n c) (.slice none n' c')).run Try.prog w = .ok (.bool a.isNone) w := fun w a n c n' c' => Lib.run_eql_slice_nil w _ _ a n c n' c' Try.underlying23
  have hcg : ∀ j (hj : j < cv.length), w.cell? ⟨g, j, none⟩ = some (.bool (cv.getD j false)) := fun j hj => by
    obtain ⟨p, hp, _, hc⟩ := getB hr hj
    injection hp with hp
    subst hp
    rw [Addr.add_lit, Nat.zero_add] at hc
    exact hc
  have HCG := Lib.hid hcg
  clear hcg hr
  go_enter Try.func182, Try.ntmps182
  go_wp2_with (at_builtin; refine wpList_append_own _ rfl _ _ 23 rfl w.heap.size 4 i0 (.bool false) 1 1 Try.underlying23 hi hz0 hz1 hz2 rfl (by decide) _ _ _ rfl (World.ownsRow_made w #[] 0 (Nat.le_refl _) (Nat.zero_le _) rfl) ⟨g, 0, none⟩ cv.length c (cv.map Value.bool) rfl ?qc1 ?qc2 ?qc3 ?qc4 ?qc5 ?qc6 ?_)
  case qc1 => simp
  case qc2 =>
    intro j u hj
    have hjn : j < cv.length := by simpa using (List.getElem?_eq_some_iff.1 hj).1
    rw [Addr.add_lit]
    refine Lib.cell?_alloc_some _ ?_
    rw [Nat.zero_add, HCG.out j hjn]
    have e : (cv.map Value.bool)[j]? = some (Value.bool (cv.getD j false)) := by simp [List.getD, List.getElem?_eq_getElem hjn]
    rw [e] at hj
    exact hj
  case qc3 => intro u hu; obtain ⟨x, _, rfl⟩ := List.mem_map.1 hu; rfl
  case qc4 => unfold maxLen; omega
  case qc5 => omega
  case qc6 => simp
  intro v' w1 hown hgrow hnil
  obtain ⟨g', c', rfl, _⟩ := own_shape hown (by omega)
  go_wp2
  go_ret
  refine ⟨g', c', by simp, by simpa using hown, ?_⟩
  exact ((Below.refl _ w).alloc (Nat.le_refl _) _).grown hgrow (by simp) (by intro k hk; simp [Value.ownBlock] at hk; omega)

/-- Where the count stands: the captured variables, the map, the region's cells. -/
structure CWn (R : Reg) (A : Option Addr) (c B rb kb wb mb : Nat) (fv : Value) (w wx : World) (n : Nat) (D : DU) : Prop where
  box : Blk wx rb 25 #[.int .i64 R.W, .int .i64 R.T, .slice A R.C.length c]
  kn : Blk wx kb 143 #[.map (some mb)]
  wk : Blk wx wb 95 #[fv]
  map : wx.ownsMap Try.prog 9 (plainElem Try.prog 3) mb n D
  rd : Reads wx B 1 A R.C.length (R.C.map Value.bool)
  ok : KnownD R D
  gr : w.grownBy wx (some mb)

theorem map_blk_ne {w : World} {P : Program} {k e : TypeId} {b n g : Nat} {D : DU} {t : TypeId} {cs : Array Value} (h : w.ownsMap P k (plainElem P e) b n D) (hg : Blk w g t cs) : some g ≠ some b := by
  intro he
  injection he with he
  subst he
  obtain ⟨es, clock, hb, _⟩ := h
  unfold Blk at hg
  rw [hb] at hg
  simp at hg
theorem map_own_ne {w : World} {P : Program} {k e : TypeId} {b n : Nat} {D : DU} (h : w.ownsMap P k (plainElem P e) b n D) {base : Nat} {t : TypeId} {size m : Nat} {v : Value} {xs : List Value} (ho : w.ownsRow base t size v m xs) : v.ownBlock ≠ some b := by
  rcases ho.2 with ⟨rfl, _⟩ | ⟨g', cap, cur, rfl, _, hh, _⟩
  · simp [Value.ownBlock]
  · intro he
    have : g' = b := by simpa [Value.ownBlock] using he
    subst this
    obtain ⟨es, clock, hb, _⟩ := h
    rw [hb] at hh
    simp at hh
theorem grownMap_below {w w' : World} {b B : Nat} (h : w.grownBy w' (some b)) (hb : B ≤ b) (hB : B ≤ w.heap.size) : Below B w w' :=
  ⟨h.os, h.tape, h.output, h.size, fun k hk => h.block k (by omega) (by simp; omega)⟩
theorem below_grown {w w' : World} (h : Below w.heap.size w w') (row : Option Nat) : w.grownBy w' row := ⟨h.os, h.tape, h.output, h.size, fun k hk _ => h.block k hk⟩

section
variable {R : Reg} {A : Option Addr} {c B rb kb wb mb n n' : Nat} {fv : Value} {w wx w2 : World} {D D' : DU}
theorem CWn.grown (H : CWn R A c B rb kb wb mb fv w wx n D) (hB : B ≤ mb) (hg : wx.grownBy w2 (some mb)) (hm : w2.ownsMap Try.prog 9 (plainElem Try.prog 3) mb n' D') (hk : KnownD R D') : CWn R A c B rb kb wb mb fv w w2 n' D' :=
  ⟨H.box.grown hg (map_blk_ne H.map H.box), H.kn.grown hg (map_blk_ne H.map H.kn), H.wk.grown hg (map_blk_ne H.map H.wk), hm, H.rd.below (grownMap_below hg hB (by have := H.map.lt; omega)), hk, H.gr.trans hg⟩
theorem CWn.below (H : CWn R A c B rb kb wb mb fv w wx n D) (hB : B ≤ mb) (hb : Below wx.heap.size wx w2) : CWn R A c B rb kb wb mb fv w w2 n D :=
  H.grown hB (below_grown hb _) (H.map.kept (below_grown hb none) (by simp)) H.ok
end

def bytesV (l : List UInt8) : List Value := l.map fun x => .int .u8 (x.toNat : Int)
theorem grown_none {w w' : World} (h : w.grownBy w' none) : Below w.heap.size w w' := ⟨h.os, h.tape, h.output, h.size, fun k hk => h.block k hk (by simp)⟩
/-- The key while it is written. -/
structure KW (w wx : World) (v : Value) (l : List UInt8) : Prop where
  own : wx.ownsRow w.heap.size 5 1 v l.length (bytesV l)
  below : Below w.heap.size w wx
theorem KW.push {w wx w2 : World} {v v' : Value} {l : List UInt8} (H : KW w wx v l) {o : Obj} (x : UInt8) {u : Value} (hu : u = .int .u8 (x.toNat : Int)) (hown : w2.ownsRow w.heap.size 5 1 v' (l.length + 1) (bytesV l ++ [u])) (hgr : (wx.alloc o).grownBy w2 v.ownBlock) : KW w w2 v' (l ++ [x]) := by
  subst hu
  refine ⟨by simpa [bytesV] using hown, ?_⟩
  exact (H.below.alloc H.below.size o).grown hgr (by have := H.below.size; simp; omega) (fun j hj => (H.own.lt j hj).1)

end Go.Proofs.Ythepfpiphlfgnaa

/-
  YthepfpiphlfgnaaCo: 'count' of the program: the function that calls itself.
-/
namespace Go.Proofs.Ythepfpiphlfgnaa
open Go.RowKit Go.Maps Go.WideMaps

theorem CWn.here {R : Reg} {A : Option Addr} {c B rb kb wb mb n : Nat} {fv : Value} {w wx : World} {D : DU} (H : CWn R A c B rb kb wb mb fv w wx n D) : CWn R A c B rb kb wb mb fv wx wx n D := ⟨H.box, H.kn, H.wk, H.map, H.rd, H.ok, World.grownBy.refl _ _⟩
theorem CWn.trans {R : Reg} {A : Option Addr} {c B rb kb wb mb n n' : Nat} {fv : Value} {w wx w2 : World} {D D' : DU} (H : CWn R A c B rb kb wb mb fv w wx n D) (H' : CWn R A c B rb kb wb mb fv wx w2 n' D') : CWn R A c B rb kb wb mb fv w w2 n' D' := ⟨H'.box, H'.kn, H'.wk, H'.map, H'.rd, H'.ok, H.gr.trans H'.gr⟩

/-- The key's first bytes. -/
def keyP (k : Nat) (cv : List Bool) (i : Nat) : List UInt8 := UInt8.ofNat k :: ((cv.drop k).take i).map keyB
theorem keyP_all (k : Nat) (cv : List Bool) : keyP k cv (cv.length - k) = keyL k cv := by
  unfold keyP keyL
  rw [List.take_of_length_le (by simp)]
theorem keyP_succ {k i : Nat} {cv : List Bool} (h : k + i < cv.length) : keyP k cv (i + 1) = keyP k cv i ++ [keyB (cv.getD (k + i) false)] := by
  unfold keyP
  have hd : i < (cv.drop k).length := by simp; omega
  rw [List.take_succ_eq_append_getElem hd]
  simp [List.getD, List.getElem?_eq_getElem h]
theorem keyP_len {k i : Nat} {cv : List Bool} (h : k + i ≤ cv.length) : (keyP k cv i).length = i + 1 := by
  simp [keyP]; omega

/-- The ways that were gone. -/
def preN (R : Reg) (cv : List Bool) (k : Nat) : Nat → Nat
  | 0 => 0
  | j + 1 => preN R cv k j + wyN2 R cv k ((j : Int) + 1)


/-- The closure's value. -/
def fvC (rb kb wb : Nat) : Value := .func (.func 181) #[] #[.pointer (some ⟨rb, 0, none⟩), .pointer (some ⟨kb, 0, none⟩), .pointer (some ⟨wb, 0, none⟩)]

theorem own_bytes {w : World} {b g m c : Nat} {l : List UInt8} (h : w.ownsRow b 5 1 (.slice (some ⟨g, 0, none⟩) m c) m (bytesV l)) (hl : l.length = m) : ∀ j (hj : j < l.length), w.cell? ((⟨g, 0, none⟩ : Addr).add j) = some (.int .u8 (l[j].toNat : Int)) := fun j hj => by
  rw [Addr.add_lit, Nat.zero_add, h.cellAt j (by omega)]
  simp [bytesV, hj]
theorem wyN2_le (R : Reg) (cv : List Bool) (k : Nat) (way : Int) : wyN2 R cv k way ≤ 262144 := by
  unfold wyN2
  split
  · exact cN_le _ _
  · omega
theorem preN_le (R : Reg) (cv : List Bool) (k : Nat) : ∀ j, preN R cv k j ≤ j * 262144
  | 0 => by simp [preN]
  | j + 1 => by
    have := preN_le R cv k j
    have := wyN2_le R cv k ((j : Int) + 1)
    simp only [preN]
    omega
theorem wy_no {R : Reg} {cv : List Bool} {k : Nat} {way : Int} (h : R.step k way = -1) : wyN2 R cv k way = 0 := by unfold wyN2; rw [h]; rfl
theorem wy_at {R : Reg} {cv : List Bool} {k e : Nat} {way : Int} (h : R.step k way = (e : Int)) : wyN2 R cv k way = if opC R cv e = true then cN R (nxC cv k e) else 0 := by
  unfold wyN2 opC
  rw [h, Int.toNat_natCast, decide_eq_true (show (0 : Int) ≤ (e : Int) by omega)]
  rfl

set_option maxHeartbeats 4000000 in
set_option maxRecDepth 20000 in
theorem walk_any (R : Reg) (hR : R.ok) (A : Option Addr) (c B rb kb wb mb : Nat) (hB : B ≤ mb) : ∀ (r cell : Nat) (cv : List Bool) (b g c' n : Nat) (D : DU) (w : World), R.C.length ≤ cell + r → cell ≤ R.C.length → cv.length = R.C.length → (∀ j, j < cell → opC R cv j = false) →
    CWn R A c B rb kb wb mb (fvC rb kb wb) w w n D → w.ownsRow b 4 1 (.slice (some ⟨g, 0, none⟩) R.C.length c') R.C.length (cv.map Value.bool) → n + 2 ^ r ≤ 4294967296 * 1048576 →
    Calls Try.prog 181 #[.slice (some ⟨g, 0, none⟩) R.C.length c', .int .i64 (cell : Nat), .pointer (some ⟨rb, 0, none⟩), .pointer (some ⟨kb, 0, none⟩), .pointer (some ⟨wb, 0, none⟩)] w fun e w' => e = .returned (.int .i64 (cN R cv : Nat)) ∧ ∃ n' D', CWn R A c B rb kb wb mb (fvC rb kb wb) w w' n' D' ∧ n' + 1 ≤ n + 2 ^ r := by
  intro r
  induction r using Nat.strongRecOn with
  | ind r ih =>
  intro cell cv b g c' n D w hcr hcl hl hf hW ho hn
  have hl36 := (len_bd hR).2
  have hcap : R.C.length ≤ c' := by
    rcases ho.2 with ⟨h0, _⟩ | ⟨g', cap, cur, hv, _, _, hcp, _⟩
    · simp at h0
    · simp only [Value.slice.injEq] at hv
      omega
  have h2r : 0 < 2 ^ r := Nat.two_pow_pos r
  have HN := Lib.hid hn
  have H2R := Lib.hid h2r
  have HL := Lib.hid hl
  have HCR := Lib.hid hcr
  have HF := Lib.hid hf
  have hST := fun (k : Nat) (hk : k < R.C.length) (way : Int) w' => hide (step_any R hR A R.C.length c k hk way w')
  have hRC : Reads w w.heap.size 1 (some ⟨g, 0, none⟩) R.C.length (cv.map Value.bool) := Reads.of_own ho
  have hCV := fun (k : Nat) (hk : k < R.C.length) => getB hRC hk
  have hCG := fun (k : Nat) (hk : k < R.C.length) => getB hW.rd hk
  have IH := Lib.hid ih
  clear ih hn hl hcr hf h2r hRC
  obtain ⟨b0, b1, b2⟩ := blk3 hW.box
  go_enter Try.func181, Try.ntmps181
  go_upto_region 1 with fail
  go_loopg [1] (R.C.length - cell) (fun r s1 wr => ∃ k : Nat, k + r = R.C.length ∧ cell ≤ k ∧ s1 = .int .i64 (k : Nat) ∧ (∀ j, j < k → opC R cv j = false) ∧ wr = w)
  case atStart => exact ⟨cell, by omega, Nat.le_refl _, rfl, HF.out, rfl⟩
  case round =>
    obtain ⟨k, hk, hck, rfl, hall, rfl⟩ := hrel
    have HK := Lib.hid hk
    have HCK := Lib.hid hck
    have HALL := Lib.hid hall
    clear hk hck hall
    by_cases hlt : k < R.C.length
    · obtain ⟨ac, rfl, hac, hcc⟩ := hCG k hlt
      obtain ⟨ad, e1, had, hcd⟩ := hCV k hlt
      injection e1 with e1
      subst e1
      rw [Addr.add_lit, Nat.zero_add] at hcd
      have hop : opC R cv k = (R.C.getD k false && !cv.getD k false) := rfl
      have HOP := Lib.hid hop
      clear hop
      cases hcb : R.C.getD k false with
      | false =>
        rw [hcb] at hcc HOP
        have HNO : Hid (opC R cv k = false) := Lib.hid (by rw [HOP.out]; rfl)
        clear hcb HOP
        go_wp2_with fail
        go_roundg (R.C.length - (k + 1))
        case measure => have := HK.out; omega
        case rel =>
          refine ⟨k + 1, by have := HK.out; omega, by have := HCK.out; omega, by go_num, fun j hj => ?_, rfl⟩
          by_cases hjk : j = k
          · subst hjk; exact HNO.out
          · exact HALL.out j (by omega)
      | true =>
        rw [hcb] at hcc HOP
        cases hvb : cv.getD k false with
        | true =>
          rw [hvb] at hcd HOP
          have HNO : Hid (opC R cv k = false) := Lib.hid (by rw [HOP.out]; rfl)
          clear hcb hvb HOP
          go_wp2_with fail
          go_roundg (R.C.length - (k + 1))
          case measure => have := HK.out; omega
          case rel =>
            refine ⟨k + 1, by have := HK.out; omega, by have := HCK.out; omega, by go_num, fun j hj => ?_, rfl⟩
            by_cases hjk : j = k
            · subst hjk; exact HNO.out
            · exact HALL.out j (by omega)
        | false =>
          rw [hvb] at hcd HOP
          have HYES : Hid (opC R cv k = true) := Lib.hid (by rw [HOP.out]; rfl)
          clear hcb hvb HOP
          have hne : ((k : Int) == (R.C.length : Int)) = false := by simp; omega
          obtain ⟨w0, hw0⟩ : ∃ w0, w0 = wr := ⟨_, rfl⟩
          subst hw0
          obtain ⟨i0, hi, hz0, hz1, hz2⟩ := info_parts Bl.info_byte
          go_upto_region 5 with fail
          go_upto_region 6 with (at_make; refine wpList_make_own _ rfl _ _ 22 rfl w0.heap.size 5 i0 (.int .u8 0) 1 Try.underlying22 hi hz0 hz1 .i64 .i64 ((R.C.length : Int) + 1) (R.C.length + 1) rfl rfl (by simp) (by rw [hz2]; omega) (by unfold maxLen; omega) (Nat.le_refl _) ?_; intro w1 hk1 hgr1)
          have hKW0 : KW w0 w1 (.slice (some ⟨w0.heap.size, 0, none⟩) 0 (R.C.length + 1)) [] := ⟨by simpa [bytesV] using hk1, grown_none hgr1⟩
          have hs1 := hKW0.below.size
          have hu8 : IntKind.u8.wrap (k : Int) = (k : Int) := IntWalk.u8_in _ (by omega)
          go_upto_region 7 with (at_builtin; go_loud (refine wpList_app rfl _ _ _ rfl w0.heap.size 5 (.int .u8 0) 1 Try.underlying22 Bl.info_byte rfl (by omega) _ 0 [] rfl (hk1.alloc _) w1.heap.size (.int .u8 (k : Int)) rfl (by simp) rfl (by omega) (by simp; omega) ?_; intro g1 c1 w2 hown2 hgr2 hgg2 hge2 hcc2))
          have hKW1 := hKW0.push (UInt8.ofNat k) (by rw [show (UInt8.ofNat k).toNat = k by simp; omega]) hown2 hgr2
          have hP0 : [] ++ [UInt8.ofNat k] = keyP k cv 0 := by simp [keyP]
          rw [hP0] at hKW1
          clear hKW0 hs1 hk1 hgr1 hown2 hgr2 hgg2 hge2 hcc2 hP0
          have hkc : ¬ c' = k := by omega
          go_upto_region 8 with fail
          go_loopg [8, 55] (R.C.length - k) (fun r s8 s55 wx => ∃ (i g1 c1 : Nat), i + r = R.C.length - k ∧ s55 = .int .i64 (i : Nat) ∧ s8 = .slice (some ⟨g1, 0, none⟩) (i + 1) c1 ∧ KW w0 wx (.slice (some ⟨g1, 0, none⟩) (i + 1) c1) (keyP k cv i))
          case atStart => exact ⟨0, _, _, by omega, rfl, rfl, hKW1⟩
          case round =>
            obtain ⟨i, g1, c1, hi, rfl, rfl, hKW⟩ := hrel
            have HI := Lib.hid hi
            have hik : (keyP k cv i).length = i + 1 := keyP_len (by rw [HL.out]; omega)
            have HIK := Lib.hid hik
            clear hi hik
            by_cases hil : i < R.C.length - k
            · have hbs := hKW.below.size
              obtain ⟨ad, e1, _, hce⟩ := hCV (k + i) (by omega)
              injection e1 with e1
              subst e1
              rw [Addr.add_lit, Nat.zero_add] at hce
              have hce := cell_kept hce hKW.below
              have hown := hKW.own
              rw [HIK.out] at hown
              have HSU := Lib.hid (keyP_succ (k := k) (i := i) (cv := cv) (by rw [HL.out]; omega))
              have hm1 : i + 1 ≤ 4294967296 := by omega
              cases hvb : cv.getD (k + i) false with
              | true =>
                rw [hvb] at hce HSU
                go_wp2_with (at_builtin; go_loud (refine wpList_app rfl _ _ _ rfl w0.heap.size 5 (.int .u8 0) 1 Try.underlying22 Bl.info_byte rfl (by omega) _ (i + 1) _ rfl (hown.alloc _) wr.heap.size (.int .u8 49) rfl (by simp) rfl hm1 (by simp; omega) ?_; intro g2 c2 w3 hown3 hgr3 hgg3 hge3 hcc3))
                go_roundg (R.C.length - k - (i + 1))
                case measure => have := HI.out; omega
                case rel =>
                  have hp := hKW.push 49 rfl (by rw [HIK.out]; exact hown3) hgr3
                  refine ⟨i + 1, g2, c2, by have := HI.out; omega, by go_num, rfl, ?_⟩
                  rw [HSU.out]
                  exact hp
              | false =>
                rw [hvb] at hce HSU
                go_wp2_with (at_builtin; go_loud (refine wpList_app rfl _ _ _ rfl w0.heap.size 5 (.int .u8 0) 1 Try.underlying22 Bl.info_byte rfl (by omega) _ (i + 1) _ rfl (hown.alloc _) wr.heap.size (.int .u8 48) rfl (by simp) rfl hm1 (by simp; omega) ?_; intro g2 c2 w3 hown3 hgr3 hgg3 hge3 hcc3))
                go_roundg (R.C.length - k - (i + 1))
                case measure => have := HI.out; omega
                case rel =>
                  have hp := hKW.push 48 rfl (by rw [HIK.out]; exact hown3) hgr3
                  refine ⟨i + 1, g2, c2, by have := HI.out; omega, by go_num, rfl, ?_⟩
                  rw [HSU.out]
                  exact hp
            · obtain rfl : i = R.C.length - k := by have := HI.out; omega
              have hkl : keyP k cv (R.C.length - k) = keyL k cv := by rw [← HL.out]; exact keyP_all k cv
              rw [hkl] at hKW
              have hkl2 : (keyL k cv).length = R.C.length - k + 1 := by rw [← hkl]; exact HIK.out
              have hKEY := @known_put R hR
              have hW1 := hW.below hB hKW.below
              have ho1 := own_below ho hKW.below (Nat.le_refl _)
              have HKL := Lib.hid hkl2
              have hcv : ∀ W : World, W.ownsRow w0.heap.size 5 1 (.slice (some ⟨g1, 0, none⟩) (R.C.length - k + 1) c1) (R.C.length - k + 1) (bytesV (keyL k cv)) → (convert 22 9 (.slice (some ⟨g1, 0, none⟩) (R.C.length - k + 1) c1)).run Try.prog W = .ok (.string ⟨(keyL k cv).toArray⟩) W := fun W hWo => by
                have := run_convert_bytes_back (P := Try.prog) W 22 9 5 ⟨g1, 0, none⟩ c1 (keyL k cv) Try.underlying22 Try.underlying5 Try.underlying9 (own_bytes hWo HKL.out)
                rw [HKL.out] at this
                exact this
              have HCV := Lib.hid hcv
              have hkr := hKW.own
              rw [HKL.out] at hkr
              have hc0 := hcv wr hkr
              have hkey : keyOf Try.prog 9 (.string ⟨(keyL k cv).toArray⟩) = some (.string (keyL k cv)) := by
                simpa using keyOf_string_mk (P := Try.prog) Try.underlying9 (s := ⟨(keyL k cv).toArray⟩) (by have h1 := HKL.out; simp only [ByteArray.size, List.size_toArray, maxLen]; omega)
              have HKEY := Lib.hid hkey
              have hz3 : ∀ W : World, (zeroValue 3).run Try.prog W = .ok (.int .i64 0) W := fun W => by kernel_rfl
              obtain ⟨vv, vps, hlk, hvv⟩ := hW1.map.look_ok (string_keyed Try.underlying9) Try.underlying143 (hz3 _) (plainElem_int Try.underlying3 (by decide)) hkey
              have k0 := hW1.kn.cell 0
              simp at k0
              clear hkl hkl2 hcv hkey hz3 hKW1
              obtain ⟨z, rfl, hzz, _⟩ := plainElem_int_inv Try.underlying3 hvv
              have hzv : D.atKey (.string (keyL k cv)) zU = .lit (.int .i64 z) := congrArg Prod.fst hzz
              have HZV := Lib.hid hzv
              have HHAS := Lib.hid (hW1.ok k cv hlt HL.out HALL.out)
              clear hzv hzz hvv
              cases hh : Maps.has D (.string (keyL k cv)) with
              | true =>
                rw [hh] at hlk HHAS
                have hzc : z = (cN R cv : Int) := by
                  have h1 := HHAS.out rfl
                  rw [HZV.out] at h1
                  simpa using h1
                go_wp2_with fail
                go_ret
                have hfin : n + 1 ≤ n + 2 ^ r := by have := H2R.out; omega
                first
                  | exact ⟨rfl, n, D, hW1, hfin⟩
                  | exact ⟨rfl, n, ⟨D, hW1⟩, hfin⟩
              | false =>
                rw [hh] at hlk
                clear HHAS HZV hh
                have hba : Below wr.heap.size wr (wr.alloc (.cells #[.int .i64 1, .int .i64 2] 3)) := (Below.refl _ _).alloc (Nat.le_refl _) _
                have hq6 := Blk.new wr 3 #[.int .i64 1, .int .i64 2]
                have hW2 := hW1.below hB hba
                have ho2 := own_below ho1 hba (Nat.le_refl _)
                have hk2 := own_below hkr hba (Nat.le_refl _)
                have hr1 : 1 ≤ r := by have := HCR.out; have := HCK.out; omega
                have hpw : 2 ^ r = 2 ^ (r - 1) * 2 := by rw [← Nat.pow_succ]; congr 1; omega
                have hp1 := Nat.two_pow_pos (r - 1)
                have IHr := fun (cv' : List Bool) (b g c' n : Nat) (D : DU) (w : World) h1 h2 h3 h4 h5 => hide (IH.out (r - 1) (by omega) (k + 1) cv' b g c' n D w (by have := HCR.out; have := HCK.out; omega) (by omega) h1 h2 h3 h4 h5)
                have hCLN : ∀ W : World, W.ownsRow b 4 1 (.slice (some ⟨g, 0, none⟩) R.C.length c') R.C.length (cv.map Value.bool) → Hid (Calls Try.prog 182 #[.slice (some ⟨g, 0, none⟩) R.C.length c'] W fun e w' => ∃ g' c'', e = .returned (.slice (some ⟨g', 0, none⟩) R.C.length c'') ∧ w'.ownsRow W.heap.size 4 1 (.slice (some ⟨g', 0, none⟩) R.C.length c'') R.C.length (cv.map Value.bool) ∧ Below W.heap.size W w') := fun W hWo => by
                  have hrr := Reads.of_own hWo
                  have hll := HL.out
                  rw [← hll] at hrr ⊢
                  exact hide (cloneB_any g c' W.heap.size cv W (by omega) (by omega) hrr)
                have HNB := HN.out
                generalize 2 ^ (r - 1) = P at *
                generalize hP2 : 2 ^ r = P2 at *
                have HP2 := Lib.hid hP2
                clear hP2
                have HPW := Lib.hid hpw
                have HNP := Lib.hid HNB
                have HP1 := Lib.hid hp1
                have hF := cN_some hR HL.out hlt HYES.out HALL.out
                have HFS := Lib.hid hF
                have HALLK := HALL
                go_upto_region 19 with fail
                clear hba hKW hkr hW1 ho1 hc0 hlk k0 hcd hcc hCG hCV hpw HNB hp1 hF IH HN H2R hr1 HF ho hW b0 b1 b2
                generalize wr.alloc (.cells #[.int .i64 1, .int .i64 2] 3) = w6 at *
                generalize wr.heap.size = qb at *
                go_loopg [13, 78] 2 (fun r s13 s78 wx => ∃ (j n1 : Nat) (D1 : DU), j + r = 2 ∧ s78 = .int .i64 (j : Nat) ∧ s13 = .int .i64 (preN R cv k j : Nat) ∧ CWn R (some ac) c B rb kb wb mb (fvC rb kb wb) w0 wx n1 D1 ∧ wx.ownsRow b 4 1 (.slice (some ⟨g, 0, none⟩) R.C.length c') R.C.length (cv.map Value.bool) ∧ wx.ownsRow w0.heap.size 5 1 (.slice (some ⟨g1, 0, none⟩) (R.C.length - k + 1) c1) (R.C.length - k + 1) (bytesV (keyL k cv)) ∧ Blk wx qb 3 #[.int .i64 1, .int .i64 2] ∧ n1 + j ≤ n + j * P)
                case atStart => exact ⟨0, n, D, by omega, rfl, rfl, hW2, ho2, hk2, hq6, by omega⟩
                case round =>
                  clear hW2 ho2 hk2 hq6
                  obtain ⟨j, n1, D1, hj, rfl, rfl, hWx, hox, hkx, hqb, hb⟩ := hrel
                  rcases (show j = 0 ∨ j = 1 ∨ j = 2 by omega) with rfl | rfl | rfl
                  · have HB := Lib.hid hb
                    clear hb
                    have q0 := hqb.cell 0
                    simp at q0
                    have hST1 := hST k hlt 1
                    have hsr := step_range hR hlt 1
                    have hpr : preN R cv k 1 = preN R cv k 0 + wyN2 R cv k 1 := rfl
                    obtain ⟨b0, b1, b2⟩ := blk3 hWx.box
                    have hwn := fun h => wy_no (R := R) (cv := cv) (k := k) (way := 1) h
                    have hwa := fun (e : Nat) h => wy_at (R := R) (cv := cv) (k := k) (e := e) (way := 1) h
                    obtain ⟨z, hzq⟩ : ∃ z, z = R.step k 1 := ⟨_, rfl⟩
                    have HZQ := Lib.hid hzq
                    rw [← hzq] at hST1 hsr hwn hwa
                    clear hzq
                    generalize wyN2 R cv k 1 = wz at *
                    go_upto_region 22 with (go_at_call 175; refine (unhide (hST1 _)).mono ?_; rintro e w3 ⟨rfl, hb3⟩)
                    have hW3 := hWx.below hB hb3
                    have ho3 := own_below hox hb3 (Nat.le_refl _)
                    have hk3 := own_below hkx hb3 (Nat.le_refl _)
                    have hq3 := hqb.below hb3 hqb.lt
                    clear hWx hox hkx hqb hb3 q0 b0 b1 b2 hST1
                    obtain ⟨b0, b1, b2⟩ := blk3 hW3.box
                    rcases hsr with rfl | ⟨e, rfl, he⟩
                    · obtain rfl := hwn rfl
                      have HPR := Lib.hid hpr
                      clear hwn hwa hpr
                      go_wp2_with fail
                      go_roundg 1
                      case measure => omega
                      case rel => exact ⟨1, n1, D1, by omega, by go_num, by rw [HPR.out]; rfl, hW3, ho3, hk3, hq3, by have := HB.out; have := HP1.out; omega⟩
                    · have hwe := hwa e rfl
                      have hoe : opC R cv e = (R.C.getD e false && !cv.getD e false) := rfl
                      have hke : ¬ k = e := step_ne hR hlt HZQ.out.symm
                      have hek : ¬ e = k := fun h => hke h.symm
                      obtain ⟨ac', e1, _, hce⟩ := getB hW3.rd he
                      injection e1 with e1
                      subst e1
                      obtain ⟨ad', e1, _, hve⟩ := getB (Reads.of_own ho3) he
                      injection e1 with e1
                      subst e1
                      rw [Addr.add_lit, Nat.zero_add] at hve
                      have hz0 : decide (0 ≤ (e : Int)) = true := decide_eq_true (by omega)
                      clear hwn hwa
                      cases hcb : R.C.getD e false with
                      | false =>
                        rw [hcb] at hce hoe
                        rw [hoe] at hwe
                        obtain rfl : wz = 0 := by simpa using hwe
                        have HPR := Lib.hid hpr
                        clear hpr hwe hoe hcb
                        go_wp2_with fail
                        go_roundg 1
                        case measure => omega
                        case rel => exact ⟨1, n1, D1, by omega, by go_num, by rw [HPR.out]; rfl, hW3, ho3, hk3, hq3, by have := HB.out; have := HP1.out; omega⟩
                      | true =>
                        rw [hcb] at hce hoe
                        cases hvb : cv.getD e false with
                        | true =>
                          rw [hvb] at hve hoe
                          rw [hoe] at hwe
                          obtain rfl : wz = 0 := by simpa using hwe
                          have HPR := Lib.hid hpr
                          clear hpr hwe hoe hcb hvb
                          go_wp2_with fail
                          go_roundg 1
                          case measure => omega
                          case rel => exact ⟨1, n1, D1, by omega, by go_num, by rw [HPR.out]; rfl, hW3, ho3, hk3, hq3, by have := HB.out; have := HP1.out; omega⟩
                        | false =>
                          rw [hvb] at hve hoe
                          rw [hoe] at hwe
                          have hwe := hwe.trans (if_pos rfl)
                          have HPR := Lib.hid hpr
                          have HWE := Lib.hid hwe
                          have HOE := Lib.hid hoe
                          clear hpr hwe hoe hcb hvb
                          have hCL3 := hCLN _ ho3
                          go_upto_region 24 with (go_at_call 182; refine (unhide hCL3).mono ?_; rintro e' w4 ⟨g4, c4, rfl, ho4, hb4⟩)
                          clear hCL3 hce hve b0 b1 b2
                          have x1 := ho4.cellAt k (by omega)
                          have x2 := ho4.cellAt e (by omega)
                          have f1 := ho4.frozenAt k
                          have f2 := ho4.frozenAt e
                          rw [List.getElem?_map, List.getElem?_eq_getElem (by rw [HL.out]; exact hlt)] at x1
                          rw [List.getElem?_map, List.getElem?_eq_getElem (by rw [HL.out]; exact he)] at x2
                          simp only [Option.map_some] at x1 x2
                          go_upto_region 25 with fail
                          have hg4 : w3.heap.size ≤ g4 := (ho4.lt g4 rfl).1
                          have hb6 := (hb4.setCell (p := ⟨g4, k, none⟩) hg4 (.bool true)).setCell (p := ⟨g4, e, none⟩) hg4 (.bool true)
                          have ho6 := ((ho4.stored k (.bool true)).1.stored e (.bool true)).1
                          have hnx : ((cv.map Value.bool).set k (.bool true)).set e (.bool true) = (nxC cv k e).map Value.bool := by simp [nxC, List.map_set]
                          rw [hnx] at ho6
                          clear x1 x2 f1 f2 hnx hb4 ho4
                          generalize (w4.setCell ⟨g4, k, none⟩ (Value.bool true)).setCell ⟨g4, e, none⟩ (Value.bool true) = w7 at *
                          have hW7 := hW3.below hB hb6
                          have hoo7 := own_below ho3 hb6 (Nat.le_refl _)
                          have hkk7 := own_below hk3 hb6 (Nat.le_refl _)
                          have hqq7 := hq3.below hb6 hq3.lt
                          have hIH := IHr (nxC cv k e) w3.heap.size g4 c4 n1 D1 w7 (by rw [nxC_len]; exact HL.out) (opC_ahead (R := R) (by rw [HL.out]; exact hlt) (by rw [HL.out]; exact he) HALL.out) hW7.here ho6 (by have := HB.out; have := HNP.out; have := HPW.out; omega)
                          rw [← HWE.out] at hIH
                          have q9 := hW7.wk.cell 0
                          simp [fvC] at q9
                          have hpl := preN_le R cv k 0
                          have hwl : wz ≤ 262144 := by rw [HWE.out]; exact cN_le _ _
                          have HAD : IntKind.i64.wrap ((preN R cv k 0 : Int) + (wz : Int)) = (preN R cv k 0 : Int) + (wz : Int) := IntWalk.i64_in _ (by omega)
                          clear hW3 ho3 hk3 hq3 hb6 ho6 hg4
                          go_upto_region 26 with (go_at_call 181; go_loud (refine (unhide hIH).mono ?_; rintro e' w8 ⟨rfl, n2, D2, hW8, hn2⟩))
                          have hW9 := hW7.trans hW8
                          have hoo8 := hoo7.kept hW8.gr (.inr (map_own_ne hW7.map hoo7))
                          have hkk8 := hkk7.kept hW8.gr (.inr (map_own_ne hW7.map hkk7))
                          have hqq8 := hqq7.grown hW8.gr (map_blk_ne hW7.map hqq7)
                          go_wp2_with fail
                          go_roundg 1
                          case measure => omega
                          case rel => exact ⟨1, n2, D2, by omega, by go_num, by rw [← HWE.out, HPR.out, Int.natCast_add]; exact congrArg _ (IntWalk.wrap64_in _ (by omega)), hW9, hoo8, hkk8, hqq8, by have := HB.out; omega⟩
                  · have HB := Lib.hid hb
                    clear hb
                    have q0 := hqb.cell 1
                    simp at q0
                    have hST1 := hST k hlt 2
                    have hsr := step_range hR hlt 2
                    have hpr : preN R cv k 2 = preN R cv k 1 + wyN2 R cv k 2 := rfl
                    obtain ⟨b0, b1, b2⟩ := blk3 hWx.box
                    have hwn := fun h => wy_no (R := R) (cv := cv) (k := k) (way := 2) h
                    have hwa := fun (e : Nat) h => wy_at (R := R) (cv := cv) (k := k) (e := e) (way := 2) h
                    obtain ⟨z, hzq⟩ : ∃ z, z = R.step k 2 := ⟨_, rfl⟩
                    have HZQ := Lib.hid hzq
                    rw [← hzq] at hST1 hsr hwn hwa
                    clear hzq
                    generalize wyN2 R cv k 2 = wz at *
                    go_upto_region 22 with (go_at_call 175; refine (unhide (hST1 _)).mono ?_; rintro e w3 ⟨rfl, hb3⟩)
                    have hW3 := hWx.below hB hb3
                    have ho3 := own_below hox hb3 (Nat.le_refl _)
                    have hk3 := own_below hkx hb3 (Nat.le_refl _)
                    have hq3 := hqb.below hb3 hqb.lt
                    clear hWx hox hkx hqb hb3 q0 b0 b1 b2 hST1
                    obtain ⟨b0, b1, b2⟩ := blk3 hW3.box
                    rcases hsr with rfl | ⟨e, rfl, he⟩
                    · obtain rfl := hwn rfl
                      have HPR := Lib.hid hpr
                      clear hwn hwa hpr
                      go_wp2_with fail
                      go_roundg 0
                      case measure => omega
                      case rel => exact ⟨2, n1, D1, by omega, by go_num, by rw [HPR.out]; rfl, hW3, ho3, hk3, hq3, by have := HB.out; have := HP1.out; omega⟩
                    · have hwe := hwa e rfl
                      have hoe : opC R cv e = (R.C.getD e false && !cv.getD e false) := rfl
                      have hke : ¬ k = e := step_ne hR hlt HZQ.out.symm
                      have hek : ¬ e = k := fun h => hke h.symm
                      obtain ⟨ac', e1, _, hce⟩ := getB hW3.rd he
                      injection e1 with e1
                      subst e1
                      obtain ⟨ad', e1, _, hve⟩ := getB (Reads.of_own ho3) he
                      injection e1 with e1
                      subst e1
                      rw [Addr.add_lit, Nat.zero_add] at hve
                      have hz0 : decide (0 ≤ (e : Int)) = true := decide_eq_true (by omega)
                      clear hwn hwa
                      cases hcb : R.C.getD e false with
                      | false =>
                        rw [hcb] at hce hoe
                        rw [hoe] at hwe
                        obtain rfl : wz = 0 := by simpa using hwe
                        have HPR := Lib.hid hpr
                        clear hpr hwe hoe hcb
                        go_wp2_with fail
                        go_roundg 0
                        case measure => omega
                        case rel => exact ⟨2, n1, D1, by omega, by go_num, by rw [HPR.out]; rfl, hW3, ho3, hk3, hq3, by have := HB.out; have := HP1.out; omega⟩
                      | true =>
                        rw [hcb] at hce hoe
                        cases hvb : cv.getD e false with
                        | true =>
                          rw [hvb] at hve hoe
                          rw [hoe] at hwe
                          obtain rfl : wz = 0 := by simpa using hwe
                          have HPR := Lib.hid hpr
                          clear hpr hwe hoe hcb hvb
                          go_wp2_with fail
                          go_roundg 0
                          case measure => omega
                          case rel => exact ⟨2, n1, D1, by omega, by go_num, by rw [HPR.out]; rfl, hW3, ho3, hk3, hq3, by have := HB.out; have := HP1.out; omega⟩
                        | false =>
                          rw [hvb] at hve hoe
                          rw [hoe] at hwe
                          have hwe := hwe.trans (if_pos rfl)
                          have HPR := Lib.hid hpr
                          have HWE := Lib.hid hwe
                          have HOE := Lib.hid hoe
                          clear hpr hwe hoe hcb hvb
                          have hCL3 := hCLN _ ho3
                          go_upto_region 24 with (go_at_call 182; refine (unhide hCL3).mono ?_; rintro e' w4 ⟨g4, c4, rfl, ho4, hb4⟩)
                          clear hCL3 hce hve b0 b1 b2
                          have x1 := ho4.cellAt k (by omega)
                          have x2 := ho4.cellAt e (by omega)
                          have f1 := ho4.frozenAt k
                          have f2 := ho4.frozenAt e
                          rw [List.getElem?_map, List.getElem?_eq_getElem (by rw [HL.out]; exact hlt)] at x1
                          rw [List.getElem?_map, List.getElem?_eq_getElem (by rw [HL.out]; exact he)] at x2
                          simp only [Option.map_some] at x1 x2
                          go_upto_region 25 with fail
                          have hg4 : w3.heap.size ≤ g4 := (ho4.lt g4 rfl).1
                          have hb6 := (hb4.setCell (p := ⟨g4, k, none⟩) hg4 (.bool true)).setCell (p := ⟨g4, e, none⟩) hg4 (.bool true)
                          have ho6 := ((ho4.stored k (.bool true)).1.stored e (.bool true)).1
                          have hnx : ((cv.map Value.bool).set k (.bool true)).set e (.bool true) = (nxC cv k e).map Value.bool := by simp [nxC, List.map_set]
                          rw [hnx] at ho6
                          clear x1 x2 f1 f2 hnx hb4 ho4
                          generalize (w4.setCell ⟨g4, k, none⟩ (Value.bool true)).setCell ⟨g4, e, none⟩ (Value.bool true) = w7 at *
                          have hW7 := hW3.below hB hb6
                          have hoo7 := own_below ho3 hb6 (Nat.le_refl _)
                          have hkk7 := own_below hk3 hb6 (Nat.le_refl _)
                          have hqq7 := hq3.below hb6 hq3.lt
                          have hIH := IHr (nxC cv k e) w3.heap.size g4 c4 n1 D1 w7 (by rw [nxC_len]; exact HL.out) (opC_ahead (R := R) (by rw [HL.out]; exact hlt) (by rw [HL.out]; exact he) HALL.out) hW7.here ho6 (by have := HB.out; have := HNP.out; have := HPW.out; omega)
                          rw [← HWE.out] at hIH
                          have q9 := hW7.wk.cell 0
                          simp [fvC] at q9
                          have hpl := preN_le R cv k 1
                          have hwl : wz ≤ 262144 := by rw [HWE.out]; exact cN_le _ _
                          have HAD : IntKind.i64.wrap ((preN R cv k 1 : Int) + (wz : Int)) = (preN R cv k 1 : Int) + (wz : Int) := IntWalk.i64_in _ (by omega)
                          clear hW3 ho3 hk3 hq3 hb6 ho6 hg4
                          go_upto_region 26 with (go_at_call 181; go_loud (refine (unhide hIH).mono ?_; rintro e' w8 ⟨rfl, n2, D2, hW8, hn2⟩))
                          have hW9 := hW7.trans hW8
                          have hoo8 := hoo7.kept hW8.gr (.inr (map_own_ne hW7.map hoo7))
                          have hkk8 := hkk7.kept hW8.gr (.inr (map_own_ne hW7.map hkk7))
                          have hqq8 := hqq7.grown hW8.gr (map_blk_ne hW7.map hqq7)
                          go_wp2_with fail
                          go_roundg 0
                          case measure => omega
                          case rel => exact ⟨2, n2, D2, by omega, by go_num, by rw [← HWE.out, HPR.out, Int.natCast_add]; exact congrArg _ (IntWalk.wrap64_in _ (by omega)), hW9, hoo8, hkk8, hqq8, by have := HB.out; omega⟩
                  · have HB := Lib.hid hb
                    have hpc : preN R cv k 2 = cN R cv := by rw [HFS.out]; simp [preN]
                    rw [hpc]
                    have hcl := cN_le R cv
                    have HCL := Lib.hid hcl
                    have hcx := HCV.out _ hkx
                    have kx := hWx.kn.cell 0
                    simp at kx
                    clear hb hpc hcl
                    go_wp2_with (at_mapUpdate; go_loud (refine wpList_mapUpdate_own _ rfl _ _ _ 143 rfl 9 3 (string_keyed Try.underlying9) Try.underlying143 _ mb n1 D1 rfl hWx.map (by have := HB.out; have := HNP.out; have := HPW.out; simp only [maxLen]; omega) _ _ (.string (keyL k cv)) rfl rfl HKEY.out _ [] (plainElem_int Try.underlying3 (WalkArith.wf_i64 (by have := HCL.out; omega))) ?_; intro w9 hm9 hg9))
                    go_ret
                    have hfin : n1 + 1 + 1 ≤ n + 2 ^ r := by rw [HP2.out]; have := HB.out; have := HPW.out; omega
                    have hW9 := hWx.grown hB hg9 hm9 (hKEY hWx.map.isMap hWx.ok hlt HL.out HALL.out)
                    exact ⟨rfl, n1 + 1, _, hW9, hfin⟩
    · obtain rfl : k = R.C.length := by have := HK.out; omega
      have HONE := Lib.hid (cN_none (R := R) (cv := cv) (fun j hj => HALL.out j hj))
      go_wp2_with fail
      go_ret
      exact ⟨by rw [HONE.out]; rfl, n, D, hW, by have := H2R.out; omega⟩

end Go.Proofs.Ythepfpiphlfgnaa

/-
  YthepfpiphlfgnaaCp: 'count' of the program.
-/
namespace Go.Proofs.Ythepfpiphlfgnaa
open Go.RowKit Go.Maps Go.WideMaps

/-- What is covered behind the first k cells. -/
def covP (L : List Int) (k : Nat) : List Bool := (L.take k).map (fun z => z != 0) ++ List.replicate (L.length - k) false
theorem covP_zero (L : List Int) : covP L 0 = List.replicate L.length false := by simp [covP]
theorem covP_all (L : List Int) : covP L L.length = L.map (fun z => z != 0) := by simp [covP]
theorem covP_len {L : List Int} {k : Nat} (h : k ≤ L.length) : (covP L k).length = L.length := by simp [covP]; omega
theorem covP_set {L : List Int} {k : Nat} (h : k < L.length) : ((covP L k).map Value.bool).set k (.bool (L.getD k 0 != 0)) = (covP L (k + 1)).map Value.bool := by
  apply List.ext_getElem?
  intro i
  rw [List.getElem?_set]
  simp only [List.length_map, covP_len (Nat.le_of_lt h), List.getElem?_map]
  by_cases hi : k = i
  · subst hi
    rw [if_pos rfl, if_pos h]
    have : (covP L (k + 1))[k]? = some (L.getD k 0 != 0) := by
      unfold covP
      rw [List.getElem?_append_left (by simp; omega), List.getElem?_map, List.getElem?_take_of_lt (by omega), List.getElem?_eq_getElem h]
      simp [List.getD, List.getElem?_eq_getElem h]
    rw [this]
    rfl
  · rw [if_neg hi]
    congr 1
    unfold covP
    by_cases h2 : i < k
    · rw [List.getElem?_append_left (by simp; omega), List.getElem?_append_left (by simp; omega)]
      simp [List.getElem?_take_of_lt, h2, Nat.lt_succ_of_lt h2]
    · rw [List.getElem?_append_right (by simp; omega), List.getElem?_append_right (by simp; omega)]
      simp only [List.getElem?_replicate, List.length_map, List.length_take]
      rw [Nat.min_eq_left (by omega), Nat.min_eq_left (by omega)]
      by_cases h3 : i < L.length
      · rw [if_pos (by omega), if_pos (by omega)]
      · rw [if_neg (by omega), if_neg (by omega)]

set_option maxHeartbeats 4000000 in
set_option maxRecDepth 20000 in
theorem count_any (R : Reg) (hR : R.ok) (A : Option Addr) (c B : Nat) (L : List Int) (D : Option Addr) (d : Nat) (hl : L.length = R.C.length) (w : World)
    (hr : Reads w B 1 A R.C.length (R.C.map Value.bool)) (hd : Reads w B 1 D R.C.length (L.map (Value.int .i64))) (hB : B ≤ w.heap.size) :
    Calls Try.prog 142 #[.agg #[.int .i64 R.W, .int .i64 R.T, .slice A R.C.length c], .slice D R.C.length d] w fun e w' => e = .returned (.int .i64 ((cT R L).length : Nat)) ∧ Below w.heap.size w w' := by
  have hmm := @run_makeMap Try.prog
  have hl36 := (len_bd hR).2
  have HL := Lib.hid hl
  have HC := Lib.hid (cN_list hR hl)
  clear hl
  go_enter Try.func142, Try.ntmps142
  go_upto_region 4 with fail
  have hbox : Blk ((((w.alloc (.cells #[.int .i64 R.W, .int .i64 R.T, .slice A R.C.length c] 25)).alloc (.map #[] 0)).alloc (.cells #[.map (some (w.heap.size + 1))] 143)).alloc (.cells #[.func (.func 181) #[] #[.pointer (some ⟨w.heap.size, 0, none⟩), .pointer (some ⟨w.heap.size + 1 + 1, 0, none⟩), .pointer (some ⟨w.heap.size + 1 + 1 + 1, 0, none⟩)]] 95)) w.heap.size 25 #[.int .i64 R.W, .int .i64 R.T, .slice A R.C.length c] := (((Blk.new w _ _).alloc _).alloc _).alloc _
  have hkn : Blk ((((w.alloc (.cells #[.int .i64 R.W, .int .i64 R.T, .slice A R.C.length c] 25)).alloc (.map #[] 0)).alloc (.cells #[.map (some (w.heap.size + 1))] 143)).alloc (.cells #[.func (.func 181) #[] #[.pointer (some ⟨w.heap.size, 0, none⟩), .pointer (some ⟨w.heap.size + 1 + 1, 0, none⟩), .pointer (some ⟨w.heap.size + 1 + 1 + 1, 0, none⟩)]] 95)) (w.heap.size + 1 + 1) 143 #[.map (some (w.heap.size + 1))] := by
    have := (Blk.new ((w.alloc (.cells #[.int .i64 R.W, .int .i64 R.T, .slice A R.C.length c] 25)).alloc (.map #[] 0)) 143 #[.map (some (w.heap.size + 1))]).alloc (.cells #[.func (.func 181) #[] #[.pointer (some ⟨w.heap.size, 0, none⟩), .pointer (some ⟨w.heap.size + 1 + 1, 0, none⟩), .pointer (some ⟨w.heap.size + 1 + 1 + 1, 0, none⟩)]] 95)
    simpa using this
  have hwk : Blk ((((w.alloc (.cells #[.int .i64 R.W, .int .i64 R.T, .slice A R.C.length c] 25)).alloc (.map #[] 0)).alloc (.cells #[.map (some (w.heap.size + 1))] 143)).alloc (.cells #[.func (.func 181) #[] #[.pointer (some ⟨w.heap.size, 0, none⟩), .pointer (some ⟨w.heap.size + 1 + 1, 0, none⟩), .pointer (some ⟨w.heap.size + 1 + 1 + 1, 0, none⟩)]] 95)) (w.heap.size + 1 + 1 + 1) 95 #[fvC w.heap.size (w.heap.size + 1 + 1) (w.heap.size + 1 + 1 + 1)] := by
    have := Blk.new (((w.alloc (.cells #[.int .i64 R.W, .int .i64 R.T, .slice A R.C.length c] 25)).alloc (.map #[] 0)).alloc (.cells #[.map (some (w.heap.size + 1))] 143)) 95 #[fvC w.heap.size (w.heap.size + 1 + 1) (w.heap.size + 1 + 1 + 1)]
    simpa [fvC] using this
  have hmp : ((((w.alloc (.cells #[.int .i64 R.W, .int .i64 R.T, .slice A R.C.length c] 25)).alloc (.map #[] 0)).alloc (.cells #[.map (some (w.heap.size + 1))] 143)).alloc (.cells #[.func (.func 181) #[] #[.pointer (some ⟨w.heap.size, 0, none⟩), .pointer (some ⟨w.heap.size + 1 + 1, 0, none⟩), .pointer (some ⟨w.heap.size + 1 + 1 + 1, 0, none⟩)]] 95)).ownsMap Try.prog 9 (plainElem (H := Unit) Try.prog 3) (w.heap.size + 1) 0 (.map []) := by
    have := ((World.ownsMap_made (w.alloc (.cells #[.int .i64 R.W, .int .i64 R.T, .slice A R.C.length c] 25)) Try.prog 9 (plainElem (H := Unit) Try.prog 3)).alloc (.cells #[.map (some (w.heap.size + 1))] 143)).alloc (.cells #[.func (.func 181) #[] #[.pointer (some ⟨w.heap.size, 0, none⟩), .pointer (some ⟨w.heap.size + 1 + 1, 0, none⟩), .pointer (some ⟨w.heap.size + 1 + 1 + 1, 0, none⟩)]] 95)
    simpa using this
  have hbw : Below w.heap.size w ((((w.alloc (.cells #[.int .i64 R.W, .int .i64 R.T, .slice A R.C.length c] 25)).alloc (.map #[] 0)).alloc (.cells #[.map (some (w.heap.size + 1))] 143)).alloc (.cells #[.func (.func 181) #[] #[.pointer (some ⟨w.heap.size, 0, none⟩), .pointer (some ⟨w.heap.size + 1 + 1, 0, none⟩), .pointer (some ⟨w.heap.size + 1 + 1 + 1, 0, none⟩)]] 95)) :=
    ((((Below.refl _ _).alloc (Nat.le_refl _) _).alloc (by simp) _).alloc (by simp; omega) _).alloc (by simp; omega) _
  generalize (((w.alloc (.cells #[.int .i64 R.W, .int .i64 R.T, .slice A R.C.length c] 25)).alloc (.map #[] 0)).alloc (.cells #[.map (some (w.heap.size + 1))] 143)).alloc (.cells #[.func (.func 181) #[] #[.pointer (some ⟨w.heap.size, 0, none⟩), .pointer (some ⟨w.heap.size + 1 + 1, 0, none⟩), .pointer (some ⟨w.heap.size + 1 + 1 + 1, 0, none⟩)]] 95) = w4 at *
  obtain ⟨b0, b1, b2⟩ := blk3 hbox
  have hsz := hwk.lt
  go_upto_region 5 with (at_make; go_loud (refine wpList_make_bools rfl _ _ rfl R.C.length (by omega) rfl rfl rfl rfl ?_; intro w5 hc5 hb5))
  rw [← HL.out, ← covP_zero, HL.out] at hc5
  clear b0 b1 b2 hmm
  go_upto_region 6 with fail
  go_loopg [18] R.C.length (fun r s18 wx => ∃ k : Nat, k + r = R.C.length ∧ s18 = .int .i64 (k : Nat) ∧ wx.ownsRow w4.heap.size 4 1 (.slice (some ⟨w4.heap.size, 0, none⟩) R.C.length R.C.length) R.C.length ((covP L k).map Value.bool) ∧ Below w4.heap.size w4 wx)
  case atStart => exact ⟨0, by omega, rfl, hc5, hb5⟩
  case round =>
    clear hc5 hb5
    obtain ⟨k, hk, rfl, ho, hb⟩ := hrel
    have HK := Lib.hid hk
    clear hk
    have hB2 := hbw.trans (hb.mono hbw.size)
    by_cases hlt : k < R.C.length
    · obtain ⟨ad, rfl, hab, hcd⟩ := hd.getI hlt
      have hcd := cell_kept hcd hB2
      have x1 := ho.cellAt k (by omega)
      have f1 := ho.frozenAt k
      rw [List.getElem?_eq_getElem (by rw [List.length_map, covP_len (by rw [HL.out]; omega), HL.out]; exact hlt)] at x1
      have HS := Lib.hid (covP_set (L := L) (k := k) (by rw [HL.out]; exact hlt))
      generalize L.getD k 0 = u at *
      go_wp2_with fail
      go_roundg (R.C.length - (k + 1))
      case measure => have := HK.out; omega
      case rel =>
        have h1 := (ho.stored k (.bool (u != 0))).1
        rw [HS.out] at h1
        exact ⟨k + 1, by have := HK.out; omega, by go_num, h1, hb.setCell (Nat.le_refl _) _⟩
    · obtain rfl : k = R.C.length := by have := HK.out; omega
      have hco : covP L R.C.length = L.map (fun z => z != 0) := by rw [← HL.out]; exact covP_all L
      rw [hco] at ho
      have hW : CWn R A c B w.heap.size (w.heap.size + 1 + 1) (w.heap.size + 1 + 1 + 1) (w.heap.size + 1) (fvC w.heap.size (w.heap.size + 1 + 1) (w.heap.size + 1 + 1 + 1)) wr wr 0 (.map []) :=
        ⟨hbox.below hb hbox.lt, hkn.below hb hkn.lt, hwk.below hb hwk.lt, hmp.kept (below_grown hb none) (by simp), hr.below (hB2.mono hB), known_nil R, World.grownBy.refl _ _⟩
      have hWA := hide (walk_any R hR A c B w.heap.size (w.heap.size + 1 + 1) (w.heap.size + 1 + 1 + 1) (w.heap.size + 1) (by omega) R.C.length 0 (L.map (fun z => z != 0)) w4.heap.size w4.heap.size R.C.length 0 (.map []) wr (by omega) (by omega) (by rw [List.length_map]; exact HL.out) (fun j hj => absurd hj (by omega)) hW ho (by have := Nat.pow_le_pow_right (show 0 < 2 by omega) hl36; omega))
      rw [HC.out] at hWA
      have q9 := hW.wk.cell 0
      simp [fvC] at q9
      go_wp2_with (go_at_call 181; go_loud (refine (unhide hWA).mono ?_; rintro e w9 ⟨rfl, n9, D9, hW9, _⟩))
      go_ret
      exact ⟨rfl, hB2.trans (grownMap_below hW9.gr (by omega) hB2.size)⟩

end Go.Proofs.Ythepfpiphlfgnaa

/-
  YthepfpiphlfgnaaCq: total and TilingsMany of the program.
-/
namespace Go.Proofs.Ythepfpiphlfgnaa
open Go.RowKit

theorem step_mkI {w : World} {ops : Array Oper} {o : Oper} {a : Act} {K : Act → World → Prop} {Q : Exit → Act → World → Prop} {F : Prop}
    (hgd : o.guard = none) (l c : Operand) (hop : o.op = Op.makeSlice 26 l c) (n : Nat) (hn : n ≤ 4194304) (hl : a.eval l = .int .i64 (n : Int)) (hc : a.eval c = .int .i64 (n : Int))
    (hK : ∀ w', w'.ownsRow w.heap.size 3 1 (.slice (some ⟨w.heap.size, 0, none⟩) n n) n ((List.replicate n (0 : Int)).map (Value.int .i64)) → Below w.heap.size w w' → K (a.put o.dst (.slice (some ⟨w.heap.size, 0, none⟩) n n)) w') :
    if Region.wanted o (yielded ops a.tmps) = true then Oper.wp Try.prog o a w K Q else F := by
  have hw : Region.wanted o (yielded ops a.tmps) = true := by simp [Region.wanted, hgd]
  rw [if_pos hw]
  obtain ⟨w', hrun, r1, r2⟩ := make_ints n hn w
  unfold Oper.wp
  simp [execOp, hop, hl, hc, hrun, Result.andThen]
  exact hK w' r1 r2

set_option maxHeartbeats 1000000 in
set_option maxRecDepth 20000 in
theorem total_any (R : Reg) (hR : R.ok) (A : Option Addr) (c B : Nat) (w : World) (hr : Reads w B 1 A R.C.length (R.C.map Value.bool)) (hB : B ≤ w.heap.size) :
    Calls Try.prog 75 #[.agg #[.int .i64 R.W, .int .i64 R.T, .slice A R.C.length c]] w fun e w' => e = .returned (.int .i64 (nT R : Nat)) ∧ Below w.heap.size w w' := by
  have hl36 := (len_bd hR).2
  have hb0 : Below w.heap.size w (w.alloc (boxR R.W R.T A R.C.length c)) := (Below.refl _ _).alloc (Nat.le_refl _) _
  have k0 : Blk (w.alloc (boxR R.W R.T A R.C.length c)) w.heap.size 25 #[.int .i64 R.W, .int .i64 R.T, .slice A R.C.length c] := Blk.new _ _ _
  have hCO := fun (w' : World) (h : Below w.heap.size w w') (g : Nat) (b : Nat) (ho : w'.ownsRow b 3 1 (.slice (some ⟨g, 0, none⟩) R.C.length R.C.length) R.C.length ((bare R).map (Value.int .i64))) => hide (count_any R hR A c w'.heap.size (bare R) (some ⟨g, 0, none⟩) R.C.length (by simp [bare]) w' ((hr.below (h.mono hB)).more (Nat.le_trans hB h.size)) (Reads.of_own ho) (Nat.le_refl _))
  have hce : (cT R (bare R)).length = nT R := rfl
  rw [hce] at hCO
  have hbr : (List.replicate R.C.length (0 : Int)) = bare R := rfl
  clear hce hr
  generalize nT R = N at *
  go_enter Try.func75, Try.ntmps75
  go_upto_region 1 with fail
  generalize w.alloc (boxR R.W R.T A R.C.length c) = w1 at *
  have kd := k0.drew
  have hBd := hb0.trans (((Below.refl w1.heap.size w1).drew).mono hb0.size)
  clear k0 hb0
  obtain ⟨d0, d1, d2⟩ := blk3 kd
  refine wp_region_held_drew (S := (fun w' => w'.cell? ⟨w.heap.size, 0, none⟩ = some (.int .i64 R.W) ∧ w'.cell? ⟨w.heap.size, 1, none⟩ = some (.int .i64 R.T) ∧ w'.cell? ⟨w.heap.size, 2, none⟩ = some (.slice A R.C.length c))) (by kernel_rfl) ⟨d0, d1, d2⟩ ?_
  intro hHeld
  generalize w1.drew = wd at *
  refine wpAnyH_take (i := 0) (v := ?_) rfl (by kernel_rfl) (by kernel_rfl) (by kernel_rfl) (fun _ _ _ h => h) (Or.inl ⟨by kernel_rfl, ?_⟩) hHeld ?_
  rotate_left
  · intro w' hS'
    obtain ⟨x0, x1, x2⟩ := hS'
    go_simp
    try with_reducible rfl
  refine wpAnyH_take (i := 1) (v := ?_) rfl (by kernel_rfl) (by kernel_rfl) (by kernel_rfl) (fun _ _ _ h => h) (Or.inl ⟨by kernel_rfl, ?_⟩) hHeld ?_
  rotate_left
  · intro w' hS'
    clear hS'
    go_simp
    try with_reducible rfl
  refine wpAnyH_take (i := 2) (v := ?_) rfl (by kernel_rfl) (by kernel_rfl) (by kernel_rfl) (fun _ _ _ h => h) (Or.inl ⟨by kernel_rfl, ?_⟩) hHeld ?_
  rotate_left
  · intro w' hS'
    obtain ⟨x0, x1, x2⟩ := hS'
    go_simp
    try with_reducible rfl
  refine wpAnyH_take (i := 3) (v := ?_) rfl (by kernel_rfl) (by kernel_rfl) (by kernel_rfl) (fun _ _ _ h => h) (Or.inl ⟨by kernel_rfl, ?_⟩) hHeld ?_
  rotate_left
  · intro w' hS'
    clear hS'
    go_simp
    try with_reducible rfl
  refine wpAnyH_ready (rs := [4]) (by kernel_rfl) (by simp) ?_
  refine AllReadyH.cons rfl (fun K hK => ?_) AllReadyH.nil
  refine step_mkI rfl _ _ rfl R.C.length (by omega) (by simp [Act.eval, Act.put]) (by simp [Act.eval, Act.put]) ?_
  intro w2 ho2 hb2
  rw [hbr] at ho2
  have hB2 := hBd.trans (hb2.mono hBd.size)
  refine hK.out _ _ ?_ ?_
  · exact ⟨cell_kept d0 hb2, cell_kept d1 hb2, cell_kept d2 hb2⟩
  clear hHeld
  intro hHeld
  clear hK K
  refine wpAnyH_ready (rs := [5]) (by kernel_rfl) (by simp) ?_
  refine AllReadyH.cons rfl (fun K hK => ?_) AllReadyH.nil
  go_simp
  go_at_call 142
  (with_reducible refine (unhide (hCO _ hB2 _ _ ho2)).mono ?_)
  rintro e w3 ⟨rfl, hb3⟩
  refine hK.out _ _ ?_ ?_
  · exact ⟨cell_kept (cell_kept d0 hb2) hb3, cell_kept (cell_kept d1 hb2) hb3, cell_kept (cell_kept d2 hb2) hb3⟩
  clear hHeld
  intro hHeld
  clear hK K
  refine wpAnyH_take (i := 6) (v := ?_) rfl (by kernel_rfl) (by kernel_rfl) (by kernel_rfl) (fun _ _ _ h => h) (Or.inl ⟨by kernel_rfl, ?_⟩) hHeld ?_
  rotate_left
  · intro w' hS'
    clear hS'
    go_simp
    try with_reducible rfl
  refine wpAnyH_done (by kernel_rfl) ?_ _
  go_simp
  go_wp2_with fail
  go_ret
  exact ⟨rfl, hB2.trans (hb3.mono hB2.size)⟩

set_option maxHeartbeats 1000000 in
set_option maxRecDepth 100000 in
theorem tilingsManyI_no (W T : Int) (A : Option Addr) (n c B : Nat) (bs : List Bool) (w : World) (hr : Reads w B 1 A n (bs.map Value.bool)) (hB : B ≤ w.heap.size) (hn : n ≤ 9223372036854775807) (hv : validB W T bs = false) :
    Calls Try.prog 19 #[.agg #[.int .i64 W, .int .i64 T, .slice A n c]] w fun e w' => e = .returned (.int .i64 (-1)) ∧ Below w.heap.size w w' := by
  have HV := hide (valid_any W T A n c B bs (w.alloc (boxR W T A n c)) (hr.alloc hB _) (by simp; omega) hn)
  rw [hv] at HV
  clear hv
  go_enter Try.func19, Try.ntmps19
  go_wp2_with fail
  refine (unhide HV).mono ?_
  rintro e w1 ⟨rfl, hb1⟩
  obtain ⟨hB1, hk1, b0, b1, b2⟩ := box_keep hb1
  go_wp2_with fail
  go_ret
  exact ⟨rfl, hB1⟩

set_option maxHeartbeats 1000000 in
set_option maxRecDepth 100000 in
theorem tilingsManyI_ok (R : Reg) (hR : R.ok) (A : Option Addr) (c B : Nat) (w : World) (hr : Reads w B 1 A R.C.length (R.C.map Value.bool)) (hB : B ≤ w.heap.size) :
    Calls Try.prog 19 #[.agg #[.int .i64 R.W, .int .i64 R.T, .slice A R.C.length c]] w fun e w' => e = .returned (.int .i64 (nT R : Nat)) ∧ Below w.heap.size w w' := by
  have hl36 := (len_bd hR).2
  have HV := hide (valid_any R.W R.T A R.C.length c B R.C (w.alloc (boxR R.W R.T A R.C.length c)) (hr.alloc hB _) (by simp; omega) (by omega))
  rw [valid_of_ok hR] at HV
  have hTT := fun (w' : World) (h : Below w.heap.size w w') => hide (total_any R hR A c B w' (hr.below (h.mono hB)) (Nat.le_trans hB h.size))
  generalize nT R = N at *
  go_enter Try.func19, Try.ntmps19
  go_wp2_with fail
  refine (unhide HV).mono ?_
  rintro e w1 ⟨rfl, hb1⟩
  obtain ⟨hB1, hk1, b0, b1, b2⟩ := box_keep hb1
  go_wp2_with fail
  refine (unhide (hTT _ hB1)).mono ?_
  rintro e w2 ⟨rfl, hb2⟩
  have hB2 := hB1.trans (hb2.mono hB1.size)
  go_wp2_with fail
  go_ret
  exact ⟨rfl, hB2⟩

end Go.Proofs.Ythepfpiphlfgnaa

/-
  YthepfpiphlfgnaaTo: TilingOf of the program.
-/
namespace Go.Proofs.Ythepfpiphlfgnaa
open Go.RowKit




end Go.Proofs.Ythepfpiphlfgnaa

/-
  YthepfpiphlfgnaaTq: TilingsMany and TilingOf of the program, of any region.
-/
namespace Go.Proofs.Ythepfpiphlfgnaa
open Go.RowKit

/-- How many tilings, -1 of what is no region (XR4's tmV, word for word). -/
def tmI (W T : Int) (bs : List Bool) : Int := if validB W T bs = true then ((nT ⟨W.toNat, T.toNat, bs⟩ : Nat) : Int) else -1

theorem tilingsManyI_any (W T : Int) (A : Option Addr) (n c B : Nat) (bs : List Bool) (w : World) (hbl : bs.length = n) (hr : Reads w B 1 A n (bs.map Value.bool)) (hB : B ≤ w.heap.size) (hn : n ≤ 9223372036854775807) :
    Calls Try.prog 19 #[.agg #[.int .i64 W, .int .i64 T, .slice A n c]] w fun e w' => e = .returned (.int .i64 (tmI W T bs)) ∧ Below w.heap.size w w' := by
  cases hv : validB W T bs with
  | false =>
    have h : tmI W T bs = -1 := by unfold tmI; rw [if_neg (by rw [hv]; simp)]
    rw [h]
    exact tilingsManyI_no W T A n c B bs w hr hB hn hv
  | true =>
    have h : tmI W T bs = ((nT ⟨W.toNat, T.toNat, bs⟩ : Nat) : Int) := by unfold tmI; rw [if_pos hv]
    rw [h]
    obtain ⟨R, hR, rfl, rfl, rfl⟩ := reg_of_valid hv
    subst hbl
    simp only [Int.toNat_natCast]
    exact tilingsManyI_ok R hR A c B w hr hB


end Go.Proofs.Ythepfpiphlfgnaa

/-
  YthepfpiphlfgnaaLl: a tiling by its number: where there is a tiling, every number below how many there are gives one.
-/
namespace Go.Proofs.Ythepfpiphlfgnaa

theorem tmI_ok {R : Reg} (hR : R.ok) : tmI R.W R.T R.C = ((tilT R).length : Int) := by unfold tmI; rw [if_pos (valid_of_ok hR)]; rfl

end Go.Proofs.Ythepfpiphlfgnaa

/-
  YthepfpiphlfgnaaLm: what FnLowest, FnHighest, FnHeightSum and FnFrozen say of the values. Plain Lean.
-/
namespace Go.Proofs.Ythepfpiphlfgnaa

theorem tmI_bd (W T : Int) (bs : List Bool) : -1 ≤ tmI W T bs ∧ tmI W T bs ≤ 262144 := by
  unfold tmI
  split
  · have := nT_le ⟨W.toNat, T.toNat, bs⟩; omega
  · omega


end Go.Proofs.Ythepfpiphlfgnaa

/-
  YthepfpiphlfgnaaLn: lists without repeats, built by adding what is not there yet; and the search that adds all neighbours of what it has met. Plain Lean.
-/
namespace Go.Proofs.Ythepfpiphlfgnaa

def addU {α : Type} [DecidableEq α] (st : List α) (x : α) : List α := if x ∈ st then st else st ++ [x]
theorem addU_in {α : Type} [DecidableEq α] {st : List α} {x : α} (h : x ∈ st) : addU st x = st := by unfold addU; rw [if_pos h]
theorem addU_out {α : Type} [DecidableEq α] {st : List α} {x : α} (h : ¬ x ∈ st) : addU st x = st ++ [x] := by unfold addU; rw [if_neg h]
theorem mem_addU {α : Type} [DecidableEq α] {st : List α} {x y : α} : y ∈ addU st x ↔ y ∈ st ∨ y = x := by
  by_cases h : x ∈ st
  · rw [addU_in h]
    exact ⟨fun h1 => .inl h1, fun h1 => h1.elim id fun h2 => by rw [h2]; exact h⟩
  · rw [addU_out h]; simp
theorem nodup_addU {α : Type} [DecidableEq α] {st : List α} {x : α} (h : st.Nodup) : (addU st x).Nodup := by
  by_cases hx : x ∈ st
  · rw [addU_in hx]; exact h
  · rw [addU_out hx, List.nodup_append]
    refine ⟨h, by simp, fun a ha b hb he => ?_⟩
    rw [List.mem_singleton] at hb
    subst hb he
    exact hx ha
theorem mem_folU {α : Type} [DecidableEq α] {y : α} : ∀ {l st : List α}, y ∈ l.foldl addU st ↔ y ∈ st ∨ y ∈ l
  | [], st => by simp
  | x :: l, st => by
    rw [List.foldl_cons, mem_folU, mem_addU, List.mem_cons, or_assoc]
theorem nodup_folU {α : Type} [DecidableEq α] : ∀ {l st : List α}, st.Nodup → (l.foldl addU st).Nodup
  | [], _, h => h
  | _ :: l, _, h => nodup_folU (l := l) (nodup_addU h)
theorem pre_folU {α : Type} [DecidableEq α] : ∀ (l st : List α), ∃ t, l.foldl addU st = st ++ t
  | [], st => ⟨[], by simp⟩
  | x :: l, st => by
    obtain ⟨t, ht⟩ := pre_folU l (addU st x)
    rw [List.foldl_cons, ht]
    by_cases h : x ∈ st
    · rw [addU_in h]; exact ⟨t, rfl⟩
    · rw [addU_out h, List.append_assoc]; exact ⟨_, rfl⟩
theorem nodup_le {α : Type} [DecidableEq α] : ∀ {l m : List α}, l.Nodup → (∀ x ∈ l, x ∈ m) → l.length ≤ m.length
  | [], _, _, _ => by simp
  | a :: l, m, h, hs => by
    rw [List.nodup_cons] at h
    have ha := hs a (by simp)
    have := nodup_le (l := l) (m := m.erase a) h.2 fun x hx => (List.mem_erase_of_ne (fun e => h.1 (by rw [← e]; exact hx))).2 (hs x (by simp [hx]))
    rw [List.length_erase_of_mem ha] at this
    have := List.length_pos_of_mem ha
    rw [List.length_cons]; omega

/-- The search: round i adds the neighbours of the one met as number i. -/
def runR (f : List Int → List (List Int)) (M : List Int) : Nat → List (List Int)
  | 0 => [M]
  | i + 1 => if i < (runR f M i).length then (f ((runR f M i).getD i [])).foldl addU (runR f M i) else runR f M i
theorem runR_lt {f : List Int → List (List Int)} {M : List Int} {i : Nat} (h : i < (runR f M i).length) : runR f M (i + 1) = (f ((runR f M i).getD i [])).foldl addU (runR f M i) := by
  rw [runR, if_pos h]
theorem runR_ge {f : List Int → List (List Int)} {M : List Int} {i : Nat} (h : (runR f M i).length ≤ i) : runR f M (i + 1) = runR f M i := by
  rw [runR, if_neg (by omega)]
theorem runR_fix {f : List Int → List (List Int)} {M : List Int} {i : Nat} (h : (runR f M i).length ≤ i) : ∀ k, runR f M (i + k) = runR f M i
  | 0 => rfl
  | k + 1 => by
    have ih := runR_fix h k
    have := runR_ge (f := f) (M := M) (i := i + k) (by rw [ih]; omega)
    rw [← Nat.add_assoc, this, ih]
theorem runR_nodup (f : List Int → List (List Int)) (M : List Int) : ∀ i, (runR f M i).Nodup
  | 0 => by simp [runR]
  | i + 1 => by
    by_cases h : i < (runR f M i).length
    · rw [runR_lt h]; exact nodup_folU (runR_nodup f M i)
    · rw [runR_ge (by omega)]; exact runR_nodup f M i
theorem runR_mem (f : List Int → List (List Int)) (M : List Int) : ∀ i, M ∈ runR f M i
  | 0 => by simp [runR]
  | i + 1 => by
    by_cases h : i < (runR f M i).length
    · rw [runR_lt h]; exact mem_folU.2 (.inl (runR_mem f M i))
    · rw [runR_ge (by omega)]; exact runR_mem f M i
theorem runR_in {f : List Int → List (List Int)} {M : List Int} {P : List Int → Prop} (h0 : P M) (hs : ∀ x, P x → ∀ y ∈ f x, P y) : ∀ i, ∀ x ∈ runR f M i, P x
  | 0, x, hx => by
    simp only [runR, List.mem_singleton] at hx
    rw [hx]; exact h0
  | i + 1, x, hx => by
    have ih := runR_in h0 hs i
    by_cases h : i < (runR f M i).length
    · rw [runR_lt h] at hx
      rcases mem_folU.1 hx with h1 | h1
      · exact ih x h1
      · refine hs _ (ih _ ?_) x h1
        rw [List.getD_eq_getElem?_getD, List.getElem?_eq_getElem h]
        exact List.getElem_mem _
    · rw [runR_ge (by omega)] at hx
      exact ih x hx
/-- What was met as number j has all its neighbours there behind round j. -/
theorem runR_closed (f : List Int → List (List Int)) (M : List Int) : ∀ i j, j < i → j < (runR f M i).length → ∀ y ∈ f ((runR f M i).getD j []), y ∈ runR f M i
  | 0, j, h, _ => by omega
  | i + 1, j, h, hl => by
    intro y hy
    by_cases hi : i < (runR f M i).length
    · obtain ⟨t, ht⟩ := pre_folU (f ((runR f M i).getD i [])) (runR f M i)
      have e := runR_lt hi
      have hj : j < (runR f M i).length := by omega
      have hg : (runR f M (i + 1)).getD j [] = (runR f M i).getD j [] := by
        rw [e, ht, List.getD_eq_getElem?_getD, List.getElem?_append_left hj, ← List.getD_eq_getElem?_getD]
      rw [hg] at hy
      rw [e, mem_folU]
      by_cases hji : j = i
      · subst hji; exact .inr hy
      · exact .inl (runR_closed f M i j (by omega) hj y hy)
    · have e := runR_ge (f := f) (M := M) (i := i) (by omega)
      rw [e] at hl hy ⊢
      exact runR_closed f M i j (by omega) hl y hy

end Go.Proofs.Ythepfpiphlfgnaa

/-
  YthepfpiphlfgnaaTs: Frozen and FlipLines of the program and of the reference.
-/
namespace Go.Proofs.Ythepfpiphlfgnaa
open Go.RowKit

theorem laid_of_tiling {W T : Int} {bs : List Bool} {L : List Int} (h : tilingB W T bs L = true) : laidB W T bs L = true := by
  cases hl : laidB W T bs L with
  | true => rfl
  | false => rw [tilingB_no hl] at h; cases h







end Go.Proofs.Ythepfpiphlfgnaa

/-
  YthepfpiphlfgnaaLo: what FnFlipLines (its first half), FnReachMany and FnPushedMany say of the values. Plain Lean.
-/
namespace Go.Proofs.Ythepfpiphlfgnaa


/-- What a tiling's flips lead to. -/
def fnR (R : Reg) (L : List Int) : List (List Int) := (flL R L fun _ => true).map (flV R L)
theorem fnR_tile {R : Reg} (hR : R.ok) {x : List Int} (hx : Tile R x) : ∀ y ∈ fnR R x, Tile R y := fun y hy => by
  obtain ⟨k, _, rfl⟩ := List.mem_map.1 hy
  exact tile_flV hR hx k
noncomputable def rmV (W T : Int) (bs : List Bool) (L : List Int) : Int :=
  if tilingB W T bs L = true ∧ cnt bs ≤ 16 then (((runR (fnR ⟨W.toNat, T.toNat, bs⟩) L (tilT ⟨W.toNat, T.toNat, bs⟩).length).length : Nat) : Int) else -1
theorem rmV_yes {R : Reg} {L : List Int} (h : tilingB R.W R.T R.C L = true) (g : cnt R.C ≤ 16) : rmV R.W R.T R.C L = ((runR (fnR R) L (tilT R).length).length : Int) := by unfold rmV; rw [if_pos ⟨h, g⟩]; rfl
theorem rmV_no {W T : Int} {bs : List Bool} {L : List Int} (h : ¬ (tilingB W T bs L = true ∧ cnt bs ≤ 16)) : rmV W T bs L = -1 := by unfold rmV; exact if_neg h
theorem tile_of_tiling {W T : Int} {bs : List Bool} {L : List Int} (h : tilingB W T bs L = true) : ∃ R : Reg, R.ok ∧ W = (R.W : Int) ∧ T = (R.T : Int) ∧ bs = R.C ∧ Tile R L := by
  obtain ⟨R, hR, rfl, rfl, rfl, hL⟩ := laid_cases (laid_of_tiling h)
  rw [tilingB_ok hR, Bool.and_eq_true] at h
  exact ⟨R, hR, rfl, rfl, rfl, hL, (fullB_iff hR).1 h.2⟩
theorem tiling_of_tile {R : Reg} (hR : R.ok) {L : List Int} (h : Tile R L) : tilingB R.W R.T R.C L = true := by
  rw [tilingB_ok hR, (laysB_iff hR).2 h.1, (fullB_iff hR).2 h.2]; rfl
theorem runR_le {R : Reg} (hR : R.ok) {L : List Int} (hL : Tile R L) (i : Nat) : (runR (fnR R) L i).length ≤ (tilT R).length :=
  nodup_le (runR_nodup _ _ i) fun x hx => (tilT_iff hR).2 (runR_in (P := Tile R) hL (fun _ h => fnR_tile hR h) i x hx)
/-- All that the flips reach. -/
theorem law_reach {W T : Int} {bs : List Bool} {L : List Int} (h : tilingB W T bs L = true) (g : cnt bs ≤ 16) :
    1 ≤ rmV W T bs L ∧ rmV W T bs L ≤ tmI W T bs ∧ (simpleB W T bs = true → rmV W T bs L = tmI W T bs) := by
  obtain ⟨R, hR, rfl, rfl, rfl, hL⟩ := tile_of_tiling h
  rw [rmV_yes h g, tmI_ok hR]
  have h1 := List.length_pos_of_mem (runR_mem (fnR R) L (tilT R).length)
  have h2 := runR_le hR hL (tilT R).length
  refine ⟨by omega, by omega, fun hs => ?_⟩
  have hS := (simple_of hR).1 hs
  have h3 : (tilT R).length ≤ (runR (fnR R) L (tilT R).length).length := nodup_le (tilT_nodup hR) fun N hN => by
    have hN := (tilT_iff hR).1 hN
    obtain ⟨S, s0, s1, _, _, s4⟩ := law_flipWay (tiled_tile hR hS hL) (tiled_tile hR hS hN)
    have key : ∀ j, j ≤ (fwV R.W R.T R.C L N).length → S j ∈ runR (fnR R) L (tilT R).length := by
      intro j
      induction j with
      | zero => intro _; rw [s0]; exact runR_mem _ _ _
      | succ j ih =>
        intro hj
        obtain ⟨e1, e2, _, _⟩ := s4 j (by omega)
        have ih := ih (by omega)
        obtain ⟨q, hq⟩ := List.getElem?_of_mem ih
        have hql : q < (runR (fnR R) L (tilT R).length).length := (List.getElem?_eq_some_iff.1 hq).1
        refine runR_closed (fnR R) L (tilT R).length q (by omega) hql _ ?_
        have hqd : (runR (fnR R) L (tilT R).length).getD q [] = S j := by rw [List.getD_eq_getElem?_getD, hq]; rfl
        rw [hqd]
        have hT := runR_in (P := Tile R) hL (fun _ h => fnR_tile hR h) _ _ ih
        have hl : laidB R.W R.T R.C (S j) = true := by rw [laidB_ok hR]; exact (laysB_iff hR).2 hT.1
        rw [(foV_yes hl).1] at e1
        rw [(foV_yes hl).2] at e2
        obtain ⟨m, hm, hmc, _⟩ := flB_nat e2
        rw [← e1]
        refine List.mem_map.2 ⟨_, ?_, rfl⟩
        rw [hm] at e2 ⊢
        unfold flL flTo
        refine List.mem_map.2 ⟨m, List.mem_filter.2 ⟨List.mem_range.2 (by omega), by rw [e2]; rfl⟩, rfl⟩
    have := key _ (Nat.le_refl _)
    rwa [s1] at this
  omega


end Go.Proofs.Ythepfpiphlfgnaa

/-
  YthepfpiphlfgnaaLr: the search of ReachMany and the collecting of PushedMany, step by step; a tiling's place as a number. Plain Lean.
-/
namespace Go.Proofs.Ythepfpiphlfgnaa

/-- Round i of the search, with the first j neighbours added. -/
noncomputable def mdR (R : Reg) (M : List Int) (i j : Nat) : List (List Int) := ((fnR R ((runR (fnR R) M i).getD i [])).take j).foldl addU (runR (fnR R) M i)
theorem mdR_zero (R : Reg) (M : List Int) (i : Nat) : mdR R M i 0 = runR (fnR R) M i := by unfold mdR; simp
theorem mdR_succ {R : Reg} {M X : List Int} {i j : Nat} {k : Int} (hX : (runR (fnR R) M i)[i]? = some X) (h : (flL R X fun _ => true)[j]? = some k) : mdR R M i (j + 1) = addU (mdR R M i j) (flV R X k) := by
  have hg : (runR (fnR R) M i).getD i [] = X := by rw [List.getD_eq_getElem?_getD, hX]; rfl
  unfold mdR
  rw [hg]
  have : (fnR R X)[j]? = some (flV R X k) := by unfold fnR; rw [List.getElem?_map, h]; rfl
  rw [List.take_add_one, this, List.foldl_append]; rfl
theorem mdR_all {R : Reg} {M X : List Int} {i : Nat} (hX : (runR (fnR R) M i)[i]? = some X) : mdR R M i (flL R X fun _ => true).length = runR (fnR R) M (i + 1) := by
  have hg : (runR (fnR R) M i).getD i [] = X := by rw [List.getD_eq_getElem?_getD, hX]; rfl
  have hi := (List.getElem?_eq_some_iff.1 hX).1
  rw [runR_lt hi]
  unfold mdR
  rw [hg, List.take_of_length_le (by unfold fnR; rw [List.length_map]; exact Nat.le_refl _)]
theorem mdR_row {R : Reg} {M X : List Int} {i : Nat} (hX : (runR (fnR R) M i)[i]? = some X) (j : Nat) : (mdR R M i j)[i]? = some X := by
  have hi := (List.getElem?_eq_some_iff.1 hX).1
  unfold mdR
  obtain ⟨t, ht⟩ := pre_folU ((fnR R ((runR (fnR R) M i).getD i [])).take j) (runR (fnR R) M i)
  rw [ht, List.getElem?_append_left hi, hX]
theorem mdR_tile {R : Reg} (hR : R.ok) {M : List Int} (hM : Tile R M) {i : Nat} (hi : i < (runR (fnR R) M i).length) (j : Nat) : ∀ x ∈ mdR R M i j, Tile R x := fun x hx => by
  have hin := runR_in (P := Tile R) hM (fun _ h => fnR_tile hR h)
  unfold mdR at hx
  rcases mem_folU.1 hx with h | h
  · exact hin i x h
  · refine fnR_tile hR (hin i _ ?_) x (List.mem_of_mem_take h)
    rw [List.getD_eq_getElem?_getD, List.getElem?_eq_getElem hi]
    exact List.getElem_mem _
theorem mdR_le {R : Reg} (hR : R.ok) {M : List Int} (hM : Tile R M) {i : Nat} (hi : i < (runR (fnR R) M i).length) (j : Nat) : (mdR R M i j).length ≤ (tilT R).length :=
  nodup_le (by unfold mdR; exact nodup_folU (runR_nodup _ _ _)) fun x hx => (tilT_iff hR).2 (mdR_tile hR hM hi j x hx)
/-- Where the search ends. -/
theorem runR_end {R : Reg} (hR : R.ok) {M : List Int} (hM : Tile R M) {i : Nat} (h : (runR (fnR R) M i).length = i) : (runR (fnR R) M (tilT R).length).length = i := by
  have hl := runR_le hR hM i
  obtain ⟨d, hd⟩ : ∃ d, (tilT R).length = i + d := ⟨(tilT R).length - i, by omega⟩
  rw [hd, runR_fix (by omega) d, h]
theorem runR_at {R : Reg} {M : List Int} {i : Nat} (h : i < (runR (fnR R) M i).length) : ∃ X, (runR (fnR R) M i)[i]? = some X := ⟨_, List.getElem?_eq_getElem h⟩

/-- A tiling's place, as a number. -/
noncomputable def rkI (R : Reg) (M : List Int) : Int := (rkV R M : Int)
theorem rkI_inj {R : Reg} (hR : R.ok) {M N : List Int} (hM : Tile R M) (hN : Tile R N) (h : rkI R M = rkI R N) : M = N := rkV_inj hR hM hN (by unfold rkI at h; omega)
theorem rkI_mem {R : Reg} (hR : R.ok) {st : List (List Int)} (hst : ∀ x ∈ st, Tile R x) {N : List Int} (hN : Tile R N) : rkI R N ∈ st.map (rkI R) ↔ N ∈ st := by
  rw [List.mem_map]
  constructor
  · rintro ⟨x, hx, he⟩
    rw [← rkI_inj hR (hst x hx) hN he]; exact hx
  · intro h
    exact ⟨N, h, rfl⟩
theorem rkI_add {R : Reg} (hR : R.ok) {st : List (List Int)} (hst : ∀ x ∈ st, Tile R x) {N : List Int} (hN : Tile R N) : (addU st N).map (rkI R) = if rkI R N ∈ st.map (rkI R) then st.map (rkI R) else st.map (rkI R) ++ [rkI R N] := by
  by_cases h : N ∈ st
  · rw [addU_in h, if_pos ((rkI_mem hR hst hN).2 h)]
  · rw [addU_out h, if_neg fun g => h ((rkI_mem hR hst hN).1 g), List.map_append]; rfl

end Go.Proofs.Ythepfpiphlfgnaa

/-
  YthepfpiphlfgnaaLt: left out.
-/
namespace Go.Proofs.Ythepfpiphlfgnaa

end Go.Proofs.Ythepfpiphlfgnaa

/-
  YthepfpiphlfgnaaHa: is a number among numbers (l1Has of the reference)?
-/
namespace Go.Proofs.Ythepfpiphlfgnaa
open Go.RowKit

set_option maxHeartbeats 1000000 in
theorem hasS_any (L : List Int) (D : Option Addr) (m d B : Nat) (z : Int) (w : World) (hL : L.length = m) (h1 : Reads w B 1 D m (L.map (Value.int .i64))) (hm : m ≤ 16777216) :
    Calls Try.prog 120 #[.slice D m d, .int .i64 z] w fun e w' => e = .returned (.bool (decide (z ∈ L))) ∧ Below w.heap.size w w' := by
  have HL := Lib.hid hL
  clear hL
  have HLG := fun k (hk : k < m) => h1.getI hk
  go_enter Try.func120, Try.ntmps120
  go_wp2_with fail
  go_loopg [5] m (fun r s3 wr => ∃ k q : Nat, k + r = m ∧ s3 = .int .i64 (k : Int) ∧ wr = w.drewN q ∧ (∀ (j : Nat), j < k → L[j]? ≠ some z))
  case atStart => exact ⟨0, 0, by omega, rfl, rfl, fun j hj => by omega⟩
  case round =>
    obtain ⟨k, q, hk, rfl, rfl, hall⟩ := hrel
    have HK := Lib.hid hk
    have HALL := Lib.hid hall
    clear hk hall
    by_cases hlt : k < m
    · obtain ⟨ad, rfl, _, hc1⟩ := HLG k hlt
      have hbq := below_drewN (Below.refl w.heap.size w) q
      have x1 := (cell_kept hc1 hbq)
      have hx : L[k]? = some (L.getD k 0) := by rw [List.getD_eq_getElem?_getD, List.getElem?_eq_getElem (show k < L.length by rw [HL.out]; exact hlt)]; rfl
      have HX := Lib.hid hx
      clear HLG hx
      generalize L.getD k 0 = x at *
      cases hxz : (x == z) with
      | true =>
        have HXZ := Lib.hid hxz
        go_wp2_with fail
        go_ret
        exact ⟨ret_bool (decide_eq_true (List.mem_of_getElem? (HX.out.trans (by rw [eq_of_beq HXZ.out])))).symm, below_drewN (Below.refl _ _) _⟩
      | false =>
        have HXZ := Lib.hid hxz
        go_wp2_with fail
        go_roundg (m - (k + 1))
        case measure => have := HK.out; omega
        case rel =>
          refine ⟨k + 1, _, by have := HK.out; omega, by go_num, rfl, fun j hj hjz => ?_⟩
          by_cases hjk : j = k
          · subst hjk
            rw [HX.out] at hjz
            injection hjz with hjz
            have := HXZ.out
            rw [hjz] at this
            simp at this
          · exact HALL.out j (by omega) hjz
    · clear HLG
      have hk : k = m := by have := HK.out; omega
      have hno : decide (z ∈ L) = false := decide_eq_false fun h => by
        obtain ⟨j, hj⟩ := List.getElem?_of_mem h
        have hjl := (List.getElem?_eq_some_iff.1 hj).1
        exact HALL.out j (by rw [HL.out] at hjl; omega) hj
      go_wp2_with fail
      go_ret
      exact ⟨ret_bool hno.symm, below_drewN (Below.refl _ _) _⟩


end Go.Proofs.Ythepfpiphlfgnaa

/-
  YthepfpiphlfgnaaGw: a growing row of numbers beside what was made in a stretch of the heap.
-/
namespace Go.Proofs.Ythepfpiphlfgnaa
open Go.RowKit

theorem own_keep {w w' : World} {b s n : Nat} {e : TypeId} {v : Value} {xs : List Value} (h : w.ownsRow b e s v n xs) (hk : ∀ k, b ≤ k → k < w.heap.size → w'.heap[k]? = w.heap[k]?) : w'.ownsRow b e s v n xs := by
  refine ⟨h.1, ?_⟩
  rcases h.2 with hn | ⟨g, cap, cur, rfl, hbb, hgg, rest⟩
  · exact .inl hn
  · exact .inr ⟨g, cap, cur, rfl, hbb, (hk g hbb (Array.getElem?_eq_some_iff.1 hgg).1).trans hgg, rest⟩
theorem LiAt.keep {w w' : World} {b : Nat} {v : Value} {L : List Int} (h : LiAt w b v L) (hk : ∀ k, b ≤ k → k < w.heap.size → w'.heap[k]? = w.heap[k]?) : LiAt w' b v L := by
  obtain ⟨A, c1, c2, e, ho⟩ := h
  exact ⟨A, c1, c2, e, own_keep ho hk⟩
theorem RowsOf.keep {w w' : World} {b n : Nat} {v : Value} {xs : List Value} {Ts : List (List Int)} (h : RowsOf w b n v xs Ts) (hk : ∀ k, b ≤ k → k < w.heap.size → w'.heap[k]? = w.heap[k]?) : RowsOf w' b n v xs Ts :=
  ⟨own_keep h.own hk, h.len, fun i x L h1 h2 => by
    obtain ⟨g, c, c', rfl, ho⟩ := h.inn i x L h1 h2
    exact ⟨g, c, c', rfl, own_keep ho hk⟩⟩

/-- A box and one growing row; what lies from b on up to the heap's end in w3 stays as it was. -/
structure GrW (w w3 wr : World) (W T : Int) (A : Option Addr) (n c b g cc : Nat) (L : List Int) : Prop where
  aw : AW w wr W T A n c g cc L
  kp : ∀ k, b ≤ k → k < w3.heap.size → wr.heap[k]? = w3.heap[k]?
  far : g < b ∨ w3.heap.size ≤ g
  sz : w3.heap.size ≤ wr.heap.size
section
variable {w w3 wr w2 : World} {W T : Int} {A : Option Addr} {n c b g k g' k' : Nat} {L : List Int}
theorem GrW.start (h : AW w w3 W T A n c g k L) (hg : g < b) : GrW w w3 w3 W T A n c b g k L := ⟨h, fun _ _ _ => rfl, .inl hg, Nat.le_refl _⟩
theorem GrW.below (h : GrW w w3 wr W T A n c b g k L) (hb : Below wr.heap.size wr w2) : GrW w w3 w2 W T A n c b g k L :=
  ⟨h.aw.below hb, fun q h1 h2 => (hb.block q (by have := h.sz; omega)).trans (h.kp q h1 h2), h.far, Nat.le_trans h.sz hb.size⟩
theorem GrW.app {x : Int} {o : Obj} (h : GrW w w3 wr W T A n c b g k L)
    (ho : w2.ownsRow (w.heap.size + 1) 3 1 (.slice (some ⟨g', 0, none⟩) (L.length + 1) k') (L.length + 1) (L.map (Value.int .i64) ++ [.int .i64 x])) (hg : (wr.alloc o).grownBy w2 (Value.slice (some ⟨g, 0, none⟩) L.length k).ownBlock)
    (hn : some g' = (Value.slice (some ⟨g, 0, none⟩) L.length k).ownBlock ∨ g' = wr.heap.size + 1) : GrW w w3 w2 W T A n c b g' k' (L ++ [x]) := by
  have h1 := h.sz
  have h2 := h.far
  refine ⟨h.aw.app ho hg, fun q h3 h4 => ?_, ?_, ?_⟩
  · rw [hg.block q (by simp; omega) (by simp [Value.ownBlock]; omega), Below.heap_alloc _ _ _ (by omega)]
    exact h.kp q h3 h4
  · rcases hn with e | e
    · have : g' = g := by simpa [Value.ownBlock] using e
      rw [this]; exact h2
    · right; omega
  · have := hg.size
    simp at this
    omega
end
theorem AW.one (w : World) (W T : Int) (A : Option Addr) (n c : Nat) (z : Int) : AW w ((w.alloc (boxR W T A n c)).alloc (.cells #[.int .i64 z] 3)) W T A n c (w.heap.size + 1) 1 [z] := by
  refine ⟨((Below.refl _ _).alloc (Nat.le_refl _) _).alloc (by simp) _, (Blk.new _ _ _).alloc _, ?_⟩
  exact own_whole (g := w.heap.size + 1) (n := 1) (xs := [.int .i64 z]) rfl (Nat.le_refl _) (by simp [maxLen]) (by
    have := Blk.new (w.alloc (boxR W T A n c)) 3 #[.int .i64 z]
    simpa [Blk] using this)

end Go.Proofs.Ythepfpiphlfgnaa
