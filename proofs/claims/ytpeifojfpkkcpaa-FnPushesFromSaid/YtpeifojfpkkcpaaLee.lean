/-
  YtpeifojfpkkcpaaLee: the texts Ld, Fa, Le, Lf, Tk, Lg in one file.
-/
import Derived.Test.YtpeifojfpkkcpaaLz
import Derived.Test.YtpeifojfpkkcpaaTt
import Derived.Test.YtpeifojfpkkcpaaFk
import Derived.Test.YtpeifojfpkkcpaaFd3
import Derived.Test.YtpeifojfpkkcpaaPq
import Derived.Test.YtpeifojfpkkcpaaQz

/-
  YtpeifojfpkkcpaaLd: what the property laws on ways up and down, and on the lowest and the highest tiling, say of the values. Plain Lean.
-/
namespace Go.Proofs.Ytpeifojfpkkcpaa

/-- What a choice of heights is to both. -/
structure Ext (f : Int → Int → Int) (r : Int → Int → Prop) : Prop where
  keeps : Keeps f
  l : ∀ x y, r (f x y) x
  rr : ∀ x y, r (f x y) y
  refl : ∀ x, r x x
  trans : ∀ x y z, r x y → r y z → r x z
  anti : ∀ x y, r x y → r y x → x = y
theorem getD_set_self {H : List Int} {k : Nat} {v : Int} (h : k < H.length) : (H.set k v).getD k 0 = v := by
  rw [List.getD_eq_getElem?_getD, List.getElem?_set_self h]; rfl
theorem getD_set_other {H : List Int} {k j : Nat} {v : Int} (h : j ≠ k) : (H.set k v).getD j 0 = H.getD j 0 := by
  rw [List.getD_eq_getElem?_getD, List.getElem?_set_ne (Ne.symm h), ← List.getD_eq_getElem?_getD]
theorem dif_sum_self : ∀ (X : List Int), (List.zipWith dif X X).sum = 0
  | [] => rfl
  | x :: X => by simp only [List.zipWith_cons_cons, List.sum_cons, dif_self, dif_sum_self X]; rfl
theorem tile_of_tiled {R : Reg} (hR : R.ok) {L : List Int} (h : tiledB R.W R.T R.C L = true) : SimpleP R ∧ Tile R L := by
  have h1 := (tiled_ok hR).1 h
  exact ⟨h1.1, h1.2⟩
theorem tiled_tile' {W T : Int} {bs : List Bool} {L : List Int} (h : tiledB W T bs L = true) : ∃ R : Reg, R.ok ∧ W = (R.W : Int) ∧ T = (R.T : Int) ∧ bs = R.C ∧ SimpleP R ∧ Tile R L := by
  obtain ⟨R, hR, rfl, rfl, rfl, hS, h1, h2⟩ := tiled_cases h
  exact ⟨R, hR, rfl, rfl, rfl, hS, h1, h2⟩
/-- FnFlipWay: one step of the way. -/
theorem law_flipWay {W T : Int} {bs : List Bool} {M N : List Int} (h : tiledB W T bs M = true) (g : tiledB W T bs N = true) :
    ∃ S : Nat → List Int, S 0 = M ∧ S (fwV W T bs M N).length = N ∧ apartV W T bs M N = ((fwV W T bs M N).length : Nat) ∧ (∀ j, (S j).length ≤ 36) ∧
      ∀ j, j < (fwV W T bs M N).length → foV W T bs (S j) ((fwV W T bs M N).getD j 0) = S (j + 1) ∧ foB W T bs (S j) ((fwV W T bs M N).getD j 0) = true ∧ 0 ≤ (fwV W T bs M N).getD j 0 ∧ (fwV W T bs M N).getD j 0 ≤ 48 := by
  obtain ⟨R, hR, rfl, rfl, rfl, hS, hM⟩ := tiled_tile' h
  obtain ⟨_, hN⟩ := tile_of_tiled hR g
  obtain ⟨n1, n2, n3⟩ := wyN_spec hR hS hM hN
  rw [fwV_yes h g, wyOut_len]
  refine ⟨wyIt R N M, rfl, n2, ?_, fun j => by rw [(tile_wyIt hR hM j).1.len]; exact (len_bd hR).2, fun j hj => ?_⟩
  · have hd := wy_down hR hS hM hN (wyN R N M) n3
    rw [n2] at hd
    have h0 : dsum R N N = 0 := by
      unfold dsum
      exact dif_sum_self _
    rw [apartV_tile hR hS hM hN]
    omega
  · have hT := tile_wyIt hR hM (N := N) j
    have e : (wyOut R N M (wyN R N M)).getD j 0 = wyHd R N (wyIt R N M j) := by
      unfold wyOut
      rw [List.getD_eq_getElem?_getD, List.getElem?_map, List.getElem?_range hj]; rfl
    rw [e]
    cases hw : wyL R N (wyIt R N M j) with
    | nil => exact absurd hw (wy_some hR hS hT hN (n3 j hj))
    | cons z l =>
      obtain ⟨q, _, hq, hf, _, hs, hh⟩ := wy_head hw
      have hl : laidB R.W R.T R.C (wyIt R N M j) = true := by rw [laidB_ok hR]; exact (laysB_iff hR).2 hT.1
      have hc := (cn_bd hR).2
      rw [hh, (foV_yes hl).1, (foV_yes hl).2]
      exact ⟨hs.symm, hf, by omega, by omega⟩

end Go.Proofs.Ytpeifojfpkkcpaa

/-
  YtpeifojfpkkcpaaFa: FlipsOf of the program; the laws' ascend.
-/
namespace Go.Proofs.Ytpeifojfpkkcpaa
open Go.RowKit

theorem enters_anyCorner : Enters Try.prog 106 := enters_of Try.func106 (by kernel_rfl) rfl
theorem anyCorner_any (k : Nat) (w : World) : Calls Try.prog 106 #[.int .i64 (k : Nat)] w fun e w' => e = .returned (.bool true) ∧ Below w.heap.size w w' := by
  go_enter Try.func106, Try.ntmps106
  go_wp2_with fail
  go_ret
  exact ⟨rfl, Below.refl _ _⟩

theorem flipsOfI_any (W T : Int) (A : Option Addr) (n c B : Nat) (bs : List Bool) (L : List Int) (D : Option Addr) (m d : Nat) (w : World) (hbl : bs.length = n) (hL : L.length = m)
    (hr : Reads w B 1 A n (bs.map Value.bool)) (hd : Reads w B 1 D m (L.map (Value.int .i64))) (hB : B ≤ w.heap.size) (hn : n ≤ 9223372036854775807) (hm : m ≤ 9223372036854775807) :
    Calls Try.prog 35 #[.agg #[.int .i64 W, .int .i64 T, .slice A n c], .slice D m d] w (RetInts w (fsV W T bs L)) := by
  have hLO := hide (laidOkI_any W T A n c B bs L D m d (w.alloc (boxR W T A n c)) hbl hL (hr.alloc hB _) (hd.alloc hB _) (by simp; omega) hn hm)
  cases h : laidB W T bs L with
  | false =>
    rw [h] at hLO
    rw [fsV_no h]
    clear h
    go_enter Try.func35, Try.ntmps35
    go_wp2_with fail
    refine (unhide hLO).mono ?_
    rintro e w1 ⟨rfl, hb1⟩
    go_wp2_with fail
    go_ret
    exact ⟨none, 0, 0, rfl, ⟨rfl, .inl ⟨rfl, rfl⟩⟩, (box_keep hb1).1⟩
  | true =>
    rw [h] at hLO
    obtain ⟨R, hR, rfl, rfl, rfl, hLy⟩ := laid_cases h
    rw [fsV_yes h]
    subst hbl
    obtain rfl : m = R.C.length := by rw [← hL]; exact hLy.len
    have hFL := fun w' (h : Below w.heap.size w w') => hide (flips_any 106 #[] (fun _ => true) R hR A c B L D d w' enters_anyCorner (fun k w'' _ _ _ => anyCorner_any k w'') (hd.below (h.mono hB)) (Nat.le_trans hB h.size))
    clear h
    generalize (flL R L fun _ => true) = V at *
    go_enter Try.func35, Try.ntmps35
    go_wp2_with fail
    refine (unhide hLO).mono ?_
    rintro e w1 ⟨rfl, hb1⟩
    obtain ⟨hB1, hk1, b0, b1, b2⟩ := box_keep hb1
    go_wp2_with fail
    refine (unhide (hFL _ hB1)).mono ?_
    rintro e w2 ⟨A', c', rfl, ho, hb2⟩
    go_wp2_with fail
    go_ret
    exact ⟨A', c', _, rfl, own_mono ho hB1.size, hB1.trans (hb2.mono hB1.size)⟩


end Go.Proofs.Ytpeifojfpkkcpaa

/-
  YtpeifojfpkkcpaaLe: what the property laws on pushes say, of the values. Plain Lean.
-/
namespace Go.Proofs.Ytpeifojfpkkcpaa


end Go.Proofs.Ytpeifojfpkkcpaa

/-
  YtpeifojfpkkcpaaLf: what the property laws on pushes from and into tilings say, of the values. Plain Lean.
-/
namespace Go.Proofs.Ytpeifojfpkkcpaa
open Go.RowKit

theorem LI.addr {w wr : World} {D : Option Addr} {d : Nat} {L : List Int} (h : LI w wr D d L) (hne : L ≠ []) : ∃ g, D = some ⟨g, 0, none⟩ := by
  obtain ⟨gl, e, _⟩ := h.cell (List.length_pos_iff.2 hne)
  exact ⟨gl, e⟩
theorem cornerManyI_any (W T : Int) (A : Option Addr) (n c B : Nat) (bs : List Bool) (w : World) (hl : bs.length = n) (hr : Reads w B 1 A n (bs.map Value.bool)) (hB : B ≤ w.heap.size) (hn : n ≤ 9223372036854775807) :
    Calls Try.prog 34 #[.agg #[.int .i64 W, .int .i64 T, .slice A n c]] w fun e w' => e = .returned (.int .i64 (cornersB W T bs)) ∧ Below w.heap.size w w' := by
  cases hv : validB W T bs with
  | false =>
    have := cornerManyI_no W T A n c B bs w hr hB hn hv
    unfold cornersB
    rw [hv]
    exact this
  | true =>
    obtain ⟨R, hR, rfl, rfl, rfl⟩ := reg_of_valid hv
    rw [cornersB_ok hR]
    subst hl
    exact cornerManyI_ok R hR A c B w hr hB

theorem flV_ne {R : Reg} (hR : R.ok) (hS : SimpleP R) {a : List Int} (ha : Tile R a) {k : Nat} (hk : k < R.cn) (h : flB R a (k : Int) = true) : flV R a (k : Int) ≠ a := by
  intro e
  have h1 := hts_step hR hS ha h
  rw [e] at h1
  have h2 : (htsOf R.W R.T R.C a).getD k 0 = (htsOf R.W R.T R.C a).getD k 0 + rsV R a k := by
    have := congrArg (fun X => X.getD k 0) h1
    rw [getD_set_self (by rw [hts_len hR hS ha]; exact hk)] at this
    exact this
  rcases rsV_or h with e | e <;> omega
theorem flV_at_one {R : Reg} (hR : R.ok) (hS : SimpleP R) {a : List Int} (ha : Tile R a) {k j : Nat} (hk : k < R.cn) (h : flB R a (k : Int) = true) (g : flB R a (j : Int) = true) (he : flV R a (k : Int) = flV R a (j : Int)) : k = j := by
  by_cases hkj : k = j
  · exact hkj
  · have h1 := hts_step hR hS ha h
    have h2 := hts_step hR hS ha g
    rw [he, h2] at h1
    have := congrArg (fun X => X.getD k 0) h1
    rw [getD_set_self (by rw [hts_len hR hS ha]; exact hk), getD_set_other hkj] at this
    rcases rsV_or h with e | e <;> omega
theorem puV_flip {R : Reg} {a : List Int} {k : Nat} (h : flB R a (k : Int) = true) : (puV R a ((k : Int), true) = flV R a (k : Int) ∧ puV R a ((k : Int), false) = a) ∨ (puV R a ((k : Int), true) = a ∧ puV R a ((k : Int), false) = flV R a (k : Int)) := by
  rcases rsV_or h with e | e
  · refine .inl ⟨puV_yes (by rw [puB_up h, e]; rfl), puV_no (by rw [puB_up h, e]; rfl)⟩
  · refine .inr ⟨puV_no (by rw [puB_up h, e]; rfl), puV_yes (by rw [puB_up h, e]; rfl)⟩
theorem puV_stay {R : Reg} {a : List Int} {k : Nat} (h : flB R a (k : Int) = false) (up : Bool) : puV R a ((k : Int), up) = a := puV_no (puB_fl h up)
theorem pfAt_self {R : Reg} (hR : R.ok) (hS : SimpleP R) {a : List Int} (ha : Tile R a) {k : Nat} (hk : k < R.cn) : pfAt R a a k = if flB R a (k : Int) = true then 1 else 2 := by
  unfold pfAt
  cases hf : flB R a (k : Int) with
  | false => rw [puV_stay hf, puV_stay hf]; simp
  | true =>
    have hne := flV_ne hR hS ha hk hf
    rcases puV_flip hf with ⟨e1, e2⟩ | ⟨e1, e2⟩ <;> rw [e1, e2] <;> simp [hne]
theorem pfAt_ne {R : Reg} {a b : List Int} (hab : a ≠ b) (k : Nat) : pfAt R a b k = if flB R a (k : Int) = true ∧ flV R a (k : Int) = b then 1 else 0 := by
  unfold pfAt
  cases hf : flB R a (k : Int) with
  | false => rw [puV_stay hf, puV_stay hf]; simp [hab]
  | true => rcases puV_flip hf with ⟨e1, e2⟩ | ⟨e1, e2⟩ <;> rw [e1, e2] <;> simp [hab]
theorem pfTo_self {R : Reg} (hR : R.ok) (hS : SimpleP R) {a : List Int} (ha : Tile R a) : ∀ k, k ≤ R.cn → pfTo R a a k + (flTo R a (fun _ => true) k).length = 2 * k
  | 0, _ => by simp [pfTo, flTo]
  | k + 1, hk => by
    have ih := pfTo_self hR hS ha k (by omega)
    rw [pfTo_succ, pfAt_self hR hS ha (by omega)]
    cases hf : flB R a (k : Int) with
    | false => rw [flTo_no (by rw [hf]; rfl)]; simp; omega
    | true => rw [flTo_yes hf rfl]; simp; omega
/-- Two tilings that differ by a flip. -/
def Nbr (R : Reg) (a b : List Int) : Prop := ∃ k, k < R.cn ∧ flB R a (k : Int) = true ∧ flV R a (k : Int) = b
theorem Nbr.symm {R : Reg} (hR : R.ok) {a b : List Int} (ha : Tile R a) (h : Nbr R a b) : Nbr R b a := by
  obtain ⟨k, hk, hf, rfl⟩ := h
  obtain ⟨h1, h2, _, _⟩ := flV_back hR ha.1 hf
  exact ⟨k, hk, h1, h2⟩
open Classical in
theorem pfTo_ne {R : Reg} (hR : R.ok) (hS : SimpleP R) {a b : List Int} (ha : Tile R a) (hab : a ≠ b) : ∀ n, n ≤ R.cn → pfTo R a b n = if ∃ k, k < n ∧ flB R a (k : Int) = true ∧ flV R a (k : Int) = b then 1 else 0
  | 0, _ => by simp [pfTo]
  | n + 1, hn => by
    have ih := pfTo_ne hR hS ha hab n (by omega)
    rw [pfTo_succ, pfAt_ne hab, ih]
    by_cases h1 : flB R a (n : Int) = true ∧ flV R a (n : Int) = b
    · rw [if_pos h1, if_neg, if_pos ⟨n, by omega, h1⟩]
      rintro ⟨k, hk, hf, hv⟩
      have := flV_at_one hR hS ha (by omega) hf h1.1 (by rw [hv, h1.2])
      omega
    · rw [if_neg h1]
      by_cases h2 : ∃ k, k < n ∧ flB R a (k : Int) = true ∧ flV R a (k : Int) = b
      · obtain ⟨k, hk, hf⟩ := h2
        rw [if_pos ⟨k, hk, hf⟩, if_pos ⟨k, by omega, hf⟩]
      · rw [if_neg h2, if_neg]
        rintro ⟨k, hk, hf⟩
        by_cases hkn : k = n
        · exact h1 (by rw [← hkn]; exact hf)
        · exact h2 ⟨k, by omega, hf⟩
open Classical in
theorem pfTo_nbr {R : Reg} (hR : R.ok) (hS : SimpleP R) {a b : List Int} (ha : Tile R a) (hab : a ≠ b) : pfTo R a b R.cn = if Nbr R a b then 1 else 0 := by
  rw [pfTo_ne hR hS ha hab _ (Nat.le_refl _)]
  by_cases hn : Nbr R a b
  · rw [if_pos hn]; exact if_pos hn
  · rw [if_neg hn]; exact if_neg hn
theorem nbr_apart {R : Reg} (hR : R.ok) (hS : SimpleP R) {a b : List Int} (ha : Tile R a) (hb : Tile R b) : Nbr R a b ↔ apartV R.W R.T R.C a b = 1 := by
  constructor
  · rintro ⟨k, hk, hf, rfl⟩
    obtain ⟨_, _, _, _, _, _, _, _, h⟩ := law_rise hR hS ha (k := (k : Int)) (by rw [rsZ_nat]; rcases rsV_or hf with e | e <;> omega)
    exact h
  · intro h
    obtain ⟨S, s0, s1, s2, _, s3⟩ := law_flipWay (tiled_tile hR hS ha) (tiled_tile hR hS hb)
    rw [h] at s2
    have hl : (fwV R.W R.T R.C a b).length = 1 := by omega
    rw [hl] at s1 s3
    obtain ⟨t1, t2, t3, t4⟩ := s3 0 (by omega)
    rw [s0] at t1 t2
    rw [show 0 + 1 = 1 from rfl, s1] at t1
    have hlb : laidB R.W R.T R.C a = true := by rw [laidB_ok hR]; exact (laysB_iff hR).2 ha.1
    rw [(foV_yes hlb).1] at t1
    rw [(foV_yes hlb).2] at t2
    obtain ⟨m, hm, hlt, _⟩ := flB_nat t2
    rw [hm] at t1 t2
    exact ⟨m, hlt, t2, t1⟩
theorem cornersB_cn {R : Reg} (hR : R.ok) : cornersB R.W R.T R.C = (R.cn : Int) := by
  unfold cornersB
  rw [valid_of_ok hR]
  unfold Reg.cn
  simp
/-- FnPushesFrom. -/
theorem law_pushesFrom {W T : Int} {bs : List Bool} {a b : List Int} (h : tiledB W T bs a = true) (g : tiledB W T bs b = true) :
    0 ≤ pfV W T bs a b ∧ pfV W T bs a b ≤ 98 ∧ pfV W T bs b a = pfV W T bs a b ∧ (a ≠ b → (pfV W T bs a b = 0 ∨ pfV W T bs a b = 1) ∧ (pfV W T bs a b = 1 ↔ apartV W T bs a b = 1)) ∧ (a = b → pfV W T bs a b = 2 * cornersB W T bs - ((fsV W T bs a).length : Nat)) := by
  obtain ⟨R, hR, rfl, rfl, rfl, hS, ha⟩ := tiled_tile' h
  obtain ⟨_, hb⟩ := tile_of_tiled hR g
  have hc := (cn_bd hR).2
  rw [pfV_yes h g, pfV_yes g h]
  have hle := pfTo_le R a b R.cn
  refine ⟨by omega, by omega, ?_, fun hab => ?_, fun hab => ?_⟩
  · by_cases hab : a = b
    · rw [hab]
    · rw [pfTo_nbr hR hS ha hab, pfTo_nbr hR hS hb (Ne.symm hab)]
      by_cases hn : Nbr R a b
      · rw [if_pos hn, if_pos (hn.symm hR ha)]
      · rw [if_neg hn, if_neg (fun h => hn (Nbr.symm hR hb h))]
  · rw [pfTo_nbr hR hS ha hab, ← nbr_apart hR hS ha hb]
    by_cases hn : Nbr R a b
    · rw [if_pos hn]; exact ⟨.inr rfl, fun _ => hn, fun _ => rfl⟩
    · rw [if_neg hn]; exact ⟨.inl rfl, fun h => by simp at h, fun h => absurd h hn⟩
  · subst hab
    have hl : laidB R.W R.T R.C a = true := by rw [laidB_ok hR]; exact (laysB_iff hR).2 ha.1
    have := pfTo_self hR hS ha R.cn (Nat.le_refl _)
    rw [cornersB_cn hR, fsV_yes hl]
    unfold flL
    omega
theorem sum_zero {g : List Int → Nat} : ∀ {l : List (List Int)}, (∀ M ∈ l, g M = 0) → (l.map g).sum = 0
  | [], _ => rfl
  | M :: l, h => by
    have ih := sum_zero (g := g) (l := l) fun N hN => h N (by simp [hN])
    simp only [List.map_cons, List.sum_cons, ih, h M (by simp)]
theorem sum_one {g : List Int → Nat} {x : List Int} : ∀ {l : List (List Int)}, l.Nodup → x ∈ l → (∀ M ∈ l, M ≠ x → g M = 0) → (l.map g).sum = g x
  | M :: l, hd, hx, h => by
    rw [List.nodup_cons] at hd
    simp only [List.map_cons, List.sum_cons]
    by_cases hM : M = x
    · subst hM
      rw [sum_zero (l := l) fun N hN => h N (by simp [hN]) (fun e => hd.1 (by rw [← e]; exact hN))]
      rfl
    · have hx2 : x ∈ l := by
        rcases List.mem_cons.1 hx with e | e
        · exact absurd e.symm hM
        · exact e
      rw [h M (by simp) hM, sum_one hd.2 hx2 fun N hN => h N (by simp [hN])]
      omega
theorem sum_two {g : List Int → Nat} {x y : List Int} (hxy : x ≠ y) : ∀ {l : List (List Int)}, l.Nodup → x ∈ l → y ∈ l → (∀ M ∈ l, M ≠ x → M ≠ y → g M = 0) → (l.map g).sum = g x + g y
  | M :: l, hd, hx, hy, h => by
    rw [List.nodup_cons] at hd
    simp only [List.map_cons, List.sum_cons]
    by_cases hM : M = x
    · subst hM
      have hy2 : y ∈ l := by
        rcases List.mem_cons.1 hy with e | e
        · exact absurd e.symm hxy
        · exact e
      rw [sum_one hd.2 hy2 fun N hN hne => h N (by simp [hN]) (fun e => hd.1 (by rw [← e]; exact hN)) hne]
    · by_cases hM2 : M = y
      · subst hM2
        have hx2 : x ∈ l := by
          rcases List.mem_cons.1 hx with e | e
          · exact absurd e hxy
          · exact e
        rw [sum_one hd.2 hx2 fun N hN hne => h N (by simp [hN]) hne (fun e => hd.1 (by rw [← e]; exact hN))]
        omega
      · have hx2 : x ∈ l := by
          rcases List.mem_cons.1 hx with e | e
          · exact absurd e.symm hM
          · exact e
        have hy2 : y ∈ l := by
          rcases List.mem_cons.1 hy with e | e
          · exact absurd e.symm hM2
          · exact e
        rw [h M (by simp) hM hM2, sum_two hxy hd.2 hx2 hy2 fun N hN => h N (by simp [hN])]
        omega
theorem pf_col {R : Reg} (hR : R.ok) (hS : SimpleP R) {b : List Int} (hb : Tile R b) {k : Nat} (hk : k < R.cn) : ((tilT R).map fun M => pfAt R M b k).sum = 2 := by
  have hnd := tilT_nodup hR
  have hmem := (tilT_iff hR).2 hb
  cases hf : flB R b (k : Int) with
  | false =>
    rw [sum_one (g := fun M => pfAt R M b k) hnd hmem ?_, pfAt_self hR hS hb hk, hf]
    · rfl
    · intro M hM hne
      have hT := (tilT_iff hR).1 hM
      rw [pfAt_ne hne, if_neg]
      rintro ⟨h1, h2⟩
      obtain ⟨h3, _⟩ := flV_back hR hT.1 h1
      rw [h2, hf] at h3
      cases h3
  | true =>
    have hT2 := tile_flV hR hb (k : Int)
    obtain ⟨h3, h4, _⟩ := flV_back hR hb.1 hf
    have hne := flV_ne hR hS hb hk hf
    rw [sum_two (g := fun M => pfAt R M b k) (Ne.symm hne) hnd hmem ((tilT_iff hR).2 hT2) ?_, pfAt_self hR hS hb hk, hf, if_pos rfl, pfAt_ne hne, if_pos ⟨h3, h4⟩]
    · intro M hM h1 h2
      have hT := (tilT_iff hR).1 hM
      rw [pfAt_ne h1, if_neg]
      rintro ⟨g1, g2⟩
      obtain ⟨_, h5, _⟩ := flV_back hR hT.1 g1
      rw [g2] at h5
      exact h2 h5.symm
theorem sum_add {f g : List Int → Nat} : ∀ (l : List (List Int)), (l.map fun M => f M + g M).sum = (l.map f).sum + (l.map g).sum
  | [] => rfl
  | M :: l => by
    have := sum_add (f := f) (g := g) l
    simp only [List.map_cons, List.sum_cons] at this ⊢
    omega
theorem pi_to {R : Reg} (hR : R.ok) (hS : SimpleP R) {b : List Int} (hb : Tile R b) : ∀ k, k ≤ R.cn → ((tilT R).map fun M => pfTo R M b k).sum = 2 * k
  | 0, _ => sum_zero fun M _ => by simp [pfTo]
  | k + 1, hk => by
    have ih := pi_to hR hS hb k (by omega)
    have e : (fun M => pfTo R M b (k + 1)) = fun M => pfTo R M b k + pfAt R M b k := by funext M; exact pfTo_succ R M b k
    rw [e, sum_add, ih, pf_col hR hS hb (by omega)]
    omega

end Go.Proofs.Ytpeifojfpkkcpaa

/-
  YtpeifojfpkkcpaaTk: PushesInto of the program and of the reference.
-/
namespace Go.Proofs.Ytpeifojfpkkcpaa
open Go.RowKit

/-- How many pushes lead from the first tilings to one. -/
noncomputable def piTo (R : Reg) (b : List Int) (n : Nat) : Nat := (((tilT R).take n).map fun M => pfTo R M b R.cn).sum
theorem piTo_succ {R : Reg} {b : List Int} {n : Nat} {M : List Int} (h : (tilT R)[n]? = some M) : piTo R b (n + 1) = piTo R b n + pfTo R M b R.cn := by
  unfold piTo
  rw [List.take_add_one, h, List.map_append, List.sum_append]
  simp
theorem piTo_le {R : Reg} (hR : R.ok) (b : List Int) : ∀ n : Nat, piTo R b n ≤ 98 * n
  | 0 => by simp [piTo]
  | n + 1 => by
    have ih := piTo_le hR b n
    cases h : (tilT R)[n]? with
    | none =>
      have : piTo R b (n + 1) = piTo R b n := by unfold piTo; rw [List.take_add_one, h]; simp
      omega
    | some M =>
      rw [piTo_succ h]
      have := pfTo_le R M b R.cn
      have := (cn_bd hR).2
      omega
noncomputable def piV (W T : Int) (bs : List Bool) (b : List Int) : Int := if tiledB W T bs b = true ∧ cnt bs ≤ 16 then (piTo ⟨W.toNat, T.toNat, bs⟩ b (tilT ⟨W.toNat, T.toNat, bs⟩).length : Int) else -1
theorem piV_yes {R : Reg} {b : List Int} (h : tiledB R.W R.T R.C b = true) (g : cnt R.C ≤ 16) : piV R.W R.T R.C b = (piTo R b (tilT R).length : Int) := by unfold piV; rw [if_pos ⟨h, g⟩]; rfl
theorem piV_no {W T : Int} {bs : List Bool} {b : List Int} (h : ¬ (tiledB W T bs b = true ∧ cnt bs ≤ 16)) : piV W T bs b = -1 := by unfold piV; exact if_neg h

theorem small_any (W T : Int) (A : Option Addr) (n c B : Nat) (bs : List Bool) (w : World) (hr : Reads w B 1 A n (bs.map Value.bool)) (hB : B ≤ w.heap.size) (hn : n ≤ 9223372036854775807) :
    Calls Try.prog 107 #[.agg #[.int .i64 W, .int .i64 T, .slice A n c]] w fun e w' => e = .returned (.bool (validB W T bs && decide (cnt bs ≤ 16))) ∧ Below w.heap.size w w' := by
  have hb0 : Below w.heap.size w (w.alloc (boxR W T A n c)) := (Below.refl _ _).alloc (Nat.le_refl _) _
  have k0 : Blk (w.alloc (boxR W T A n c)) w.heap.size 25 #[.int .i64 W, .int .i64 T, .slice A n c] := Blk.new _ _ _
  have HV := hide (valid_any W T A n c B bs _ (hr.below (hb0.mono hB)) (Nat.le_trans hB hb0.size) hn)
  have HM := fun w' (h : Below w.heap.size w w') => hide (many_any A n c B bs w' (hr.below (h.mono hB)) hn)
  generalize cnt bs = cb at *
  clear hr
  cases hv : validB W T bs with
  | false =>
    rw [hv] at HV
    go_enter Try.func107, Try.ntmps107
    go_wp2_with fail
    refine (unhide HV).mono ?_
    rintro e w1 ⟨rfl, hb1⟩
    go_wp2_with fail
    go_ret
    exact ⟨rfl, hb0.trans (hb1.mono hb0.size)⟩
  | true =>
    rw [hv] at HV
    go_enter Try.func107, Try.ntmps107
    go_wp2_with fail
    refine (unhide HV).mono ?_
    rintro e w1 ⟨rfl, hb1⟩
    have hB1 := hb0.trans (hb1.mono hb0.size)
    obtain ⟨b0, b1, b2⟩ := blk3 (k0.below hb1 k0.lt)
    have hM1 := HM _ hB1
    clear hb1 hb0 k0 HM HV
    go_wp2_with fail
    refine (unhide hM1).mono ?_
    rintro e w2 ⟨rfl, rfl⟩
    go_wp2_with fail
    go_ret
    exact ⟨ret_bool (by have h16 : ((cb : Int) ≤ 16) ↔ cb ≤ 16 := (by omega); simp [h16]), hB1⟩

set_option maxHeartbeats 2000000 in
set_option maxRecDepth 20000 in
theorem pushesIntoI_ok (R : Reg) (hR : R.ok) (hS : SimpleP R) (hcnt : cnt R.C ≤ 16) (A : Option Addr) (c B : Nat) (b : List Int) (gb db : Nat) (hb : Tile R b) (w : World) (hr : Reads w B 1 A R.C.length (R.C.map Value.bool)) (h2 : Reads w B 1 (some ⟨gb, 0, none⟩) R.C.length (b.map (Value.int .i64))) (hB : B ≤ w.heap.size) :
    Calls Try.prog 37 #[.agg #[.int .i64 R.W, .int .i64 R.T, .slice A R.C.length c], .slice (some ⟨gb, 0, none⟩) R.C.length db] w fun e w' => e = .returned (.int .i64 (piTo R b (tilT R).length : Nat)) ∧ Below w.heap.size w w' := by
  have hl36 := (len_bd hR).2
  have hl1 := (len_bd hR).1
  have hSM := fun w' (h : Below w.heap.size w w') => hide (small_any R.W R.T A R.C.length c B R.C w' (hr.below (h.mono hB)) (Nat.le_trans hB h.size) (by omega))
  have hsm : (validB R.W R.T R.C && decide (cnt R.C ≤ 16)) = true := by rw [valid_of_ok hR, decide_eq_true hcnt]; rfl
  simp only [hsm] at hSM
  have hT2 := fun w' (h : Below w.heap.size w w') => hide (tiled_any R.W R.T A R.C.length c B R.C b (some ⟨gb, 0, none⟩) R.C.length db w' rfl hb.1.len (hr.below (h.mono hB)) (h2.below (h.mono hB)) (Nat.le_trans hB h.size) (by omega) (by omega))
  have htb := (tiled_ok hR).2 ⟨hS, hb.1, hb.2⟩
  simp only [htb] at hT2
  have hTI := fun w' (h : Below w.heap.size w w') => hide (tilings_any R hR A c B w' (hr.below (h.mono hB)) (Nat.le_trans hB h.size))
  have hPF : ∀ (M : List Int) (g d : Nat) w', Tile R M → Below w.heap.size w w' → Reads w' w'.heap.size 1 (some ⟨g, 0, none⟩) R.C.length (M.map (Value.int .i64)) → Hid (Calls Try.prog 99 #[.agg #[.int .i64 R.W, .int .i64 R.T, .slice A R.C.length c], .slice (some ⟨g, 0, none⟩) R.C.length d, .slice (some ⟨gb, 0, none⟩) R.C.length db] w' fun e w'' => e = .returned (.int .i64 (pfTo R M b R.cn : Nat)) ∧ Below w'.heap.size w' w'') := fun M g d w' hM h ha =>
    hide (pushesFrom_any R hR hS A c w'.heap.size M b g d gb db hM hb w' ((hr.below (h.mono hB)).more (Nat.le_trans hB h.size)) ha ((h2.below (h.mono hB)).more (Nat.le_trans hB h.size)) (Nat.le_refl _))
  have hTl : ∀ (k : Nat) (M : List Int), (tilT R)[k]? = some M → Tile R M := fun k M h => (tilT_iff hR).1 (List.mem_of_getElem? h)
  have HTL := Lib.hid hTl
  have hsu := fun n M h => piTo_succ (R := R) (b := b) (n := n) (M := M) h
  have HSU := Lib.hid hsu
  have hbd := fun n => piTo_le hR b n
  have HBD := Lib.hid hbd
  have hnl := tilT_len R
  have HNL := Lib.hid hnl
  have hb0 : Below w.heap.size w (w.alloc (boxR R.W R.T A R.C.length c)) := (Below.refl _ _).alloc (Nat.le_refl _) _
  have k0 : Blk (w.alloc (boxR R.W R.T A R.C.length c)) w.heap.size 25 #[.int .i64 R.W, .int .i64 R.T, .slice A R.C.length c] := Blk.new _ _ _
  clear hTl hsu hbd hnl hr h2 hsm htb hcnt
  generalize tilT R = TT at *
  go_enter Try.func37, Try.ntmps37
  go_wp2_with fail
  refine (unhide (hSM _ hb0)).mono ?_
  rintro e w1 ⟨rfl, hb1⟩
  have hB1 := hb0.trans (hb1.mono hb0.size)
  have k1 := k0.below hb1 k0.lt
  obtain ⟨b0, b1, b2⟩ := blk3 k1
  clear k0 hb0 hb1 hSM
  go_wp2_with fail
  refine (unhide (hT2 _ hB1)).mono ?_
  rintro e w2 ⟨rfl, hb2⟩
  have hB2 := hB1.trans (hb2.mono hB1.size)
  have k2 := k1.below hb2 k1.lt
  clear b0 b1 b2 k1 hb2 hB1 hT2
  obtain ⟨b0, b1, b2⟩ := blk3 k2
  go_wp2_with fail
  refine (unhide (hTI _ hB2)).mono ?_
  rintro e w3 ⟨A3, c3, c3', xs, rfl, hR3, hb3⟩
  have hB3 := hB2.trans (hb3.mono hB2.size)
  have k3 := k2.below hb3 k2.lt
  have hR3' := hR3.mono (b' := 0) (by omega)
  clear b0 b1 b2 k2 hb3 hB2 hTI hR3
  go_wp2_with fail
  go_loopg [5, 20] TT.length (fun r s5 s20 wr => ∃ k : Nat, k + r = TT.length ∧ s20 = .int .i64 (k : Nat) ∧ s5 = .int .i64 (piTo R b k : Nat) ∧ Below w.heap.size w wr ∧ Blk wr w.heap.size 25 #[.int .i64 R.W, .int .i64 R.T, .slice A R.C.length c] ∧ RowsOf wr 0 R.C.length (.slice A3 TT.length c3) xs TT)
  case atStart => exact ⟨0, by omega, rfl, by simp [piTo], hB3, k3, hR3'⟩
  case round =>
    clear hR3' k3 hB3
    obtain ⟨k, hk, rfl, rfl, hBw, hbk, hrow⟩ := hrel
    have HK := Lib.hid hk
    clear hk
    have hbdk := HBD.out k
    by_cases hlt : k < TT.length
    · obtain ⟨x, M, hx, hM, hin⟩ := hrow.at_ hlt
      obtain ⟨gx, cx, rfl, hrx⟩ := hin.reads
      have hTM := HTL.out k M hM
      have hown := hrow.own
      rw [hrow.len] at hown
      obtain ⟨g3, cg3, hsh3, _, _, _⟩ := own_shape hown (by omega)
      simp only [Value.slice.injEq, true_and] at hsh3
      obtain ⟨rfl, rfl⟩ := hsh3
      have hxc : wr.cell? ⟨g3, k, none⟩ = some (.slice (some ⟨gx, 0, none⟩) R.C.length cx) := by rw [hown.cellAt k (by omega)]; exact hx
      have hHk := hPF M gx cx wr hTM hBw hrx
      have hs1 := HSU.out k M hM
      have hbdk1 := HBD.out (k + 1)
      rw [hs1] at hbdk1
      have HS1 := Lib.hid hs1
      have hnl := HNL.out
      generalize pfTo R M b R.cn = p at *
      generalize piTo R b k = sN at *
      obtain ⟨b0, b1, b2⟩ := blk3 hbk
      have hw := IntWalk.wrap64_in ((sN : Int) + (p : Int)) (by omega)
      clear hs1 hM hx hown hin hrx hTM hbdk hbdk1
      generalize hsI : (sN : Int) = sI at *
      generalize hpI : (p : Int) = pI at *
      have HSI := Lib.hid hsI
      have HPI := Lib.hid hpI
      clear hsI hpI
      go_wp2_with fail
      refine (unhide hHk).mono ?_
      rintro e w4 ⟨rfl, hb4⟩
      have hrow4 := hrow.below hb4
      have k4 := hbk.below hb4 hbk.lt
      have hB4 := hBw.trans (hb4.mono hBw.size)
      clear b0 b1 b2 hxc hBw hbk hrow hb4 hHk
      go_wp2_with fail
      go_roundg (TT.length - (k + 1))
      case measure => have := HK.out; omega
      case rel => exact ⟨k + 1, by have := HK.out; omega, by go_num, congrArg (Value.int .i64) (by have e1 := HSI.out; have e2 := HPI.out; rw [HS1.out]; omega), hB4, k4, hrow4⟩
    · obtain rfl : k = TT.length := by have := HK.out; omega
      go_wp2_with fail
      go_ret
      exact ⟨rfl, hBw⟩

theorem cellsManyS_ok (R : Reg) (hR : R.ok) (A : Option Addr) (c B : Nat) (w : World) (hr : Reads w B 1 A R.C.length (R.C.map Value.bool)) (hB : B ≤ w.heap.size) :
    Calls Try.prog 109 #[.agg #[.int .i64 R.W, .int .i64 R.T, .slice A R.C.length c]] w fun e w' => e = .returned (.int .i64 (cnt R.C)) ∧ Below w.heap.size w w' := by
  have hl36 := (len_bd hR).2
  have hb0 : Below w.heap.size w (w.alloc (boxR R.W R.T A R.C.length c)) := (Below.refl _ _).alloc (Nat.le_refl _) _
  have k0 : Blk (w.alloc (boxR R.W R.T A R.C.length c)) w.heap.size 25 #[.int .i64 R.W, .int .i64 R.T, .slice A R.C.length c] := Blk.new _ _ _
  have HV := hide (validS_any R.W R.T A R.C.length c B R.C _ (hr.below (hb0.mono hB)) (Nat.le_trans hB hb0.size) (by omega))
  rw [valid_of_ok hR] at HV
  have HM := fun w' (h : Below w.heap.size w w') => hide (countS_any A R.C.length c B R.C w' (hr.below (h.mono hB)) (by omega))
  generalize cnt R.C = cb at *
  clear hr
  go_enter Try.func109, Try.ntmps109
  go_wp2_with fail
  refine (unhide HV).mono ?_
  rintro e w1 ⟨rfl, hb1⟩
  have hB1 := hb0.trans (hb1.mono hb0.size)
  obtain ⟨b0, b1, b2⟩ := blk3 (k0.below hb1 k0.lt)
  have hM1 := HM _ hB1
  clear hb1 hb0 k0 HM HV
  go_wp2_with fail
  refine (unhide hM1).mono ?_
  rintro e w2 ⟨rfl, rfl⟩
  go_wp2_with fail
  go_ret
  exact ⟨rfl, hB1⟩

set_option maxHeartbeats 2000000 in
set_option maxRecDepth 20000 in
theorem pushesIntoS_ok (R : Reg) (hR : R.ok) (hS : SimpleP R) (hcnt : cnt R.C ≤ 16) (A : Option Addr) (c B : Nat) (b : List Int) (D2 : Option Addr) (db : Nat) (hb : Tile R b) (w : World) (hr : Reads w B 1 A R.C.length (R.C.map Value.bool)) (h2 : Reads w B 1 D2 R.C.length (b.map (Value.int .i64))) (hB : B ≤ w.heap.size) :
    Calls Try.prog 38 #[.agg #[.int .i64 R.W, .int .i64 R.T, .slice A R.C.length c], .slice D2 R.C.length db] w fun e w' => e = .returned (.int .i64 (piTo R b (tilT R).length : Nat)) ∧ Below w.heap.size w w' := by
  have hl36 := (len_bd hR).2
  have hl1 := (len_bd hR).1
  have hSM := fun w' (h : Below w.heap.size w w') => hide (SimpleS_any R.W R.T A R.C.length c B R.C w' (hr.below (h.mono hB)) (Nat.le_trans hB h.size) (by omega))
  have hsm := simple_of_tiled ((tiled_ok hR).2 ⟨hS, hb.1, hb.2⟩)
  simp only [hsm] at hSM
  have hCM := fun w' (h : Below w.heap.size w w') => hide (cellsManyS_ok R hR A c B w' (hr.below (h.mono hB)) (Nat.le_trans hB h.size))
  have hgt : decide ((16 : Int) < cnt R.C) = false := decide_eq_false (by omega)
  have hT2 := fun w' (h : Below w.heap.size w w') => hide (tilingOkS_any R.W R.T A R.C.length c B R.C b D2 R.C.length db w' rfl hb.1.len (hr.below (h.mono hB)) (h2.below (h.mono hB)) (Nat.le_trans hB h.size) (by omega) (by omega))
  have htb : tilingB R.W R.T R.C b = true := by rw [tilingB_ok hR, (laysB_iff hR).2 hb.1, (fullB_iff hR).2 hb.2]; rfl
  simp only [htb] at hT2
  have hTI := fun w' (h : Below w.heap.size w w') => hide (tilingsAllS_ok R hR A c B w' (hr.below (h.mono hB)) (Nat.le_trans hB h.size))
  have hPF : ∀ (M : List Int) (g d : Nat) w', Tile R M → Below w.heap.size w w' → Reads w' w'.heap.size 1 (some ⟨g, 0, none⟩) R.C.length (M.map (Value.int .i64)) → Hid (Calls Try.prog 32 #[.agg #[.int .i64 R.W, .int .i64 R.T, .slice A R.C.length c], .slice (some ⟨g, 0, none⟩) R.C.length d, .slice D2 R.C.length db] w' fun e w'' => e = .returned (.int .i64 (pfTo R M b R.cn : Nat)) ∧ Below w'.heap.size w' w'') := fun M g d w' hM h ha =>
    hide (pushesFromS_ok R hR hS A c w'.heap.size M b (some ⟨g, 0, none⟩) d D2 db hM hb w' ((hr.below (h.mono hB)).more (Nat.le_trans hB h.size)) ha ((h2.below (h.mono hB)).more (Nat.le_trans hB h.size)) (Nat.le_refl _))
  have hTl : ∀ (k : Nat) (M : List Int), (tilT R)[k]? = some M → Tile R M := fun k M h => (tilT_iff hR).1 (List.mem_of_getElem? h)
  have HTL := Lib.hid hTl
  have hsu := fun n M h => piTo_succ (R := R) (b := b) (n := n) (M := M) h
  have HSU := Lib.hid hsu
  have hbd := fun n => piTo_le hR b n
  have HBD := Lib.hid hbd
  have hnl := tilT_len R
  have HNL := Lib.hid hnl
  have hb0 : Below w.heap.size w (w.alloc (boxR R.W R.T A R.C.length c)) := (Below.refl _ _).alloc (Nat.le_refl _) _
  have k0 : Blk (w.alloc (boxR R.W R.T A R.C.length c)) w.heap.size 25 #[.int .i64 R.W, .int .i64 R.T, .slice A R.C.length c] := Blk.new _ _ _
  clear hTl hsu hbd hnl hr h2 hsm htb
  generalize tilT R = TT at *
  go_enter Try.func38, Try.ntmps38
  go_wp2_with fail
  refine (unhide (hSM _ hb0)).mono ?_
  rintro e w1 ⟨rfl, hb1⟩
  have hB1 := hb0.trans (hb1.mono hb0.size)
  have k1 := k0.below hb1 k0.lt
  obtain ⟨b0, b1, b2⟩ := blk3 k1
  clear k0 hb0 hb1 hSM
  go_wp2_with fail
  refine (unhide (hT2 _ hB1)).mono ?_
  rintro e w2 ⟨rfl, hb2⟩
  have hB2 := hB1.trans (hb2.mono hB1.size)
  have k2 := k1.below hb2 k1.lt
  clear b0 b1 b2 k1 hb2 hB1 hT2
  obtain ⟨b0, b1, b2⟩ := blk3 k2
  go_wp2_with fail
  refine (unhide (hCM _ hB2)).mono ?_
  rintro e w22 ⟨rfl, hb22⟩
  have hB22 := hB2.trans (hb22.mono hB2.size)
  have k22 := k2.below hb22 k2.lt
  clear b0 b1 b2 k2 hb22 hB2 hCM
  obtain ⟨b0, b1, b2⟩ := blk3 k22
  go_wp2_with fail
  refine (unhide (hTI _ hB22)).mono ?_
  rintro e w3 ⟨A3, c3, xs, rfl, hR3, hb3, _⟩
  have hB3 := hB22.trans (hb3.mono hB22.size)
  have k3 := k22.below hb3 k22.lt
  have hR3' := hR3.mono (b' := 0) (by omega)
  clear b0 b1 b2 k22 hb3 hB22 hTI hR3
  go_wp2_with fail
  go_loopg [5, 7] TT.length (fun r s5 s7 wr => ∃ k : Nat, k + r = TT.length ∧ s7 = .int .i64 (k : Nat) ∧ s5 = .int .i64 (piTo R b k : Nat) ∧ Below w.heap.size w wr ∧ Blk wr w.heap.size 25 #[.int .i64 R.W, .int .i64 R.T, .slice A R.C.length c] ∧ RowsOf wr 0 R.C.length (.slice A3 TT.length c3) xs TT)
  case atStart => exact ⟨0, by omega, rfl, by simp [piTo], hB3, k3, hR3'⟩
  case round =>
    clear hR3' k3 hB3
    obtain ⟨k, hk, rfl, rfl, hBw, hbk, hrow⟩ := hrel
    have HK := Lib.hid hk
    clear hk
    have hbdk := HBD.out k
    by_cases hlt : k < TT.length
    · obtain ⟨x, M, hx, hM, hin⟩ := hrow.at_ hlt
      obtain ⟨gx, cx, rfl, hrx⟩ := hin.reads
      have hTM := HTL.out k M hM
      have hown := hrow.own
      rw [hrow.len] at hown
      obtain ⟨g3, cg3, hsh3, _, _, _⟩ := own_shape hown (by omega)
      simp only [Value.slice.injEq, true_and] at hsh3
      obtain ⟨rfl, rfl⟩ := hsh3
      have hxc : wr.cell? ⟨g3, k, none⟩ = some (.slice (some ⟨gx, 0, none⟩) R.C.length cx) := by rw [hown.cellAt k (by omega)]; exact hx
      have hHk := hPF M gx cx wr.drew hTM hBw.drew hrx
      have hs1 := HSU.out k M hM
      have hbdk1 := HBD.out (k + 1)
      rw [hs1] at hbdk1
      have HS1 := Lib.hid hs1
      have hnl := HNL.out
      generalize pfTo R M b R.cn = p at *
      generalize piTo R b k = sN at *
      obtain ⟨b0, b1, b2⟩ := blk3 hbk
      have hw := IntWalk.wrap64_in ((sN : Int) + (p : Int)) (by omega)
      clear hs1 hM hx hown hin hrx hTM hbdk hbdk1
      generalize hsI : (sN : Int) = sI at *
      generalize hpI : (p : Int) = pI at *
      have HSI := Lib.hid hsI
      have HPI := Lib.hid hpI
      clear hsI hpI
      go_upto_region 8 with fail
      go_region_with
        (first
          | (go_at_call 32; (with_reducible refine (unhide hHk).mono ?_); rintro e w4 ⟨rfl, hb4⟩))
      all_goals
        have hrow4 := (hrow.below (Below.refl wr.heap.size wr).drew).below hb4
        have k4 := hbk.drew.below hb4 hbk.drew.lt
        have hB4 := hBw.drew.trans (hb4.mono hBw.drew.size)
        clear b0 b1 b2 hxc hBw hbk hrow hb4 hHk
        go_wp2_with fail
        go_roundg (TT.length - (k + 1))
        case measure => have := HK.out; omega
        case rel => exact ⟨k + 1, by have := HK.out; omega, by go_num, congrArg (Value.int .i64) (by have e1 := HSI.out; have e2 := HPI.out; rw [HS1.out]; omega), hB4, k4, hrow4⟩
    · obtain rfl : k = TT.length := by have := HK.out; omega
      go_wp2_with fail
      go_ret
      exact ⟨rfl, hBw⟩

theorem pushesIntoI_any (W T : Int) (A : Option Addr) (n c B : Nat) (bs : List Bool) (L2 : List Int) (D2 : Option Addr) (m2 d2 : Nat) (w : World) (hbl : bs.length = n) (hL2 : L2.length = m2) (hF : L2 ≠ [] → ∃ gb, D2 = some ⟨gb, 0, none⟩)
    (hr : Reads w B 1 A n (bs.map Value.bool)) (h2 : Reads w B 1 D2 m2 (L2.map (Value.int .i64))) (hB : B ≤ w.heap.size) (hn : n ≤ 9223372036854775807) (hm2 : m2 ≤ 9223372036854775807) :
    Calls Try.prog 37 #[.agg #[.int .i64 W, .int .i64 T, .slice A n c], .slice D2 m2 d2] w fun e w' => e = .returned (.int .i64 (piV W T bs L2)) ∧ Below w.heap.size w w' := by
  by_cases h : tiledB W T bs L2 = true ∧ cnt bs ≤ 16
  · obtain ⟨R, hR, rfl, rfl, rfl, hS, hLy, hFu⟩ := tiled_cases h.1
    rw [piV_yes h.1 h.2]
    subst hbl
    obtain rfl : m2 = R.C.length := by rw [← hL2]; exact hLy.len
    obtain ⟨gb, rfl⟩ := hF (by rintro rfl; have := (len_bd hR).1; have := hLy.len; simp at this; omega)
    exact pushesIntoI_ok R hR hS h.2 A c B L2 gb d2 ⟨hLy, hFu⟩ w hr h2 hB
  · rw [piV_no h]
    have hb0 : Below w.heap.size w (w.alloc (boxR W T A n c)) := (Below.refl _ _).alloc (Nat.le_refl _) _
    have k0 : Blk (w.alloc (boxR W T A n c)) w.heap.size 25 #[.int .i64 W, .int .i64 T, .slice A n c] := Blk.new _ _ _
    have hSM := hide (small_any W T A n c B bs _ (hr.below (hb0.mono hB)) (Nat.le_trans hB hb0.size) hn)
    have hT2 := fun w' (h : Below w.heap.size w w') => hide (tiled_any W T A n c B bs L2 D2 m2 d2 w' hbl hL2 (hr.below (h.mono hB)) (h2.below (h.mono hB)) (Nat.le_trans hB h.size) hn hm2)
    cases hsm : (validB W T bs && decide (cnt bs ≤ 16)) with
    | false =>
      rw [hsm] at hSM
      clear hsm h hT2 hF hr h2 k0
      go_enter Try.func37, Try.ntmps37
      go_wp2_with fail
      refine (unhide hSM).mono ?_
      rintro e w1 ⟨rfl, hb1⟩
      go_wp2_with fail
      go_ret
      exact ⟨rfl, hb0.trans (hb1.mono hb0.size)⟩
    | true =>
      rw [hsm] at hSM
      have ht : tiledB W T bs L2 = false := by
        cases ht : tiledB W T bs L2 with
        | false => rfl
        | true => rw [Bool.and_eq_true, decide_eq_true_eq] at hsm; exact absurd ⟨ht, hsm.2⟩ h
      simp only [ht] at hT2
      clear hsm h ht hF hr h2
      go_enter Try.func37, Try.ntmps37
      go_wp2_with fail
      refine (unhide hSM).mono ?_
      rintro e w1 ⟨rfl, hb1⟩
      have hB1 := hb0.trans (hb1.mono hb0.size)
      obtain ⟨b0, b1, b2⟩ := blk3 (k0.below hb1 k0.lt)
      have hT3 := hT2 _ hB1
      clear hb1 hb0 k0 hSM hT2
      go_wp2_with fail
      refine (unhide hT3).mono ?_
      rintro e w2 ⟨rfl, hb2⟩
      go_wp2_with fail
      go_ret
      exact ⟨rfl, hB1.trans (hb2.mono hB1.size)⟩

theorem pushesIntoS_any (W T : Int) (A : Option Addr) (n c B : Nat) (bs : List Bool) (L2 : List Int) (D2 : Option Addr) (m2 d2 : Nat) (w : World) (hbl : bs.length = n) (hL2 : L2.length = m2)
    (hr : Reads w B 1 A n (bs.map Value.bool)) (h2 : Reads w B 1 D2 m2 (L2.map (Value.int .i64))) (hB : B ≤ w.heap.size) (hn : n ≤ 9223372036854775807) (hm2 : m2 ≤ 9223372036854775807) :
    Calls Try.prog 38 #[.agg #[.int .i64 W, .int .i64 T, .slice A n c], .slice D2 m2 d2] w fun e w' => e = .returned (.int .i64 (piV W T bs L2)) ∧ Below w.heap.size w w' := by
  by_cases h : tiledB W T bs L2 = true ∧ cnt bs ≤ 16
  · obtain ⟨R, hR, rfl, rfl, rfl, hS, hLy, hFu⟩ := tiled_cases h.1
    rw [piV_yes h.1 h.2]
    subst hbl
    obtain rfl : m2 = R.C.length := by rw [← hL2]; exact hLy.len
    exact pushesIntoS_ok R hR hS h.2 A c B L2 D2 d2 ⟨hLy, hFu⟩ w hr h2 hB
  · rw [piV_no h]
    have hb0 : Below w.heap.size w (w.alloc (boxR W T A n c)) := (Below.refl _ _).alloc (Nat.le_refl _) _
    have k0 : Blk (w.alloc (boxR W T A n c)) w.heap.size 25 #[.int .i64 W, .int .i64 T, .slice A n c] := Blk.new _ _ _
    have hSI := hide (SimpleS_any W T A n c B bs _ (hr.below (hb0.mono hB)) (Nat.le_trans hB hb0.size) hn)
    have hT2 := fun w' (h : Below w.heap.size w w') => hide (tilingOkS_any W T A n c B bs L2 D2 m2 d2 w' hbl hL2 (hr.below (h.mono hB)) (h2.below (h.mono hB)) (Nat.le_trans hB h.size) hn hm2)
    cases hs : simpleB W T bs with
    | false =>
      rw [hs] at hSI
      clear hs h hT2 hr h2 k0
      go_enter Try.func38, Try.ntmps38
      go_wp2_with fail
      refine (unhide hSI).mono ?_
      rintro e w1 ⟨rfl, hb1⟩
      go_wp2_with fail
      go_ret
      exact ⟨rfl, hb0.trans (hb1.mono hb0.size)⟩
    | true =>
      obtain ⟨R, hR, rfl, rfl, rfl, hS⟩ := simple_cases hs
      subst hbl
      rw [hs] at hSI
      have hCM := fun w' (h : Below w.heap.size w w') => hide (cellsManyS_ok R hR A c B w' (hr.below (h.mono hB)) (Nat.le_trans hB h.size))
      cases ht : tilingB R.W R.T R.C L2 with
      | false =>
        simp only [ht] at hT2
        clear hs h ht hr h2 hCM
        go_enter Try.func38, Try.ntmps38
        go_wp2_with fail
        refine (unhide hSI).mono ?_
        rintro e w1 ⟨rfl, hb1⟩
        have hB1 := hb0.trans (hb1.mono hb0.size)
        obtain ⟨b0, b1, b2⟩ := blk3 (k0.below hb1 k0.lt)
        have hT3 := hT2 _ hB1
        clear hb1 hb0 k0 hSI hT2
        go_wp2_with fail
        refine (unhide hT3).mono ?_
        rintro e w2 ⟨rfl, hb2⟩
        go_wp2_with fail
        go_ret
        exact ⟨rfl, hB1.trans (hb2.mono hB1.size)⟩
      | true =>
        simp only [ht] at hT2
        have hgt : ¬ cnt R.C ≤ 16 := fun hc => h ⟨by unfold tiledB; rw [hs, ht]; rfl, hc⟩
        generalize cnt R.C = cb at *
        have hg2 : decide ((16 : Int) < (cb : Int)) = true := decide_eq_true (by omega)
        clear hs h ht hr h2
        go_enter Try.func38, Try.ntmps38
        go_wp2_with fail
        refine (unhide hSI).mono ?_
        rintro e w1 ⟨rfl, hb1⟩
        have hB1 := hb0.trans (hb1.mono hb0.size)
        have k1 := k0.below hb1 k0.lt
        obtain ⟨b0, b1, b2⟩ := blk3 k1
        have hT3 := hT2 _ hB1
        clear hb1 hb0 k0 hSI hT2
        go_wp2_with fail
        refine (unhide hT3).mono ?_
        rintro e w2 ⟨rfl, hb2⟩
        have hB2 := hB1.trans (hb2.mono hB1.size)
        clear b0 b1 b2
        obtain ⟨b0, b1, b2⟩ := blk3 (k1.below hb2 k1.lt)
        have hC3 := hCM _ hB2
        clear k1 hB1 hb2 hT3 hCM
        go_wp2_with fail
        refine (unhide hC3).mono ?_
        rintro e w3 ⟨rfl, hb3⟩
        go_wp2_with fail
        go_ret
        exact ⟨rfl, hB2.trans (hb3.mono hB2.size)⟩

end Go.Proofs.Ytpeifojfpkkcpaa

/-
  YtpeifojfpkkcpaaLg: what FnPushesInto says, of the values. Plain Lean.
-/
namespace Go.Proofs.Ytpeifojfpkkcpaa

/-- FnPushesInto. -/
theorem law_pushesInto {W T : Int} {bs : List Bool} {b : List Int} : piV W T bs b = -1 ∨ (piV W T bs b = 2 * cornersB W T bs ∧ 0 ≤ cornersB W T bs) := by
  by_cases h : tiledB W T bs b = true ∧ cnt bs ≤ 16
  · obtain ⟨R, hR, rfl, rfl, rfl, hS, hT⟩ := tiled_tile' h.1
    right
    rw [piV_yes h.1 h.2, cornersB_cn hR]
    unfold piTo
    rw [List.take_length, pi_to hR hS hT _ (Nat.le_refl _)]
    exact ⟨by omega, by omega⟩
  · exact .inl (piV_no h)

end Go.Proofs.Ytpeifojfpkkcpaa
