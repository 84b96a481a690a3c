/-
  YtpeifojfpkkcpaaByS: the reference's TilingBy, and the program's.
-/
import Derived.Test.YtpeifojfpkkcpaaYb
import Derived.Test.YtpeifojfpkkcpaaRb
import Derived.IntWalk
namespace Go.Proofs.Ytpeifojfpkkcpaa
open Go.RowKit

theorem laidBareS_ok (R : Reg) (hR : R.ok) (A : Option Addr) (c B : Nat) (w : World) (hr : Reads w B 1 A R.C.length (R.C.map Value.bool)) (hB : B ≤ w.heap.size) :
    Calls Try.prog 136 #[.agg #[.int .i64 R.W, .int .i64 R.T, .slice A R.C.length c]] w fun e w' =>
      ∃ g, e = .returned (.slice (some ⟨g, 0, none⟩) R.C.length R.C.length) ∧ w'.ownsRow w.heap.size 3 1 (.slice (some ⟨g, 0, none⟩) R.C.length R.C.length) R.C.length ((List.replicate R.C.length 0).map (Value.int .i64)) ∧ Below w.heap.size w w' := by
  have hlen := (len_bd hR).2
  have HV := hide (validS_any R.W R.T A R.C.length c B R.C (w.alloc (boxR R.W R.T A R.C.length c)) (hr.alloc hB _) (by simp; omega) (by omega))
  rw [valid_of_ok hR] at HV
  go_enter Try.func136, Try.ntmps136
  go_wp2_with fail
  refine (unhide HV).mono ?_
  rintro e w1 ⟨rfl, hb1⟩
  obtain ⟨hB1, hk1, b0, b1, b2⟩ := box_keep hb1
  go_wp2_with (at_make; refine wpList_make_ints rfl _ _ rfl R.C.length (by omega) rfl rfl (by simp) (by simp) ?_; intro w2 hown hb2)
  go_ret
  exact ⟨_, rfl, by simpa using own_mono hown hB1.size, hB1.trans (hb2.mono hB1.size)⟩

theorem sdD_in {L : List Int} {f t : Nat} (hf : -60 ≤ L.getD f 0 ∧ L.getD f 0 ≤ 60) (ht : -60 ≤ L.getD t 0 ∧ L.getD t 0 ≤ 60) : sdD L f t = L.getD t 0 - L.getD f 0 := by
  unfold sdD
  exact IntWalk.wrap64_in _ (by omega)
theorem ixOf_in {R : Reg} (hR : R.ok) {s : Sd} (h : R.inn s = true) : ∃ a b : Nat, ixOf R s.lx s.ly = (a : Nat) ∧ ixOf R s.rx s.ry = (b : Nat) ∧ s.ly * R.W + s.lx = (a : Nat) ∧ s.ry * R.W + s.rx = (b : Nat) ∧ a < R.C.length ∧ b < R.C.length := by
  obtain ⟨a, b, e1, e2, ha, hb, _⟩ := inn_ix hR h
  unfold Reg.inn at h
  rw [Bool.and_eq_true] at h
  exact ⟨a, b, by unfold ixOf; rw [if_pos h.1, e1], by unfold ixOf; rw [if_pos h.2, e2], e1, e2, ha, hb⟩

noncomputable def byV (W T : Int) (bs : List Bool) (hs : List Int) : List Int := if hokB W T bs hs = true then byTo ⟨W.toNat, T.toNat, bs⟩ hs (sidesOf ⟨W.toNat, T.toNat, bs⟩).length else []
theorem byV_no {W T : Int} {bs : List Bool} {hs : List Int} (h : hokB W T bs hs = false) : byV W T bs hs = [] := by unfold byV; rw [h]; rfl
theorem byV_yes {R : Reg} {hs : List Int} (h : hokB R.W R.T R.C hs = true) : byV R.W R.T R.C hs = byTo R hs (sidesOf R).length := by unfold byV; rw [if_pos h]; rfl
theorem byV_len {W T : Int} {bs : List Bool} {hs : List Int} : (byV W T bs hs).length ≤ 36 := by
  cases h : hokB W T bs hs with
  | false => rw [byV_no h]; simp
  | true =>
    obtain ⟨R, hR, _, rfl, rfl, rfl, _⟩ := hokB_iff.1 h
    rw [byV_yes h, byTo_len]
    exact (len_bd hR).2

theorem tilingByI_any (W T : Int) (A : Option Addr) (n c B : Nat) (bs : List Bool) (L : List Int) (D : Option Addr) (m d : Nat) (w : World) (hbl : bs.length = n) (hL : L.length = m)
    (hr : Reads w B 1 A n (bs.map Value.bool)) (hd : Reads w B 1 D m (L.map (Value.int .i64))) (hB : B ≤ w.heap.size) (hn : n ≤ 9223372036854775807) (hm : m ≤ 9223372036854775807) :
    Calls Try.prog 61 #[.agg #[.int .i64 W, .int .i64 T, .slice A n c], .slice D m d] w (RetIB w (byV W T bs L) (hokB W T bs L)) := by
  have hHI := hide (hokI_any W T A n c B bs L D m d (w.alloc (boxR W T A n c)) hbl hL (hr.alloc hB _) (hd.alloc hB _) (by simp; omega) hn hm)
  cases hs : hokB W T bs L with
  | false =>
    rw [hs] at hHI
    rw [byV_no hs]
    clear hs
    go_enter Try.func61, Try.ntmps61
    go_wp2_with fail
    refine (unhide hHI).mono ?_
    rintro e w0 ⟨rfl, hb0⟩
    go_wp2_with fail
    go_ret2
    exact ⟨none, 0, 0, rfl, ⟨rfl, .inl ⟨rfl, rfl⟩⟩, (box_keep hb0).1⟩
  | true =>
    rw [hs] at hHI
    obtain ⟨R, hR, hS, rfl, rfl, rfl, hk⟩ := hokB_iff.1 hs
    subst hbl
    rw [byV_yes hs]
    obtain rfl : m = R.cn := by rw [← hL]; exact hk.len
    have hcn := cn_bd hR
    obtain ⟨ad, rfl, _⟩ := hd.getI (k := 0) (by omega)
    clear hs
    go_enter Try.func61, Try.ntmps61
    go_wp2_with fail
    refine (unhide hHI).mono ?_
    rintro e w0 ⟨rfl, hb0⟩
    obtain ⟨hB0, hk0, b0, b1, b2⟩ := box_keep hb0
    clear hb0 hHI
    go_wp2_with fail
    refine (by_any R hR A c B L ad d hk _ (hr.below (hB0.mono hB)) (hd.below (hB0.mono hB)) (Nat.le_trans hB hB0.size)).mono ?_
    rintro e w1 ⟨g, rfl, hown, hb1⟩
    go_wp2_with fail
    go_ret2
    exact ⟨_, _, _, rfl, own_mono hown hB0.size, hB0.trans (hb1.mono hB0.size)⟩

end Go.Proofs.Ytpeifojfpkkcpaa
