/-
  YtpeifojfpkkcpaaFo: FlipOne of the program.
-/
import Derived.Test.YtpeifojfpkkcpaaFq
namespace Go.Proofs.Ytpeifojfpkkcpaa
open Go.RowKit

set_option maxHeartbeats 1000000 in
theorem flipOneI_any (W T : Int) (A : Option Addr) (n c B : Nat) (bs : List Bool) (L : List Int) (D : Option Addr) (m d : Nat) (k : Int) (hk9 : k ≤ 9223372036854775807) (hP : Plain D) (w : World) (hbl : bs.length = n) (hL : L.length = m)
    (hr : Reads w B 1 A n (bs.map Value.bool)) (hd : Reads w B 1 D m (L.map (Value.int .i64))) (hB : B ≤ w.heap.size) (hn : n ≤ 9223372036854775807) (hm : m ≤ 9223372036854775807) :
    Calls Try.prog 49 #[.agg #[.int .i64 W, .int .i64 T, .slice A n c], .slice D m d, .int .i64 k] w (RetIB w (foV W T bs L k) (foB W T bs L k)) := by
  have hLO := hide (laidOkI_any W T A n c B bs L D m d (w.alloc (boxR W T A n c)) hbl hL (hr.alloc hB _) (hd.alloc hB _) (by simp; omega) hn hm)
  cases h : laidB W T bs L with
  | false =>
    rw [h] at hLO
    rw [(foV_no h).1, (foV_no h).2]
    clear h
    go_enter Try.func49, Try.ntmps49
    go_wp2_with fail
    refine (unhide hLO).mono ?_
    rintro e w1 ⟨rfl, hb1⟩
    obtain ⟨hB1, hk1, b0, b1, b2⟩ := box_keep hb1
    go_wp2_with fail
    go_ret2
    exact ⟨none, 0, 0, rfl, ⟨rfl, .inl ⟨rfl, rfl⟩⟩, hB1⟩
  | true =>
    rw [h] at hLO
    obtain ⟨R, hR, rfl, rfl, rfl, hLy⟩ := laid_cases h
    rw [(foV_yes h).1, (foV_yes h).2]
    subst hbl
    obtain rfl : m = R.C.length := by rw [← hL]; exact hLy.len
    have hFL := fun w' (h : Below w.heap.size w w') => hide (flip_any R hR A R.C.length c B L D d k hk9 hP hL w' (hd.below (h.mono hB)) (Nat.le_trans hB h.size))
    clear h
    go_enter Try.func49, Try.ntmps49
    go_wp2_with fail
    refine (unhide hLO).mono ?_
    rintro e w1 ⟨rfl, hb1⟩
    obtain ⟨hB1, hk1, b0, b1, b2⟩ := box_keep hb1
    go_wp2_with fail
    refine (unhide (hFL _ hB1)).mono ?_
    rintro e w2 ⟨A2, c2, c2', rfl, ho2, hb2⟩
    go_wp2_with fail
    go_ret2
    exact ⟨A2, c2, c2', rfl, own_mono ho2 hB1.size, hB1.trans (hb2.mono hB1.size)⟩

end Go.Proofs.Ytpeifojfpkkcpaa
