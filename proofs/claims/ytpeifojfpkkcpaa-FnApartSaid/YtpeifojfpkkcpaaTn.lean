/-
  YtpeifojfpkkcpaaTn: Complete and TilingFirst of the program.
-/
import Derived.Test.YtpeifojfpkkcpaaTm
import Derived.Test.YtpeifojfpkkcpaaQz
import Derived.Test.YtpeifojfpkkcpaaFk
namespace Go.Proofs.Ytpeifojfpkkcpaa
open Go.RowKit

/-- The first tiling with a list's dominoes. -/
def coV (R : Reg) (L : List Int) : List Int := (cT R L).headD []
theorem coV_cons {R : Reg} {L M : List Int} {l : List (List Int)} (h : cT R L = M :: l) : coV R L = M := by unfold coV; rw [h]; rfl
theorem coV_tile {R : Reg} (hR : R.ok) {L M : List Int} {l : List (List Int)} (hL : Lay R L) (h : cT R L = M :: l) : Tile R M := allT_tile hR 18 L hL (opN_le hR L) M (by unfold cT at h; rw [h]; simp)

set_option maxHeartbeats 2000000 in
set_option maxRecDepth 20000 in
theorem completeI_ok (R : Reg) (hR : R.ok) (A : Option Addr) (c B : Nat) (L : List Int) (D : Option Addr) (d : Nat) (hP : Plain D) (hL : Lay R L) (w : World)
    (hr : Reads w B 1 A R.C.length (R.C.map Value.bool)) (hd : Reads w B 1 D R.C.length (L.map (Value.int .i64))) (hB : B ≤ w.heap.size) :
    Calls Try.prog 127 #[.agg #[.int .i64 R.W, .int .i64 R.T, .slice A R.C.length c], .slice D R.C.length d] w (RetIB w (coV R L) (!(cT R L).isEmpty)) := by
  have hl36 := (len_bd hR).2
  have hl1 := (len_bd hR).1
  have hLn := hL.len
  have hlb : laidB R.W R.T R.C L = true := by rw [laidB_ok hR]; exact (laysB_iff hR).2 hL
  have hLO := hide (laidOkI_any R.W R.T A R.C.length c B R.C L D R.C.length d (w.alloc (boxR R.W R.T A R.C.length c)) rfl hLn (hr.alloc hB _) (hd.alloc hB _) (by simp; omega) (by omega) (by omega))
  rw [hlb] at hLO
  have hCL := fun w' (h : Below w.heap.size w w') => hide (by simpa [hLn] using clone_any D d w'.heap.size L w' hP (by rw [hLn]; exact (hd.below (h.mono hB)).more (Nat.le_trans hB h.size)) (by omega))
  have hEA := fun (w' : World) (h : Below w.heap.size w w') (q g c' : Nat) (v : Value) (hq : Blk w' q 26 #[v]) (ho : w'.ownsRow w.heap.size 3 1 (.slice (some ⟨g, 0, none⟩) R.C.length c') R.C.length (L.map (Value.int .i64))) => hide (eachF_any R hR A c B q w.heap.size hB 18 L g c' R.C.length v w' hL (opN_le hR L) (hr.below (h.mono hB)) h.size hq ho)
  have hXC : ∀ M l, cT R L = M :: l → M.length = R.C.length := fun M l h => (coV_tile hR hL h).1.len
  have HXC := Lib.hid hXC
  clear hlb hr hd hXC
  go_enter Try.func127, Try.ntmps127
  go_wp2_with fail
  refine (unhide hLO).mono ?_
  rintro e w1 ⟨rfl, hb1⟩
  obtain ⟨hB1, hk1, b0, b1, b2⟩ := box_keep hb1
  clear b0 b1 b2 hLO hb1
  go_upto_region 4 with fail
  have hB2 := hB1.alloc hB1.size (.cells #[.slice none 0 0] 26)
  have k2 := hk1.alloc (.cells #[.slice none 0 0] 26)
  have hq2 := Blk.new w1 26 #[.slice none 0 0]
  have hsz1 := hB1.size
  generalize w1.alloc (.cells #[.slice none 0 0] 26) = w2 at *
  generalize w1.heap.size = q at *
  clear hB1 hk1
  have hd0 := (Below.refl w2.heap.size w2).drew
  have hBd := hB2.trans (hd0.mono hB2.size)
  have kd := k2.below hd0 k2.lt
  have hqd := hq2.below hd0 hq2.lt
  clear hB2 k2 hq2 hd0
  obtain ⟨b0, b1, b2⟩ := blk3 kd
  refine wp_region_any (by kernel_rfl) ?_
  change wpAny _ _ _ _ _ _ _ (World.drew _)
  refine wpAny_take (i := 1) (v := ?_) rfl (by kernel_rfl) (by kernel_rfl) (by kernel_rfl) (fun _ _ _ h => h) (Or.inl ⟨by kernel_rfl, ?_⟩) ?_
  rotate_left
  · intro w
    go_simp
    try with_reducible rfl
  refine wpAny_take (i := 3) (v := ?_) rfl (by kernel_rfl) (by kernel_rfl) (by kernel_rfl) (fun _ _ _ h => h) (Or.inl ⟨by kernel_rfl, ?_⟩) ?_
  rotate_left
  · intro w
    go_simp
    try with_reducible rfl
  refine wpAny_ready (rs := [0, 2]) (by kernel_rfl) (by simp) ?_
  refine AllReady.cons rfl (fun K hK => ?_) (AllReady.cons rfl (fun K hK => ?_) AllReady.nil)
  · go_simp
    refine hK _ _ ?_
    clear hK K
    refine wpAny_ready (rs := [2]) (by kernel_rfl) (by simp) ?_
    refine AllReady.cons rfl (fun K hK => ?_) AllReady.nil
    go_simp
    go_at_call 72
    (with_reducible refine (unhide (hCL _ hBd)).mono ?_)
    rintro e w3 ⟨A3, c3, rfl, ho3, hb3⟩
    rw [hLn] at ho3 ⊢
    obtain ⟨g3, c3x, hs3, _⟩ := own_shape ho3 (by omega)
    simp only [Value.slice.injEq, true_and] at hs3
    obtain ⟨rfl, rfl⟩ := hs3
    have hB3 := hBd.trans (hb3.mono hBd.size)
    have k3 := kd.below hb3 kd.lt
    have hq3 := hqd.below hb3 hqd.lt
    have hE3 := hEA w3 hB3 q g3 c3 _ hq3 (own_mono ho3 hBd.size)
    clear b0 b1 b2
    obtain ⟨b0, b1, b2⟩ := blk3 k3
    refine hK _ _ ?_
    clear hK K
    refine wpAny_ready (rs := [4]) (by kernel_rfl) (by simp) ?_
    refine AllReady.cons rfl (fun K hK => ?_) AllReady.nil
    go_simp
    go_at_call 162
    (with_reducible refine (unhide hE3).mono ?_)
    rintro e w4 ⟨bb, rfl, hx1, hx2⟩
    refine hK _ _ ?_
    clear hK K
    refine wpAny_take (i := 5) (v := ?_) rfl (by kernel_rfl) (by kernel_rfl) (by kernel_rfl) (fun _ _ _ h => h) (Or.inl ⟨by kernel_rfl, ?_⟩) ?_
    rotate_left
    · intro w
      go_simp
      try with_reducible rfl
    refine wpAny_done (by kernel_rfl) ?_ _
    clear hCL hEA hE3 hb3 ho3 k3 b0 b1 b2 kd hqd hBd
    go_simp
    cases bb with
    | true =>
      obtain ⟨hTs, hb4⟩ := hx1 rfl
      have hB4 := hB3.trans (hb4.mono hB3.size)
      have q4 := (hq3.below hb4 hq3.lt).cell 0
      simp at q4
      have hce : cT R L = [] := hTs
      have hv : coV R L = [] := by unfold coV; rw [hce]; rfl
      clear hx1 hx2 hB3 hq3 hb4 hTs
      go_wp2_with fail
      go_ret2
      rw [hce, hv]
      exact ⟨none, 0, 0, rfl, ⟨rfl, .inl ⟨rfl, rfl⟩⟩, hB4⟩
    | false =>
      obtain ⟨M, l, g5, c5, c6, hTs, hg4, hq4, ho4⟩ := hx2 rfl
      have hB4 := hB3.grown hg4 hB3.size (fun k hk => by injection hk with hk; omega)
      have q4 := hq4.cell 0
      simp at q4
      have hce : cT R L = M :: l := hTs
      have hMl := HXC.out M l hce
      have hv := coV_cons hce
      clear hx1 hx2 hB3 hq3 hg4 hq4 hTs
      go_wp2_with fail
      go_ret2
      rw [hce, hv]
      exact ⟨some ⟨g5, 0, none⟩, c6, c5, by rw [hMl]; rfl, by rw [hMl]; exact ho4, hB4⟩
  · go_simp
    go_at_call 72
    (with_reducible refine (unhide (hCL _ hBd)).mono ?_)
    rintro e w3 ⟨A3, c3, rfl, ho3, hb3⟩
    rw [hLn] at ho3 ⊢
    obtain ⟨g3, c3x, hs3, _⟩ := own_shape ho3 (by omega)
    simp only [Value.slice.injEq, true_and] at hs3
    obtain ⟨rfl, rfl⟩ := hs3
    have hB3 := hBd.trans (hb3.mono hBd.size)
    have k3 := kd.below hb3 kd.lt
    have hq3 := hqd.below hb3 hqd.lt
    have hE3 := hEA w3 hB3 q g3 c3 _ hq3 (own_mono ho3 hBd.size)
    clear b0 b1 b2
    obtain ⟨b0, b1, b2⟩ := blk3 k3
    refine hK _ _ ?_
    clear hK K
    refine wpAny_ready (rs := [0]) (by kernel_rfl) (by simp) ?_
    refine AllReady.cons rfl (fun K hK => ?_) AllReady.nil
    go_simp
    refine hK _ _ ?_
    clear hK K
    refine wpAny_ready (rs := [4]) (by kernel_rfl) (by simp) ?_
    refine AllReady.cons rfl (fun K hK => ?_) AllReady.nil
    go_simp
    go_at_call 162
    (with_reducible refine (unhide hE3).mono ?_)
    rintro e w4 ⟨bb, rfl, hx1, hx2⟩
    refine hK _ _ ?_
    clear hK K
    refine wpAny_take (i := 5) (v := ?_) rfl (by kernel_rfl) (by kernel_rfl) (by kernel_rfl) (fun _ _ _ h => h) (Or.inl ⟨by kernel_rfl, ?_⟩) ?_
    rotate_left
    · intro w
      go_simp
      try with_reducible rfl
    refine wpAny_done (by kernel_rfl) ?_ _
    clear hCL hEA hE3 hb3 ho3 k3 b0 b1 b2 kd hqd hBd
    go_simp
    cases bb with
    | true =>
      obtain ⟨hTs, hb4⟩ := hx1 rfl
      have hB4 := hB3.trans (hb4.mono hB3.size)
      have q4 := (hq3.below hb4 hq3.lt).cell 0
      simp at q4
      have hce : cT R L = [] := hTs
      have hv : coV R L = [] := by unfold coV; rw [hce]; rfl
      clear hx1 hx2 hB3 hq3 hb4 hTs
      go_wp2_with fail
      go_ret2
      rw [hce, hv]
      exact ⟨none, 0, 0, rfl, ⟨rfl, .inl ⟨rfl, rfl⟩⟩, hB4⟩
    | false =>
      obtain ⟨M, l, g5, c5, c6, hTs, hg4, hq4, ho4⟩ := hx2 rfl
      have hB4 := hB3.grown hg4 hB3.size (fun k hk => by injection hk with hk; omega)
      have q4 := hq4.cell 0
      simp at q4
      have hce : cT R L = M :: l := hTs
      have hMl := HXC.out M l hce
      have hv := coV_cons hce
      clear hx1 hx2 hB3 hq3 hg4 hq4 hTs
      go_wp2_with fail
      go_ret2
      rw [hce, hv]
      exact ⟨some ⟨g5, 0, none⟩, c6, c5, by rw [hMl]; rfl, by rw [hMl]; exact ho4, hB4⟩

set_option maxRecDepth 20000 in
theorem laidBareI_ok (R : Reg) (hR : R.ok) (A : Option Addr) (c B : Nat) (w : World) (hr : Reads w B 1 A R.C.length (R.C.map Value.bool)) (hB : B ≤ w.heap.size) :
    Calls Try.prog 128 #[.agg #[.int .i64 R.W, .int .i64 R.T, .slice A R.C.length c]] w fun e w' => ∃ g, e = .returned (.slice (some ⟨g, 0, none⟩) R.C.length R.C.length) ∧ w'.ownsRow w.heap.size 3 1 (.slice (some ⟨g, 0, none⟩) R.C.length R.C.length) R.C.length ((bare R).map (Value.int .i64)) ∧ Below w.heap.size w w' := by
  have hl36 := (len_bd hR).2
  have HV := hide (valid_any R.W R.T A R.C.length c B R.C (w.alloc (boxR R.W R.T A R.C.length c)) (hr.alloc hB _) (by simp; omega) (by omega))
  rw [valid_of_ok hR] at HV
  go_enter Try.func128, Try.ntmps128
  go_wp2_with fail
  refine (unhide HV).mono ?_
  rintro e w1 ⟨rfl, hb1⟩
  obtain ⟨hB1, hk1, b0, b1, b2⟩ := box_keep hb1
  go_wp2_with (at_make; refine wpList_make_ints rfl _ _ rfl R.C.length (by omega) rfl rfl rfl rfl ?_; intro w2 ho2 hb2)
  go_ret
  exact ⟨_, rfl, own_mono ho2 hB1.size, hB1.trans (hb2.mono hB1.size)⟩

set_option maxHeartbeats 2000000 in
set_option maxRecDepth 20000 in
theorem tilingFirstI_ok (R : Reg) (hR : R.ok) (A : Option Addr) (c B : Nat) (w : World) (hr : Reads w B 1 A R.C.length (R.C.map Value.bool)) (hB : B ≤ w.heap.size) :
    Calls Try.prog 62 #[.agg #[.int .i64 R.W, .int .i64 R.T, .slice A R.C.length c]] w (RetIB w (coV R (bare R)) (!(tilT R).isEmpty)) := by
  have hl36 := (len_bd hR).2
  have hb0 : Below w.heap.size w (w.alloc (boxR R.W R.T A R.C.length c)) := (Below.refl _ _).alloc (Nat.le_refl _) _
  have k0 : Blk (w.alloc (boxR R.W R.T A R.C.length c)) w.heap.size 25 #[.int .i64 R.W, .int .i64 R.T, .slice A R.C.length c] := Blk.new _ _ _
  have hLB := fun w' (h : Below w.heap.size w w') => hide (laidBareI_ok R hR A c B w' (hr.below (h.mono hB)) (Nat.le_trans hB h.size))
  have hCO := fun (w' : World) (h : Below w.heap.size w w') (g : Nat) (ho : w'.ownsRow w.heap.size 3 1 (.slice (some ⟨g, 0, none⟩) R.C.length R.C.length) R.C.length ((bare R).map (Value.int .i64))) => hide (completeI_ok R hR A c w'.heap.size (bare R) (some ⟨g, 0, none⟩) R.C.length (.inr ⟨_, _, rfl⟩) (lay_bare hR) w' ((hr.below (h.mono hB)).more (Nat.le_trans hB h.size)) (Reads.of_own ho) (Nat.le_refl _))
  have hce : cT R (bare R) = tilT R := rfl
  rw [hce] at hCO
  clear hce hr
  generalize (tilT R).isEmpty = em at *
  generalize coV R (bare R) = V at *
  go_enter Try.func62, Try.ntmps62
  go_upto_region 1 with fail
  generalize w.alloc (boxR R.W R.T A R.C.length c) = w1 at *
  have hd0 := (Below.refl w1.heap.size w1).drew
  have hBd := hb0.trans (hd0.mono hb0.size)
  have kd := k0.below hd0 k0.lt
  clear hb0 k0 hd0
  obtain ⟨b0, b1, b2⟩ := blk3 kd
  refine wp_region_any (by kernel_rfl) ?_
  change wpAny _ _ _ _ _ _ _ (World.drew _)
  refine wpAny_ready (rs := [0, 1]) (by kernel_rfl) (by simp) ?_
  refine AllReady.cons rfl (fun K hK => ?_) (AllReady.cons rfl (fun K hK => ?_) AllReady.nil)
  · go_simp
    refine hK _ _ ?_
    clear hK K
    refine wpAny_ready (rs := [1]) (by kernel_rfl) (by simp) ?_
    refine AllReady.cons rfl (fun K hK => ?_) AllReady.nil
    go_simp
    refine hK _ _ ?_
    clear hK K
    refine wpAny_ready (rs := [2]) (by kernel_rfl) (by simp) ?_
    refine AllReady.cons rfl (fun K hK => ?_) AllReady.nil
    go_simp
    go_at_call 128
    (with_reducible refine (unhide (hLB _ hBd)).mono ?_)
    rintro e w3 ⟨g3, rfl, ho3, hb3⟩
    have hB3 := hBd.trans (hb3.mono hBd.size)
    have k3 := kd.below hb3 kd.lt
    have hC3 := hCO w3 hB3 g3 (own_mono ho3 hBd.size)
    clear b0 b1 b2
    obtain ⟨b0, b1, b2⟩ := blk3 k3
    refine hK _ _ ?_
    clear hK K
    refine wpAny_ready (rs := [3]) (by kernel_rfl) (by simp) ?_
    refine AllReady.cons rfl (fun K hK => ?_) AllReady.nil
    go_simp
    go_at_call 127
    (with_reducible refine (unhide hC3).mono ?_)
    rintro e w4 ⟨A4, c4, c4', rfl, ho4, hb4⟩
    refine hK _ _ ?_
    clear hK K
    refine wpAny_take (i := 4) (v := ?_) rfl (by kernel_rfl) (by kernel_rfl) (by kernel_rfl) (fun _ _ _ h => h) (Or.inl ⟨by kernel_rfl, ?_⟩) ?_
    rotate_left
    · intro w
      go_simp
      try with_reducible rfl
    refine wpAny_take (i := 5) (v := ?_) rfl (by kernel_rfl) (by kernel_rfl) (by kernel_rfl) (fun _ _ _ h => h) (Or.inl ⟨by kernel_rfl, ?_⟩) ?_
    rotate_left
    · intro w
      go_simp
      try with_reducible rfl
    refine wpAny_take (i := 6) (v := ?_) rfl (by kernel_rfl) (by kernel_rfl) (by kernel_rfl) (fun _ _ _ h => h) (Or.inl ⟨by kernel_rfl, ?_⟩) ?_
    rotate_left
    · intro w
      go_simp
      try with_reducible rfl
    refine wpAny_take (i := 7) (v := ?_) rfl (by kernel_rfl) (by kernel_rfl) (by kernel_rfl) (fun _ _ _ h => h) (Or.inl ⟨by kernel_rfl, ?_⟩) ?_
    rotate_left
    · intro w
      go_simp
      try with_reducible rfl
    refine wpAny_done (by kernel_rfl) ?_ _
    have hB4 := hB3.trans (hb4.mono hB3.size)
    have ho5 := own_mono ho4 hB3.size
    clear hLB hCO hC3 hb3 ho3 ho4 k3 b0 b1 b2 kd hBd hb4 hB3
    go_simp
    go_wp2_with fail
    go_ret2
    exact ⟨A4, c4, c4', rfl, ho5, hB4⟩
  · go_simp
    refine hK _ _ ?_
    clear hK K
    refine wpAny_ready (rs := [0, 2]) (by kernel_rfl) (by simp) ?_
    refine AllReady.cons rfl (fun K hK => ?_) (AllReady.cons rfl (fun K hK => ?_) AllReady.nil)
    · go_simp
      refine hK _ _ ?_
      clear hK K
      refine wpAny_ready (rs := [2]) (by kernel_rfl) (by simp) ?_
      refine AllReady.cons rfl (fun K hK => ?_) AllReady.nil
      go_simp
      go_at_call 128
      (with_reducible refine (unhide (hLB _ hBd)).mono ?_)
      rintro e w3 ⟨g3, rfl, ho3, hb3⟩
      have hB3 := hBd.trans (hb3.mono hBd.size)
      have k3 := kd.below hb3 kd.lt
      have hC3 := hCO w3 hB3 g3 (own_mono ho3 hBd.size)
      clear b0 b1 b2
      obtain ⟨b0, b1, b2⟩ := blk3 k3
      refine hK _ _ ?_
      clear hK K
      refine wpAny_ready (rs := [3]) (by kernel_rfl) (by simp) ?_
      refine AllReady.cons rfl (fun K hK => ?_) AllReady.nil
      go_simp
      go_at_call 127
      (with_reducible refine (unhide hC3).mono ?_)
      rintro e w4 ⟨A4, c4, c4', rfl, ho4, hb4⟩
      refine hK _ _ ?_
      clear hK K
      refine wpAny_take (i := 4) (v := ?_) rfl (by kernel_rfl) (by kernel_rfl) (by kernel_rfl) (fun _ _ _ h => h) (Or.inl ⟨by kernel_rfl, ?_⟩) ?_
      rotate_left
      · intro w
        go_simp
        try with_reducible rfl
      refine wpAny_take (i := 5) (v := ?_) rfl (by kernel_rfl) (by kernel_rfl) (by kernel_rfl) (fun _ _ _ h => h) (Or.inl ⟨by kernel_rfl, ?_⟩) ?_
      rotate_left
      · intro w
        go_simp
        try with_reducible rfl
      refine wpAny_take (i := 6) (v := ?_) rfl (by kernel_rfl) (by kernel_rfl) (by kernel_rfl) (fun _ _ _ h => h) (Or.inl ⟨by kernel_rfl, ?_⟩) ?_
      rotate_left
      · intro w
        go_simp
        try with_reducible rfl
      refine wpAny_take (i := 7) (v := ?_) rfl (by kernel_rfl) (by kernel_rfl) (by kernel_rfl) (fun _ _ _ h => h) (Or.inl ⟨by kernel_rfl, ?_⟩) ?_
      rotate_left
      · intro w
        go_simp
        try with_reducible rfl
      refine wpAny_done (by kernel_rfl) ?_ _
      have hB4 := hB3.trans (hb4.mono hB3.size)
      have ho5 := own_mono ho4 hB3.size
      clear hLB hCO hC3 hb3 ho3 ho4 k3 b0 b1 b2 kd hBd hb4 hB3
      go_simp
      go_wp2_with fail
      go_ret2
      exact ⟨A4, c4, c4', rfl, ho5, hB4⟩
    · go_simp
      go_at_call 128
      (with_reducible refine (unhide (hLB _ hBd)).mono ?_)
      rintro e w3 ⟨g3, rfl, ho3, hb3⟩
      have hB3 := hBd.trans (hb3.mono hBd.size)
      have k3 := kd.below hb3 kd.lt
      have hC3 := hCO w3 hB3 g3 (own_mono ho3 hBd.size)
      clear b0 b1 b2
      obtain ⟨b0, b1, b2⟩ := blk3 k3
      refine hK _ _ ?_
      clear hK K
      refine wpAny_ready (rs := [0]) (by kernel_rfl) (by simp) ?_
      refine AllReady.cons rfl (fun K hK => ?_) AllReady.nil
      go_simp
      refine hK _ _ ?_
      clear hK K
      refine wpAny_ready (rs := [3]) (by kernel_rfl) (by simp) ?_
      refine AllReady.cons rfl (fun K hK => ?_) AllReady.nil
      go_simp
      go_at_call 127
      (with_reducible refine (unhide hC3).mono ?_)
      rintro e w4 ⟨A4, c4, c4', rfl, ho4, hb4⟩
      refine hK _ _ ?_
      clear hK K
      refine wpAny_take (i := 4) (v := ?_) rfl (by kernel_rfl) (by kernel_rfl) (by kernel_rfl) (fun _ _ _ h => h) (Or.inl ⟨by kernel_rfl, ?_⟩) ?_
      rotate_left
      · intro w
        go_simp
        try with_reducible rfl
      refine wpAny_take (i := 5) (v := ?_) rfl (by kernel_rfl) (by kernel_rfl) (by kernel_rfl) (fun _ _ _ h => h) (Or.inl ⟨by kernel_rfl, ?_⟩) ?_
      rotate_left
      · intro w
        go_simp
        try with_reducible rfl
      refine wpAny_take (i := 6) (v := ?_) rfl (by kernel_rfl) (by kernel_rfl) (by kernel_rfl) (fun _ _ _ h => h) (Or.inl ⟨by kernel_rfl, ?_⟩) ?_
      rotate_left
      · intro w
        go_simp
        try with_reducible rfl
      refine wpAny_take (i := 7) (v := ?_) rfl (by kernel_rfl) (by kernel_rfl) (by kernel_rfl) (fun _ _ _ h => h) (Or.inl ⟨by kernel_rfl, ?_⟩) ?_
      rotate_left
      · intro w
        go_simp
        try with_reducible rfl
      refine wpAny_done (by kernel_rfl) ?_ _
      have hB4 := hB3.trans (hb4.mono hB3.size)
      have ho5 := own_mono ho4 hB3.size
      clear hLB hCO hC3 hb3 ho3 ho4 k3 b0 b1 b2 kd hBd hb4 hB3
      go_simp
      go_wp2_with fail
      go_ret2
      exact ⟨A4, c4, c4', rfl, ho5, hB4⟩

end Go.Proofs.Ytpeifojfpkkcpaa
