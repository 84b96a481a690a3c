/-
  YthmmbejilceoaaaGreatFnExactCoupledAt: the statement of FnExactCoupledAt, proved: for every input the law returns true and leaves what it read as it was. No condition.
  The walk of the law is the text YthmmbejilceoaaaGreatFnExactCoupledAtW; this text is the frame round it.
-/
import Derived.Test.YthmmbejilceoaaaGreatFnExactCoupledAtW
import Derived.Test.YthmmbejilceoaaaGreatPv
namespace Go.Proofs.YthmmbejilceoaaaGreat.fnExactCoupledAt
open Go.ChangeShapes Go.WideShapes Go.ChangeAt Go.RowKit
set_option linter.unusedVariables false

theorem own : ownKnob Tryz.prog.godebug = none := by kernel_rfl
theorem laidOut : laidOutB Tryz.prog = true := by kernel_rfl

set_option maxRecDepth 100000 in
theorem lifted (os : Os) (started : os.Started) (H : Type) (enc : TypeId × Value → H) :
    ReturnsInHanded {} Tryz.checked os 4 .any (Rows.fnExactCoupledAtSpec.pre6 enc Tryz.prog Tryz.f4 Rows.fnExactCoupledAtRow.domain false) (Rows.fnExactCoupledAtSpec.post enc Tryz.prog Tryz.f4 false true false false) := by
  refine returnsInHanded_of_change (C := Tryz.checked) own started (by kernel_rfl) Tryz.func4
    (ChangeSpec.witness6 (enc := enc) (C := Tryz.checked) false ⟨#[], #[.agg #[.int .i64 0, .int .i64 0, .slice none 0 0], .slice none 0 0], []⟩ 8 (by kernel_rfl) (by kernel_rfl) (by kernel_rfl) (by kernel_rfl)) ?_
  intro W base args ds gs before hval0 hW hcnd _
  have hval : ∀ (j : Nat) t v, Tryz.f4.params[j]? = some t → args[j]? = some v → Value.okWide Tryz.prog W .any base t v := hval0
  have hW' := hW
  obtain ⟨p, q, hA0, hV, hpq, hfz, hnd⟩ := hW
  have hA : DataW.TrodAll enc Tryz.prog W 0 (fun _ => true) true Tryz.f4.params.toList args.toList ds p := hA0
  rw [Tryz.params4] at hA hval
  obtain ⟨v0, vs0, d0, ds0, p0, q0, hargs, rfl, hp0, h0, r0⟩ := trodAll_cons hA
  obtain ⟨v1, vs1, d1, ds1, p1, q1, rfl, rfl, hp1, h1, r1⟩ := trodAll_cons r0
  obtain ⟨rfl, rfl, hq1⟩ := trodAll_nil r1
  obtain rfl : args = #[v0, v1] := by cases args; simp_all
  obtain ⟨rfl, hq⟩ := trodVars_none hV
  have hbef : before = p ++ [] := by rw [hpq, hq]
  have hlt : ∀ x ∈ before, x.block < W.heap.size := fun x hx => hW'.lt x hx
  have hin0 : ∀ x ∈ p0, x ∈ before := by
    intro x hx; rw [hbef]; simp [hp0]; simp [hx]
  have hin1 : ∀ x ∈ p1, x ∈ before := by
    intro x hx; rw [hbef]; simp [hp0, hp1]; simp [hx]
  have k0 := h0
  have k1 := h1
  obtain ⟨W0, T0, A0, n0, c0, b0, rfl, wW0, wT0, hc0, hm0, hl0, hr0⟩ := open_region Tryz.underlying24 (by kernel_rfl) (by kernel_rfl) Tryz.underlying3 Tryz.underlying3 Tryz.underlying22 Tryz.underlying4 (by kernel_rfl) (hval 0 24 v0 rfl rfl) h0
  obtain ⟨A1, n1, c1, z1, rfl, hc1, hm1, hl1, hr1, wz1⟩ := open_pushes Tryz.underlying25 Tryz.underlying47 (by kernel_rfl) (by kernel_rfl) Tryz.underlying3 Tryz.underlying4 (hval 1 25 v1 rfl rfl) h1
  refine (FnExactCoupledAt_walk W W0 T0 A0 n0 c0 b0 wW0 wT0 hc0 hm0 hl0 hr0 A1 n1 c1 z1 hc1 hm1 hl1 hr1 wz1).mono fun e W' ⟨he, hb⟩ => ?_
  subst he
  exact ⟨_, rfl, post_of_below (pa := p) (pv := []) hW' (fun _ _ _ => (trodAll_cons_mk (shut_bool Tryz.underlying4 _) trodAll_mk0))
    (fun sp hsp => by rw [hp0, hp1, hq1]; exact (trodAll_cons_mk (arg_stays laidOut (by kernel_rfl) (of_decide_eq_true (by kernel_rfl)) k0 hb hin0 hlt hsp) (trodAll_cons_mk (arg_stays laidOut (by kernel_rfl) (of_decide_eq_true (by kernel_rfl)) k1 hb hin1 hlt hsp) trodAll_mk0))) (fun _ _ => rfl) hbef hb (ok_one (by kernel_rfl) rfl (okWide_bool_mk Tryz.underlying4 _))⟩

theorem over : Rows.fnExactCoupledAtRow.holds Tryz.pinned (OpenSpec.ofChange Rows.fnExactCoupledAtSpec) :=
  OpenClaim.holds_of_wide 4 Tryz.f4 rfl rfl rfl rfl rfl rfl rfl ⟨rfl, rfl, rfl, rfl, rfl⟩ rfl rfl rfl rfl rfl (by kernel_rfl) Tryz.func4 (by kernel_rfl)
    (of_decide_eq_true (by kernel_rfl)) (by unfold Func.isWrapper; first | (rw [if_pos (by decide +kernel)]; kernel_rfl) | (rw [if_neg (by decide +kernel)]; exact ⟨rfl, rfl⟩))
    (fun os started H enc _ => lifted os started H enc)

theorem proved : Rows.FnExactCoupledAtSaid :=
  over
end Go.Proofs.YthmmbejilceoaaaGreat.fnExactCoupledAt
