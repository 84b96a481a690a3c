/-
  YthepfpiphlfgnaaFnExactPushedMany: the statement of FnExactPushedMany, proved: for every input the law returns true and leaves what it read as it was. No condition.
  The walk of the law is the text YthepfpiphlfgnaaFnExactPushedManyW; this text is the frame round it.
-/
import Derived.Test.YthepfpiphlfgnaaFnExactPushedManyW
import Derived.Test.YthepfpiphlfgnaaPv
namespace Go.Proofs.Ythepfpiphlfgnaa.fnExactPushedMany
open Go.ChangeShapes Go.WideShapes Go.ChangeAt Go.RowKit
set_option linter.unusedVariables false

theorem own : ownKnob Try.prog.godebug = none := by kernel_rfl
theorem laidOut : laidOutB Try.prog = true := by kernel_rfl

set_option maxRecDepth 100000 in
theorem lifted (os : Os) (started : os.Started) (H : Type) (enc : TypeId × Value → H) :
    ReturnsInHanded {} Try.checked os 11 .any (Rows.fnExactPushedManySpec.pre6 enc Try.prog Try.f11 Rows.fnExactPushedManyRow.domain false) (Rows.fnExactPushedManySpec.post enc Try.prog Try.f11 false true false false) := by
  refine returnsInHanded_of_change (C := Try.checked) own started (by kernel_rfl) Try.func11
    (ChangeSpec.witness6 (enc := enc) (C := Try.checked) false ⟨#[], #[.agg #[.int .i64 0, .int .i64 0, .slice none 0 0], .slice none 0 0], []⟩ 8 (by kernel_rfl) (by kernel_rfl) (by kernel_rfl) (by kernel_rfl)) ?_
  intro W base args ds gs before hval0 hW hcnd _
  have hval : ∀ (j : Nat) t v, Try.f11.params[j]? = some t → args[j]? = some v → Value.okWide Try.prog W .any base t v := hval0
  have hW' := hW
  obtain ⟨p, q, hA0, hV, hpq, hfz, hnd⟩ := hW
  have hA : DataW.TrodAll enc Try.prog W 0 (fun _ => true) true Try.f11.params.toList args.toList ds p := hA0
  rw [Try.params11] at hA hval
  obtain ⟨v0, vs0, d0, ds0, p0, q0, hargs, rfl, hp0, h0, r0⟩ := trodAll_cons hA
  obtain ⟨v1, vs1, d1, ds1, p1, q1, rfl, rfl, hp1, h1, r1⟩ := trodAll_cons r0
  obtain ⟨rfl, rfl, hq1⟩ := trodAll_nil r1
  obtain rfl : args = #[v0, v1] := by cases args; simp_all
  obtain ⟨rfl, hq⟩ := trodVars_none hV
  have hbef : before = p ++ [] := by rw [hpq, hq]
  have hlt : ∀ x ∈ before, x.block < W.heap.size := fun x hx => hW'.lt x hx
  have hin0 : ∀ x ∈ p0, x ∈ before := by
    intro x hx; rw [hbef]; simp [hp0]; simp [hx]
  have hin1 : ∀ x ∈ p1, x ∈ before := by
    intro x hx; rw [hbef]; simp [hp0, hp1]; simp [hx]
  have k0 := h0
  have k1 := h1
  obtain ⟨W0, T0, A0, n0, c0, b0, rfl, wW0, wT0, hc0, hm0, hl0, hr0⟩ := open_region Try.underlying53 (by kernel_rfl) (by kernel_rfl) Try.underlying3 Try.underlying3 Try.underlying23 Try.underlying4 (by kernel_rfl) (hval 0 53 v0 rfl rfl) h0
  obtain ⟨A1, n1, c1, z1, rfl, hc1, hm1, hl1, hr1, wz1⟩ := open_pushes Try.underlying54 Try.underlying102 (by kernel_rfl) (by kernel_rfl) Try.underlying3 Try.underlying4 (hval 1 54 v1 rfl rfl) h1
  refine (FnExactPushedMany_walk W W0 T0 A0 n0 c0 b0 wW0 wT0 hc0 hm0 hl0 hr0 A1 n1 c1 z1 hc1 hm1 hl1 hr1 wz1).mono fun e W' ⟨he, hb⟩ => ?_
  subst he
  exact ⟨_, rfl, post_of_below (pa := p) (pv := []) hW' (fun _ _ _ => (trodAll_cons_mk (shut_bool Try.underlying4 _) trodAll_mk0))
    (fun sp hsp => by rw [hp0, hp1, hq1]; exact (trodAll_cons_mk (arg_stays laidOut (by kernel_rfl) (of_decide_eq_true (by kernel_rfl)) k0 hb hin0 hlt hsp) (trodAll_cons_mk (arg_stays laidOut (by kernel_rfl) (of_decide_eq_true (by kernel_rfl)) k1 hb hin1 hlt hsp) trodAll_mk0))) (fun _ _ => rfl) hbef hb (ok_one (by kernel_rfl) rfl (okWide_bool_mk Try.underlying4 _))⟩

theorem over : Rows.fnExactPushedManyRow.holds Try.pinned (OpenSpec.ofChange Rows.fnExactPushedManySpec) :=
  OpenClaim.holds_of_wide 11 Try.f11 rfl rfl rfl rfl rfl rfl rfl ⟨rfl, rfl, rfl, rfl, rfl⟩ rfl rfl rfl rfl rfl (by kernel_rfl) Try.func11 (by kernel_rfl)
    (of_decide_eq_true (by kernel_rfl)) (by unfold Func.isWrapper; first | (rw [if_pos (by decide +kernel)]; kernel_rfl) | (rw [if_neg (by decide +kernel)]; exact ⟨rfl, rfl⟩))
    (fun os started H enc _ => lifted os started H enc)

theorem proved : Rows.FnExactPushedManySaid :=
  over
end Go.Proofs.Ythepfpiphlfgnaa.fnExactPushedMany
