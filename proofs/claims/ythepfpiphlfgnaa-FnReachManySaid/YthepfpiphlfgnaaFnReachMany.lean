/-
  YthepfpiphlfgnaaFnReachMany: the statement of FnReachMany, proved: for every input the law returns true and leaves what it read as it was. No condition.
  The walk of the law is the text YthepfpiphlfgnaaFnReachManyW; this text is the frame round it.
-/
import Derived.Test.YthepfpiphlfgnaaFnReachManyW
import Derived.Test.YthepfpiphlfgnaaPv
namespace Go.Proofs.Ythepfpiphlfgnaa.fnReachMany
open Go.ChangeShapes Go.WideShapes Go.ChangeAt Go.RowKit
set_option linter.unusedVariables false

theorem own : ownKnob Try.prog.godebug = none := by kernel_rfl
theorem laidOut : laidOutB Try.prog = true := by kernel_rfl

set_option maxRecDepth 100000 in
theorem lifted (os : Os) (started : os.Started) (H : Type) (enc : TypeId × Value → H) :
    ReturnsInHanded {} Try.checked os 8 .any (Rows.fnReachManySpec.pre6 enc Try.prog Try.f8 Rows.fnReachManyRow.domain false) (Rows.fnReachManySpec.post enc Try.prog Try.f8 false true false false) := by
  refine returnsInHanded_of_change (C := Try.checked) own started (by kernel_rfl) Try.func8
    (ChangeSpec.witness6 (enc := enc) (C := Try.checked) false ⟨#[], #[.slice none 0 0], []⟩ 8 (by kernel_rfl) (by kernel_rfl) (by kernel_rfl) (by kernel_rfl)) ?_
  intro W base args ds gs before hval0 hW hcnd _
  have hval : ∀ (j : Nat) t v, Try.f8.params[j]? = some t → args[j]? = some v → Value.okWide Try.prog W .any base t v := hval0
  have hW' := hW
  obtain ⟨p, q, hA0, hV, hpq, hfz, hnd⟩ := hW
  have hA : DataW.TrodAll enc Try.prog W 0 (fun _ => true) true Try.f8.params.toList args.toList ds p := hA0
  rw [Try.params8] at hA hval
  obtain ⟨v0, vs0, d0, ds0, p0, q0, hargs, rfl, hp0, h0, r0⟩ := trodAll_cons hA
  obtain ⟨rfl, rfl, hq0⟩ := trodAll_nil r0
  obtain rfl : args = #[v0] := by cases args; simp_all
  obtain ⟨rfl, hq⟩ := trodVars_none hV
  have hbef : before = p ++ [] := by rw [hpq, hq]
  have hlt : ∀ x ∈ before, x.block < W.heap.size := fun x hx => hW'.lt x hx
  have hin0 : ∀ x ∈ p0, x ∈ before := by
    intro x hx; rw [hbef]; simp [hp0]; simp [hx]
  have k0 := h0
  obtain ⟨A0, n0, c0, z0, rfl, hc0, hm0, hl0, hr0, wz0⟩ := open_ints_r Try.underlying22 Try.underlying5 (by kernel_rfl) (hval 0 22 v0 rfl rfl) h0
  refine (FnReachMany_walk W A0 n0 c0 z0 hc0 hm0 hl0 hr0 wz0).mono fun e W' ⟨he, hb⟩ => ?_
  subst he
  exact ⟨_, rfl, post_of_below (pa := p) (pv := []) hW' (fun _ _ _ => (trodAll_cons_mk (shut_bool Try.underlying4 _) trodAll_mk0))
    (fun sp hsp => by rw [hp0, hq0]; exact (trodAll_cons_mk (arg_stays laidOut (by kernel_rfl) (of_decide_eq_true (by kernel_rfl)) k0 hb hin0 hlt hsp) trodAll_mk0)) (fun _ _ => rfl) hbef hb (ok_one (by kernel_rfl) rfl (okWide_bool_mk Try.underlying4 _))⟩

theorem over : Rows.fnReachManyRow.holds Try.pinned (OpenSpec.ofChange Rows.fnReachManySpec) :=
  OpenClaim.holds_of_wide 8 Try.f8 rfl rfl rfl rfl rfl rfl rfl ⟨rfl, rfl, rfl, rfl, rfl⟩ rfl rfl rfl rfl rfl (by kernel_rfl) Try.func8 (by kernel_rfl)
    (of_decide_eq_true (by kernel_rfl)) (by unfold Func.isWrapper; first | (rw [if_pos (by decide +kernel)]; kernel_rfl) | (rw [if_neg (by decide +kernel)]; exact ⟨rfl, rfl⟩))
    (fun os started H enc _ => lifted os started H enc)

theorem proved : Rows.FnReachManySaid :=
  over
end Go.Proofs.Ythepfpiphlfgnaa.fnReachMany
