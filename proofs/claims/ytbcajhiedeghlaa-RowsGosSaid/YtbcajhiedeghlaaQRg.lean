/-
  Of the program as it is given: whatever the numbers of a grammar are: 'yuccalaw22.RowsGos' returns true, and its arguments read as they did. No condition.
-/
import Derived.Test.YtbcajhiedeghlaaE6
import Derived.Test.YtbcajhiedeghlaaRows
import Derived.WalkKit
import Derived.ProofKit
import Derived.OpenShut
import Derived.ShutString
namespace Go.Proofs.Ytbcajhiedeghlaa.rowsGos
open Go.ChangeShapes Go.WideShapes Go.ChangeAt Go.RowKit Go.Own
set_option linter.unusedVariables false

theorem own : ownKnob Try.prog.godebug = none := by kernel_rfl

set_option maxRecDepth 100000 in
theorem lifted (os : Os) (started : os.Started) (H : Type) (enc : TypeId × Value → H) :
    ReturnsInHanded {} Try.checked os 7 .any (Rows.rowsGosSpec.pre6 enc Try.prog Try.f7 Rows.rowsGosRow.domain false) (Rows.rowsGosSpec.post enc Try.prog Try.f7 false true false false) := by
  refine returnsInHanded_of_change (C := Try.checked) own started (by kernel_rfl) Try.func7
    (ChangeSpec.witness6 (enc := enc) (C := Try.checked) false ⟨#[], #[.agg #[.int .i64 0, .slice none 0 0, .slice none 0 0, .slice none 0 0, .bool false]], []⟩ 8 (by kernel_rfl) (by kernel_rfl) (by kernel_rfl) (by kernel_rfl)) ?_
  intro W base args ja gs before Ag sw Ro _
  have qQ : ∀ (ae : Nat) t v, Try.f7.params[ae]? = some t → args[ae]? = some v → Value.okWide Try.prog W .any base t v := Ag
  have Fo := sw
  obtain ⟨p, q, zz, Fm, rfl, o', gw⟩ := sw
  have eT : DataW.TrodAll enc Try.prog W 0 (λ_ => true) true Try.f7.params.toList args.toList ja p := zz
  rw [Try.params7] at eT qQ
  have E5 := eT
  obtain ⟨v0, UR, d0, Pw, n9, uq, nV, rfl, rfl, bb, ur⟩ := trodAll_cons eT
  obtain ⟨rfl, rfl, rfl⟩ := trodAll_nil ur
  obtain rfl : args = #[v0] := by cases args; simp_all
  obtain ⟨rfl, rfl⟩ := trodVars_none Fm
  obtain ⟨a0, k0, qm⟩ := Iq.L0 Hw (qQ 0 36 v0 rfl rfl) bb
  clear zz Ag
  have ax := t7 a0
  refine (cb.M5 (O7 a0 true ax) W (.cons qm .nil) rfl).mono λe tq ⟨he, a8, hold⟩ => ?_
  subst he
  exact ⟨_, rfl, Mb (pv := []) Fo a8 rfl (λ_ _ _ => (trodAll_cons_mk (shut_bool Try.underlying4 _) trodAll_mk0)) (λsp kl => IG L4 L5 L3 hold (by kernel_rfl) E5 (λp aG => kl p (List.mem_append_left _ aG))) (λ_ _ => rfl)
    (ok_one (by kernel_rfl) rfl (okWide_bool_mk Try.underlying4 _))⟩

theorem over : Rows.rowsGosRow.holds Try.pinned (OpenSpec.ofChange Rows.rowsGosSpec) :=
  OpenClaim.holds_of_wide 7 Try.f7 rfl rfl rfl rfl rfl rfl rfl ⟨rfl, rfl, rfl, rfl, rfl⟩ rfl rfl rfl rfl rfl (by kernel_rfl) Try.func7 (by kernel_rfl)
    (of_decide_eq_true (by kernel_rfl)) (by unfold Func.isWrapper; first | (rw [if_pos (by decide +kernel)]; kernel_rfl) | (rw [if_neg (by decide +kernel)]; exact ⟨rfl, rfl⟩))
    (λos started H enc _ => lifted os started H enc)

/-- The statement. -/
theorem proved : Rows.RowsGosSaid :=
  over
#print axioms proved
end Go.Proofs.Ytbcajhiedeghlaa.rowsGos
