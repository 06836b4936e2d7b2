/-
  Of the program as it is given: whatever the kinds of the levels are: 'yuccalaw20.SettleLevels' returns true, and its argument reads as it did. No condition.
-/
import Derived.Test.YtbcajhiedeghlaaE6
import Derived.Test.YtbcajhiedeghlaaRows
import Derived.WalkKit
import Derived.ProofKit
import Derived.OpenShut
import Derived.ShutString
namespace Go.Proofs.Ytbcajhiedeghlaa.settleLevels
open Go.ChangeShapes Go.WideShapes Go.ChangeAt Go.RowKit Go.Own
set_option linter.unusedVariables false

theorem own : ownKnob Try.prog.godebug = none := by kernel_rfl

set_option maxRecDepth 100000 in
theorem lifted (os : Os) (started : os.Started) (H : Type) (enc : TypeId × Value → H) :
    ReturnsInHanded {} Try.checked os 12 .any (Rows.settleLevelsSpec.pre6 enc Try.prog Try.f12 Rows.settleLevelsRow.domain false) (Rows.settleLevelsSpec.post enc Try.prog Try.f12 false true false false) := by
  refine returnsInHanded_of_change (C := Try.checked) own started (by kernel_rfl) Try.func12
    (ChangeSpec.witness6 (enc := enc) (C := Try.checked) false ⟨#[], #[.slice none 0 0], []⟩ 8 (by kernel_rfl) (by kernel_rfl) (by kernel_rfl) (by kernel_rfl)) ?_
  intro W base args fo gs before KB wK VH _
  have te : ∀ (ae : Nat) t v, Try.f12.params[ae]? = some t → args[ae]? = some v → Value.okWide Try.prog W .any base t v := KB
  have QL := wK
  obtain ⟨p, q, JA, QK, rfl, pk, fU⟩ := wK
  have dU : DataW.TrodAll enc Try.prog W 0 (λ_ => true) true Try.f12.params.toList args.toList fo p := JA
  rw [Try.params12] at dU te
  have Qf := dU
  obtain ⟨v0, Wo, d0, Vm, n0, tt, nN, rfl, rfl, ba, xx⟩ := trodAll_cons dU
  obtain ⟨rfl, rfl, rfl⟩ := trodAll_nil xx
  obtain rfl : args = #[v0] := by cases args; simp_all
  obtain ⟨rfl, rfl⟩ := trodVars_none QK
  obtain ⟨a0, k0, qC⟩ := MZ.Tn Ml (te 0 29 v0 rfl rfl) ba
  clear JA KB
  have av := t12 a0
  refine (cf.UQ (On a0 true av) W (.cons qC .nil) rfl).mono λe tU ⟨he, aY, hold⟩ => ?_
  subst he
  exact ⟨_, rfl, TE (pv := []) QL aY rfl (λ_ _ _ => (trodAll_cons_mk (shut_bool Try.underlying4 _) trodAll_mk0)) (λsp kE => Nn Tv Tw Tu hold (by kernel_rfl) Qf (λp aE => kE p (List.mem_append_left _ aE))) (λ_ _ => rfl)
    (ok_one (by kernel_rfl) rfl (okWide_bool_mk Try.underlying4 _))⟩

theorem over : Rows.settleLevelsRow.holds Try.pinned (OpenSpec.ofChange Rows.settleLevelsSpec) :=
  OpenClaim.holds_of_wide 12 Try.f12 rfl rfl rfl rfl rfl rfl rfl ⟨rfl, rfl, rfl, rfl, rfl⟩ rfl rfl rfl rfl rfl (by kernel_rfl) Try.func12 (by kernel_rfl)
    (of_decide_eq_true (by kernel_rfl)) (by unfold Func.isWrapper; first | (rw [if_pos (by decide +kernel)]; kernel_rfl) | (rw [if_neg (by decide +kernel)]; exact ⟨rfl, rfl⟩))
    (λos started H enc _ => lifted os started H enc)

/-- The statement. -/
theorem proved : Rows.SettleLevelsSaid :=
  over
#print axioms proved
end Go.Proofs.Ytbcajhiedeghlaa.settleLevels
