/-
  Of the program as it is given: whatever the numbers of a grammar are: 'yuccalaw20.SettleOne' returns true, and its arguments read as they did. No condition.
-/
import Derived.Test.YtbcajhiedeghlaaE6
import Derived.Test.YtbcajhiedeghlaaRows
import Derived.WalkKit
import Derived.ProofKit
import Derived.OpenShut
import Derived.ShutString
namespace Go.Proofs.Ytbcajhiedeghlaa.settleOne
open Go.ChangeShapes Go.WideShapes Go.ChangeAt Go.RowKit Go.Own
set_option linter.unusedVariables false

theorem own : ownKnob Try.prog.godebug = none := by kernel_rfl

set_option maxRecDepth 100000 in
theorem lifted (os : Os) (started : os.Started) (H : Type) (enc : TypeId × Value → H) :
    ReturnsInHanded {} Try.checked os 11 .any (Rows.settleOneSpec.pre6 enc Try.prog Try.f11 Rows.settleOneRow.domain false) (Rows.settleOneSpec.post enc Try.prog Try.f11 false true false false) := by
  refine returnsInHanded_of_change (C := Try.checked) own started (by kernel_rfl) Try.func11
    (ChangeSpec.witness6 (enc := enc) (C := Try.checked) false ⟨#[], #[.agg #[.int .i64 0, .slice none 0 0, .slice none 0 0, .slice none 0 0, .bool false]], []⟩ 8 (by kernel_rfl) (by kernel_rfl) (by kernel_rfl) (by kernel_rfl)) ?_
  intro W base args jz gs before KT w3 Vw _
  have tF : ∀ (ae : Nat) t v, Try.f11.params[ae]? = some t → args[ae]? = some v → Value.okWide Try.prog W .any base t v := KT
  have QG := w3
  obtain ⟨p, q, JR, QF, rfl, pG, ga⟩ := w3
  have dW : DataW.TrodAll enc Try.prog W 0 (λ_ => true) true Try.f11.params.toList args.toList jz p := JR
  rw [Try.params11] at dW tF
  have Qa := dW
  obtain ⟨v0, We, d0, U8, om, tT, n5, rfl, rfl, bc, xO⟩ := trodAll_cons dW
  obtain ⟨rfl, rfl, rfl⟩ := trodAll_nil xO
  obtain rfl : args = #[v0] := by cases args; simp_all
  obtain ⟨rfl, rfl⟩ := trodVars_none QF
  obtain ⟨a0, k0, qQ⟩ := M1.Tj L1 (tF 0 36 v0 rfl rfl) bc
  clear JR KT
  have aw := t11 a0
  refine (b_.UG (Oj a0 true aw) W (.cons qQ .nil) rfl).mono λe uv ⟨he, a7, hold⟩ => ?_
  subst he
  exact ⟨_, rfl, Tz (pv := []) QG a7 rfl (λ_ _ _ => (trodAll_cons_mk (shut_bool Try.underlying4 _) trodAll_mk0)) (λsp kO => Nq Tq Tr Tp hold (by kernel_rfl) Qa (λp aF => kO p (List.mem_append_left _ aF))) (λ_ _ => rfl)
    (ok_one (by kernel_rfl) rfl (okWide_bool_mk Try.underlying4 _))⟩

theorem over : Rows.settleOneRow.holds Try.pinned (OpenSpec.ofChange Rows.settleOneSpec) :=
  OpenClaim.holds_of_wide 11 Try.f11 rfl rfl rfl rfl rfl rfl rfl ⟨rfl, rfl, rfl, rfl, rfl⟩ rfl rfl rfl rfl rfl (by kernel_rfl) Try.func11 (by kernel_rfl)
    (of_decide_eq_true (by kernel_rfl)) (by unfold Func.isWrapper; first | (rw [if_pos (by decide +kernel)]; kernel_rfl) | (rw [if_neg (by decide +kernel)]; exact ⟨rfl, rfl⟩))
    (λos started H enc _ => lifted os started H enc)

/-- The statement. -/
theorem proved : Rows.SettleOneSaid :=
  over
#print axioms proved
end Go.Proofs.Ytbcajhiedeghlaa.settleOne
