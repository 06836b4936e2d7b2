/-
  Of the program as it is given: whatever the numbers of a grammar are: 'yuccalaw20.SettleSums' returns true, and its arguments read as they did. No condition.
-/
import Derived.Test.YtbcajhiedeghlaaE6
import Derived.Test.YtbcajhiedeghlaaRows
import Derived.WalkKit
import Derived.ProofKit
import Derived.OpenShut
import Derived.ShutString
namespace Go.Proofs.Ytbcajhiedeghlaa.settleSums
open Go.ChangeShapes Go.WideShapes Go.ChangeAt Go.RowKit Go.Own
set_option linter.unusedVariables false

theorem own : ownKnob Try.prog.godebug = none := by kernel_rfl

set_option maxRecDepth 100000 in
theorem lifted (os : Os) (started : os.Started) (H : Type) (enc : TypeId × Value → H) :
    ReturnsInHanded {} Try.checked os 10 .any (Rows.settleSumsSpec.pre6 enc Try.prog Try.f10 Rows.settleSumsRow.domain false) (Rows.settleSumsSpec.post enc Try.prog Try.f10 false true false false) := by
  refine returnsInHanded_of_change (C := Try.checked) own started (by kernel_rfl) Try.func10
    (ChangeSpec.witness6 (enc := enc) (C := Try.checked) false ⟨#[], #[.agg #[.int .i64 0, .slice none 0 0, .slice none 0 0, .slice none 0 0, .bool false]], []⟩ 8 (by kernel_rfl) (by kernel_rfl) (by kernel_rfl) (by kernel_rfl)) ?_
  intro W base args iZ gs before Ay sS Sl _
  have q8 : ∀ (ae : Nat) t v, Try.f10.params[ae]? = some t → args[ae]? = some v → Value.okWide Try.prog W .any base t v := Ay
  have F2 := sS
  obtain ⟨p, q, zU, F1, rfl, po, gg⟩ := sS
  have dA : DataW.TrodAll enc Try.prog W 0 (λ_ => true) true Try.f10.params.toList args.toList iZ p := zU
  rw [Try.params10] at dA q8
  have FC := dA
  obtain ⟨v0, VZ, d0, Qy, ob, te, nW, rfl, rfl, bd, uR⟩ := trodAll_cons dA
  obtain ⟨rfl, rfl, rfl⟩ := trodAll_nil uR
  obtain rfl : args = #[v0] := by cases args; simp_all
  obtain ⟨rfl, rfl⟩ := trodVars_none F1
  obtain ⟨a0, k0, pZ⟩ := Jg.MH Ig (q8 0 36 v0 rfl rfl) bd
  clear zU Ay
  have aw := t10 a0
  refine (cc.N4 (PF a0 true aw) W (.cons pZ .nil) rfl).mono λe tL ⟨he, ba, hold⟩ => ?_
  subst he
  exact ⟨_, rfl, M9 (pv := []) F2 ba rfl (λ_ _ _ => (trodAll_cons_mk (shut_bool Try.underlying4 _) trodAll_mk0)) (λsp ko => Jv MP MQ MO hold (by kernel_rfl) FC (λp aG => ko p (List.mem_append_left _ aG))) (λ_ _ => rfl)
    (ok_one (by kernel_rfl) rfl (okWide_bool_mk Try.underlying4 _))⟩

theorem over : Rows.settleSumsRow.holds Try.pinned (OpenSpec.ofChange Rows.settleSumsSpec) :=
  OpenClaim.holds_of_wide 10 Try.f10 rfl rfl rfl rfl rfl rfl rfl ⟨rfl, rfl, rfl, rfl, rfl⟩ rfl rfl rfl rfl rfl (by kernel_rfl) Try.func10 (by kernel_rfl)
    (of_decide_eq_true (by kernel_rfl)) (by unfold Func.isWrapper; first | (rw [if_pos (by decide +kernel)]; kernel_rfl) | (rw [if_neg (by decide +kernel)]; exact ⟨rfl, rfl⟩))
    (λos started H enc _ => lifted os started H enc)

/-- The statement. -/
theorem proved : Rows.SettleSumsSaid :=
  over
#print axioms proved
end Go.Proofs.Ytbcajhiedeghlaa.settleSums
