/-
  Of the program as it is given: whatever a source and the numbers of a grammar are: 'yuccalaw22.RowsTells' returns true, and its arguments read as they did. No condition.
-/
import Derived.Test.YtbcajhiedeghlaaE7
import Derived.Test.YtbcajhiedeghlaaRows
import Derived.WalkKit
import Derived.ProofKit
import Derived.OpenShut
import Derived.ShutString
namespace Go.Proofs.Ytbcajhiedeghlaa.rowsTells
open Go.ChangeShapes Go.WideShapes Go.ChangeAt Go.RowKit Go.Own
set_option linter.unusedVariables false

theorem own : ownKnob Try.prog.godebug = none := by kernel_rfl

set_option maxRecDepth 100000 in
theorem lifted (os : Os) (started : os.Started) (H : Type) (enc : TypeId × Value → H) :
    ReturnsInHanded {} Try.checked os 5 .any (Rows.rowsTellsSpec.pre6 enc Try.prog Try.f5 Rows.rowsTellsRow.domain false) (Rows.rowsTellsSpec.post enc Try.prog Try.f5 false true false false) := by
  refine returnsInHanded_of_change (C := Try.checked) own started (by kernel_rfl) Try.func5
    (ChangeSpec.witness6 (enc := enc) (C := Try.checked) false ⟨#[], #[.agg #[.string ByteArray.empty, .slice none 0 0, .slice none 0 0, .string ByteArray.empty], .agg #[.int .i64 0, .slice none 0 0, .slice none 0 0, .slice none 0 0, .bool false]], []⟩ 8 (by kernel_rfl) (by kernel_rfl) (by kernel_rfl) (by kernel_rfl)) ?_
  intro W base args jL gs before Lo xy Wb _
  have sW : ∀ (af : Nat) t v, Try.f5.params[af]? = some t → args[af]? = some v → Value.okWide Try.prog W .any base t v := Lo
  have Q9 := xy
  obtain ⟨p, q, Kn, Q8, rfl, p7, gD⟩ := xy
  have e9 : DataW.TrodAll enc Try.prog W 0 (λ_ => true) true Try.f5.params.toList args.toList jL p := Kn
  rw [Try.params5] at e9 sW
  have QC := e9
  obtain ⟨v0, WX, d0, VJ, oS, wj, oH, rfl, rfl, bd, yo⟩ := trodAll_cons e9
  obtain ⟨v1, WY, d1, VK, fA, j3, rfl, rfl, rfl, h1, ql⟩ := trodAll_cons yo
  obtain ⟨rfl, rfl, rfl⟩ := trodAll_nil ql
  obtain rfl : args = #[v0, v1] := by cases args; simp_all
  obtain ⟨rfl, rfl⟩ := trodVars_none Q8
  obtain ⟨a0, k0, sh⟩ := NI.L2 Mt (sW 0 33 v0 rfl rfl) bd
  obtain ⟨aw, uo, Nu⟩ := NB.L2 Ms (sW 1 36 v1 rfl rfl) h1
  clear Kn Lo
  have ay := t5 a0 aw
  refine (b_.Vh (O' a0 aw true ay) W (.cons sh (.cons Nu .nil)) rfl).mono λe uS ⟨he, a', hold⟩ => ?_
  subst he
  exact ⟨_, rfl, T4 (pv := []) Q9 a' rfl (λ_ _ _ => (trodAll_cons_mk (shut_bool Try.underlying4 _) trodAll_mk0)) (λsp k_ => N5 TV TW TU hold (by kernel_rfl) QC (λp aH => k_ p (List.mem_append_left _ aH))) (λ_ _ => rfl)
    (ok_one (by kernel_rfl) rfl (okWide_bool_mk Try.underlying4 _))⟩

theorem over : Rows.rowsTellsRow.holds Try.pinned (OpenSpec.ofChange Rows.rowsTellsSpec) :=
  OpenClaim.holds_of_wide 5 Try.f5 rfl rfl rfl rfl rfl rfl rfl ⟨rfl, rfl, rfl, rfl, rfl⟩ rfl rfl rfl rfl rfl (by kernel_rfl) Try.func5 (by kernel_rfl)
    (of_decide_eq_true (by kernel_rfl)) (by unfold Func.isWrapper; first | (rw [if_pos (by decide +kernel)]; kernel_rfl) | (rw [if_neg (by decide +kernel)]; exact ⟨rfl, rfl⟩))
    (λos started H enc _ => lifted os started H enc)

/-- The statement. -/
theorem proved : Rows.RowsTellsSaid :=
  over
#print axioms proved
end Go.Proofs.Ytbcajhiedeghlaa.rowsTells
