/-
  Of the program as it is given: whatever a source and the numbers of a grammar are: 'yuccalaw20.SettleTells' returns true, and its arguments read as they did. No condition.
-/
import Derived.Test.YtbcajhiedeghlaaE7
import Derived.Test.YtbcajhiedeghlaaRows
import Derived.WalkKit
import Derived.ProofKit
import Derived.OpenShut
import Derived.ShutString
namespace Go.Proofs.Ytbcajhiedeghlaa.settleTells
open Go.ChangeShapes Go.WideShapes Go.ChangeAt Go.RowKit Go.Own
set_option linter.unusedVariables false

theorem own : ownKnob Try.prog.godebug = none := by kernel_rfl

set_option maxRecDepth 100000 in
theorem lifted (os : Os) (started : os.Started) (H : Type) (enc : TypeId × Value → H) :
    ReturnsInHanded {} Try.checked os 8 .any (Rows.settleTellsSpec.pre6 enc Try.prog Try.f8 Rows.settleTellsRow.domain false) (Rows.settleTellsSpec.post enc Try.prog Try.f8 false true false false) := by
  refine returnsInHanded_of_change (C := Try.checked) own started (by kernel_rfl) Try.func8
    (ChangeSpec.witness6 (enc := enc) (C := Try.checked) false ⟨#[], #[.agg #[.string ByteArray.empty, .slice none 0 0, .slice none 0 0, .string ByteArray.empty], .agg #[.int .i64 0, .slice none 0 0, .slice none 0 0, .slice none 0 0, .bool false]], []⟩ 8 (by kernel_rfl) (by kernel_rfl) (by kernel_rfl) (by kernel_rfl)) ?_
  intro W base args jQ gs before L0 xz WY _
  have sU : ∀ (af : Nat) t v, Try.f8.params[af]? = some t → args[af]? = some v → Value.okWide Try.prog W .any base t v := L0
  have RY := xz
  obtain ⟨p, q, KV, RX, rfl, qa, gv⟩ := xz
  have ej : DataW.TrodAll enc Try.prog W 0 (λ_ => true) true Try.f8.params.toList args.toList jQ p := KV
  rw [Try.params8] at ej sU
  have Rs := ej
  obtain ⟨v0, XH, d0, Wt, oW, uE, oG, rfl, rfl, bf, yn⟩ := trodAll_cons ej
  obtain ⟨v1, XI, d1, Wu, fl, jW, rfl, rfl, rfl, h1, oX⟩ := trodAll_cons yn
  obtain ⟨rfl, rfl, rfl⟩ := trodAll_nil oX
  obtain rfl : args = #[v0, v1] := by cases args; simp_all
  obtain ⟨rfl, rfl⟩ := trodVars_none RX
  obtain ⟨a0, k0, rp⟩ := Oc.Mx M6 (sU 0 33 v0 rfl rfl) bf
  obtain ⟨ar, ur, N1⟩ := N8.Mx M5 (sU 1 36 v1 rfl rfl) h1
  clear KV L0
  have ax := t8 a0 ar
  refine (b6.V5 (P7 a0 ar true ax) W (.cons rp (.cons N1 .nil)) rfl).mono λe u3 ⟨he, bb, hold⟩ => ?_
  subst he
  exact ⟨_, rfl, UY (pv := []) RY bb rfl (λ_ _ _ => (trodAll_cons_mk (shut_bool Try.underlying4 _) trodAll_mk0)) (λsp k7 => OD UO UP UN hold (by kernel_rfl) Rs (λp aH => k7 p (List.mem_append_left _ aH))) (λ_ _ => rfl)
    (ok_one (by kernel_rfl) rfl (okWide_bool_mk Try.underlying4 _))⟩

theorem over : Rows.settleTellsRow.holds Try.pinned (OpenSpec.ofChange Rows.settleTellsSpec) :=
  OpenClaim.holds_of_wide 8 Try.f8 rfl rfl rfl rfl rfl rfl rfl ⟨rfl, rfl, rfl, rfl, rfl⟩ rfl rfl rfl rfl rfl (by kernel_rfl) Try.func8 (by kernel_rfl)
    (of_decide_eq_true (by kernel_rfl)) (by unfold Func.isWrapper; first | (rw [if_pos (by decide +kernel)]; kernel_rfl) | (rw [if_neg (by decide +kernel)]; exact ⟨rfl, rfl⟩))
    (λos started H enc _ => lifted os started H enc)

/-- The statement. -/
theorem proved : Rows.SettleTellsSaid :=
  over
#print axioms proved
end Go.Proofs.Ytbcajhiedeghlaa.settleTells
