/-
  Of the program as it is given: whatever the texts, declarations and rules of a source are: 'yuccalaw25.PackSame' returns true, and its argument reads as it did. No condition.
-/
import Derived.Test.YtdhblbniiokpmaaGreatE7
import Derived.Test.YtdhblbniiokpmaaGreatRows
import Derived.WalkKit
import Derived.ProofKit
import Derived.OpenShut
import Derived.ShutString
namespace Go.Proofs.YtdhblbniiokpmaaGreat.packSame
open Go.ChangeShapes Go.WideShapes Go.ChangeAt Go.RowKit Go.Own
set_option linter.unusedVariables false

theorem own : ownKnob Tryz.prog.godebug = none := by kernel_rfl

set_option maxRecDepth 100000 in
theorem lifted (os : Os) (started : os.Started) (H : Type) (enc : TypeId × Value → H) :
    ReturnsInHanded {} Tryz.checked os 6 .any (Rows.packSameSpec.pre6 enc Tryz.prog Tryz.f6 Rows.packSameRow.domain false) (Rows.packSameSpec.post enc Tryz.prog Tryz.f6 false true false false) := by
  refine returnsInHanded_of_change (C := Tryz.checked) own started (by kernel_rfl) Tryz.func6
    (ChangeSpec.witness6 (enc := enc) (C := Tryz.checked) false ⟨#[], #[.agg #[.string ByteArray.empty, .slice none 0 0, .slice none 0 0, .string ByteArray.empty]], []⟩ 8 (by kernel_rfl) (by kernel_rfl) (by kernel_rfl) (by kernel_rfl)) ?_
  intro W base args jL gs before Oq sH acC _
  have pF : ∀ (j : Nat) t v, Tryz.f6.params[j]? = some t → args[j]? = some v → Value.okWide Tryz.prog W .any base t v := Oq
  have UW := sH
  obtain ⟨p, q, M', vd, rfl, q_, fp⟩ := sH
  have er : DataW.TrodAll enc Tryz.prog W 0 (λ_ => true) true Tryz.f6.params.toList args.toList jL p := M'
  rw [Tryz.params6] at er pF
  have Um := er
  obtain ⟨v0, adx, d0, ab2, nS, Dh, ql, rfl, rfl, aQ, Av⟩ := trodAll_cons er
  obtain ⟨rfl, rfl, rfl⟩ := trodAll_nil Av
  obtain rfl : args = #[v0] := by cases args; simp_all
  obtain ⟨rfl, rfl⟩ := trodVars_none vd
  obtain ⟨a0, k0, tt⟩ := Rz.XS PY (pF 0 25 v0 rfl rfl) aQ
  clear M' Oq
  have ao := t6 a0
  refine (bU.ZQ (bD.go (P := Tryz.prog) ao) W (.cons tt .nil) rfl).mono λe wD ⟨he, aO, hold⟩ => ?_
  subst he
  exact ⟨_, rfl, Yk (pv := []) UW aO rfl (λ_ _ _ => (trodAll_cons_mk (shut_bool Tryz.underlying4 _) trodAll_mk0)) (λsp je => RU X_ X' X9 hold (by kernel_rfl) Um (λp au => je p (List.mem_append_left _ au))) (λ_ _ => rfl)
    (ok_one (by kernel_rfl) rfl (okWide_bool_mk Tryz.underlying4 _))⟩

theorem over : Rows.packSameRow.holds Tryz.pinned (OpenSpec.ofChange Rows.packSameSpec) :=
  OpenClaim.holds_of_wide 6 Tryz.f6 rfl rfl rfl rfl rfl rfl rfl ⟨rfl, rfl, rfl, rfl, rfl⟩ rfl rfl rfl rfl rfl (by kernel_rfl) Tryz.func6 (by kernel_rfl)
    (of_decide_eq_true (by kernel_rfl)) (by unfold Func.isWrapper; first | (rw [if_pos (by decide +kernel)]; kernel_rfl) | (rw [if_neg (by decide +kernel)]; exact ⟨rfl, rfl⟩))
    (λos started H enc _ => lifted os started H enc)

/-- The statement. -/
theorem proved : Rows.PackSameSaid :=
  over
#print axioms proved
end Go.Proofs.YtdhblbniiokpmaaGreat.packSame
