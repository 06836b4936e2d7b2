/-
  Of the program as it is given: whatever the texts, declarations and rules of a source and the numbers of a grammar are: 'yuccalaw25.PackTells' returns true, and its arguments read as they did. No condition.
-/
import Derived.Test.YtdhblbniiokpmaaGreatE7
import Derived.Test.YtdhblbniiokpmaaGreatRows
import Derived.WalkKit
import Derived.ProofKit
import Derived.OpenShut
import Derived.ShutString
namespace Go.Proofs.YtdhblbniiokpmaaGreat.packTells
open Go.ChangeShapes Go.WideShapes Go.ChangeAt Go.RowKit Go.Own
set_option linter.unusedVariables false

theorem own : ownKnob Tryz.prog.godebug = none := by kernel_rfl

set_option maxRecDepth 100000 in
theorem lifted (os : Os) (started : os.Started) (H : Type) (enc : TypeId × Value → H) :
    ReturnsInHanded {} Tryz.checked os 3 .any (Rows.packTellsSpec.pre6 enc Tryz.prog Tryz.f3 Rows.packTellsRow.domain false) (Rows.packTellsSpec.post enc Tryz.prog Tryz.f3 false true false false) := by
  refine returnsInHanded_of_change (C := Tryz.checked) own started (by kernel_rfl) Tryz.func3
    (ChangeSpec.witness6 (enc := enc) (C := Tryz.checked) false ⟨#[], #[.agg #[.string ByteArray.empty, .slice none 0 0, .slice none 0 0, .string ByteArray.empty], .agg #[.int .i64 0, .slice none 0 0, .slice none 0 0, .slice none 0 0, .bool false]], []⟩ 8 (by kernel_rfl) (by kernel_rfl) (by kernel_rfl) (by kernel_rfl)) ?_
  intro W base args jB gs before OF sI acK _
  have oM : ∀ (j : Nat) t v, Tryz.f3.params[j]? = some t → args[j]? = some v → Value.okWide Tryz.prog W .any base t v := OF
  have U9 := sI
  obtain ⟨p, q, Nu, vj, rfl, q8, fr⟩ := sI
  have ek : DataW.TrodAll enc Tryz.prog W 0 (λ_ => true) true Tryz.f3.params.toList args.toList jB p := Nu
  rw [Tryz.params3] at ek oM
  have UB := ek
  obtain ⟨v0, adI, d0, ab', nN, Dn, qf, rfl, rfl, aT, Ax⟩ := trodAll_cons ek
  obtain ⟨v1, adJ, d1, aca, eU, lq, rfl, rfl, rfl, h1, s'⟩ := trodAll_cons Ax
  obtain ⟨rfl, rfl, rfl⟩ := trodAll_nil s'
  obtain rfl : args = #[v0, v1] := by cases args; simp_all
  obtain ⟨rfl, rfl⟩ := trodVars_none vj
  obtain ⟨a0, k0, tq⟩ := RT.Px Qc (oM 0 25 v0 rfl rfl) aT
  obtain ⟨aF, zI, Rx⟩ := RM.Px Qb (oM 1 29 v1 rfl rfl) h1
  clear Nu OF
  have aj := t3 a0 aF
  refine (bR.ZZ (bC.go (P := Tryz.prog) aj) W (.cons tq (.cons Rx .nil)) rfl).mono λe wF ⟨he, aP, hold⟩ => ?_
  subst he
  exact ⟨_, rfl, Yv (pv := []) U9 aP rfl (λ_ _ _ => (trodAll_cons_mk (shut_bool Tryz.underlying4 _) trodAll_mk0)) (λsp i' => Se Yj Yk Yi hold (by kernel_rfl) UB (λp ar => i' p (List.mem_append_left _ ar))) (λ_ _ => rfl)
    (ok_one (by kernel_rfl) rfl (okWide_bool_mk Tryz.underlying4 _))⟩

theorem over : Rows.packTellsRow.holds Tryz.pinned (OpenSpec.ofChange Rows.packTellsSpec) :=
  OpenClaim.holds_of_wide 3 Tryz.f3 rfl rfl rfl rfl rfl rfl rfl ⟨rfl, rfl, rfl, rfl, rfl⟩ rfl rfl rfl rfl rfl (by kernel_rfl) Tryz.func3 (by kernel_rfl)
    (of_decide_eq_true (by kernel_rfl)) (by unfold Func.isWrapper; first | (rw [if_pos (by decide +kernel)]; kernel_rfl) | (rw [if_neg (by decide +kernel)]; exact ⟨rfl, rfl⟩))
    (λos started H enc _ => lifted os started H enc)

/-- The statement. -/
theorem proved : Rows.PackTellsSaid :=
  over
#print axioms proved
end Go.Proofs.YtdhblbniiokpmaaGreat.packTells
