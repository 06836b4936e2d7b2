/-
  Of the program as it is given: whatever the numbers of a grammar and the other numbers are: 'yuccalaw25.PackGos' returns true, and its arguments read as they did. No condition.
-/
import Derived.Test.YtdhblbniiokpmaaGreatE6
import Derived.Test.YtdhblbniiokpmaaGreatRows
import Derived.WalkKit
import Derived.ProofKit
import Derived.OpenShut
import Derived.ShutString
namespace Go.Proofs.YtdhblbniiokpmaaGreat.packGos
open Go.ChangeShapes Go.WideShapes Go.ChangeAt Go.RowKit Go.Own
set_option linter.unusedVariables false

theorem own : ownKnob Tryz.prog.godebug = none := by kernel_rfl

set_option maxRecDepth 100000 in
theorem lifted (os : Os) (started : os.Started) (H : Type) (enc : TypeId × Value → H) :
    ReturnsInHanded {} Tryz.checked os 5 .any (Rows.packGosSpec.pre6 enc Tryz.prog Tryz.f5 Rows.packGosRow.domain false) (Rows.packGosSpec.post enc Tryz.prog Tryz.f5 false true false false) := by
  refine returnsInHanded_of_change (C := Tryz.checked) own started (by kernel_rfl) Tryz.func5
    (ChangeSpec.witness6 (enc := enc) (C := Tryz.checked) false ⟨#[], #[.agg #[.int .i64 0, .slice none 0 0, .slice none 0 0, .slice none 0 0, .bool false], .int .i64 0, .int .i64 0], []⟩ 8 (by kernel_rfl) (by kernel_rfl) (by kernel_rfl) (by kernel_rfl)) ?_
  intro W base args jI gs before Oa sK ab6 _
  have oh : ∀ (j : Nat) t v, Tryz.f5.params[j]? = some t → args[j]? = some v → Value.okWide Tryz.prog W .any base t v := Oa
  have Uw := sK
  obtain ⟨p, q, MY, u', rfl, re, ft⟩ := sK
  have et : DataW.TrodAll enc Tryz.prog W 0 (λ_ => true) true Tryz.f5.params.toList args.toList jI p := MY
  rw [Tryz.params5] at et oh
  have T0 := et
  obtain ⟨v0, ac3, d0, abv, nU, De, qo, rfl, rfl, aR, As⟩ := trodAll_cons et
  obtain ⟨v1, ac4, d1, abw, eU, ln, rfl, rfl, rfl, h1, s'⟩ := trodAll_cons As
  obtain ⟨v2, ac5, d2, abx, qG, Df, rfl, rfl, rfl, af, j1⟩ := trodAll_cons s'
  obtain ⟨rfl, rfl, rfl⟩ := trodAll_nil j1
  obtain rfl : args = #[v0, v1, v2] := by cases args; simp_all
  obtain ⟨rfl, rfl⟩ := trodVars_none u'
  obtain ⟨a0, k0, tq⟩ := Rf.Xn PL (oh 0 29 v0 rfl rfl) aR
  obtain ⟨aE, zH, Q7⟩ := D0.O9 (λ_ => rfl) KH (oh 1 3 v1 rfl rfl) h1
  obtain ⟨a2, pN, gL⟩ := D0.O9 (λ_ => rfl) KH (oh 2 3 v2 rfl rfl) af
  clear MY Oa
  have ao := t5 a0 aE a2
  refine (bV.Zj (bA.go (P := Tryz.prog) ao) W (.cons tq (.cons Q7 (.cons gL .nil))) rfl).mono λe wx ⟨he, aO, hold⟩ => ?_
  subst he
  exact ⟨_, rfl, XR (pv := []) Uw aO rfl (λ_ _ _ => (trodAll_cons_mk (shut_bool Tryz.underlying4 _) trodAll_mk0)) (λsp je => RA XF XG XE hold (by kernel_rfl) T0 (λp au => je p (List.mem_append_left _ au))) (λ_ _ => rfl)
    (ok_one (by kernel_rfl) rfl (okWide_bool_mk Tryz.underlying4 _))⟩

theorem over : Rows.packGosRow.holds Tryz.pinned (OpenSpec.ofChange Rows.packGosSpec) :=
  OpenClaim.holds_of_wide 5 Tryz.f5 rfl rfl rfl rfl rfl rfl rfl ⟨rfl, rfl, rfl, rfl, rfl⟩ rfl rfl rfl rfl rfl (by kernel_rfl) Tryz.func5 (by kernel_rfl)
    (of_decide_eq_true (by kernel_rfl)) (by unfold Func.isWrapper; first | (rw [if_pos (by decide +kernel)]; kernel_rfl) | (rw [if_neg (by decide +kernel)]; exact ⟨rfl, rfl⟩))
    (λos started H enc _ => lifted os started H enc)

/-- The statement. -/
theorem proved : Rows.PackGosSaid :=
  over
#print axioms proved
end Go.Proofs.YtdhblbniiokpmaaGreat.packGos
