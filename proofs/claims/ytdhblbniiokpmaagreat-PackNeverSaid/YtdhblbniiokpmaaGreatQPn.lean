/-
  Of the program as it is given: whatever the numbers of a grammar and the other numbers are: 'yuccalaw25.PackNever' returns true, and its arguments read as they did. No condition.
-/
import Derived.Test.YtdhblbniiokpmaaGreatE7
import Derived.Test.YtdhblbniiokpmaaGreatRows
import Derived.WalkKit
import Derived.ProofKit
import Derived.OpenShut
import Derived.ShutString
namespace Go.Proofs.YtdhblbniiokpmaaGreat.packNever
open Go.ChangeShapes Go.WideShapes Go.ChangeAt Go.RowKit Go.Own
set_option linter.unusedVariables false

theorem own : ownKnob Tryz.prog.godebug = none := by kernel_rfl

set_option maxRecDepth 100000 in
theorem lifted (os : Os) (started : os.Started) (H : Type) (enc : TypeId × Value → H) :
    ReturnsInHanded {} Tryz.checked os 7 .any (Rows.packNeverSpec.pre6 enc Tryz.prog Tryz.f7 Rows.packNeverRow.domain false) (Rows.packNeverSpec.post enc Tryz.prog Tryz.f7 false true false false) := by
  refine returnsInHanded_of_change (C := Tryz.checked) own started (by kernel_rfl) Tryz.func7
    (ChangeSpec.witness6 (enc := enc) (C := Tryz.checked) false ⟨#[], #[.agg #[.int .i64 0, .slice none 0 0, .slice none 0 0, .slice none 0 0, .bool false]], []⟩ 8 (by kernel_rfl) (by kernel_rfl) (by kernel_rfl) (by kernel_rfl)) ?_
  intro W base args jJ gs before Oj sK acj _
  have pF : ∀ (j : Nat) t v, Tryz.f7.params[j]? = some t → args[j]? = some v → Value.okWide Tryz.prog W .any base t v := Oj
  have UH := sK
  obtain ⟨p, q, M6, vf, rfl, q', fm⟩ := sK
  have ev : DataW.TrodAll enc Tryz.prog W 0 (λ_ => true) true Tryz.f7.params.toList args.toList jJ p := M6
  rw [Tryz.params7] at ev pF
  have T_ := ev
  obtain ⟨v0, adf, d0, abK, nU, De, qk, rfl, rfl, aQ, Ar⟩ := trodAll_cons ev
  obtain ⟨rfl, rfl, rfl⟩ := trodAll_nil Ar
  obtain rfl : args = #[v0] := by cases args; simp_all
  obtain ⟨rfl, rfl⟩ := trodVars_none vf
  obtain ⟨a0, k0, tt⟩ := Rm.XB PU (pF 0 29 v0 rfl rfl) aQ
  clear M6 Oj
  have aq := t7 a0
  refine (bU.Zy (bD.go (P := Tryz.prog) aq) W (.cons tt .nil) rfl).mono λe wD ⟨he, aO, hold⟩ => ?_
  subst he
  exact ⟨_, rfl, X5 (pv := []) UH aO rfl (λ_ _ _ => (trodAll_cons_mk (shut_bool Tryz.underlying4 _) trodAll_mk0)) (λsp jf => RI XT XU XS hold (by kernel_rfl) T_ (λp au => jf p (List.mem_append_left _ au))) (λ_ _ => rfl)
    (ok_one (by kernel_rfl) rfl (okWide_bool_mk Tryz.underlying4 _))⟩

theorem over : Rows.packNeverRow.holds Tryz.pinned (OpenSpec.ofChange Rows.packNeverSpec) :=
  OpenClaim.holds_of_wide 7 Tryz.f7 rfl rfl rfl rfl rfl rfl rfl ⟨rfl, rfl, rfl, rfl, rfl⟩ rfl rfl rfl rfl rfl (by kernel_rfl) Tryz.func7 (by kernel_rfl)
    (of_decide_eq_true (by kernel_rfl)) (by unfold Func.isWrapper; first | (rw [if_pos (by decide +kernel)]; kernel_rfl) | (rw [if_neg (by decide +kernel)]; exact ⟨rfl, rfl⟩))
    (λos started H enc _ => lifted os started H enc)

/-- The statement. -/
theorem proved : Rows.PackNeverSaid :=
  over
#print axioms proved
end Go.Proofs.YtdhblbniiokpmaaGreat.packNever
