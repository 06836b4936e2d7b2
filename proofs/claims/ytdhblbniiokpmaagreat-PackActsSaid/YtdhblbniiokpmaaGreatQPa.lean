/-
  Of the program as it is given: whatever the numbers of a grammar and the other numbers are: 'yuccalaw25.PackActs' returns true, and its arguments read as they did. No condition.
-/
import Derived.Test.YtdhblbniiokpmaaGreatE6
import Derived.Test.YtdhblbniiokpmaaGreatRows
import Derived.WalkKit
import Derived.ProofKit
import Derived.OpenShut
import Derived.ShutString
namespace Go.Proofs.YtdhblbniiokpmaaGreat.packActs
open Go.ChangeShapes Go.WideShapes Go.ChangeAt Go.RowKit Go.Own
set_option linter.unusedVariables false

theorem own : ownKnob Tryz.prog.godebug = none := by kernel_rfl

set_option maxRecDepth 100000 in
theorem lifted (os : Os) (started : os.Started) (H : Type) (enc : TypeId × Value → H) :
    ReturnsInHanded {} Tryz.checked os 4 .any (Rows.packActsSpec.pre6 enc Tryz.prog Tryz.f4 Rows.packActsRow.domain false) (Rows.packActsSpec.post enc Tryz.prog Tryz.f4 false true false false) := by
  refine returnsInHanded_of_change (C := Tryz.checked) own started (by kernel_rfl) Tryz.func4
    (ChangeSpec.witness6 (enc := enc) (C := Tryz.checked) false ⟨#[], #[.agg #[.int .i64 0, .slice none 0 0, .slice none 0 0, .slice none 0 0, .bool false], .int .i64 0, .int .i64 0], []⟩ 8 (by kernel_rfl) (by kernel_rfl) (by kernel_rfl) (by kernel_rfl)) ?_
  intro W base args jH gs before N9 sF ab5 _
  have og : ∀ (j : Nat) t v, Tryz.f4.params[j]? = some t → args[j]? = some v → Value.okWide Tryz.prog W .any base t v := N9
  have Uu := sF
  obtain ⟨p, q, MV, u6, rfl, rb, fp⟩ := sF
  have et : DataW.TrodAll enc Tryz.prog W 0 (λ_ => true) true Tryz.f4.params.toList args.toList jH p := MV
  rw [Tryz.params4] at et og
  have TY := et
  obtain ⟨v0, ac2, d0, abu, nT, Db, qm, rfl, rfl, aR, As⟩ := trodAll_cons et
  obtain ⟨v1, ac3, d1, abv, eW, ll, rfl, rfl, rfl, h1, s6⟩ := trodAll_cons As
  obtain ⟨v2, ac4, d2, abw, qF, Dc, rfl, rfl, rfl, af, jQ⟩ := trodAll_cons s6
  obtain ⟨rfl, rfl, rfl⟩ := trodAll_nil jQ
  obtain rfl : args = #[v0, v1, v2] := by cases args; simp_all
  obtain ⟨rfl, rfl⟩ := trodVars_none u6
  obtain ⟨a0, k0, tj⟩ := Rb.Xl PI (og 0 29 v0 rfl rfl) aR
  obtain ⟨aE, zH, Q4⟩ := DX.O6 (λ_ => rfl) KE (og 1 3 v1 rfl rfl) h1
  obtain ⟨a2, pL, gK⟩ := DX.O6 (λ_ => rfl) KE (og 2 3 v2 rfl rfl) af
  clear MV N9
  have ao := t4 a0 aE a2
  refine (bT.Zi (bz.go (P := Tryz.prog) ao) W (.cons tj (.cons Q4 (.cons gK .nil))) rfl).mono λe wu ⟨he, aO, hold⟩ => ?_
  subst he
  exact ⟨_, rfl, XP (pv := []) Uu aO rfl (λ_ _ _ => (trodAll_cons_mk (shut_bool Tryz.underlying4 _) trodAll_mk0)) (λsp je => Rx XD XE XC hold (by kernel_rfl) TY (λp au => je p (List.mem_append_left _ au))) (λ_ _ => rfl)
    (ok_one (by kernel_rfl) rfl (okWide_bool_mk Tryz.underlying4 _))⟩

theorem over : Rows.packActsRow.holds Tryz.pinned (OpenSpec.ofChange Rows.packActsSpec) :=
  OpenClaim.holds_of_wide 4 Tryz.f4 rfl rfl rfl rfl rfl rfl rfl ⟨rfl, rfl, rfl, rfl, rfl⟩ rfl rfl rfl rfl rfl (by kernel_rfl) Tryz.func4 (by kernel_rfl)
    (of_decide_eq_true (by kernel_rfl)) (by unfold Func.isWrapper; first | (rw [if_pos (by decide +kernel)]; kernel_rfl) | (rw [if_neg (by decide +kernel)]; exact ⟨rfl, rfl⟩))
    (λos started H enc _ => lifted os started H enc)

/-- The statement. -/
theorem proved : Rows.PackActsSaid :=
  over
#print axioms proved
end Go.Proofs.YtdhblbniiokpmaaGreat.packActs
