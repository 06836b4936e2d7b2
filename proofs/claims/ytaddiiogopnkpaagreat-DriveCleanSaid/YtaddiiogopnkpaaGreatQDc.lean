/-
  Of the program as it is given: whatever numbers tell a grammar and a list of tokens: 'yuccalaw26.DriveClean' returns true, and its arguments read as they did. No condition.
-/
import Derived.Test.YtaddiiogopnkpaaGreatE13
import Derived.Test.YtaddiiogopnkpaaGreatRows
import Derived.WalkKit
import Derived.ProofKit
import Derived.OpenShut
import Derived.ShutString
namespace Go.Proofs.YtaddiiogopnkpaaGreat.driveClean
open Go.ChangeShapes Go.WideShapes Go.ChangeAt Go.RowKit Go.Own
set_option linter.unusedVariables false

theorem own : ownKnob Tryz.prog.godebug = none := by kernel_rfl

set_option maxRecDepth 100000 in
theorem lifted (os : Os) (started : os.Started) (H : Type) (enc : TypeId × Value → H) :
    ReturnsInHanded {} Tryz.checked os 6 .any (Rows.driveCleanSpec.pre6 enc Tryz.prog Tryz.f6 Rows.driveCleanRow.domain false) (Rows.driveCleanSpec.post enc Tryz.prog Tryz.f6 false true false false) := by
  refine returnsInHanded_of_change (C := Tryz.checked) own started (by kernel_rfl) Tryz.func6
    (ChangeSpec.witness6 (enc := enc) (C := Tryz.checked) false ⟨#[], #[.agg #[.int .i64 0, .slice none 0 0, .slice none 0 0, .slice none 0 0, .bool false], .slice none 0 0], []⟩ 8 (by kernel_rfl) (by kernel_rfl) (by kernel_rfl) (by kernel_rfl)) ?_
  intro W base args jI gs before O7 jK aeg _
  have oK : ∀ (j : Nat) t v, Tryz.f6.params[j]? = some t → args[j]? = some v → Value.okWide Tryz.prog W .any base t v := O7
  have Wk := jK
  obtain ⟨p, q, N2, vp, rfl, o', eG⟩ := jK
  have dL : DataW.TrodAll enc Tryz.prog W 0 (λ_ => true) true Tryz.f6.params.toList args.toList jI p := N2
  rw [Tryz.params6] at dL oK
  have VN := dL
  obtain ⟨v0, ae5, d0, adP, kT, D0, qt, rfl, rfl, aK, AW⟩ := trodAll_cons dL
  obtain ⟨v1, ae6, d1, adQ, eD, mq, rfl, rfl, rfl, h1, uO⟩ := trodAll_cons AW
  obtain ⟨rfl, rfl, rfl⟩ := trodAll_nil uO
  obtain rfl : args = #[v0, v1] := by cases args; simp_all
  obtain ⟨rfl, rfl⟩ := trodVars_none vp
  obtain ⟨a0, k0, tH⟩ := Sx.Za QT (oK 0 29 v0 rfl rfl) aK
  obtain ⟨aw, vU, Sm⟩ := EU.Zb Ry (oK 1 27 v1 rfl rfl) h1
  clear N2 O7
  have hr := t6 a0 aw
  refine (bS.abm (bw.go (P := Tryz.prog) hr) W (.cons tH (.cons Sm .nil)) rfl trivial).mono λe wN ⟨he, aN, hold⟩ => ?_
  subst he
  exact ⟨_, rfl, ZI (pv := []) Wk aN rfl (λ_ _ _ => (trodAll_cons_mk (shut_bool Tryz.underlying4 _) trodAll_mk0)) (λsp ja => S4 Zu Zv Zt hold (by kernel_rfl) VN (λp aq => ja p (List.mem_append_left _ aq))) (λ_ _ => rfl)
    (ok_one (by kernel_rfl) rfl (okWide_bool_mk Tryz.underlying4 _))⟩

theorem over : Rows.driveCleanRow.holds Tryz.pinned (OpenSpec.ofChange Rows.driveCleanSpec) :=
  OpenClaim.holds_of_wide 6 Tryz.f6 rfl rfl rfl rfl rfl rfl rfl ⟨rfl, rfl, rfl, rfl, rfl⟩ rfl rfl rfl rfl rfl (by kernel_rfl) Tryz.func6 (by kernel_rfl)
    (of_decide_eq_true (by kernel_rfl)) (by unfold Func.isWrapper; first | (rw [if_pos (by decide +kernel)]; kernel_rfl) | (rw [if_neg (by decide +kernel)]; exact ⟨rfl, rfl⟩))
    (λos started H enc _ => lifted os started H enc)

/-- The statement. -/
theorem proved : Rows.DriveCleanSaid :=
  over
#print axioms proved
end Go.Proofs.YtaddiiogopnkpaaGreat.driveClean
