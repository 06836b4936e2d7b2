/-
  Of the program as it is given: whatever numbers tell a grammar, a list of tokens, an end and what stands behind it: 'yuccalaw26.DriveEnds' returns true, and its arguments read as they did. No condition.
-/
import Derived.Test.YtaddiiogopnkpaaGreatE13
import Derived.Test.YtaddiiogopnkpaaGreatRows
import Derived.WalkKit
import Derived.ProofKit
import Derived.OpenShut
import Derived.ShutString
namespace Go.Proofs.YtaddiiogopnkpaaGreat.driveEnds
open Go.ChangeShapes Go.WideShapes Go.ChangeAt Go.RowKit Go.Own
set_option linter.unusedVariables false

theorem own : ownKnob Tryz.prog.godebug = none := by kernel_rfl

set_option maxRecDepth 100000 in
theorem lifted (os : Os) (started : os.Started) (H : Type) (enc : TypeId × Value → H) :
    ReturnsInHanded {} Tryz.checked os 5 .any (Rows.driveEndsSpec.pre6 enc Tryz.prog Tryz.f5 Rows.driveEndsRow.domain false) (Rows.driveEndsSpec.post enc Tryz.prog Tryz.f5 false true false false) := by
  refine returnsInHanded_of_change (C := Tryz.checked) own started (by kernel_rfl) Tryz.func5
    (ChangeSpec.witness6 (enc := enc) (C := Tryz.checked) false ⟨#[], #[.agg #[.int .i64 0, .slice none 0 0, .slice none 0 0, .slice none 0 0, .bool false], .slice none 0 0, .int .i64 0, .slice none 0 0], []⟩ 8 (by kernel_rfl) (by kernel_rfl) (by kernel_rfl) (by kernel_rfl)) ?_
  intro W base args jE gs before O1 jG aeR _
  have nz : ∀ (j : Nat) t v, Tryz.f5.params[j]? = some t → args[j]? = some v → Value.okWide Tryz.prog W .any base t v := O1
  have Wv := jG
  obtain ⟨p, q, NX, vm, rfl, o6, eA⟩ := jG
  have dI : DataW.TrodAll enc Tryz.prog W 0 (λ_ => true) true Tryz.f5.params.toList args.toList jE p := NX
  rw [Tryz.params5] at dI nz
  have VY := dI
  obtain ⟨v0, afH, d0, aek, kI, DX, qm, rfl, rfl, aK, AW⟩ := trodAll_cons dI
  obtain ⟨v1, afI, d1, ael, ew, mm, rfl, rfl, rfl, h1, uJ⟩ := trodAll_cons AW
  obtain ⟨v2, afJ, d2, aem, rB, Qy, rfl, rfl, rfl, af, hE⟩ := trodAll_cons uJ
  obtain ⟨v3, afK, d3, aen, Ak, Lg, rfl, rfl, rfl, aD, wg⟩ := trodAll_cons hE
  obtain ⟨rfl, rfl, rfl⟩ := trodAll_nil wg
  obtain rfl : args = #[v0, v1, v2, v3] := by cases args; simp_all
  obtain ⟨rfl, rfl⟩ := trodVars_none vm
  obtain ⟨a0, k0, tE⟩ := Sz.Zm QS (nz 0 29 v0 rfl rfl) aK
  obtain ⟨av, vQ, Sn⟩ := Bn.P' LL (nz 1 27 v1 rfl rfl) h1
  obtain ⟨a2, td, gu⟩ := HA.Zn (λ_ => rfl) Ry (nz 2 3 v2 rfl rfl) af
  obtain ⟨a3, Pu, Sp⟩ := Bn.P' LL (nz 3 27 v3 rfl rfl) aD
  clear NX O1
  have hr := t5 a0 av a2 a3
  refine (bO.abF (bw.go (P := Tryz.prog) hr) W (.cons tE (.cons Sn (.cons gu (.cons Sp .nil)))) rfl trivial).mono λe wJ ⟨he, aP, hold⟩ => ?_
  subst he
  exact ⟨_, rfl, ZU (pv := []) Wv aP rfl (λ_ _ _ => (trodAll_cons_mk (shut_bool Tryz.underlying4 _) trodAll_mk0)) (λsp iV => S6 ZG ZH ZF hold (by kernel_rfl) VY (λp aq => iV p (List.mem_append_left _ aq))) (λ_ _ => rfl)
    (ok_one (by kernel_rfl) rfl (okWide_bool_mk Tryz.underlying4 _))⟩

theorem over : Rows.driveEndsRow.holds Tryz.pinned (OpenSpec.ofChange Rows.driveEndsSpec) :=
  OpenClaim.holds_of_wide 5 Tryz.f5 rfl rfl rfl rfl rfl rfl rfl ⟨rfl, rfl, rfl, rfl, rfl⟩ rfl rfl rfl rfl rfl (by kernel_rfl) Tryz.func5 (by kernel_rfl)
    (of_decide_eq_true (by kernel_rfl)) (by unfold Func.isWrapper; first | (rw [if_pos (by decide +kernel)]; kernel_rfl) | (rw [if_neg (by decide +kernel)]; exact ⟨rfl, rfl⟩))
    (λos started H enc _ => lifted os started H enc)

/-- The statement. -/
theorem proved : Rows.DriveEndsSaid :=
  over
#print axioms proved
end Go.Proofs.YtaddiiogopnkpaaGreat.driveEnds
