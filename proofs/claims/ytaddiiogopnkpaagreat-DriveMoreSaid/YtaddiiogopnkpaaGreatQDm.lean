/-
  Of the program as it is given: whatever numbers tell a grammar, a list of tokens and limits: 'yuccalaw26.DriveMore' returns true, and its arguments read as they did. No condition.
-/
import Derived.Test.YtaddiiogopnkpaaGreatE13
import Derived.Test.YtaddiiogopnkpaaGreatRows
import Derived.WalkKit
import Derived.ProofKit
import Derived.OpenShut
import Derived.ShutString
namespace Go.Proofs.YtaddiiogopnkpaaGreat.driveMore
open Go.ChangeShapes Go.WideShapes Go.ChangeAt Go.RowKit Go.Own
set_option linter.unusedVariables false

theorem own : ownKnob Tryz.prog.godebug = none := by kernel_rfl

set_option maxRecDepth 100000 in
theorem lifted (os : Os) (started : os.Started) (H : Type) (enc : TypeId × Value → H) :
    ReturnsInHanded {} Tryz.checked os 4 .any (Rows.driveMoreSpec.pre6 enc Tryz.prog Tryz.f4 Rows.driveMoreRow.domain false) (Rows.driveMoreSpec.post enc Tryz.prog Tryz.f4 false true false false) := by
  refine returnsInHanded_of_change (C := Tryz.checked) own started (by kernel_rfl) Tryz.func4
    (ChangeSpec.witness6 (enc := enc) (C := Tryz.checked) false ⟨#[], #[.agg #[.int .i64 0, .slice none 0 0, .slice none 0 0, .slice none 0 0, .bool false], .slice none 0 0, .int .i64 0, .int .i64 0, .int .i64 0], []⟩ 8 (by kernel_rfl) (by kernel_rfl) (by kernel_rfl) (by kernel_rfl)) ?_
  intro W base args jL gs before O9 jN aeS _
  have mV : ∀ (j : Nat) t v, Tryz.f4.params[j]? = some t → args[j]? = some v → Value.okWide Tryz.prog W .any base t v := O9
  have WC := jN
  obtain ⟨p, q, N6, vx, rfl, o8, eA⟩ := jN
  have dC : DataW.TrodAll enc Tryz.prog W 0 (λ_ => true) true Tryz.f4.params.toList args.toList jL p := N6
  rw [Tryz.params4] at dC mV
  have V5 := dC
  obtain ⟨v0, afK, d0, aek, kP, D6, qu, rfl, rfl, aK, A1⟩ := trodAll_cons dC
  obtain ⟨v1, afL, d1, ael, ew, mu, rfl, rfl, rfl, h1, uV⟩ := trodAll_cons A1
  obtain ⟨v2, afM, d2, aem, rK, QE, rfl, rfl, rfl, af, iQ⟩ := trodAll_cons uV
  obtain ⟨v3, afN, d3, aen, As, Ls, rfl, rfl, rfl, aF, wq⟩ := trodAll_cons iQ
  obtain ⟨v4, afO, d4, aeo, afy, afA, rfl, rfl, rfl, bh, uW⟩ := trodAll_cons wq
  obtain ⟨rfl, rfl, rfl⟩ := trodAll_nil uW
  obtain rfl : args = #[v0, v1, v2, v3, v4] := by cases args; simp_all
  obtain ⟨rfl, rfl⟩ := trodVars_none vx
  obtain ⟨a0, k0, tT⟩ := SF.Zp QX (mV 0 29 v0 rfl rfl) aK
  obtain ⟨aw, tv, St⟩ := EX.Zq RD (mV 1 27 v1 rfl rfl) h1
  obtain ⟨a2, rF, gx⟩ := Bt.Lc (λ_ => rfl) Hh (mV 2 3 v2 rfl rfl) af
  obtain ⟨a3, PC, Su⟩ := Bt.Lc (λ_ => rfl) Hh (mV 3 3 v3 rfl rfl) aF
  obtain ⟨a4, F4, Sv⟩ := Bt.Lc (λ_ => rfl) Hh (mV 4 3 v4 rfl rfl) bh
  clear N6 O9
  have hr := t4 a0 aw a2 a3 a4
  refine (bP.abG (bx.go (P := Tryz.prog) hr) W (.cons tT (.cons St (.cons gx (.cons Su (.cons Sv .nil))))) rfl trivial).mono λe wP ⟨he, aQ, hold⟩ => ?_
  subst he
  exact ⟨_, rfl, ZX (pv := []) WC aQ rfl (λ_ _ _ => (trodAll_cons_mk (shut_bool Tryz.underlying4 _) trodAll_mk0)) (λsp ja => Ta ZJ ZK ZI hold (by kernel_rfl) V5 (λp aq => ja p (List.mem_append_left _ aq))) (λ_ _ => rfl)
    (ok_one (by kernel_rfl) rfl (okWide_bool_mk Tryz.underlying4 _))⟩

theorem over : Rows.driveMoreRow.holds Tryz.pinned (OpenSpec.ofChange Rows.driveMoreSpec) :=
  OpenClaim.holds_of_wide 4 Tryz.f4 rfl rfl rfl rfl rfl rfl rfl ⟨rfl, rfl, rfl, rfl, rfl⟩ rfl rfl rfl rfl rfl (by kernel_rfl) Tryz.func4 (by kernel_rfl)
    (of_decide_eq_true (by kernel_rfl)) (by unfold Func.isWrapper; first | (rw [if_pos (by decide +kernel)]; kernel_rfl) | (rw [if_neg (by decide +kernel)]; exact ⟨rfl, rfl⟩))
    (λos started H enc _ => lifted os started H enc)

/-- The statement. -/
theorem proved : Rows.DriveMoreSaid :=
  over
#print axioms proved
end Go.Proofs.YtaddiiogopnkpaaGreat.driveMore
