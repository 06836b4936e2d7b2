/-
  'yuccalaw28.EmitNames' of the program as it is given returns true whatever its arguments are, and they read as they did; the listed tables are tied to the program's text.
-/
import Derived.Test.YtejfkabkakfblaaGreatDoorF8
import Derived.Test.YtejfkabkakfblaaGreatDoorRows
import Derived.Test.YtejfkabkakfblaaGreatDoorCards
import Derived.Test.YtejfkabkakfblaaGreatDoorTie
import Derived.WalkKit
import Derived.ProofKit
import Derived.LaidMore
import Derived.MakeChecks
import Derived.Stop.LaidErr
import Derived.SevenTiedAt
import Derived.Lib.LaidTab
import Derived.OpenShut
import Derived.ShutString
namespace Go.Proofs.YtejfkabkakfblaaGreatDoor.emitNames
open Go.ChangeShapes Go.WideShapes Go.ChangeAt Go.RowKit Go.Own
set_option linter.unusedVariables false
set_option maxRecDepth 100000

theorem own : ownKnob Tryz.prog.godebug = none := by kernel_rfl

theorem Tc (os : Os) (args : Array Value) : laidMetH Tryz.prog Rows.emitNamesRow.laid ((World.doorLaid Tryz.prog 400 os).forCall (λ_ _ => 0) ⟨#[], args, []⟩).memory :=
  laidMetH_of_parts3 (fuel := 8) (laidMet_of_run' 8 (by kernel_rfl) (by kernel_rfl)) (by kernel_rfl) (by kernel_rfl)

theorem X4 {W : World} (h : laidMetH Tryz.prog Rows.emitNamesRow.laid W) : cE.q W λb => b < W.heap.size := by
  rw [MakeChecks.laidMetH_plain _ _ _ (by kernel_rfl)] at h
  have t : Lib.TabIs Tryz.prog W "internal/strconv.uint64pow10" .u64 Lib.pow10Tab :=
    Lib.tabIs_of_head Tryz.Ki (by kernel_rfl : (Tryz.prog.globals[0]?).map (·.type) = some 182) (by kernel_rfl : Tryz.prog.underlying 182 = some (.array 20 97)) (by kernel_rfl) (by kernel_rfl) (by kernel_rfl) (laidMet.tail (laidMet.tail h))
  refine ⟨?_, t⟩
  have u := t
  unfold Lib.TabIs World.var? at u
  rw [Tryz.Ki] at u
  simp only [Option.bind_some] at u
  split at u
  · rename_i e
    obtain ⟨aO, _⟩ := Array.getElem?_eq_some_iff.1 e
    exact aO
  · cases u

theorem lifted (os : Os) (started : os.Started) (H : Type) (enc : TypeId × Value → H) :
    ReturnsInHanded {} Tryz.checked os 7 .any (λw args => (Rows.emitNamesSpec.pre enc Tryz.prog Tryz.f7 [] false w args ∧ laidMetH Tryz.prog Rows.emitNamesRow.laid w) ∧ sizedMet enc Tryz.prog Tryz.f7 (OpenSpec.ofChange Rows.emitNamesSpec) false w args)
      (Rows.emitNamesSpec.post enc Tryz.prog Tryz.f7 false true false false) := by
  refine returnsInHanded_of_change_and (C := Tryz.checked) (X := λw _ => laidMetH Tryz.prog Rows.emitNamesRow.laid w) (λ_ _ _ bD h => h.of_heap bD) own started (by kernel_rfl) Tryz.func7
    (ChangeSpec.witness_shaped (enc := enc) (C := Tryz.checked) (os := os) (X := λw _ => laidMetH Tryz.prog Rows.emitNamesRow.laid w) false (World.doorLaid Tryz.prog 400 os) #[.slice none 0 0, .slice none 0 0] 8 rfl (World.shaped_of_RefB (by kernel_rfl) (by kernel_rfl)) (by kernel_rfl) (by kernel_rfl) (by kernel_rfl) (Tc os _)) ?_
  intro W base args ds gs before NA yT _ _ gR _
  have sW : ∀ (J : Nat) t v, Tryz.f7.params[J]? = some t → args[J]? = some v → Value.okWide Tryz.prog W .any base t v := NA
  have UL := yT
  obtain ⟨p, q, vg, UK, rfl, nX, fj⟩ := yT
  have dp : DataW.TrodAll enc Tryz.prog W 0 (λ_ => true) true Tryz.f7.params.toList args.toList ds p := vg
  rw [Tryz.params7] at dp sW
  have T_ := dp
  obtain ⟨v0, adH, d0, ab', pJ, CL, oH, rfl, rfl, aO, zL⟩ := trodAll_cons dp
  obtain ⟨v1, adI, d1, aca, eJ, kF, rfl, rfl, rfl, h1, rb⟩ := trodAll_cons zL
  obtain ⟨rfl, rfl, rfl⟩ := trodAll_nil rb
  obtain rfl : args = #[v0, v1] := by cases args; simp_all
  obtain ⟨rfl, rfl⟩ := trodVars_none UK
  obtain ⟨a0, k0, tF⟩ := Lb.OB Kn (sW 0 56 v0 rfl rfl) aO
  obtain ⟨aB, vM, Q1⟩ := Lb.OB Kn (sW 1 56 v1 rfl rfl) h1
  clear vg NA
  have ah := t7 a0 aB
  refine (b7.aao (bU.go (P := Tryz.prog) ah) W (.cons tF (.cons Q1 .nil)) rfl (X4 gR)).mono λe wo ⟨he, aK, hold⟩ => ?_
  subst he
  exact ⟨_, rfl, YK (pv := []) UL aK rfl (λ_ _ _ => (trodAll_cons_mk (shut_bool Tryz.underlying4 _) trodAll_mk0)) (λsp mh => RD Yw Yx Yv hold (by kernel_rfl) T_ (λp ar => mh p (List.mem_append_left _ ar))) (λ_ _ => rfl)
    (ok_one (by kernel_rfl) rfl (okWide_bool_mk Tryz.underlying4 _))⟩

theorem over : Rows.EmitNamesSaid :=
  OpenClaim.holds_of_wide 7 Tryz.f7 rfl rfl rfl rfl rfl rfl rfl ⟨rfl, rfl, rfl, rfl, rfl⟩ rfl rfl rfl rfl rfl (by kernel_rfl) Tryz.func7 (by kernel_rfl)
    (of_decide_eq_true (by kernel_rfl)) (by unfold Func.isWrapper; first | (rw [if_pos (by decide +kernel)]; kernel_rfl) | (rw [if_neg (by decide +kernel)]; exact ⟨rfl, rfl⟩))
    (λos started H enc _ => lifted os started H enc)

/-- The statement: the tied card. -/
theorem proved : Rows.EmitNamesCardSaid :=
  Claim7.holds_tied_plain_at .later [] [.data, .data, .data] true (true, "c79efad2d5bdc45fc6c0042cbe87563a04936d0088f535bcb779359103a4f8a5") false
    over (λ_ h => by cases h) (by kernel_rfl) (λ_ h => by cases h) emitNames_row_tie rfl ⟨rfl, rfl⟩ (by kernel_rfl) rfl
    (λf fn aS Vz => by
      obtain rfl : f = 7 := Option.some.inj ((show Tryz.prog.funcNamed "yucca/yuccalaw28.EmitNames" = some 7 by kernel_rfl).symm.trans aS) |>.symm
      obtain rfl : fn = Tryz.f7 := (Option.some.inj (Tryz.func7.symm.trans Vz)).symm
      exact ⟨by kernel_rfl, λJ t al => by
        rw [Tryz.params7] at al
        have hm : t ∈ [56, 56] := by simpa using Array.mem_of_getElem? al
        have g_ : ([56, 56].all λu => !Tryz.prog.wantsStandIn u) = true := by kernel_rfl
        exact (show Tryz.prog.wantsStandIn t = false by simpa using List.all_eq_true.1 g_ t hm)⟩)
    (by kernel_rfl)
#print axioms proved
end Go.Proofs.YtejfkabkakfblaaGreatDoor.emitNames
