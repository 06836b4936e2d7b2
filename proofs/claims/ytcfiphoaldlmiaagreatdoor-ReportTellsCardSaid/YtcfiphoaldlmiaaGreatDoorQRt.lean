/-
  'yuccalaw30.ReportTells' of the program as it is given returns true whatever its arguments are, and they read as they did; the listed tables are tied to the program's text.
-/
import Derived.Test.YtcfiphoaldlmiaaGreatDoorE12
import Derived.Test.YtcfiphoaldlmiaaGreatDoorRows
import Derived.Test.YtcfiphoaldlmiaaGreatDoorCards
import Derived.Test.YtcfiphoaldlmiaaGreatDoorTie
import Derived.WalkKit
import Derived.ProofKit
import Derived.LaidMore
import Derived.MakeChecks
import Derived.Stop.LaidErr
import Derived.SevenTiedAt
import Derived.Lib.LaidTab
import Derived.OpenShut
import Derived.ShutString
namespace Go.Proofs.YtcfiphoaldlmiaaGreatDoor.reportTells
open Go.ChangeShapes Go.WideShapes Go.ChangeAt Go.RowKit Go.Own
set_option linter.unusedVariables false
set_option maxRecDepth 100000

theorem own : ownKnob Tryz.prog.godebug = none := by kernel_rfl

theorem Tn (os : Os) (args : Array Value) : laidMetH Tryz.prog Rows.reportTellsRow.laid ((World.doorLaid Tryz.prog 400 os).forCall (λ_ _ => 0) ⟨#[], args, []⟩).memory :=
  laidMetH_of_parts3 (fuel := 8) (laidMet_of_run' 8 (by kernel_rfl) (by kernel_rfl)) (by kernel_rfl) (by kernel_rfl)

theorem X8 {W : World} (h : laidMetH Tryz.prog Rows.reportTellsRow.laid W) : cw.q W λb => b < W.heap.size := by
  rw [MakeChecks.laidMetH_plain _ _ _ (by kernel_rfl)] at h
  have t : Lib.TabIs Tryz.prog W "internal/strconv.uint64pow10" .u64 Lib.pow10Tab :=
    Lib.tabIs_of_head Tryz.KT (by kernel_rfl : (Tryz.prog.globals[0]?).map (·.type) = some 219) (by kernel_rfl : Tryz.prog.underlying 219 = some (.array 20 117)) (by kernel_rfl) (by kernel_rfl) (by kernel_rfl) (laidMet.tail (laidMet.tail h))
  refine ⟨?_, t⟩
  have u := t
  unfold Lib.TabIs World.var? at u
  rw [Tryz.KT] at u
  simp only [Option.bind_some] at u
  split at u
  · rename_i e
    obtain ⟨aH, _⟩ := Array.getElem?_eq_some_iff.1 e
    exact aH
  · cases u

theorem lifted (os : Os) (started : os.Started) (H : Type) (enc : TypeId × Value → H) :
    ReturnsInHanded {} Tryz.checked os 3 .any (λw args => (Rows.reportTellsSpec.pre enc Tryz.prog Tryz.f3 [] false w args ∧ laidMetH Tryz.prog Rows.reportTellsRow.laid w) ∧ sizedMet enc Tryz.prog Tryz.f3 (OpenSpec.ofChange Rows.reportTellsSpec) false w args)
      (Rows.reportTellsSpec.post enc Tryz.prog Tryz.f3 false true false false) := by
  refine returnsInHanded_of_change_and (C := Tryz.checked) (X := λw _ => laidMetH Tryz.prog Rows.reportTellsRow.laid w) (λ_ _ _ bE h => h.of_heap bE) own started (by kernel_rfl) Tryz.func3
    (ChangeSpec.witness_shaped (enc := enc) (C := Tryz.checked) (os := os) (X := λw _ => laidMetH Tryz.prog Rows.reportTellsRow.laid w) false (World.doorLaid Tryz.prog 400 os) #[.agg #[.string ByteArray.empty, .slice none 0 0, .slice none 0 0, .string ByteArray.empty], .agg #[.int .i64 0, .slice none 0 0, .slice none 0 0, .slice none 0 0, .bool false]] 8 rfl (World.shaped_of_RefB (by kernel_rfl) (by kernel_rfl)) (by kernel_rfl) (by kernel_rfl) (by kernel_rfl) (Tn os _)) ?_
  intro W base args jg gs before Og sd _ _ ji _
  have nI : ∀ (aa : Nat) t v, Tryz.f3.params[aa]? = some t → args[aa]? = some v → Value.okWide Tryz.prog W .any base t v := Og
  have U3 := sd
  obtain ⟨p, q, Nk, l5, rfl, nF, ft⟩ := sd
  have dm : DataW.TrodAll enc Tryz.prog W 0 (λ_ => true) true Tryz.f3.params.toList args.toList jg p := Nk
  rw [Tryz.params3] at dm nI
  have Uw := dm
  obtain ⟨v0, adR, d0, aco, nO, zH, mo, rfl, rfl, aH, zK⟩ := trodAll_cons dm
  obtain ⟨v1, adS, d1, acp, ek, kg, rfl, rfl, rfl, h1, o2⟩ := trodAll_cons zK
  obtain ⟨rfl, rfl, rfl⟩ := trodAll_nil o2
  obtain rfl : args = #[v0, v1] := by cases args; simp_all
  obtain ⟨rfl, rfl⟩ := trodVars_none l5
  obtain ⟨a0, k0, s3⟩ := Rs.Po PV (nI 0 25 v0 rfl rfl) aH
  obtain ⟨aw, rD, Q_⟩ := Rl.Po PU (nI 1 29 v1 rfl rfl) h1
  clear Nk Og
  have aj := t3 a0 aw
  refine (bH.Z5 (bJ.go (P := Tryz.prog) aj) W (.cons s3 (.cons Q_ .nil)) rfl (X8 ji)).mono λe vU ⟨he, aI, hold⟩ => ?_
  subst he
  exact ⟨_, rfl, YD (pv := []) U3 aI rfl (λ_ _ _ => (trodAll_cons_mk (shut_bool Tryz.underlying4 _) trodAll_mk0)) (λsp j' => RO Yr Ys Yq hold (by kernel_rfl) Uw (λp av => j' p (List.mem_append_left _ av))) (λ_ _ => rfl)
    (ok_one (by kernel_rfl) rfl (okWide_bool_mk Tryz.underlying4 _))⟩

theorem over : Rows.ReportTellsSaid :=
  OpenClaim.holds_of_wide 3 Tryz.f3 rfl rfl rfl rfl rfl rfl rfl ⟨rfl, rfl, rfl, rfl, rfl⟩ rfl rfl rfl rfl rfl (by kernel_rfl) Tryz.func3 (by kernel_rfl)
    (of_decide_eq_true (by kernel_rfl)) (by unfold Func.isWrapper; first | (rw [if_pos (by decide +kernel)]; kernel_rfl) | (rw [if_neg (by decide +kernel)]; exact ⟨rfl, rfl⟩))
    (λos started H enc _ => lifted os started H enc)

/-- The statement: the tied card. -/
theorem proved : Rows.ReportTellsCardSaid :=
  Claim7.holds_tied_plain_at .later [] [.data, .data, .data] true (true, "f6df3878a48ed266cd73f4f401612d18bb4f1cc77a01c98b339ff81c34defc5b") false
    over (λ_ h => by cases h) (by kernel_rfl) (λ_ h => by cases h) reportTells_row_tie rfl ⟨rfl, rfl⟩ (by kernel_rfl) rfl
    (λf fn aU VR => by
      obtain rfl : f = 3 := Option.some.inj ((show Tryz.prog.funcNamed "yucca/yuccalaw30.ReportTells" = some 3 by kernel_rfl).symm.trans aU) |>.symm
      obtain rfl : fn = Tryz.f3 := (Option.some.inj (Tryz.func3.symm.trans VR)).symm
      exact ⟨by kernel_rfl, λaa t ak => by
        rw [Tryz.params3] at ak
        have hm : t ∈ [25, 29] := by simpa using Array.mem_of_getElem? ak
        have fN : ([25, 29].all λu => !Tryz.prog.wantsStandIn u) = true := by kernel_rfl
        exact (show Tryz.prog.wantsStandIn t = false by simpa using List.all_eq_true.1 fN t hm)⟩)
    (by kernel_rfl)
#print axioms proved
end Go.Proofs.YtcfiphoaldlmiaaGreatDoor.reportTells
