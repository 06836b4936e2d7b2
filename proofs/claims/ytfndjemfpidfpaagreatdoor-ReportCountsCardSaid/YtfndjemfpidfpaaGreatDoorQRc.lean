/-
  ReportCounts holds at every grammar: the lines of the report are counted; no conditions.
-/
import Derived.Test.YtfndjemfpidfpaaGreatDoorE12
import Derived.Test.YtfndjemfpidfpaaGreatDoorRows
import Derived.Test.YtfndjemfpidfpaaGreatDoorCards
import Derived.Test.YtfndjemfpidfpaaGreatDoorTie
import Derived.WalkKit
import Derived.ProofKit
import Derived.LaidMore
import Derived.MakeChecks
import Derived.Stop.LaidErr
import Derived.SevenTiedAt
import Derived.Lib.LaidTab
import Derived.OpenShut
import Derived.ShutString
namespace Go.Proofs.YtfndjemfpidfpaaGreatDoor.reportCounts
open Go.ChangeShapes Go.WideShapes Go.ChangeAt Go.RowKit Go.Own
set_option linter.unusedVariables false
set_option maxRecDepth 100000

theorem own : ownKnob Tryz.prog.godebug = none := by kernel_rfl

theorem TH (os : Os) (args : Array Value) : laidMetH Tryz.prog Rows.reportCountsRow.laid ((World.doorLaid Tryz.prog 400 os).forCall (λ_ _ => 0) ⟨#[], args, []⟩).memory :=
  laidMetH_of_parts3 (fuel := 8) (laidMet_of_run' 8 (by kernel_rfl) (by kernel_rfl)) (by kernel_rfl) (by kernel_rfl)

theorem YE {W : World} (h : laidMetH Tryz.prog Rows.reportCountsRow.laid W) : cw.q W λb => b < W.heap.size := by
  rw [MakeChecks.laidMetH_plain _ _ _ (by kernel_rfl)] at h
  have t : Lib.TabIs Tryz.prog W "internal/strconv.uint64pow10" .u64 Lib.pow10Tab :=
    Lib.tabIs_of_head Tryz.K4 (by kernel_rfl : (Tryz.prog.globals[0]?).map (·.type) = some 214) (by kernel_rfl : Tryz.prog.underlying 214 = some (.array 20 105)) (by kernel_rfl) (by kernel_rfl) (by kernel_rfl) (laidMet.tail (laidMet.tail h))
  refine ⟨?_, t⟩
  have u := t
  unfold Lib.TabIs World.var? at u
  rw [Tryz.K4] at u
  simp only [Option.bind_some] at u
  split at u
  · rename_i e
    obtain ⟨aI, _⟩ := Array.getElem?_eq_some_iff.1 e
    exact aI
  · cases u

theorem lifted (os : Os) (started : os.Started) (H : Type) (enc : TypeId × Value → H) :
    ReturnsInHanded {} Tryz.checked os 3 .any (λw args => (Rows.reportCountsSpec.pre enc Tryz.prog Tryz.f3 [] false w args ∧ laidMetH Tryz.prog Rows.reportCountsRow.laid w) ∧ sizedMet enc Tryz.prog Tryz.f3 (OpenSpec.ofChange Rows.reportCountsSpec) false w args)
      (Rows.reportCountsSpec.post enc Tryz.prog Tryz.f3 false true false false) := by
  refine returnsInHanded_of_change_and (C := Tryz.checked) (X := λw _ => laidMetH Tryz.prog Rows.reportCountsRow.laid w) (λ_ _ _ br h => h.of_heap br) own started (by kernel_rfl) Tryz.func3
    (ChangeSpec.witness_shaped (enc := enc) (C := Tryz.checked) (os := os) (X := λw _ => laidMetH Tryz.prog Rows.reportCountsRow.laid w) false (World.doorLaid Tryz.prog 400 os) #[.agg #[.int .i64 0, .slice none 0 0, .slice none 0 0, .slice none 0 0, .bool false]] 8 rfl (World.shaped_of_RefB (by kernel_rfl) (by kernel_rfl)) (by kernel_rfl) (by kernel_rfl) (by kernel_rfl) (TH os _)) ?_
  intro W base args jg gs before Oo nH _ _ ji _
  have od : ∀ (j : Nat) t v, Tryz.f3.params[j]? = some t → args[j]? = some v → Value.okWide Tryz.prog W .any base t v := Oo
  have Vr := nH
  obtain ⟨p, q, Nr, l2, rfl, nL, e7⟩ := nH
  have dh : DataW.TrodAll enc Tryz.prog W 0 (λ_ => true) true Tryz.f3.params.toList args.toList jg p := Nr
  rw [Tryz.params3] at dh od
  have UO := dh
  obtain ⟨v0, aez, d0, ac8, nR, jE, mo, rfl, rfl, aI, z6⟩ := trodAll_cons dh
  obtain ⟨rfl, rfl, rfl⟩ := trodAll_nil z6
  obtain rfl : args = #[v0] := by cases args; simp_all
  obtain ⟨rfl, rfl⟩ := trodVars_none l2
  obtain ⟨a0, k0, s5⟩ := RH.YL P7 (od 0 25 v0 rfl rfl) aI
  clear Nr Oo
  have ak := t3 a0
  refine (bO.aaN (bz.go (P := Tryz.prog) ak) W (.cons s5 .nil) rfl (YE ji)).mono λe wk ⟨he, aL, hold⟩ => ?_
  subst he
  exact ⟨_, rfl, Zc (pv := []) Vr aL rfl (λ_ _ _ => (trodAll_cons_mk (shut_bool Tryz.underlying4 _) trodAll_mk0)) (λsp kb => R3 Y1 Y2 Y0 hold (by kernel_rfl) UO (λp aw => kb p (List.mem_append_left _ aw))) (λ_ _ => rfl)
    (ok_one (by kernel_rfl) rfl (okWide_bool_mk Tryz.underlying4 _))⟩

theorem over : Rows.ReportCountsSaid :=
  OpenClaim.holds_of_wide 3 Tryz.f3 rfl rfl rfl rfl rfl rfl rfl ⟨rfl, rfl, rfl, rfl, rfl⟩ rfl rfl rfl rfl rfl (by kernel_rfl) Tryz.func3 (by kernel_rfl)
    (of_decide_eq_true (by kernel_rfl)) (by unfold Func.isWrapper; first | (rw [if_pos (by decide +kernel)]; kernel_rfl) | (rw [if_neg (by decide +kernel)]; exact ⟨rfl, rfl⟩))
    (λos started H enc _ => lifted os started H enc)

/-- The statement: the tied card. -/
theorem proved : Rows.ReportCountsCardSaid :=
  Claim7.holds_tied_plain_at .later [] [.data, .data, .data] true (true, "55dc3b379cba5db982c5fef33dc72ad38ee72dfde97fa56fa9237dee04332934") false
    over (λ_ h => by cases h) (by kernel_rfl) (λ_ h => by cases h) reportCounts_row_tie rfl ⟨rfl, rfl⟩ (by kernel_rfl) rfl
    (λf fn aV Wi => by
      obtain rfl : f = 3 := Option.some.inj ((show Tryz.prog.funcNamed "yucca/yuccalaw30.ReportCounts" = some 3 by kernel_rfl).symm.trans aV) |>.symm
      obtain rfl : fn = Tryz.f3 := (Option.some.inj (Tryz.func3.symm.trans Wi)).symm
      exact ⟨by kernel_rfl, λj t au => by
        rw [Tryz.params3] at au
        have hm : t ∈ [25] := by simpa using Array.mem_of_getElem? au
        have fv : ([25].all λu => !Tryz.prog.wantsStandIn u) = true := by kernel_rfl
        exact (show Tryz.prog.wantsStandIn t = false by simpa using List.all_eq_true.1 fv t hm)⟩)
    (by kernel_rfl)
#print axioms proved
end Go.Proofs.YtfndjemfpidfpaaGreatDoor.reportCounts
