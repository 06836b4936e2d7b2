/-
  'yuccalaw28.EmitTells' of the program as it is given returns true whatever its arguments are, and they read as they did; the listed tables are tied to the program's text.
-/
import Derived.Test.YtejfkabkakfblaaGreatDoorE8
import Derived.Test.YtejfkabkakfblaaGreatDoorRows
import Derived.Test.YtejfkabkakfblaaGreatDoorCards
import Derived.Test.YtejfkabkakfblaaGreatDoorTie
import Derived.WalkKit
import Derived.ProofKit
import Derived.LaidMore
import Derived.MakeChecks
import Derived.Stop.LaidErr
import Derived.SevenTiedAt
import Derived.Lib.LaidTab
import Derived.OpenShut
import Derived.ShutString
namespace Go.Proofs.YtejfkabkakfblaaGreatDoor.emitTells
open Go.ChangeShapes Go.WideShapes Go.ChangeAt Go.RowKit Go.Own
set_option maxRecDepth 100000
theorem own : ownKnob Tryz.prog.godebug = none := by kernel_rfl
theorem Tw (os : Os) (args : Array Value) : laidMetH Tryz.prog Rows.emitTellsRow.laid ((World.doorLaid Tryz.prog 400 os).forCall (λ_ _ => 0) ⟨#[], args, []⟩).memory :=
  laidMetH_of_parts3 (fuel := 8) (laidMet_of_run' 8 (by kernel_rfl) (by kernel_rfl)) (by kernel_rfl) (by kernel_rfl)
theorem X0 {W : World} (h : laidMetH Tryz.prog Rows.emitTellsRow.laid W) : cH.q W λb => b < W.heap.size := by
  rw [MakeChecks.laidMetH_plain _ _ _ (by kernel_rfl)] at h
  have t : Lib.TabIs Tryz.prog W "internal/strconv.uint64pow10" .u64 Lib.pow10Tab :=
    Lib.tabIs_of_head Tryz.KF (by kernel_rfl : (Tryz.prog.globals[0]?).map (·.type) = some 182) (by kernel_rfl : Tryz.prog.underlying 182 = some (.array 20 97)) (by kernel_rfl) (by kernel_rfl) (by kernel_rfl) (laidMet.tail (laidMet.tail h))
  refine ⟨?_, t⟩
  have u := t
  unfold Lib.TabIs World.var? at u
  rw [Tryz.KF] at u
  simp only [Option.bind_some] at u
  split at u
  · rename_i e
    obtain ⟨aO, _⟩ := Array.getElem?_eq_some_iff.1 e
    exact aO
  · cases u
theorem lifted (os : Os) (started : os.Started) (H : Type) (enc : TypeId × Value → H) :
    ReturnsInHanded {} Tryz.checked os 5 .any (λw args => (Rows.emitTellsSpec.pre enc Tryz.prog Tryz.f5 [] false w args ∧ laidMetH Tryz.prog Rows.emitTellsRow.laid w) ∧ sizedMet enc Tryz.prog Tryz.f5 (OpenSpec.ofChange Rows.emitTellsSpec) false w args)
      (Rows.emitTellsSpec.post enc Tryz.prog Tryz.f5 false true false false) := by
  refine returnsInHanded_of_change_and (C := Tryz.checked) (X := λw _ => laidMetH Tryz.prog Rows.emitTellsRow.laid w) (λ_ _ _ bH h => h.of_heap bH) own started (by kernel_rfl) Tryz.func5
    (ChangeSpec.witness_shaped (enc := enc) (C := Tryz.checked) (os := os) (X := λw _ => laidMetH Tryz.prog Rows.emitTellsRow.laid w) false (World.doorLaid Tryz.prog 400 os) #[.agg #[.string ByteArray.empty, .slice none 0 0, .slice none 0 0, .string ByteArray.empty], .agg #[.int .i64 0, .slice none 0 0, .slice none 0 0, .slice none 0 0, .bool false]] 8 rfl (World.shaped_of_RefB (by kernel_rfl) (by kernel_rfl)) (by kernel_rfl) (by kernel_rfl) (by kernel_rfl) (Tw os _)) ?_
  intro W base args jC gs before NV y9 _ _ ix _
  have sJ : ∀ (J : Nat) t v, Tryz.f5.params[J]? = some t → args[J]? = some v → Value.okWide Tryz.prog W .any base t v := NV
  have UW := y9
  obtain ⟨p, q, MW, UU, rfl, n1, fq⟩ := y9
  have dX : DataW.TrodAll enc Tryz.prog W 0 (λ_ => true) true Tryz.f5.params.toList args.toList jC p := MW
  rw [Tryz.params5] at dX sJ
  have Um := dX
  obtain ⟨v0, adD, d0, ab6, pF, C1, oD, rfl, rfl, aO, z'⟩ := trodAll_cons dX
  obtain ⟨v1, adE, d1, ab7, eK, kN, rfl, rfl, rfl, h1, q9⟩ := trodAll_cons z'
  obtain ⟨rfl, rfl, rfl⟩ := trodAll_nil q9
  obtain rfl : args = #[v0, v1] := by cases args; simp_all
  obtain ⟨rfl, rfl⟩ := trodVars_none UU
  obtain ⟨a0, k0, tv⟩ := Rt.O0 PH (sJ 0 32 v0 rfl rfl) aO
  obtain ⟨aB, vH, Q_⟩ := Rm.O0 PG (sJ 1 35 v1 rfl rfl) h1
  clear MW NV
  have ah := t5 a0 aB
  refine (bY.Z6 (bL.go (P := Tryz.prog) ah) W (.cons tv (.cons Q_ .nil)) rfl (X0 ix)).mono λe wx ⟨he, aN, hold⟩ => ?_
  subst he
  exact ⟨_, rfl, Yw (pv := []) UW aN rfl (λ_ _ _ => (trodAll_cons_mk (shut_bool Tryz.underlying4 _) trodAll_mk0)) (λsp mw => RU Yi Yj Yh hold (by kernel_rfl) Um (λp au => mw p (List.mem_append_left _ au))) (λ_ _ => rfl)
    (ok_one (by kernel_rfl) rfl (okWide_bool_mk Tryz.underlying4 _))⟩
theorem over : Rows.EmitTellsSaid :=
  OpenClaim.holds_of_wide 5 Tryz.f5 rfl rfl rfl rfl rfl rfl rfl ⟨rfl, rfl, rfl, rfl, rfl⟩ rfl rfl rfl rfl rfl (by kernel_rfl) Tryz.func5 (by kernel_rfl)
    (of_decide_eq_true (by kernel_rfl)) (by unfold Func.isWrapper; first | (rw [if_pos (by decide +kernel)]; kernel_rfl) | (rw [if_neg (by decide +kernel)]; exact ⟨rfl, rfl⟩))
    (λos started H enc _ => lifted os started H enc)
theorem proved : Rows.EmitTellsCardSaid :=
  Claim7.holds_tied_plain_at .later [] [.data, .data, .data] true (true, "c79efad2d5bdc45fc6c0042cbe87563a04936d0088f535bcb779359103a4f8a5") false
    over (λ_ h => by cases h) (by kernel_rfl) (λ_ h => by cases h) emitTells_row_tie rfl ⟨rfl, rfl⟩ (by kernel_rfl) rfl
    (λf fn aS VL => by
      obtain rfl : f = 5 := Option.some.inj ((show Tryz.prog.funcNamed "yucca/yuccalaw28.EmitTells" = some 5 by kernel_rfl).symm.trans aS) |>.symm
      obtain rfl : fn = Tryz.f5 := (Option.some.inj (Tryz.func5.symm.trans VL)).symm
      exact ⟨by kernel_rfl, λJ t ar => by
        rw [Tryz.params5] at ar
        have hm : t ∈ [32, 35] := by simpa using Array.mem_of_getElem? ar
        have hh : ([32, 35].all λu => !Tryz.prog.wantsStandIn u) = true := by kernel_rfl
        exact (show Tryz.prog.wantsStandIn t = false by simpa using List.all_eq_true.1 hh t hm)⟩)
    (by kernel_rfl)
#print axioms proved
end Go.Proofs.YtejfkabkakfblaaGreatDoor.emitTells
