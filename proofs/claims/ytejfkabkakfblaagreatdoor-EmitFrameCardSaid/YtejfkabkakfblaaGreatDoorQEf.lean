/-
  'yuccalaw28.EmitFrame' of the program as it is given returns true whatever its arguments are, and they read as they did; the listed tables are tied to the program's text.
-/
import Derived.Test.YtejfkabkakfblaaGreatDoorE8
import Derived.Test.YtejfkabkakfblaaGreatDoorRows
import Derived.Test.YtejfkabkakfblaaGreatDoorCards
import Derived.Test.YtejfkabkakfblaaGreatDoorTie
import Derived.WalkKit
import Derived.ProofKit
import Derived.LaidMore
import Derived.MakeChecks
import Derived.Stop.LaidErr
import Derived.SevenTiedAt
import Derived.Lib.LaidTab
import Derived.OpenShut
import Derived.ShutString
namespace Go.Proofs.YtejfkabkakfblaaGreatDoor.emitFrame
open Go.ChangeShapes Go.WideShapes Go.ChangeAt Go.RowKit Go.Own
set_option linter.unusedVariables false
set_option maxRecDepth 100000

theorem own : ownKnob Tryz.prog.godebug = none := by kernel_rfl

theorem Tp (os : Os) (args : Array Value) : laidMetH Tryz.prog Rows.emitFrameRow.laid ((World.doorLaid Tryz.prog 400 os).forCall (λ_ _ => 0) ⟨#[], args, []⟩).memory :=
  laidMetH_of_parts3 (fuel := 8) (laidMet_of_run' 8 (by kernel_rfl) (by kernel_rfl)) (by kernel_rfl) (by kernel_rfl)

theorem X2 {W : World} (h : laidMetH Tryz.prog Rows.emitFrameRow.laid W) : cI.q W λb => b < W.heap.size := by
  rw [MakeChecks.laidMetH_plain _ _ _ (by kernel_rfl)] at h
  have t : Lib.TabIs Tryz.prog W "internal/strconv.uint64pow10" .u64 Lib.pow10Tab :=
    Lib.tabIs_of_head Tryz.Ky (by kernel_rfl : (Tryz.prog.globals[0]?).map (·.type) = some 182) (by kernel_rfl : Tryz.prog.underlying 182 = some (.array 20 97)) (by kernel_rfl) (by kernel_rfl) (by kernel_rfl) (laidMet.tail (laidMet.tail h))
  refine ⟨?_, t⟩
  have u := t
  unfold Lib.TabIs World.var? at u
  rw [Tryz.Ky] at u
  simp only [Option.bind_some] at u
  split at u
  · rename_i e
    obtain ⟨aO, _⟩ := Array.getElem?_eq_some_iff.1 e
    exact aO
  · cases u

theorem lifted (os : Os) (started : os.Started) (H : Type) (enc : TypeId × Value → H) :
    ReturnsInHanded {} Tryz.checked os 6 .any (λw args => (Rows.emitFrameSpec.pre enc Tryz.prog Tryz.f6 [] false w args ∧ laidMetH Tryz.prog Rows.emitFrameRow.laid w) ∧ sizedMet enc Tryz.prog Tryz.f6 (OpenSpec.ofChange Rows.emitFrameSpec) false w args)
      (Rows.emitFrameSpec.post enc Tryz.prog Tryz.f6 false true false false) := by
  refine returnsInHanded_of_change_and (C := Tryz.checked) (X := λw _ => laidMetH Tryz.prog Rows.emitFrameRow.laid w) (λ_ _ _ bG h => h.of_heap bG) own started (by kernel_rfl) Tryz.func6
    (ChangeSpec.witness_shaped (enc := enc) (C := Tryz.checked) (os := os) (X := λw _ => laidMetH Tryz.prog Rows.emitFrameRow.laid w) false (World.doorLaid Tryz.prog 400 os) #[.agg #[.int .i64 0, .slice none 0 0, .slice none 0 0, .slice none 0 0, .bool false], .string ByteArray.empty, .string ByteArray.empty] 8 rfl (World.shaped_of_RefB (by kernel_rfl) (by kernel_rfl)) (by kernel_rfl) (by kernel_rfl) (by kernel_rfl) (Tp os _)) ?_
  intro W base args jC gs before N5 za _ _ iy _
  have rU : ∀ (J : Nat) t v, Tryz.f6.params[J]? = some t → args[J]? = some v → Value.okWide Tryz.prog W .any base t v := N5
  have UM := za
  obtain ⟨p, q, MZ, UL, rfl, nV, fj⟩ := za
  have dQ : DataW.TrodAll enc Tryz.prog W 0 (λ_ => true) true Tryz.f6.params.toList args.toList jC p := MZ
  rw [Tryz.params6] at dQ rU
  have Ud := dQ
  obtain ⟨v0, adC, d0, ab5, pE, C1, oA, rfl, rfl, aO, z8⟩ := trodAll_cons dQ
  obtain ⟨v1, adD, d1, ab6, eD, kN, rfl, rfl, rfl, h1, q9⟩ := trodAll_cons z8
  obtain ⟨v2, adE, d2, ab7, qj, C2, rfl, rfl, rfl, af, jt⟩ := trodAll_cons q9
  obtain ⟨rfl, rfl, rfl⟩ := trodAll_nil jt
  obtain rfl : args = #[v0, v1, v2] := by cases args; simp_all
  obtain ⟨rfl, rfl⟩ := trodVars_none UL
  obtain ⟨a0, k0, tw⟩ := Rp.X8 PM (rU 0 35 v0 rfl rfl) aO
  obtain ⟨aB, vK, Re⟩ := Lu.O6 (λ_ => rfl) KE (rU 1 9 v1 rfl rfl) h1
  obtain ⟨a2, py, gp⟩ := Lu.O6 (λ_ => rfl) KE (rU 2 9 v2 rfl rfl) af
  clear MZ N5
  have ah := t6 a0 aB a2
  refine (b1.Z_ (bO.go (P := Tryz.prog) ah) W (.cons tw (.cons Re (.cons gp .nil))) rfl (X2 iy)).mono λe wB ⟨he, aN, hold⟩ => ?_
  subst he
  exact ⟨_, rfl, Yy (pv := []) UM aN rfl (λ_ _ _ => (trodAll_cons_mk (shut_bool Tryz.underlying4 _) trodAll_mk0)) (λsp mm => RQ Yk Yl Yj hold (by kernel_rfl) Ud (λp au => mm p (List.mem_append_left _ au))) (λ_ _ => rfl)
    (ok_one (by kernel_rfl) rfl (okWide_bool_mk Tryz.underlying4 _))⟩

theorem over : Rows.EmitFrameSaid :=
  OpenClaim.holds_of_wide 6 Tryz.f6 rfl rfl rfl rfl rfl rfl rfl ⟨rfl, rfl, rfl, rfl, rfl⟩ rfl rfl rfl rfl rfl (by kernel_rfl) Tryz.func6 (by kernel_rfl)
    (of_decide_eq_true (by kernel_rfl)) (by unfold Func.isWrapper; first | (rw [if_pos (by decide +kernel)]; kernel_rfl) | (rw [if_neg (by decide +kernel)]; exact ⟨rfl, rfl⟩))
    (λos started H enc _ => lifted os started H enc)

/-- The statement: the tied card. -/
theorem proved : Rows.EmitFrameCardSaid :=
  Claim7.holds_tied_plain_at .later [] [.data, .data, .data] true (true, "c79efad2d5bdc45fc6c0042cbe87563a04936d0088f535bcb779359103a4f8a5") false
    over (λ_ h => by cases h) (by kernel_rfl) (λ_ h => by cases h) emitFrame_row_tie rfl ⟨rfl, rfl⟩ (by kernel_rfl) rfl
    (λf fn aS VG => by
      obtain rfl : f = 6 := Option.some.inj ((show Tryz.prog.funcNamed "yucca/yuccalaw28.EmitFrame" = some 6 by kernel_rfl).symm.trans aS) |>.symm
      obtain rfl : fn = Tryz.f6 := (Option.some.inj (Tryz.func6.symm.trans VG)).symm
      exact ⟨by kernel_rfl, λJ t aq => by
        rw [Tryz.params6] at aq
        have hm : t ∈ [35, 9, 9] := by simpa using Array.mem_of_getElem? aq
        have hj : ([35, 9, 9].all λu => !Tryz.prog.wantsStandIn u) = true := by kernel_rfl
        exact (show Tryz.prog.wantsStandIn t = false by simpa using List.all_eq_true.1 hj t hm)⟩)
    (by kernel_rfl)
#print axioms proved
end Go.Proofs.YtejfkabkakfblaaGreatDoor.emitFrame
