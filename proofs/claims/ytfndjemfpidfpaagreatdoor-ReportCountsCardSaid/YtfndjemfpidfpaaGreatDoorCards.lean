/-
  DERIVED. GIVEN WITH THE SEED: THE CARDS: each row of YtfndjemfpidfpaaGreatDoorRows.lean that lists a variable, with what it lists TIED to the program's text (the seventh form; the later family's looks); each row that meets fmt, with fmt's text TOLD by the authors' own Lean function (tested against real Go, not proved from fmt's source: count such statements apart). THE CARD IS WHAT COUNTS. Prove the row's statement (the work); the ties are given (YtfndjemfpidfpaaGreatDoorTie.lean); close each card by the builder's one call (the guide's Derived/Test/ToyasCard.lean, 'card_holds'). Laid BY PROGRAM, IN A SANDBOX (cutbox-door.mjs). By AI agents, Wed Nov 11 2026. No macro, syntax, notation, axiom, sorry.
-/
import Derived.Test.YtfndjemfpidfpaaGreatDoorRows
import GoSem.ClaimSeven
namespace Go.Proofs.YtfndjemfpidfpaaGreatDoor
namespace Rows

/-- THE TIED CARD OF 'yuccalaw30.ReportCounts'. -/
def reportCountsCard : Claim7 := { stood := { row := reportCountsRow, standIns := [], harness := (true, "55dc3b379cba5db982c5fef33dc72ad38ee72dfde97fa56fa9237dee04332934"), looks := false }, kinds := [], alts := [], laidByText := true, laidKinds := [.data, .data, .data], laidTests := true, laidLooks := .later }
def ReportCountsCardSaid : Prop := Claim7.holds Tryz.pinned (.plain (OpenSpec.ofChange reportCountsSpec)) reportCountsCard

/-- THE SECOND FORM's CARD OF 'yuccalaw30.ReportCounts'. -/
def reportCountsUptoCard : Claim7 := { stood := { row := reportCountsUptoRow, standIns := [], harness := (true, "55dc3b379cba5db982c5fef33dc72ad38ee72dfde97fa56fa9237dee04332934"), looks := false }, kinds := [], alts := [], laidByText := true, laidKinds := [.data, .data, .data], laidTests := true, laidLooks := .later }
def ReportCountsUptoCardSaid : Prop := Claim7.holds Tryz.pinned (.plain (OpenSpec.upto reportCountsSpec)) reportCountsUptoCard
end Rows
end Go.Proofs.YtfndjemfpidfpaaGreatDoor
