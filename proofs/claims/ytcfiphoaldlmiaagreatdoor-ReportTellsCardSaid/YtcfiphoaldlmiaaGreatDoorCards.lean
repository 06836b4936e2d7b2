/-
  DERIVED. GIVEN WITH THE SEED: THE CARDS: each row of YtcfiphoaldlmiaaGreatDoorRows.lean that lists a variable, with what it lists TIED to the program's text (the seventh form; the later family's looks); each row that meets fmt, with fmt's text TOLD by the authors' own Lean function (tested against real Go, not proved from fmt's source: count such statements apart). THE CARD IS WHAT COUNTS. Prove the row's statement (the work); the ties are given (YtcfiphoaldlmiaaGreatDoorTie.lean); close each card by the builder's one call (the guide's Derived/Test/ToyasCard.lean, 'card_holds'). Laid BY PROGRAM, IN A SANDBOX (cutbox-door.mjs). By AI agents, Wed Nov 11 2026. No macro, syntax, notation, axiom, sorry.
-/
import Derived.Test.YtcfiphoaldlmiaaGreatDoorRows
import GoSem.ClaimSeven
namespace Go.Proofs.YtcfiphoaldlmiaaGreatDoor
namespace Rows

/-- THE TIED CARD OF 'yuccalaw30.ReportTells'. -/
def reportTellsCard : Claim7 := { stood := { row := reportTellsRow, standIns := [], harness := (true, "f6df3878a48ed266cd73f4f401612d18bb4f1cc77a01c98b339ff81c34defc5b"), looks := false }, kinds := [], alts := [], laidByText := true, laidKinds := [.data, .data, .data], laidTests := true, laidLooks := .later }
def ReportTellsCardSaid : Prop := Claim7.holds Tryz.pinned (.plain (OpenSpec.ofChange reportTellsSpec)) reportTellsCard

/-- THE TIED CARD OF 'yuccalaw30.ReportPlain'. -/
def reportPlainCard : Claim7 := { stood := { row := reportPlainRow, standIns := [], harness := (true, "f6df3878a48ed266cd73f4f401612d18bb4f1cc77a01c98b339ff81c34defc5b"), looks := false }, kinds := [], alts := [], laidByText := true, laidKinds := [.data, .data, .data], laidTests := true, laidLooks := .later }
def ReportPlainCardSaid : Prop := Claim7.holds Tryz.pinned (.plain (OpenSpec.ofChange reportPlainSpec)) reportPlainCard

/-- THE SECOND FORM's CARD OF 'yuccalaw30.ReportTells'. -/
def reportTellsUptoCard : Claim7 := { stood := { row := reportTellsUptoRow, standIns := [], harness := (true, "f6df3878a48ed266cd73f4f401612d18bb4f1cc77a01c98b339ff81c34defc5b"), looks := false }, kinds := [], alts := [], laidByText := true, laidKinds := [.data, .data, .data], laidTests := true, laidLooks := .later }
def ReportTellsUptoCardSaid : Prop := Claim7.holds Tryz.pinned (.plain (OpenSpec.upto reportTellsSpec)) reportTellsUptoCard

/-- THE SECOND FORM's CARD OF 'yuccalaw30.ReportPlain'. -/
def reportPlainUptoCard : Claim7 := { stood := { row := reportPlainUptoRow, standIns := [], harness := (true, "f6df3878a48ed266cd73f4f401612d18bb4f1cc77a01c98b339ff81c34defc5b"), looks := false }, kinds := [], alts := [], laidByText := true, laidKinds := [.data, .data, .data], laidTests := true, laidLooks := .later }
def ReportPlainUptoCardSaid : Prop := Claim7.holds Tryz.pinned (.plain (OpenSpec.upto reportPlainSpec)) reportPlainUptoCard
end Rows
end Go.Proofs.YtcfiphoaldlmiaaGreatDoor
