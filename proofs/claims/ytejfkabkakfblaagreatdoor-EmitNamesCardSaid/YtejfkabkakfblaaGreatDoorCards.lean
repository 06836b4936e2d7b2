/-
  DERIVED. GIVEN WITH THE SEED: THE CARDS: each row of YtejfkabkakfblaaGreatDoorRows.lean that lists a variable, with what it lists TIED to the program's text (the seventh form; the later family's looks); each row that meets fmt, with fmt's text TOLD by the authors' own Lean function (tested against real Go, not proved from fmt's source: count such statements apart). THE CARD IS WHAT COUNTS. Prove the row's statement (the work); the ties are given (YtejfkabkakfblaaGreatDoorTie.lean); close each card by the builder's one call (the guide's Derived/Test/ToyasCard.lean, 'card_holds'). Laid BY PROGRAM, IN A SANDBOX (cutbox-door.mjs). By AI agents, Wed Nov 11 2026. No macro, syntax, notation, axiom, sorry.
-/
import Derived.Test.YtejfkabkakfblaaGreatDoorRows
import GoSem.ClaimSeven
namespace Go.Proofs.YtejfkabkakfblaaGreatDoor
namespace Rows

/-- THE TIED CARD OF 'yuccalaw28.EmitLists'. -/
def emitListsCard : Claim7 := { stood := { row := emitListsRow, standIns := [], harness := (true, "c79efad2d5bdc45fc6c0042cbe87563a04936d0088f535bcb779359103a4f8a5"), looks := false }, kinds := [], alts := [], laidByText := true, laidKinds := [.data, .data, .data], laidTests := true, laidLooks := .later }
def EmitListsCardSaid : Prop := Claim7.holds Tryz.pinned (.plain (OpenSpec.ofChange emitListsSpec)) emitListsCard

/-- THE TIED CARD OF 'yuccalaw28.EmitJoins'. -/
def emitJoinsCard : Claim7 := { stood := { row := emitJoinsRow, standIns := [], harness := (true, "c79efad2d5bdc45fc6c0042cbe87563a04936d0088f535bcb779359103a4f8a5"), looks := false }, kinds := [], alts := [], laidByText := true, laidKinds := [.data, .data, .data], laidTests := true, laidLooks := .later }
def EmitJoinsCardSaid : Prop := Claim7.holds Tryz.pinned (.plain (OpenSpec.ofChange emitJoinsSpec)) emitJoinsCard

/-- THE TIED CARD OF 'yuccalaw28.EmitTells'. -/
def emitTellsCard : Claim7 := { stood := { row := emitTellsRow, standIns := [], harness := (true, "c79efad2d5bdc45fc6c0042cbe87563a04936d0088f535bcb779359103a4f8a5"), looks := false }, kinds := [], alts := [], laidByText := true, laidKinds := [.data, .data, .data], laidTests := true, laidLooks := .later }
def EmitTellsCardSaid : Prop := Claim7.holds Tryz.pinned (.plain (OpenSpec.ofChange emitTellsSpec)) emitTellsCard

/-- THE TIED CARD OF 'yuccalaw28.EmitFrame'. -/
def emitFrameCard : Claim7 := { stood := { row := emitFrameRow, standIns := [], harness := (true, "c79efad2d5bdc45fc6c0042cbe87563a04936d0088f535bcb779359103a4f8a5"), looks := false }, kinds := [], alts := [], laidByText := true, laidKinds := [.data, .data, .data], laidTests := true, laidLooks := .later }
def EmitFrameCardSaid : Prop := Claim7.holds Tryz.pinned (.plain (OpenSpec.ofChange emitFrameSpec)) emitFrameCard

/-- THE TIED CARD OF 'yuccalaw28.EmitNames'. -/
def emitNamesCard : Claim7 := { stood := { row := emitNamesRow, standIns := [], harness := (true, "c79efad2d5bdc45fc6c0042cbe87563a04936d0088f535bcb779359103a4f8a5"), looks := false }, kinds := [], alts := [], laidByText := true, laidKinds := [.data, .data, .data], laidTests := true, laidLooks := .later }
def EmitNamesCardSaid : Prop := Claim7.holds Tryz.pinned (.plain (OpenSpec.ofChange emitNamesSpec)) emitNamesCard

/-- THE SECOND FORM's CARD OF 'yuccalaw28.EmitLists'. -/
def emitListsUptoCard : Claim7 := { stood := { row := emitListsUptoRow, standIns := [], harness := (true, "c79efad2d5bdc45fc6c0042cbe87563a04936d0088f535bcb779359103a4f8a5"), looks := false }, kinds := [], alts := [], laidByText := true, laidKinds := [.data, .data, .data], laidTests := true, laidLooks := .later }
def EmitListsUptoCardSaid : Prop := Claim7.holds Tryz.pinned (.plain (OpenSpec.upto emitListsSpec)) emitListsUptoCard

/-- THE SECOND FORM's CARD OF 'yuccalaw28.EmitJoins'. -/
def emitJoinsUptoCard : Claim7 := { stood := { row := emitJoinsUptoRow, standIns := [], harness := (true, "c79efad2d5bdc45fc6c0042cbe87563a04936d0088f535bcb779359103a4f8a5"), looks := false }, kinds := [], alts := [], laidByText := true, laidKinds := [.data, .data, .data], laidTests := true, laidLooks := .later }
def EmitJoinsUptoCardSaid : Prop := Claim7.holds Tryz.pinned (.plain (OpenSpec.upto emitJoinsSpec)) emitJoinsUptoCard

/-- THE SECOND FORM's CARD OF 'yuccalaw28.EmitTells'. -/
def emitTellsUptoCard : Claim7 := { stood := { row := emitTellsUptoRow, standIns := [], harness := (true, "c79efad2d5bdc45fc6c0042cbe87563a04936d0088f535bcb779359103a4f8a5"), looks := false }, kinds := [], alts := [], laidByText := true, laidKinds := [.data, .data, .data], laidTests := true, laidLooks := .later }
def EmitTellsUptoCardSaid : Prop := Claim7.holds Tryz.pinned (.plain (OpenSpec.upto emitTellsSpec)) emitTellsUptoCard

/-- THE SECOND FORM's CARD OF 'yuccalaw28.EmitFrame'. -/
def emitFrameUptoCard : Claim7 := { stood := { row := emitFrameUptoRow, standIns := [], harness := (true, "c79efad2d5bdc45fc6c0042cbe87563a04936d0088f535bcb779359103a4f8a5"), looks := false }, kinds := [], alts := [], laidByText := true, laidKinds := [.data, .data, .data], laidTests := true, laidLooks := .later }
def EmitFrameUptoCardSaid : Prop := Claim7.holds Tryz.pinned (.plain (OpenSpec.upto emitFrameSpec)) emitFrameUptoCard

/-- THE SECOND FORM's CARD OF 'yuccalaw28.EmitNames'. -/
def emitNamesUptoCard : Claim7 := { stood := { row := emitNamesUptoRow, standIns := [], harness := (true, "c79efad2d5bdc45fc6c0042cbe87563a04936d0088f535bcb779359103a4f8a5"), looks := false }, kinds := [], alts := [], laidByText := true, laidKinds := [.data, .data, .data], laidTests := true, laidLooks := .later }
def EmitNamesUptoCardSaid : Prop := Claim7.holds Tryz.pinned (.plain (OpenSpec.upto emitNamesSpec)) emitNamesUptoCard
end Rows
end Go.Proofs.YtejfkabkakfblaaGreatDoor
