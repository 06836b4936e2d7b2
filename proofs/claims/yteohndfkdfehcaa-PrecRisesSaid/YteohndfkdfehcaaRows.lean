/-
  No cell of these rows narrows 'for every input' (looked for: loops, veiled, ifaces, maps, wideKeys, modest, calm, conditions, laid).
  DERIVED. THE GIVEN ROWS OF THIS SEAT. 12 by the template 'for every input the law returns true; each argument reads behind the call as it read before'; 0 by the template 'total and deterministic' (their statements: YteohndfkdfehcaaTotals.lean).
  GIVEN WITH THE SEED: the statements are not yours to turn. If you find one false, say at which input.
  Laid BY PROGRAM, IN A SANDBOX (cutbox-rows.mjs): the forced cells as the released guide's own fill.sh prints them over the translation 6fab4a683e52dbeb… (all of the seat's roots in one cut). By AI agents, Wed Nov 11 2026. No macro, syntax, notation, axiom, sorry.
-/
import Derived.Test.YteohndfkdfehcaaChecked
import GoSem.Claim
import GoSem.ClaimJoined
import GoSem.ClaimMapViews
import Derived.JoinedTies
import Derived.KernelRfl
namespace Go.Proofs.Yteohndfkdfehcaa
/- THE CELL 'sum', in the pinned program and in every row, IS THE sha256 OF THE DUMP (.gsa) THAT YteohndfkdfehcaaProg.lean LOADS. Nothing in Lean hashes anything: it is a label: what it is worth is what the hold of that sum in a sandbox is worth. -/
noncomputable def Try.pinned : Pinned := { name := "yteohndfkdfehcaa", sum := "6fab4a683e52dbeb43bb91b27000ea539135ac323ca256f76b907dc7dfffdf89", checked := Try.checked }
namespace Rows
def none {H : Type} : Left H := { results := [], args := [] }

/-- 'yuccalaw10.PrecTells': WHATEVER THE INPUT: true; the input reads as it did. -/
def precTellsSpec : ChangeSpec := { name := "precTells", fn := fun _ => fun
  | [d1, d2, d3, d4] => { results := [.lit (.bool true)], args := [d1, d2, d3, d4] }
  | _ => none }
def precTellsRow : OpenClaim := { program := "yteohndfkdfehcaa", sum := "6fab4a683e52dbeb43bb91b27000ea539135ac323ca256f76b907dc7dfffdf89", func := "yucca/yuccalaw10.PrecTells", spec := "precTells", apart := false }
def PrecTellsSaid : Prop := precTellsRow.holds Try.pinned (OpenSpec.ofChange precTellsSpec)

/-- ITS FALSE NEIGHBOUR: 'it returns false'. Refute it at one input. -/
def precTellsWrong : ChangeSpec := { name := "precTells", fn := fun _ => fun
  | [d1, d2, d3, d4] => { results := [.lit (.bool false)], args := [d1, d2, d3, d4] }
  | _ => none }
def PrecTellsWrongFalsely : Prop := precTellsRow.holds Try.pinned (OpenSpec.ofChange precTellsWrong)

/-- 'yuccalaw10.PrecTable': WHATEVER THE INPUT: true; the input reads as it did. -/
def precTableSpec : ChangeSpec := { name := "precTable", fn := fun _ => fun
  | [d] => { results := [.lit (.bool true)], args := [d] }
  | _ => none }
def precTableRow : OpenClaim := { program := "yteohndfkdfehcaa", sum := "6fab4a683e52dbeb43bb91b27000ea539135ac323ca256f76b907dc7dfffdf89", func := "yucca/yuccalaw10.PrecTable", spec := "precTable", apart := false }
def PrecTableSaid : Prop := precTableRow.holds Try.pinned (OpenSpec.ofChange precTableSpec)

/-- ITS FALSE NEIGHBOUR: 'it returns false'. Refute it at one input. -/
def precTableWrong : ChangeSpec := { name := "precTable", fn := fun _ => fun
  | [d] => { results := [.lit (.bool false)], args := [d] }
  | _ => none }
def PrecTableWrongFalsely : Prop := precTableRow.holds Try.pinned (OpenSpec.ofChange precTableWrong)

/-- 'yuccalaw10.PrecAs': WHATEVER THE INPUT: true; the input reads as it did. -/
def precAsSpec : ChangeSpec := { name := "precAs", fn := fun _ => fun
  | [d1, d2, d3, d4] => { results := [.lit (.bool true)], args := [d1, d2, d3, d4] }
  | _ => none }
def precAsRow : OpenClaim := { program := "yteohndfkdfehcaa", sum := "6fab4a683e52dbeb43bb91b27000ea539135ac323ca256f76b907dc7dfffdf89", func := "yucca/yuccalaw10.PrecAs", spec := "precAs", apart := false }
def PrecAsSaid : Prop := precAsRow.holds Try.pinned (OpenSpec.ofChange precAsSpec)

/-- ITS FALSE NEIGHBOUR: 'it returns false'. Refute it at one input. -/
def precAsWrong : ChangeSpec := { name := "precAs", fn := fun _ => fun
  | [d1, d2, d3, d4] => { results := [.lit (.bool false)], args := [d1, d2, d3, d4] }
  | _ => none }
def PrecAsWrongFalsely : Prop := precAsRow.holds Try.pinned (OpenSpec.ofChange precAsWrong)

/-- 'yuccalaw10.PrecRises': WHATEVER THE INPUT: true; the input reads as it did. -/
def precRisesSpec : ChangeSpec := { name := "precRises", fn := fun _ => fun
  | [d1, d2, d3, d4, d5] => { results := [.lit (.bool true)], args := [d1, d2, d3, d4, d5] }
  | _ => none }
def precRisesRow : OpenClaim := { program := "yteohndfkdfehcaa", sum := "6fab4a683e52dbeb43bb91b27000ea539135ac323ca256f76b907dc7dfffdf89", func := "yucca/yuccalaw10.PrecRises", spec := "precRises", apart := false }
def PrecRisesSaid : Prop := precRisesRow.holds Try.pinned (OpenSpec.ofChange precRisesSpec)

/-- ITS FALSE NEIGHBOUR: 'it returns false'. Refute it at one input. -/
def precRisesWrong : ChangeSpec := { name := "precRises", fn := fun _ => fun
  | [d1, d2, d3, d4, d5] => { results := [.lit (.bool false)], args := [d1, d2, d3, d4, d5] }
  | _ => none }
def PrecRisesWrongFalsely : Prop := precRisesRow.holds Try.pinned (OpenSpec.ofChange precRisesWrong)

/-- 'yuccalaw4.CharTakes': WHATEVER THE INPUT: true; the input reads as it did. -/
def charTakesSpec : ChangeSpec := { name := "charTakes", fn := fun _ => fun
  | [d1, d2, d3] => { results := [.lit (.bool true)], args := [d1, d2, d3] }
  | _ => none }
def charTakesRow : OpenClaim := { program := "yteohndfkdfehcaa", sum := "6fab4a683e52dbeb43bb91b27000ea539135ac323ca256f76b907dc7dfffdf89", func := "yucca/yuccalaw4.CharTakes", spec := "charTakes", inPlace := ["internal/bytealg.IndexByteString"], apart := false }
def CharTakesSaid : Prop := charTakesRow.holds Try.pinned (OpenSpec.ofChange charTakesSpec)

/-- ITS FALSE NEIGHBOUR: 'it returns false'. Refute it at one input. -/
def charTakesWrong : ChangeSpec := { name := "charTakes", fn := fun _ => fun
  | [d1, d2, d3] => { results := [.lit (.bool false)], args := [d1, d2, d3] }
  | _ => none }
def CharTakesWrongFalsely : Prop := charTakesRow.holds Try.pinned (OpenSpec.ofChange charTakesWrong)

/-- 'yuccalaw4.CharBack': WHATEVER THE INPUT: true; the input reads as it did. -/
def charBackSpec : ChangeSpec := { name := "charBack", fn := fun _ => fun
  | [d1, d2, d3] => { results := [.lit (.bool true)], args := [d1, d2, d3] }
  | _ => none }
def charBackRow : OpenClaim := { program := "yteohndfkdfehcaa", sum := "6fab4a683e52dbeb43bb91b27000ea539135ac323ca256f76b907dc7dfffdf89", func := "yucca/yuccalaw4.CharBack", spec := "charBack", inPlace := ["internal/bytealg.IndexByteString"], apart := false }
def CharBackSaid : Prop := charBackRow.holds Try.pinned (OpenSpec.ofChange charBackSpec)

/-- ITS FALSE NEIGHBOUR: 'it returns false'. Refute it at one input. -/
def charBackWrong : ChangeSpec := { name := "charBack", fn := fun _ => fun
  | [d1, d2, d3] => { results := [.lit (.bool false)], args := [d1, d2, d3] }
  | _ => none }
def CharBackWrongFalsely : Prop := charBackRow.holds Try.pinned (OpenSpec.ofChange charBackWrong)

/-- 'yuccalaw4.CharBytes': WHATEVER THE INPUT: true; the input reads as it did. -/
def charBytesSpec : ChangeSpec := { name := "charBytes", fn := fun _ => fun
  | [d1, d2, d3] => { results := [.lit (.bool true)], args := [d1, d2, d3] }
  | _ => none }
def charBytesRow : OpenClaim := { program := "yteohndfkdfehcaa", sum := "6fab4a683e52dbeb43bb91b27000ea539135ac323ca256f76b907dc7dfffdf89", func := "yucca/yuccalaw4.CharBytes", spec := "charBytes", inPlace := ["internal/bytealg.IndexByteString"], apart := false }
def CharBytesSaid : Prop := charBytesRow.holds Try.pinned (OpenSpec.ofChange charBytesSpec)

/-- ITS FALSE NEIGHBOUR: 'it returns false'. Refute it at one input. -/
def charBytesWrong : ChangeSpec := { name := "charBytes", fn := fun _ => fun
  | [d1, d2, d3] => { results := [.lit (.bool false)], args := [d1, d2, d3] }
  | _ => none }
def CharBytesWrongFalsely : Prop := charBytesRow.holds Try.pinned (OpenSpec.ofChange charBytesWrong)

/-- 'yuccalaw22.RowsCodes': WHATEVER THE INPUT: true; the input reads as it did. -/
def rowsCodesSpec : ChangeSpec := { name := "rowsCodes", fn := fun _ => fun
  | [d1, d2, d3] => { results := [.lit (.bool true)], args := [d1, d2, d3] }
  | _ => none }
def rowsCodesRow : OpenClaim := { program := "yteohndfkdfehcaa", sum := "6fab4a683e52dbeb43bb91b27000ea539135ac323ca256f76b907dc7dfffdf89", func := "yucca/yuccalaw22.RowsCodes", spec := "rowsCodes", apart := false }
def RowsCodesSaid : Prop := rowsCodesRow.holds Try.pinned (OpenSpec.ofChange rowsCodesSpec)

/-- ITS FALSE NEIGHBOUR: 'it returns false'. Refute it at one input. -/
def rowsCodesWrong : ChangeSpec := { name := "rowsCodes", fn := fun _ => fun
  | [d1, d2, d3] => { results := [.lit (.bool false)], args := [d1, d2, d3] }
  | _ => none }
def RowsCodesWrongFalsely : Prop := rowsCodesRow.holds Try.pinned (OpenSpec.ofChange rowsCodesWrong)

/-- 'yuccalaw22.RowsTurns': WHATEVER THE INPUT: true; the input reads as it did. -/
def rowsTurnsSpec : ChangeSpec := { name := "rowsTurns", fn := fun _ => fun
  | [d1, d2, d3] => { results := [.lit (.bool true)], args := [d1, d2, d3] }
  | _ => none }
def rowsTurnsRow : OpenClaim := { program := "yteohndfkdfehcaa", sum := "6fab4a683e52dbeb43bb91b27000ea539135ac323ca256f76b907dc7dfffdf89", func := "yucca/yuccalaw22.RowsTurns", spec := "rowsTurns", apart := false }
def RowsTurnsSaid : Prop := rowsTurnsRow.holds Try.pinned (OpenSpec.ofChange rowsTurnsSpec)

/-- ITS FALSE NEIGHBOUR: 'it returns false'. Refute it at one input. -/
def rowsTurnsWrong : ChangeSpec := { name := "rowsTurns", fn := fun _ => fun
  | [d1, d2, d3] => { results := [.lit (.bool false)], args := [d1, d2, d3] }
  | _ => none }
def RowsTurnsWrongFalsely : Prop := rowsTurnsRow.holds Try.pinned (OpenSpec.ofChange rowsTurnsWrong)

/-- 'yuccalaw22.RowsTells': WHATEVER THE INPUT: true; the input reads as it did. -/
def rowsTellsSpec : ChangeSpec := { name := "rowsTells", fn := fun _ => fun
  | [d1, d2] => { results := [.lit (.bool true)], args := [d1, d2] }
  | _ => none }
def rowsTellsRow : OpenClaim := { program := "yteohndfkdfehcaa", sum := "6fab4a683e52dbeb43bb91b27000ea539135ac323ca256f76b907dc7dfffdf89", func := "yucca/yuccalaw22.RowsTells", spec := "rowsTells", apart := false }
def RowsTellsSaid : Prop := rowsTellsRow.holds Try.pinned (OpenSpec.ofChange rowsTellsSpec)

/-- ITS FALSE NEIGHBOUR: 'it returns false'. Refute it at one input. -/
def rowsTellsWrong : ChangeSpec := { name := "rowsTells", fn := fun _ => fun
  | [d1, d2] => { results := [.lit (.bool false)], args := [d1, d2] }
  | _ => none }
def RowsTellsWrongFalsely : Prop := rowsTellsRow.holds Try.pinned (OpenSpec.ofChange rowsTellsWrong)

/-- 'yuccalaw22.RowsActs': WHATEVER THE INPUT: true; the input reads as it did. -/
def rowsActsSpec : ChangeSpec := { name := "rowsActs", fn := fun _ => fun
  | [d] => { results := [.lit (.bool true)], args := [d] }
  | _ => none }
def rowsActsRow : OpenClaim := { program := "yteohndfkdfehcaa", sum := "6fab4a683e52dbeb43bb91b27000ea539135ac323ca256f76b907dc7dfffdf89", func := "yucca/yuccalaw22.RowsActs", spec := "rowsActs", apart := false }
def RowsActsSaid : Prop := rowsActsRow.holds Try.pinned (OpenSpec.ofChange rowsActsSpec)

/-- ITS FALSE NEIGHBOUR: 'it returns false'. Refute it at one input. -/
def rowsActsWrong : ChangeSpec := { name := "rowsActs", fn := fun _ => fun
  | [d] => { results := [.lit (.bool false)], args := [d] }
  | _ => none }
def RowsActsWrongFalsely : Prop := rowsActsRow.holds Try.pinned (OpenSpec.ofChange rowsActsWrong)

/-- 'yuccalaw22.RowsGos': WHATEVER THE INPUT: true; the input reads as it did. -/
def rowsGosSpec : ChangeSpec := { name := "rowsGos", fn := fun _ => fun
  | [d] => { results := [.lit (.bool true)], args := [d] }
  | _ => none }
def rowsGosRow : OpenClaim := { program := "yteohndfkdfehcaa", sum := "6fab4a683e52dbeb43bb91b27000ea539135ac323ca256f76b907dc7dfffdf89", func := "yucca/yuccalaw22.RowsGos", spec := "rowsGos", apart := false }
def RowsGosSaid : Prop := rowsGosRow.holds Try.pinned (OpenSpec.ofChange rowsGosSpec)

/-- ITS FALSE NEIGHBOUR: 'it returns false'. Refute it at one input. -/
def rowsGosWrong : ChangeSpec := { name := "rowsGos", fn := fun _ => fun
  | [d] => { results := [.lit (.bool false)], args := [d] }
  | _ => none }
def RowsGosWrongFalsely : Prop := rowsGosRow.holds Try.pinned (OpenSpec.ofChange rowsGosWrong)

/- THE SECOND FORM. 'bulk': how many values and letters a reading holds, each counted each time it is reached (what is shared counts as often as it is met; a slice's spare places count too). A statement '..UptoSaid' is the law's where the arguments, and the package variables that the reading takes, are together of bulk at most 1048576: NARROWER than '..Said'. Prove '..Said' where nothing that the law and all that it calls make is longer than what came in: it says more and counts as full. Else prove '..UptoSaid'. A law counts once. -/
mutual
def uptoBulk {H : Type} : DataW H → Nat
  | .lit (.string bytes) => bytes.length + 1
  | .lit _ => 1
  | .nil => 1
  | .ptr d => uptoBulk d + 1
  | .slice elems spare => uptoBulkAll elems + uptoBulkAll spare + 1
  | .agg parts => uptoBulkAll parts + 1
  | .iface _ d => uptoBulk d + 1
  | .map entries => uptoBulkEntries entries + 1
  | .held _ => 1
def uptoBulkAll {H : Type} : List (DataW H) → Nat
  | [] => 0
  | d :: r => uptoBulk d + uptoBulkAll r
def uptoBulkEntries {H : Type} : List (Lit × DataW H) → Nat
  | [] => 0
  | x :: r => uptoBulkEntry x + uptoBulkEntries r
def uptoBulkEntry {H : Type} : Lit × DataW H → Nat
  | (.string bytes, d) => bytes.length + uptoBulk d + 1
  | (_, d) => uptoBulk d + 1
 end
def uptoSmall : (H : Type) → List (DataW H) → Bool := fun _ ds => decide (uptoBulkAll ds ≤ 1048576)
def OpenSpec.upto (s : _root_.Go.ChangeSpec) : _root_.Go.OpenSpec := { _root_.Go.OpenSpec.ofChange s with cond := some uptoSmall }

/-- 'yuccalaw10.PrecTells', WHERE WHAT IT READS IS OF BULK AT MOST 1048576: true; the input reads as it did. -/
def precTellsUptoRow : OpenClaim := { program := "yteohndfkdfehcaa", sum := "6fab4a683e52dbeb43bb91b27000ea539135ac323ca256f76b907dc7dfffdf89", func := "yucca/yuccalaw10.PrecTells", spec := "precTells", apart := false, narrowed := true }
def PrecTellsUptoSaid : Prop := precTellsUptoRow.holds Try.pinned (OpenSpec.upto precTellsSpec)

/-- 'yuccalaw10.PrecTable', WHERE WHAT IT READS IS OF BULK AT MOST 1048576: true; the input reads as it did. -/
def precTableUptoRow : OpenClaim := { program := "yteohndfkdfehcaa", sum := "6fab4a683e52dbeb43bb91b27000ea539135ac323ca256f76b907dc7dfffdf89", func := "yucca/yuccalaw10.PrecTable", spec := "precTable", apart := false, narrowed := true }
def PrecTableUptoSaid : Prop := precTableUptoRow.holds Try.pinned (OpenSpec.upto precTableSpec)

/-- 'yuccalaw10.PrecAs', WHERE WHAT IT READS IS OF BULK AT MOST 1048576: true; the input reads as it did. -/
def precAsUptoRow : OpenClaim := { program := "yteohndfkdfehcaa", sum := "6fab4a683e52dbeb43bb91b27000ea539135ac323ca256f76b907dc7dfffdf89", func := "yucca/yuccalaw10.PrecAs", spec := "precAs", apart := false, narrowed := true }
def PrecAsUptoSaid : Prop := precAsUptoRow.holds Try.pinned (OpenSpec.upto precAsSpec)

/-- 'yuccalaw10.PrecRises', WHERE WHAT IT READS IS OF BULK AT MOST 1048576: true; the input reads as it did. -/
def precRisesUptoRow : OpenClaim := { program := "yteohndfkdfehcaa", sum := "6fab4a683e52dbeb43bb91b27000ea539135ac323ca256f76b907dc7dfffdf89", func := "yucca/yuccalaw10.PrecRises", spec := "precRises", apart := false, narrowed := true }
def PrecRisesUptoSaid : Prop := precRisesUptoRow.holds Try.pinned (OpenSpec.upto precRisesSpec)

/-- 'yuccalaw4.CharTakes', WHERE WHAT IT READS IS OF BULK AT MOST 1048576: true; the input reads as it did. -/
def charTakesUptoRow : OpenClaim := { program := "yteohndfkdfehcaa", sum := "6fab4a683e52dbeb43bb91b27000ea539135ac323ca256f76b907dc7dfffdf89", func := "yucca/yuccalaw4.CharTakes", spec := "charTakes", inPlace := ["internal/bytealg.IndexByteString"], apart := false, narrowed := true }
def CharTakesUptoSaid : Prop := charTakesUptoRow.holds Try.pinned (OpenSpec.upto charTakesSpec)

/-- 'yuccalaw4.CharBack', WHERE WHAT IT READS IS OF BULK AT MOST 1048576: true; the input reads as it did. -/
def charBackUptoRow : OpenClaim := { program := "yteohndfkdfehcaa", sum := "6fab4a683e52dbeb43bb91b27000ea539135ac323ca256f76b907dc7dfffdf89", func := "yucca/yuccalaw4.CharBack", spec := "charBack", inPlace := ["internal/bytealg.IndexByteString"], apart := false, narrowed := true }
def CharBackUptoSaid : Prop := charBackUptoRow.holds Try.pinned (OpenSpec.upto charBackSpec)

/-- 'yuccalaw4.CharBytes', WHERE WHAT IT READS IS OF BULK AT MOST 1048576: true; the input reads as it did. -/
def charBytesUptoRow : OpenClaim := { program := "yteohndfkdfehcaa", sum := "6fab4a683e52dbeb43bb91b27000ea539135ac323ca256f76b907dc7dfffdf89", func := "yucca/yuccalaw4.CharBytes", spec := "charBytes", inPlace := ["internal/bytealg.IndexByteString"], apart := false, narrowed := true }
def CharBytesUptoSaid : Prop := charBytesUptoRow.holds Try.pinned (OpenSpec.upto charBytesSpec)

/-- 'yuccalaw22.RowsCodes', WHERE WHAT IT READS IS OF BULK AT MOST 1048576: true; the input reads as it did. -/
def rowsCodesUptoRow : OpenClaim := { program := "yteohndfkdfehcaa", sum := "6fab4a683e52dbeb43bb91b27000ea539135ac323ca256f76b907dc7dfffdf89", func := "yucca/yuccalaw22.RowsCodes", spec := "rowsCodes", apart := false, narrowed := true }
def RowsCodesUptoSaid : Prop := rowsCodesUptoRow.holds Try.pinned (OpenSpec.upto rowsCodesSpec)

/-- 'yuccalaw22.RowsTurns', WHERE WHAT IT READS IS OF BULK AT MOST 1048576: true; the input reads as it did. -/
def rowsTurnsUptoRow : OpenClaim := { program := "yteohndfkdfehcaa", sum := "6fab4a683e52dbeb43bb91b27000ea539135ac323ca256f76b907dc7dfffdf89", func := "yucca/yuccalaw22.RowsTurns", spec := "rowsTurns", apart := false, narrowed := true }
def RowsTurnsUptoSaid : Prop := rowsTurnsUptoRow.holds Try.pinned (OpenSpec.upto rowsTurnsSpec)

/-- 'yuccalaw22.RowsTells', WHERE WHAT IT READS IS OF BULK AT MOST 1048576: true; the input reads as it did. -/
def rowsTellsUptoRow : OpenClaim := { program := "yteohndfkdfehcaa", sum := "6fab4a683e52dbeb43bb91b27000ea539135ac323ca256f76b907dc7dfffdf89", func := "yucca/yuccalaw22.RowsTells", spec := "rowsTells", apart := false, narrowed := true }
def RowsTellsUptoSaid : Prop := rowsTellsUptoRow.holds Try.pinned (OpenSpec.upto rowsTellsSpec)

/-- 'yuccalaw22.RowsActs', WHERE WHAT IT READS IS OF BULK AT MOST 1048576: true; the input reads as it did. -/
def rowsActsUptoRow : OpenClaim := { program := "yteohndfkdfehcaa", sum := "6fab4a683e52dbeb43bb91b27000ea539135ac323ca256f76b907dc7dfffdf89", func := "yucca/yuccalaw22.RowsActs", spec := "rowsActs", apart := false, narrowed := true }
def RowsActsUptoSaid : Prop := rowsActsUptoRow.holds Try.pinned (OpenSpec.upto rowsActsSpec)

/-- 'yuccalaw22.RowsGos', WHERE WHAT IT READS IS OF BULK AT MOST 1048576: true; the input reads as it did. -/
def rowsGosUptoRow : OpenClaim := { program := "yteohndfkdfehcaa", sum := "6fab4a683e52dbeb43bb91b27000ea539135ac323ca256f76b907dc7dfffdf89", func := "yucca/yuccalaw22.RowsGos", spec := "rowsGos", apart := false, narrowed := true }
def RowsGosUptoSaid : Prop := rowsGosUptoRow.holds Try.pinned (OpenSpec.upto rowsGosSpec)

end Rows
end Go.Proofs.Yteohndfkdfehcaa
