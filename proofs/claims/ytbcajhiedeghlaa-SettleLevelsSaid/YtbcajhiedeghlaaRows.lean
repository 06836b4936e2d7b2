/-
  No cell of these rows narrows 'for every input' (looked for: loops, veiled, ifaces, maps, wideKeys, modest, calm, conditions, laid).
  DERIVED. THE GIVEN ROWS OF THIS SEAT. 10 by the template 'for every input the law returns true; each argument reads behind the call as it read before'; 0 by the template 'total and deterministic' (their statements: YtbcajhiedeghlaaTotals.lean).
  GIVEN WITH THE SEED: the statements are not yours to turn. If you find one false, say at which input.
  Laid BY PROGRAM, IN A SANDBOX (cutbox-rows.mjs): the forced cells as the released guide's own fill.sh prints them over the translation 2c991eb253637c87… (all of the seat's roots in one cut). By AI agents, Wed Nov 11 2026. No macro, syntax, notation, axiom, sorry.
-/
import Derived.Test.YtbcajhiedeghlaaChecked
import GoSem.Claim
import GoSem.ClaimJoined
import GoSem.ClaimMapViews
import Derived.JoinedTies
import Derived.KernelRfl
namespace Go.Proofs.Ytbcajhiedeghlaa
/- THE CELL 'sum', in the pinned program and in every row, IS THE sha256 OF THE DUMP (.gsa) THAT YtbcajhiedeghlaaProg.lean LOADS. Nothing in Lean hashes anything: it is a label: what it is worth is what the hold of that sum in a sandbox is worth. -/
noncomputable def Try.pinned : Pinned := { name := "ytbcajhiedeghlaa", sum := "2c991eb253637c878c6c85032697b3cc222938a03eab9e185b51b1b18fe09d31", checked := Try.checked }
namespace Rows
def none {H : Type} : Left H := { results := [], args := [] }

/-- 'yuccalaw22.RowsCodes': WHATEVER THE INPUT: true; the input reads as it did. -/
def rowsCodesSpec : ChangeSpec := { name := "rowsCodes", fn := fun _ => fun
  | [d1, d2, d3] => { results := [.lit (.bool true)], args := [d1, d2, d3] }
  | _ => none }
def rowsCodesRow : OpenClaim := { program := "ytbcajhiedeghlaa", sum := "2c991eb253637c878c6c85032697b3cc222938a03eab9e185b51b1b18fe09d31", func := "yucca/yuccalaw22.RowsCodes", spec := "rowsCodes", apart := false }
def RowsCodesSaid : Prop := rowsCodesRow.holds Try.pinned (OpenSpec.ofChange rowsCodesSpec)

/-- ITS FALSE NEIGHBOUR: 'it returns false'. Refute it at one input. -/
def rowsCodesWrong : ChangeSpec := { name := "rowsCodes", fn := fun _ => fun
  | [d1, d2, d3] => { results := [.lit (.bool false)], args := [d1, d2, d3] }
  | _ => none }
def RowsCodesWrongFalsely : Prop := rowsCodesRow.holds Try.pinned (OpenSpec.ofChange rowsCodesWrong)

/-- 'yuccalaw22.RowsTurns': WHATEVER THE INPUT: true; the input reads as it did. -/
def rowsTurnsSpec : ChangeSpec := { name := "rowsTurns", fn := fun _ => fun
  | [d1, d2, d3] => { results := [.lit (.bool true)], args := [d1, d2, d3] }
  | _ => none }
def rowsTurnsRow : OpenClaim := { program := "ytbcajhiedeghlaa", sum := "2c991eb253637c878c6c85032697b3cc222938a03eab9e185b51b1b18fe09d31", func := "yucca/yuccalaw22.RowsTurns", spec := "rowsTurns", apart := false }
def RowsTurnsSaid : Prop := rowsTurnsRow.holds Try.pinned (OpenSpec.ofChange rowsTurnsSpec)

/-- ITS FALSE NEIGHBOUR: 'it returns false'. Refute it at one input. -/
def rowsTurnsWrong : ChangeSpec := { name := "rowsTurns", fn := fun _ => fun
  | [d1, d2, d3] => { results := [.lit (.bool false)], args := [d1, d2, d3] }
  | _ => none }
def RowsTurnsWrongFalsely : Prop := rowsTurnsRow.holds Try.pinned (OpenSpec.ofChange rowsTurnsWrong)

/-- 'yuccalaw22.RowsTells': WHATEVER THE INPUT: true; the input reads as it did. -/
def rowsTellsSpec : ChangeSpec := { name := "rowsTells", fn := fun _ => fun
  | [d1, d2] => { results := [.lit (.bool true)], args := [d1, d2] }
  | _ => none }
def rowsTellsRow : OpenClaim := { program := "ytbcajhiedeghlaa", sum := "2c991eb253637c878c6c85032697b3cc222938a03eab9e185b51b1b18fe09d31", func := "yucca/yuccalaw22.RowsTells", spec := "rowsTells", apart := false }
def RowsTellsSaid : Prop := rowsTellsRow.holds Try.pinned (OpenSpec.ofChange rowsTellsSpec)

/-- ITS FALSE NEIGHBOUR: 'it returns false'. Refute it at one input. -/
def rowsTellsWrong : ChangeSpec := { name := "rowsTells", fn := fun _ => fun
  | [d1, d2] => { results := [.lit (.bool false)], args := [d1, d2] }
  | _ => none }
def RowsTellsWrongFalsely : Prop := rowsTellsRow.holds Try.pinned (OpenSpec.ofChange rowsTellsWrong)

/-- 'yuccalaw22.RowsActs': WHATEVER THE INPUT: true; the input reads as it did. -/
def rowsActsSpec : ChangeSpec := { name := "rowsActs", fn := fun _ => fun
  | [d] => { results := [.lit (.bool true)], args := [d] }
  | _ => none }
def rowsActsRow : OpenClaim := { program := "ytbcajhiedeghlaa", sum := "2c991eb253637c878c6c85032697b3cc222938a03eab9e185b51b1b18fe09d31", func := "yucca/yuccalaw22.RowsActs", spec := "rowsActs", apart := false }
def RowsActsSaid : Prop := rowsActsRow.holds Try.pinned (OpenSpec.ofChange rowsActsSpec)

/-- ITS FALSE NEIGHBOUR: 'it returns false'. Refute it at one input. -/
def rowsActsWrong : ChangeSpec := { name := "rowsActs", fn := fun _ => fun
  | [d] => { results := [.lit (.bool false)], args := [d] }
  | _ => none }
def RowsActsWrongFalsely : Prop := rowsActsRow.holds Try.pinned (OpenSpec.ofChange rowsActsWrong)

/-- 'yuccalaw22.RowsGos': WHATEVER THE INPUT: true; the input reads as it did. -/
def rowsGosSpec : ChangeSpec := { name := "rowsGos", fn := fun _ => fun
  | [d] => { results := [.lit (.bool true)], args := [d] }
  | _ => none }
def rowsGosRow : OpenClaim := { program := "ytbcajhiedeghlaa", sum := "2c991eb253637c878c6c85032697b3cc222938a03eab9e185b51b1b18fe09d31", func := "yucca/yuccalaw22.RowsGos", spec := "rowsGos", apart := false }
def RowsGosSaid : Prop := rowsGosRow.holds Try.pinned (OpenSpec.ofChange rowsGosSpec)

/-- ITS FALSE NEIGHBOUR: 'it returns false'. Refute it at one input. -/
def rowsGosWrong : ChangeSpec := { name := "rowsGos", fn := fun _ => fun
  | [d] => { results := [.lit (.bool false)], args := [d] }
  | _ => none }
def RowsGosWrongFalsely : Prop := rowsGosRow.holds Try.pinned (OpenSpec.ofChange rowsGosWrong)

/-- 'yuccalaw20.SettleTells': WHATEVER THE INPUT: true; the input reads as it did. -/
def settleTellsSpec : ChangeSpec := { name := "settleTells", fn := fun _ => fun
  | [d1, d2] => { results := [.lit (.bool true)], args := [d1, d2] }
  | _ => none }
def settleTellsRow : OpenClaim := { program := "ytbcajhiedeghlaa", sum := "2c991eb253637c878c6c85032697b3cc222938a03eab9e185b51b1b18fe09d31", func := "yucca/yuccalaw20.SettleTells", spec := "settleTells", apart := false }
def SettleTellsSaid : Prop := settleTellsRow.holds Try.pinned (OpenSpec.ofChange settleTellsSpec)

/-- ITS FALSE NEIGHBOUR: 'it returns false'. Refute it at one input. -/
def settleTellsWrong : ChangeSpec := { name := "settleTells", fn := fun _ => fun
  | [d1, d2] => { results := [.lit (.bool false)], args := [d1, d2] }
  | _ => none }
def SettleTellsWrongFalsely : Prop := settleTellsRow.holds Try.pinned (OpenSpec.ofChange settleTellsWrong)

/-- 'yuccalaw20.SettleActs': WHATEVER THE INPUT: true; the input reads as it did. -/
def settleActsSpec : ChangeSpec := { name := "settleActs", fn := fun _ => fun
  | [d] => { results := [.lit (.bool true)], args := [d] }
  | _ => none }
def settleActsRow : OpenClaim := { program := "ytbcajhiedeghlaa", sum := "2c991eb253637c878c6c85032697b3cc222938a03eab9e185b51b1b18fe09d31", func := "yucca/yuccalaw20.SettleActs", spec := "settleActs", apart := false }
def SettleActsSaid : Prop := settleActsRow.holds Try.pinned (OpenSpec.ofChange settleActsSpec)

/-- ITS FALSE NEIGHBOUR: 'it returns false'. Refute it at one input. -/
def settleActsWrong : ChangeSpec := { name := "settleActs", fn := fun _ => fun
  | [d] => { results := [.lit (.bool false)], args := [d] }
  | _ => none }
def SettleActsWrongFalsely : Prop := settleActsRow.holds Try.pinned (OpenSpec.ofChange settleActsWrong)

/-- 'yuccalaw20.SettleSums': WHATEVER THE INPUT: true; the input reads as it did. -/
def settleSumsSpec : ChangeSpec := { name := "settleSums", fn := fun _ => fun
  | [d] => { results := [.lit (.bool true)], args := [d] }
  | _ => none }
def settleSumsRow : OpenClaim := { program := "ytbcajhiedeghlaa", sum := "2c991eb253637c878c6c85032697b3cc222938a03eab9e185b51b1b18fe09d31", func := "yucca/yuccalaw20.SettleSums", spec := "settleSums", apart := false }
def SettleSumsSaid : Prop := settleSumsRow.holds Try.pinned (OpenSpec.ofChange settleSumsSpec)

/-- ITS FALSE NEIGHBOUR: 'it returns false'. Refute it at one input. -/
def settleSumsWrong : ChangeSpec := { name := "settleSums", fn := fun _ => fun
  | [d] => { results := [.lit (.bool false)], args := [d] }
  | _ => none }
def SettleSumsWrongFalsely : Prop := settleSumsRow.holds Try.pinned (OpenSpec.ofChange settleSumsWrong)

/-- 'yuccalaw20.SettleOne': WHATEVER THE INPUT: true; the input reads as it did. -/
def settleOneSpec : ChangeSpec := { name := "settleOne", fn := fun _ => fun
  | [d] => { results := [.lit (.bool true)], args := [d] }
  | _ => none }
def settleOneRow : OpenClaim := { program := "ytbcajhiedeghlaa", sum := "2c991eb253637c878c6c85032697b3cc222938a03eab9e185b51b1b18fe09d31", func := "yucca/yuccalaw20.SettleOne", spec := "settleOne", apart := false }
def SettleOneSaid : Prop := settleOneRow.holds Try.pinned (OpenSpec.ofChange settleOneSpec)

/-- ITS FALSE NEIGHBOUR: 'it returns false'. Refute it at one input. -/
def settleOneWrong : ChangeSpec := { name := "settleOne", fn := fun _ => fun
  | [d] => { results := [.lit (.bool false)], args := [d] }
  | _ => none }
def SettleOneWrongFalsely : Prop := settleOneRow.holds Try.pinned (OpenSpec.ofChange settleOneWrong)

/-- 'yuccalaw20.SettleLevels': WHATEVER THE INPUT: true; the input reads as it did. -/
def settleLevelsSpec : ChangeSpec := { name := "settleLevels", fn := fun _ => fun
  | [d] => { results := [.lit (.bool true)], args := [d] }
  | _ => none }
def settleLevelsRow : OpenClaim := { program := "ytbcajhiedeghlaa", sum := "2c991eb253637c878c6c85032697b3cc222938a03eab9e185b51b1b18fe09d31", func := "yucca/yuccalaw20.SettleLevels", spec := "settleLevels", apart := false }
def SettleLevelsSaid : Prop := settleLevelsRow.holds Try.pinned (OpenSpec.ofChange settleLevelsSpec)

/-- ITS FALSE NEIGHBOUR: 'it returns false'. Refute it at one input. -/
def settleLevelsWrong : ChangeSpec := { name := "settleLevels", fn := fun _ => fun
  | [d] => { results := [.lit (.bool false)], args := [d] }
  | _ => none }
def SettleLevelsWrongFalsely : Prop := settleLevelsRow.holds Try.pinned (OpenSpec.ofChange settleLevelsWrong)

/- THE SECOND FORM. 'bulk': how many values and letters a reading holds, each counted each time it is reached (what is shared counts as often as it is met; a slice's spare places count too). A statement '..UptoSaid' is the law's where the arguments, and the package variables that the reading takes, are together of bulk at most 1048576: NARROWER than '..Said'. Prove '..Said' where nothing that the law and all that it calls make is longer than what came in: it says more and counts as full. Else prove '..UptoSaid'. A law counts once. -/
mutual
def uptoBulk {H : Type} : DataW H → Nat
  | .lit (.string bytes) => bytes.length + 1
  | .lit _ => 1
  | .nil => 1
  | .ptr d => uptoBulk d + 1
  | .slice elems spare => uptoBulkAll elems + uptoBulkAll spare + 1
  | .agg parts => uptoBulkAll parts + 1
  | .iface _ d => uptoBulk d + 1
  | .map entries => uptoBulkEntries entries + 1
  | .held _ => 1
def uptoBulkAll {H : Type} : List (DataW H) → Nat
  | [] => 0
  | d :: r => uptoBulk d + uptoBulkAll r
def uptoBulkEntries {H : Type} : List (Lit × DataW H) → Nat
  | [] => 0
  | x :: r => uptoBulkEntry x + uptoBulkEntries r
def uptoBulkEntry {H : Type} : Lit × DataW H → Nat
  | (.string bytes, d) => bytes.length + uptoBulk d + 1
  | (_, d) => uptoBulk d + 1
 end
def uptoSmall : (H : Type) → List (DataW H) → Bool := fun _ ds => decide (uptoBulkAll ds ≤ 1048576)
def OpenSpec.upto (s : _root_.Go.ChangeSpec) : _root_.Go.OpenSpec := { _root_.Go.OpenSpec.ofChange s with cond := some uptoSmall }

/-- 'yuccalaw22.RowsCodes', WHERE WHAT IT READS IS OF BULK AT MOST 1048576: true; the input reads as it did. -/
def rowsCodesUptoRow : OpenClaim := { program := "ytbcajhiedeghlaa", sum := "2c991eb253637c878c6c85032697b3cc222938a03eab9e185b51b1b18fe09d31", func := "yucca/yuccalaw22.RowsCodes", spec := "rowsCodes", apart := false, narrowed := true }
def RowsCodesUptoSaid : Prop := rowsCodesUptoRow.holds Try.pinned (OpenSpec.upto rowsCodesSpec)

/-- 'yuccalaw22.RowsTurns', WHERE WHAT IT READS IS OF BULK AT MOST 1048576: true; the input reads as it did. -/
def rowsTurnsUptoRow : OpenClaim := { program := "ytbcajhiedeghlaa", sum := "2c991eb253637c878c6c85032697b3cc222938a03eab9e185b51b1b18fe09d31", func := "yucca/yuccalaw22.RowsTurns", spec := "rowsTurns", apart := false, narrowed := true }
def RowsTurnsUptoSaid : Prop := rowsTurnsUptoRow.holds Try.pinned (OpenSpec.upto rowsTurnsSpec)

/-- 'yuccalaw22.RowsTells', WHERE WHAT IT READS IS OF BULK AT MOST 1048576: true; the input reads as it did. -/
def rowsTellsUptoRow : OpenClaim := { program := "ytbcajhiedeghlaa", sum := "2c991eb253637c878c6c85032697b3cc222938a03eab9e185b51b1b18fe09d31", func := "yucca/yuccalaw22.RowsTells", spec := "rowsTells", apart := false, narrowed := true }
def RowsTellsUptoSaid : Prop := rowsTellsUptoRow.holds Try.pinned (OpenSpec.upto rowsTellsSpec)

/-- 'yuccalaw22.RowsActs', WHERE WHAT IT READS IS OF BULK AT MOST 1048576: true; the input reads as it did. -/
def rowsActsUptoRow : OpenClaim := { program := "ytbcajhiedeghlaa", sum := "2c991eb253637c878c6c85032697b3cc222938a03eab9e185b51b1b18fe09d31", func := "yucca/yuccalaw22.RowsActs", spec := "rowsActs", apart := false, narrowed := true }
def RowsActsUptoSaid : Prop := rowsActsUptoRow.holds Try.pinned (OpenSpec.upto rowsActsSpec)

/-- 'yuccalaw22.RowsGos', WHERE WHAT IT READS IS OF BULK AT MOST 1048576: true; the input reads as it did. -/
def rowsGosUptoRow : OpenClaim := { program := "ytbcajhiedeghlaa", sum := "2c991eb253637c878c6c85032697b3cc222938a03eab9e185b51b1b18fe09d31", func := "yucca/yuccalaw22.RowsGos", spec := "rowsGos", apart := false, narrowed := true }
def RowsGosUptoSaid : Prop := rowsGosUptoRow.holds Try.pinned (OpenSpec.upto rowsGosSpec)

/-- 'yuccalaw20.SettleTells', WHERE WHAT IT READS IS OF BULK AT MOST 1048576: true; the input reads as it did. -/
def settleTellsUptoRow : OpenClaim := { program := "ytbcajhiedeghlaa", sum := "2c991eb253637c878c6c85032697b3cc222938a03eab9e185b51b1b18fe09d31", func := "yucca/yuccalaw20.SettleTells", spec := "settleTells", apart := false, narrowed := true }
def SettleTellsUptoSaid : Prop := settleTellsUptoRow.holds Try.pinned (OpenSpec.upto settleTellsSpec)

/-- 'yuccalaw20.SettleActs', WHERE WHAT IT READS IS OF BULK AT MOST 1048576: true; the input reads as it did. -/
def settleActsUptoRow : OpenClaim := { program := "ytbcajhiedeghlaa", sum := "2c991eb253637c878c6c85032697b3cc222938a03eab9e185b51b1b18fe09d31", func := "yucca/yuccalaw20.SettleActs", spec := "settleActs", apart := false, narrowed := true }
def SettleActsUptoSaid : Prop := settleActsUptoRow.holds Try.pinned (OpenSpec.upto settleActsSpec)

/-- 'yuccalaw20.SettleSums', WHERE WHAT IT READS IS OF BULK AT MOST 1048576: true; the input reads as it did. -/
def settleSumsUptoRow : OpenClaim := { program := "ytbcajhiedeghlaa", sum := "2c991eb253637c878c6c85032697b3cc222938a03eab9e185b51b1b18fe09d31", func := "yucca/yuccalaw20.SettleSums", spec := "settleSums", apart := false, narrowed := true }
def SettleSumsUptoSaid : Prop := settleSumsUptoRow.holds Try.pinned (OpenSpec.upto settleSumsSpec)

/-- 'yuccalaw20.SettleOne', WHERE WHAT IT READS IS OF BULK AT MOST 1048576: true; the input reads as it did. -/
def settleOneUptoRow : OpenClaim := { program := "ytbcajhiedeghlaa", sum := "2c991eb253637c878c6c85032697b3cc222938a03eab9e185b51b1b18fe09d31", func := "yucca/yuccalaw20.SettleOne", spec := "settleOne", apart := false, narrowed := true }
def SettleOneUptoSaid : Prop := settleOneUptoRow.holds Try.pinned (OpenSpec.upto settleOneSpec)

/-- 'yuccalaw20.SettleLevels', WHERE WHAT IT READS IS OF BULK AT MOST 1048576: true; the input reads as it did. -/
def settleLevelsUptoRow : OpenClaim := { program := "ytbcajhiedeghlaa", sum := "2c991eb253637c878c6c85032697b3cc222938a03eab9e185b51b1b18fe09d31", func := "yucca/yuccalaw20.SettleLevels", spec := "settleLevels", apart := false, narrowed := true }
def SettleLevelsUptoSaid : Prop := settleLevelsUptoRow.holds Try.pinned (OpenSpec.upto settleLevelsSpec)

end Rows
end Go.Proofs.Ytbcajhiedeghlaa
