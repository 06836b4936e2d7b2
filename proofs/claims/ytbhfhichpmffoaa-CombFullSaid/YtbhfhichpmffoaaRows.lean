/-
  No cell of these rows narrows 'for every input' (looked for: loops, veiled, ifaces, maps, wideKeys, modest, calm, conditions, laid).
  DERIVED. THE GIVEN ROWS OF THIS SEAT. 12 by the template 'for every input the law returns true; each argument reads behind the call as it read before'; 0 by the template 'total and deterministic' (their statements: YtbhfhichpmffoaaTotals.lean).
  GIVEN WITH THE SEED: the statements are not yours to turn. If you find one false, say at which input.
  Laid BY PROGRAM, IN A SANDBOX (cutbox-rows.mjs): the forced cells as the released guide's own fill.sh prints them over the translation c61e7a7449d02e06… (all of the seat's roots in one cut). By AI agents, Wed Nov 11 2026. No macro, syntax, notation, axiom, sorry.
-/
import Derived.Test.YtbhfhichpmffoaaChecked
import GoSem.Claim
import GoSem.ClaimJoined
import GoSem.ClaimMapViews
import Derived.JoinedTies
import Derived.KernelRfl
namespace Go.Proofs.Ytbhfhichpmffoaa
/- THE CELL 'sum', in the pinned program and in every row, IS THE sha256 OF THE DUMP (.gsa) THAT YtbhfhichpmffoaaProg.lean LOADS. Nothing in Lean hashes anything: it is a label: what it is worth is what the hold of that sum in a sandbox is worth. -/
noncomputable def Try.pinned : Pinned := { name := "ytbhfhichpmffoaa", sum := "c61e7a7449d02e06fd57c449fb02be7ac89f4041bd576d8075b72fc1c305312a", checked := Try.checked }
namespace Rows
def none {H : Type} : Left H := { results := [], args := [] }

/-- 'yuccalaw2.NamesPuts': WHATEVER THE INPUT: true; the input reads as it did. -/
def namesPutsSpec : ChangeSpec := { name := "namesPuts", fn := fun _ => fun
  | [d1, d2] => { results := [.lit (.bool true)], args := [d1, d2] }
  | _ => none }
def namesPutsRow : OpenClaim := { program := "ytbhfhichpmffoaa", sum := "c61e7a7449d02e06fd57c449fb02be7ac89f4041bd576d8075b72fc1c305312a", func := "yucca/yuccalaw2.NamesPuts", spec := "namesPuts", inPlace := ["internal/bytealg.abigen_runtime_cmpstring"], unfollowed := true, recurses := true, apart := false }
def NamesPutsSaid : Prop := namesPutsRow.holds Try.pinned (OpenSpec.ofChange namesPutsSpec)

/-- ITS FALSE NEIGHBOUR: 'it returns false'. Refute it at one input. -/
def namesPutsWrong : ChangeSpec := { name := "namesPuts", fn := fun _ => fun
  | [d1, d2] => { results := [.lit (.bool false)], args := [d1, d2] }
  | _ => none }
def NamesPutsWrongFalsely : Prop := namesPutsRow.holds Try.pinned (OpenSpec.ofChange namesPutsWrong)

/-- 'yuccalaw2.NamesSorted': WHATEVER THE INPUT: true; the input reads as it did. -/
def namesSortedSpec : ChangeSpec := { name := "namesSorted", fn := fun _ => fun
  | [d] => { results := [.lit (.bool true)], args := [d] }
  | _ => none }
def namesSortedRow : OpenClaim := { program := "ytbhfhichpmffoaa", sum := "c61e7a7449d02e06fd57c449fb02be7ac89f4041bd576d8075b72fc1c305312a", func := "yucca/yuccalaw2.NamesSorted", spec := "namesSorted", inPlace := ["internal/bytealg.abigen_runtime_cmpstring"], unfollowed := true, recurses := true, apart := false }
def NamesSortedSaid : Prop := namesSortedRow.holds Try.pinned (OpenSpec.ofChange namesSortedSpec)

/-- ITS FALSE NEIGHBOUR: 'it returns false'. Refute it at one input. -/
def namesSortedWrong : ChangeSpec := { name := "namesSorted", fn := fun _ => fun
  | [d] => { results := [.lit (.bool false)], args := [d] }
  | _ => none }
def NamesSortedWrongFalsely : Prop := namesSortedRow.holds Try.pinned (OpenSpec.ofChange namesSortedWrong)

/-- 'yuccalaw24.NumsTells': WHATEVER THE INPUT: true; the input reads as it did. -/
def numsTellsSpec : ChangeSpec := { name := "numsTells", fn := fun _ => fun
  | [d1, d2, d3, d4] => { results := [.lit (.bool true)], args := [d1, d2, d3, d4] }
  | _ => none }
def numsTellsRow : OpenClaim := { program := "ytbhfhichpmffoaa", sum := "c61e7a7449d02e06fd57c449fb02be7ac89f4041bd576d8075b72fc1c305312a", func := "yucca/yuccalaw24.NumsTells", spec := "numsTells", unfollowed := true, recurses := true, apart := false }
def NumsTellsSaid : Prop := numsTellsRow.holds Try.pinned (OpenSpec.ofChange numsTellsSpec)

/-- ITS FALSE NEIGHBOUR: 'it returns false'. Refute it at one input. -/
def numsTellsWrong : ChangeSpec := { name := "numsTells", fn := fun _ => fun
  | [d1, d2, d3, d4] => { results := [.lit (.bool false)], args := [d1, d2, d3, d4] }
  | _ => none }
def NumsTellsWrongFalsely : Prop := numsTellsRow.holds Try.pinned (OpenSpec.ofChange numsTellsWrong)

/-- 'yuccalaw24.NumsBack': WHATEVER THE INPUT: true; the input reads as it did. -/
def numsBackSpec : ChangeSpec := { name := "numsBack", fn := fun _ => fun
  | [d] => { results := [.lit (.bool true)], args := [d] }
  | _ => none }
def numsBackRow : OpenClaim := { program := "ytbhfhichpmffoaa", sum := "c61e7a7449d02e06fd57c449fb02be7ac89f4041bd576d8075b72fc1c305312a", func := "yucca/yuccalaw24.NumsBack", spec := "numsBack", unfollowed := true, recurses := true, apart := false }
def NumsBackSaid : Prop := numsBackRow.holds Try.pinned (OpenSpec.ofChange numsBackSpec)

/-- ITS FALSE NEIGHBOUR: 'it returns false'. Refute it at one input. -/
def numsBackWrong : ChangeSpec := { name := "numsBack", fn := fun _ => fun
  | [d] => { results := [.lit (.bool false)], args := [d] }
  | _ => none }
def NumsBackWrongFalsely : Prop := numsBackRow.holds Try.pinned (OpenSpec.ofChange numsBackWrong)

/-- 'yuccalaw24.NumsNone': WHATEVER THE INPUT: true; the input reads as it did. -/
def numsNoneSpec : ChangeSpec := { name := "numsNone", fn := fun _ => fun
  | [d1, d2] => { results := [.lit (.bool true)], args := [d1, d2] }
  | _ => none }
def numsNoneRow : OpenClaim := { program := "ytbhfhichpmffoaa", sum := "c61e7a7449d02e06fd57c449fb02be7ac89f4041bd576d8075b72fc1c305312a", func := "yucca/yuccalaw24.NumsNone", spec := "numsNone", unfollowed := true, recurses := true, apart := false }
def NumsNoneSaid : Prop := numsNoneRow.holds Try.pinned (OpenSpec.ofChange numsNoneSpec)

/-- ITS FALSE NEIGHBOUR: 'it returns false'. Refute it at one input. -/
def numsNoneWrong : ChangeSpec := { name := "numsNone", fn := fun _ => fun
  | [d1, d2] => { results := [.lit (.bool false)], args := [d1, d2] }
  | _ => none }
def NumsNoneWrongFalsely : Prop := numsNoneRow.holds Try.pinned (OpenSpec.ofChange numsNoneWrong)

/-- 'yuccalaw23.CombLays': WHATEVER THE INPUT: true; the input reads as it did. -/
def combLaysSpec : ChangeSpec := { name := "combLays", fn := fun _ => fun
  | [d1, d2, d3] => { results := [.lit (.bool true)], args := [d1, d2, d3] }
  | _ => none }
def combLaysRow : OpenClaim := { program := "ytbhfhichpmffoaa", sum := "c61e7a7449d02e06fd57c449fb02be7ac89f4041bd576d8075b72fc1c305312a", func := "yucca/yuccalaw23.CombLays", spec := "combLays", unfollowed := true, recurses := true, apart := false }
def CombLaysSaid : Prop := combLaysRow.holds Try.pinned (OpenSpec.ofChange combLaysSpec)

/-- ITS FALSE NEIGHBOUR: 'it returns false'. Refute it at one input. -/
def combLaysWrong : ChangeSpec := { name := "combLays", fn := fun _ => fun
  | [d1, d2, d3] => { results := [.lit (.bool false)], args := [d1, d2, d3] }
  | _ => none }
def CombLaysWrongFalsely : Prop := combLaysRow.holds Try.pinned (OpenSpec.ofChange combLaysWrong)

/-- 'yuccalaw23.CombGets': WHATEVER THE INPUT: true; the input reads as it did. -/
def combGetsSpec : ChangeSpec := { name := "combGets", fn := fun _ => fun
  | [d1, d2, d3, d4] => { results := [.lit (.bool true)], args := [d1, d2, d3, d4] }
  | _ => none }
def combGetsRow : OpenClaim := { program := "ytbhfhichpmffoaa", sum := "c61e7a7449d02e06fd57c449fb02be7ac89f4041bd576d8075b72fc1c305312a", func := "yucca/yuccalaw23.CombGets", spec := "combGets", unfollowed := true, recurses := true, apart := false }
def CombGetsSaid : Prop := combGetsRow.holds Try.pinned (OpenSpec.ofChange combGetsSpec)

/-- ITS FALSE NEIGHBOUR: 'it returns false'. Refute it at one input. -/
def combGetsWrong : ChangeSpec := { name := "combGets", fn := fun _ => fun
  | [d1, d2, d3, d4] => { results := [.lit (.bool false)], args := [d1, d2, d3, d4] }
  | _ => none }
def CombGetsWrongFalsely : Prop := combGetsRow.holds Try.pinned (OpenSpec.ofChange combGetsWrong)

/-- 'yuccalaw23.CombFits': WHATEVER THE INPUT: true; the input reads as it did. -/
def combFitsSpec : ChangeSpec := { name := "combFits", fn := fun _ => fun
  | [d1, d2] => { results := [.lit (.bool true)], args := [d1, d2] }
  | _ => none }
def combFitsRow : OpenClaim := { program := "ytbhfhichpmffoaa", sum := "c61e7a7449d02e06fd57c449fb02be7ac89f4041bd576d8075b72fc1c305312a", func := "yucca/yuccalaw23.CombFits", spec := "combFits", unfollowed := true, recurses := true, apart := false }
def CombFitsSaid : Prop := combFitsRow.holds Try.pinned (OpenSpec.ofChange combFitsSpec)

/-- ITS FALSE NEIGHBOUR: 'it returns false'. Refute it at one input. -/
def combFitsWrong : ChangeSpec := { name := "combFits", fn := fun _ => fun
  | [d1, d2] => { results := [.lit (.bool false)], args := [d1, d2] }
  | _ => none }
def CombFitsWrongFalsely : Prop := combFitsRow.holds Try.pinned (OpenSpec.ofChange combFitsWrong)

/-- 'yuccalaw23.CombLeast': WHATEVER THE INPUT: true; the input reads as it did. -/
def combLeastSpec : ChangeSpec := { name := "combLeast", fn := fun _ => fun
  | [d1, d2] => { results := [.lit (.bool true)], args := [d1, d2] }
  | _ => none }
def combLeastRow : OpenClaim := { program := "ytbhfhichpmffoaa", sum := "c61e7a7449d02e06fd57c449fb02be7ac89f4041bd576d8075b72fc1c305312a", func := "yucca/yuccalaw23.CombLeast", spec := "combLeast", unfollowed := true, recurses := true, apart := false }
def CombLeastSaid : Prop := combLeastRow.holds Try.pinned (OpenSpec.ofChange combLeastSpec)

/-- ITS FALSE NEIGHBOUR: 'it returns false'. Refute it at one input. -/
def combLeastWrong : ChangeSpec := { name := "combLeast", fn := fun _ => fun
  | [d1, d2] => { results := [.lit (.bool false)], args := [d1, d2] }
  | _ => none }
def CombLeastWrongFalsely : Prop := combLeastRow.holds Try.pinned (OpenSpec.ofChange combLeastWrong)

/-- 'yuccalaw23.CombTurned': WHATEVER THE INPUT: true; the input reads as it did. -/
def combTurnedSpec : ChangeSpec := { name := "combTurned", fn := fun _ => fun
  | [d1, d2] => { results := [.lit (.bool true)], args := [d1, d2] }
  | _ => none }
def combTurnedRow : OpenClaim := { program := "ytbhfhichpmffoaa", sum := "c61e7a7449d02e06fd57c449fb02be7ac89f4041bd576d8075b72fc1c305312a", func := "yucca/yuccalaw23.CombTurned", spec := "combTurned", unfollowed := true, recurses := true, apart := false }
def CombTurnedSaid : Prop := combTurnedRow.holds Try.pinned (OpenSpec.ofChange combTurnedSpec)

/-- ITS FALSE NEIGHBOUR: 'it returns false'. Refute it at one input. -/
def combTurnedWrong : ChangeSpec := { name := "combTurned", fn := fun _ => fun
  | [d1, d2] => { results := [.lit (.bool false)], args := [d1, d2] }
  | _ => none }
def CombTurnedWrongFalsely : Prop := combTurnedRow.holds Try.pinned (OpenSpec.ofChange combTurnedWrong)

/-- 'yuccalaw23.CombFull': WHATEVER THE INPUT: true; the input reads as it did. -/
def combFullSpec : ChangeSpec := { name := "combFull", fn := fun _ => fun
  | [d1, d2, d3] => { results := [.lit (.bool true)], args := [d1, d2, d3] }
  | _ => none }
def combFullRow : OpenClaim := { program := "ytbhfhichpmffoaa", sum := "c61e7a7449d02e06fd57c449fb02be7ac89f4041bd576d8075b72fc1c305312a", func := "yucca/yuccalaw23.CombFull", spec := "combFull", unfollowed := true, recurses := true, apart := false }
def CombFullSaid : Prop := combFullRow.holds Try.pinned (OpenSpec.ofChange combFullSpec)

/-- ITS FALSE NEIGHBOUR: 'it returns false'. Refute it at one input. -/
def combFullWrong : ChangeSpec := { name := "combFull", fn := fun _ => fun
  | [d1, d2, d3] => { results := [.lit (.bool false)], args := [d1, d2, d3] }
  | _ => none }
def CombFullWrongFalsely : Prop := combFullRow.holds Try.pinned (OpenSpec.ofChange combFullWrong)

/-- 'yuccalaw15.ItemsTexts': WHATEVER THE INPUT: true; the input reads as it did. -/
def itemsTextsSpec : ChangeSpec := { name := "itemsTexts", fn := fun _ => fun
  | [d1, d2, d3] => { results := [.lit (.bool true)], args := [d1, d2, d3] }
  | _ => none }
def itemsTextsRow : OpenClaim := { program := "ytbhfhichpmffoaa", sum := "c61e7a7449d02e06fd57c449fb02be7ac89f4041bd576d8075b72fc1c305312a", func := "yucca/yuccalaw15.ItemsTexts", spec := "itemsTexts", inPlace := ["internal/bytealg.IndexByteString"], unfollowed := true, recurses := true, apart := false }
def ItemsTextsSaid : Prop := itemsTextsRow.holds Try.pinned (OpenSpec.ofChange itemsTextsSpec)

/-- ITS FALSE NEIGHBOUR: 'it returns false'. Refute it at one input. -/
def itemsTextsWrong : ChangeSpec := { name := "itemsTexts", fn := fun _ => fun
  | [d1, d2, d3] => { results := [.lit (.bool false)], args := [d1, d2, d3] }
  | _ => none }
def ItemsTextsWrongFalsely : Prop := itemsTextsRow.holds Try.pinned (OpenSpec.ofChange itemsTextsWrong)

/- THE SECOND FORM. 'bulk': how many values and letters a reading holds, each counted each time it is reached (what is shared counts as often as it is met; a slice's spare places count too). A statement '..UptoSaid' is the law's where the arguments, and the package variables that the reading takes, are together of bulk at most 1048576: NARROWER than '..Said'. Prove '..Said' where nothing that the law and all that it calls make is longer than what came in: it says more and counts as full. Else prove '..UptoSaid'. A law counts once. -/
mutual
def uptoBulk {H : Type} : DataW H → Nat
  | .lit (.string bytes) => bytes.length + 1
  | .lit _ => 1
  | .nil => 1
  | .ptr d => uptoBulk d + 1
  | .slice elems spare => uptoBulkAll elems + uptoBulkAll spare + 1
  | .agg parts => uptoBulkAll parts + 1
  | .iface _ d => uptoBulk d + 1
  | .map entries => uptoBulkEntries entries + 1
  | .held _ => 1
def uptoBulkAll {H : Type} : List (DataW H) → Nat
  | [] => 0
  | d :: r => uptoBulk d + uptoBulkAll r
def uptoBulkEntries {H : Type} : List (Lit × DataW H) → Nat
  | [] => 0
  | x :: r => uptoBulkEntry x + uptoBulkEntries r
def uptoBulkEntry {H : Type} : Lit × DataW H → Nat
  | (.string bytes, d) => bytes.length + uptoBulk d + 1
  | (_, d) => uptoBulk d + 1
 end
def uptoSmall : (H : Type) → List (DataW H) → Bool := fun _ ds => decide (uptoBulkAll ds ≤ 1048576)
def OpenSpec.upto (s : _root_.Go.ChangeSpec) : _root_.Go.OpenSpec := { _root_.Go.OpenSpec.ofChange s with cond := some uptoSmall }

/-- 'yuccalaw2.NamesPuts', WHERE WHAT IT READS IS OF BULK AT MOST 1048576: true; the input reads as it did. -/
def namesPutsUptoRow : OpenClaim := { program := "ytbhfhichpmffoaa", sum := "c61e7a7449d02e06fd57c449fb02be7ac89f4041bd576d8075b72fc1c305312a", func := "yucca/yuccalaw2.NamesPuts", spec := "namesPuts", inPlace := ["internal/bytealg.abigen_runtime_cmpstring"], unfollowed := true, recurses := true, apart := false, narrowed := true }
def NamesPutsUptoSaid : Prop := namesPutsUptoRow.holds Try.pinned (OpenSpec.upto namesPutsSpec)

/-- 'yuccalaw2.NamesSorted', WHERE WHAT IT READS IS OF BULK AT MOST 1048576: true; the input reads as it did. -/
def namesSortedUptoRow : OpenClaim := { program := "ytbhfhichpmffoaa", sum := "c61e7a7449d02e06fd57c449fb02be7ac89f4041bd576d8075b72fc1c305312a", func := "yucca/yuccalaw2.NamesSorted", spec := "namesSorted", inPlace := ["internal/bytealg.abigen_runtime_cmpstring"], unfollowed := true, recurses := true, apart := false, narrowed := true }
def NamesSortedUptoSaid : Prop := namesSortedUptoRow.holds Try.pinned (OpenSpec.upto namesSortedSpec)

/-- 'yuccalaw24.NumsTells', WHERE WHAT IT READS IS OF BULK AT MOST 1048576: true; the input reads as it did. -/
def numsTellsUptoRow : OpenClaim := { program := "ytbhfhichpmffoaa", sum := "c61e7a7449d02e06fd57c449fb02be7ac89f4041bd576d8075b72fc1c305312a", func := "yucca/yuccalaw24.NumsTells", spec := "numsTells", unfollowed := true, recurses := true, apart := false, narrowed := true }
def NumsTellsUptoSaid : Prop := numsTellsUptoRow.holds Try.pinned (OpenSpec.upto numsTellsSpec)

/-- 'yuccalaw24.NumsBack', WHERE WHAT IT READS IS OF BULK AT MOST 1048576: true; the input reads as it did. -/
def numsBackUptoRow : OpenClaim := { program := "ytbhfhichpmffoaa", sum := "c61e7a7449d02e06fd57c449fb02be7ac89f4041bd576d8075b72fc1c305312a", func := "yucca/yuccalaw24.NumsBack", spec := "numsBack", unfollowed := true, recurses := true, apart := false, narrowed := true }
def NumsBackUptoSaid : Prop := numsBackUptoRow.holds Try.pinned (OpenSpec.upto numsBackSpec)

/-- 'yuccalaw24.NumsNone', WHERE WHAT IT READS IS OF BULK AT MOST 1048576: true; the input reads as it did. -/
def numsNoneUptoRow : OpenClaim := { program := "ytbhfhichpmffoaa", sum := "c61e7a7449d02e06fd57c449fb02be7ac89f4041bd576d8075b72fc1c305312a", func := "yucca/yuccalaw24.NumsNone", spec := "numsNone", unfollowed := true, recurses := true, apart := false, narrowed := true }
def NumsNoneUptoSaid : Prop := numsNoneUptoRow.holds Try.pinned (OpenSpec.upto numsNoneSpec)

/-- 'yuccalaw23.CombLays', WHERE WHAT IT READS IS OF BULK AT MOST 1048576: true; the input reads as it did. -/
def combLaysUptoRow : OpenClaim := { program := "ytbhfhichpmffoaa", sum := "c61e7a7449d02e06fd57c449fb02be7ac89f4041bd576d8075b72fc1c305312a", func := "yucca/yuccalaw23.CombLays", spec := "combLays", unfollowed := true, recurses := true, apart := false, narrowed := true }
def CombLaysUptoSaid : Prop := combLaysUptoRow.holds Try.pinned (OpenSpec.upto combLaysSpec)

/-- 'yuccalaw23.CombGets', WHERE WHAT IT READS IS OF BULK AT MOST 1048576: true; the input reads as it did. -/
def combGetsUptoRow : OpenClaim := { program := "ytbhfhichpmffoaa", sum := "c61e7a7449d02e06fd57c449fb02be7ac89f4041bd576d8075b72fc1c305312a", func := "yucca/yuccalaw23.CombGets", spec := "combGets", unfollowed := true, recurses := true, apart := false, narrowed := true }
def CombGetsUptoSaid : Prop := combGetsUptoRow.holds Try.pinned (OpenSpec.upto combGetsSpec)

/-- 'yuccalaw23.CombFits', WHERE WHAT IT READS IS OF BULK AT MOST 1048576: true; the input reads as it did. -/
def combFitsUptoRow : OpenClaim := { program := "ytbhfhichpmffoaa", sum := "c61e7a7449d02e06fd57c449fb02be7ac89f4041bd576d8075b72fc1c305312a", func := "yucca/yuccalaw23.CombFits", spec := "combFits", unfollowed := true, recurses := true, apart := false, narrowed := true }
def CombFitsUptoSaid : Prop := combFitsUptoRow.holds Try.pinned (OpenSpec.upto combFitsSpec)

/-- 'yuccalaw23.CombLeast', WHERE WHAT IT READS IS OF BULK AT MOST 1048576: true; the input reads as it did. -/
def combLeastUptoRow : OpenClaim := { program := "ytbhfhichpmffoaa", sum := "c61e7a7449d02e06fd57c449fb02be7ac89f4041bd576d8075b72fc1c305312a", func := "yucca/yuccalaw23.CombLeast", spec := "combLeast", unfollowed := true, recurses := true, apart := false, narrowed := true }
def CombLeastUptoSaid : Prop := combLeastUptoRow.holds Try.pinned (OpenSpec.upto combLeastSpec)

/-- 'yuccalaw23.CombTurned', WHERE WHAT IT READS IS OF BULK AT MOST 1048576: true; the input reads as it did. -/
def combTurnedUptoRow : OpenClaim := { program := "ytbhfhichpmffoaa", sum := "c61e7a7449d02e06fd57c449fb02be7ac89f4041bd576d8075b72fc1c305312a", func := "yucca/yuccalaw23.CombTurned", spec := "combTurned", unfollowed := true, recurses := true, apart := false, narrowed := true }
def CombTurnedUptoSaid : Prop := combTurnedUptoRow.holds Try.pinned (OpenSpec.upto combTurnedSpec)

/-- 'yuccalaw23.CombFull', WHERE WHAT IT READS IS OF BULK AT MOST 1048576: true; the input reads as it did. -/
def combFullUptoRow : OpenClaim := { program := "ytbhfhichpmffoaa", sum := "c61e7a7449d02e06fd57c449fb02be7ac89f4041bd576d8075b72fc1c305312a", func := "yucca/yuccalaw23.CombFull", spec := "combFull", unfollowed := true, recurses := true, apart := false, narrowed := true }
def CombFullUptoSaid : Prop := combFullUptoRow.holds Try.pinned (OpenSpec.upto combFullSpec)

/-- 'yuccalaw15.ItemsTexts', WHERE WHAT IT READS IS OF BULK AT MOST 1048576: true; the input reads as it did. -/
def itemsTextsUptoRow : OpenClaim := { program := "ytbhfhichpmffoaa", sum := "c61e7a7449d02e06fd57c449fb02be7ac89f4041bd576d8075b72fc1c305312a", func := "yucca/yuccalaw15.ItemsTexts", spec := "itemsTexts", inPlace := ["internal/bytealg.IndexByteString"], unfollowed := true, recurses := true, apart := false, narrowed := true }
def ItemsTextsUptoSaid : Prop := itemsTextsUptoRow.holds Try.pinned (OpenSpec.upto itemsTextsSpec)

end Rows
end Go.Proofs.Ytbhfhichpmffoaa
