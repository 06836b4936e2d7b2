/-
  No cell of these rows narrows 'for every input' (looked for: loops, veiled, ifaces, maps, wideKeys, modest, calm, conditions, laid).
  DERIVED. THE GIVEN ROWS OF THIS SEAT. 14 by the template 'for every input the law returns true; each argument reads behind the call as it read before'; 0 by the template 'total and deterministic' (their statements: YtmddbjglblcegaaTotals.lean).
  GIVEN WITH THE SEED: the statements are not yours to turn. If you find one false, say at which input.
  Laid BY PROGRAM, IN A SANDBOX (cutbox-rows.mjs): the forced cells as the released guide's own fill.sh prints them over the translation e53ee96e0a030c05… (all of the seat's roots in one cut). By AI agents, Wed Nov 11 2026. No macro, syntax, notation, axiom, sorry.
-/
import Derived.Test.YtmddbjglblcegaaChecked
import GoSem.Claim
import GoSem.ClaimJoined
import GoSem.ClaimMapViews
import Derived.JoinedTies
import Derived.KernelRfl
namespace Go.Proofs.Ytmddbjglblcegaa
/- THE CELL 'sum', in the pinned program and in every row, IS THE sha256 OF THE DUMP (.gsa) THAT YtmddbjglblcegaaProg.lean LOADS. Nothing in Lean hashes anything: it is a label: what it is worth is what the hold of that sum in a sandbox is worth. -/
noncomputable def Try.pinned : Pinned := { name := "ytmddbjglblcegaa", sum := "e53ee96e0a030c05f0321ae223526e0bb1d902716d9832caac808f2805ea8079", checked := Try.checked }
namespace Rows
def none {H : Type} : Left H := { results := [], args := [] }

/-- 'yuccalaw24.NumsTells': WHATEVER THE INPUT: true; the input reads as it did. -/
def numsTellsSpec : ChangeSpec := { name := "numsTells", fn := fun _ => fun
  | [d1, d2, d3, d4] => { results := [.lit (.bool true)], args := [d1, d2, d3, d4] }
  | _ => none }
def numsTellsRow : OpenClaim := { program := "ytmddbjglblcegaa", sum := "e53ee96e0a030c05f0321ae223526e0bb1d902716d9832caac808f2805ea8079", func := "yucca/yuccalaw24.NumsTells", spec := "numsTells", unfollowed := true, recurses := true, apart := false }
def NumsTellsSaid : Prop := numsTellsRow.holds Try.pinned (OpenSpec.ofChange numsTellsSpec)

/-- ITS FALSE NEIGHBOUR: 'it returns false'. Refute it at one input. -/
def numsTellsWrong : ChangeSpec := { name := "numsTells", fn := fun _ => fun
  | [d1, d2, d3, d4] => { results := [.lit (.bool false)], args := [d1, d2, d3, d4] }
  | _ => none }
def NumsTellsWrongFalsely : Prop := numsTellsRow.holds Try.pinned (OpenSpec.ofChange numsTellsWrong)

/-- 'yuccalaw24.NumsBack': WHATEVER THE INPUT: true; the input reads as it did. -/
def numsBackSpec : ChangeSpec := { name := "numsBack", fn := fun _ => fun
  | [d] => { results := [.lit (.bool true)], args := [d] }
  | _ => none }
def numsBackRow : OpenClaim := { program := "ytmddbjglblcegaa", sum := "e53ee96e0a030c05f0321ae223526e0bb1d902716d9832caac808f2805ea8079", func := "yucca/yuccalaw24.NumsBack", spec := "numsBack", unfollowed := true, recurses := true, apart := false }
def NumsBackSaid : Prop := numsBackRow.holds Try.pinned (OpenSpec.ofChange numsBackSpec)

/-- ITS FALSE NEIGHBOUR: 'it returns false'. Refute it at one input. -/
def numsBackWrong : ChangeSpec := { name := "numsBack", fn := fun _ => fun
  | [d] => { results := [.lit (.bool false)], args := [d] }
  | _ => none }
def NumsBackWrongFalsely : Prop := numsBackRow.holds Try.pinned (OpenSpec.ofChange numsBackWrong)

/-- 'yuccalaw24.NumsNone': WHATEVER THE INPUT: true; the input reads as it did. -/
def numsNoneSpec : ChangeSpec := { name := "numsNone", fn := fun _ => fun
  | [d1, d2] => { results := [.lit (.bool true)], args := [d1, d2] }
  | _ => none }
def numsNoneRow : OpenClaim := { program := "ytmddbjglblcegaa", sum := "e53ee96e0a030c05f0321ae223526e0bb1d902716d9832caac808f2805ea8079", func := "yucca/yuccalaw24.NumsNone", spec := "numsNone", unfollowed := true, recurses := true, apart := false }
def NumsNoneSaid : Prop := numsNoneRow.holds Try.pinned (OpenSpec.ofChange numsNoneSpec)

/-- ITS FALSE NEIGHBOUR: 'it returns false'. Refute it at one input. -/
def numsNoneWrong : ChangeSpec := { name := "numsNone", fn := fun _ => fun
  | [d1, d2] => { results := [.lit (.bool false)], args := [d1, d2] }
  | _ => none }
def NumsNoneWrongFalsely : Prop := numsNoneRow.holds Try.pinned (OpenSpec.ofChange numsNoneWrong)

/-- 'yuccalaw15.ItemsTells': WHATEVER THE INPUT: true; the input reads as it did. -/
def itemsTellsSpec : ChangeSpec := { name := "itemsTells", fn := fun _ => fun
  | [d1, d2, d3, d4, d5] => { results := [.lit (.bool true)], args := [d1, d2, d3, d4, d5] }
  | _ => none }
def itemsTellsRow : OpenClaim := { program := "ytmddbjglblcegaa", sum := "e53ee96e0a030c05f0321ae223526e0bb1d902716d9832caac808f2805ea8079", func := "yucca/yuccalaw15.ItemsTells", spec := "itemsTells", inPlace := ["internal/bytealg.IndexByteString"], unfollowed := true, recurses := true, apart := false }
def ItemsTellsSaid : Prop := itemsTellsRow.holds Try.pinned (OpenSpec.ofChange itemsTellsSpec)

/-- ITS FALSE NEIGHBOUR: 'it returns false'. Refute it at one input. -/
def itemsTellsWrong : ChangeSpec := { name := "itemsTells", fn := fun _ => fun
  | [d1, d2, d3, d4, d5] => { results := [.lit (.bool false)], args := [d1, d2, d3, d4, d5] }
  | _ => none }
def ItemsTellsWrongFalsely : Prop := itemsTellsRow.holds Try.pinned (OpenSpec.ofChange itemsTellsWrong)

/-- 'yuccalaw15.ItemsTexts': WHATEVER THE INPUT: true; the input reads as it did. -/
def itemsTextsSpec : ChangeSpec := { name := "itemsTexts", fn := fun _ => fun
  | [d1, d2, d3] => { results := [.lit (.bool true)], args := [d1, d2, d3] }
  | _ => none }
def itemsTextsRow : OpenClaim := { program := "ytmddbjglblcegaa", sum := "e53ee96e0a030c05f0321ae223526e0bb1d902716d9832caac808f2805ea8079", func := "yucca/yuccalaw15.ItemsTexts", spec := "itemsTexts", inPlace := ["internal/bytealg.IndexByteString"], unfollowed := true, recurses := true, apart := false }
def ItemsTextsSaid : Prop := itemsTextsRow.holds Try.pinned (OpenSpec.ofChange itemsTextsSpec)

/-- ITS FALSE NEIGHBOUR: 'it returns false'. Refute it at one input. -/
def itemsTextsWrong : ChangeSpec := { name := "itemsTexts", fn := fun _ => fun
  | [d1, d2, d3] => { results := [.lit (.bool false)], args := [d1, d2, d3] }
  | _ => none }
def ItemsTextsWrongFalsely : Prop := itemsTextsRow.holds Try.pinned (OpenSpec.ofChange itemsTextsWrong)

/-- 'yuccalaw15.ItemsCloses': WHATEVER THE INPUT: true; the input reads as it did. -/
def itemsClosesSpec : ChangeSpec := { name := "itemsCloses", fn := fun _ => fun
  | [d1, d2, d3] => { results := [.lit (.bool true)], args := [d1, d2, d3] }
  | _ => none }
def itemsClosesRow : OpenClaim := { program := "ytmddbjglblcegaa", sum := "e53ee96e0a030c05f0321ae223526e0bb1d902716d9832caac808f2805ea8079", func := "yucca/yuccalaw15.ItemsCloses", spec := "itemsCloses", inPlace := ["internal/bytealg.IndexByteString"], unfollowed := true, recurses := true, apart := false }
def ItemsClosesSaid : Prop := itemsClosesRow.holds Try.pinned (OpenSpec.ofChange itemsClosesSpec)

/-- ITS FALSE NEIGHBOUR: 'it returns false'. Refute it at one input. -/
def itemsClosesWrong : ChangeSpec := { name := "itemsCloses", fn := fun _ => fun
  | [d1, d2, d3] => { results := [.lit (.bool false)], args := [d1, d2, d3] }
  | _ => none }
def ItemsClosesWrongFalsely : Prop := itemsClosesRow.holds Try.pinned (OpenSpec.ofChange itemsClosesWrong)

/-- 'yuccalaw15.ItemsOver': WHATEVER THE INPUT: true; the input reads as it did. -/
def itemsOverSpec : ChangeSpec := { name := "itemsOver", fn := fun _ => fun
  | [d1, d2] => { results := [.lit (.bool true)], args := [d1, d2] }
  | _ => none }
def itemsOverRow : OpenClaim := { program := "ytmddbjglblcegaa", sum := "e53ee96e0a030c05f0321ae223526e0bb1d902716d9832caac808f2805ea8079", func := "yucca/yuccalaw15.ItemsOver", spec := "itemsOver", inPlace := ["internal/bytealg.IndexByteString"], unfollowed := true, recurses := true, apart := false }
def ItemsOverSaid : Prop := itemsOverRow.holds Try.pinned (OpenSpec.ofChange itemsOverSpec)

/-- ITS FALSE NEIGHBOUR: 'it returns false'. Refute it at one input. -/
def itemsOverWrong : ChangeSpec := { name := "itemsOver", fn := fun _ => fun
  | [d1, d2] => { results := [.lit (.bool false)], args := [d1, d2] }
  | _ => none }
def ItemsOverWrongFalsely : Prop := itemsOverRow.holds Try.pinned (OpenSpec.ofChange itemsOverWrong)

/-- 'yuccalaw15.ItemsWay': WHATEVER THE INPUT: true; the input reads as it did. -/
def itemsWaySpec : ChangeSpec := { name := "itemsWay", fn := fun _ => fun
  | [d1, d2] => { results := [.lit (.bool true)], args := [d1, d2] }
  | _ => none }
def itemsWayRow : OpenClaim := { program := "ytmddbjglblcegaa", sum := "e53ee96e0a030c05f0321ae223526e0bb1d902716d9832caac808f2805ea8079", func := "yucca/yuccalaw15.ItemsWay", spec := "itemsWay", inPlace := ["internal/bytealg.IndexByteString"], unfollowed := true, recurses := true, apart := false }
def ItemsWaySaid : Prop := itemsWayRow.holds Try.pinned (OpenSpec.ofChange itemsWaySpec)

/-- ITS FALSE NEIGHBOUR: 'it returns false'. Refute it at one input. -/
def itemsWayWrong : ChangeSpec := { name := "itemsWay", fn := fun _ => fun
  | [d1, d2] => { results := [.lit (.bool false)], args := [d1, d2] }
  | _ => none }
def ItemsWayWrongFalsely : Prop := itemsWayRow.holds Try.pinned (OpenSpec.ofChange itemsWayWrong)

/-- 'yuccalaw16.AutoTells': WHATEVER THE INPUT: true; the input reads as it did. -/
def autoTellsSpec : ChangeSpec := { name := "autoTells", fn := fun _ => fun
  | [d1, d2] => { results := [.lit (.bool true)], args := [d1, d2] }
  | _ => none }
def autoTellsRow : OpenClaim := { program := "ytmddbjglblcegaa", sum := "e53ee96e0a030c05f0321ae223526e0bb1d902716d9832caac808f2805ea8079", func := "yucca/yuccalaw16.AutoTells", spec := "autoTells", unfollowed := true, recurses := true, apart := false }
def AutoTellsSaid : Prop := autoTellsRow.holds Try.pinned (OpenSpec.ofChange autoTellsSpec)

/-- ITS FALSE NEIGHBOUR: 'it returns false'. Refute it at one input. -/
def autoTellsWrong : ChangeSpec := { name := "autoTells", fn := fun _ => fun
  | [d1, d2] => { results := [.lit (.bool false)], args := [d1, d2] }
  | _ => none }
def AutoTellsWrongFalsely : Prop := autoTellsRow.holds Try.pinned (OpenSpec.ofChange autoTellsWrong)

/-- 'yuccalaw16.AutoFinds': WHATEVER THE INPUT: true; the input reads as it did. -/
def autoFindsSpec : ChangeSpec := { name := "autoFinds", fn := fun _ => fun
  | [d1, d2, d3, d4] => { results := [.lit (.bool true)], args := [d1, d2, d3, d4] }
  | _ => none }
def autoFindsRow : OpenClaim := { program := "ytmddbjglblcegaa", sum := "e53ee96e0a030c05f0321ae223526e0bb1d902716d9832caac808f2805ea8079", func := "yucca/yuccalaw16.AutoFinds", spec := "autoFinds", unfollowed := true, recurses := true, apart := false }
def AutoFindsSaid : Prop := autoFindsRow.holds Try.pinned (OpenSpec.ofChange autoFindsSpec)

/-- ITS FALSE NEIGHBOUR: 'it returns false'. Refute it at one input. -/
def autoFindsWrong : ChangeSpec := { name := "autoFinds", fn := fun _ => fun
  | [d1, d2, d3, d4] => { results := [.lit (.bool false)], args := [d1, d2, d3, d4] }
  | _ => none }
def AutoFindsWrongFalsely : Prop := autoFindsRow.holds Try.pinned (OpenSpec.ofChange autoFindsWrong)

/-- 'yuccalaw16.AutoNumbers': WHATEVER THE INPUT: true; the input reads as it did. -/
def autoNumbersSpec : ChangeSpec := { name := "autoNumbers", fn := fun _ => fun
  | [d] => { results := [.lit (.bool true)], args := [d] }
  | _ => none }
def autoNumbersRow : OpenClaim := { program := "ytmddbjglblcegaa", sum := "e53ee96e0a030c05f0321ae223526e0bb1d902716d9832caac808f2805ea8079", func := "yucca/yuccalaw16.AutoNumbers", spec := "autoNumbers", unfollowed := true, recurses := true, apart := false }
def AutoNumbersSaid : Prop := autoNumbersRow.holds Try.pinned (OpenSpec.ofChange autoNumbersSpec)

/-- ITS FALSE NEIGHBOUR: 'it returns false'. Refute it at one input. -/
def autoNumbersWrong : ChangeSpec := { name := "autoNumbers", fn := fun _ => fun
  | [d] => { results := [.lit (.bool false)], args := [d] }
  | _ => none }
def AutoNumbersWrongFalsely : Prop := autoNumbersRow.holds Try.pinned (OpenSpec.ofChange autoNumbersWrong)

/-- 'yuccalaw16.AutoLong': WHATEVER THE INPUT: true; the input reads as it did. -/
def autoLongSpec : ChangeSpec := { name := "autoLong", fn := fun _ => fun
  | [d] => { results := [.lit (.bool true)], args := [d] }
  | _ => none }
def autoLongRow : OpenClaim := { program := "ytmddbjglblcegaa", sum := "e53ee96e0a030c05f0321ae223526e0bb1d902716d9832caac808f2805ea8079", func := "yucca/yuccalaw16.AutoLong", spec := "autoLong", unfollowed := true, recurses := true, apart := false }
def AutoLongSaid : Prop := autoLongRow.holds Try.pinned (OpenSpec.ofChange autoLongSpec)

/-- ITS FALSE NEIGHBOUR: 'it returns false'. Refute it at one input. -/
def autoLongWrong : ChangeSpec := { name := "autoLong", fn := fun _ => fun
  | [d] => { results := [.lit (.bool false)], args := [d] }
  | _ => none }
def AutoLongWrongFalsely : Prop := autoLongRow.holds Try.pinned (OpenSpec.ofChange autoLongWrong)

/-- 'yuccalaw16.AutoMoves': WHATEVER THE INPUT: true; the input reads as it did. -/
def autoMovesSpec : ChangeSpec := { name := "autoMoves", fn := fun _ => fun
  | [d] => { results := [.lit (.bool true)], args := [d] }
  | _ => none }
def autoMovesRow : OpenClaim := { program := "ytmddbjglblcegaa", sum := "e53ee96e0a030c05f0321ae223526e0bb1d902716d9832caac808f2805ea8079", func := "yucca/yuccalaw16.AutoMoves", spec := "autoMoves", unfollowed := true, recurses := true, apart := false }
def AutoMovesSaid : Prop := autoMovesRow.holds Try.pinned (OpenSpec.ofChange autoMovesSpec)

/-- ITS FALSE NEIGHBOUR: 'it returns false'. Refute it at one input. -/
def autoMovesWrong : ChangeSpec := { name := "autoMoves", fn := fun _ => fun
  | [d] => { results := [.lit (.bool false)], args := [d] }
  | _ => none }
def AutoMovesWrongFalsely : Prop := autoMovesRow.holds Try.pinned (OpenSpec.ofChange autoMovesWrong)

/-- 'yuccalaw16.AutoWalks': WHATEVER THE INPUT: true; the input reads as it did. -/
def autoWalksSpec : ChangeSpec := { name := "autoWalks", fn := fun _ => fun
  | [d1, d2] => { results := [.lit (.bool true)], args := [d1, d2] }
  | _ => none }
def autoWalksRow : OpenClaim := { program := "ytmddbjglblcegaa", sum := "e53ee96e0a030c05f0321ae223526e0bb1d902716d9832caac808f2805ea8079", func := "yucca/yuccalaw16.AutoWalks", spec := "autoWalks", unfollowed := true, recurses := true, apart := false }
def AutoWalksSaid : Prop := autoWalksRow.holds Try.pinned (OpenSpec.ofChange autoWalksSpec)

/-- ITS FALSE NEIGHBOUR: 'it returns false'. Refute it at one input. -/
def autoWalksWrong : ChangeSpec := { name := "autoWalks", fn := fun _ => fun
  | [d1, d2] => { results := [.lit (.bool false)], args := [d1, d2] }
  | _ => none }
def AutoWalksWrongFalsely : Prop := autoWalksRow.holds Try.pinned (OpenSpec.ofChange autoWalksWrong)

/- THE SECOND FORM. 'bulk': how many values and letters a reading holds, each counted each time it is reached (what is shared counts as often as it is met; a slice's spare places count too). A statement '..UptoSaid' is the law's where the arguments, and the package variables that the reading takes, are together of bulk at most 1048576: NARROWER than '..Said'. Prove '..Said' where nothing that the law and all that it calls make is longer than what came in: it says more and counts as full. Else prove '..UptoSaid'. A law counts once. -/
mutual
def uptoBulk {H : Type} : DataW H → Nat
  | .lit (.string bytes) => bytes.length + 1
  | .lit _ => 1
  | .nil => 1
  | .ptr d => uptoBulk d + 1
  | .slice elems spare => uptoBulkAll elems + uptoBulkAll spare + 1
  | .agg parts => uptoBulkAll parts + 1
  | .iface _ d => uptoBulk d + 1
  | .map entries => uptoBulkEntries entries + 1
  | .held _ => 1
def uptoBulkAll {H : Type} : List (DataW H) → Nat
  | [] => 0
  | d :: r => uptoBulk d + uptoBulkAll r
def uptoBulkEntries {H : Type} : List (Lit × DataW H) → Nat
  | [] => 0
  | x :: r => uptoBulkEntry x + uptoBulkEntries r
def uptoBulkEntry {H : Type} : Lit × DataW H → Nat
  | (.string bytes, d) => bytes.length + uptoBulk d + 1
  | (_, d) => uptoBulk d + 1
 end
def uptoSmall : (H : Type) → List (DataW H) → Bool := fun _ ds => decide (uptoBulkAll ds ≤ 1048576)
def OpenSpec.upto (s : _root_.Go.ChangeSpec) : _root_.Go.OpenSpec := { _root_.Go.OpenSpec.ofChange s with cond := some uptoSmall }

/-- 'yuccalaw24.NumsTells', WHERE WHAT IT READS IS OF BULK AT MOST 1048576: true; the input reads as it did. -/
def numsTellsUptoRow : OpenClaim := { program := "ytmddbjglblcegaa", sum := "e53ee96e0a030c05f0321ae223526e0bb1d902716d9832caac808f2805ea8079", func := "yucca/yuccalaw24.NumsTells", spec := "numsTells", unfollowed := true, recurses := true, apart := false, narrowed := true }
def NumsTellsUptoSaid : Prop := numsTellsUptoRow.holds Try.pinned (OpenSpec.upto numsTellsSpec)

/-- 'yuccalaw24.NumsBack', WHERE WHAT IT READS IS OF BULK AT MOST 1048576: true; the input reads as it did. -/
def numsBackUptoRow : OpenClaim := { program := "ytmddbjglblcegaa", sum := "e53ee96e0a030c05f0321ae223526e0bb1d902716d9832caac808f2805ea8079", func := "yucca/yuccalaw24.NumsBack", spec := "numsBack", unfollowed := true, recurses := true, apart := false, narrowed := true }
def NumsBackUptoSaid : Prop := numsBackUptoRow.holds Try.pinned (OpenSpec.upto numsBackSpec)

/-- 'yuccalaw24.NumsNone', WHERE WHAT IT READS IS OF BULK AT MOST 1048576: true; the input reads as it did. -/
def numsNoneUptoRow : OpenClaim := { program := "ytmddbjglblcegaa", sum := "e53ee96e0a030c05f0321ae223526e0bb1d902716d9832caac808f2805ea8079", func := "yucca/yuccalaw24.NumsNone", spec := "numsNone", unfollowed := true, recurses := true, apart := false, narrowed := true }
def NumsNoneUptoSaid : Prop := numsNoneUptoRow.holds Try.pinned (OpenSpec.upto numsNoneSpec)

/-- 'yuccalaw15.ItemsTells', WHERE WHAT IT READS IS OF BULK AT MOST 1048576: true; the input reads as it did. -/
def itemsTellsUptoRow : OpenClaim := { program := "ytmddbjglblcegaa", sum := "e53ee96e0a030c05f0321ae223526e0bb1d902716d9832caac808f2805ea8079", func := "yucca/yuccalaw15.ItemsTells", spec := "itemsTells", inPlace := ["internal/bytealg.IndexByteString"], unfollowed := true, recurses := true, apart := false, narrowed := true }
def ItemsTellsUptoSaid : Prop := itemsTellsUptoRow.holds Try.pinned (OpenSpec.upto itemsTellsSpec)

/-- 'yuccalaw15.ItemsTexts', WHERE WHAT IT READS IS OF BULK AT MOST 1048576: true; the input reads as it did. -/
def itemsTextsUptoRow : OpenClaim := { program := "ytmddbjglblcegaa", sum := "e53ee96e0a030c05f0321ae223526e0bb1d902716d9832caac808f2805ea8079", func := "yucca/yuccalaw15.ItemsTexts", spec := "itemsTexts", inPlace := ["internal/bytealg.IndexByteString"], unfollowed := true, recurses := true, apart := false, narrowed := true }
def ItemsTextsUptoSaid : Prop := itemsTextsUptoRow.holds Try.pinned (OpenSpec.upto itemsTextsSpec)

/-- 'yuccalaw15.ItemsCloses', WHERE WHAT IT READS IS OF BULK AT MOST 1048576: true; the input reads as it did. -/
def itemsClosesUptoRow : OpenClaim := { program := "ytmddbjglblcegaa", sum := "e53ee96e0a030c05f0321ae223526e0bb1d902716d9832caac808f2805ea8079", func := "yucca/yuccalaw15.ItemsCloses", spec := "itemsCloses", inPlace := ["internal/bytealg.IndexByteString"], unfollowed := true, recurses := true, apart := false, narrowed := true }
def ItemsClosesUptoSaid : Prop := itemsClosesUptoRow.holds Try.pinned (OpenSpec.upto itemsClosesSpec)

/-- 'yuccalaw15.ItemsOver', WHERE WHAT IT READS IS OF BULK AT MOST 1048576: true; the input reads as it did. -/
def itemsOverUptoRow : OpenClaim := { program := "ytmddbjglblcegaa", sum := "e53ee96e0a030c05f0321ae223526e0bb1d902716d9832caac808f2805ea8079", func := "yucca/yuccalaw15.ItemsOver", spec := "itemsOver", inPlace := ["internal/bytealg.IndexByteString"], unfollowed := true, recurses := true, apart := false, narrowed := true }
def ItemsOverUptoSaid : Prop := itemsOverUptoRow.holds Try.pinned (OpenSpec.upto itemsOverSpec)

/-- 'yuccalaw15.ItemsWay', WHERE WHAT IT READS IS OF BULK AT MOST 1048576: true; the input reads as it did. -/
def itemsWayUptoRow : OpenClaim := { program := "ytmddbjglblcegaa", sum := "e53ee96e0a030c05f0321ae223526e0bb1d902716d9832caac808f2805ea8079", func := "yucca/yuccalaw15.ItemsWay", spec := "itemsWay", inPlace := ["internal/bytealg.IndexByteString"], unfollowed := true, recurses := true, apart := false, narrowed := true }
def ItemsWayUptoSaid : Prop := itemsWayUptoRow.holds Try.pinned (OpenSpec.upto itemsWaySpec)

/-- 'yuccalaw16.AutoTells', WHERE WHAT IT READS IS OF BULK AT MOST 1048576: true; the input reads as it did. -/
def autoTellsUptoRow : OpenClaim := { program := "ytmddbjglblcegaa", sum := "e53ee96e0a030c05f0321ae223526e0bb1d902716d9832caac808f2805ea8079", func := "yucca/yuccalaw16.AutoTells", spec := "autoTells", unfollowed := true, recurses := true, apart := false, narrowed := true }
def AutoTellsUptoSaid : Prop := autoTellsUptoRow.holds Try.pinned (OpenSpec.upto autoTellsSpec)

/-- 'yuccalaw16.AutoFinds', WHERE WHAT IT READS IS OF BULK AT MOST 1048576: true; the input reads as it did. -/
def autoFindsUptoRow : OpenClaim := { program := "ytmddbjglblcegaa", sum := "e53ee96e0a030c05f0321ae223526e0bb1d902716d9832caac808f2805ea8079", func := "yucca/yuccalaw16.AutoFinds", spec := "autoFinds", unfollowed := true, recurses := true, apart := false, narrowed := true }
def AutoFindsUptoSaid : Prop := autoFindsUptoRow.holds Try.pinned (OpenSpec.upto autoFindsSpec)

/-- 'yuccalaw16.AutoNumbers', WHERE WHAT IT READS IS OF BULK AT MOST 1048576: true; the input reads as it did. -/
def autoNumbersUptoRow : OpenClaim := { program := "ytmddbjglblcegaa", sum := "e53ee96e0a030c05f0321ae223526e0bb1d902716d9832caac808f2805ea8079", func := "yucca/yuccalaw16.AutoNumbers", spec := "autoNumbers", unfollowed := true, recurses := true, apart := false, narrowed := true }
def AutoNumbersUptoSaid : Prop := autoNumbersUptoRow.holds Try.pinned (OpenSpec.upto autoNumbersSpec)

/-- 'yuccalaw16.AutoLong', WHERE WHAT IT READS IS OF BULK AT MOST 1048576: true; the input reads as it did. -/
def autoLongUptoRow : OpenClaim := { program := "ytmddbjglblcegaa", sum := "e53ee96e0a030c05f0321ae223526e0bb1d902716d9832caac808f2805ea8079", func := "yucca/yuccalaw16.AutoLong", spec := "autoLong", unfollowed := true, recurses := true, apart := false, narrowed := true }
def AutoLongUptoSaid : Prop := autoLongUptoRow.holds Try.pinned (OpenSpec.upto autoLongSpec)

/-- 'yuccalaw16.AutoMoves', WHERE WHAT IT READS IS OF BULK AT MOST 1048576: true; the input reads as it did. -/
def autoMovesUptoRow : OpenClaim := { program := "ytmddbjglblcegaa", sum := "e53ee96e0a030c05f0321ae223526e0bb1d902716d9832caac808f2805ea8079", func := "yucca/yuccalaw16.AutoMoves", spec := "autoMoves", unfollowed := true, recurses := true, apart := false, narrowed := true }
def AutoMovesUptoSaid : Prop := autoMovesUptoRow.holds Try.pinned (OpenSpec.upto autoMovesSpec)

/-- 'yuccalaw16.AutoWalks', WHERE WHAT IT READS IS OF BULK AT MOST 1048576: true; the input reads as it did. -/
def autoWalksUptoRow : OpenClaim := { program := "ytmddbjglblcegaa", sum := "e53ee96e0a030c05f0321ae223526e0bb1d902716d9832caac808f2805ea8079", func := "yucca/yuccalaw16.AutoWalks", spec := "autoWalks", unfollowed := true, recurses := true, apart := false, narrowed := true }
def AutoWalksUptoSaid : Prop := autoWalksUptoRow.holds Try.pinned (OpenSpec.upto autoWalksSpec)

end Rows
end Go.Proofs.Ytmddbjglblcegaa
