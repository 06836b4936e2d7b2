/-
  No cell of these rows narrows 'for every input' (looked for: loops, veiled, ifaces, maps, wideKeys, modest, calm, conditions, laid).
  DERIVED. THE GIVEN ROWS OF THIS SEAT. 5 by the template 'for every input the law returns true; each argument reads behind the call as it read before'; 0 by the template 'total and deterministic' (their statements: YtdhblbniiokpmaaGreatTotals.lean).
  GIVEN WITH THE SEED: the statements are not yours to turn. If you find one false, say at which input.
  Laid BY PROGRAM, IN A SANDBOX (cutbox-rows.mjs): the forced cells as the released guide's own fill.sh prints them over the translation 33ae317c989999a4… (all of the seat's roots in one cut). By AI agents, Wed Nov 11 2026. No macro, syntax, notation, axiom, sorry.
-/
import Derived.Test.YtdhblbniiokpmaaGreatChecked
import GoSem.Claim
import GoSem.ClaimJoined
import GoSem.ClaimMapViews
import Derived.JoinedTies
import Derived.KernelRfl
namespace Go.Proofs.YtdhblbniiokpmaaGreat
/- THE CELL 'sum', in the pinned program and in every row, IS THE sha256 OF THE DUMP (.gsa) THAT YtdhblbniiokpmaaGreatProg.lean LOADS. Nothing in Lean hashes anything: it is a label: what it is worth is what the hold of that sum in a sandbox is worth. -/
noncomputable def Tryz.pinned : Pinned := { name := "ytdhblbniiokpmaagreat", sum := "33ae317c989999a4548e49879a5b51f8a3ddac80e81430a93dbdbc1890ec5286", checked := Tryz.checked }
namespace Rows
def none {H : Type} : Left H := { results := [], args := [] }

/-- 'yuccalaw25.PackTells': WHATEVER THE INPUT: true; the input reads as it did. -/
def packTellsSpec : ChangeSpec := { name := "packTells", fn := fun _ => fun
  | [d1, d2] => { results := [.lit (.bool true)], args := [d1, d2] }
  | _ => none }
def packTellsRow : OpenClaim := { program := "ytdhblbniiokpmaagreat", sum := "33ae317c989999a4548e49879a5b51f8a3ddac80e81430a93dbdbc1890ec5286", func := "yucca/yuccalaw25.PackTells", spec := "packTells", unfollowed := true, recurses := true, apart := false }
def PackTellsSaid : Prop := packTellsRow.holds Tryz.pinned (OpenSpec.ofChange packTellsSpec)

/-- ITS FALSE NEIGHBOUR: 'it returns false'. Refute it at one input. -/
def packTellsWrong : ChangeSpec := { name := "packTells", fn := fun _ => fun
  | [d1, d2] => { results := [.lit (.bool false)], args := [d1, d2] }
  | _ => none }
def PackTellsWrongFalsely : Prop := packTellsRow.holds Tryz.pinned (OpenSpec.ofChange packTellsWrong)

/-- 'yuccalaw25.PackActs': WHATEVER THE INPUT: true; the input reads as it did. -/
def packActsSpec : ChangeSpec := { name := "packActs", fn := fun _ => fun
  | [d1, d2, d3] => { results := [.lit (.bool true)], args := [d1, d2, d3] }
  | _ => none }
def packActsRow : OpenClaim := { program := "ytdhblbniiokpmaagreat", sum := "33ae317c989999a4548e49879a5b51f8a3ddac80e81430a93dbdbc1890ec5286", func := "yucca/yuccalaw25.PackActs", spec := "packActs", unfollowed := true, recurses := true, apart := false }
def PackActsSaid : Prop := packActsRow.holds Tryz.pinned (OpenSpec.ofChange packActsSpec)

/-- ITS FALSE NEIGHBOUR: 'it returns false'. Refute it at one input. -/
def packActsWrong : ChangeSpec := { name := "packActs", fn := fun _ => fun
  | [d1, d2, d3] => { results := [.lit (.bool false)], args := [d1, d2, d3] }
  | _ => none }
def PackActsWrongFalsely : Prop := packActsRow.holds Tryz.pinned (OpenSpec.ofChange packActsWrong)

/-- 'yuccalaw25.PackGos': WHATEVER THE INPUT: true; the input reads as it did. -/
def packGosSpec : ChangeSpec := { name := "packGos", fn := fun _ => fun
  | [d1, d2, d3] => { results := [.lit (.bool true)], args := [d1, d2, d3] }
  | _ => none }
def packGosRow : OpenClaim := { program := "ytdhblbniiokpmaagreat", sum := "33ae317c989999a4548e49879a5b51f8a3ddac80e81430a93dbdbc1890ec5286", func := "yucca/yuccalaw25.PackGos", spec := "packGos", unfollowed := true, recurses := true, apart := false }
def PackGosSaid : Prop := packGosRow.holds Tryz.pinned (OpenSpec.ofChange packGosSpec)

/-- ITS FALSE NEIGHBOUR: 'it returns false'. Refute it at one input. -/
def packGosWrong : ChangeSpec := { name := "packGos", fn := fun _ => fun
  | [d1, d2, d3] => { results := [.lit (.bool false)], args := [d1, d2, d3] }
  | _ => none }
def PackGosWrongFalsely : Prop := packGosRow.holds Tryz.pinned (OpenSpec.ofChange packGosWrong)

/-- 'yuccalaw25.PackSame': WHATEVER THE INPUT: true; the input reads as it did. -/
def packSameSpec : ChangeSpec := { name := "packSame", fn := fun _ => fun
  | [d] => { results := [.lit (.bool true)], args := [d] }
  | _ => none }
def packSameRow : OpenClaim := { program := "ytdhblbniiokpmaagreat", sum := "33ae317c989999a4548e49879a5b51f8a3ddac80e81430a93dbdbc1890ec5286", func := "yucca/yuccalaw25.PackSame", spec := "packSame", unfollowed := true, recurses := true, apart := false }
def PackSameSaid : Prop := packSameRow.holds Tryz.pinned (OpenSpec.ofChange packSameSpec)

/-- ITS FALSE NEIGHBOUR: 'it returns false'. Refute it at one input. -/
def packSameWrong : ChangeSpec := { name := "packSame", fn := fun _ => fun
  | [d] => { results := [.lit (.bool false)], args := [d] }
  | _ => none }
def PackSameWrongFalsely : Prop := packSameRow.holds Tryz.pinned (OpenSpec.ofChange packSameWrong)

/-- 'yuccalaw25.PackNever': WHATEVER THE INPUT: true; the input reads as it did. -/
def packNeverSpec : ChangeSpec := { name := "packNever", fn := fun _ => fun
  | [d] => { results := [.lit (.bool true)], args := [d] }
  | _ => none }
def packNeverRow : OpenClaim := { program := "ytdhblbniiokpmaagreat", sum := "33ae317c989999a4548e49879a5b51f8a3ddac80e81430a93dbdbc1890ec5286", func := "yucca/yuccalaw25.PackNever", spec := "packNever", unfollowed := true, recurses := true, apart := false }
def PackNeverSaid : Prop := packNeverRow.holds Tryz.pinned (OpenSpec.ofChange packNeverSpec)

/-- ITS FALSE NEIGHBOUR: 'it returns false'. Refute it at one input. -/
def packNeverWrong : ChangeSpec := { name := "packNever", fn := fun _ => fun
  | [d] => { results := [.lit (.bool false)], args := [d] }
  | _ => none }
def PackNeverWrongFalsely : Prop := packNeverRow.holds Tryz.pinned (OpenSpec.ofChange packNeverWrong)

/- THE SECOND FORM. 'bulk': how many values and letters a reading holds, each counted each time it is reached (what is shared counts as often as it is met; a slice's spare places count too). A statement '..UptoSaid' is the law's where the arguments, and the package variables that the reading takes, are together of bulk at most 1048576: NARROWER than '..Said'. Prove '..Said' where nothing that the law and all that it calls make is longer than what came in: it says more and counts as full. Else prove '..UptoSaid'. A law counts once. -/
mutual
def uptoBulk {H : Type} : DataW H → Nat
  | .lit (.string bytes) => bytes.length + 1
  | .lit _ => 1
  | .nil => 1
  | .ptr d => uptoBulk d + 1
  | .slice elems spare => uptoBulkAll elems + uptoBulkAll spare + 1
  | .agg parts => uptoBulkAll parts + 1
  | .iface _ d => uptoBulk d + 1
  | .map entries => uptoBulkEntries entries + 1
  | .held _ => 1
def uptoBulkAll {H : Type} : List (DataW H) → Nat
  | [] => 0
  | d :: r => uptoBulk d + uptoBulkAll r
def uptoBulkEntries {H : Type} : List (Lit × DataW H) → Nat
  | [] => 0
  | x :: r => uptoBulkEntry x + uptoBulkEntries r
def uptoBulkEntry {H : Type} : Lit × DataW H → Nat
  | (.string bytes, d) => bytes.length + uptoBulk d + 1
  | (_, d) => uptoBulk d + 1
 end
def uptoSmall : (H : Type) → List (DataW H) → Bool := fun _ ds => decide (uptoBulkAll ds ≤ 1048576)
def OpenSpec.upto (s : _root_.Go.ChangeSpec) : _root_.Go.OpenSpec := { _root_.Go.OpenSpec.ofChange s with cond := some uptoSmall }

/-- 'yuccalaw25.PackTells', WHERE WHAT IT READS IS OF BULK AT MOST 1048576: true; the input reads as it did. -/
def packTellsUptoRow : OpenClaim := { program := "ytdhblbniiokpmaagreat", sum := "33ae317c989999a4548e49879a5b51f8a3ddac80e81430a93dbdbc1890ec5286", func := "yucca/yuccalaw25.PackTells", spec := "packTells", unfollowed := true, recurses := true, apart := false, narrowed := true }
def PackTellsUptoSaid : Prop := packTellsUptoRow.holds Tryz.pinned (OpenSpec.upto packTellsSpec)

/-- 'yuccalaw25.PackActs', WHERE WHAT IT READS IS OF BULK AT MOST 1048576: true; the input reads as it did. -/
def packActsUptoRow : OpenClaim := { program := "ytdhblbniiokpmaagreat", sum := "33ae317c989999a4548e49879a5b51f8a3ddac80e81430a93dbdbc1890ec5286", func := "yucca/yuccalaw25.PackActs", spec := "packActs", unfollowed := true, recurses := true, apart := false, narrowed := true }
def PackActsUptoSaid : Prop := packActsUptoRow.holds Tryz.pinned (OpenSpec.upto packActsSpec)

/-- 'yuccalaw25.PackGos', WHERE WHAT IT READS IS OF BULK AT MOST 1048576: true; the input reads as it did. -/
def packGosUptoRow : OpenClaim := { program := "ytdhblbniiokpmaagreat", sum := "33ae317c989999a4548e49879a5b51f8a3ddac80e81430a93dbdbc1890ec5286", func := "yucca/yuccalaw25.PackGos", spec := "packGos", unfollowed := true, recurses := true, apart := false, narrowed := true }
def PackGosUptoSaid : Prop := packGosUptoRow.holds Tryz.pinned (OpenSpec.upto packGosSpec)

/-- 'yuccalaw25.PackSame', WHERE WHAT IT READS IS OF BULK AT MOST 1048576: true; the input reads as it did. -/
def packSameUptoRow : OpenClaim := { program := "ytdhblbniiokpmaagreat", sum := "33ae317c989999a4548e49879a5b51f8a3ddac80e81430a93dbdbc1890ec5286", func := "yucca/yuccalaw25.PackSame", spec := "packSame", unfollowed := true, recurses := true, apart := false, narrowed := true }
def PackSameUptoSaid : Prop := packSameUptoRow.holds Tryz.pinned (OpenSpec.upto packSameSpec)

/-- 'yuccalaw25.PackNever', WHERE WHAT IT READS IS OF BULK AT MOST 1048576: true; the input reads as it did. -/
def packNeverUptoRow : OpenClaim := { program := "ytdhblbniiokpmaagreat", sum := "33ae317c989999a4548e49879a5b51f8a3ddac80e81430a93dbdbc1890ec5286", func := "yucca/yuccalaw25.PackNever", spec := "packNever", unfollowed := true, recurses := true, apart := false, narrowed := true }
def PackNeverUptoSaid : Prop := packNeverUptoRow.holds Tryz.pinned (OpenSpec.upto packNeverSpec)

end Rows
end Go.Proofs.YtdhblbniiokpmaaGreat
