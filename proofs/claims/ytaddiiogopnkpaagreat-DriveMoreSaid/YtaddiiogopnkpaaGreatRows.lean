/-
  No cell of these rows narrows 'for every input' (looked for: loops, veiled, ifaces, maps, wideKeys, modest, calm, conditions, laid).
  DERIVED. THE GIVEN ROWS OF THIS SEAT. 5 by the template 'for every input the law returns true; each argument reads behind the call as it read before'; 0 by the template 'total and deterministic' (their statements: YtaddiiogopnkpaaGreatTotals.lean).
  GIVEN WITH THE SEED: the statements are not yours to turn. If you find one false, say at which input.
  Laid BY PROGRAM, IN A SANDBOX (cutbox-rows.mjs): the forced cells as the released guide's own fill.sh prints them over the translation 31fc740776b013d0… (all of the seat's roots in one cut). By AI agents, Wed Nov 11 2026. No macro, syntax, notation, axiom, sorry.
-/
import Derived.Test.YtaddiiogopnkpaaGreatChecked
import GoSem.Claim
import GoSem.ClaimJoined
import GoSem.ClaimMapViews
import Derived.JoinedTies
import Derived.KernelRfl
namespace Go.Proofs.YtaddiiogopnkpaaGreat
/- THE CELL 'sum', in the pinned program and in every row, IS THE sha256 OF THE DUMP (.gsa) THAT YtaddiiogopnkpaaGreatProg.lean LOADS. Nothing in Lean hashes anything: it is a label: what it is worth is what the hold of that sum in a sandbox is worth. -/
noncomputable def Tryz.pinned : Pinned := { name := "ytaddiiogopnkpaagreat", sum := "31fc740776b013d04d4e7be7264abf5c1189acce13e294fee399049884c882fe", checked := Tryz.checked }
namespace Rows
def none {H : Type} : Left H := { results := [], args := [] }

/-- 'yuccalaw26.DriveTells': WHATEVER THE INPUT: true; the input reads as it did. -/
def driveTellsSpec : ChangeSpec := { name := "driveTells", fn := fun _ => fun
  | [d1, d2, d3, d4, d5, d6] => { results := [.lit (.bool true)], args := [d1, d2, d3, d4, d5, d6] }
  | _ => none }
def driveTellsRow : OpenClaim := { program := "ytaddiiogopnkpaagreat", sum := "31fc740776b013d04d4e7be7264abf5c1189acce13e294fee399049884c882fe", func := "yucca/yuccalaw26.DriveTells", spec := "driveTells", unfollowed := true, recurses := true, apart := false }
def DriveTellsSaid : Prop := driveTellsRow.holds Tryz.pinned (OpenSpec.ofChange driveTellsSpec)

/-- ITS FALSE NEIGHBOUR: 'it returns false'. Refute it at one input. -/
def driveTellsWrong : ChangeSpec := { name := "driveTells", fn := fun _ => fun
  | [d1, d2, d3, d4, d5, d6] => { results := [.lit (.bool false)], args := [d1, d2, d3, d4, d5, d6] }
  | _ => none }
def DriveTellsWrongFalsely : Prop := driveTellsRow.holds Tryz.pinned (OpenSpec.ofChange driveTellsWrong)

/-- 'yuccalaw26.DriveMore': WHATEVER THE INPUT: true; the input reads as it did. -/
def driveMoreSpec : ChangeSpec := { name := "driveMore", fn := fun _ => fun
  | [d1, d2, d3, d4, d5] => { results := [.lit (.bool true)], args := [d1, d2, d3, d4, d5] }
  | _ => none }
def driveMoreRow : OpenClaim := { program := "ytaddiiogopnkpaagreat", sum := "31fc740776b013d04d4e7be7264abf5c1189acce13e294fee399049884c882fe", func := "yucca/yuccalaw26.DriveMore", spec := "driveMore", unfollowed := true, recurses := true, apart := false }
def DriveMoreSaid : Prop := driveMoreRow.holds Tryz.pinned (OpenSpec.ofChange driveMoreSpec)

/-- ITS FALSE NEIGHBOUR: 'it returns false'. Refute it at one input. -/
def driveMoreWrong : ChangeSpec := { name := "driveMore", fn := fun _ => fun
  | [d1, d2, d3, d4, d5] => { results := [.lit (.bool false)], args := [d1, d2, d3, d4, d5] }
  | _ => none }
def DriveMoreWrongFalsely : Prop := driveMoreRow.holds Tryz.pinned (OpenSpec.ofChange driveMoreWrong)

/-- 'yuccalaw26.DriveEnds': WHATEVER THE INPUT: true; the input reads as it did. -/
def driveEndsSpec : ChangeSpec := { name := "driveEnds", fn := fun _ => fun
  | [d1, d2, d3, d4] => { results := [.lit (.bool true)], args := [d1, d2, d3, d4] }
  | _ => none }
def driveEndsRow : OpenClaim := { program := "ytaddiiogopnkpaagreat", sum := "31fc740776b013d04d4e7be7264abf5c1189acce13e294fee399049884c882fe", func := "yucca/yuccalaw26.DriveEnds", spec := "driveEnds", unfollowed := true, recurses := true, apart := false }
def DriveEndsSaid : Prop := driveEndsRow.holds Tryz.pinned (OpenSpec.ofChange driveEndsSpec)

/-- ITS FALSE NEIGHBOUR: 'it returns false'. Refute it at one input. -/
def driveEndsWrong : ChangeSpec := { name := "driveEnds", fn := fun _ => fun
  | [d1, d2, d3, d4] => { results := [.lit (.bool false)], args := [d1, d2, d3, d4] }
  | _ => none }
def DriveEndsWrongFalsely : Prop := driveEndsRow.holds Tryz.pinned (OpenSpec.ofChange driveEndsWrong)

/-- 'yuccalaw26.DriveClean': WHATEVER THE INPUT: true; the input reads as it did. -/
def driveCleanSpec : ChangeSpec := { name := "driveClean", fn := fun _ => fun
  | [d1, d2] => { results := [.lit (.bool true)], args := [d1, d2] }
  | _ => none }
def driveCleanRow : OpenClaim := { program := "ytaddiiogopnkpaagreat", sum := "31fc740776b013d04d4e7be7264abf5c1189acce13e294fee399049884c882fe", func := "yucca/yuccalaw26.DriveClean", spec := "driveClean", unfollowed := true, recurses := true, apart := false }
def DriveCleanSaid : Prop := driveCleanRow.holds Tryz.pinned (OpenSpec.ofChange driveCleanSpec)

/-- ITS FALSE NEIGHBOUR: 'it returns false'. Refute it at one input. -/
def driveCleanWrong : ChangeSpec := { name := "driveClean", fn := fun _ => fun
  | [d1, d2] => { results := [.lit (.bool false)], args := [d1, d2] }
  | _ => none }
def DriveCleanWrongFalsely : Prop := driveCleanRow.holds Tryz.pinned (OpenSpec.ofChange driveCleanWrong)

/-- 'yuccalaw26.DriveDense': WHATEVER THE INPUT: true; the input reads as it did. -/
def driveDenseSpec : ChangeSpec := { name := "driveDense", fn := fun _ => fun
  | [d1, d2, d3, d4, d5] => { results := [.lit (.bool true)], args := [d1, d2, d3, d4, d5] }
  | _ => none }
def driveDenseRow : OpenClaim := { program := "ytaddiiogopnkpaagreat", sum := "31fc740776b013d04d4e7be7264abf5c1189acce13e294fee399049884c882fe", func := "yucca/yuccalaw26.DriveDense", spec := "driveDense", unfollowed := true, recurses := true, apart := false }
def DriveDenseSaid : Prop := driveDenseRow.holds Tryz.pinned (OpenSpec.ofChange driveDenseSpec)

/-- ITS FALSE NEIGHBOUR: 'it returns false'. Refute it at one input. -/
def driveDenseWrong : ChangeSpec := { name := "driveDense", fn := fun _ => fun
  | [d1, d2, d3, d4, d5] => { results := [.lit (.bool false)], args := [d1, d2, d3, d4, d5] }
  | _ => none }
def DriveDenseWrongFalsely : Prop := driveDenseRow.holds Tryz.pinned (OpenSpec.ofChange driveDenseWrong)

/- THE SECOND FORM. 'bulk': how many values and letters a reading holds, each counted each time it is reached (what is shared counts as often as it is met; a slice's spare places count too). A statement '..UptoSaid' is the law's where the arguments, and the package variables that the reading takes, are together of bulk at most 1048576: NARROWER than '..Said'. Prove '..Said' where nothing that the law and all that it calls make is longer than what came in: it says more and counts as full. Else prove '..UptoSaid'. A law counts once. -/
mutual
def uptoBulk {H : Type} : DataW H → Nat
  | .lit (.string bytes) => bytes.length + 1
  | .lit _ => 1
  | .nil => 1
  | .ptr d => uptoBulk d + 1
  | .slice elems spare => uptoBulkAll elems + uptoBulkAll spare + 1
  | .agg parts => uptoBulkAll parts + 1
  | .iface _ d => uptoBulk d + 1
  | .map entries => uptoBulkEntries entries + 1
  | .held _ => 1
def uptoBulkAll {H : Type} : List (DataW H) → Nat
  | [] => 0
  | d :: r => uptoBulk d + uptoBulkAll r
def uptoBulkEntries {H : Type} : List (Lit × DataW H) → Nat
  | [] => 0
  | x :: r => uptoBulkEntry x + uptoBulkEntries r
def uptoBulkEntry {H : Type} : Lit × DataW H → Nat
  | (.string bytes, d) => bytes.length + uptoBulk d + 1
  | (_, d) => uptoBulk d + 1
 end
def uptoSmall : (H : Type) → List (DataW H) → Bool := fun _ ds => decide (uptoBulkAll ds ≤ 1048576)
def OpenSpec.upto (s : _root_.Go.ChangeSpec) : _root_.Go.OpenSpec := { _root_.Go.OpenSpec.ofChange s with cond := some uptoSmall }

/-- 'yuccalaw26.DriveTells', WHERE WHAT IT READS IS OF BULK AT MOST 1048576: true; the input reads as it did. -/
def driveTellsUptoRow : OpenClaim := { program := "ytaddiiogopnkpaagreat", sum := "31fc740776b013d04d4e7be7264abf5c1189acce13e294fee399049884c882fe", func := "yucca/yuccalaw26.DriveTells", spec := "driveTells", unfollowed := true, recurses := true, apart := false, narrowed := true }
def DriveTellsUptoSaid : Prop := driveTellsUptoRow.holds Tryz.pinned (OpenSpec.upto driveTellsSpec)

/-- 'yuccalaw26.DriveMore', WHERE WHAT IT READS IS OF BULK AT MOST 1048576: true; the input reads as it did. -/
def driveMoreUptoRow : OpenClaim := { program := "ytaddiiogopnkpaagreat", sum := "31fc740776b013d04d4e7be7264abf5c1189acce13e294fee399049884c882fe", func := "yucca/yuccalaw26.DriveMore", spec := "driveMore", unfollowed := true, recurses := true, apart := false, narrowed := true }
def DriveMoreUptoSaid : Prop := driveMoreUptoRow.holds Tryz.pinned (OpenSpec.upto driveMoreSpec)

/-- 'yuccalaw26.DriveEnds', WHERE WHAT IT READS IS OF BULK AT MOST 1048576: true; the input reads as it did. -/
def driveEndsUptoRow : OpenClaim := { program := "ytaddiiogopnkpaagreat", sum := "31fc740776b013d04d4e7be7264abf5c1189acce13e294fee399049884c882fe", func := "yucca/yuccalaw26.DriveEnds", spec := "driveEnds", unfollowed := true, recurses := true, apart := false, narrowed := true }
def DriveEndsUptoSaid : Prop := driveEndsUptoRow.holds Tryz.pinned (OpenSpec.upto driveEndsSpec)

/-- 'yuccalaw26.DriveClean', WHERE WHAT IT READS IS OF BULK AT MOST 1048576: true; the input reads as it did. -/
def driveCleanUptoRow : OpenClaim := { program := "ytaddiiogopnkpaagreat", sum := "31fc740776b013d04d4e7be7264abf5c1189acce13e294fee399049884c882fe", func := "yucca/yuccalaw26.DriveClean", spec := "driveClean", unfollowed := true, recurses := true, apart := false, narrowed := true }
def DriveCleanUptoSaid : Prop := driveCleanUptoRow.holds Tryz.pinned (OpenSpec.upto driveCleanSpec)

/-- 'yuccalaw26.DriveDense', WHERE WHAT IT READS IS OF BULK AT MOST 1048576: true; the input reads as it did. -/
def driveDenseUptoRow : OpenClaim := { program := "ytaddiiogopnkpaagreat", sum := "31fc740776b013d04d4e7be7264abf5c1189acce13e294fee399049884c882fe", func := "yucca/yuccalaw26.DriveDense", spec := "driveDense", unfollowed := true, recurses := true, apart := false, narrowed := true }
def DriveDenseUptoSaid : Prop := driveDenseUptoRow.holds Tryz.pinned (OpenSpec.upto driveDenseSpec)

end Rows
end Go.Proofs.YtaddiiogopnkpaaGreat
