/-
  What is proved here: parts of the proof that QRi states last: rules for walks through code, and of this program's functions what they answer. No condition of their own.
-/
import Derived.Test.YteohndfkdfehcaaRows
import Derived.Test.YteohndfkdfehcaaE3
namespace Go.Proofs
open Go Go.Own
set_option maxRecDepth 100000
set_option linter.unusedVariables false
theorem fd38_0 : fldT Try.prog 38 0 0 34 = true := by kernel_rfl
theorem ct34 : cellT Try.prog 34 = true := by kernel_rfl
theorem sl34 : slT Try.prog 34 52 6 = true := by kernel_rfl
theorem fd52_3 : fldT Try.prog 52 3 3 3 = true := by kernel_rfl
theorem ct3 : cellT Try.prog 3 = true := by kernel_rfl
theorem fd52_4 : fldT Try.prog 52 4 4 3 = true := by kernel_rfl
theorem mixo : Try.prog.follows .mixedOrders = true := by kernel_rfl
theorem fd38_2 : fldT Try.prog 38 2 2 36 = true := by kernel_rfl
theorem ct36 : cellT Try.prog 36 = true := by kernel_rfl
theorem sl36 : slT Try.prog 36 109 6 = true := by kernel_rfl
theorem at38 : aggT Try.prog 38 5 = true := by kernel_rfl
theorem fd109_2 : fldT Try.prog 109 2 2 3 = true := by kernel_rfl
theorem call51 : callT Try.prog 51 = true := by kernel_rfl
theorem call19 : callT Try.prog 19 = true := by kernel_rfl
theorem it3 : intT Try.prog 3 .i64 = true := by kernel_rfl
theorem it136 : intT Try.prog 136 .u64 = true := by kernel_rfl
theorem it5 : intT Try.prog 5 .u8 = true := by kernel_rfl
theorem zt5 : zeroT Try.prog 5 1 = true := by kernel_rfl
theorem sl60 : slT Try.prog 60 5 1 = true := by kernel_rfl
theorem by60_9 : bytT Try.prog 60 9 = true := by kernel_rfl
theorem st9 : strT Try.prog 9 = true := by kernel_rfl
theorem call105 : callT Try.prog 105 = true := by kernel_rfl
theorem call106 : callT Try.prog 106 = true := by kernel_rfl
theorem call91 : callT Try.prog 91 = true := by kernel_rfl
theorem fd91_1 : fldT Try.prog 91 1 1 4 = true := by kernel_rfl
theorem ct4 : cellT Try.prog 4 = true := by kernel_rfl
theorem fd91_0 : fldT Try.prog 91 0 0 9 = true := by kernel_rfl
theorem ct9 : cellT Try.prog 9 = true := by kernel_rfl
theorem fd91_2 : fldT Try.prog 91 2 2 3 = true := by kernel_rfl
theorem call55 : callT Try.prog 55 = true := by kernel_rfl
theorem call79 : callT Try.prog 79 = true := by kernel_rfl
theorem fd89_0 : fldT Try.prog 89 0 0 3 = true := by kernel_rfl
theorem fd89_2 : fldT Try.prog 89 2 2 87 = true := by kernel_rfl
theorem ct87 : cellT Try.prog 87 = true := by kernel_rfl
theorem sl87 : slT Try.prog 87 91 4 = true := by kernel_rfl
theorem fd89_1 : fldT Try.prog 89 1 1 9 = true := by kernel_rfl
theorem at91 : aggT Try.prog 91 4 = true := by kernel_rfl
theorem call90 : callT Try.prog 90 = true := by kernel_rfl
theorem call116 : callT Try.prog 116 = true := by kernel_rfl
theorem call107 : callT Try.prog 107 = true := by kernel_rfl
theorem fd98_0 : fldT Try.prog 98 0 0 96 = true := by kernel_rfl
theorem ct96 : cellT Try.prog 96 = true := by kernel_rfl
theorem sl96 : slT Try.prog 96 100 6 = true := by kernel_rfl
theorem at100 : aggT Try.prog 100 6 = true := by kernel_rfl
theorem ze100 : (Try.prog.info? 100).bind (·.zero) = some (.agg #[.string { data := #[] }, .bool false, .int .i64 0, .int .i64 0, .string { data := #[] }, .int .i64 0]) := by kernel_rfl
theorem sz100 : sizeT Try.prog 100 6 = true := by kernel_rfl
theorem fd100_1 : fldT Try.prog 100 1 4 9 = true := by kernel_rfl
theorem fd100_0 : fldT Try.prog 100 0 0 91 = true := by kernel_rfl
theorem call92 : callT Try.prog 92 = true := by kernel_rfl
theorem call93 : callT Try.prog 93 = true := by kernel_rfl
theorem fd98_1 : fldT Try.prog 98 1 1 91 = true := by kernel_rfl
theorem fd25_0 : fldT Try.prog 25 0 0 9 = true := by kernel_rfl
theorem fd25_1 : fldT Try.prog 25 1 1 22 = true := by kernel_rfl
theorem ct22 : cellT Try.prog 22 = true := by kernel_rfl
theorem sl22 : slT Try.prog 22 89 4 = true := by kernel_rfl
theorem at89 : aggT Try.prog 89 4 = true := by kernel_rfl
theorem call78 : callT Try.prog 78 = true := by kernel_rfl
theorem fd25_2 : fldT Try.prog 25 2 2 23 = true := by kernel_rfl
theorem ct23 : cellT Try.prog 23 = true := by kernel_rfl
theorem sl23 : slT Try.prog 23 95 3 = true := by kernel_rfl
theorem at95 : aggT Try.prog 95 3 = true := by kernel_rfl
theorem ze95 : (Try.prog.info? 95).bind (·.zero) = some (.agg #[.string { data := #[] }, .slice none 0 0, .int .i64 0]) := by kernel_rfl
theorem sz95 : sizeT Try.prog 95 3 = true := by kernel_rfl
theorem fd95_0 : fldT Try.prog 95 0 0 9 = true := by kernel_rfl
theorem fd95_1 : fldT Try.prog 95 1 1 93 = true := by kernel_rfl
theorem ct93 : cellT Try.prog 93 = true := by kernel_rfl
theorem sl93 : slT Try.prog 93 98 6 = true := by kernel_rfl
theorem at98 : aggT Try.prog 98 6 = true := by kernel_rfl
theorem call80 : callT Try.prog 80 = true := by kernel_rfl
theorem fd128_4 : fldT Try.prog 128 4 8 3 = true := by kernel_rfl
theorem sz3 : sizeT Try.prog 3 1 = true := by kernel_rfl
theorem fd128_5 : fldT Try.prog 128 5 9 3 = true := by kernel_rfl
theorem fd128_6 : fldT Try.prog 128 6 10 9 = true := by kernel_rfl
theorem sz9 : sizeT Try.prog 9 1 = true := by kernel_rfl
theorem fd128_2 : fldT Try.prog 128 2 6 35 = true := by kernel_rfl
theorem ct35 : cellT Try.prog 35 = true := by kernel_rfl
theorem sl35 : slT Try.prog 35 135 2 = true := by kernel_rfl
theorem fd135_0 : fldT Try.prog 135 0 0 9 = true := by kernel_rfl
theorem fd128_0 : fldT Try.prog 128 0 0 38 = true := by kernel_rfl
theorem fd52_0 : fldT Try.prog 52 0 0 9 = true := by kernel_rfl
theorem fd52_1 : fldT Try.prog 52 1 1 4 = true := by kernel_rfl
theorem bt4 : boolT Try.prog 4 = true := by kernel_rfl
theorem fd52_2 : fldT Try.prog 52 2 2 3 = true := by kernel_rfl
theorem call66 : callT Try.prog 66 = true := by kernel_rfl
theorem ze52 : (Try.prog.info? 52).bind (·.zero) = some (.agg #[.string { data := #[] }, .bool false, .int .i64 0, .int .i64 0, .int .i64 0, .string { data := #[] }]) := by kernel_rfl
theorem sc52 : structT Try.prog 52 [(0, 1), (1, 1), (2, 1), (3, 1), (4, 1), (5, 1)] = true := by kernel_rfl
theorem sz52 : sizeT Try.prog 52 6 = true := by kernel_rfl
theorem call82 : callT Try.prog 82 = true := by kernel_rfl
theorem fd91_3 : fldT Try.prog 91 3 3 3 = true := by kernel_rfl
theorem call65 : callT Try.prog 65 = true := by kernel_rfl
theorem at52 : aggT Try.prog 52 6 = true := by kernel_rfl
theorem zt52 : zeroT Try.prog 52 6 = true := by kernel_rfl
theorem ap34 : appT Try.prog 34 52 6 64 = true := by kernel_rfl
theorem sz34 : sizeT Try.prog 34 1 = true := by kernel_rfl
theorem fd128_1 : fldT Try.prog 128 1 5 102 = true := by kernel_rfl
theorem ct102 : cellT Try.prog 102 = true := by kernel_rfl
theorem zt4 : zeroT Try.prog 4 1 = true := by kernel_rfl
theorem sl102 : slT Try.prog 102 4 1 = true := by kernel_rfl
theorem ap102 : appT Try.prog 102 4 1 1 = true := by kernel_rfl
theorem sz102 : sizeT Try.prog 102 1 = true := by kernel_rfl
theorem call69 : callT Try.prog 69 = true := by kernel_rfl
theorem ze135 : (Try.prog.info? 135).bind (·.zero) = some (.agg #[.string { data := #[] }, .string { data := #[] }]) := by kernel_rfl
theorem sc135 : structT Try.prog 135 [(0, 1), (1, 1)] = true := by kernel_rfl
theorem zt135 : zeroT Try.prog 135 2 = true := by kernel_rfl
theorem ap35 : appT Try.prog 35 135 2 32 = true := by kernel_rfl
theorem sz35 : sizeT Try.prog 35 1 = true := by kernel_rfl
theorem fd135_1 : fldT Try.prog 135 1 1 9 = true := by kernel_rfl
theorem call81 : callT Try.prog 81 = true := by kernel_rfl
theorem fd128_7 : fldT Try.prog 128 7 11 3 = true := by kernel_rfl
theorem sz4 : sizeT Try.prog 4 1 = true := by kernel_rfl
theorem fd52_5 : fldT Try.prog 52 5 5 9 = true := by kernel_rfl
theorem fd128_3 : fldT Try.prog 128 3 7 61 = true := by kernel_rfl
theorem ct61 : cellT Try.prog 61 = true := by kernel_rfl
theorem sl61 : slT Try.prog 61 9 1 = true := by kernel_rfl
theorem call67 : callT Try.prog 67 = true := by kernel_rfl
theorem fd98_2 : fldT Try.prog 98 2 5 3 = true := by kernel_rfl
theorem ze109 : (Try.prog.info? 109).bind (·.zero) = some (.agg #[.int .i64 0, .slice none 0 0, .int .i64 0, .string { data := #[] }, .slice none 0 0, .int .i64 0]) := by kernel_rfl
theorem sc109 : structT Try.prog 109 [(0, 1), (1, 1), (2, 1), (3, 1), (4, 1), (5, 1)] = true := by kernel_rfl
theorem sz109 : sizeT Try.prog 109 6 = true := by kernel_rfl
theorem fd109_1 : fldT Try.prog 109 1 1 27 = true := by kernel_rfl
theorem ct27 : cellT Try.prog 27 = true := by kernel_rfl
theorem call83 : callT Try.prog 83 = true := by kernel_rfl
theorem zt3 : zeroT Try.prog 3 1 = true := by kernel_rfl
theorem sl27 : slT Try.prog 27 3 1 = true := by kernel_rfl
theorem ap27 : appT Try.prog 27 3 1 8 = true := by kernel_rfl
theorem sz27 : sizeT Try.prog 27 1 = true := by kernel_rfl
theorem fd100_2 : fldT Try.prog 100 2 5 3 = true := by kernel_rfl
theorem fd109_3 : fldT Try.prog 109 3 3 9 = true := by kernel_rfl
theorem fd109_5 : fldT Try.prog 109 5 5 3 = true := by kernel_rfl
theorem fd128_8 : fldT Try.prog 128 8 12 3 = true := by kernel_rfl
theorem zt109 : zeroT Try.prog 109 6 = true := by kernel_rfl
theorem ap36 : appT Try.prog 36 109 6 88 = true := by kernel_rfl
theorem sz36 : sizeT Try.prog 36 1 = true := by kernel_rfl
theorem fd109_4 : fldT Try.prog 109 4 4 27 = true := by kernel_rfl
theorem at109 : aggT Try.prog 109 6 = true := by kernel_rfl
theorem ze38 : (Try.prog.info? 38).bind (·.zero) = some (.agg #[.slice none 0 0, .slice none 0 0, .slice none 0 0, .string { data := #[] }, .string { data := #[] }]) := by kernel_rfl
theorem at25 : aggT Try.prog 25 4 = true := by kernel_rfl
theorem call63 : callT Try.prog 63 = true := by kernel_rfl
theorem sc38 : structT Try.prog 38 [(0, 1), (1, 1), (2, 1), (3, 1), (4, 1)] = true := by kernel_rfl
theorem sz38 : sizeT Try.prog 38 5 = true := by kernel_rfl
theorem ze4 : (Try.prog.info? 4).bind (·.zero) = some (.bool false) := by kernel_rfl
theorem bb4 : (Try.prog.info? 4).map (·.bytes) = some 1 := by kernel_rfl
theorem ze128 : (Try.prog.info? 128).bind (·.zero) = some (.agg #[.slice none 0 0, .slice none 0 0, .slice none 0 0, .string { data := #[] }, .string { data := #[] }, .slice none 0 0, .slice none 0 0, .slice none 0 0, .int .i64 0, .int .i64 0, .string { data := #[] }, .int .i64 0, .int .i64 0]) := by kernel_rfl
theorem sc128 : structT Try.prog 128 [(0, 5), (5, 1), (6, 1), (7, 1), (8, 1), (9, 1), (10, 1), (11, 1), (12, 1)] = true := by kernel_rfl
theorem ze89 : (Try.prog.info? 89).bind (·.zero) = some (.agg #[.int .i64 0, .string { data := #[] }, .slice none 0 0, .int .i64 0]) := by kernel_rfl
theorem sz89 : sizeT Try.prog 89 4 = true := by kernel_rfl
theorem call64 : callT Try.prog 64 = true := by kernel_rfl
theorem ze91 : (Try.prog.info? 91).bind (·.zero) = some (.agg #[.string { data := #[] }, .bool false, .int .i64 0, .int .i64 0]) := by kernel_rfl
theorem sc91 : structT Try.prog 91 [(0, 1), (1, 1), (2, 1), (3, 1)] = true := by kernel_rfl
theorem fd95_2 : fldT Try.prog 95 2 2 3 = true := by kernel_rfl
theorem zt9 : zeroT Try.prog 9 1 = true := by kernel_rfl
theorem ap61 : appT Try.prog 61 9 1 16 = true := by kernel_rfl
theorem sz61 : sizeT Try.prog 61 1 = true := by kernel_rfl
theorem sz91 : sizeT Try.prog 91 4 = true := by kernel_rfl
theorem call68 : callT Try.prog 68 = true := by kernel_rfl
theorem fd38_1 : fldT Try.prog 38 1 1 35 = true := by kernel_rfl
theorem sz135 : sizeT Try.prog 135 2 = true := by kernel_rfl
theorem at135 : aggT Try.prog 135 2 = true := by kernel_rfl
theorem call52 : callT Try.prog 52 = true := by kernel_rfl
theorem fd25_3 : fldT Try.prog 25 3 3 9 = true := by kernel_rfl
theorem fd38_3 : fldT Try.prog 38 3 3 9 = true := by kernel_rfl
theorem fd38_4 : fldT Try.prog 38 4 4 9 = true := by kernel_rfl
theorem call50 : callT Try.prog 50 = true := by kernel_rfl
theorem ze25 : (Try.prog.info? 25).bind (·.zero) = some (.agg #[.string { data := #[] }, .slice none 0 0, .slice none 0 0, .string { data := #[] }]) := by kernel_rfl
theorem sc100 : structT Try.prog 100 [(0, 4), (4, 1), (5, 1)] = true := by kernel_rfl
theorem sc95 : structT Try.prog 95 [(0, 1), (1, 1), (2, 1)] = true := by kernel_rfl
theorem call25 : callT Try.prog 25 = true := by kernel_rfl
theorem zt91 : zeroT Try.prog 91 4 = true := by kernel_rfl
theorem sc89 : structT Try.prog 89 [(0, 1), (1, 1), (2, 1), (3, 1)] = true := by kernel_rfl
theorem zt89 : zeroT Try.prog 89 4 = true := by kernel_rfl
theorem ap22 : appT Try.prog 22 89 4 56 = true := by kernel_rfl
theorem sz22 : sizeT Try.prog 22 1 = true := by kernel_rfl
theorem zt100 : zeroT Try.prog 100 6 = true := by kernel_rfl
theorem ze98 : (Try.prog.info? 98).bind (·.zero) = some (.agg #[.slice none 0 0, .string { data := #[] }, .bool false, .int .i64 0, .int .i64 0, .int .i64 0]) := by kernel_rfl
theorem sc98 : structT Try.prog 98 [(0, 1), (1, 4), (5, 1)] = true := by kernel_rfl
theorem zt98 : zeroT Try.prog 98 6 = true := by kernel_rfl
theorem ap93 : appT Try.prog 93 98 6 72 = true := by kernel_rfl
theorem sz93 : sizeT Try.prog 93 1 = true := by kernel_rfl
theorem zt95 : zeroT Try.prog 95 3 = true := by kernel_rfl
theorem sz23 : sizeT Try.prog 23 1 = true := by kernel_rfl
theorem call18 : callT Try.prog 18 = true := by kernel_rfl
theorem call23 : callT Try.prog 23 = true := by kernel_rfl
theorem call21 : callT Try.prog 21 = true := by kernel_rfl
theorem sc25 : structT Try.prog 25 [(0, 1), (1, 1), (2, 1), (3, 1)] = true := by kernel_rfl
theorem sz25 : sizeT Try.prog 25 4 = true := by kernel_rfl
theorem ap87 : appT Try.prog 87 91 4 40 = true := by kernel_rfl
theorem sz87 : sizeT Try.prog 87 1 = true := by kernel_rfl
theorem ap96 : appT Try.prog 96 100 6 64 = true := by kernel_rfl
theorem sz96 : sizeT Try.prog 96 1 = true := by kernel_rfl
theorem ap23 : appT Try.prog 23 95 3 48 = true := by kernel_rfl
theorem call62 : callT Try.prog 62 = true := by kernel_rfl
theorem call49 : callT Try.prog 49 = true := by kernel_rfl
theorem call47 : callT Try.prog 47 = true := by kernel_rfl
theorem fd29_0 : fldT Try.prog 29 0 0 3 = true := by kernel_rfl
theorem fd29_2 : fldT Try.prog 29 2 2 27 = true := by kernel_rfl
theorem call46 : callT Try.prog 46 = true := by kernel_rfl
theorem fd29_1 : fldT Try.prog 29 1 1 26 = true := by kernel_rfl
theorem ct26 : cellT Try.prog 26 = true := by kernel_rfl
theorem sl26 : slT Try.prog 26 27 1 = true := by kernel_rfl
theorem call48 : callT Try.prog 48 = true := by kernel_rfl
theorem fd29_3 : fldT Try.prog 29 3 3 27 = true := by kernel_rfl
theorem fd29_4 : fldT Try.prog 29 4 4 4 = true := by kernel_rfl
theorem call15 : callT Try.prog 15 = true := by kernel_rfl
theorem at29 : aggT Try.prog 29 5 = true := by kernel_rfl
theorem call17 : callT Try.prog 17 = true := by kernel_rfl
structure Tok where
  Name : ByteArray
  Lit : Bool
  Num : Int
  Level : Int
  Assoc : Int
  Tag : ByteArray
  deriving DecidableEq, Inhabited
structure Non where
  Name : ByteArray
  Tag : ByteArray
  deriving DecidableEq, Inhabited
structure Prod where
  Left : Int
  Right : (List Int)
  Prec : Int
  Code : ByteArray
  Args : (List Int)
  At : Int
  deriving DecidableEq, Inhabited
structure Grammar where
  Toks : (List Tok)
  Nons : (List Non)
  Prods : (List Prod)
  Pro : ByteArray
  Tail : ByteArray
  deriving DecidableEq, Inhabited
def eTok : En Tok := ⟨6, fun x => [SS x.Name, BB x.Lit, I64 x.Num, I64 x.Level, I64 x.Assoc, SS x.Tag], fun _ => rfl, fun _ => NRl.nr⟩
instance : Flat eTok := ⟨fun _ => rfl⟩
instance : OOe eTok := ⟨fun x => (inferInstance : OOl [SS x.Name, BB x.Lit, I64 x.Num, I64 x.Level, I64 x.Assoc, SS x.Tag])⟩
instance : Tw eTok eTok := ⟨rfl, fun x => (inferInstance : Vws [SS x.Name, BB x.Lit, I64 x.Num, I64 x.Level, I64 x.Assoc, SS x.Tag] [SS x.Name, BB x.Lit, I64 x.Num, I64 x.Level, I64 x.Assoc, SS x.Tag])⟩
instance {x : Tok} : Vws (eTok.cells x) [SS x.Name, BB x.Lit, I64 x.Num, I64 x.Level, I64 x.Assoc, SS x.Tag] := (inferInstance : Vws [SS x.Name, BB x.Lit, I64 x.Num, I64 x.Level, I64 x.Assoc, SS x.Tag] [SS x.Name, BB x.Lit, I64 x.Num, I64 x.Level, I64 x.Assoc, SS x.Tag])
def eNon : En Non := ⟨2, fun x => [SS x.Name, SS x.Tag], fun _ => rfl, fun _ => NRl.nr⟩
instance : Flat eNon := ⟨fun _ => rfl⟩
instance : OOe eNon := ⟨fun x => (inferInstance : OOl [SS x.Name, SS x.Tag])⟩
instance : Tw eNon eNon := ⟨rfl, fun x => (inferInstance : Vws [SS x.Name, SS x.Tag] [SS x.Name, SS x.Tag])⟩
def eProd_0 : En Prod := ⟨6, fun x => [I64 x.Left, iR eI x.Right, I64 x.Prec, SS x.Code, iR eI x.Args, I64 x.At], fun _ => rfl, fun _ => NRl.nr⟩
instance : Flat eProd_0 := ⟨fun _ => rfl⟩
instance : Tw eProd_0 eProd_0 := ⟨rfl, fun x => (inferInstance : Vws [I64 x.Left, iR eI x.Right, I64 x.Prec, SS x.Code, iR eI x.Args, I64 x.At] [I64 x.Left, iR eI x.Right, I64 x.Prec, SS x.Code, iR eI x.Args, I64 x.At])⟩
instance {x : Prod} : Vws (eProd_0.cells x) [I64 x.Left, iR eI x.Right, I64 x.Prec, SS x.Code, iR eI x.Args, I64 x.At] := (inferInstance : Vws [I64 x.Left, iR eI x.Right, I64 x.Prec, SS x.Code, iR eI x.Args, I64 x.At] [I64 x.Left, iR eI x.Right, I64 x.Prec, SS x.Code, iR eI x.Args, I64 x.At])
def pf51 (a0 : Grammar) (a1 : Int) : Option (Int × Int) :=
 ((bif decide (a1 < 0) then some true else some (decide ((a0.Toks.length : Int) ≤ a1)))).bind fun c2 =>
 (bif c2 then
 some (0, 0)
 else
 (idx a0.Toks a1).bind fun x4 =>
 (idx a0.Toks a1).bind fun x5 =>
 some (x4.Level, x5.Assoc))
theorem con51 (a0 : Grammar) (a1 : Int) (r : Int × Int) (h : pf51 a0 a1 = some r) : Con Try.prog 51 [.agg [iR eTok a0.Toks, iR eNon a0.Nons, iR eProd_0 a0.Prods, SS a0.Pro, SS a0.Tail], I64 a1] [none, none] (.tup [I64 r.1, I64 r.2]) := by
  unfold pf51 at h
  refine Con.go (N := ⟨27, []⟩) Try.func51 rfl rfl rfl rfl (W.fin ?_)
  refine W.st [(0, .agg [iR eTok a0.Toks, iR eNon a0.Nons, iR eProd_0 a0.Prods, SS a0.Pro, SS a0.Tail]), (1, I64 a1)] ?_
  refine W.sq' ?_
  refine W.rx [(1, _), (2, _)] (Rv (O.box (.aggF rfl rfl) rfl) <| Rv (O.as (.k rfl)) <| Rv (O.as (.k rfl)) <| RunL.fin (.n rfl (.n rfl .nil))) ?_
  refine Px.sq ?_
  refine W.sq' ?_
  refine W.sq' ?_
  obtain ⟨c2, hj, h⟩ := bnd h
  refine W.rx [(1, I64 a1), (2, .obj [iR eTok a0.Toks, iR eNon a0.Nons, iR eProd_0 a0.Prods, SS a0.Pro, SS a0.Tail]), (14, BB c2)] ?_ ?_
  · refine Rv (O.mv (.lit rfl)) <| Rv (O.lss (.lit rfl) (.k rfl)) <| Rv (O.mv (.lit rfl)) ?_
    rcases cnd hj with ⟨hb1, hj⟩ | ⟨hb1, hj⟩
    · obtain rfl := sm hj
      exact RunL.ps rfl rfl hb1 rfl rfl <| RunL.ps rfl rfl hb1 rfl rfl <| RunL.ps rfl rfl hb1 rfl rfl <| RunL.ps rfl rfl hb1 rfl rfl <| RunL.ps rfl rfl hb1 rfl rfl <| Rv (O.pkT (.lit rfl) hb1 (.k rfl)) <| RunL.fin (.n rfl (.n rfl (.n rfl .nil)))
    · obtain rfl := sm hj
      exact RunL.v (O.mv (.lit rfl)) rfl rfl (.yb rfl rfl hb1) <| RunL.v (O.fO rfl (.obj rfl) fd38_0 rfl) rfl rfl (.yb rfl rfl hb1) <| RunL.v (O.ldO (y := iR eTok a0.Toks) rfl (.ptr rfl) ct34 rfl rfl) rfl rfl (.yb rfl rfl hb1) <| RunL.v (O.lenI (.imm rfl) sl34) rfl rfl (.yb rfl rfl hb1) <| RunL.v (O.geq (.lit rfl) (.lit rfl)) rfl rfl (.yb rfl rfl hb1) <| Rv (O.pkF (.lit rfl) hb1 (.lit rfl)) <| RunL.fin (.n rfl (.n rfl (.n rfl .nil)))
  refine Px.sq ?_
  refine W.cnd rfl (fun hb3 => ?_) (fun hb3 => ?_)
  · replace h := cndT hb3 h
    refine W.sq' ?_
    refine W.rx [(4, _), (5, _)] (Rv (O.as (.k rfl)) <| Rv (O.as (.k rfl)) <| RunL.fin (.n rfl (.n rfl .nil))) ?_
    refine Px.sq ?_
    refine W.rt ?_
    refine Px.sqR ?_
    obtain rfl := sm h
    exact Px.fin (Fin.ro (.f rfl rfl (.f rfl rfl .nil)) rfl (of_decide_eq_true (by kernel_rfl)) (.no (.no .nil)) rfl (.inr rfl))
  · replace h := cndF hb3 h
    refine W.sk ?_
    refine Px.sq ?_
    refine W.sq' ?_
    obtain ⟨x4, hx4, h⟩ := bnd h
    obtain ⟨x5, hx5, h⟩ := bnd h
    refine W.rd [[], [0], [], [0, 1, 2], [0, 1, 2, 3], rn 0 5 [], [], [6], [], [6, 7, 8], [6, 7, 8, 9], rn 6 5 [], rn 0 6 [], rn 0 13 []] [(4, _), (5, _)] mixo (by kernel_rfl) (Dv 0 (O.fO rfl (.obj rfl) fd38_0 rfl) <| Dv 1 (O.ldO (y := iR eTok a0.Toks) rfl (.ptr rfl) ct34 rfl rfl) <| Dv 2 (O.mv (.lit rfl)) <| Dv 3 (O.ixI (.imm rfl) (.lit rfl) sl34 hx4) <| Dv 4 (O.fI (.iptr rfl) fd52_3) <| Dv 5 (O.ldI (x := I64 x4.Level) (.iptr rfl) ct3 rfl) <| Dv 6 (O.fO rfl (.obj rfl) fd38_0 rfl) <| Dv 7 (O.ldO (y := iR eTok a0.Toks) rfl (.ptr rfl) ct34 rfl rfl) <| Dv 8 (O.mv (.lit rfl)) <| Dv 9 (O.ixI (.imm rfl) (.lit rfl) sl34 hx5) <| Dv 10 (O.fI (.iptr rfl) fd52_4) <| Dv 11 (O.ldI (x := I64 x5.Assoc) (.iptr rfl) ct3 rfl) <| Dv 12 (O.as (.lit rfl)) <| Dv 13 (O.as (.lit rfl)) <| DL.fin rfl rfl rfl (.n rfl (.n rfl .nil))) ?_
    refine Px.sq ?_
    refine W.rt ?_
    obtain rfl := sm h
    exact Px.fin (Fin.ro (.f rfl rfl (.f rfl rfl .nil)) rfl (of_decide_eq_true (by kernel_rfl)) (.no (.no .nil)) rfl (.inr rfl))
def pf19 (a0 : Grammar) (a1 : Int) : Option (Int × Int) :=
 ((bif decide (a1 < 0) then some true else some (decide ((a0.Prods.length : Int) ≤ a1)))).bind fun c2 =>
 (bif c2 then
 some (0, 0)
 else
 (idx a0.Prods a1).bind fun x4 =>
 (pf51 a0 x4.Prec).bind fun x5 =>
 some (x5.1, x5.2))
theorem con19 (a0 : Grammar) (a1 : Int) (r : Int × Int) (h : pf19 a0 a1 = some r) : Con Try.prog 19 [.agg [iR eTok a0.Toks, iR eNon a0.Nons, iR eProd_0 a0.Prods, SS a0.Pro, SS a0.Tail], I64 a1] [none, none] (.tup [I64 r.1, I64 r.2]) := by
  unfold pf19 at h
  refine Con.go (N := ⟨25, []⟩) Try.func19 rfl rfl rfl rfl (W.fin ?_)
  refine W.st [(0, .agg [iR eTok a0.Toks, iR eNon a0.Nons, iR eProd_0 a0.Prods, SS a0.Pro, SS a0.Tail]), (1, I64 a1)] ?_
  refine W.sq' ?_
  refine W.rx [(1, _), (2, _)] (Rv (O.box (.aggF rfl rfl) rfl) <| Rv (O.as (.k rfl)) <| Rv (O.as (.k rfl)) <| RunL.fin (.n rfl (.n rfl .nil))) ?_
  refine Px.sq ?_
  refine W.sq' ?_
  refine W.sq' ?_
  obtain ⟨c2, hj, h⟩ := bnd h
  refine W.rx [(1, I64 a1), (2, .obj [iR eTok a0.Toks, iR eNon a0.Nons, iR eProd_0 a0.Prods, SS a0.Pro, SS a0.Tail]), (14, BB c2)] ?_ ?_
  · refine Rv (O.mv (.lit rfl)) <| Rv (O.lss (.lit rfl) (.k rfl)) <| Rv (O.mv (.lit rfl)) ?_
    rcases cnd hj with ⟨hb1, hj⟩ | ⟨hb1, hj⟩
    · obtain rfl := sm hj
      exact RunL.ps rfl rfl hb1 rfl rfl <| RunL.ps rfl rfl hb1 rfl rfl <| RunL.ps rfl rfl hb1 rfl rfl <| RunL.ps rfl rfl hb1 rfl rfl <| RunL.ps rfl rfl hb1 rfl rfl <| Rv (O.pkT (.lit rfl) hb1 (.k rfl)) <| RunL.fin (.n rfl (.n rfl (.n rfl .nil)))
    · obtain rfl := sm hj
      exact RunL.v (O.mv (.lit rfl)) rfl rfl (.yb rfl rfl hb1) <| RunL.v (O.fO rfl (.obj rfl) fd38_2 rfl) rfl rfl (.yb rfl rfl hb1) <| RunL.v (O.ldO (y := iR eProd_0 a0.Prods) rfl (.ptr rfl) ct36 rfl rfl) rfl rfl (.yb rfl rfl hb1) <| RunL.v (O.lenI (.imm rfl) sl36) rfl rfl (.yb rfl rfl hb1) <| RunL.v (O.geq (.lit rfl) (.lit rfl)) rfl rfl (.yb rfl rfl hb1) <| Rv (O.pkF (.lit rfl) hb1 (.lit rfl)) <| RunL.fin (.n rfl (.n rfl (.n rfl .nil)))
  refine Px.sq ?_
  refine W.cnd rfl (fun hb3 => ?_) (fun hb3 => ?_)
  · replace h := cndT hb3 h
    refine W.sq' ?_
    refine W.rx [(4, _), (5, _)] (Rv (O.as (.k rfl)) <| Rv (O.as (.k rfl)) <| RunL.fin (.n rfl (.n rfl .nil))) ?_
    refine Px.sq ?_
    refine W.rt ?_
    refine Px.sqR ?_
    obtain rfl := sm h
    exact Px.fin (Fin.ro (.f rfl rfl (.f rfl rfl .nil)) rfl (of_decide_eq_true (by kernel_rfl)) (.no (.no .nil)) rfl (.inr rfl))
  · replace h := cndF hb3 h
    refine W.sk ?_
    refine Px.sq ?_
    refine W.sq' ?_
    obtain ⟨x4, hx4, h⟩ := bnd h
    obtain ⟨x5, hx5, h⟩ := bnd h
    refine W.rd [[], [], [1], [], [1, 2, 3], [1, 2, 3, 4], rn 1 5 [], rn 0 7 [], rn 0 8 [], rn 0 8 [], rn 0 10 [], rn 0 11 []] [(4, _), (5, _)] mixo (by kernel_rfl) (Dv 0 (O.ldON (cs' := [iR eTok a0.Toks, iR eNon a0.Nons, iR eProd_0 a0.Prods, SS a0.Pro, SS a0.Tail]) rfl (.obj rfl) at38 rfl rfl) <| Dv 1 (O.fO rfl (.obj rfl) fd38_2 rfl) <| Dv 2 (O.ldO (y := iR eProd_0 a0.Prods) rfl (.ptr rfl) ct36 rfl rfl) <| Dv 3 (O.mv (.lit rfl)) <| Dv 4 (O.ixI (.imm rfl) (.lit rfl) sl36 hx4) <| Dv 5 (O.fI (.iptr rfl) fd109_2) <| Dv 6 (O.ldI (x := I64 x4.Prec) (.iptr rfl) ct3 rfl) <| Dc 7 (PC.go (.cc (.aggF rfl rfl) (.cc (.lit rfl) .nil)) (con51 a0 x4.Prec _ hx5) call51 rfl) <| Dv 8 (O.ex (y := I64 x5.1) rfl rfl rfl) <| Dv 9 (O.ex (y := I64 x5.2) rfl rfl rfl) <| Dv 10 (O.as (.lit rfl)) <| Dv 11 (O.as (.lit rfl)) <| DL.fin rfl rfl rfl (.n rfl (.n rfl .nil))) ?_
    refine Px.sq ?_
    refine W.rt ?_
    obtain rfl := sm h
    exact Px.fin (Fin.ro (.f rfl rfl (.f rfl rfl .nil)) rfl (of_decide_eq_true (by kernel_rfl)) (.no (.no .nil)) rfl (.inr rfl))
def pf21 (a0 : Grammar) (a1 : Int) (a2 : Int) : Option (Int) :=
 (pf19 a0 a1).bind fun x1 =>
 (pf51 a0 a2).bind fun x2 =>
 ((bif decide (x1.1 = 0) then some true else some (decide (x2.1 = 0)))).bind fun c4 =>
 (bif c4 then
 some 0
 else
 ((bif decide (x1.1 < x2.1) then some true else (bif decide (x2.1 = x1.1) then some (decide (x2.2 = 2)) else some false))).bind fun c8 =>
 (bif c8 then
 some 1
 else
 ((bif decide (x2.1 < x1.1) then some true else some (decide (x2.2 = 1)))).bind fun c11 =>
 (bif c11 then
 some 2
 else
 some 3)))
theorem con21 (a0 : Grammar) (a1 : Int) (a2 : Int) (r : Int) (h : pf21 a0 a1 a2 = some r) : Con Try.prog 21 [.agg [iR eTok a0.Toks, iR eNon a0.Nons, iR eProd_0 a0.Prods, SS a0.Pro, SS a0.Tail], I64 a1, I64 a2] [none, none, none] (I64 r) := by
  unfold pf21 at h
  refine Con.go (N := ⟨51, []⟩) Try.func21 rfl rfl rfl rfl (W.fin ?_)
  refine W.st [(0, .agg [iR eTok a0.Toks, iR eNon a0.Nons, iR eProd_0 a0.Prods, SS a0.Pro, SS a0.Tail]), (1, I64 a1), (2, I64 a2)] ?_
  refine W.sq' ?_
  refine W.rx [(1, _), (2, _), (3, _)] (Rv (O.box (.aggF rfl rfl) rfl) <| Rv (O.as (.k rfl)) <| RunL.fin (.n rfl (.n rfl (.n rfl .nil)))) ?_
  refine Px.sq ?_
  refine W.sq' ?_
  obtain ⟨x1, hx1, h⟩ := bnd h
  refine W.rx [(2, _), (3, _), (7, _)] (Rv (O.ldON (cs' := [iR eTok a0.Toks, iR eNon a0.Nons, iR eProd_0 a0.Prods, SS a0.Pro, SS a0.Tail]) rfl (.obj rfl) at38 rfl rfl) <| Rv (O.mv (.lit rfl)) <| Rc (PC.go (.cc (.aggF rfl rfl) (.cc (.lit rfl) .nil)) (con19 a0 a1 _ hx1) call19 rfl) <| Rv (O.mv (.tupF rfl rfl)) <| Rv (O.ex (y := I64 x1.1) rfl rfl rfl) <| Rv (O.ex (y := I64 x1.2) rfl rfl rfl) <| Rv (O.as (.lit rfl)) <| Rv (O.as (.lit rfl)) <| RunL.fin (.n rfl (.n rfl (.n rfl .nil)))) ?_
  refine Px.sq ?_
  refine W.sq' ?_
  obtain ⟨x2, hx2, h⟩ := bnd h
  refine W.rx [(7, _), (9, _), (10, _)] (Rv (O.ldON (cs' := [iR eTok a0.Toks, iR eNon a0.Nons, iR eProd_0 a0.Prods, SS a0.Pro, SS a0.Tail]) rfl (.obj rfl) at38 rfl rfl) <| Rv (O.mv (.lit rfl)) <| Rc (PC.go (.cc (.aggF rfl rfl) (.cc (.lit rfl) .nil)) (con51 a0 a2 _ hx2) call51 rfl) <| Rv (O.mv (.tupF rfl rfl)) <| Rv (O.ex (y := I64 x2.1) rfl rfl rfl) <| Rv (O.ex (y := I64 x2.2) rfl rfl rfl) <| Rv (O.as (.lit rfl)) <| Rv (O.as (.lit rfl)) <| RunL.fin (.n rfl (.n rfl (.n rfl .nil)))) ?_
  refine Px.sq ?_
  refine W.sq' ?_
  refine W.bk ?_
  refine W.sq' ?_
  obtain ⟨c4, hj, h⟩ := bnd h
  refine W.rx [(7, I64 x1.1), (9, I64 x2.1), (10, I64 x2.2), (23, BB c4)] ?_ ?_
  · refine Rv (O.mv (.lit rfl)) <| Rv (O.eql (.lit rfl) (.k rfl)) <| Rv (O.mv (.lit rfl)) ?_
    rcases cnd hj with ⟨hb3, hj⟩ | ⟨hb3, hj⟩
    · obtain rfl := sm hj
      exact RunL.ps rfl rfl hb3 rfl rfl <| RunL.ps rfl rfl hb3 rfl rfl <| Rv (O.pkT (.lit rfl) hb3 (.k rfl)) <| Rv (O.as (.lit rfl)) <| RunL.fin (.n rfl (.n rfl (.n rfl (.n rfl .nil))))
    · obtain rfl := sm hj
      exact RunL.v (O.mv (.lit rfl)) rfl rfl (.yb rfl rfl hb3) <| RunL.v (O.eql (.lit rfl) (.k rfl)) rfl rfl (.yb rfl rfl hb3) <| Rv (O.pkF (.lit rfl) hb3 (.lit rfl)) <| Rv (O.as (.lit rfl)) <| RunL.fin (.n rfl (.n rfl (.n rfl (.n rfl .nil))))
  refine Px.sq ?_
  refine W.cnd rfl (fun hb5 => ?_) (fun hb5 => ?_)
  · replace h := cndT hb5 h
    refine W.sq' ?_
    refine W.rx [(6, _)] (Rv (O.as (.k rfl)) <| RunL.fin (.n rfl .nil)) ?_
    refine Px.sq ?_
    refine W.rt ?_
    refine Px.bkR ?_
    refine Px.sqR ?_
    obtain rfl := sm h
    exact Px.fin (Fin.ro (.f rfl rfl .nil) rfl (of_decide_eq_true (by kernel_rfl)) (.no (.no (.no .nil))) rfl (.inr rfl))
  · replace h := cndF hb5 h
    refine W.sq' ?_
    obtain ⟨c8, hj, h⟩ := bnd h
    refine W.rx [(7, I64 x1.1), (9, I64 x2.1), (10, I64 x2.2), (30, BB c8)] ?_ ?_
    · refine Rv (O.mv (.lit rfl)) <| Rv (O.mv (.lit rfl)) <| Rv (O.gtr (.lit rfl) (.lit rfl)) <| Rv (O.mv (.lit rfl)) ?_
      rcases cnd hj with ⟨hb6, hj⟩ | ⟨hb6, hj⟩
      · obtain rfl := sm hj
        exact RunL.ps rfl rfl hb6 rfl rfl <| RunL.ps rfl rfl hb6 rfl rfl <| RunL.ps rfl rfl hb6 rfl rfl <| RunL.ps rfl rfl hb6 rfl rfl <| RunL.pu rfl rfl rfl rfl <| RunL.pu rfl rfl rfl rfl <| RunL.ps rfl rfl hb6 rfl rfl <| Rv (O.pkT (.lit rfl) hb6 (.k rfl)) <| Rv (O.as (.lit rfl)) <| RunL.fin (.n rfl (.n rfl (.n rfl (.n rfl .nil))))
      · refine RunL.v (O.mv (.lit rfl)) rfl rfl (.yb rfl rfl hb6) <| RunL.v (O.mv (.lit rfl)) rfl rfl (.yb rfl rfl hb6) <| RunL.v (O.eql (.lit rfl) (.lit rfl)) rfl rfl (.yb rfl rfl hb6) <| RunL.v (O.mv (.lit rfl)) rfl rfl (.yb rfl rfl hb6) ?_
        rcases cnd hj with ⟨hb7, hj⟩ | ⟨hb7, hj⟩
        · obtain rfl := sm hj
          exact RunL.v (O.mv (.lit rfl)) rfl rfl (.yb rfl rfl hb7) <| RunL.v (O.eql (.lit rfl) (.k rfl)) rfl rfl (.yb rfl rfl hb7) <| RunL.v (O.pkT (.lit rfl) hb7 (.lit rfl)) rfl rfl (.yb rfl rfl hb6) <| Rv (O.pkF (.lit rfl) hb6 (.lit rfl)) <| Rv (O.as (.lit rfl)) <| RunL.fin (.n rfl (.n rfl (.n rfl (.n rfl .nil))))
        · obtain rfl := sm hj
          exact RunL.ps rfl rfl hb7 rfl rfl <| RunL.ps rfl rfl hb7 rfl rfl <| RunL.v (O.pkF (.lit rfl) hb7 (.k rfl)) rfl rfl (.yb rfl rfl hb6) <| Rv (O.pkF (.lit rfl) hb6 (.lit rfl)) <| Rv (O.as (.lit rfl)) <| RunL.fin (.n rfl (.n rfl (.n rfl (.n rfl .nil))))
    refine Px.sq ?_
    refine W.cnd rfl (fun hb9 => ?_) (fun hb9 => ?_)
    · replace h := cndT hb9 h
      refine W.sq' ?_
      refine W.rx [(6, _)] (Rv (O.as (.k rfl)) <| RunL.fin (.n rfl .nil)) ?_
      refine Px.sq ?_
      refine W.rt ?_
      refine Px.bkR ?_
      refine Px.sqR ?_
      obtain rfl := sm h
      exact Px.fin (Fin.ro (.f rfl rfl .nil) rfl (of_decide_eq_true (by kernel_rfl)) (.no (.no (.no .nil))) rfl (.inr rfl))
    · replace h := cndF hb9 h
      refine W.sq' ?_
      obtain ⟨c11, hj, h⟩ := bnd h
      refine W.rx [(43, BB c11)] ?_ ?_
      · refine Rv (O.mv (.lit rfl)) <| Rv (O.mv (.lit rfl)) <| Rv (O.lss (.lit rfl) (.lit rfl)) <| Rv (O.mv (.lit rfl)) ?_
        rcases cnd hj with ⟨hb10, hj⟩ | ⟨hb10, hj⟩
        · obtain rfl := sm hj
          exact RunL.ps rfl rfl hb10 rfl rfl <| RunL.ps rfl rfl hb10 rfl rfl <| Rv (O.pkT (.lit rfl) hb10 (.k rfl)) <| Rv (O.as (.lit rfl)) <| RunL.fin (.n rfl .nil)
        · obtain rfl := sm hj
          exact RunL.v (O.mv (.lit rfl)) rfl rfl (.yb rfl rfl hb10) <| RunL.v (O.eql (.lit rfl) (.k rfl)) rfl rfl (.yb rfl rfl hb10) <| Rv (O.pkF (.lit rfl) hb10 (.lit rfl)) <| Rv (O.as (.lit rfl)) <| RunL.fin (.n rfl .nil)
      refine Px.sq ?_
      refine W.cnd rfl (fun hb12 => ?_) (fun hb12 => ?_)
      · replace h := cndT hb12 h
        refine W.sq' ?_
        refine W.rx [(6, _)] (Rv (O.as (.k rfl)) <| RunL.fin (.n rfl .nil)) ?_
        refine Px.sq ?_
        refine W.rt ?_
        refine Px.bkR ?_
        refine Px.sqR ?_
        obtain rfl := sm h
        exact Px.fin (Fin.ro (.f rfl rfl .nil) rfl (of_decide_eq_true (by kernel_rfl)) (.no (.no (.no .nil))) rfl (.inr rfl))
      · replace h := cndF hb12 h
        refine W.sk ?_
        refine Px.bk ?_
        refine Px.sq ?_
        refine W.sq' ?_
        refine W.rx [(6, _)] (Rv (O.as (.k rfl)) <| RunL.fin (.n rfl .nil)) ?_
        refine Px.sq ?_
        refine W.rt ?_
        obtain rfl := sm h
        exact Px.fin (Fin.ro (.f rfl rfl .nil) rfl (of_decide_eq_true (by kernel_rfl)) (.no (.no (.no .nil))) rfl (.inr rfl))
def pf52 (a0 : Int) : Option (ByteArray) :=
 ((bif decide (a0 < 0) then
 some (IntKind.u64.wrap (-(IntKind.u64.wrap a0)))
 else
 some (IntKind.u64.wrap a0))).bind fun j1 =>
 (loopM (R := ByteArray) (fun (s3 : Int × ByteArray) =>
 ((bif decide (0 < s3.1) then some true else some (decide (s3.2 = { data := #[] })))).bind fun c7 =>
 (bif c7 then
 (remU s3.1 10).bind fun x9 =>
 (catO (strOfNums [w8 (IntKind.u64.wrap (48 + x9))]) s3.2).bind fun x10 =>
 (quoU s3.1 10).bind fun x11 =>
 some (.inl (x11, x10))
 else
 some (.inr s3.2))) (j1, { data := #[] })).bind fun x4 =>
 (bif decide (a0 < 0) then
 (catO ({ data := #[45] }) x4).bind fun x13 =>
 some x13
 else
 some x4)
theorem con52 (a0 : Int) (r : ByteArray) (h : pf52 a0 = some r) : Con Try.prog 52 [I64 a0] [none] (SS r) := by
  unfold pf52 at h
  refine Con.go (N := ⟨32, []⟩) Try.func52 rfl rfl rfl rfl (W.fin ?_)
  refine W.st [(0, I64 a0)] ?_
  refine W.sq' ?_
  refine W.rx [(0, _)] (Rv (O.as (.k rfl)) <| RunL.fin (.n rfl .nil)) ?_
  refine Px.sq ?_
  refine W.sq' ?_
  refine W.rx [(0, _), (3, _)] (Rv (O.mv (.lit rfl)) <| Rv (O.cvI (.lit rfl) it3 it136) <| Rv (O.as (.lit rfl)) <| RunL.fin (.n rfl (.n rfl .nil))) ?_
  refine Px.sq ?_
  refine W.sq' ?_
  refine W.sq' ?_
  refine W.rx [(0, _), (3, _), (8, _)] (Rv (O.mv (.lit rfl)) <| Rv (O.lss (.lit rfl) (.k rfl)) <| RunL.fin (.n rfl (.n rfl (.n rfl .nil)))) ?_
  refine Px.sq ?_
  obtain ⟨j1, hj, h⟩ := bnd h
  refine W.jn [(0, I64 a0), (3, .lit (.int .u64 j1))] ?_ ?_
  · clear h; have h := hj; clear hj
    refine W.cnd rfl (fun hb2 => ?_) (fun hb2 => ?_)
    · replace h := cndT hb2 h
      refine W.rx [(0, _), (3, _)] (Rv (O.mv (.lit rfl)) <| Rv (O.neg (.lit rfl)) <| RunL.re (G1 := [(0, I64 a0), (10, .lit (.int .u64 (IntKind.u64.wrap (-(IntKind.u64.wrap a0)))))]) (.n rfl (.n rfl .nil)) <| Rv (O.as (.lit rfl)) <| RunL.fin (.n rfl (.n rfl .nil))) ?_
      obtain rfl := sm h
      exact Px.jn (.n rfl (.n rfl .nil))
    · replace h := cndF hb2 h
      refine W.sk ?_
      obtain rfl := sm h
      exact Px.jn (.n rfl (.n rfl .nil))
  refine Px.sq ?_
  refine W.sq' ?_
  refine W.rx [(0, _), (3, _), (4, _)] (Rv (O.as (.k rfl)) <| RunL.fin (.n rfl (.n rfl (.n rfl .nil)))) ?_
  refine Px.sq ?_
  refine W.sq' ?_
  refine W.bk ?_
  obtain ⟨x4, hl, h⟩ := bnd h
  refine W.tr (G1 := [(0, I64 a0), (3, .lit (.int .u64 j1)), (4, SS ({ data := #[] }))]) (.n rfl (.n rfl (.n rfl .nil))) ?_
  refine W.lp1 (s := (j1, { data := #[] })) (fun (s3 : Int × ByteArray) => [(0, I64 a0), (3, .lit (.int .u64 s3.1)), (4, SS s3.2)]) 0 (fun (x4 : ByteArray) => [(0, I64 a0), (4, SS x4)]) hl (fun s3 o h => ?_) ?_
  · clear hl
    refine W.sq' ?_
    refine W.sq' ?_
    obtain ⟨c7, hj, h⟩ := bnd h
    refine W.rx [(0, I64 a0), (3, .lit (.int .u64 s3.1)), (4, SS s3.2), (16, BB c7)] ?_ ?_
    · refine Rv (O.mv (.lit rfl)) <| Rv (O.gtr (.lit rfl) (.k rfl)) <| Rv (O.mv (.lit rfl)) ?_
      rcases cnd hj with ⟨hb6, hj⟩ | ⟨hb6, hj⟩
      · obtain rfl := sm hj
        exact RunL.ps rfl rfl hb6 rfl rfl <| RunL.ps rfl rfl hb6 rfl rfl <| Rv (O.pkT (.lit rfl) hb6 (.k rfl)) <| RunL.fin (.n rfl (.n rfl (.n rfl (.n rfl .nil))))
      · obtain rfl := sm hj
        exact RunL.v (O.mv (.lit rfl)) rfl rfl (.yb rfl rfl hb6) <| RunL.v (O.eqS (.lit rfl) (.k rfl)) rfl rfl (.yb rfl rfl hb6) <| Rv (O.pkF (.lit rfl) hb6 (.lit rfl)) <| RunL.fin (.n rfl (.n rfl (.n rfl (.n rfl .nil))))
    refine Px.sq ?_
    refine W.cnd rfl (fun hb8 => ?_) (fun hb8 => ?_)
    · replace h := cndT hb8 h
      refine W.sk ?_
      refine Px.sq ?_
      refine W.bk ?_
      refine W.sq' ?_
      obtain ⟨x9, hx9, h⟩ := bnd h
      obtain ⟨x10, hx10, h⟩ := bnd h
      refine W.rx [(0, _), (3, _), (4, _)] (Rv (O.mv (.lit rfl)) <| Rv (O.remU (.lit rfl) (.k rfl) hx9) <| Rv (O.add (.k rfl) (.lit rfl)) <| Rv (O.cvI (.lit rfl) it136 it5) <| RunL.vi (x := iR eU [w8 (IntKind.u64.wrap (48 + x9))]) (O.bs (ys := [U8 (w8 (IntKind.u64.wrap (48 + x9)))]) eU [w8 (IntKind.u64.wrap (48 + x9))] sl60 rfl rfl rfl rfl rfl rfl zt5 rfl rfl) rfl rfl .none <| Rv (O.cvC (.imm rfl) by60_9) <| Rv (O.mv (.lit rfl)) <| Rv (O.cat (.lit rfl) (.lit rfl) hx10) <| RunL.re (G1 := [(0, I64 a0), (3, .lit (.int .u64 s3.1)), (24, SS x10)]) (.n rfl (.n rfl (.n rfl .nil))) <| Rv (O.as (.lit rfl)) <| RunL.fin (.n rfl (.n rfl (.n rfl .nil)))) ?_
      refine Px.sq ?_
      obtain ⟨x11, hx11, h⟩ := bnd h
      refine W.rx [(0, _), (3, _), (4, _)] (Rv (O.mv (.lit rfl)) <| Rv (O.quoU (.lit rfl) (.k rfl) hx11) <| RunL.re (G1 := [(0, I64 a0), (4, SS x10), (26, .lit (.int .u64 x11))]) (.n rfl (.n rfl (.n rfl .nil))) <| Rv (O.as (.lit rfl)) <| RunL.fin (.n rfl (.n rfl (.n rfl .nil)))) ?_
      refine Px.bk ?_
      obtain rfl := sm h
      exact Px.go (.n rfl (.n rfl (.n rfl .nil)))
    · replace h := cndF hb8 h
      refine W.xi ?_
      refine Px.sqE ?_
      obtain rfl := sm h
      exact Px.x1 (.n rfl (.n rfl .nil))
  refine Px.bkH ?_
  refine Px.sq ?_
  refine W.sq' ?_
  refine W.sq' ?_
  refine W.rx [(4, _), (28, _)] (Rv (O.mv (.lit rfl)) <| Rv (O.lss (.lit rfl) (.k rfl)) <| RunL.fin (.n rfl (.n rfl .nil))) ?_
  refine Px.sq ?_
  refine W.cnd rfl (fun hb12 => ?_) (fun hb12 => ?_)
  · replace h := cndT hb12 h
    refine W.sq' ?_
    obtain ⟨x13, hx13, h⟩ := bnd h
    refine W.rx [(2, _)] (Rv (O.mv (.lit rfl)) <| Rv (O.cat (.k rfl) (.lit rfl) hx13) <| Rv (O.as (.lit rfl)) <| RunL.fin (.n rfl .nil)) ?_
    refine Px.sq ?_
    refine W.rt ?_
    refine Px.sqR ?_
    obtain rfl := sm h
    exact Px.fin (Fin.ro (.f rfl rfl .nil) rfl (of_decide_eq_true (by kernel_rfl)) (.no .nil) rfl (.inr rfl))
  · replace h := cndF hb12 h
    refine W.sk ?_
    refine Px.sq ?_
    refine W.sq' ?_
    refine W.rx [(2, _)] (Rv (O.mv (.lit rfl)) <| Rv (O.as (.lit rfl)) <| RunL.fin (.n rfl .nil)) ?_
    refine Px.sq ?_
    refine W.rt ?_
    obtain rfl := sm h
    exact Px.fin (Fin.ro (.f rfl rfl .nil) rfl (of_decide_eq_true (by kernel_rfl)) (.no .nil) rfl (.inr rfl))
def pf105 (a0 : Int) : Option (Bool) :=
 ((bif decide (97 ≤ a0) then (bif decide (a0 ≤ 122) then some true else (bif decide (65 ≤ a0) then (bif decide (a0 ≤ 90) then some true else some (decide (a0 = 95))) else some (decide (a0 = 95)))) else (bif decide (65 ≤ a0) then (bif decide (a0 ≤ 90) then some true else some (decide (a0 = 95))) else some (decide (a0 = 95))))).bind fun c7 =>
 some c7
theorem con105 (a0 : Int) (r : Bool) (h : pf105 a0 = some r) : Con Try.prog 105 [U8 a0] [none] (BB r) := by
  unfold pf105 at h
  refine Con.go (N := ⟨21, []⟩) Try.func105 rfl rfl rfl rfl (W.fin ?_)
  refine W.st [(0, U8 a0)] ?_
  refine W.sq' ?_
  refine W.rx [(0, _)] (Rv (O.as (.k rfl)) <| RunL.fin (.n rfl .nil)) ?_
  refine Px.sq ?_
  refine W.sq' ?_
  obtain ⟨c7, hj, h⟩ := bnd h
  refine W.rx [(2, BB c7)] ?_ ?_
  · refine Rv (O.mv (.lit rfl)) <| Rv (O.geq (.lit rfl) (.k rfl)) <| Rv (O.mv (.lit rfl)) ?_
    rcases cnd hj with ⟨hb1, hj⟩ | ⟨hb1, hj⟩
    · refine RunL.v (O.mv (.lit rfl)) rfl rfl (.yb rfl rfl hb1) <| RunL.v (O.leq (.lit rfl) (.k rfl)) rfl rfl (.yb rfl rfl hb1) <| Rv (O.pkT (.lit rfl) hb1 (.lit rfl)) <| Rv (O.mv (.lit rfl)) ?_
      rcases cnd hj with ⟨hb2, hj⟩ | ⟨hb2, hj⟩
      · obtain rfl := sm hj
        exact RunL.ps rfl rfl hb2 rfl rfl <| RunL.ps rfl rfl hb2 rfl rfl <| RunL.ps rfl rfl hb2 rfl rfl <| RunL.pu rfl rfl rfl rfl <| RunL.pu rfl rfl rfl rfl <| RunL.ps rfl rfl hb2 rfl rfl <| Rv (O.pkT (.lit rfl) hb2 (.k rfl)) <| Rv (O.mv (.lit rfl)) <| RunL.ps rfl rfl rfl rfl rfl <| RunL.ps rfl rfl rfl rfl rfl <| Rv (O.pkT (.lit rfl) rfl (.k rfl)) <| Rv (O.as (.lit rfl)) <| RunL.fin (.n rfl .nil)
      · refine RunL.v (O.mv (.lit rfl)) rfl rfl (.yb rfl rfl hb2) <| RunL.v (O.geq (.lit rfl) (.k rfl)) rfl rfl (.yb rfl rfl hb2) <| RunL.v (O.mv (.lit rfl)) rfl rfl (.yb rfl rfl hb2) ?_
        rcases cnd hj with ⟨hb3, hj⟩ | ⟨hb3, hj⟩
        · refine RunL.v (O.mv (.lit rfl)) rfl rfl (.yb rfl rfl hb3) <| RunL.v (O.leq (.lit rfl) (.k rfl)) rfl rfl (.yb rfl rfl hb3) <| RunL.v (O.pkT (.lit rfl) hb3 (.lit rfl)) rfl rfl (.yb rfl rfl hb2) <| Rv (O.pkF (.lit rfl) hb2 (.lit rfl)) <| Rv (O.mv (.lit rfl)) ?_
          rcases cnd hj with ⟨hb4, hj⟩ | ⟨hb4, hj⟩
          · obtain rfl := sm hj
            exact RunL.ps rfl rfl hb4 rfl rfl <| RunL.ps rfl rfl hb4 rfl rfl <| Rv (O.pkT (.lit rfl) hb4 (.k rfl)) <| Rv (O.as (.lit rfl)) <| RunL.fin (.n rfl .nil)
          · obtain rfl := sm hj
            exact RunL.v (O.mv (.lit rfl)) rfl rfl (.yb rfl rfl hb4) <| RunL.v (O.eql (.lit rfl) (.k rfl)) rfl rfl (.yb rfl rfl hb4) <| Rv (O.pkF (.lit rfl) hb4 (.lit rfl)) <| Rv (O.as (.lit rfl)) <| RunL.fin (.n rfl .nil)
        · obtain rfl := sm hj
          exact RunL.ps rfl rfl hb3 rfl rfl <| RunL.ps rfl rfl hb3 rfl rfl <| RunL.v (O.pkF (.lit rfl) hb3 (.k rfl)) rfl rfl (.yb rfl rfl hb2) <| Rv (O.pkF (.lit rfl) hb2 (.lit rfl)) <| Rv (O.mv (.lit rfl)) <| RunL.v (O.mv (.lit rfl)) rfl rfl (.yb rfl rfl rfl) <| RunL.v (O.eql (.lit rfl) (.k rfl)) rfl rfl (.yb rfl rfl rfl) <| Rv (O.pkF (.lit rfl) rfl (.lit rfl)) <| Rv (O.as (.lit rfl)) <| RunL.fin (.n rfl .nil)
    · refine RunL.ps rfl rfl hb1 rfl rfl <| RunL.ps rfl rfl hb1 rfl rfl <| Rv (O.pkF (.lit rfl) hb1 (.k rfl)) <| Rv (O.mv (.lit rfl)) <| RunL.v (O.mv (.lit rfl)) rfl rfl (.yb rfl rfl rfl) <| RunL.v (O.geq (.lit rfl) (.k rfl)) rfl rfl (.yb rfl rfl rfl) <| RunL.v (O.mv (.lit rfl)) rfl rfl (.yb rfl rfl rfl) ?_
      rcases cnd hj with ⟨hb5, hj⟩ | ⟨hb5, hj⟩
      · refine RunL.v (O.mv (.lit rfl)) rfl rfl (.yb rfl rfl hb5) <| RunL.v (O.leq (.lit rfl) (.k rfl)) rfl rfl (.yb rfl rfl hb5) <| RunL.v (O.pkT (.lit rfl) hb5 (.lit rfl)) rfl rfl (.yb rfl rfl rfl) <| Rv (O.pkF (.lit rfl) rfl (.lit rfl)) <| Rv (O.mv (.lit rfl)) ?_
        rcases cnd hj with ⟨hb6, hj⟩ | ⟨hb6, hj⟩
        · obtain rfl := sm hj
          exact RunL.ps rfl rfl hb6 rfl rfl <| RunL.ps rfl rfl hb6 rfl rfl <| Rv (O.pkT (.lit rfl) hb6 (.k rfl)) <| Rv (O.as (.lit rfl)) <| RunL.fin (.n rfl .nil)
        · obtain rfl := sm hj
          exact RunL.v (O.mv (.lit rfl)) rfl rfl (.yb rfl rfl hb6) <| RunL.v (O.eql (.lit rfl) (.k rfl)) rfl rfl (.yb rfl rfl hb6) <| Rv (O.pkF (.lit rfl) hb6 (.lit rfl)) <| Rv (O.as (.lit rfl)) <| RunL.fin (.n rfl .nil)
      · obtain rfl := sm hj
        exact RunL.ps rfl rfl hb5 rfl rfl <| RunL.ps rfl rfl hb5 rfl rfl <| RunL.v (O.pkF (.lit rfl) hb5 (.k rfl)) rfl rfl (.yb rfl rfl rfl) <| Rv (O.pkF (.lit rfl) rfl (.lit rfl)) <| Rv (O.mv (.lit rfl)) <| RunL.v (O.mv (.lit rfl)) rfl rfl (.yb rfl rfl rfl) <| RunL.v (O.eql (.lit rfl) (.k rfl)) rfl rfl (.yb rfl rfl rfl) <| Rv (O.pkF (.lit rfl) rfl (.lit rfl)) <| Rv (O.as (.lit rfl)) <| RunL.fin (.n rfl .nil)
  refine Px.sq ?_
  refine W.rt ?_
  obtain rfl := sm h
  exact Px.fin (Fin.ro (.f rfl rfl .nil) rfl (of_decide_eq_true (by kernel_rfl)) (.no .nil) rfl (.inr rfl))
def pf106 (a0 : Int) : Option (Bool) :=
 ((bif decide (48 ≤ a0) then some (decide (a0 ≤ 57)) else some false)).bind fun c2 =>
 some c2
theorem con106 (a0 : Int) (r : Bool) (h : pf106 a0 = some r) : Con Try.prog 106 [U8 a0] [none] (BB r) := by
  unfold pf106 at h
  refine Con.go (N := ⟨9, []⟩) Try.func106 rfl rfl rfl rfl (W.fin ?_)
  refine W.st [(0, U8 a0)] ?_
  refine W.sq' ?_
  refine W.rx [(0, _)] (Rv (O.as (.k rfl)) <| RunL.fin (.n rfl .nil)) ?_
  refine Px.sq ?_
  refine W.sq' ?_
  obtain ⟨c2, hj, h⟩ := bnd h
  refine W.rx [(2, BB c2)] ?_ ?_
  · refine Rv (O.mv (.lit rfl)) <| Rv (O.geq (.lit rfl) (.k rfl)) <| Rv (O.mv (.lit rfl)) ?_
    rcases cnd hj with ⟨hb1, hj⟩ | ⟨hb1, hj⟩
    · obtain rfl := sm hj
      exact RunL.v (O.mv (.lit rfl)) rfl rfl (.yb rfl rfl hb1) <| RunL.v (O.leq (.lit rfl) (.k rfl)) rfl rfl (.yb rfl rfl hb1) <| Rv (O.pkT (.lit rfl) hb1 (.lit rfl)) <| Rv (O.as (.lit rfl)) <| RunL.fin (.n rfl .nil)
    · obtain rfl := sm hj
      exact RunL.ps rfl rfl hb1 rfl rfl <| RunL.ps rfl rfl hb1 rfl rfl <| Rv (O.pkF (.lit rfl) hb1 (.k rfl)) <| Rv (O.as (.lit rfl)) <| RunL.fin (.n rfl .nil)
  refine Px.sq ?_
  refine W.rt ?_
  obtain rfl := sm h
  exact Px.fin (Fin.ro (.f rfl rfl .nil) rfl (of_decide_eq_true (by kernel_rfl)) (.no .nil) rfl (.inr rfl))
def pf91 (a0 : ByteArray) (a1 : Int) : Option (Int) :=
 (loopM (R := Int) (fun (s1 : Int) =>
 ((bif decide (w64 (a1 + s1) < (a0.size : Int)) then ((bidx a0 (w64 (a1 + s1))).bind fun x5 => ((pf105 x5).bind fun x6 => (bif x6 then some true else (bif decide (0 < s1) then ((bidx a0 (w64 (a1 + s1))).bind fun x9 => ((pf106 x9).bind fun x10 => (bif x10 then some true else ((bidx a0 (w64 (a1 + s1))).bind fun x12 => some (decide (x12 = 46)))))) else some false)))) else some false)).bind fun c13 =>
 (bif c13 then
 some (.inl (w64 (s1 + 1)))
 else
 some (.inr s1))) 0).bind fun x2 =>
 some x2
theorem con91 (a0 : ByteArray) (a1 : Int) (r : Int) (h : pf91 a0 a1 = some r) : Con Try.prog 91 [SS a0, I64 a1] [none, none] (I64 r) := by
  unfold pf91 at h
  refine Con.go (N := ⟨43, []⟩) Try.func91 rfl rfl rfl rfl (W.fin ?_)
  refine W.st [(0, SS a0), (1, I64 a1)] ?_
  refine W.sq' ?_
  refine W.rx [(0, _), (1, _)] (Rv (O.as (.k rfl)) <| RunL.fin (.n rfl (.n rfl .nil))) ?_
  refine Px.sq ?_
  refine W.sq' ?_
  refine W.rx [(0, _), (1, _), (5, _)] (Rv (O.as (.k rfl)) <| RunL.fin (.n rfl (.n rfl (.n rfl .nil)))) ?_
  refine Px.sq ?_
  refine W.sq' ?_
  refine W.bk ?_
  obtain ⟨x2, hl, h⟩ := bnd h
  refine W.tr (G1 := [(0, SS a0), (1, I64 a1), (5, I64 0)]) (.n rfl (.n rfl (.n rfl .nil))) ?_
  refine W.lp1 (s := 0) (fun (s1 : Int) => [(0, SS a0), (1, I64 a1), (5, I64 s1)]) 0 (fun (x2 : Int) => [(5, I64 x2)]) hl (fun s1 o h => ?_) ?_
  · clear hl
    refine W.sq' ?_
    refine W.sq' ?_
    obtain ⟨c13, hj, h⟩ := bnd h
    refine W.rx [(0, SS a0), (1, I64 a1), (5, I64 s1), (39, BB c13)] ?_ ?_
    · refine Rv (O.mv (.lit rfl)) <| Rv (O.mv (.lit rfl)) <| Rv (O.add (.lit rfl) (.lit rfl)) <| Rv (O.mv (.lit rfl)) <| Rv (O.lenS (.lit rfl) st9) <| Rv (O.lss (.lit rfl) (.lit rfl)) <| Rv (O.mv (.lit rfl)) ?_
      rcases cnd hj with ⟨hb4, hj⟩ | ⟨hb4, hj⟩
      · refine RunL.v (O.mv (.lit rfl)) rfl rfl (.yb rfl rfl hb4) <| RunL.v (O.mv (.lit rfl)) rfl rfl (.yb rfl rfl hb4) <| RunL.v (O.mv (.lit rfl)) rfl rfl (.yb rfl rfl hb4) <| RunL.v (O.add (.lit rfl) (.lit rfl)) rfl rfl (.yb rfl rfl hb4) ?_
        obtain ⟨x5, hx5, hj⟩ := bnd hj
        refine RunL.v (O.at' (.lit rfl) (.lit rfl) st9 hx5) rfl rfl (.yb rfl rfl hb4) ?_
        obtain ⟨x6, hx6, hj⟩ := bnd hj
        refine RunL.c (PC.go (.cc (.lit rfl) .nil) (con105 x5 _ hx6) call105 rfl) rfl rfl (.yb rfl rfl hb4) <| RunL.v (O.mv (.lit rfl)) rfl rfl (.yb rfl rfl hb4) ?_
        rcases cnd hj with ⟨hb7, hj⟩ | ⟨hb7, hj⟩
        · obtain rfl := sm hj
          exact RunL.ps rfl rfl hb7 rfl rfl <| RunL.ps rfl rfl hb7 rfl rfl <| RunL.ps rfl rfl hb7 rfl rfl <| RunL.pu rfl rfl rfl rfl <| RunL.pu rfl rfl rfl rfl <| RunL.pu rfl rfl rfl rfl <| RunL.pu rfl rfl rfl rfl <| RunL.pu rfl rfl rfl rfl <| RunL.pu rfl rfl rfl rfl <| RunL.pu rfl rfl rfl rfl <| RunL.pu rfl rfl rfl rfl <| RunL.pu rfl rfl rfl rfl <| RunL.pu rfl rfl rfl rfl <| RunL.pu rfl rfl rfl rfl <| RunL.pu rfl rfl rfl rfl <| RunL.pu rfl rfl rfl rfl <| RunL.pu rfl rfl rfl rfl <| RunL.ps rfl rfl hb7 rfl rfl <| RunL.v (O.pkT (.lit rfl) hb7 (.k rfl)) rfl rfl (.yb rfl rfl hb4) <| Rv (O.pkT (.lit rfl) hb4 (.lit rfl)) <| RunL.fin (.n rfl (.n rfl (.n rfl (.n rfl .nil))))
        · refine RunL.v (O.mv (.lit rfl)) rfl rfl (.yb rfl rfl hb7) <| RunL.v (O.gtr (.lit rfl) (.k rfl)) rfl rfl (.yb rfl rfl hb7) <| RunL.v (O.mv (.lit rfl)) rfl rfl (.yb rfl rfl hb7) ?_
          rcases cnd hj with ⟨hb8, hj⟩ | ⟨hb8, hj⟩
          · refine RunL.v (O.mv (.lit rfl)) rfl rfl (.yb rfl rfl hb8) <| RunL.v (O.mv (.lit rfl)) rfl rfl (.yb rfl rfl hb8) <| RunL.v (O.mv (.lit rfl)) rfl rfl (.yb rfl rfl hb8) <| RunL.v (O.add (.lit rfl) (.lit rfl)) rfl rfl (.yb rfl rfl hb8) ?_
            obtain ⟨x9, hx9, hj⟩ := bnd hj
            refine RunL.v (O.at' (.lit rfl) (.lit rfl) st9 hx9) rfl rfl (.yb rfl rfl hb8) ?_
            obtain ⟨x10, hx10, hj⟩ := bnd hj
            refine RunL.c (PC.go (.cc (.lit rfl) .nil) (con106 x9 _ hx10) call106 rfl) rfl rfl (.yb rfl rfl hb8) <| RunL.v (O.mv (.lit rfl)) rfl rfl (.yb rfl rfl hb8) ?_
            rcases cnd hj with ⟨hb11, hj⟩ | ⟨hb11, hj⟩
            · obtain rfl := sm hj
              exact RunL.ps rfl rfl hb11 rfl rfl <| RunL.ps rfl rfl hb11 rfl rfl <| RunL.ps rfl rfl hb11 rfl rfl <| RunL.ps rfl rfl hb11 rfl rfl <| RunL.ps rfl rfl hb11 rfl rfl <| RunL.ps rfl rfl hb11 rfl rfl <| RunL.v (O.pkT (.lit rfl) hb11 (.k rfl)) rfl rfl (.yb rfl rfl hb8) <| RunL.v (O.pkT (.lit rfl) hb8 (.lit rfl)) rfl rfl (.yb rfl rfl hb7) <| RunL.v (O.pkF (.lit rfl) hb7 (.lit rfl)) rfl rfl (.yb rfl rfl hb4) <| Rv (O.pkT (.lit rfl) hb4 (.lit rfl)) <| RunL.fin (.n rfl (.n rfl (.n rfl (.n rfl .nil))))
            · refine RunL.v (O.mv (.lit rfl)) rfl rfl (.yb rfl rfl hb11) <| RunL.v (O.mv (.lit rfl)) rfl rfl (.yb rfl rfl hb11) <| RunL.v (O.mv (.lit rfl)) rfl rfl (.yb rfl rfl hb11) <| RunL.v (O.add (.lit rfl) (.lit rfl)) rfl rfl (.yb rfl rfl hb11) ?_
              obtain ⟨x12, hx12, hj⟩ := bnd hj
              obtain rfl := sm hj
              exact RunL.v (O.at' (.lit rfl) (.lit rfl) st9 hx12) rfl rfl (.yb rfl rfl hb11) <| RunL.v (O.eql (.lit rfl) (.k rfl)) rfl rfl (.yb rfl rfl hb11) <| RunL.v (O.pkF (.lit rfl) hb11 (.lit rfl)) rfl rfl (.yb rfl rfl hb8) <| RunL.v (O.pkT (.lit rfl) hb8 (.lit rfl)) rfl rfl (.yb rfl rfl hb7) <| RunL.v (O.pkF (.lit rfl) hb7 (.lit rfl)) rfl rfl (.yb rfl rfl hb4) <| Rv (O.pkT (.lit rfl) hb4 (.lit rfl)) <| RunL.fin (.n rfl (.n rfl (.n rfl (.n rfl .nil))))
          · obtain rfl := sm hj
            exact RunL.ps rfl rfl hb8 rfl rfl <| RunL.ps rfl rfl hb8 rfl rfl <| RunL.ps rfl rfl hb8 rfl rfl <| RunL.ps rfl rfl hb8 rfl rfl <| RunL.ps rfl rfl hb8 rfl rfl <| RunL.ps rfl rfl hb8 rfl rfl <| RunL.ps rfl rfl hb8 rfl rfl <| RunL.pu rfl rfl rfl rfl <| RunL.pu rfl rfl rfl rfl <| RunL.pu rfl rfl rfl rfl <| RunL.pu rfl rfl rfl rfl <| RunL.pu rfl rfl rfl rfl <| RunL.pu rfl rfl rfl rfl <| RunL.ps rfl rfl hb8 rfl rfl <| RunL.v (O.pkF (.lit rfl) hb8 (.k rfl)) rfl rfl (.yb rfl rfl hb7) <| RunL.v (O.pkF (.lit rfl) hb7 (.lit rfl)) rfl rfl (.yb rfl rfl hb4) <| Rv (O.pkT (.lit rfl) hb4 (.lit rfl)) <| RunL.fin (.n rfl (.n rfl (.n rfl (.n rfl .nil))))
      · obtain rfl := sm hj
        exact RunL.ps rfl rfl hb4 rfl rfl <| RunL.ps rfl rfl hb4 rfl rfl <| RunL.ps rfl rfl hb4 rfl rfl <| RunL.ps rfl rfl hb4 rfl rfl <| RunL.ps rfl rfl hb4 rfl rfl <| RunL.ps rfl rfl hb4 rfl rfl <| RunL.ps rfl rfl hb4 rfl rfl <| RunL.pu rfl rfl rfl rfl <| RunL.pu rfl rfl rfl rfl <| RunL.pu rfl rfl rfl rfl <| RunL.pu rfl rfl rfl rfl <| RunL.pu rfl rfl rfl rfl <| RunL.pu rfl rfl rfl rfl <| RunL.pu rfl rfl rfl rfl <| RunL.pu rfl rfl rfl rfl <| RunL.pu rfl rfl rfl rfl <| RunL.pu rfl rfl rfl rfl <| RunL.pu rfl rfl rfl rfl <| RunL.pu rfl rfl rfl rfl <| RunL.pu rfl rfl rfl rfl <| RunL.pu rfl rfl rfl rfl <| RunL.pu rfl rfl rfl rfl <| RunL.pu rfl rfl rfl rfl <| RunL.pu rfl rfl rfl rfl <| RunL.pu rfl rfl rfl rfl <| RunL.ps rfl rfl hb4 rfl rfl <| Rv (O.pkF (.lit rfl) hb4 (.k rfl)) <| RunL.fin (.n rfl (.n rfl (.n rfl (.n rfl .nil))))
    refine Px.sq ?_
    refine W.cnd rfl (fun hb14 => ?_) (fun hb14 => ?_)
    · replace h := cndT hb14 h
      refine W.sk ?_
      refine Px.sq ?_
      refine W.bk ?_
      refine W.rx [(0, _), (1, _), (5, _)] (Rv (O.mv (.lit rfl)) <| Rv (O.add (.lit rfl) (.k rfl)) <| RunL.re (G1 := [(0, SS a0), (1, I64 a1), (41, I64 (w64 (s1 + 1)))]) (.n rfl (.n rfl (.n rfl .nil))) <| Rv (O.as (.lit rfl)) <| RunL.fin (.n rfl (.n rfl (.n rfl .nil)))) ?_
      refine Px.bk ?_
      obtain rfl := sm h
      exact Px.go (.n rfl (.n rfl (.n rfl .nil)))
    · replace h := cndF hb14 h
      refine W.xi ?_
      refine Px.sqE ?_
      obtain rfl := sm h
      exact Px.x1 (.n rfl .nil)
  refine Px.bkH ?_
  refine Px.sq ?_
  refine W.sq' ?_
  refine W.rx [(4, _)] (Rv (O.mv (.lit rfl)) <| Rv (O.as (.lit rfl)) <| RunL.fin (.n rfl .nil)) ?_
  refine Px.sq ?_
  refine W.rt ?_
  obtain rfl := sm h
  exact Px.fin (Fin.ro (.f rfl rfl .nil) rfl (of_decide_eq_true (by kernel_rfl)) (.no (.no .nil)) rfl (.inr rfl))
def pf79 (a0 : ByteArray) : Option (Bool) :=
 ((bif decide (1 ≤ (a0.size : Int)) then (bif decide ((a0.size : Int) ≤ 20) then ((pf91 a0 0).bind fun x3 => some (decide (x3 = (a0.size : Int)))) else some false) else some false)).bind fun c4 =>
 some c4
theorem con79 (a0 : ByteArray) (r : Bool) (h : pf79 a0 = some r) : Con Try.prog 79 [SS a0] [none] (BB r) := by
  unfold pf79 at h
  refine Con.go (N := ⟨18, []⟩) Try.func79 rfl rfl rfl rfl (W.fin ?_)
  refine W.st [(0, SS a0)] ?_
  refine W.sq' ?_
  refine W.rx [(0, _)] (Rv (O.as (.k rfl)) <| RunL.fin (.n rfl .nil)) ?_
  refine Px.sq ?_
  refine W.sq' ?_
  obtain ⟨c4, hj, h⟩ := bnd h
  refine W.rx [(2, BB c4)] ?_ ?_
  · refine Rv (O.mv (.lit rfl)) <| Rv (O.lenS (.lit rfl) st9) <| Rv (O.geq (.lit rfl) (.k rfl)) <| Rv (O.mv (.lit rfl)) ?_
    rcases cnd hj with ⟨hb1, hj⟩ | ⟨hb1, hj⟩
    · refine RunL.v (O.mv (.lit rfl)) rfl rfl (.yb rfl rfl hb1) <| RunL.v (O.lenS (.lit rfl) st9) rfl rfl (.yb rfl rfl hb1) <| RunL.v (O.leq (.lit rfl) (.k rfl)) rfl rfl (.yb rfl rfl hb1) <| Rv (O.pkT (.lit rfl) hb1 (.lit rfl)) <| Rv (O.mv (.lit rfl)) ?_
      rcases cnd hj with ⟨hb2, hj⟩ | ⟨hb2, hj⟩
      · refine RunL.v (O.mv (.lit rfl)) rfl rfl (.yb rfl rfl hb2) ?_
        obtain ⟨x3, hx3, hj⟩ := bnd hj
        obtain rfl := sm hj
        exact RunL.c (PC.go (.cc (.lit rfl) (.cc (.k rfl) .nil)) (con91 a0 0 _ hx3) call91 rfl) rfl rfl (.yb rfl rfl hb2) <| RunL.v (O.mv (.lit rfl)) rfl rfl (.yb rfl rfl hb2) <| RunL.v (O.lenS (.lit rfl) st9) rfl rfl (.yb rfl rfl hb2) <| RunL.v (O.eql (.lit rfl) (.lit rfl)) rfl rfl (.yb rfl rfl hb2) <| Rv (O.pkT (.lit rfl) hb2 (.lit rfl)) <| Rv (O.as (.lit rfl)) <| RunL.fin (.n rfl .nil)
      · obtain rfl := sm hj
        exact RunL.ps rfl rfl hb2 rfl rfl <| RunL.ps rfl rfl hb2 rfl rfl <| RunL.ps rfl rfl hb2 rfl rfl <| RunL.ps rfl rfl hb2 rfl rfl <| RunL.ps rfl rfl hb2 rfl rfl <| Rv (O.pkF (.lit rfl) hb2 (.k rfl)) <| Rv (O.as (.lit rfl)) <| RunL.fin (.n rfl .nil)
    · obtain rfl := sm hj
      exact RunL.ps rfl rfl hb1 rfl rfl <| RunL.ps rfl rfl hb1 rfl rfl <| RunL.ps rfl rfl hb1 rfl rfl <| Rv (O.pkF (.lit rfl) hb1 (.k rfl)) <| Rv (O.mv (.lit rfl)) <| RunL.ps rfl rfl rfl rfl rfl <| RunL.ps rfl rfl rfl rfl rfl <| RunL.ps rfl rfl rfl rfl rfl <| RunL.ps rfl rfl rfl rfl rfl <| RunL.ps rfl rfl rfl rfl rfl <| Rv (O.pkF (.lit rfl) rfl (.k rfl)) <| Rv (O.as (.lit rfl)) <| RunL.fin (.n rfl .nil)
  refine Px.sq ?_
  refine W.rt ?_
  obtain rfl := sm h
  exact Px.fin (Fin.ro (.f rfl rfl .nil) rfl (of_decide_eq_true (by kernel_rfl)) (.no .nil) rfl (.inr rfl))
def pf55 (a0 : Int) : Option (Int × Bool) :=
 (bif decide (a0 = 10) then
 some (110, true)
 else
 (bif decide (a0 = 9) then
 some (116, true)
 else
 (bif decide (a0 = 13) then
 some (114, true)
 else
 ((bif decide (a0 = 92) then
 some (decide (a0 = 92))
 else
 some (decide (a0 = 39)))).bind fun j4 =>
 (bif j4 then
 some (a0, true)
 else
 ((bif decide (32 ≤ a0) then some (0, decide (a0 ≤ 126)) else some (0, false))).bind fun c8 =>
 some (c8.1, c8.2)))))
theorem con55 (a0 : Int) (r : Int × Bool) (h : pf55 a0 = some r) : Con Try.prog 55 [U8 a0] [none] (.tup [U8 r.1, BB r.2]) := by
  unfold pf55 at h
  refine Con.go (N := ⟨21, []⟩) Try.func55 rfl rfl rfl rfl (W.fin ?_)
  refine W.st [(0, U8 a0)] ?_
  refine W.sq' ?_
  refine W.rx [(0, _)] (Rv (O.as (.k rfl)) <| Rv (O.as (.k rfl)) <| RunL.fin (.n rfl .nil)) ?_
  refine Px.sq ?_
  refine W.sq' ?_
  refine W.sq' ?_
  refine W.rx [(0, _), (4, _)] (Rv (O.mv (.lit rfl)) <| RunL.fin (.n rfl (.n rfl .nil))) ?_
  refine Px.sq ?_
  refine W.bk ?_
  refine W.sq' ?_
  refine W.rx [(0, _), (4, _), (5, _)] (Rv (O.eql (.lit rfl) (.k rfl)) <| Rv (O.as (.lit rfl)) <| RunL.fin (.n rfl (.n rfl (.n rfl .nil)))) ?_
  refine Px.sq ?_
  refine W.cnd rfl (fun hb1 => ?_) (fun hb1 => ?_)
  · replace h := cndT hb1 h
    refine W.sq' ?_
    refine W.rx [(2, _), (3, _)] (Rv (O.as (.k rfl)) <| Rv (O.as (.k rfl)) <| RunL.fin (.n rfl (.n rfl .nil))) ?_
    refine Px.sq ?_
    refine W.rt ?_
    refine Px.bkR ?_
    refine Px.sqR ?_
    obtain rfl := sm h
    exact Px.fin (Fin.ro (.f rfl rfl (.f rfl rfl .nil)) rfl (of_decide_eq_true (by kernel_rfl)) (.no .nil) rfl (.inr rfl))
  · replace h := cndF hb1 h
    refine W.sq' ?_
    refine W.rx [(0, _), (4, _), (7, _)] (Rv (O.eql (.lit rfl) (.k rfl)) <| Rv (O.as (.lit rfl)) <| RunL.fin (.n rfl (.n rfl (.n rfl .nil)))) ?_
    refine Px.sq ?_
    refine W.cnd rfl (fun hb2 => ?_) (fun hb2 => ?_)
    · replace h := cndT hb2 h
      refine W.sq' ?_
      refine W.rx [(2, _), (3, _)] (Rv (O.as (.k rfl)) <| Rv (O.as (.k rfl)) <| RunL.fin (.n rfl (.n rfl .nil))) ?_
      refine Px.sq ?_
      refine W.rt ?_
      refine Px.bkR ?_
      refine Px.sqR ?_
      obtain rfl := sm h
      exact Px.fin (Fin.ro (.f rfl rfl (.f rfl rfl .nil)) rfl (of_decide_eq_true (by kernel_rfl)) (.no .nil) rfl (.inr rfl))
    · replace h := cndF hb2 h
      refine W.sq' ?_
      refine W.rx [(0, _), (4, _), (9, _)] (Rv (O.eql (.lit rfl) (.k rfl)) <| Rv (O.as (.lit rfl)) <| RunL.fin (.n rfl (.n rfl (.n rfl .nil)))) ?_
      refine Px.sq ?_
      refine W.cnd rfl (fun hb3 => ?_) (fun hb3 => ?_)
      · replace h := cndT hb3 h
        refine W.sq' ?_
        refine W.rx [(2, _), (3, _)] (Rv (O.as (.k rfl)) <| Rv (O.as (.k rfl)) <| RunL.fin (.n rfl (.n rfl .nil))) ?_
        refine Px.sq ?_
        refine W.rt ?_
        refine Px.bkR ?_
        refine Px.sqR ?_
        obtain rfl := sm h
        exact Px.fin (Fin.ro (.f rfl rfl (.f rfl rfl .nil)) rfl (of_decide_eq_true (by kernel_rfl)) (.no .nil) rfl (.inr rfl))
      · replace h := cndF hb3 h
        refine W.sq' ?_
        refine W.sq' ?_
        refine W.rx [(0, _), (4, _), (11, _)] (Rv (O.eql (.lit rfl) (.k rfl)) <| Rv (O.as (.lit rfl)) <| RunL.fin (.n rfl (.n rfl (.n rfl .nil)))) ?_
        refine Px.sq ?_
        obtain ⟨j4, hj, h⟩ := bnd h
        refine W.jn [(0, U8 a0), (11, BB j4)] ?_ ?_
        · clear h; have h := hj; clear hj
          refine W.cnd rfl (fun hb5 => ?_) (fun hb5 => ?_)
          · replace h := cndT hb5 h
            refine W.sk ?_
            obtain rfl := sm h
            exact Px.jn (.n rfl (.n rfl .nil))
          · replace h := cndF hb5 h
            refine W.rx [(0, _), (11, _)] (Rv (O.eql (.lit rfl) (.k rfl)) <| RunL.re (G1 := [(0, U8 a0), (13, BB (decide (a0 = 39)))]) (.n rfl (.n rfl .nil)) <| Rv (O.as (.lit rfl)) <| RunL.fin (.n rfl (.n rfl .nil))) ?_
            obtain rfl := sm h
            exact Px.jn (.n rfl (.n rfl .nil))
        refine Px.sq ?_
        refine W.cnd rfl (fun hb6 => ?_) (fun hb6 => ?_)
        · replace h := cndT hb6 h
          refine W.sq' ?_
          refine W.rx [(2, _), (3, _)] (Rv (O.mv (.lit rfl)) <| Rv (O.as (.lit rfl)) <| Rv (O.as (.k rfl)) <| RunL.fin (.n rfl (.n rfl .nil))) ?_
          refine Px.sq ?_
          refine W.rt ?_
          refine Px.bkR ?_
          refine Px.sqR ?_
          obtain rfl := sm h
          exact Px.fin (Fin.ro (.f rfl rfl (.f rfl rfl .nil)) rfl (of_decide_eq_true (by kernel_rfl)) (.no .nil) rfl (.inr rfl))
        · replace h := cndF hb6 h
          refine W.sk ?_
          refine Px.bk ?_
          refine Px.sq ?_
          refine W.sq' ?_
          obtain ⟨c8, hj, h⟩ := bnd h
          refine W.rx [(2, U8 c8.1), (3, BB c8.2)] ?_ ?_
          · refine Rv (O.mv (.lit rfl)) <| Rv (O.geq (.lit rfl) (.k rfl)) <| Rv (O.mv (.lit rfl)) ?_
            rcases cnd hj with ⟨hb7, hj⟩ | ⟨hb7, hj⟩
            · obtain rfl := sm hj
              exact RunL.v (O.mv (.lit rfl)) rfl rfl (.yb rfl rfl hb7) <| RunL.v (O.leq (.lit rfl) (.k rfl)) rfl rfl (.yb rfl rfl hb7) <| Rv (O.pkT (.lit rfl) hb7 (.lit rfl)) <| Rv (O.as (.k rfl)) <| Rv (O.as (.lit rfl)) <| RunL.fin (.n rfl (.n rfl .nil))
            · obtain rfl := sm hj
              exact RunL.ps rfl rfl hb7 rfl rfl <| RunL.ps rfl rfl hb7 rfl rfl <| Rv (O.pkF (.lit rfl) hb7 (.k rfl)) <| Rv (O.as (.k rfl)) <| Rv (O.as (.lit rfl)) <| RunL.fin (.n rfl (.n rfl .nil))
          refine Px.sq ?_
          refine W.rt ?_
          obtain rfl := sm h
          exact Px.fin (Fin.ro (.f rfl rfl (.f rfl rfl .nil)) rfl (of_decide_eq_true (by kernel_rfl)) (.no .nil) rfl (.inr rfl))
structure Sym where
  Name : ByteArray
  Lit : Bool
  Num : Int
  At : Int
  deriving DecidableEq, Inhabited
def pf90 (a0 : Sym) (a1 : Bool) (a2 : Bool) : Option (Bool) :=
 (bif a0.Lit then
 ((bif !a2 then some true else (bif !decide ((a0.Name.size : Int) = 1) then some true else some (!decide (a0.Num = 0))))).bind fun c4 =>
 (bif c4 then
 some false
 else
 (bidx a0.Name 0).bind fun x6 =>
 (pf55 x6).bind fun x7 =>
 some x7.2)
 else
 (((pf79 a0.Name).bind fun x8 => (bif x8 then (bif decide (a0.Num = 0) then some true else (bif a1 then (bif decide (1 ≤ a0.Num) then some (decide (a0.Num ≤ 50000)) else some false) else some false)) else some false))).bind fun c13 =>
 some c13)
theorem con90 (a0 : Sym) (a1 : Bool) (a2 : Bool) (r : Bool) (h : pf90 a0 a1 a2 = some r) : Con Try.prog 90 [.agg [SS a0.Name, BB a0.Lit, I64 a0.Num, I64 a0.At], BB a1, BB a2] [none, none, none] (BB r) := by
  unfold pf90 at h
  refine Con.go (N := ⟨53, []⟩) Try.func90 rfl rfl rfl rfl (W.fin ?_)
  refine W.st [(0, .agg [SS a0.Name, BB a0.Lit, I64 a0.Num, I64 a0.At]), (1, BB a1), (2, BB a2)] ?_
  refine W.sq' ?_
  refine W.rx [(1, _), (2, _), (3, _)] (Rv (O.box (.aggF rfl rfl) rfl) <| Rv (O.as (.k rfl)) <| RunL.fin (.n rfl (.n rfl (.n rfl .nil)))) ?_
  refine Px.sq ?_
  refine W.sq' ?_
  refine W.sq' ?_
  refine W.rx [(1, _), (2, _), (3, _), (10, _)] (Rv (O.fO rfl (.obj rfl) fd91_1 rfl) <| Rv (O.ldO (y := BB a0.Lit) rfl (.ptr rfl) ct4 rfl rfl) <| RunL.fin (.n rfl (.n rfl (.n rfl (.n rfl .nil))))) ?_
  refine Px.sq ?_
  refine W.cnd rfl (fun hb1 => ?_) (fun hb1 => ?_)
  · replace h := cndT hb1 h
    refine W.sq' ?_
    refine W.sq' ?_
    obtain ⟨c4, hj, h⟩ := bnd h
    refine W.rx [(3, .obj [SS a0.Name, BB a0.Lit, I64 a0.Num, I64 a0.At]), (23, BB c4)] ?_ ?_
    · refine Rv (O.mv (.lit rfl)) <| Rv (O.not (.lit rfl)) <| Rv (O.mv (.lit rfl)) ?_
      rcases cnd hj with ⟨hb2, hj⟩ | ⟨hb2, hj⟩
      · obtain rfl := sm hj
        exact RunL.ps rfl rfl hb2 rfl rfl <| RunL.ps rfl rfl hb2 rfl rfl <| RunL.ps rfl rfl hb2 rfl rfl <| RunL.ps rfl rfl hb2 rfl rfl <| Rv (O.pkT (.lit rfl) hb2 (.k rfl)) <| Rv (O.mv (.lit rfl)) <| RunL.ps rfl rfl rfl rfl rfl <| RunL.ps rfl rfl rfl rfl rfl <| RunL.ps rfl rfl rfl rfl rfl <| Rv (O.pkT (.lit rfl) rfl (.k rfl)) <| RunL.fin (.n rfl (.n rfl .nil))
      · refine RunL.v (O.fO rfl (.obj rfl) fd91_0 rfl) rfl rfl (.yb rfl rfl hb2) <| RunL.v (O.ldO (y := SS a0.Name) rfl (.ptr rfl) ct9 rfl rfl) rfl rfl (.yb rfl rfl hb2) <| RunL.v (O.lenS (.lit rfl) st9) rfl rfl (.yb rfl rfl hb2) <| RunL.v (O.neq (.lit rfl) (.k rfl)) rfl rfl (.yb rfl rfl hb2) <| Rv (O.pkF (.lit rfl) hb2 (.lit rfl)) <| Rv (O.mv (.lit rfl)) ?_
        rcases cnd hj with ⟨hb3, hj⟩ | ⟨hb3, hj⟩
        · obtain rfl := sm hj
          exact RunL.ps rfl rfl hb3 rfl rfl <| RunL.ps rfl rfl hb3 rfl rfl <| RunL.ps rfl rfl hb3 rfl rfl <| Rv (O.pkT (.lit rfl) hb3 (.k rfl)) <| RunL.fin (.n rfl (.n rfl .nil))
        · obtain rfl := sm hj
          exact RunL.v (O.fO rfl (.obj rfl) fd91_2 rfl) rfl rfl (.yb rfl rfl hb3) <| RunL.v (O.ldO (y := I64 a0.Num) rfl (.ptr rfl) ct3 rfl rfl) rfl rfl (.yb rfl rfl hb3) <| RunL.v (O.neq (.lit rfl) (.k rfl)) rfl rfl (.yb rfl rfl hb3) <| Rv (O.pkF (.lit rfl) hb3 (.lit rfl)) <| RunL.fin (.n rfl (.n rfl .nil))
    refine Px.sq ?_
    refine W.cnd rfl (fun hb5 => ?_) (fun hb5 => ?_)
    · replace h := cndT hb5 h
      refine W.sq' ?_
      refine W.rx [(6, _)] (Rv (O.as (.k rfl)) <| RunL.fin (.n rfl .nil)) ?_
      refine Px.sq ?_
      refine W.rt ?_
      refine Px.sqR ?_
      refine Px.sqR ?_
      obtain rfl := sm h
      exact Px.fin (Fin.ro (.f rfl rfl .nil) rfl (of_decide_eq_true (by kernel_rfl)) (.no (.no (.no .nil))) rfl (.inr rfl))
    · replace h := cndF hb5 h
      refine W.sk ?_
      refine Px.sq ?_
      refine W.sq' ?_
      obtain ⟨x6, hx6, h⟩ := bnd h
      obtain ⟨x7, hx7, h⟩ := bnd h
      refine W.rx [(8, _)] (Rv (O.fO rfl (.obj rfl) fd91_0 rfl) <| Rv (O.ldO (y := SS a0.Name) rfl (.ptr rfl) ct9 rfl rfl) <| Rv (O.at' (.lit rfl) (.k rfl) st9 hx6) <| Rc (PC.go (.cc (.lit rfl) .nil) (con55 x6 _ hx7) call55 rfl) <| Rv (O.mv (.tupF rfl rfl)) <| Rv (O.ex (y := U8 x7.1) rfl rfl rfl) <| Rv (O.ex (y := BB x7.2) rfl rfl rfl) <| Rv (O.as (.lit rfl)) <| Rv (O.as (.lit rfl)) <| RunL.fin (.n rfl .nil)) ?_
      refine Px.sq ?_
      refine W.sq' ?_
      refine W.rx [(6, _)] (Rv (O.mv (.lit rfl)) <| Rv (O.as (.lit rfl)) <| RunL.fin (.n rfl .nil)) ?_
      refine Px.sq ?_
      refine W.rt ?_
      refine Px.sqR ?_
      obtain rfl := sm h
      exact Px.fin (Fin.ro (.f rfl rfl .nil) rfl (of_decide_eq_true (by kernel_rfl)) (.no (.no (.no .nil))) rfl (.inr rfl))
  · replace h := cndF hb1 h
    refine W.sk ?_
    refine Px.sq ?_
    refine W.sq' ?_
    obtain ⟨c13, hj, h⟩ := bnd h
    refine W.rx [(6, BB c13)] ?_ ?_
    · refine Rv (O.fO rfl (.obj rfl) fd91_0 rfl) <| Rv (O.ldO (y := SS a0.Name) rfl (.ptr rfl) ct9 rfl rfl) ?_
      obtain ⟨x8, hx8, hj⟩ := bnd hj
      refine Rc (PC.go (.cc (.lit rfl) .nil) (con79 a0.Name _ hx8) call79 rfl) <| Rv (O.mv (.lit rfl)) ?_
      rcases cnd hj with ⟨hb9, hj⟩ | ⟨hb9, hj⟩
      · refine RunL.v (O.fO rfl (.obj rfl) fd91_2 rfl) rfl rfl (.yb rfl rfl hb9) <| RunL.v (O.ldO (y := I64 a0.Num) rfl (.ptr rfl) ct3 rfl rfl) rfl rfl (.yb rfl rfl hb9) <| RunL.v (O.eql (.lit rfl) (.k rfl)) rfl rfl (.yb rfl rfl hb9) <| RunL.v (O.mv (.lit rfl)) rfl rfl (.yb rfl rfl hb9) ?_
        rcases cnd hj with ⟨hb10, hj⟩ | ⟨hb10, hj⟩
        · obtain rfl := sm hj
          exact RunL.ps rfl rfl hb10 rfl rfl <| RunL.ps rfl rfl hb10 rfl rfl <| RunL.pu rfl rfl rfl rfl <| RunL.pu rfl rfl rfl rfl <| RunL.pu rfl rfl rfl rfl <| RunL.ps rfl rfl hb10 rfl rfl <| RunL.ps rfl rfl hb10 rfl rfl <| RunL.pu rfl rfl rfl rfl <| RunL.pu rfl rfl rfl rfl <| RunL.pu rfl rfl rfl rfl <| RunL.ps rfl rfl hb10 rfl rfl <| RunL.v (O.pkT (.lit rfl) hb10 (.k rfl)) rfl rfl (.yb rfl rfl hb9) <| Rv (O.pkT (.lit rfl) hb9 (.lit rfl)) <| Rv (O.as (.lit rfl)) <| RunL.fin (.n rfl .nil)
        · refine RunL.v (O.mv (.lit rfl)) rfl rfl (.yb rfl rfl hb10) <| RunL.v (O.mv (.lit rfl)) rfl rfl (.yb rfl rfl hb10) ?_
          rcases cnd hj with ⟨hb11, hj⟩ | ⟨hb11, hj⟩
          · refine RunL.v (O.fO rfl (.obj rfl) fd91_2 rfl) rfl rfl (.yb rfl rfl hb11) <| RunL.v (O.ldO (y := I64 a0.Num) rfl (.ptr rfl) ct3 rfl rfl) rfl rfl (.yb rfl rfl hb11) <| RunL.v (O.geq (.lit rfl) (.k rfl)) rfl rfl (.yb rfl rfl hb11) <| RunL.v (O.pkT (.lit rfl) hb11 (.lit rfl)) rfl rfl (.yb rfl rfl hb10) <| RunL.v (O.mv (.lit rfl)) rfl rfl (.yb rfl rfl hb10) ?_
            rcases cnd hj with ⟨hb12, hj⟩ | ⟨hb12, hj⟩
            · obtain rfl := sm hj
              exact RunL.v (O.fO rfl (.obj rfl) fd91_2 rfl) rfl rfl (.yb rfl rfl hb12) <| RunL.v (O.ldO (y := I64 a0.Num) rfl (.ptr rfl) ct3 rfl rfl) rfl rfl (.yb rfl rfl hb12) <| RunL.v (O.leq (.lit rfl) (.k rfl)) rfl rfl (.yb rfl rfl hb12) <| RunL.v (O.pkT (.lit rfl) hb12 (.lit rfl)) rfl rfl (.yb rfl rfl hb10) <| RunL.v (O.pkF (.lit rfl) hb10 (.lit rfl)) rfl rfl (.yb rfl rfl hb9) <| Rv (O.pkT (.lit rfl) hb9 (.lit rfl)) <| Rv (O.as (.lit rfl)) <| RunL.fin (.n rfl .nil)
            · obtain rfl := sm hj
              exact RunL.ps rfl rfl hb12 rfl rfl <| RunL.ps rfl rfl hb12 rfl rfl <| RunL.ps rfl rfl hb12 rfl rfl <| RunL.v (O.pkF (.lit rfl) hb12 (.k rfl)) rfl rfl (.yb rfl rfl hb10) <| RunL.v (O.pkF (.lit rfl) hb10 (.lit rfl)) rfl rfl (.yb rfl rfl hb9) <| Rv (O.pkT (.lit rfl) hb9 (.lit rfl)) <| Rv (O.as (.lit rfl)) <| RunL.fin (.n rfl .nil)
          · obtain rfl := sm hj
            exact RunL.ps rfl rfl hb11 rfl rfl <| RunL.ps rfl rfl hb11 rfl rfl <| RunL.ps rfl rfl hb11 rfl rfl <| RunL.v (O.pkF (.lit rfl) hb11 (.k rfl)) rfl rfl (.yb rfl rfl hb10) <| RunL.v (O.mv (.lit rfl)) rfl rfl (.yb rfl rfl hb10) <| RunL.ps rfl rfl rfl rfl rfl <| RunL.ps rfl rfl rfl rfl rfl <| RunL.ps rfl rfl rfl rfl rfl <| RunL.v (O.pkF (.lit rfl) rfl (.k rfl)) rfl rfl (.yb rfl rfl hb10) <| RunL.v (O.pkF (.lit rfl) hb10 (.lit rfl)) rfl rfl (.yb rfl rfl hb9) <| Rv (O.pkT (.lit rfl) hb9 (.lit rfl)) <| Rv (O.as (.lit rfl)) <| RunL.fin (.n rfl .nil)
      · obtain rfl := sm hj
        exact RunL.ps rfl rfl hb9 rfl rfl <| RunL.ps rfl rfl hb9 rfl rfl <| RunL.ps rfl rfl hb9 rfl rfl <| RunL.ps rfl rfl hb9 rfl rfl <| RunL.pu rfl rfl rfl rfl <| RunL.pu rfl rfl rfl rfl <| RunL.pu rfl rfl rfl rfl <| RunL.pu rfl rfl rfl rfl <| RunL.pu rfl rfl rfl rfl <| RunL.pu rfl rfl rfl rfl <| RunL.pu rfl rfl rfl rfl <| RunL.pu rfl rfl rfl rfl <| RunL.pu rfl rfl rfl rfl <| RunL.pu rfl rfl rfl rfl <| RunL.pu rfl rfl rfl rfl <| RunL.ps rfl rfl hb9 rfl rfl <| Rv (O.pkF (.lit rfl) hb9 (.k rfl)) <| Rv (O.as (.lit rfl)) <| RunL.fin (.n rfl .nil)
    refine Px.sq ?_
    refine W.rt ?_
    obtain rfl := sm h
    exact Px.fin (Fin.ro (.f rfl rfl .nil) rfl (of_decide_eq_true (by kernel_rfl)) (.no (.no (.no .nil))) rfl (.inr rfl))
structure Decl where
  Kind : Int
  Tag : ByteArray
  Syms : (List Sym)
  At : Int
  deriving DecidableEq, Inhabited
def eSym : En Sym := ⟨4, fun x => [SS x.Name, BB x.Lit, I64 x.Num, I64 x.At], fun _ => rfl, fun _ => NRl.nr⟩
instance : Flat eSym := ⟨fun _ => rfl⟩
instance : OOe eSym := ⟨fun x => (inferInstance : OOl [SS x.Name, BB x.Lit, I64 x.Num, I64 x.At])⟩
instance : Tw eSym eSym := ⟨rfl, fun x => (inferInstance : Vws [SS x.Name, BB x.Lit, I64 x.Num, I64 x.At] [SS x.Name, BB x.Lit, I64 x.Num, I64 x.At])⟩
instance {x : Sym} : Vws (eSym.cells x) [SS x.Name, BB x.Lit, I64 x.Num, I64 x.At] := (inferInstance : Vws [SS x.Name, BB x.Lit, I64 x.Num, I64 x.At] [SS x.Name, BB x.Lit, I64 x.Num, I64 x.At])
def pf78 (a0 : Decl) : Option (Bool) :=
 ((bif decide (a0.Kind < 1) then some true else (bif decide (6 < a0.Kind) then some true else (bif decide ((a0.Syms.length : Int) = 0) then some true else (bif decide (a0.Kind = 6) then (bif !decide ((a0.Syms.length : Int) = 1) then some true else (bif !decide (a0.Tag = { data := #[] }) then some true else (bif decide (a0.Kind = 5) then (bif decide (a0.Tag = { data := #[] }) then some true else some false) else some false))) else (bif decide (a0.Kind = 5) then (bif decide (a0.Tag = { data := #[] }) then some true else (bif !decide (a0.Tag = { data := #[] }) then ((pf79 a0.Tag).bind fun x12 => some (!x12)) else some false)) else (bif !decide (a0.Tag = { data := #[] }) then ((pf79 a0.Tag).bind fun x14 => some (!x14)) else some false))))))).bind fun c15 =>
 (bif c15 then
 some false
 else
 (loopM (R := (Unit) ⊕ (Bool)) (fun (s17 : Int) =>
 (bif decide (s17 < (a0.Syms.length : Int)) then
 (idx a0.Syms s17).bind fun x22 =>
 (pf90 x22 (decide (a0.Kind = 1)) (decide (a0.Kind < 5))).bind fun x23 =>
 (bif !x23 then
 some (.inr (.inr false))
 else
 some (.inl (w64 (s17 + 1))))
 else
 some (.inr (.inl ())))) 0).bind fun x18 =>
 (match x18 with
 | .inl x19 =>
 some true
 | .inr x20 =>
 some x20))
theorem con78 (a0 : Decl) (r : Bool) (h : pf78 a0 = some r) : Con Try.prog 78 [.agg [I64 a0.Kind, SS a0.Tag, iR eSym a0.Syms, I64 a0.At]] [none] (BB r) := by
  unfold pf78 at h
  refine Con.go (N := ⟨75, []⟩) Try.func78 rfl rfl rfl rfl (W.fin ?_)
  refine W.st [(0, .agg [I64 a0.Kind, SS a0.Tag, iR eSym a0.Syms, I64 a0.At])] ?_
  refine W.sq' ?_
  refine W.rx [(1, _)] (Rv (O.box (.aggF rfl rfl) rfl) <| Rv (O.as (.k rfl)) <| RunL.fin (.n rfl .nil)) ?_
  refine Px.sq ?_
  refine W.sq' ?_
  refine W.sq' ?_
  obtain ⟨c15, hj, h⟩ := bnd h
  refine W.rx [(1, .obj [I64 a0.Kind, SS a0.Tag, iR eSym a0.Syms, I64 a0.At]), (54, BB c15)] ?_ ?_
  · refine Rv (O.fO rfl (.obj rfl) fd89_0 rfl) <| Rv (O.ldO (y := I64 a0.Kind) rfl (.ptr rfl) ct3 rfl rfl) <| Rv (O.lss (.lit rfl) (.k rfl)) <| Rv (O.mv (.lit rfl)) ?_
    rcases cnd hj with ⟨hb1, hj⟩ | ⟨hb1, hj⟩
    · obtain rfl := sm hj
      exact RunL.ps rfl rfl hb1 rfl rfl <| RunL.ps rfl rfl hb1 rfl rfl <| RunL.ps rfl rfl hb1 rfl rfl <| Rv (O.pkT (.lit rfl) hb1 (.k rfl)) <| Rv (O.mv (.lit rfl)) <| RunL.ps rfl rfl rfl rfl rfl <| RunL.ps rfl rfl rfl rfl rfl <| RunL.ps rfl rfl rfl rfl rfl <| RunL.ps rfl rfl rfl rfl rfl <| Rv (O.pkT (.lit rfl) rfl (.k rfl)) <| Rv (O.mv (.lit rfl)) <| RunL.ps rfl rfl rfl rfl rfl <| RunL.ps rfl rfl rfl rfl rfl <| RunL.ps rfl rfl rfl rfl rfl <| RunL.ps rfl rfl rfl rfl rfl <| RunL.pu rfl rfl rfl rfl <| RunL.pu rfl rfl rfl rfl <| RunL.pu rfl rfl rfl rfl <| RunL.pu rfl rfl rfl rfl <| RunL.pu rfl rfl rfl rfl <| RunL.pu rfl rfl rfl rfl <| RunL.pu rfl rfl rfl rfl <| RunL.pu rfl rfl rfl rfl <| RunL.pu rfl rfl rfl rfl <| RunL.ps rfl rfl rfl rfl rfl <| Rv (O.pkT (.lit rfl) rfl (.k rfl)) <| Rv (O.mv (.lit rfl)) <| RunL.ps rfl rfl rfl rfl rfl <| RunL.ps rfl rfl rfl rfl rfl <| RunL.ps rfl rfl rfl rfl rfl <| RunL.ps rfl rfl rfl rfl rfl <| RunL.pu rfl rfl rfl rfl <| RunL.pu rfl rfl rfl rfl <| RunL.pu rfl rfl rfl rfl <| RunL.ps rfl rfl rfl rfl rfl <| Rv (O.pkT (.lit rfl) rfl (.k rfl)) <| Rv (O.mv (.lit rfl)) <| RunL.ps rfl rfl rfl rfl rfl <| RunL.ps rfl rfl rfl rfl rfl <| RunL.ps rfl rfl rfl rfl rfl <| RunL.ps rfl rfl rfl rfl rfl <| RunL.pu rfl rfl rfl rfl <| RunL.pu rfl rfl rfl rfl <| RunL.pu rfl rfl rfl rfl <| RunL.pu rfl rfl rfl rfl <| RunL.ps rfl rfl rfl rfl rfl <| Rv (O.pkT (.lit rfl) rfl (.k rfl)) <| RunL.fin (.n rfl (.n rfl .nil))
    · refine RunL.v (O.fO rfl (.obj rfl) fd89_0 rfl) rfl rfl (.yb rfl rfl hb1) <| RunL.v (O.ldO (y := I64 a0.Kind) rfl (.ptr rfl) ct3 rfl rfl) rfl rfl (.yb rfl rfl hb1) <| RunL.v (O.gtr (.lit rfl) (.k rfl)) rfl rfl (.yb rfl rfl hb1) <| Rv (O.pkF (.lit rfl) hb1 (.lit rfl)) <| Rv (O.mv (.lit rfl)) ?_
      rcases cnd hj with ⟨hb2, hj⟩ | ⟨hb2, hj⟩
      · obtain rfl := sm hj
        exact RunL.ps rfl rfl hb2 rfl rfl <| RunL.ps rfl rfl hb2 rfl rfl <| RunL.ps rfl rfl hb2 rfl rfl <| RunL.ps rfl rfl hb2 rfl rfl <| Rv (O.pkT (.lit rfl) hb2 (.k rfl)) <| Rv (O.mv (.lit rfl)) <| RunL.ps rfl rfl rfl rfl rfl <| RunL.ps rfl rfl rfl rfl rfl <| RunL.ps rfl rfl rfl rfl rfl <| RunL.ps rfl rfl rfl rfl rfl <| RunL.pu rfl rfl rfl rfl <| RunL.pu rfl rfl rfl rfl <| RunL.pu rfl rfl rfl rfl <| RunL.pu rfl rfl rfl rfl <| RunL.pu rfl rfl rfl rfl <| RunL.pu rfl rfl rfl rfl <| RunL.pu rfl rfl rfl rfl <| RunL.pu rfl rfl rfl rfl <| RunL.pu rfl rfl rfl rfl <| RunL.ps rfl rfl rfl rfl rfl <| Rv (O.pkT (.lit rfl) rfl (.k rfl)) <| Rv (O.mv (.lit rfl)) <| RunL.ps rfl rfl rfl rfl rfl <| RunL.ps rfl rfl rfl rfl rfl <| RunL.ps rfl rfl rfl rfl rfl <| RunL.ps rfl rfl rfl rfl rfl <| RunL.pu rfl rfl rfl rfl <| RunL.pu rfl rfl rfl rfl <| RunL.pu rfl rfl rfl rfl <| RunL.ps rfl rfl rfl rfl rfl <| Rv (O.pkT (.lit rfl) rfl (.k rfl)) <| Rv (O.mv (.lit rfl)) <| RunL.ps rfl rfl rfl rfl rfl <| RunL.ps rfl rfl rfl rfl rfl <| RunL.ps rfl rfl rfl rfl rfl <| RunL.ps rfl rfl rfl rfl rfl <| RunL.pu rfl rfl rfl rfl <| RunL.pu rfl rfl rfl rfl <| RunL.pu rfl rfl rfl rfl <| RunL.pu rfl rfl rfl rfl <| RunL.ps rfl rfl rfl rfl rfl <| Rv (O.pkT (.lit rfl) rfl (.k rfl)) <| RunL.fin (.n rfl (.n rfl .nil))
      · refine RunL.v (O.fO rfl (.obj rfl) fd89_2 rfl) rfl rfl (.yb rfl rfl hb2) <| RunL.v (O.ldO (y := iR eSym a0.Syms) rfl (.ptr rfl) ct87 rfl rfl) rfl rfl (.yb rfl rfl hb2) <| RunL.v (O.lenI (.imm rfl) sl87) rfl rfl (.yb rfl rfl hb2) <| RunL.v (O.eql (.lit rfl) (.k rfl)) rfl rfl (.yb rfl rfl hb2) <| Rv (O.pkF (.lit rfl) hb2 (.lit rfl)) <| Rv (O.mv (.lit rfl)) ?_
        rcases cnd hj with ⟨hb3, hj⟩ | ⟨hb3, hj⟩
        · obtain rfl := sm hj
          exact RunL.ps rfl rfl hb3 rfl rfl <| RunL.ps rfl rfl hb3 rfl rfl <| RunL.ps rfl rfl hb3 rfl rfl <| RunL.ps rfl rfl hb3 rfl rfl <| RunL.pu rfl rfl rfl rfl <| RunL.pu rfl rfl rfl rfl <| RunL.pu rfl rfl rfl rfl <| RunL.pu rfl rfl rfl rfl <| RunL.pu rfl rfl rfl rfl <| RunL.pu rfl rfl rfl rfl <| RunL.pu rfl rfl rfl rfl <| RunL.pu rfl rfl rfl rfl <| RunL.pu rfl rfl rfl rfl <| RunL.ps rfl rfl hb3 rfl rfl <| Rv (O.pkT (.lit rfl) hb3 (.k rfl)) <| Rv (O.mv (.lit rfl)) <| RunL.ps rfl rfl rfl rfl rfl <| RunL.ps rfl rfl rfl rfl rfl <| RunL.ps rfl rfl rfl rfl rfl <| RunL.ps rfl rfl rfl rfl rfl <| RunL.pu rfl rfl rfl rfl <| RunL.pu rfl rfl rfl rfl <| RunL.pu rfl rfl rfl rfl <| RunL.ps rfl rfl rfl rfl rfl <| Rv (O.pkT (.lit rfl) rfl (.k rfl)) <| Rv (O.mv (.lit rfl)) <| RunL.ps rfl rfl rfl rfl rfl <| RunL.ps rfl rfl rfl rfl rfl <| RunL.ps rfl rfl rfl rfl rfl <| RunL.ps rfl rfl rfl rfl rfl <| RunL.pu rfl rfl rfl rfl <| RunL.pu rfl rfl rfl rfl <| RunL.pu rfl rfl rfl rfl <| RunL.pu rfl rfl rfl rfl <| RunL.ps rfl rfl rfl rfl rfl <| Rv (O.pkT (.lit rfl) rfl (.k rfl)) <| RunL.fin (.n rfl (.n rfl .nil))
        · refine RunL.v (O.fO rfl (.obj rfl) fd89_0 rfl) rfl rfl (.yb rfl rfl hb3) <| RunL.v (O.ldO (y := I64 a0.Kind) rfl (.ptr rfl) ct3 rfl rfl) rfl rfl (.yb rfl rfl hb3) <| RunL.v (O.eql (.lit rfl) (.k rfl)) rfl rfl (.yb rfl rfl hb3) <| RunL.v (O.mv (.lit rfl)) rfl rfl (.yb rfl rfl hb3) ?_
          rcases cnd hj with ⟨hb4, hj⟩ | ⟨hb4, hj⟩
          · refine RunL.v (O.fO rfl (.obj rfl) fd89_2 rfl) rfl rfl (.yb rfl rfl hb4) <| RunL.v (O.ldO (y := iR eSym a0.Syms) rfl (.ptr rfl) ct87 rfl rfl) rfl rfl (.yb rfl rfl hb4) <| RunL.v (O.lenI (.imm rfl) sl87) rfl rfl (.yb rfl rfl hb4) <| RunL.v (O.neq (.lit rfl) (.k rfl)) rfl rfl (.yb rfl rfl hb4) <| RunL.v (O.mv (.lit rfl)) rfl rfl (.yb rfl rfl hb4) ?_
            rcases cnd hj with ⟨hb5, hj⟩ | ⟨hb5, hj⟩
            · obtain rfl := sm hj
              exact RunL.ps rfl rfl hb5 rfl rfl <| RunL.ps rfl rfl hb5 rfl rfl <| RunL.ps rfl rfl hb5 rfl rfl <| RunL.v (O.pkT (.lit rfl) hb5 (.k rfl)) rfl rfl (.yb rfl rfl hb4) <| RunL.v (O.pkT (.lit rfl) hb4 (.lit rfl)) rfl rfl (.yb rfl rfl hb3) <| Rv (O.pkF (.lit rfl) hb3 (.lit rfl)) <| Rv (O.mv (.lit rfl)) <| RunL.ps rfl rfl rfl rfl rfl <| RunL.ps rfl rfl rfl rfl rfl <| RunL.ps rfl rfl rfl rfl rfl <| RunL.ps rfl rfl rfl rfl rfl <| RunL.pu rfl rfl rfl rfl <| RunL.pu rfl rfl rfl rfl <| RunL.pu rfl rfl rfl rfl <| RunL.ps rfl rfl rfl rfl rfl <| Rv (O.pkT (.lit rfl) rfl (.k rfl)) <| Rv (O.mv (.lit rfl)) <| RunL.ps rfl rfl rfl rfl rfl <| RunL.ps rfl rfl rfl rfl rfl <| RunL.ps rfl rfl rfl rfl rfl <| RunL.ps rfl rfl rfl rfl rfl <| RunL.pu rfl rfl rfl rfl <| RunL.pu rfl rfl rfl rfl <| RunL.pu rfl rfl rfl rfl <| RunL.pu rfl rfl rfl rfl <| RunL.ps rfl rfl rfl rfl rfl <| Rv (O.pkT (.lit rfl) rfl (.k rfl)) <| RunL.fin (.n rfl (.n rfl .nil))
            · refine RunL.v (O.fO rfl (.obj rfl) fd89_1 rfl) rfl rfl (.yb rfl rfl hb5) <| RunL.v (O.ldO (y := SS a0.Tag) rfl (.ptr rfl) ct9 rfl rfl) rfl rfl (.yb rfl rfl hb5) <| RunL.v (O.neS (.lit rfl) (.k rfl)) rfl rfl (.yb rfl rfl hb5) <| RunL.v (O.pkF (.lit rfl) hb5 (.lit rfl)) rfl rfl (.yb rfl rfl hb4) <| RunL.v (O.pkT (.lit rfl) hb4 (.lit rfl)) rfl rfl (.yb rfl rfl hb3) <| Rv (O.pkF (.lit rfl) hb3 (.lit rfl)) <| Rv (O.mv (.lit rfl)) ?_
              rcases cnd hj with ⟨hb6, hj⟩ | ⟨hb6, hj⟩
              · obtain rfl := sm hj
                exact RunL.ps rfl rfl hb6 rfl rfl <| RunL.ps rfl rfl hb6 rfl rfl <| RunL.ps rfl rfl hb6 rfl rfl <| RunL.ps rfl rfl hb6 rfl rfl <| RunL.pu rfl rfl rfl rfl <| RunL.pu rfl rfl rfl rfl <| RunL.pu rfl rfl rfl rfl <| RunL.ps rfl rfl hb6 rfl rfl <| Rv (O.pkT (.lit rfl) hb6 (.k rfl)) <| Rv (O.mv (.lit rfl)) <| RunL.ps rfl rfl rfl rfl rfl <| RunL.ps rfl rfl rfl rfl rfl <| RunL.ps rfl rfl rfl rfl rfl <| RunL.ps rfl rfl rfl rfl rfl <| RunL.pu rfl rfl rfl rfl <| RunL.pu rfl rfl rfl rfl <| RunL.pu rfl rfl rfl rfl <| RunL.pu rfl rfl rfl rfl <| RunL.ps rfl rfl rfl rfl rfl <| Rv (O.pkT (.lit rfl) rfl (.k rfl)) <| RunL.fin (.n rfl (.n rfl .nil))
              · refine RunL.v (O.fO rfl (.obj rfl) fd89_0 rfl) rfl rfl (.yb rfl rfl hb6) <| RunL.v (O.ldO (y := I64 a0.Kind) rfl (.ptr rfl) ct3 rfl rfl) rfl rfl (.yb rfl rfl hb6) <| RunL.v (O.eql (.lit rfl) (.k rfl)) rfl rfl (.yb rfl rfl hb6) <| RunL.v (O.mv (.lit rfl)) rfl rfl (.yb rfl rfl hb6) ?_
                rcases cnd hj with ⟨hb7, hj⟩ | ⟨hb7, hj⟩
                · refine RunL.v (O.fO rfl (.obj rfl) fd89_1 rfl) rfl rfl (.yb rfl rfl hb7) <| RunL.v (O.ldO (y := SS a0.Tag) rfl (.ptr rfl) ct9 rfl rfl) rfl rfl (.yb rfl rfl hb7) <| RunL.v (O.eqS (.lit rfl) (.k rfl)) rfl rfl (.yb rfl rfl hb7) <| RunL.v (O.pkT (.lit rfl) hb7 (.lit rfl)) rfl rfl (.yb rfl rfl hb6) <| Rv (O.pkF (.lit rfl) hb6 (.lit rfl)) <| Rv (O.mv (.lit rfl)) ?_
                  rcases cnd hj with ⟨hb8, hj⟩ | ⟨hb8, hj⟩
                  · obtain rfl := sm hj
                    exact RunL.ps rfl rfl hb8 rfl rfl <| RunL.ps rfl rfl hb8 rfl rfl <| RunL.ps rfl rfl hb8 rfl rfl <| RunL.ps rfl rfl hb8 rfl rfl <| RunL.pu rfl rfl rfl rfl <| RunL.pu rfl rfl rfl rfl <| RunL.pu rfl rfl rfl rfl <| RunL.pu rfl rfl rfl rfl <| RunL.ps rfl rfl hb8 rfl rfl <| Rv (O.pkT (.lit rfl) hb8 (.k rfl)) <| RunL.fin (.n rfl (.n rfl .nil))
                  · obtain rfl := sm hj
                    exact RunL.v (O.fO rfl (.obj rfl) fd89_1 rfl) rfl rfl (.yb rfl rfl hb8) <| RunL.v (O.ldO (y := SS a0.Tag) rfl (.ptr rfl) ct9 rfl rfl) rfl rfl (.yb rfl rfl hb8) <| RunL.v (O.neS (.lit rfl) (.k rfl)) rfl rfl (.yb rfl rfl hb8) <| RunL.v (O.mv (.lit rfl)) rfl rfl (.yb rfl rfl hb8) <| RunL.ps rfl rfl hb6 rfl rfl <| RunL.ps rfl rfl hb6 rfl rfl <| RunL.ps rfl rfl hb6 rfl rfl <| RunL.ps rfl rfl hb6 rfl rfl <| RunL.v (O.pkF (.lit rfl) hb6 (.k rfl)) rfl rfl (.yb rfl rfl hb8) <| Rv (O.pkF (.lit rfl) hb8 (.lit rfl)) <| RunL.fin (.n rfl (.n rfl .nil))
                · obtain rfl := sm hj
                  exact RunL.ps rfl rfl hb7 rfl rfl <| RunL.ps rfl rfl hb7 rfl rfl <| RunL.ps rfl rfl hb7 rfl rfl <| RunL.v (O.pkF (.lit rfl) hb7 (.k rfl)) rfl rfl (.yb rfl rfl hb6) <| Rv (O.pkF (.lit rfl) hb6 (.lit rfl)) <| Rv (O.mv (.lit rfl)) <| RunL.v (O.fO rfl (.obj rfl) fd89_1 rfl) rfl rfl (.yb rfl rfl rfl) <| RunL.v (O.ldO (y := SS a0.Tag) rfl (.ptr rfl) ct9 rfl rfl) rfl rfl (.yb rfl rfl rfl) <| RunL.v (O.neS (.lit rfl) (.k rfl)) rfl rfl (.yb rfl rfl rfl) <| RunL.v (O.mv (.lit rfl)) rfl rfl (.yb rfl rfl rfl) <| RunL.ps rfl rfl hb6 rfl rfl <| RunL.ps rfl rfl hb6 rfl rfl <| RunL.ps rfl rfl hb6 rfl rfl <| RunL.ps rfl rfl hb6 rfl rfl <| RunL.v (O.pkF (.lit rfl) hb6 (.k rfl)) rfl rfl (.yb rfl rfl rfl) <| Rv (O.pkF (.lit rfl) rfl (.lit rfl)) <| RunL.fin (.n rfl (.n rfl .nil))
          · refine RunL.ps rfl rfl hb4 rfl rfl <| RunL.ps rfl rfl hb4 rfl rfl <| RunL.ps rfl rfl hb4 rfl rfl <| RunL.ps rfl rfl hb4 rfl rfl <| RunL.ps rfl rfl hb4 rfl rfl <| RunL.pu rfl rfl rfl rfl <| RunL.pu rfl rfl rfl rfl <| RunL.pu rfl rfl rfl rfl <| RunL.ps rfl rfl hb4 rfl rfl <| RunL.v (O.pkF (.lit rfl) hb4 (.k rfl)) rfl rfl (.yb rfl rfl hb3) <| Rv (O.pkF (.lit rfl) hb3 (.lit rfl)) <| Rv (O.mv (.lit rfl)) <| RunL.v (O.fO rfl (.obj rfl) fd89_0 rfl) rfl rfl (.yb rfl rfl rfl) <| RunL.v (O.ldO (y := I64 a0.Kind) rfl (.ptr rfl) ct3 rfl rfl) rfl rfl (.yb rfl rfl rfl) <| RunL.v (O.eql (.lit rfl) (.k rfl)) rfl rfl (.yb rfl rfl rfl) <| RunL.v (O.mv (.lit rfl)) rfl rfl (.yb rfl rfl rfl) ?_
            rcases cnd hj with ⟨hb9, hj⟩ | ⟨hb9, hj⟩
            · refine RunL.v (O.fO rfl (.obj rfl) fd89_1 rfl) rfl rfl (.yb rfl rfl hb9) <| RunL.v (O.ldO (y := SS a0.Tag) rfl (.ptr rfl) ct9 rfl rfl) rfl rfl (.yb rfl rfl hb9) <| RunL.v (O.eqS (.lit rfl) (.k rfl)) rfl rfl (.yb rfl rfl hb9) <| RunL.v (O.pkT (.lit rfl) hb9 (.lit rfl)) rfl rfl (.yb rfl rfl rfl) <| Rv (O.pkF (.lit rfl) rfl (.lit rfl)) <| Rv (O.mv (.lit rfl)) ?_
              rcases cnd hj with ⟨hb10, hj⟩ | ⟨hb10, hj⟩
              · obtain rfl := sm hj
                exact RunL.ps rfl rfl hb10 rfl rfl <| RunL.ps rfl rfl hb10 rfl rfl <| RunL.ps rfl rfl hb10 rfl rfl <| RunL.ps rfl rfl hb10 rfl rfl <| RunL.pu rfl rfl rfl rfl <| RunL.pu rfl rfl rfl rfl <| RunL.pu rfl rfl rfl rfl <| RunL.pu rfl rfl rfl rfl <| RunL.ps rfl rfl hb10 rfl rfl <| Rv (O.pkT (.lit rfl) hb10 (.k rfl)) <| RunL.fin (.n rfl (.n rfl .nil))
              · refine RunL.v (O.fO rfl (.obj rfl) fd89_1 rfl) rfl rfl (.yb rfl rfl hb10) <| RunL.v (O.ldO (y := SS a0.Tag) rfl (.ptr rfl) ct9 rfl rfl) rfl rfl (.yb rfl rfl hb10) <| RunL.v (O.neS (.lit rfl) (.k rfl)) rfl rfl (.yb rfl rfl hb10) <| RunL.v (O.mv (.lit rfl)) rfl rfl (.yb rfl rfl hb10) ?_
                rcases cnd hj with ⟨hb11, hj⟩ | ⟨hb11, hj⟩
                · refine RunL.v (O.fO rfl (.obj rfl) fd89_1 rfl) rfl rfl (.yb rfl rfl hb11) <| RunL.v (O.ldO (y := SS a0.Tag) rfl (.ptr rfl) ct9 rfl rfl) rfl rfl (.yb rfl rfl hb11) ?_
                  obtain ⟨x12, hx12, hj⟩ := bnd hj
                  obtain rfl := sm hj
                  exact RunL.c (PC.go (.cc (.lit rfl) .nil) (con79 a0.Tag _ hx12) call79 rfl) rfl rfl (.yb rfl rfl hb11) <| RunL.v (O.not (.lit rfl)) rfl rfl (.yb rfl rfl hb11) <| RunL.v (O.pkT (.lit rfl) hb11 (.lit rfl)) rfl rfl (.yb rfl rfl hb10) <| Rv (O.pkF (.lit rfl) hb10 (.lit rfl)) <| RunL.fin (.n rfl (.n rfl .nil))
                · obtain rfl := sm hj
                  exact RunL.ps rfl rfl hb11 rfl rfl <| RunL.ps rfl rfl hb11 rfl rfl <| RunL.ps rfl rfl hb11 rfl rfl <| RunL.ps rfl rfl hb11 rfl rfl <| RunL.v (O.pkF (.lit rfl) hb11 (.k rfl)) rfl rfl (.yb rfl rfl hb10) <| Rv (O.pkF (.lit rfl) hb10 (.lit rfl)) <| RunL.fin (.n rfl (.n rfl .nil))
            · refine RunL.ps rfl rfl hb9 rfl rfl <| RunL.ps rfl rfl hb9 rfl rfl <| RunL.ps rfl rfl hb9 rfl rfl <| RunL.v (O.pkF (.lit rfl) hb9 (.k rfl)) rfl rfl (.yb rfl rfl rfl) <| Rv (O.pkF (.lit rfl) rfl (.lit rfl)) <| Rv (O.mv (.lit rfl)) <| RunL.v (O.fO rfl (.obj rfl) fd89_1 rfl) rfl rfl (.yb rfl rfl rfl) <| RunL.v (O.ldO (y := SS a0.Tag) rfl (.ptr rfl) ct9 rfl rfl) rfl rfl (.yb rfl rfl rfl) <| RunL.v (O.neS (.lit rfl) (.k rfl)) rfl rfl (.yb rfl rfl rfl) <| RunL.v (O.mv (.lit rfl)) rfl rfl (.yb rfl rfl rfl) ?_
              rcases cnd hj with ⟨hb13, hj⟩ | ⟨hb13, hj⟩
              · refine RunL.v (O.fO rfl (.obj rfl) fd89_1 rfl) rfl rfl (.yb rfl rfl hb13) <| RunL.v (O.ldO (y := SS a0.Tag) rfl (.ptr rfl) ct9 rfl rfl) rfl rfl (.yb rfl rfl hb13) ?_
                obtain ⟨x14, hx14, hj⟩ := bnd hj
                obtain rfl := sm hj
                exact RunL.c (PC.go (.cc (.lit rfl) .nil) (con79 a0.Tag _ hx14) call79 rfl) rfl rfl (.yb rfl rfl hb13) <| RunL.v (O.not (.lit rfl)) rfl rfl (.yb rfl rfl hb13) <| RunL.v (O.pkT (.lit rfl) hb13 (.lit rfl)) rfl rfl (.yb rfl rfl rfl) <| Rv (O.pkF (.lit rfl) rfl (.lit rfl)) <| RunL.fin (.n rfl (.n rfl .nil))
              · obtain rfl := sm hj
                exact RunL.ps rfl rfl hb13 rfl rfl <| RunL.ps rfl rfl hb13 rfl rfl <| RunL.ps rfl rfl hb13 rfl rfl <| RunL.ps rfl rfl hb13 rfl rfl <| RunL.v (O.pkF (.lit rfl) hb13 (.k rfl)) rfl rfl (.yb rfl rfl rfl) <| Rv (O.pkF (.lit rfl) rfl (.lit rfl)) <| RunL.fin (.n rfl (.n rfl .nil))
  refine Px.sq ?_
  refine W.cnd rfl (fun hb16 => ?_) (fun hb16 => ?_)
  · replace h := cndT hb16 h
    refine W.sq' ?_
    refine W.rx [(2, _)] (Rv (O.as (.k rfl)) <| RunL.fin (.n rfl .nil)) ?_
    refine Px.sq ?_
    refine W.rt ?_
    refine Px.sqR ?_
    obtain rfl := sm h
    exact Px.fin (Fin.ro (.f rfl rfl .nil) rfl (of_decide_eq_true (by kernel_rfl)) (.no .nil) rfl (.inr rfl))
  · replace h := cndF hb16 h
    refine W.sk ?_
    refine Px.sq ?_
    refine W.sq' ?_
    refine W.sq' ?_
    refine W.rx [(1, _), (3, _)] (Rv (O.as (.k rfl)) <| RunL.fin (.n rfl (.n rfl .nil))) ?_
    refine Px.sq ?_
    refine W.bk ?_
    obtain ⟨x18, hl, h⟩ := bnd h
    refine W.tr (G1 := [(1, .obj [I64 a0.Kind, SS a0.Tag, iR eSym a0.Syms, I64 a0.At]), (3, I64 0)]) (.n rfl (.n rfl .nil)) ?_
    refine W.lp2 (s := 0) (fun (s17 : Int) => [(1, .obj [I64 a0.Kind, SS a0.Tag, iR eSym a0.Syms, I64 a0.At]), (3, I64 s17)]) 0 (fun (x19 : Unit) => []) (fun (x20 : Bool) => [(2, BB x20)]) hl (fun s17 o h => ?_) (fun x19 hx => ?_) (fun x20 hx => ?_)
    · clear hl
      refine W.sq' ?_
      refine W.sq' ?_
      refine W.rx [(1, _), (3, _), (59, _)] (Rv (O.mv (.lit rfl)) <| Rv (O.fO rfl (.obj rfl) fd89_2 rfl) <| Rv (O.ldO (y := iR eSym a0.Syms) rfl (.ptr rfl) ct87 rfl rfl) <| Rv (O.lenI (.imm rfl) sl87) <| Rv (O.lss (.lit rfl) (.lit rfl)) <| RunL.fin (.n rfl (.n rfl (.n rfl .nil)))) ?_
      refine Px.sq ?_
      refine W.cnd rfl (fun hb21 => ?_) (fun hb21 => ?_)
      · replace h := cndT hb21 h
        refine W.sk ?_
        refine Px.sq ?_
        refine W.sq' ?_
        refine W.bk ?_
        refine W.sq' ?_
        obtain ⟨x22, hx22, h⟩ := bnd h
        obtain ⟨x23, hx23, h⟩ := bnd h
        refine W.rd [[], [0], [], [0, 1, 2], [0, 1, 2, 3], [], [5], [5, 6], [], [8], [8, 9], rn 0 11 [], rn 0 12 []] [(1, _), (3, _), (74, _)] mixo (by kernel_rfl) (Dv 0 (O.fO rfl (.obj rfl) fd89_2 rfl) <| Dv 1 (O.ldO (y := iR eSym a0.Syms) rfl (.ptr rfl) ct87 rfl rfl) <| Dv 2 (O.mv (.lit rfl)) <| Dv 3 (O.ixI (.imm rfl) (.lit rfl) sl87 hx22) <| Dv 4 (O.ldIN (cs' := [SS x22.Name, BB x22.Lit, I64 x22.Num, I64 x22.At]) (.iptr rfl) at91 rfl rfl) <| Dv 5 (O.fO rfl (.obj rfl) fd89_0 rfl) <| Dv 6 (O.ldO (y := I64 a0.Kind) rfl (.ptr rfl) ct3 rfl rfl) <| Dv 7 (O.eql (.lit rfl) (.k rfl)) <| Dv 8 (O.fO rfl (.obj rfl) fd89_0 rfl) <| Dv 9 (O.ldO (y := I64 a0.Kind) rfl (.ptr rfl) ct3 rfl rfl) <| Dv 10 (O.lss (.lit rfl) (.k rfl)) <| Dc 11 (PC.go (.cc (.aggF rfl rfl) (.cc (.lit rfl) (.cc (.lit rfl) .nil))) (con90 x22 (decide (a0.Kind = 1)) (decide (a0.Kind < 5)) _ hx23) call90 rfl) <| Dv 12 (O.not (.lit rfl)) <| DL.fin rfl rfl rfl (.n rfl (.n rfl (.n rfl .nil)))) ?_
        refine Px.sq ?_
        refine W.cnd rfl (fun hb24 => ?_) (fun hb24 => ?_)
        · replace h := cndT hb24 h
          refine W.sq' ?_
          refine W.rx [(2, _)] (Rv (O.as (.k rfl)) <| RunL.fin (.n rfl .nil)) ?_
          refine Px.sq ?_
          refine W.rt ?_
          refine Px.bkR ?_
          refine Px.sqR ?_
          obtain rfl := sm h
          exact Px.r2 (.n rfl .nil)
        · replace h := cndF hb24 h
          refine W.sk ?_
          refine Px.bk ?_
          refine Px.sq ?_
          refine W.rx [(1, _), (3, _)] (Rv (O.mv (.lit rfl)) <| Rv (O.add (.lit rfl) (.k rfl)) <| RunL.re (G1 := [(1, .obj [I64 a0.Kind, SS a0.Tag, iR eSym a0.Syms, I64 a0.At]), (61, I64 (w64 (s17 + 1)))]) (.n rfl (.n rfl .nil)) <| Rv (O.as (.lit rfl)) <| RunL.fin (.n rfl (.n rfl .nil))) ?_
          obtain rfl := sm h
          exact Px.go (.n rfl (.n rfl .nil))
      · replace h := cndF hb21 h
        refine W.xi ?_
        refine Px.sqE ?_
        obtain rfl := sm h
        exact Px.x2 .nil
    · subst hx
      refine Px.bkH ?_
      refine Px.sq ?_
      refine W.sq' ?_
      refine W.rx [(2, _)] (Rv (O.as (.k rfl)) <| RunL.fin (.n rfl .nil)) ?_
      refine Px.sq ?_
      refine W.rt ?_
      obtain rfl := sm h
      exact Px.fin (Fin.ro (.f rfl rfl .nil) rfl (of_decide_eq_true (by kernel_rfl)) (.no .nil) rfl (.inr rfl))
    · subst hx
      refine Px.bkR ?_
      refine Px.sqR ?_
      obtain rfl := sm h
      exact Px.fin (Fin.ro (.f rfl rfl .nil) rfl (of_decide_eq_true (by kernel_rfl)) (.no .nil) rfl (.inr rfl))
def pf92 (a0 : Sym) : Option (Bool) :=
 ((bif decide (a0.Name = { data := #[] }) then (bif !a0.Lit then some (decide (a0.Num = 0)) else some false) else some false)).bind fun c3 =>
 some c3
theorem con92 (a0 : Sym) (r : Bool) (h : pf92 a0 = some r) : Con Try.prog 92 [.agg (eSym.cells a0)] [none] (BB r) := by
  unfold pf92 at h
  refine Con.go (N := ⟨16, []⟩) Try.func92 rfl rfl rfl rfl (W.fin ?_)
  refine W.st [(0, .agg (eSym.cells a0))] ?_
  refine W.sq' ?_
  refine W.rx [(1, _)] (Rv (O.box (.aggF rfl rfl) rfl) <| Rv (O.as (.k rfl)) <| RunL.fin (.n rfl .nil)) ?_
  refine Px.sq ?_
  refine W.sq' ?_
  obtain ⟨c3, hj, h⟩ := bnd h
  refine W.rx [(2, BB c3)] ?_ ?_
  · refine Rv (O.fO rfl (.obj rfl) fd91_0 rfl) <| Rv (O.ldO (y := SS a0.Name) rfl (.ptr rfl) ct9 rfl rfl) <| Rv (O.eqS (.lit rfl) (.k rfl)) <| Rv (O.mv (.lit rfl)) ?_
    rcases cnd hj with ⟨hb1, hj⟩ | ⟨hb1, hj⟩
    · refine RunL.v (O.fO rfl (.obj rfl) fd91_1 rfl) rfl rfl (.yb rfl rfl hb1) <| RunL.v (O.ldO (y := BB a0.Lit) rfl (.ptr rfl) ct4 rfl rfl) rfl rfl (.yb rfl rfl hb1) <| RunL.v (O.not (.lit rfl)) rfl rfl (.yb rfl rfl hb1) <| Rv (O.pkT (.lit rfl) hb1 (.lit rfl)) <| Rv (O.mv (.lit rfl)) ?_
      rcases cnd hj with ⟨hb2, hj⟩ | ⟨hb2, hj⟩
      · obtain rfl := sm hj
        exact RunL.v (O.fO rfl (.obj rfl) fd91_2 rfl) rfl rfl (.yb rfl rfl hb2) <| RunL.v (O.ldO (y := I64 a0.Num) rfl (.ptr rfl) ct3 rfl rfl) rfl rfl (.yb rfl rfl hb2) <| RunL.v (O.eql (.lit rfl) (.k rfl)) rfl rfl (.yb rfl rfl hb2) <| Rv (O.pkT (.lit rfl) hb2 (.lit rfl)) <| Rv (O.as (.lit rfl)) <| RunL.fin (.n rfl .nil)
      · obtain rfl := sm hj
        exact RunL.ps rfl rfl hb2 rfl rfl <| RunL.ps rfl rfl hb2 rfl rfl <| RunL.ps rfl rfl hb2 rfl rfl <| Rv (O.pkF (.lit rfl) hb2 (.k rfl)) <| Rv (O.as (.lit rfl)) <| RunL.fin (.n rfl .nil)
    · obtain rfl := sm hj
      exact RunL.ps rfl rfl hb1 rfl rfl <| RunL.ps rfl rfl hb1 rfl rfl <| RunL.ps rfl rfl hb1 rfl rfl <| Rv (O.pkF (.lit rfl) hb1 (.k rfl)) <| Rv (O.mv (.lit rfl)) <| RunL.ps rfl rfl rfl rfl rfl <| RunL.ps rfl rfl rfl rfl rfl <| RunL.ps rfl rfl rfl rfl rfl <| Rv (O.pkF (.lit rfl) rfl (.k rfl)) <| Rv (O.as (.lit rfl)) <| RunL.fin (.n rfl .nil)
  refine Px.sq ?_
  refine W.rt ?_
  obtain rfl := sm h
  exact Px.fin (Fin.ro (.f rfl rfl .nil) rfl (of_decide_eq_true (by kernel_rfl)) (.no .nil) rfl (.inr rfl))
def pf116 (a0 : ByteArray) (a1 : Int) (a2 : ByteArray) : Option (Bool) :=
 ((bif decide ((a2.size : Int) ≤ w64 ((a0.size : Int) - a1)) then ((cutO a0 a1 (w64 (a1 + (a2.size : Int)))).bind fun x2 => some (decide (x2 = a2))) else some false)).bind fun c3 =>
 some c3
theorem con116 (a0 : ByteArray) (a1 : Int) (a2 : ByteArray) (r : Bool) (h : pf116 a0 a1 a2 = some r) : Con Try.prog 116 [SS a0, I64 a1, SS a2] [none, none, none] (BB r) := by
  unfold pf116 at h
  refine Con.go (N := ⟨25, []⟩) Try.func116 rfl rfl rfl rfl (W.fin ?_)
  refine W.st [(0, SS a0), (1, I64 a1), (2, SS a2)] ?_
  refine W.sq' ?_
  refine W.rx [(0, _), (1, _), (2, _)] (Rv (O.as (.k rfl)) <| RunL.fin (.n rfl (.n rfl (.n rfl .nil)))) ?_
  refine Px.sq ?_
  refine W.sq' ?_
  obtain ⟨c3, hj, h⟩ := bnd h
  refine W.rx [(6, BB c3)] ?_ ?_
  · refine Rv (O.mv (.lit rfl)) <| Rv (O.lenS (.lit rfl) st9) <| Rv (O.mv (.lit rfl)) <| Rv (O.sub (.lit rfl) (.lit rfl)) <| Rv (O.mv (.lit rfl)) <| Rv (O.lenS (.lit rfl) st9) <| Rv (O.geq (.lit rfl) (.lit rfl)) <| Rv (O.mv (.lit rfl)) ?_
    rcases cnd hj with ⟨hb1, hj⟩ | ⟨hb1, hj⟩
    · refine RunL.v (O.mv (.lit rfl)) rfl rfl (.yb rfl rfl hb1) <| RunL.v (O.mv (.lit rfl)) rfl rfl (.yb rfl rfl hb1) <| RunL.v (O.mv (.lit rfl)) rfl rfl (.yb rfl rfl hb1) <| RunL.v (O.mv (.lit rfl)) rfl rfl (.yb rfl rfl hb1) <| RunL.v (O.lenS (.lit rfl) st9) rfl rfl (.yb rfl rfl hb1) <| RunL.v (O.add (.lit rfl) (.lit rfl)) rfl rfl (.yb rfl rfl hb1) ?_
      obtain ⟨x2, hx2, hj⟩ := bnd hj
      obtain rfl := sm hj
      exact RunL.v (O.sl (.lit rfl) (.lit rfl) (.lit rfl) st9 hx2) rfl rfl (.yb rfl rfl hb1) <| RunL.v (O.mv (.lit rfl)) rfl rfl (.yb rfl rfl hb1) <| RunL.v (O.eqS (.lit rfl) (.lit rfl)) rfl rfl (.yb rfl rfl hb1) <| Rv (O.pkT (.lit rfl) hb1 (.lit rfl)) <| Rv (O.as (.lit rfl)) <| RunL.fin (.n rfl .nil)
    · obtain rfl := sm hj
      exact RunL.ps rfl rfl hb1 rfl rfl <| RunL.ps rfl rfl hb1 rfl rfl <| RunL.ps rfl rfl hb1 rfl rfl <| RunL.ps rfl rfl hb1 rfl rfl <| RunL.ps rfl rfl hb1 rfl rfl <| RunL.ps rfl rfl hb1 rfl rfl <| RunL.ps rfl rfl hb1 rfl rfl <| RunL.ps rfl rfl hb1 rfl rfl <| RunL.ps rfl rfl hb1 rfl rfl <| Rv (O.pkF (.lit rfl) hb1 (.k rfl)) <| Rv (O.as (.lit rfl)) <| RunL.fin (.n rfl .nil)
  refine Px.sq ?_
  refine W.rt ?_
  obtain rfl := sm h
  exact Px.fin (Fin.ro (.f rfl rfl .nil) rfl (of_decide_eq_true (by kernel_rfl)) (.no (.no (.no .nil))) rfl (.inr rfl))
def pf107 (a0 : ByteArray) (a1 : Int) : Option (Int) :=
 (((bidx a0 a1).bind fun x1 => (bif decide (x1 = 34) then some true else ((bidx a0 a1).bind fun x3 => some (decide (x3 = 39)))))).bind fun c4 =>
 (bif c4 then
 (loopM (R := (Unit) ⊕ (Int)) (fun (s6 : Int) =>
 ((bif decide (s6 < (a0.size : Int)) then ((bidx a0 s6).bind fun x11 => some (!decide (x11 = 10))) else some false)).bind fun c12 =>
 (bif c12 then
 (bidx a0 s6).bind fun x14 =>
 (bidx a0 a1).bind fun x15 =>
 (bif decide (x14 = x15) then
 some (.inr (.inr (w64 (s6 + 1))))
 else
 (bidx a0 s6).bind fun x17 =>
 (bif decide (x17 = 92) then
 ((bif decide (w64 (s6 + 1) < (a0.size : Int)) then ((bidx a0 (w64 (s6 + 1))).bind fun x20 => some (decide (x20 = 10))) else some false)).bind fun c21 =>
 (bif c21 then
 some (.inr (.inr (-1)))
 else
 some (.inl (w64 ((w64 (s6 + 1)) + 1))))
 else
 some (.inl (w64 (s6 + 1)))))
 else
 some (.inr (.inl ())))) (w64 (a1 + 1))).bind fun x7 =>
 (match x7 with
 | .inl x8 =>
 some (-1)
 | .inr x9 =>
 some x9)
 else
 (bidx a0 a1).bind fun x23 =>
 (bif decide (x23 = 96) then
 (loopM (R := (Unit) ⊕ (Int)) (fun (s25 : Int) =>
 (bif decide (s25 < (a0.size : Int)) then
 (bidx a0 s25).bind fun x30 =>
 (bif decide (x30 = 96) then
 some (.inr (.inr (w64 (s25 + 1))))
 else
 some (.inl (w64 (s25 + 1))))
 else
 some (.inr (.inl ())))) (w64 (a1 + 1))).bind fun x26 =>
 (match x26 with
 | .inl x27 =>
 some (-1)
 | .inr x28 =>
 some x28)
 else
 (pf116 a0 a1 ({ data := #[47, 47] })).bind fun x32 =>
 (bif x32 then
 (loopM (R := Int) (fun (s34 : Int) =>
 ((bif decide (s34 < (a0.size : Int)) then ((bidx a0 s34).bind fun x38 => some (!decide (x38 = 10))) else some false)).bind fun c39 =>
 (bif c39 then
 some (.inl (w64 (s34 + 1)))
 else
 some (.inr s34))) a1).bind fun x35 =>
 some x35
 else
 (pf116 a0 a1 ({ data := #[47, 42] })).bind fun x41 =>
 (bif x41 then
 (loopM (R := (Unit) ⊕ (Int)) (fun (s43 : Int) =>
 (bif decide (s43 < (a0.size : Int)) then
 (pf116 a0 s43 ({ data := #[42, 47] })).bind fun x48 =>
 (bif x48 then
 some (.inr (.inr (w64 (s43 + 2))))
 else
 some (.inl (w64 (s43 + 1))))
 else
 some (.inr (.inl ())))) (w64 (a1 + 2))).bind fun x44 =>
 (match x44 with
 | .inl x45 =>
 some (-1)
 | .inr x46 =>
 some x46)
 else
 some a1))))
theorem con107 (a0 : ByteArray) (a1 : Int) (r : Int) (h : pf107 a0 a1 = some r) : Con Try.prog 107 [SS a0, I64 a1] [none, none] (I64 r) := by
  unfold pf107 at h
  refine Con.go (N := ⟨114, []⟩) Try.func107 rfl rfl rfl rfl (W.fin ?_)
  refine W.st [(0, SS a0), (1, I64 a1)] ?_
  refine W.sq' ?_
  refine W.rx [(0, _), (1, _)] (Rv (O.as (.k rfl)) <| RunL.fin (.n rfl (.n rfl .nil))) ?_
  refine Px.sq ?_
  refine W.sq' ?_
  refine W.bk ?_
  refine W.sq' ?_
  obtain ⟨c4, hj, h⟩ := bnd h
  refine W.rx [(0, SS a0), (1, I64 a1), (9, BB c4)] ?_ ?_
  · refine Rv (O.mv (.lit rfl)) <| Rv (O.mv (.lit rfl)) ?_
    obtain ⟨x1, hx1, hj⟩ := bnd hj
    refine Rv (O.at' (.lit rfl) (.lit rfl) st9 hx1) <| Rv (O.eql (.lit rfl) (.k rfl)) <| Rv (O.mv (.lit rfl)) ?_
    rcases cnd hj with ⟨hb2, hj⟩ | ⟨hb2, hj⟩
    · obtain rfl := sm hj
      exact RunL.ps rfl rfl hb2 rfl rfl <| RunL.ps rfl rfl hb2 rfl rfl <| RunL.ps rfl rfl hb2 rfl rfl <| RunL.ps rfl rfl hb2 rfl rfl <| Rv (O.pkT (.lit rfl) hb2 (.k rfl)) <| Rv (O.as (.lit rfl)) <| RunL.fin (.n rfl (.n rfl (.n rfl .nil)))
    · refine RunL.v (O.mv (.lit rfl)) rfl rfl (.yb rfl rfl hb2) <| RunL.v (O.mv (.lit rfl)) rfl rfl (.yb rfl rfl hb2) ?_
      obtain ⟨x3, hx3, hj⟩ := bnd hj
      obtain rfl := sm hj
      exact RunL.v (O.at' (.lit rfl) (.lit rfl) st9 hx3) rfl rfl (.yb rfl rfl hb2) <| RunL.v (O.eql (.lit rfl) (.k rfl)) rfl rfl (.yb rfl rfl hb2) <| Rv (O.pkF (.lit rfl) hb2 (.lit rfl)) <| Rv (O.as (.lit rfl)) <| RunL.fin (.n rfl (.n rfl (.n rfl .nil)))
  refine Px.sq ?_
  refine W.cnd rfl (fun hb5 => ?_) (fun hb5 => ?_)
  · replace h := cndT hb5 h
    refine W.sq' ?_
    refine W.sq' ?_
    refine W.rx [(0, _), (1, _), (5, _)] (Rv (O.mv (.lit rfl)) <| Rv (O.add (.lit rfl) (.k rfl)) <| Rv (O.as (.lit rfl)) <| RunL.fin (.n rfl (.n rfl (.n rfl .nil)))) ?_
    refine Px.sq ?_
    refine W.bk ?_
    obtain ⟨x7, hl, h⟩ := bnd h
    refine W.tr (G1 := [(0, SS a0), (1, I64 a1), (5, I64 (w64 (a1 + 1)))]) (.n rfl (.n rfl (.n rfl .nil))) ?_
    refine W.lp2 (s := w64 (a1 + 1)) (fun (s6 : Int) => [(0, SS a0), (1, I64 a1), (5, I64 s6)]) 1 (fun (x8 : Unit) => []) (fun (x9 : Int) => [(4, I64 x9)]) hl (fun s6 o h => ?_) (fun x8 hx => ?_) (fun x9 hx => ?_)
    · clear hl
      refine W.sq' ?_
      refine W.sq' ?_
      obtain ⟨c12, hj, h⟩ := bnd h
      refine W.rx [(0, SS a0), (1, I64 a1), (5, I64 s6), (31, BB c12)] ?_ ?_
      · refine Rv (O.mv (.lit rfl)) <| Rv (O.mv (.lit rfl)) <| Rv (O.lenS (.lit rfl) st9) <| Rv (O.lss (.lit rfl) (.lit rfl)) <| Rv (O.mv (.lit rfl)) ?_
        rcases cnd hj with ⟨hb10, hj⟩ | ⟨hb10, hj⟩
        · refine RunL.v (O.mv (.lit rfl)) rfl rfl (.yb rfl rfl hb10) <| RunL.v (O.mv (.lit rfl)) rfl rfl (.yb rfl rfl hb10) ?_
          obtain ⟨x11, hx11, hj⟩ := bnd hj
          obtain rfl := sm hj
          exact RunL.v (O.at' (.lit rfl) (.lit rfl) st9 hx11) rfl rfl (.yb rfl rfl hb10) <| RunL.v (O.neq (.lit rfl) (.k rfl)) rfl rfl (.yb rfl rfl hb10) <| Rv (O.pkT (.lit rfl) hb10 (.lit rfl)) <| RunL.fin (.n rfl (.n rfl (.n rfl (.n rfl .nil))))
        · obtain rfl := sm hj
          exact RunL.ps rfl rfl hb10 rfl rfl <| RunL.ps rfl rfl hb10 rfl rfl <| RunL.ps rfl rfl hb10 rfl rfl <| RunL.ps rfl rfl hb10 rfl rfl <| Rv (O.pkF (.lit rfl) hb10 (.k rfl)) <| RunL.fin (.n rfl (.n rfl (.n rfl (.n rfl .nil))))
      refine Px.sq ?_
      refine W.cnd rfl (fun hb13 => ?_) (fun hb13 => ?_)
      · replace h := cndT hb13 h
        refine W.sk ?_
        refine Px.sq ?_
        refine W.sq' ?_
        refine W.bk ?_
        refine W.sq' ?_
        refine W.sq' ?_
        obtain ⟨x14, hx14, h⟩ := bnd h
        obtain ⟨x15, hx15, h⟩ := bnd h
        refine W.rd [[], [], [0, 1], [], [], [3, 4], rn 0 6 []] [(0, _), (1, _), (5, _), (40, _)] mixo (by kernel_rfl) (Dv 0 (O.mv (.lit rfl)) <| Dv 1 (O.mv (.lit rfl)) <| Dv 2 (O.at' (.lit rfl) (.lit rfl) st9 hx14) <| Dv 3 (O.mv (.lit rfl)) <| Dv 4 (O.mv (.lit rfl)) <| Dv 5 (O.at' (.lit rfl) (.lit rfl) st9 hx15) <| Dv 6 (O.eql (.lit rfl) (.lit rfl)) <| DL.fin rfl rfl rfl (.n rfl (.n rfl (.n rfl (.n rfl .nil))))) ?_
        refine Px.sq ?_
        refine W.cnd rfl (fun hb16 => ?_) (fun hb16 => ?_)
        · replace h := cndT hb16 h
          refine W.sq' ?_
          refine W.rx [(4, _)] (Rv (O.mv (.lit rfl)) <| Rv (O.add (.lit rfl) (.k rfl)) <| Rv (O.as (.lit rfl)) <| RunL.fin (.n rfl .nil)) ?_
          refine Px.sq ?_
          refine W.rt ?_
          refine Px.sqR ?_
          refine Px.bkR ?_
          refine Px.sqR ?_
          obtain rfl := sm h
          exact Px.r2 (.n rfl .nil)
        · replace h := cndF hb16 h
          refine W.sk ?_
          refine Px.sq ?_
          refine W.sq' ?_
          obtain ⟨x17, hx17, h⟩ := bnd h
          refine W.rx [(0, _), (1, _), (5, _), (46, _)] (Rv (O.mv (.lit rfl)) <| Rv (O.mv (.lit rfl)) <| Rv (O.at' (.lit rfl) (.lit rfl) st9 hx17) <| Rv (O.eql (.lit rfl) (.k rfl)) <| RunL.fin (.n rfl (.n rfl (.n rfl (.n rfl .nil))))) ?_
          refine Px.sq ?_
          refine W.cnd rfl (fun hb18 => ?_) (fun hb18 => ?_)
          · replace h := cndT hb18 h
            refine W.sq' ?_
            refine W.rx [(0, _), (1, _), (5, _)] (Rv (O.mv (.lit rfl)) <| Rv (O.add (.lit rfl) (.k rfl)) <| RunL.re (G1 := [(0, SS a0), (1, I64 a1), (48, I64 (w64 (s6 + 1)))]) (.n rfl (.n rfl (.n rfl .nil))) <| Rv (O.as (.lit rfl)) <| RunL.fin (.n rfl (.n rfl (.n rfl .nil)))) ?_
            refine Px.sq ?_
            refine W.sq' ?_
            obtain ⟨c21, hj, h⟩ := bnd h
            refine W.rx [(0, SS a0), (1, I64 a1), (5, I64 (w64 (s6 + 1))), (58, BB c21)] ?_ ?_
            · refine Rv (O.mv (.lit rfl)) <| Rv (O.mv (.lit rfl)) <| Rv (O.lenS (.lit rfl) st9) <| Rv (O.lss (.lit rfl) (.lit rfl)) <| Rv (O.mv (.lit rfl)) ?_
              rcases cnd hj with ⟨hb19, hj⟩ | ⟨hb19, hj⟩
              · refine RunL.v (O.mv (.lit rfl)) rfl rfl (.yb rfl rfl hb19) <| RunL.v (O.mv (.lit rfl)) rfl rfl (.yb rfl rfl hb19) ?_
                obtain ⟨x20, hx20, hj⟩ := bnd hj
                obtain rfl := sm hj
                exact RunL.v (O.at' (.lit rfl) (.lit rfl) st9 hx20) rfl rfl (.yb rfl rfl hb19) <| RunL.v (O.eql (.lit rfl) (.k rfl)) rfl rfl (.yb rfl rfl hb19) <| Rv (O.pkT (.lit rfl) hb19 (.lit rfl)) <| RunL.fin (.n rfl (.n rfl (.n rfl (.n rfl .nil))))
              · obtain rfl := sm hj
                exact RunL.ps rfl rfl hb19 rfl rfl <| RunL.ps rfl rfl hb19 rfl rfl <| RunL.ps rfl rfl hb19 rfl rfl <| RunL.ps rfl rfl hb19 rfl rfl <| Rv (O.pkF (.lit rfl) hb19 (.k rfl)) <| RunL.fin (.n rfl (.n rfl (.n rfl (.n rfl .nil))))
            refine Px.sq ?_
            refine W.cnd rfl (fun hb22 => ?_) (fun hb22 => ?_)
            · replace h := cndT hb22 h
              refine W.sq' ?_
              refine W.rx [(4, _)] (Rv (O.as (.k rfl)) <| RunL.fin (.n rfl .nil)) ?_
              refine Px.sq ?_
              refine W.rt ?_
              refine Px.bkR ?_
              refine Px.sqR ?_
              obtain rfl := sm h
              exact Px.r2 (.n rfl .nil)
            · replace h := cndF hb22 h
              refine W.sk ?_
              refine Px.bk ?_
              refine Px.sq ?_
              refine W.rx [(0, _), (1, _), (5, _)] (Rv (O.mv (.lit rfl)) <| Rv (O.add (.lit rfl) (.k rfl)) <| RunL.re (G1 := [(0, SS a0), (1, I64 a1), (33, I64 (w64 ((w64 (s6 + 1)) + 1)))]) (.n rfl (.n rfl (.n rfl .nil))) <| Rv (O.as (.lit rfl)) <| RunL.fin (.n rfl (.n rfl (.n rfl .nil)))) ?_
              obtain rfl := sm h
              exact Px.go (.n rfl (.n rfl (.n rfl .nil)))
          · replace h := cndF hb18 h
            refine W.sk ?_
            refine Px.bk ?_
            refine Px.sq ?_
            refine W.rx [(0, _), (1, _), (5, _)] (Rv (O.mv (.lit rfl)) <| Rv (O.add (.lit rfl) (.k rfl)) <| RunL.re (G1 := [(0, SS a0), (1, I64 a1), (33, I64 (w64 (s6 + 1)))]) (.n rfl (.n rfl (.n rfl .nil))) <| Rv (O.as (.lit rfl)) <| RunL.fin (.n rfl (.n rfl (.n rfl .nil)))) ?_
            obtain rfl := sm h
            exact Px.go (.n rfl (.n rfl (.n rfl .nil)))
      · replace h := cndF hb13 h
        refine W.xi ?_
        refine Px.sqE ?_
        obtain rfl := sm h
        exact Px.x2 .nil
    · subst hx
      refine Px.bkH ?_
      refine Px.sq ?_
      refine W.sq' ?_
      refine W.rx [(4, _)] (Rv (O.as (.k rfl)) <| RunL.fin (.n rfl .nil)) ?_
      refine Px.sq ?_
      refine W.rt ?_
      refine Px.bkR ?_
      refine Px.sqR ?_
      obtain rfl := sm h
      exact Px.fin (Fin.ro (.f rfl rfl .nil) rfl (of_decide_eq_true (by kernel_rfl)) (.no (.no .nil)) rfl (.inr rfl))
    · subst hx
      refine Px.bkR ?_
      refine Px.sqR ?_
      refine Px.bkR ?_
      refine Px.sqR ?_
      obtain rfl := sm h
      exact Px.fin (Fin.ro (.f rfl rfl .nil) rfl (of_decide_eq_true (by kernel_rfl)) (.no (.no .nil)) rfl (.inr rfl))
  · replace h := cndF hb5 h
    refine W.sq' ?_
    obtain ⟨x23, hx23, h⟩ := bnd h
    refine W.rx [(0, _), (1, _), (59, _)] (Rv (O.mv (.lit rfl)) <| Rv (O.mv (.lit rfl)) <| Rv (O.at' (.lit rfl) (.lit rfl) st9 hx23) <| Rv (O.eql (.lit rfl) (.k rfl)) <| Rv (O.as (.lit rfl)) <| RunL.fin (.n rfl (.n rfl (.n rfl .nil)))) ?_
    refine Px.sq ?_
    refine W.cnd rfl (fun hb24 => ?_) (fun hb24 => ?_)
    · replace h := cndT hb24 h
      refine W.sq' ?_
      refine W.sq' ?_
      refine W.rx [(0, _), (6, _)] (Rv (O.mv (.lit rfl)) <| Rv (O.add (.lit rfl) (.k rfl)) <| Rv (O.as (.lit rfl)) <| RunL.fin (.n rfl (.n rfl .nil))) ?_
      refine Px.sq ?_
      refine W.bk ?_
      obtain ⟨x26, hl, h⟩ := bnd h
      refine W.tr (G1 := [(0, SS a0), (6, I64 (w64 (a1 + 1)))]) (.n rfl (.n rfl .nil)) ?_
      refine W.lp2 (s := w64 (a1 + 1)) (fun (s25 : Int) => [(0, SS a0), (6, I64 s25)]) 3 (fun (x27 : Unit) => []) (fun (x28 : Int) => [(4, I64 x28)]) hl (fun s25 o h => ?_) (fun x27 hx => ?_) (fun x28 hx => ?_)
      · clear hl
        refine W.sq' ?_
        refine W.sq' ?_
        refine W.rx [(0, _), (6, _), (69, _)] (Rv (O.mv (.lit rfl)) <| Rv (O.mv (.lit rfl)) <| Rv (O.lenS (.lit rfl) st9) <| Rv (O.lss (.lit rfl) (.lit rfl)) <| RunL.fin (.n rfl (.n rfl (.n rfl .nil)))) ?_
        refine Px.sq ?_
        refine W.cnd rfl (fun hb29 => ?_) (fun hb29 => ?_)
        · replace h := cndT hb29 h
          refine W.sk ?_
          refine Px.sq ?_
          refine W.sq' ?_
          refine W.bk ?_
          refine W.sq' ?_
          obtain ⟨x30, hx30, h⟩ := bnd h
          refine W.rx [(0, _), (6, _), (75, _)] (Rv (O.mv (.lit rfl)) <| Rv (O.mv (.lit rfl)) <| Rv (O.at' (.lit rfl) (.lit rfl) st9 hx30) <| Rv (O.eql (.lit rfl) (.k rfl)) <| RunL.fin (.n rfl (.n rfl (.n rfl .nil)))) ?_
          refine Px.sq ?_
          refine W.cnd rfl (fun hb31 => ?_) (fun hb31 => ?_)
          · replace h := cndT hb31 h
            refine W.sq' ?_
            refine W.rx [(4, _)] (Rv (O.mv (.lit rfl)) <| Rv (O.add (.lit rfl) (.k rfl)) <| Rv (O.as (.lit rfl)) <| RunL.fin (.n rfl .nil)) ?_
            refine Px.sq ?_
            refine W.rt ?_
            refine Px.bkR ?_
            refine Px.sqR ?_
            obtain rfl := sm h
            exact Px.r2 (.n rfl .nil)
          · replace h := cndF hb31 h
            refine W.sk ?_
            refine Px.bk ?_
            refine Px.sq ?_
            refine W.rx [(0, _), (6, _)] (Rv (O.mv (.lit rfl)) <| Rv (O.add (.lit rfl) (.k rfl)) <| RunL.re (G1 := [(0, SS a0), (71, I64 (w64 (s25 + 1)))]) (.n rfl (.n rfl .nil)) <| Rv (O.as (.lit rfl)) <| RunL.fin (.n rfl (.n rfl .nil))) ?_
            obtain rfl := sm h
            exact Px.go (.n rfl (.n rfl .nil))
        · replace h := cndF hb29 h
          refine W.xi ?_
          refine Px.sqE ?_
          obtain rfl := sm h
          exact Px.x2 .nil
      · subst hx
        refine Px.bkH ?_
        refine Px.sq ?_
        refine W.sq' ?_
        refine W.rx [(4, _)] (Rv (O.as (.k rfl)) <| RunL.fin (.n rfl .nil)) ?_
        refine Px.sq ?_
        refine W.rt ?_
        refine Px.bkR ?_
        refine Px.sqR ?_
        obtain rfl := sm h
        exact Px.fin (Fin.ro (.f rfl rfl .nil) rfl (of_decide_eq_true (by kernel_rfl)) (.no (.no .nil)) rfl (.inr rfl))
      · subst hx
        refine Px.bkR ?_
        refine Px.sqR ?_
        refine Px.bkR ?_
        refine Px.sqR ?_
        obtain rfl := sm h
        exact Px.fin (Fin.ro (.f rfl rfl .nil) rfl (of_decide_eq_true (by kernel_rfl)) (.no (.no .nil)) rfl (.inr rfl))
    · replace h := cndF hb24 h
      refine W.sq' ?_
      obtain ⟨x32, hx32, h⟩ := bnd h
      refine W.rx [(0, _), (1, _), (78, _)] (Rv (O.mv (.lit rfl)) <| Rv (O.mv (.lit rfl)) <| Rc (PC.go (.cc (.lit rfl) (.cc (.lit rfl) (.cc (.k rfl) .nil))) (con116 a0 a1 ({ data := #[47, 47] }) _ hx32) call116 rfl) <| Rv (O.as (.lit rfl)) <| RunL.fin (.n rfl (.n rfl (.n rfl .nil)))) ?_
      refine Px.sq ?_
      refine W.cnd rfl (fun hb33 => ?_) (fun hb33 => ?_)
      · replace h := cndT hb33 h
        refine W.sq' ?_
        refine W.rx [(0, _), (7, _)] (Rv (O.mv (.lit rfl)) <| Rv (O.as (.lit rfl)) <| RunL.fin (.n rfl (.n rfl .nil))) ?_
        refine Px.sq ?_
        refine W.sq' ?_
        refine W.bk ?_
        obtain ⟨x35, hl, h⟩ := bnd h
        refine W.tr (G1 := [(0, SS a0), (7, I64 a1)]) (.n rfl (.n rfl .nil)) ?_
        refine W.lp1 (s := a1) (fun (s34 : Int) => [(0, SS a0), (7, I64 s34)]) 5 (fun (x35 : Int) => [(7, I64 x35)]) hl (fun s34 o h => ?_) ?_
        · clear hl
          refine W.sq' ?_
          refine W.sq' ?_
          obtain ⟨c39, hj, h⟩ := bnd h
          refine W.rx [(0, SS a0), (7, I64 s34), (92, BB c39)] ?_ ?_
          · refine Rv (O.mv (.lit rfl)) <| Rv (O.mv (.lit rfl)) <| Rv (O.lenS (.lit rfl) st9) <| Rv (O.lss (.lit rfl) (.lit rfl)) <| Rv (O.mv (.lit rfl)) ?_
            rcases cnd hj with ⟨hb37, hj⟩ | ⟨hb37, hj⟩
            · refine RunL.v (O.mv (.lit rfl)) rfl rfl (.yb rfl rfl hb37) <| RunL.v (O.mv (.lit rfl)) rfl rfl (.yb rfl rfl hb37) ?_
              obtain ⟨x38, hx38, hj⟩ := bnd hj
              obtain rfl := sm hj
              exact RunL.v (O.at' (.lit rfl) (.lit rfl) st9 hx38) rfl rfl (.yb rfl rfl hb37) <| RunL.v (O.neq (.lit rfl) (.k rfl)) rfl rfl (.yb rfl rfl hb37) <| Rv (O.pkT (.lit rfl) hb37 (.lit rfl)) <| RunL.fin (.n rfl (.n rfl (.n rfl .nil)))
            · obtain rfl := sm hj
              exact RunL.ps rfl rfl hb37 rfl rfl <| RunL.ps rfl rfl hb37 rfl rfl <| RunL.ps rfl rfl hb37 rfl rfl <| RunL.ps rfl rfl hb37 rfl rfl <| Rv (O.pkF (.lit rfl) hb37 (.k rfl)) <| RunL.fin (.n rfl (.n rfl (.n rfl .nil)))
          refine Px.sq ?_
          refine W.cnd rfl (fun hb40 => ?_) (fun hb40 => ?_)
          · replace h := cndT hb40 h
            refine W.sk ?_
            refine Px.sq ?_
            refine W.bk ?_
            refine W.rx [(0, _), (7, _)] (Rv (O.mv (.lit rfl)) <| Rv (O.add (.lit rfl) (.k rfl)) <| RunL.re (G1 := [(0, SS a0), (94, I64 (w64 (s34 + 1)))]) (.n rfl (.n rfl .nil)) <| Rv (O.as (.lit rfl)) <| RunL.fin (.n rfl (.n rfl .nil))) ?_
            refine Px.bk ?_
            obtain rfl := sm h
            exact Px.go (.n rfl (.n rfl .nil))
          · replace h := cndF hb40 h
            refine W.xi ?_
            refine Px.sqE ?_
            obtain rfl := sm h
            exact Px.x1 (.n rfl .nil)
        refine Px.bkH ?_
        refine Px.sq ?_
        refine W.sq' ?_
        refine W.rx [(4, _)] (Rv (O.mv (.lit rfl)) <| Rv (O.as (.lit rfl)) <| RunL.fin (.n rfl .nil)) ?_
        refine Px.sq ?_
        refine W.rt ?_
        refine Px.bkR ?_
        refine Px.sqR ?_
        obtain rfl := sm h
        exact Px.fin (Fin.ro (.f rfl rfl .nil) rfl (of_decide_eq_true (by kernel_rfl)) (.no (.no .nil)) rfl (.inr rfl))
      · replace h := cndF hb33 h
        refine W.sq' ?_
        obtain ⟨x41, hx41, h⟩ := bnd h
        refine W.rx [(0, _), (1, _), (96, _)] (Rv (O.mv (.lit rfl)) <| Rv (O.mv (.lit rfl)) <| Rc (PC.go (.cc (.lit rfl) (.cc (.lit rfl) (.cc (.k rfl) .nil))) (con116 a0 a1 ({ data := #[47, 42] }) _ hx41) call116 rfl) <| Rv (O.as (.lit rfl)) <| RunL.fin (.n rfl (.n rfl (.n rfl .nil)))) ?_
        refine Px.sq ?_
        refine W.cnd rfl (fun hb42 => ?_) (fun hb42 => ?_)
        · replace h := cndT hb42 h
          refine W.sq' ?_
          refine W.sq' ?_
          refine W.rx [(0, _), (8, _)] (Rv (O.mv (.lit rfl)) <| Rv (O.add (.lit rfl) (.k rfl)) <| Rv (O.as (.lit rfl)) <| RunL.fin (.n rfl (.n rfl .nil))) ?_
          refine Px.sq ?_
          refine W.bk ?_
          obtain ⟨x44, hl, h⟩ := bnd h
          refine W.tr (G1 := [(0, SS a0), (8, I64 (w64 (a1 + 2)))]) (.n rfl (.n rfl .nil)) ?_
          refine W.lp2 (s := w64 (a1 + 2)) (fun (s43 : Int) => [(0, SS a0), (8, I64 s43)]) 7 (fun (x45 : Unit) => []) (fun (x46 : Int) => [(4, I64 x46)]) hl (fun s43 o h => ?_) (fun x45 hx => ?_) (fun x46 hx => ?_)
          · clear hl
            refine W.sq' ?_
            refine W.sq' ?_
            refine W.rx [(0, _), (8, _), (105, _)] (Rv (O.mv (.lit rfl)) <| Rv (O.mv (.lit rfl)) <| Rv (O.lenS (.lit rfl) st9) <| Rv (O.lss (.lit rfl) (.lit rfl)) <| RunL.fin (.n rfl (.n rfl (.n rfl .nil)))) ?_
            refine Px.sq ?_
            refine W.cnd rfl (fun hb47 => ?_) (fun hb47 => ?_)
            · replace h := cndT hb47 h
              refine W.sk ?_
              refine Px.sq ?_
              refine W.sq' ?_
              refine W.bk ?_
              refine W.sq' ?_
              obtain ⟨x48, hx48, h⟩ := bnd h
              refine W.rx [(0, _), (8, _), (110, _)] (Rv (O.mv (.lit rfl)) <| Rv (O.mv (.lit rfl)) <| Rc (PC.go (.cc (.lit rfl) (.cc (.lit rfl) (.cc (.k rfl) .nil))) (con116 a0 s43 ({ data := #[42, 47] }) _ hx48) call116 rfl) <| RunL.fin (.n rfl (.n rfl (.n rfl .nil)))) ?_
              refine Px.sq ?_
              refine W.cnd rfl (fun hb49 => ?_) (fun hb49 => ?_)
              · replace h := cndT hb49 h
                refine W.sq' ?_
                refine W.rx [(4, _)] (Rv (O.mv (.lit rfl)) <| Rv (O.add (.lit rfl) (.k rfl)) <| Rv (O.as (.lit rfl)) <| RunL.fin (.n rfl .nil)) ?_
                refine Px.sq ?_
                refine W.rt ?_
                refine Px.bkR ?_
                refine Px.sqR ?_
                obtain rfl := sm h
                exact Px.r2 (.n rfl .nil)
              · replace h := cndF hb49 h
                refine W.sk ?_
                refine Px.bk ?_
                refine Px.sq ?_
                refine W.rx [(0, _), (8, _)] (Rv (O.mv (.lit rfl)) <| Rv (O.add (.lit rfl) (.k rfl)) <| RunL.re (G1 := [(0, SS a0), (107, I64 (w64 (s43 + 1)))]) (.n rfl (.n rfl .nil)) <| Rv (O.as (.lit rfl)) <| RunL.fin (.n rfl (.n rfl .nil))) ?_
                obtain rfl := sm h
                exact Px.go (.n rfl (.n rfl .nil))
            · replace h := cndF hb47 h
              refine W.xi ?_
              refine Px.sqE ?_
              obtain rfl := sm h
              exact Px.x2 .nil
          · subst hx
            refine Px.bkH ?_
            refine Px.sq ?_
            refine W.sq' ?_
            refine W.rx [(4, _)] (Rv (O.as (.k rfl)) <| RunL.fin (.n rfl .nil)) ?_
            refine Px.sq ?_
            refine W.rt ?_
            refine Px.bkR ?_
            refine Px.sqR ?_
            obtain rfl := sm h
            exact Px.fin (Fin.ro (.f rfl rfl .nil) rfl (of_decide_eq_true (by kernel_rfl)) (.no (.no .nil)) rfl (.inr rfl))
          · subst hx
            refine Px.bkR ?_
            refine Px.sqR ?_
            refine Px.bkR ?_
            refine Px.sqR ?_
            obtain rfl := sm h
            exact Px.fin (Fin.ro (.f rfl rfl .nil) rfl (of_decide_eq_true (by kernel_rfl)) (.no (.no .nil)) rfl (.inr rfl))
        · replace h := cndF hb42 h
          refine W.sk ?_
          refine Px.bk ?_
          refine Px.sq ?_
          refine W.sq' ?_
          refine W.rx [(4, _)] (Rv (O.mv (.lit rfl)) <| Rv (O.as (.lit rfl)) <| RunL.fin (.n rfl .nil)) ?_
          refine Px.sq ?_
          refine W.rt ?_
          obtain rfl := sm h
          exact Px.fin (Fin.ro (.f rfl rfl .nil) rfl (of_decide_eq_true (by kernel_rfl)) (.no (.no .nil)) rfl (.inr rfl))
def pf93 (a0 : ByteArray) (a1 : Int) : Option (Int) :=
 ((bif decide (a1 < 0) then some true else (bif decide ((a0.size : Int) ≤ a1) then some true else ((bidx a0 a1).bind fun x3 => some (!decide (x3 = 123)))))).bind fun c4 =>
 (bif c4 then
 some (-1)
 else
 (loopM (R := (Unit) ⊕ (Int)) (fun (s6 : Int × Int) =>
 (bif decide (s6.2 < (a0.size : Int)) then
 (pf107 a0 s6.2).bind fun x11 =>
 (bif decide (x11 < 0) then
 some (.inr (.inr (-1)))
 else
 (bif decide (s6.2 < x11) then
 some (.inl (s6.1, x11))
 else
 (bidx a0 s6.2).bind fun x14 =>
 ((bif decide (x14 = 123) then
 some (w64 (s6.1 + 1))
 else
 some s6.1)).bind fun j15 =>
 (bidx a0 s6.2).bind fun x17 =>
 ((bif decide (x17 = 125) then
 some (w64 (j15 - 1))
 else
 some j15)).bind fun j18 =>
 (bif decide (j18 = 0) then
 some (.inr (.inr (w64 (s6.2 + 1))))
 else
 some (.inl (j18, w64 (s6.2 + 1))))))
 else
 some (.inr (.inl ())))) (0, a1)).bind fun x7 =>
 (match x7 with
 | .inl x8 =>
 some (-1)
 | .inr x9 =>
 some x9))
theorem con93 (a0 : ByteArray) (a1 : Int) (r : Int) (h : pf93 a0 a1 = some r) : Con Try.prog 93 [SS a0, I64 a1] [none, none] (I64 r) := by
  unfold pf93 at h
  refine Con.go (N := ⟨53, []⟩) Try.func93 rfl rfl rfl rfl (W.fin ?_)
  refine W.st [(0, SS a0), (1, I64 a1)] ?_
  refine W.sq' ?_
  refine W.rx [(0, _), (1, _)] (Rv (O.as (.k rfl)) <| RunL.fin (.n rfl (.n rfl .nil))) ?_
  refine Px.sq ?_
  refine W.sq' ?_
  refine W.sq' ?_
  obtain ⟨c4, hj, h⟩ := bnd h
  refine W.rx [(0, SS a0), (1, I64 a1), (21, BB c4)] ?_ ?_
  · refine Rv (O.mv (.lit rfl)) <| Rv (O.lss (.lit rfl) (.k rfl)) <| Rv (O.mv (.lit rfl)) ?_
    rcases cnd hj with ⟨hb1, hj⟩ | ⟨hb1, hj⟩
    · obtain rfl := sm hj
      exact RunL.ps rfl rfl hb1 rfl rfl <| RunL.ps rfl rfl hb1 rfl rfl <| RunL.ps rfl rfl hb1 rfl rfl <| RunL.ps rfl rfl hb1 rfl rfl <| Rv (O.pkT (.lit rfl) hb1 (.k rfl)) <| Rv (O.mv (.lit rfl)) <| RunL.ps rfl rfl rfl rfl rfl <| RunL.ps rfl rfl rfl rfl rfl <| RunL.ps rfl rfl rfl rfl rfl <| RunL.ps rfl rfl rfl rfl rfl <| Rv (O.pkT (.lit rfl) rfl (.k rfl)) <| RunL.fin (.n rfl (.n rfl (.n rfl .nil)))
    · refine RunL.v (O.mv (.lit rfl)) rfl rfl (.yb rfl rfl hb1) <| RunL.v (O.mv (.lit rfl)) rfl rfl (.yb rfl rfl hb1) <| RunL.v (O.lenS (.lit rfl) st9) rfl rfl (.yb rfl rfl hb1) <| RunL.v (O.geq (.lit rfl) (.lit rfl)) rfl rfl (.yb rfl rfl hb1) <| Rv (O.pkF (.lit rfl) hb1 (.lit rfl)) <| Rv (O.mv (.lit rfl)) ?_
      rcases cnd hj with ⟨hb2, hj⟩ | ⟨hb2, hj⟩
      · obtain rfl := sm hj
        exact RunL.ps rfl rfl hb2 rfl rfl <| RunL.ps rfl rfl hb2 rfl rfl <| RunL.ps rfl rfl hb2 rfl rfl <| RunL.ps rfl rfl hb2 rfl rfl <| Rv (O.pkT (.lit rfl) hb2 (.k rfl)) <| RunL.fin (.n rfl (.n rfl (.n rfl .nil)))
      · refine RunL.v (O.mv (.lit rfl)) rfl rfl (.yb rfl rfl hb2) <| RunL.v (O.mv (.lit rfl)) rfl rfl (.yb rfl rfl hb2) ?_
        obtain ⟨x3, hx3, hj⟩ := bnd hj
        obtain rfl := sm hj
        exact RunL.v (O.at' (.lit rfl) (.lit rfl) st9 hx3) rfl rfl (.yb rfl rfl hb2) <| RunL.v (O.neq (.lit rfl) (.k rfl)) rfl rfl (.yb rfl rfl hb2) <| Rv (O.pkF (.lit rfl) hb2 (.lit rfl)) <| RunL.fin (.n rfl (.n rfl (.n rfl .nil)))
  refine Px.sq ?_
  refine W.cnd rfl (fun hb5 => ?_) (fun hb5 => ?_)
  · replace h := cndT hb5 h
    refine W.sq' ?_
    refine W.rx [(4, _)] (Rv (O.as (.k rfl)) <| RunL.fin (.n rfl .nil)) ?_
    refine Px.sq ?_
    refine W.rt ?_
    refine Px.sqR ?_
    obtain rfl := sm h
    exact Px.fin (Fin.ro (.f rfl rfl .nil) rfl (of_decide_eq_true (by kernel_rfl)) (.no (.no .nil)) rfl (.inr rfl))
  · replace h := cndF hb5 h
    refine W.sk ?_
    refine Px.sq ?_
    refine W.sq' ?_
    refine W.rx [(0, _), (1, _), (5, _)] (Rv (O.as (.k rfl)) <| RunL.fin (.n rfl (.n rfl (.n rfl .nil)))) ?_
    refine Px.sq ?_
    refine W.sq' ?_
    refine W.sq' ?_
    refine W.rx [(0, _), (5, _), (6, _)] (Rv (O.mv (.lit rfl)) <| Rv (O.as (.lit rfl)) <| RunL.fin (.n rfl (.n rfl (.n rfl .nil)))) ?_
    refine Px.sq ?_
    refine W.bk ?_
    obtain ⟨x7, hl, h⟩ := bnd h
    refine W.tr (G1 := [(0, SS a0), (5, I64 0), (6, I64 a1)]) (.n rfl (.n rfl (.n rfl .nil))) ?_
    refine W.lp2 (s := (0, a1)) (fun (s6 : Int × Int) => [(0, SS a0), (5, I64 s6.1), (6, I64 s6.2)]) 0 (fun (x8 : Unit) => []) (fun (x9 : Int) => [(4, I64 x9)]) hl (fun s6 o h => ?_) (fun x8 hx => ?_) (fun x9 hx => ?_)
    · clear hl
      refine W.sq' ?_
      refine W.sq' ?_
      refine W.rx [(0, _), (5, _), (6, _), (26, _)] (Rv (O.mv (.lit rfl)) <| Rv (O.mv (.lit rfl)) <| Rv (O.lenS (.lit rfl) st9) <| Rv (O.lss (.lit rfl) (.lit rfl)) <| RunL.fin (.n rfl (.n rfl (.n rfl (.n rfl .nil))))) ?_
      refine Px.sq ?_
      refine W.cnd rfl (fun hb10 => ?_) (fun hb10 => ?_)
      · replace h := cndT hb10 h
        refine W.sk ?_
        refine Px.sq ?_
        refine W.bk ?_
        refine W.sq' ?_
        obtain ⟨x11, hx11, h⟩ := bnd h
        refine W.rx [(0, _), (5, _), (6, _), (7, _)] (Rv (O.mv (.lit rfl)) <| Rv (O.mv (.lit rfl)) <| Rc (PC.go (.cc (.lit rfl) (.cc (.lit rfl) .nil)) (con107 a0 s6.2 _ hx11) call107 rfl) <| Rv (O.as (.lit rfl)) <| RunL.fin (.n rfl (.n rfl (.n rfl (.n rfl .nil))))) ?_
        refine Px.sq ?_
        refine W.sq' ?_
        refine W.sq' ?_
        refine W.rx [(0, _), (5, _), (6, _), (7, _), (31, _)] (Rv (O.mv (.lit rfl)) <| Rv (O.lss (.lit rfl) (.k rfl)) <| RunL.fin (.n rfl (.n rfl (.n rfl (.n rfl (.n rfl .nil)))))) ?_
        refine Px.sq ?_
        refine W.cnd rfl (fun hb12 => ?_) (fun hb12 => ?_)
        · replace h := cndT hb12 h
          refine W.sq' ?_
          refine W.rx [(4, _)] (Rv (O.as (.k rfl)) <| RunL.fin (.n rfl .nil)) ?_
          refine Px.sq ?_
          refine W.rt ?_
          refine Px.sqR ?_
          refine Px.bkR ?_
          obtain rfl := sm h
          exact Px.r2 (.n rfl .nil)
        · replace h := cndF hb12 h
          refine W.sk ?_
          refine Px.sq ?_
          refine W.sq' ?_
          refine W.sq' ?_
          refine W.rx [(0, _), (5, _), (6, _), (7, _), (34, _)] (Rv (O.mv (.lit rfl)) <| Rv (O.mv (.lit rfl)) <| Rv (O.gtr (.lit rfl) (.lit rfl)) <| RunL.fin (.n rfl (.n rfl (.n rfl (.n rfl (.n rfl .nil)))))) ?_
          refine Px.sq ?_
          refine W.cnd rfl (fun hb13 => ?_) (fun hb13 => ?_)
          · replace h := cndT hb13 h
            refine W.sq' ?_
            refine W.rx [(0, _), (5, _), (6, _)] (Rv (O.mv (.lit rfl)) <| RunL.re (G1 := [(0, SS a0), (5, I64 s6.1), (35, I64 x11)]) (.n rfl (.n rfl (.n rfl .nil))) <| Rv (O.as (.lit rfl)) <| RunL.fin (.n rfl (.n rfl (.n rfl .nil)))) ?_
            refine Px.sq ?_
            refine W.xi ?_
            refine Px.sqE ?_
            refine Px.bkH ?_
            obtain rfl := sm h
            exact Px.go (.n rfl (.n rfl (.n rfl .nil)))
          · replace h := cndF hb13 h
            refine W.sk ?_
            refine Px.sq ?_
            refine W.sq' ?_
            refine W.sq' ?_
            obtain ⟨x14, hx14, h⟩ := bnd h
            refine W.rx [(0, _), (5, _), (6, _), (39, _)] (Rv (O.mv (.lit rfl)) <| Rv (O.mv (.lit rfl)) <| Rv (O.at' (.lit rfl) (.lit rfl) st9 hx14) <| Rv (O.eql (.lit rfl) (.k rfl)) <| RunL.fin (.n rfl (.n rfl (.n rfl (.n rfl .nil))))) ?_
            refine Px.sq ?_
            obtain ⟨j15, hj, h⟩ := bnd h
            refine W.jn [(0, SS a0), (5, I64 j15), (6, I64 s6.2)] ?_ ?_
            · clear h; have h := hj; clear hj
              refine W.cnd rfl (fun hb16 => ?_) (fun hb16 => ?_)
              · replace h := cndT hb16 h
                refine W.rx [(0, _), (5, _), (6, _)] (Rv (O.mv (.lit rfl)) <| Rv (O.add (.lit rfl) (.k rfl)) <| RunL.re (G1 := [(0, SS a0), (6, I64 s6.2), (41, I64 (w64 (s6.1 + 1)))]) (.n rfl (.n rfl (.n rfl .nil))) <| Rv (O.as (.lit rfl)) <| RunL.fin (.n rfl (.n rfl (.n rfl .nil)))) ?_
                obtain rfl := sm h
                exact Px.jn (.n rfl (.n rfl (.n rfl .nil)))
              · replace h := cndF hb16 h
                refine W.sk ?_
                obtain rfl := sm h
                exact Px.jn (.n rfl (.n rfl (.n rfl .nil)))
            refine Px.sq ?_
            refine W.sq' ?_
            refine W.sq' ?_
            obtain ⟨x17, hx17, h⟩ := bnd h
            refine W.rx [(0, _), (5, _), (6, _), (45, _)] (Rv (O.mv (.lit rfl)) <| Rv (O.mv (.lit rfl)) <| Rv (O.at' (.lit rfl) (.lit rfl) st9 hx17) <| Rv (O.eql (.lit rfl) (.k rfl)) <| RunL.fin (.n rfl (.n rfl (.n rfl (.n rfl .nil))))) ?_
            refine Px.sq ?_
            obtain ⟨j18, hj, h⟩ := bnd h
            refine W.jn [(0, SS a0), (5, I64 j18), (6, I64 s6.2)] ?_ ?_
            · clear h; have h := hj; clear hj
              refine W.cnd rfl (fun hb19 => ?_) (fun hb19 => ?_)
              · replace h := cndT hb19 h
                refine W.rx [(0, _), (5, _), (6, _)] (Rv (O.mv (.lit rfl)) <| Rv (O.sub (.lit rfl) (.k rfl)) <| RunL.re (G1 := [(0, SS a0), (6, I64 s6.2), (47, I64 (w64 (j15 - 1)))]) (.n rfl (.n rfl (.n rfl .nil))) <| Rv (O.as (.lit rfl)) <| RunL.fin (.n rfl (.n rfl (.n rfl .nil)))) ?_
                obtain rfl := sm h
                exact Px.jn (.n rfl (.n rfl (.n rfl .nil)))
              · replace h := cndF hb19 h
                refine W.sk ?_
                obtain rfl := sm h
                exact Px.jn (.n rfl (.n rfl (.n rfl .nil)))
            refine Px.sq ?_
            refine W.sq' ?_
            refine W.rx [(0, _), (5, _), (6, _)] (Rv (O.mv (.lit rfl)) <| Rv (O.add (.lit rfl) (.k rfl)) <| RunL.re (G1 := [(0, SS a0), (5, I64 j18), (49, I64 (w64 (s6.2 + 1)))]) (.n rfl (.n rfl (.n rfl .nil))) <| Rv (O.as (.lit rfl)) <| RunL.fin (.n rfl (.n rfl (.n rfl .nil)))) ?_
            refine Px.sq ?_
            refine W.sq' ?_
            refine W.rx [(0, _), (5, _), (6, _), (51, _)] (Rv (O.mv (.lit rfl)) <| Rv (O.eql (.lit rfl) (.k rfl)) <| RunL.fin (.n rfl (.n rfl (.n rfl (.n rfl .nil))))) ?_
            refine Px.sq ?_
            refine W.cnd rfl (fun hb20 => ?_) (fun hb20 => ?_)
            · replace h := cndT hb20 h
              refine W.sq' ?_
              refine W.rx [(4, _)] (Rv (O.mv (.lit rfl)) <| Rv (O.as (.lit rfl)) <| RunL.fin (.n rfl .nil)) ?_
              refine Px.sq ?_
              refine W.rt ?_
              refine Px.bkR ?_
              obtain rfl := sm h
              exact Px.r2 (.n rfl .nil)
            · replace h := cndF hb20 h
              refine W.sk ?_
              refine Px.bk ?_
              obtain rfl := sm h
              exact Px.go (.n rfl (.n rfl (.n rfl .nil)))
      · replace h := cndF hb10 h
        refine W.xi ?_
        refine Px.sqE ?_
        obtain rfl := sm h
        exact Px.x2 .nil
    · subst hx
      refine Px.bkH ?_
      refine Px.sq ?_
      refine W.sq' ?_
      refine W.rx [(4, _)] (Rv (O.as (.k rfl)) <| RunL.fin (.n rfl .nil)) ?_
      refine Px.sq ?_
      refine W.rt ?_
      obtain rfl := sm h
      exact Px.fin (Fin.ro (.f rfl rfl .nil) rfl (of_decide_eq_true (by kernel_rfl)) (.no (.no .nil)) rfl (.inr rfl))
    · subst hx
      refine Px.bkR ?_
      refine Px.sqR ?_
      obtain rfl := sm h
      exact Px.fin (Fin.ro (.f rfl rfl .nil) rfl (of_decide_eq_true (by kernel_rfl)) (.no (.no .nil)) rfl (.inr rfl))
structure Part where
  Sym : Sym
  Code : ByteArray
  At : Int
  deriving DecidableEq, Inhabited
structure Alt where
  Parts : (List Part)
  Prec : Sym
  At : Int
  deriving DecidableEq, Inhabited
def ePart : En Part := ⟨6, fun x => [SS x.Sym.Name, BB x.Sym.Lit, I64 x.Sym.Num, I64 x.Sym.At, SS x.Code, I64 x.At], fun _ => rfl, fun _ => NRl.nr⟩
instance : Flat ePart := ⟨fun _ => rfl⟩
instance : OOe ePart := ⟨fun x => (inferInstance : OOl [SS x.Sym.Name, BB x.Sym.Lit, I64 x.Sym.Num, I64 x.Sym.At, SS x.Code, I64 x.At])⟩
instance : Tw ePart ePart := ⟨rfl, fun x => (inferInstance : Vws [SS x.Sym.Name, BB x.Sym.Lit, I64 x.Sym.Num, I64 x.Sym.At, SS x.Code, I64 x.At] [SS x.Sym.Name, BB x.Sym.Lit, I64 x.Sym.Num, I64 x.Sym.At, SS x.Code, I64 x.At])⟩
instance {x : Part} : Vws (ePart.cells x) [SS x.Sym.Name, BB x.Sym.Lit, I64 x.Sym.Num, I64 x.Sym.At, SS x.Code, I64 x.At] := (inferInstance : Vws [SS x.Sym.Name, BB x.Sym.Lit, I64 x.Sym.Num, I64 x.Sym.At, SS x.Code, I64 x.At] [SS x.Sym.Name, BB x.Sym.Lit, I64 x.Sym.Num, I64 x.Sym.At, SS x.Code, I64 x.At])
def pf80 (a0 : Alt) : Option (Bool) :=
 (loopM (R := (Unit) ⊕ (Bool)) (fun (s1 : Int) =>
 (bif decide (s1 < (a0.Parts.length : Int)) then
 (idx a0.Parts s1).bind fun x6 =>
 ((bif decide (x6.Code = { data := #[] }) then ((pf90 x6.Sym false true).bind fun x8 => (bif !x8 then some true else (bif !decide (x6.Code = { data := #[] }) then ((pf92 x6.Sym).bind fun x11 => (bif !x11 then some true else ((pf93 x6.Code 0).bind fun x13 => some (!decide (x13 = (x6.Code.size : Int)))))) else some false))) else (bif !decide (x6.Code = { data := #[] }) then ((pf92 x6.Sym).bind fun x15 => (bif !x15 then some true else ((pf93 x6.Code 0).bind fun x17 => some (!decide (x17 = (x6.Code.size : Int)))))) else some false))).bind fun c18 =>
 (bif c18 then
 some (.inr (.inr false))
 else
 some (.inl (w64 (s1 + 1))))
 else
 some (.inr (.inl ())))) 0).bind fun x2 =>
 (match x2 with
 | .inl x3 =>
 (((pf92 a0.Prec).bind fun x20 => (bif x20 then some true else ((pf90 a0.Prec false true).bind fun x22 => some x22)))).bind fun c23 =>
 some c23
 | .inr x4 =>
 some x4)
theorem con80 (a0 : Alt) (r : Bool) (h : pf80 a0 = some r) : Con Try.prog 80 [.agg [iR ePart a0.Parts, SS a0.Prec.Name, BB a0.Prec.Lit, I64 a0.Prec.Num, I64 a0.Prec.At, I64 a0.At]] [none] (BB r) := by
  unfold pf80 at h
  refine Con.go (N := ⟨54, []⟩) Try.func80 rfl rfl rfl rfl (W.fin ?_)
  refine W.st [(0, .agg [iR ePart a0.Parts, SS a0.Prec.Name, BB a0.Prec.Lit, I64 a0.Prec.Num, I64 a0.Prec.At, I64 a0.At])] ?_
  refine W.sq' ?_
  refine W.rx [(1, _)] (Rv (O.box (.aggF rfl rfl) rfl) <| Rv (O.as (.k rfl)) <| RunL.fin (.n rfl .nil)) ?_
  refine Px.sq ?_
  refine W.sq' ?_
  refine W.sq' ?_
  refine W.rx [(1, _), (3, _)] (Rv (O.as (.k rfl)) <| RunL.fin (.n rfl (.n rfl .nil))) ?_
  refine Px.sq ?_
  refine W.bk ?_
  obtain ⟨x2, hl, h⟩ := bnd h
  refine W.tr (G1 := [(1, .obj [iR ePart a0.Parts, SS a0.Prec.Name, BB a0.Prec.Lit, I64 a0.Prec.Num, I64 a0.Prec.At, I64 a0.At]), (3, I64 0)]) (.n rfl (.n rfl .nil)) ?_
  refine W.lp2 (s := 0) (fun (s1 : Int) => [(1, .obj [iR ePart a0.Parts, SS a0.Prec.Name, BB a0.Prec.Lit, I64 a0.Prec.Num, I64 a0.Prec.At, I64 a0.At]), (3, I64 s1)]) 0 (fun (x3 : Unit) => [(1, .obj [iR ePart a0.Parts, SS a0.Prec.Name, BB a0.Prec.Lit, I64 a0.Prec.Num, I64 a0.Prec.At, I64 a0.At])]) (fun (x4 : Bool) => [(2, BB x4)]) hl (fun s1 o h => ?_) (fun x3 hx => ?_) (fun x4 hx => ?_)
  · clear hl
    refine W.sq' ?_
    refine W.sq' ?_
    refine W.rx [(1, _), (3, _), (9, _)] (Rv (O.mv (.lit rfl)) <| Rv (O.fO rfl (.obj rfl) fd98_0 rfl) <| Rv (O.ldO (y := iR ePart a0.Parts) rfl (.ptr rfl) ct96 rfl rfl) <| Rv (O.lenI (.imm rfl) sl96) <| Rv (O.lss (.lit rfl) (.lit rfl)) <| RunL.fin (.n rfl (.n rfl (.n rfl .nil)))) ?_
    refine Px.sq ?_
    refine W.cnd rfl (fun hb5 => ?_) (fun hb5 => ?_)
    · replace h := cndT hb5 h
      refine W.sk ?_
      refine Px.sq ?_
      refine W.sq' ?_
      refine W.bk ?_
      refine W.sq' ?_
      obtain ⟨x6, hx6, h⟩ := bnd h
      refine W.rx [(1, _), (3, _), (4, _)] (Rv (O.fO rfl (.obj rfl) fd98_0 rfl) <| Rv (O.ldO (y := iR ePart a0.Parts) rfl (.ptr rfl) ct96 rfl rfl) <| Rv (O.mv (.lit rfl)) <| Rv (O.ixI (.imm rfl) (.lit rfl) sl96 hx6) <| Rv (O.ldIN (cs' := [SS x6.Sym.Name, BB x6.Sym.Lit, I64 x6.Sym.Num, I64 x6.Sym.At, SS x6.Code, I64 x6.At]) (.iptr rfl) at100 rfl rfl) <| Rv (O.al (cs := [SS ({ data := #[] }), BB false, I64 0, I64 0, SS ({ data := #[] }), I64 0]) ze100 rfl rfl) <| RunL.sO (G2 := [(1, .obj [iR ePart a0.Parts, SS a0.Prec.Name, BB a0.Prec.Lit, I64 a0.Prec.Num, I64 a0.Prec.At, I64 a0.At]), (3, I64 s1), (4, .obj (ePart.cells x6))]) (cs2 := [SS x6.Sym.Name, BB x6.Sym.Lit, I64 x6.Sym.Num, I64 x6.Sym.At, SS x6.Code, I64 x6.At]) rfl (.obj rfl) (.aggF rfl rfl) rfl sz100 rfl rfl rfl rfl (.n rfl rfl (.n rfl rfl (.b rfl .nil))) <| RunL.fin (.n rfl (.n rfl (.n rfl .nil)))) ?_
      refine Px.sq ?_
      refine W.sq' ?_
      obtain ⟨c18, hj, h⟩ := bnd h
      refine W.rd [[], [0], [0, 1], [0, 1, 2], [0, 1, 2, 3], rn 0 5 [], rn 0 6 [], rn 0 7 [], rn 0 8 [], rn 0 9 [], rn 0 10 [], rn 0 11 [], rn 0 12 [], rn 0 13 [], rn 0 14 [], rn 0 15 [], rn 0 16 [], rn 0 17 [], rn 0 18 [], rn 0 19 [], rn 0 20 [], rn 0 21 [], rn 0 19 [], rn 0 19 [22], rn 0 19 [22, 23], rn 0 25 [], rn 0 26 [], rn 0 27 [], rn 0 28 []] [(1, .obj [iR ePart a0.Parts, SS a0.Prec.Name, BB a0.Prec.Lit, I64 a0.Prec.Num, I64 a0.Prec.At, I64 a0.At]), (3, I64 s1), (45, BB c18)] mixo (by kernel_rfl) ?_ ?_
      · refine Dv 0 (O.fO rfl (.obj rfl) fd100_1 rfl) <| Dv 1 (O.ldO (y := SS x6.Code) rfl (.ptr rfl) ct9 rfl rfl) <| Dv 2 (O.eqS (.lit rfl) (.k rfl)) <| Dv 3 (O.mv (.lit rfl)) ?_
        rcases cnd hj with ⟨hb7, hj⟩ | ⟨hb7, hj⟩
        · refine DL.v 4 (O.fO rfl (.obj rfl) fd100_0 rfl) rfl rfl rfl rfl (.yb rfl rfl hb7) <| DL.v 5 (O.ldON (cs' := [SS x6.Sym.Name, BB x6.Sym.Lit, I64 x6.Sym.Num, I64 x6.Sym.At]) rfl (.ptr rfl) at91 rfl rfl) rfl rfl rfl rfl (.yb rfl rfl hb7) ?_
          obtain ⟨x8, hx8, hj⟩ := bnd hj
          refine DL.c 6 (PC.go (.cc (.aggF rfl rfl) (.cc (.k rfl) (.cc (.k rfl) .nil))) (con90 x6.Sym false true _ hx8) call90 rfl) rfl rfl rfl rfl (.yb rfl rfl hb7) <| DL.v 7 (O.not (.lit rfl)) rfl rfl rfl rfl (.yb rfl rfl hb7) <| Dv 8 (O.pkT (.lit rfl) hb7 (.lit rfl)) <| Dv 9 (O.mv (.lit rfl)) ?_
          rcases cnd hj with ⟨hb9, hj⟩ | ⟨hb9, hj⟩
          · obtain rfl := sm hj
            exact DL.ps 10 rfl rfl hb9 rfl rfl rfl rfl <| DL.ps 11 rfl rfl hb9 rfl rfl rfl rfl <| DL.ps 12 rfl rfl hb9 rfl rfl rfl rfl <| DL.ps 13 rfl rfl hb9 rfl rfl rfl rfl <| DL.pu 14 rfl rfl rfl rfl rfl rfl <| DL.pu 15 rfl rfl rfl rfl rfl rfl <| DL.pu 16 rfl rfl rfl rfl rfl rfl <| DL.pu 17 rfl rfl rfl rfl rfl rfl <| DL.pu 18 rfl rfl rfl rfl rfl rfl <| DL.pu 19 rfl rfl rfl rfl rfl rfl <| DL.pu 20 rfl rfl rfl rfl rfl rfl <| DL.pu 21 rfl rfl rfl rfl rfl rfl <| DL.pu 22 rfl rfl rfl rfl rfl rfl <| DL.pu 23 rfl rfl rfl rfl rfl rfl <| DL.pu 24 rfl rfl rfl rfl rfl rfl <| DL.pu 25 rfl rfl rfl rfl rfl rfl <| DL.pu 26 rfl rfl rfl rfl rfl rfl <| DL.ps 27 rfl rfl hb9 rfl rfl rfl rfl <| Dv 28 (O.pkT (.lit rfl) hb9 (.k rfl)) <| DL.fin rfl rfl rfl (.n rfl (.n rfl (.n rfl .nil)))
          · refine DL.v 10 (O.fO rfl (.obj rfl) fd100_1 rfl) rfl rfl rfl rfl (.yb rfl rfl hb9) <| DL.v 11 (O.ldO (y := SS x6.Code) rfl (.ptr rfl) ct9 rfl rfl) rfl rfl rfl rfl (.yb rfl rfl hb9) <| DL.v 12 (O.neS (.lit rfl) (.k rfl)) rfl rfl rfl rfl (.yb rfl rfl hb9) <| DL.v 13 (O.mv (.lit rfl)) rfl rfl rfl rfl (.yb rfl rfl hb9) ?_
            rcases cnd hj with ⟨hb10, hj⟩ | ⟨hb10, hj⟩
            · refine DL.v 14 (O.fO rfl (.obj rfl) fd100_0 rfl) rfl rfl rfl rfl (.yb rfl rfl hb10) <| DL.v 15 (O.ldON (cs' := [SS x6.Sym.Name, BB x6.Sym.Lit, I64 x6.Sym.Num, I64 x6.Sym.At]) rfl (.ptr rfl) at91 rfl rfl) rfl rfl rfl rfl (.yb rfl rfl hb10) ?_
              obtain ⟨x11, hx11, hj⟩ := bnd hj
              refine DL.c 16 (PC.go (.cc (.aggF rfl rfl) .nil) (con92 x6.Sym _ hx11) call92 rfl) rfl rfl rfl rfl (.yb rfl rfl hb10) <| DL.v 17 (O.not (.lit rfl)) rfl rfl rfl rfl (.yb rfl rfl hb10) <| DL.v 18 (O.mv (.lit rfl)) rfl rfl rfl rfl (.yb rfl rfl hb10) ?_
              rcases cnd hj with ⟨hb12, hj⟩ | ⟨hb12, hj⟩
              · obtain rfl := sm hj
                exact DL.ps 19 rfl rfl hb12 rfl rfl rfl rfl <| DL.ps 20 rfl rfl hb12 rfl rfl rfl rfl <| DL.ps 21 rfl rfl hb12 rfl rfl rfl rfl <| DL.ps 22 rfl rfl hb12 rfl rfl rfl rfl <| DL.ps 23 rfl rfl hb12 rfl rfl rfl rfl <| DL.ps 24 rfl rfl hb12 rfl rfl rfl rfl <| DL.ps 25 rfl rfl hb12 rfl rfl rfl rfl <| DL.v 26 (O.pkT (.lit rfl) hb12 (.k rfl)) rfl rfl rfl rfl (.yb rfl rfl hb10) <| DL.v 27 (O.pkT (.lit rfl) hb10 (.lit rfl)) rfl rfl rfl rfl (.yb rfl rfl hb9) <| Dv 28 (O.pkF (.lit rfl) hb9 (.lit rfl)) <| DL.fin rfl rfl rfl (.n rfl (.n rfl (.n rfl .nil)))
              · refine DL.v 19 (O.fO rfl (.obj rfl) fd100_1 rfl) rfl rfl rfl rfl (.yb rfl rfl hb12) <| DL.v 20 (O.ldO (y := SS x6.Code) rfl (.ptr rfl) ct9 rfl rfl) rfl rfl rfl rfl (.yb rfl rfl hb12) ?_
                obtain ⟨x13, hx13, hj⟩ := bnd hj
                obtain rfl := sm hj
                exact DL.c 21 (PC.go (.cc (.lit rfl) (.cc (.k rfl) .nil)) (con93 x6.Code 0 _ hx13) call93 rfl) rfl rfl rfl rfl (.yb rfl rfl hb12) <| DL.v 22 (O.fO rfl (.obj rfl) fd100_1 rfl) rfl rfl rfl rfl (.yb rfl rfl hb12) <| DL.v 23 (O.ldO (y := SS x6.Code) rfl (.ptr rfl) ct9 rfl rfl) rfl rfl rfl rfl (.yb rfl rfl hb12) <| DL.v 24 (O.lenS (.lit rfl) st9) rfl rfl rfl rfl (.yb rfl rfl hb12) <| DL.v 25 (O.neq (.lit rfl) (.lit rfl)) rfl rfl rfl rfl (.yb rfl rfl hb12) <| DL.v 26 (O.pkF (.lit rfl) hb12 (.lit rfl)) rfl rfl rfl rfl (.yb rfl rfl hb10) <| DL.v 27 (O.pkT (.lit rfl) hb10 (.lit rfl)) rfl rfl rfl rfl (.yb rfl rfl hb9) <| Dv 28 (O.pkF (.lit rfl) hb9 (.lit rfl)) <| DL.fin rfl rfl rfl (.n rfl (.n rfl (.n rfl .nil)))
            · obtain rfl := sm hj
              exact DL.ps 14 rfl rfl hb10 rfl rfl rfl rfl <| DL.ps 15 rfl rfl hb10 rfl rfl rfl rfl <| DL.ps 16 rfl rfl hb10 rfl rfl rfl rfl <| DL.ps 17 rfl rfl hb10 rfl rfl rfl rfl <| DL.ps 18 rfl rfl hb10 rfl rfl rfl rfl <| DL.pu 19 rfl rfl rfl rfl rfl rfl <| DL.pu 20 rfl rfl rfl rfl rfl rfl <| DL.pu 21 rfl rfl rfl rfl rfl rfl <| DL.pu 22 rfl rfl rfl rfl rfl rfl <| DL.pu 23 rfl rfl rfl rfl rfl rfl <| DL.pu 24 rfl rfl rfl rfl rfl rfl <| DL.pu 25 rfl rfl rfl rfl rfl rfl <| DL.ps 26 rfl rfl hb10 rfl rfl rfl rfl <| DL.v 27 (O.pkF (.lit rfl) hb10 (.k rfl)) rfl rfl rfl rfl (.yb rfl rfl hb9) <| Dv 28 (O.pkF (.lit rfl) hb9 (.lit rfl)) <| DL.fin rfl rfl rfl (.n rfl (.n rfl (.n rfl .nil)))
        · refine DL.ps 4 rfl rfl hb7 rfl rfl rfl rfl <| DL.ps 5 rfl rfl hb7 rfl rfl rfl rfl <| DL.ps 6 rfl rfl hb7 rfl rfl rfl rfl <| DL.ps 7 rfl rfl hb7 rfl rfl rfl rfl <| Dv 8 (O.pkF (.lit rfl) hb7 (.k rfl)) <| Dv 9 (O.mv (.lit rfl)) <| DL.v 10 (O.fO rfl (.obj rfl) fd100_1 rfl) rfl rfl rfl rfl (.yb rfl rfl rfl) <| DL.v 11 (O.ldO (y := SS x6.Code) rfl (.ptr rfl) ct9 rfl rfl) rfl rfl rfl rfl (.yb rfl rfl rfl) <| DL.v 12 (O.neS (.lit rfl) (.k rfl)) rfl rfl rfl rfl (.yb rfl rfl rfl) <| DL.v 13 (O.mv (.lit rfl)) rfl rfl rfl rfl (.yb rfl rfl rfl) ?_
          rcases cnd hj with ⟨hb14, hj⟩ | ⟨hb14, hj⟩
          · refine DL.v 14 (O.fO rfl (.obj rfl) fd100_0 rfl) rfl rfl rfl rfl (.yb rfl rfl hb14) <| DL.v 15 (O.ldON (cs' := [SS x6.Sym.Name, BB x6.Sym.Lit, I64 x6.Sym.Num, I64 x6.Sym.At]) rfl (.ptr rfl) at91 rfl rfl) rfl rfl rfl rfl (.yb rfl rfl hb14) ?_
            obtain ⟨x15, hx15, hj⟩ := bnd hj
            refine DL.c 16 (PC.go (.cc (.aggF rfl rfl) .nil) (con92 x6.Sym _ hx15) call92 rfl) rfl rfl rfl rfl (.yb rfl rfl hb14) <| DL.v 17 (O.not (.lit rfl)) rfl rfl rfl rfl (.yb rfl rfl hb14) <| DL.v 18 (O.mv (.lit rfl)) rfl rfl rfl rfl (.yb rfl rfl hb14) ?_
            rcases cnd hj with ⟨hb16, hj⟩ | ⟨hb16, hj⟩
            · obtain rfl := sm hj
              exact DL.ps 19 rfl rfl hb16 rfl rfl rfl rfl <| DL.ps 20 rfl rfl hb16 rfl rfl rfl rfl <| DL.ps 21 rfl rfl hb16 rfl rfl rfl rfl <| DL.ps 22 rfl rfl hb16 rfl rfl rfl rfl <| DL.ps 23 rfl rfl hb16 rfl rfl rfl rfl <| DL.ps 24 rfl rfl hb16 rfl rfl rfl rfl <| DL.ps 25 rfl rfl hb16 rfl rfl rfl rfl <| DL.v 26 (O.pkT (.lit rfl) hb16 (.k rfl)) rfl rfl rfl rfl (.yb rfl rfl hb14) <| DL.v 27 (O.pkT (.lit rfl) hb14 (.lit rfl)) rfl rfl rfl rfl (.yb rfl rfl rfl) <| Dv 28 (O.pkF (.lit rfl) rfl (.lit rfl)) <| DL.fin rfl rfl rfl (.n rfl (.n rfl (.n rfl .nil)))
            · refine DL.v 19 (O.fO rfl (.obj rfl) fd100_1 rfl) rfl rfl rfl rfl (.yb rfl rfl hb16) <| DL.v 20 (O.ldO (y := SS x6.Code) rfl (.ptr rfl) ct9 rfl rfl) rfl rfl rfl rfl (.yb rfl rfl hb16) ?_
              obtain ⟨x17, hx17, hj⟩ := bnd hj
              obtain rfl := sm hj
              exact DL.c 21 (PC.go (.cc (.lit rfl) (.cc (.k rfl) .nil)) (con93 x6.Code 0 _ hx17) call93 rfl) rfl rfl rfl rfl (.yb rfl rfl hb16) <| DL.v 22 (O.fO rfl (.obj rfl) fd100_1 rfl) rfl rfl rfl rfl (.yb rfl rfl hb16) <| DL.v 23 (O.ldO (y := SS x6.Code) rfl (.ptr rfl) ct9 rfl rfl) rfl rfl rfl rfl (.yb rfl rfl hb16) <| DL.v 24 (O.lenS (.lit rfl) st9) rfl rfl rfl rfl (.yb rfl rfl hb16) <| DL.v 25 (O.neq (.lit rfl) (.lit rfl)) rfl rfl rfl rfl (.yb rfl rfl hb16) <| DL.v 26 (O.pkF (.lit rfl) hb16 (.lit rfl)) rfl rfl rfl rfl (.yb rfl rfl hb14) <| DL.v 27 (O.pkT (.lit rfl) hb14 (.lit rfl)) rfl rfl rfl rfl (.yb rfl rfl rfl) <| Dv 28 (O.pkF (.lit rfl) rfl (.lit rfl)) <| DL.fin rfl rfl rfl (.n rfl (.n rfl (.n rfl .nil)))
          · obtain rfl := sm hj
            exact DL.ps 14 rfl rfl hb14 rfl rfl rfl rfl <| DL.ps 15 rfl rfl hb14 rfl rfl rfl rfl <| DL.ps 16 rfl rfl hb14 rfl rfl rfl rfl <| DL.ps 17 rfl rfl hb14 rfl rfl rfl rfl <| DL.ps 18 rfl rfl hb14 rfl rfl rfl rfl <| DL.pu 19 rfl rfl rfl rfl rfl rfl <| DL.pu 20 rfl rfl rfl rfl rfl rfl <| DL.pu 21 rfl rfl rfl rfl rfl rfl <| DL.pu 22 rfl rfl rfl rfl rfl rfl <| DL.pu 23 rfl rfl rfl rfl rfl rfl <| DL.pu 24 rfl rfl rfl rfl rfl rfl <| DL.pu 25 rfl rfl rfl rfl rfl rfl <| DL.ps 26 rfl rfl hb14 rfl rfl rfl rfl <| DL.v 27 (O.pkF (.lit rfl) hb14 (.k rfl)) rfl rfl rfl rfl (.yb rfl rfl rfl) <| Dv 28 (O.pkF (.lit rfl) rfl (.lit rfl)) <| DL.fin rfl rfl rfl (.n rfl (.n rfl (.n rfl .nil)))
      refine Px.sq ?_
      refine W.cnd rfl (fun hb19 => ?_) (fun hb19 => ?_)
      · replace h := cndT hb19 h
        refine W.sq' ?_
        refine W.rx [(2, _)] (Rv (O.as (.k rfl)) <| RunL.fin (.n rfl .nil)) ?_
        refine Px.sq ?_
        refine W.rt ?_
        refine Px.bkR ?_
        refine Px.sqR ?_
        obtain rfl := sm h
        exact Px.r2 (.n rfl .nil)
      · replace h := cndF hb19 h
        refine W.sk ?_
        refine Px.bk ?_
        refine Px.sq ?_
        refine W.rx [(1, _), (3, _)] (Rv (O.mv (.lit rfl)) <| Rv (O.add (.lit rfl) (.k rfl)) <| RunL.re (G1 := [(1, .obj [iR ePart a0.Parts, SS a0.Prec.Name, BB a0.Prec.Lit, I64 a0.Prec.Num, I64 a0.Prec.At, I64 a0.At]), (11, I64 (w64 (s1 + 1)))]) (.n rfl (.n rfl .nil)) <| Rv (O.as (.lit rfl)) <| RunL.fin (.n rfl (.n rfl .nil))) ?_
        obtain rfl := sm h
        exact Px.go (.n rfl (.n rfl .nil))
    · replace h := cndF hb5 h
      refine W.xi ?_
      refine Px.sqE ?_
      obtain rfl := sm h
      exact Px.x2 (.n rfl .nil)
  · subst hx
    refine Px.bkH ?_
    refine Px.sq ?_
    refine W.sq' ?_
    obtain ⟨c23, hj, h⟩ := bnd h
    refine W.rx [(2, BB c23)] ?_ ?_
    · refine Rv (O.fO rfl (.obj rfl) fd98_1 rfl) <| Rv (O.ldON (cs' := [SS a0.Prec.Name, BB a0.Prec.Lit, I64 a0.Prec.Num, I64 a0.Prec.At]) rfl (.ptr rfl) at91 rfl rfl) ?_
      obtain ⟨x20, hx20, hj⟩ := bnd hj
      refine Rc (PC.go (.cc (.aggF rfl rfl) .nil) (con92 a0.Prec _ hx20) call92 rfl) <| Rv (O.mv (.lit rfl)) ?_
      rcases cnd hj with ⟨hb21, hj⟩ | ⟨hb21, hj⟩
      · obtain rfl := sm hj
        exact RunL.ps rfl rfl hb21 rfl rfl <| RunL.ps rfl rfl hb21 rfl rfl <| RunL.ps rfl rfl hb21 rfl rfl <| Rv (O.pkT (.lit rfl) hb21 (.k rfl)) <| Rv (O.as (.lit rfl)) <| RunL.fin (.n rfl .nil)
      · refine RunL.v (O.fO rfl (.obj rfl) fd98_1 rfl) rfl rfl (.yb rfl rfl hb21) <| RunL.v (O.ldON (cs' := [SS a0.Prec.Name, BB a0.Prec.Lit, I64 a0.Prec.Num, I64 a0.Prec.At]) rfl (.ptr rfl) at91 rfl rfl) rfl rfl (.yb rfl rfl hb21) ?_
        obtain ⟨x22, hx22, hj⟩ := bnd hj
        obtain rfl := sm hj
        exact RunL.c (PC.go (.cc (.aggF rfl rfl) (.cc (.k rfl) (.cc (.k rfl) .nil))) (con90 a0.Prec false true _ hx22) call90 rfl) rfl rfl (.yb rfl rfl hb21) <| Rv (O.pkF (.lit rfl) hb21 (.lit rfl)) <| Rv (O.as (.lit rfl)) <| RunL.fin (.n rfl .nil)
    refine Px.sq ?_
    refine W.rt ?_
    obtain rfl := sm h
    exact Px.fin (Fin.ro (.f rfl rfl .nil) rfl (of_decide_eq_true (by kernel_rfl)) (.no .nil) rfl (.inr rfl))
  · subst hx
    refine Px.bkR ?_
    refine Px.sqR ?_
    obtain rfl := sm h
    exact Px.fin (Fin.ro (.f rfl rfl .nil) rfl (of_decide_eq_true (by kernel_rfl)) (.no .nil) rfl (.inr rfl))
structure Rule where
  Left : ByteArray
  Alts : (List Alt)
  At : Int
  deriving DecidableEq, Inhabited
structure Source where
  Pro : ByteArray
  Decls : (List Decl)
  Rules : (List Rule)
  Tail : ByteArray
  deriving DecidableEq, Inhabited
def eDecl_0 : En Decl := ⟨4, fun x => [I64 x.Kind, SS x.Tag, iR eSym x.Syms, I64 x.At], fun _ => rfl, fun _ => NRl.nr⟩
instance : Flat eDecl_0 := ⟨fun _ => rfl⟩
instance : Tw eDecl_0 eDecl_0 := ⟨rfl, fun x => (inferInstance : Vws [I64 x.Kind, SS x.Tag, iR eSym x.Syms, I64 x.At] [I64 x.Kind, SS x.Tag, iR eSym x.Syms, I64 x.At])⟩
instance {x : Decl} : Vws (eDecl_0.cells x) [I64 x.Kind, SS x.Tag, iR eSym x.Syms, I64 x.At] := (inferInstance : Vws [I64 x.Kind, SS x.Tag, iR eSym x.Syms, I64 x.At] [I64 x.Kind, SS x.Tag, iR eSym x.Syms, I64 x.At])
def eAlt_0 : En Alt := ⟨6, fun x => [iR ePart x.Parts, SS x.Prec.Name, BB x.Prec.Lit, I64 x.Prec.Num, I64 x.Prec.At, I64 x.At], fun _ => rfl, fun _ => NRl.nr⟩
instance : Flat eAlt_0 := ⟨fun _ => rfl⟩
instance : Tw eAlt_0 eAlt_0 := ⟨rfl, fun x => (inferInstance : Vws [iR ePart x.Parts, SS x.Prec.Name, BB x.Prec.Lit, I64 x.Prec.Num, I64 x.Prec.At, I64 x.At] [iR ePart x.Parts, SS x.Prec.Name, BB x.Prec.Lit, I64 x.Prec.Num, I64 x.Prec.At, I64 x.At])⟩
instance {x : Alt} : Vws (eAlt_0.cells x) [iR ePart x.Parts, SS x.Prec.Name, BB x.Prec.Lit, I64 x.Prec.Num, I64 x.Prec.At, I64 x.At] := (inferInstance : Vws [iR ePart x.Parts, SS x.Prec.Name, BB x.Prec.Lit, I64 x.Prec.Num, I64 x.Prec.At, I64 x.At] [iR ePart x.Parts, SS x.Prec.Name, BB x.Prec.Lit, I64 x.Prec.Num, I64 x.Prec.At, I64 x.At])
def eRule_0 : En Rule := ⟨3, fun x => [SS x.Left, iR eAlt_0 x.Alts, I64 x.At], fun _ => rfl, fun _ => NRl.nr⟩
instance : Flat eRule_0 := ⟨fun _ => rfl⟩
instance : Tw eRule_0 eRule_0 := ⟨rfl, fun x => (inferInstance : Vws [SS x.Left, iR eAlt_0 x.Alts, I64 x.At] [SS x.Left, iR eAlt_0 x.Alts, I64 x.At])⟩
instance {x : Rule} : Vws (eRule_0.cells x) [SS x.Left, iR eAlt_0 x.Alts, I64 x.At] := (inferInstance : Vws [SS x.Left, iR eAlt_0 x.Alts, I64 x.At] [SS x.Left, iR eAlt_0 x.Alts, I64 x.At])
def pf63 (a0 : Source) : Option (Bool) :=
 (loopM (R := (Unit) ⊕ (Bool)) (fun (s1 : Int) =>
 (bif decide (w64 (s1 + 1) < (a0.Pro.size : Int)) then
 (cutO a0.Pro s1 (w64 (s1 + 2))).bind fun x6 =>
 (bif decide (x6 = { data := #[37, 125] }) then
 some (.inr (.inr false))
 else
 some (.inl (w64 (s1 + 1))))
 else
 some (.inr (.inl ())))) 0).bind fun x2 =>
 (match x2 with
 | .inl x3 =>
 (loopM (R := (Unit) ⊕ (Bool)) (fun (s8 : Int) =>
 (bif decide (s8 < (a0.Decls.length : Int)) then
 (idx a0.Decls s8).bind fun x13 =>
 (pf78 x13).bind fun x14 =>
 (bif !x14 then
 some (.inr (.inr false))
 else
 some (.inl (w64 (s8 + 1))))
 else
 some (.inr (.inl ())))) 0).bind fun x9 =>
 (match x9 with
 | .inl x10 =>
 (loopM (R := (Unit) ⊕ (Bool)) (fun (s16 : Int) =>
 (bif decide (s16 < (a0.Rules.length : Int)) then
 (idx a0.Rules s16).bind fun x21 =>
 (((pf79 x21.Left).bind fun x22 => (bif !x22 then some true else some (decide ((x21.Alts.length : Int) = 0))))).bind fun c24 =>
 (bif c24 then
 some (.inr (.inr false))
 else
 (loopM (R := (Unit) ⊕ (Bool)) (fun (s26 : Int) =>
 (bif decide (s26 < (x21.Alts.length : Int)) then
 (idx x21.Alts s26).bind fun x31 =>
 (pf80 x31).bind fun x32 =>
 (bif !x32 then
 some (.inr (.inr false))
 else
 some (.inl (w64 (s26 + 1))))
 else
 some (.inr (.inl ())))) 0).bind fun x27 =>
 (match x27 with
 | .inl x28 =>
 some (.inl (w64 (s16 + 1)))
 | .inr x29 =>
 some (.inr (.inr x29))))
 else
 some (.inr (.inl ())))) 0).bind fun x17 =>
 (match x17 with
 | .inl x18 =>
 some (decide (0 < (a0.Rules.length : Int)))
 | .inr x19 =>
 some x19)
 | .inr x11 =>
 some x11)
 | .inr x4 =>
 some x4)
theorem con63 (a0 : Source) (r : Bool) (h : pf63 a0 = some r) : Con Try.prog 63 [.agg [SS a0.Pro, iR eDecl_0 a0.Decls, iR eRule_0 a0.Rules, SS a0.Tail]] [none] (BB r) := by
  unfold pf63 at h
  refine Con.go (N := ⟨77, []⟩) Try.func63 rfl rfl rfl rfl (W.fin ?_)
  refine W.st [(0, .agg [SS a0.Pro, iR eDecl_0 a0.Decls, iR eRule_0 a0.Rules, SS a0.Tail])] ?_
  refine W.sq' ?_
  refine W.rx [(1, _)] (Rv (O.box (.aggF rfl rfl) rfl) <| Rv (O.as (.k rfl)) <| RunL.fin (.n rfl .nil)) ?_
  refine Px.sq ?_
  refine W.sq' ?_
  refine W.sq' ?_
  refine W.rx [(1, _), (3, _)] (Rv (O.as (.k rfl)) <| RunL.fin (.n rfl (.n rfl .nil))) ?_
  refine Px.sq ?_
  refine W.bk ?_
  obtain ⟨x2, hl, h⟩ := bnd h
  refine W.tr (G1 := [(1, .obj [SS a0.Pro, iR eDecl_0 a0.Decls, iR eRule_0 a0.Rules, SS a0.Tail]), (3, I64 0)]) (.n rfl (.n rfl .nil)) ?_
  refine W.lp2 (s := 0) (fun (s1 : Int) => [(1, .obj [SS a0.Pro, iR eDecl_0 a0.Decls, iR eRule_0 a0.Rules, SS a0.Tail]), (3, I64 s1)]) 0 (fun (x3 : Unit) => [(1, .obj [SS a0.Pro, iR eDecl_0 a0.Decls, iR eRule_0 a0.Rules, SS a0.Tail])]) (fun (x4 : Bool) => [(2, BB x4)]) hl (fun s1 o h => ?_) (fun x3 hx => ?_) (fun x4 hx => ?_)
  · clear hl
    refine W.sq' ?_
    refine W.sq' ?_
    refine W.rx [(1, _), (3, _), (13, _)] (Rv (O.mv (.lit rfl)) <| Rv (O.add (.lit rfl) (.k rfl)) <| Rv (O.fO rfl (.obj rfl) fd25_0 rfl) <| Rv (O.ldO (y := SS a0.Pro) rfl (.ptr rfl) ct9 rfl rfl) <| Rv (O.lenS (.lit rfl) st9) <| Rv (O.lss (.lit rfl) (.lit rfl)) <| RunL.fin (.n rfl (.n rfl (.n rfl .nil)))) ?_
    refine Px.sq ?_
    refine W.cnd rfl (fun hb5 => ?_) (fun hb5 => ?_)
    · replace h := cndT hb5 h
      refine W.sk ?_
      refine Px.sq ?_
      refine W.sq' ?_
      refine W.bk ?_
      refine W.sq' ?_
      obtain ⟨x6, hx6, h⟩ := bnd h
      refine W.rx [(1, _), (3, _), (22, _)] (Rv (O.fO rfl (.obj rfl) fd25_0 rfl) <| Rv (O.ldO (y := SS a0.Pro) rfl (.ptr rfl) ct9 rfl rfl) <| Rv (O.mv (.lit rfl)) <| Rv (O.mv (.lit rfl)) <| Rv (O.add (.lit rfl) (.k rfl)) <| Rv (O.sl (.lit rfl) (.lit rfl) (.lit rfl) st9 hx6) <| Rv (O.eqS (.lit rfl) (.k rfl)) <| RunL.fin (.n rfl (.n rfl (.n rfl .nil)))) ?_
      refine Px.sq ?_
      refine W.cnd rfl (fun hb7 => ?_) (fun hb7 => ?_)
      · replace h := cndT hb7 h
        refine W.sq' ?_
        refine W.rx [(2, _)] (Rv (O.as (.k rfl)) <| RunL.fin (.n rfl .nil)) ?_
        refine Px.sq ?_
        refine W.rt ?_
        refine Px.bkR ?_
        refine Px.sqR ?_
        obtain rfl := sm h
        exact Px.r2 (.n rfl .nil)
      · replace h := cndF hb7 h
        refine W.sk ?_
        refine Px.bk ?_
        refine Px.sq ?_
        refine W.rx [(1, _), (3, _)] (Rv (O.mv (.lit rfl)) <| Rv (O.add (.lit rfl) (.k rfl)) <| RunL.re (G1 := [(1, .obj [SS a0.Pro, iR eDecl_0 a0.Decls, iR eRule_0 a0.Rules, SS a0.Tail]), (15, I64 (w64 (s1 + 1)))]) (.n rfl (.n rfl .nil)) <| Rv (O.as (.lit rfl)) <| RunL.fin (.n rfl (.n rfl .nil))) ?_
        obtain rfl := sm h
        exact Px.go (.n rfl (.n rfl .nil))
    · replace h := cndF hb5 h
      refine W.xi ?_
      refine Px.sqE ?_
      obtain rfl := sm h
      exact Px.x2 (.n rfl .nil)
  · subst hx
    refine Px.bkH ?_
    refine Px.sq ?_
    refine W.sq' ?_
    refine W.sq' ?_
    refine W.rx [(1, _), (4, _)] (Rv (O.as (.k rfl)) <| RunL.fin (.n rfl (.n rfl .nil))) ?_
    refine Px.sq ?_
    refine W.bk ?_
    obtain ⟨x9, hl, h⟩ := bnd h
    refine W.tr (G1 := [(1, .obj [SS a0.Pro, iR eDecl_0 a0.Decls, iR eRule_0 a0.Rules, SS a0.Tail]), (4, I64 0)]) (.n rfl (.n rfl .nil)) ?_
    refine W.lp2 (s := 0) (fun (s8 : Int) => [(1, .obj [SS a0.Pro, iR eDecl_0 a0.Decls, iR eRule_0 a0.Rules, SS a0.Tail]), (4, I64 s8)]) 2 (fun (x10 : Unit) => [(1, .obj [SS a0.Pro, iR eDecl_0 a0.Decls, iR eRule_0 a0.Rules, SS a0.Tail])]) (fun (x11 : Bool) => [(2, BB x11)]) hl (fun s8 o h => ?_) (fun x10 hx => ?_) (fun x11 hx => ?_)
    · clear hl
      refine W.sq' ?_
      refine W.sq' ?_
      refine W.rx [(1, _), (4, _), (27, _)] (Rv (O.mv (.lit rfl)) <| Rv (O.fO rfl (.obj rfl) fd25_1 rfl) <| Rv (O.ldO (y := iR eDecl_0 a0.Decls) rfl (.ptr rfl) ct22 rfl rfl) <| Rv (O.lenI (.imm rfl) sl22) <| Rv (O.lss (.lit rfl) (.lit rfl)) <| RunL.fin (.n rfl (.n rfl (.n rfl .nil)))) ?_
      refine Px.sq ?_
      refine W.cnd rfl (fun hb12 => ?_) (fun hb12 => ?_)
      · replace h := cndT hb12 h
        refine W.sk ?_
        refine Px.sq ?_
        refine W.sq' ?_
        refine W.bk ?_
        refine W.sq' ?_
        obtain ⟨x13, hx13, h⟩ := bnd h
        obtain ⟨x14, hx14, h⟩ := bnd h
        refine W.rx [(1, _), (4, _), (36, _)] (Rv (O.fO rfl (.obj rfl) fd25_1 rfl) <| Rv (O.ldO (y := iR eDecl_0 a0.Decls) rfl (.ptr rfl) ct22 rfl rfl) <| Rv (O.mv (.lit rfl)) <| Rv (O.ixI (.imm rfl) (.lit rfl) sl22 hx13) <| Rv (O.ldIN (cs' := [I64 x13.Kind, SS x13.Tag, iR eSym x13.Syms, I64 x13.At]) (.iptr rfl) at89 rfl rfl) <| Rc (PC.go (.cc (.aggF rfl rfl) .nil) (con78 x13 _ hx14) call78 rfl) <| Rv (O.not (.lit rfl)) <| RunL.fin (.n rfl (.n rfl (.n rfl .nil)))) ?_
        refine Px.sq ?_
        refine W.cnd rfl (fun hb15 => ?_) (fun hb15 => ?_)
        · replace h := cndT hb15 h
          refine W.sq' ?_
          refine W.rx [(2, _)] (Rv (O.as (.k rfl)) <| RunL.fin (.n rfl .nil)) ?_
          refine Px.sq ?_
          refine W.rt ?_
          refine Px.bkR ?_
          refine Px.sqR ?_
          obtain rfl := sm h
          exact Px.r2 (.n rfl .nil)
        · replace h := cndF hb15 h
          refine W.sk ?_
          refine Px.bk ?_
          refine Px.sq ?_
          refine W.rx [(1, _), (4, _)] (Rv (O.mv (.lit rfl)) <| Rv (O.add (.lit rfl) (.k rfl)) <| RunL.re (G1 := [(1, .obj [SS a0.Pro, iR eDecl_0 a0.Decls, iR eRule_0 a0.Rules, SS a0.Tail]), (29, I64 (w64 (s8 + 1)))]) (.n rfl (.n rfl .nil)) <| Rv (O.as (.lit rfl)) <| RunL.fin (.n rfl (.n rfl .nil))) ?_
          obtain rfl := sm h
          exact Px.go (.n rfl (.n rfl .nil))
      · replace h := cndF hb12 h
        refine W.xi ?_
        refine Px.sqE ?_
        obtain rfl := sm h
        exact Px.x2 (.n rfl .nil)
    · subst hx
      refine Px.bkH ?_
      refine Px.sq ?_
      refine W.sq' ?_
      refine W.sq' ?_
      refine W.rx [(1, _), (5, _)] (Rv (O.as (.k rfl)) <| RunL.fin (.n rfl (.n rfl .nil))) ?_
      refine Px.sq ?_
      refine W.bk ?_
      obtain ⟨x17, hl, h⟩ := bnd h
      refine W.tr (G1 := [(1, .obj [SS a0.Pro, iR eDecl_0 a0.Decls, iR eRule_0 a0.Rules, SS a0.Tail]), (5, I64 0)]) (.n rfl (.n rfl .nil)) ?_
      refine W.lp2 (s := 0) (fun (s16 : Int) => [(1, .obj [SS a0.Pro, iR eDecl_0 a0.Decls, iR eRule_0 a0.Rules, SS a0.Tail]), (5, I64 s16)]) 4 (fun (x18 : Unit) => [(1, .obj [SS a0.Pro, iR eDecl_0 a0.Decls, iR eRule_0 a0.Rules, SS a0.Tail])]) (fun (x19 : Bool) => [(2, BB x19)]) hl (fun s16 o h => ?_) (fun x18 hx => ?_) (fun x19 hx => ?_)
      · clear hl
        refine W.sq' ?_
        refine W.sq' ?_
        refine W.rx [(1, _), (5, _), (41, _)] (Rv (O.mv (.lit rfl)) <| Rv (O.fO rfl (.obj rfl) fd25_2 rfl) <| Rv (O.ldO (y := iR eRule_0 a0.Rules) rfl (.ptr rfl) ct23 rfl rfl) <| Rv (O.lenI (.imm rfl) sl23) <| Rv (O.lss (.lit rfl) (.lit rfl)) <| RunL.fin (.n rfl (.n rfl (.n rfl .nil)))) ?_
        refine Px.sq ?_
        refine W.cnd rfl (fun hb20 => ?_) (fun hb20 => ?_)
        · replace h := cndT hb20 h
          refine W.sk ?_
          refine Px.sq ?_
          refine W.sq' ?_
          refine W.bk ?_
          refine W.sq' ?_
          obtain ⟨x21, hx21, h⟩ := bnd h
          refine W.rx [(1, _), (5, _), (6, _)] (Rv (O.fO rfl (.obj rfl) fd25_2 rfl) <| Rv (O.ldO (y := iR eRule_0 a0.Rules) rfl (.ptr rfl) ct23 rfl rfl) <| Rv (O.mv (.lit rfl)) <| Rv (O.ixI (.imm rfl) (.lit rfl) sl23 hx21) <| Rv (O.ldIN (cs' := [SS x21.Left, iR eAlt_0 x21.Alts, I64 x21.At]) (.iptr rfl) at95 rfl rfl) <| Rv (O.al (cs := [SS ({ data := #[] }), .nils, I64 0]) ze95 rfl rfl) <| RunL.sO (G2 := [(1, .obj [SS a0.Pro, iR eDecl_0 a0.Decls, iR eRule_0 a0.Rules, SS a0.Tail]), (5, I64 s16), (6, .obj (eRule_0.cells x21))]) (cs2 := [SS x21.Left, iR eAlt_0 x21.Alts, I64 x21.At]) rfl (.obj rfl) (.aggF rfl rfl) rfl sz95 rfl rfl rfl rfl (.n rfl rfl (.n rfl rfl (.b rfl .nil))) <| RunL.fin (.n rfl (.n rfl (.n rfl .nil)))) ?_
          refine Px.sq ?_
          refine W.sq' ?_
          refine W.sq' ?_
          obtain ⟨c24, hj, h⟩ := bnd h
          refine W.rx [(1, .obj [SS a0.Pro, iR eDecl_0 a0.Decls, iR eRule_0 a0.Rules, SS a0.Tail]), (5, I64 s16), (6, .obj (eRule_0.cells x21)), (58, BB c24)] ?_ ?_
          · refine Rv (O.fO rfl (.obj rfl) fd95_0 rfl) <| Rv (O.ldO (y := SS x21.Left) rfl (.ptr rfl) ct9 rfl rfl) ?_
            obtain ⟨x22, hx22, hj⟩ := bnd hj
            refine Rc (PC.go (.cc (.lit rfl) .nil) (con79 x21.Left _ hx22) call79 rfl) <| Rv (O.not (.lit rfl)) <| Rv (O.mv (.lit rfl)) ?_
            rcases cnd hj with ⟨hb23, hj⟩ | ⟨hb23, hj⟩
            · obtain rfl := sm hj
              exact RunL.ps rfl rfl hb23 rfl rfl <| RunL.ps rfl rfl hb23 rfl rfl <| RunL.ps rfl rfl hb23 rfl rfl <| RunL.ps rfl rfl hb23 rfl rfl <| Rv (O.pkT (.lit rfl) hb23 (.k rfl)) <| RunL.fin (.n rfl (.n rfl (.n rfl (.n rfl .nil))))
            · obtain rfl := sm hj
              exact RunL.v (O.fO rfl (.obj rfl) fd95_1 rfl) rfl rfl (.yb rfl rfl hb23) <| RunL.v (O.ldO (y := iR eAlt_0 x21.Alts) rfl (.ptr rfl) ct93 rfl rfl) rfl rfl (.yb rfl rfl hb23) <| RunL.v (O.lenI (.imm rfl) sl93) rfl rfl (.yb rfl rfl hb23) <| RunL.v (O.eql (.lit rfl) (.k rfl)) rfl rfl (.yb rfl rfl hb23) <| Rv (O.pkF (.lit rfl) hb23 (.lit rfl)) <| RunL.fin (.n rfl (.n rfl (.n rfl (.n rfl .nil))))
          refine Px.sq ?_
          refine W.cnd rfl (fun hb25 => ?_) (fun hb25 => ?_)
          · replace h := cndT hb25 h
            refine W.sq' ?_
            refine W.rx [(2, _)] (Rv (O.as (.k rfl)) <| RunL.fin (.n rfl .nil)) ?_
            refine Px.sq ?_
            refine W.rt ?_
            refine Px.sqR ?_
            refine Px.bkR ?_
            refine Px.sqR ?_
            obtain rfl := sm h
            exact Px.r2 (.n rfl .nil)
          · replace h := cndF hb25 h
            refine W.sk ?_
            refine Px.sq ?_
            refine W.sq' ?_
            refine W.rx [(1, _), (5, _), (6, _), (7, _)] (Rv (O.as (.k rfl)) <| RunL.fin (.n rfl (.n rfl (.n rfl (.n rfl .nil))))) ?_
            refine Px.sq ?_
            refine W.bk ?_
            obtain ⟨x27, hl, h⟩ := bnd h
            refine W.tr (G1 := [(1, .obj [SS a0.Pro, iR eDecl_0 a0.Decls, iR eRule_0 a0.Rules, SS a0.Tail]), (5, I64 s16), (6, .obj (eRule_0.cells x21)), (7, I64 0)]) (.n rfl (.n rfl (.n rfl (.n rfl .nil)))) ?_
            refine W.lp2 (s := 0) (fun (s26 : Int) => [(1, .obj [SS a0.Pro, iR eDecl_0 a0.Decls, iR eRule_0 a0.Rules, SS a0.Tail]), (5, I64 s16), (6, .obj (eRule_0.cells x21)), (7, I64 s26)]) 6 (fun (x28 : Unit) => [(1, .obj [SS a0.Pro, iR eDecl_0 a0.Decls, iR eRule_0 a0.Rules, SS a0.Tail]), (5, I64 s16)]) (fun (x29 : Bool) => [(2, BB x29)]) hl (fun s26 o h => ?_) (fun x28 hx => ?_) (fun x29 hx => ?_)
            · clear hl
              refine W.sq' ?_
              refine W.sq' ?_
              refine W.rx [(1, _), (5, _), (6, _), (7, _), (63, _)] (Rv (O.mv (.lit rfl)) <| Rv (O.fO rfl (.obj rfl) fd95_1 rfl) <| Rv (O.ldO (y := iR eAlt_0 x21.Alts) rfl (.ptr rfl) ct93 rfl rfl) <| Rv (O.lenI (.imm rfl) sl93) <| Rv (O.lss (.lit rfl) (.lit rfl)) <| RunL.fin (.n rfl (.n rfl (.n rfl (.n rfl (.n rfl .nil)))))) ?_
              refine Px.sq ?_
              refine W.cnd rfl (fun hb30 => ?_) (fun hb30 => ?_)
              · replace h := cndT hb30 h
                refine W.sk ?_
                refine Px.sq ?_
                refine W.sq' ?_
                refine W.bk ?_
                refine W.sq' ?_
                obtain ⟨x31, hx31, h⟩ := bnd h
                obtain ⟨x32, hx32, h⟩ := bnd h
                refine W.rx [(1, _), (5, _), (6, _), (7, _), (72, _)] (Rv (O.fO rfl (.obj rfl) fd95_1 rfl) <| Rv (O.ldO (y := iR eAlt_0 x21.Alts) rfl (.ptr rfl) ct93 rfl rfl) <| Rv (O.mv (.lit rfl)) <| Rv (O.ixI (.imm rfl) (.lit rfl) sl93 hx31) <| Rv (O.ldIN (cs' := [iR ePart x31.Parts, SS x31.Prec.Name, BB x31.Prec.Lit, I64 x31.Prec.Num, I64 x31.Prec.At, I64 x31.At]) (.iptr rfl) at98 rfl rfl) <| Rc (PC.go (.cc (.aggF rfl rfl) .nil) (con80 x31 _ hx32) call80 rfl) <| Rv (O.not (.lit rfl)) <| RunL.fin (.n rfl (.n rfl (.n rfl (.n rfl (.n rfl .nil)))))) ?_
                refine Px.sq ?_
                refine W.cnd rfl (fun hb33 => ?_) (fun hb33 => ?_)
                · replace h := cndT hb33 h
                  refine W.sq' ?_
                  refine W.rx [(2, _)] (Rv (O.as (.k rfl)) <| RunL.fin (.n rfl .nil)) ?_
                  refine Px.sq ?_
                  refine W.rt ?_
                  refine Px.bkR ?_
                  refine Px.sqR ?_
                  obtain rfl := sm h
                  exact Px.r2 (.n rfl .nil)
                · replace h := cndF hb33 h
                  refine W.sk ?_
                  refine Px.bk ?_
                  refine Px.sq ?_
                  refine W.rx [(1, _), (5, _), (6, _), (7, _)] (Rv (O.mv (.lit rfl)) <| Rv (O.add (.lit rfl) (.k rfl)) <| RunL.re (G1 := [(1, .obj [SS a0.Pro, iR eDecl_0 a0.Decls, iR eRule_0 a0.Rules, SS a0.Tail]), (5, I64 s16), (6, .obj (eRule_0.cells x21)), (65, I64 (w64 (s26 + 1)))]) (.n rfl (.n rfl (.n rfl (.n rfl .nil)))) <| Rv (O.as (.lit rfl)) <| RunL.fin (.n rfl (.n rfl (.n rfl (.n rfl .nil))))) ?_
                  obtain rfl := sm h
                  exact Px.go (.n rfl (.n rfl (.n rfl (.n rfl .nil))))
              · replace h := cndF hb30 h
                refine W.xi ?_
                refine Px.sqE ?_
                obtain rfl := sm h
                exact Px.x2 (.n rfl (.n rfl .nil))
            · subst hx
              refine Px.bkH ?_
              refine Px.bk ?_
              refine Px.sq ?_
              refine W.rx [(1, _), (5, _)] (Rv (O.mv (.lit rfl)) <| Rv (O.add (.lit rfl) (.k rfl)) <| RunL.re (G1 := [(1, .obj [SS a0.Pro, iR eDecl_0 a0.Decls, iR eRule_0 a0.Rules, SS a0.Tail]), (43, I64 (w64 (s16 + 1)))]) (.n rfl (.n rfl .nil)) <| Rv (O.as (.lit rfl)) <| RunL.fin (.n rfl (.n rfl .nil))) ?_
              obtain rfl := sm h
              exact Px.go (.n rfl (.n rfl .nil))
            · subst hx
              refine Px.bkR ?_
              refine Px.bkR ?_
              refine Px.sqR ?_
              obtain rfl := sm h
              exact Px.r2 (.n rfl .nil)
        · replace h := cndF hb20 h
          refine W.xi ?_
          refine Px.sqE ?_
          obtain rfl := sm h
          exact Px.x2 (.n rfl .nil)
      · subst hx
        refine Px.bkH ?_
        refine Px.sq ?_
        refine W.sq' ?_
        refine W.rx [(2, _)] (Rv (O.fO rfl (.obj rfl) fd25_2 rfl) <| Rv (O.ldO (y := iR eRule_0 a0.Rules) rfl (.ptr rfl) ct23 rfl rfl) <| Rv (O.lenI (.imm rfl) sl23) <| Rv (O.gtr (.lit rfl) (.k rfl)) <| Rv (O.as (.lit rfl)) <| RunL.fin (.n rfl .nil)) ?_
        refine Px.sq ?_
        refine W.rt ?_
        obtain rfl := sm h
        exact Px.fin (Fin.ro (.f rfl rfl .nil) rfl (of_decide_eq_true (by kernel_rfl)) (.no .nil) rfl (.inr rfl))
      · subst hx
        refine Px.bkR ?_
        refine Px.sqR ?_
        obtain rfl := sm h
        exact Px.fin (Fin.ro (.f rfl rfl .nil) rfl (of_decide_eq_true (by kernel_rfl)) (.no .nil) rfl (.inr rfl))
    · subst hx
      refine Px.bkR ?_
      refine Px.sqR ?_
      obtain rfl := sm h
      exact Px.fin (Fin.ro (.f rfl rfl .nil) rfl (of_decide_eq_true (by kernel_rfl)) (.no .nil) rfl (.inr rfl))
  · subst hx
    refine Px.bkR ?_
    refine Px.sqR ?_
    obtain rfl := sm h
    exact Px.fin (Fin.ro (.f rfl rfl .nil) rfl (of_decide_eq_true (by kernel_rfl)) (.no .nil) rfl (.inr rfl))
structure yuccaref9_maker where
  f_g : Grammar
  f_given : (List Bool)
  f_types : (List Non)
  f_lefts : (List ByteArray)
  f_e : Int
  f_at : Int
  f_name : ByteArray
  f_level : Int
  f_inner : Int
  deriving DecidableEq, Inhabited
def eGrammar_0 : En Grammar := ⟨5, fun x => [iR eTok x.Toks, iR eNon x.Nons, iR eProd_0 x.Prods, SS x.Pro, SS x.Tail], fun _ => rfl, fun _ => NRl.nr⟩
instance : Flat eGrammar_0 := ⟨fun _ => rfl⟩
instance : Tw eGrammar_0 eGrammar_0 := ⟨rfl, fun x => (inferInstance : Vws [iR eTok x.Toks, iR eNon x.Nons, iR eProd_0 x.Prods, SS x.Pro, SS x.Tail] [iR eTok x.Toks, iR eNon x.Nons, iR eProd_0 x.Prods, SS x.Pro, SS x.Tail])⟩
instance {x : Grammar} : Vws (eGrammar_0.cells x) [iR eTok x.Toks, iR eNon x.Nons, iR eProd_0 x.Prods, SS x.Pro, SS x.Tail] := (inferInstance : Vws [iR eTok x.Toks, iR eNon x.Nons, iR eProd_0 x.Prods, SS x.Pro, SS x.Tail] [iR eTok x.Toks, iR eNon x.Nons, iR eProd_0 x.Prods, SS x.Pro, SS x.Tail])
def eyuccaref9_maker_0 : En yuccaref9_maker := ⟨13, fun x => [iR eTok x.f_g.Toks, iR eNon x.f_g.Nons, iR eProd_0 x.f_g.Prods, SS x.f_g.Pro, SS x.f_g.Tail, iR eB x.f_given, iR eNon x.f_types, iR eS x.f_lefts, I64 x.f_e, I64 x.f_at, SS x.f_name, I64 x.f_level, I64 x.f_inner], fun _ => rfl, fun _ => NRl.nr⟩
instance : Flat eyuccaref9_maker_0 := ⟨fun _ => rfl⟩
instance : Tw eyuccaref9_maker_0 eyuccaref9_maker_0 := ⟨rfl, fun x => (inferInstance : Vws [iR eTok x.f_g.Toks, iR eNon x.f_g.Nons, iR eProd_0 x.f_g.Prods, SS x.f_g.Pro, SS x.f_g.Tail, iR eB x.f_given, iR eNon x.f_types, iR eS x.f_lefts, I64 x.f_e, I64 x.f_at, SS x.f_name, I64 x.f_level, I64 x.f_inner] [iR eTok x.f_g.Toks, iR eNon x.f_g.Nons, iR eProd_0 x.f_g.Prods, SS x.f_g.Pro, SS x.f_g.Tail, iR eB x.f_given, iR eNon x.f_types, iR eS x.f_lefts, I64 x.f_e, I64 x.f_at, SS x.f_name, I64 x.f_level, I64 x.f_inner])⟩
instance {x : yuccaref9_maker} : Vws (eyuccaref9_maker_0.cells x) [iR eTok x.f_g.Toks, iR eNon x.f_g.Nons, iR eProd_0 x.f_g.Prods, SS x.f_g.Pro, SS x.f_g.Tail, iR eB x.f_given, iR eNon x.f_types, iR eS x.f_lefts, I64 x.f_e, I64 x.f_at, SS x.f_name, I64 x.f_level, I64 x.f_inner] := (inferInstance : Vws [iR eTok x.f_g.Toks, iR eNon x.f_g.Nons, iR eProd_0 x.f_g.Prods, SS x.f_g.Pro, SS x.f_g.Tail, iR eB x.f_given, iR eNon x.f_types, iR eS x.f_lefts, I64 x.f_e, I64 x.f_at, SS x.f_name, I64 x.f_level, I64 x.f_inner] [iR eTok x.f_g.Toks, iR eNon x.f_g.Nons, iR eProd_0 x.f_g.Prods, SS x.f_g.Pro, SS x.f_g.Tail, iR eB x.f_given, iR eNon x.f_types, iR eS x.f_lefts, I64 x.f_e, I64 x.f_at, SS x.f_name, I64 x.f_level, I64 x.f_inner])
def eGrammar_1 : En Grammar := ⟨5, fun x => [oR eTok x.Toks, oR eNon x.Nons, oR eProd_0 x.Prods, SS x.Pro, SS x.Tail], fun _ => rfl, fun _ => NRl.nr⟩
instance : Tw eGrammar_1 eGrammar_0 := ⟨rfl, fun x => (inferInstance : Vws [oR eTok x.Toks, oR eNon x.Nons, oR eProd_0 x.Prods, SS x.Pro, SS x.Tail] [iR eTok x.Toks, iR eNon x.Nons, iR eProd_0 x.Prods, SS x.Pro, SS x.Tail])⟩
instance {x : Grammar} : Vws (eGrammar_1.cells x) [iR eTok x.Toks, iR eNon x.Nons, iR eProd_0 x.Prods, SS x.Pro, SS x.Tail] := (inferInstance : Vws [oR eTok x.Toks, oR eNon x.Nons, oR eProd_0 x.Prods, SS x.Pro, SS x.Tail] [iR eTok x.Toks, iR eNon x.Nons, iR eProd_0 x.Prods, SS x.Pro, SS x.Tail])
def eyuccaref9_maker_r : En yuccaref9_maker := ⟨13, fun x => [oR eTok x.f_g.Toks, oR eNon x.f_g.Nons, oR eProd_0 x.f_g.Prods, SS x.f_g.Pro, SS x.f_g.Tail, oR eB x.f_given, oR eNon x.f_types, oR eS x.f_lefts, I64 x.f_e, I64 x.f_at, SS x.f_name, I64 x.f_level, I64 x.f_inner], fun _ => rfl, fun _ => NRl.nr⟩
instance {x : yuccaref9_maker} : Vws (eyuccaref9_maker_r.cells x) [iR eTok x.f_g.Toks, iR eNon x.f_g.Nons, iR eProd_0 x.f_g.Prods, SS x.f_g.Pro, SS x.f_g.Tail, iR eB x.f_given, iR eNon x.f_types, iR eS x.f_lefts, I64 x.f_e, I64 x.f_at, SS x.f_name, I64 x.f_level, I64 x.f_inner] := (inferInstance : Vws [oR eTok x.f_g.Toks, oR eNon x.f_g.Nons, oR eProd_0 x.f_g.Prods, SS x.f_g.Pro, SS x.f_g.Tail, oR eB x.f_given, oR eNon x.f_types, oR eS x.f_lefts, I64 x.f_e, I64 x.f_at, SS x.f_name, I64 x.f_level, I64 x.f_inner] [iR eTok x.f_g.Toks, iR eNon x.f_g.Nons, iR eProd_0 x.f_g.Prods, SS x.f_g.Pro, SS x.f_g.Tail, iR eB x.f_given, iR eNon x.f_types, iR eS x.f_lefts, I64 x.f_e, I64 x.f_at, SS x.f_name, I64 x.f_level, I64 x.f_inner])
def pf65 (a0 : yuccaref9_maker) (a1 : Int) (a2 : ByteArray) : Option (yuccaref9_maker) :=
 ((bif decide (a0.f_e = 0) then
 some (⟨a0.f_g, a0.f_given, a0.f_types, a0.f_lefts, 3, a1, a2, a0.f_level, a0.f_inner⟩ : yuccaref9_maker)
 else
 some a0)).bind fun j1 =>
 some j1
theorem con65 (a0 : yuccaref9_maker) (a1 : Int) (a2 : ByteArray) (r : yuccaref9_maker) (h : pf65 a0 a1 a2 = some r) : Con Try.prog 65 [.obj (eyuccaref9_maker_r.cells a0), I64 a1, SS a2] [some (.obj [oR eTok r.f_g.Toks, oR eNon r.f_g.Nons, oR eProd_0 r.f_g.Prods, SS r.f_g.Pro, SS r.f_g.Tail, oR eB r.f_given, oR eNon r.f_types, oR eS r.f_lefts, I64 r.f_e, I64 r.f_at, SS r.f_name, I64 r.f_level, I64 r.f_inner]), none, none] (.tup []) := by
  unfold pf65 at h
  refine Con.go (N := ⟨22, [0]⟩) Try.func65 rfl rfl rfl rfl (W.fin ?_)
  refine W.st [(0, .obj (eyuccaref9_maker_r.cells a0)), (1, I64 a1), (2, SS a2)] ?_
  refine W.sq' ?_
  refine W.rx [(0, _), (1, _), (2, _), (10, _)] (Rv (O.mv (.obj rfl)) <| Rv (O.nlP (.ptr rfl)) <| Rv (O.fO rfl (.ptr rfl) fd128_4 rfl) <| Rv (O.ldO (y := I64 a0.f_e) rfl (.ptr rfl) ct3 rfl rfl) <| Rv (O.eql (.lit rfl) (.k rfl)) <| RunL.fin (.n rfl (.n rfl (.n rfl (.n rfl .nil))))) ?_
  refine Px.sq ?_
  obtain ⟨j1, hj, h⟩ := bnd h
  refine W.jn [(0, .obj (eyuccaref9_maker_r.cells j1))] ?_ ?_
  · clear h; have h := hj; clear hj
    refine W.cnd rfl (fun hb2 => ?_) (fun hb2 => ?_)
    · replace h := cndT hb2 h
      refine W.rx [(0, _)] (Rv (O.mv (.obj rfl)) <| Rv (O.mv (.obj rfl)) <| Rv (O.mv (.obj rfl)) <| Rv (O.mv (.lit rfl)) <| Rv (O.mv (.lit rfl)) <| Rv (O.nlP (.ptr rfl)) <| Rv (O.fO rfl (.ptr rfl) fd128_4 rfl) <| RunL.sO (G2 := [(0, .obj [oR eTok a0.f_g.Toks, oR eNon a0.f_g.Nons, oR eProd_0 a0.f_g.Prods, SS a0.f_g.Pro, SS a0.f_g.Tail, oR eB a0.f_given, oR eNon a0.f_types, oR eS a0.f_lefts, I64 3, I64 a0.f_at, SS a0.f_name, I64 a0.f_level, I64 a0.f_inner]), (12, .ptr ⟨0, []⟩ 0), (13, .ptr ⟨0, []⟩ 0), (14, I64 a1), (15, SS a2)]) (cs2 := [oR eTok a0.f_g.Toks, oR eNon a0.f_g.Nons, oR eProd_0 a0.f_g.Prods, SS a0.f_g.Pro, SS a0.f_g.Tail, oR eB a0.f_given, oR eNon a0.f_types, oR eS a0.f_lefts, I64 3, I64 a0.f_at, SS a0.f_name, I64 a0.f_level, I64 a0.f_inner]) rfl (.ptr rfl) (.k rfl) rfl sz3 rfl rfl rfl rfl (.b rfl (.p rfl rfl rfl rfl rfl rfl (.p rfl rfl rfl rfl rfl rfl (.n rfl rfl (.n rfl rfl .nil))))) <| Rv (O.nlP (.ptr rfl)) <| Rv (O.fO rfl (.ptr rfl) fd128_5 rfl) <| RunL.sO (G2 := [(0, .obj [oR eTok a0.f_g.Toks, oR eNon a0.f_g.Nons, oR eProd_0 a0.f_g.Prods, SS a0.f_g.Pro, SS a0.f_g.Tail, oR eB a0.f_given, oR eNon a0.f_types, oR eS a0.f_lefts, I64 3, I64 a1, SS a0.f_name, I64 a0.f_level, I64 a0.f_inner]), (13, .ptr ⟨0, []⟩ 0), (15, SS a2)]) (cs2 := [oR eTok a0.f_g.Toks, oR eNon a0.f_g.Nons, oR eProd_0 a0.f_g.Prods, SS a0.f_g.Pro, SS a0.f_g.Tail, oR eB a0.f_given, oR eNon a0.f_types, oR eS a0.f_lefts, I64 3, I64 a1, SS a0.f_name, I64 a0.f_level, I64 a0.f_inner]) rfl (.ptr rfl) (.lit rfl) rfl sz3 rfl rfl rfl rfl (.b rfl (.p rfl rfl rfl rfl rfl rfl (.n rfl rfl .nil))) <| Rv (O.nlP (.ptr rfl)) <| Rv (O.fO rfl (.ptr rfl) fd128_6 rfl) <| RunL.sO (G2 := [(0, .obj [oR eTok a0.f_g.Toks, oR eNon a0.f_g.Nons, oR eProd_0 a0.f_g.Prods, SS a0.f_g.Pro, SS a0.f_g.Tail, oR eB a0.f_given, oR eNon a0.f_types, oR eS a0.f_lefts, I64 3, I64 a1, SS a2, I64 a0.f_level, I64 a0.f_inner])]) (cs2 := [oR eTok a0.f_g.Toks, oR eNon a0.f_g.Nons, oR eProd_0 a0.f_g.Prods, SS a0.f_g.Pro, SS a0.f_g.Tail, oR eB a0.f_given, oR eNon a0.f_types, oR eS a0.f_lefts, I64 3, I64 a1, SS a2, I64 a0.f_level, I64 a0.f_inner]) rfl (.ptr rfl) (.lit rfl) rfl sz9 rfl rfl rfl rfl (.b rfl .nil) <| RunL.fin (.n rfl .nil)) ?_
      obtain rfl := sm h
      exact Px.jn (.n rfl .nil)
    · replace h := cndF hb2 h
      refine W.sk ?_
      obtain rfl := sm h
      exact Px.jn (.n rfl .nil)
  obtain rfl := sm h
  exact Px.fin (Fin.ro .nil rfl (of_decide_eq_true (by kernel_rfl)) (.so rfl rfl (.no (.no .nil))) rfl (.inl rfl))
def pf69 (a0 : yuccaref9_maker) (a1 : ByteArray) : Option (Int) :=
 (loopM (R := (Unit) ⊕ (Int)) (fun (s1 : Int) =>
 (bif decide (s1 < (a0.f_types.length : Int)) then
 (idx a0.f_types s1).bind fun x6 =>
 (bif decide (x6.Name = a1) then
 some (.inr (.inr s1))
 else
 some (.inl (w64 (s1 + 1))))
 else
 some (.inr (.inl ())))) 0).bind fun x2 =>
 (match x2 with
 | .inl x3 =>
 some (-1)
 | .inr x4 =>
 some x4)
theorem con69 (a0 : yuccaref9_maker) (a1 : ByteArray) (r : Int) (h : pf69 a0 a1 = some r) : Con Try.prog 69 [.iptr ([iR eTok a0.f_g.Toks, iR eNon a0.f_g.Nons, iR eProd_0 a0.f_g.Prods, SS a0.f_g.Pro, SS a0.f_g.Tail, iR eB a0.f_given, iR eNon a0.f_types, iR eS a0.f_lefts, I64 a0.f_e, I64 a0.f_at, SS a0.f_name, I64 a0.f_level, I64 a0.f_inner]), SS a1] [none, none] (I64 r) := by
  unfold pf69 at h
  refine Con.go (N := ⟨26, []⟩) Try.func69 rfl rfl rfl rfl (W.fin ?_)
  refine W.st [(0, .iptr ([iR eTok a0.f_g.Toks, iR eNon a0.f_g.Nons, iR eProd_0 a0.f_g.Prods, SS a0.f_g.Pro, SS a0.f_g.Tail, iR eB a0.f_given, iR eNon a0.f_types, iR eS a0.f_lefts, I64 a0.f_e, I64 a0.f_at, SS a0.f_name, I64 a0.f_level, I64 a0.f_inner])), (1, SS a1)] ?_
  refine W.sq' ?_
  refine W.rx [(0, _), (1, _)] (Rv (O.as (.k rfl)) <| RunL.fin (.n rfl (.n rfl .nil))) ?_
  refine Px.sq ?_
  refine W.sq' ?_
  refine W.sq' ?_
  refine W.rx [(0, _), (1, _), (5, _)] (Rv (O.as (.k rfl)) <| RunL.fin (.n rfl (.n rfl (.n rfl .nil)))) ?_
  refine Px.sq ?_
  refine W.bk ?_
  obtain ⟨x2, hl, h⟩ := bnd h
  refine W.tr (G1 := [(0, .iptr ([iR eTok a0.f_g.Toks, iR eNon a0.f_g.Nons, iR eProd_0 a0.f_g.Prods, SS a0.f_g.Pro, SS a0.f_g.Tail, iR eB a0.f_given, iR eNon a0.f_types, iR eS a0.f_lefts, I64 a0.f_e, I64 a0.f_at, SS a0.f_name, I64 a0.f_level, I64 a0.f_inner])), (1, SS a1), (5, I64 0)]) (.n rfl (.n rfl (.n rfl .nil))) ?_
  refine W.lp2 (s := 0) (fun (s1 : Int) => [(0, .iptr ([iR eTok a0.f_g.Toks, iR eNon a0.f_g.Nons, iR eProd_0 a0.f_g.Prods, SS a0.f_g.Pro, SS a0.f_g.Tail, iR eB a0.f_given, iR eNon a0.f_types, iR eS a0.f_lefts, I64 a0.f_e, I64 a0.f_at, SS a0.f_name, I64 a0.f_level, I64 a0.f_inner])), (1, SS a1), (5, I64 s1)]) 0 (fun (x3 : Unit) => []) (fun (x4 : Int) => [(4, I64 x4)]) hl (fun s1 o h => ?_) (fun x3 hx => ?_) (fun x4 hx => ?_)
  · clear hl
    refine W.sq' ?_
    refine W.sq' ?_
    refine W.rx [(0, _), (1, _), (5, _), (12, _)] (Rv (O.mv (.lit rfl)) <| Rv (O.mv (.iptr rfl)) <| Rv (O.nlI (.iptr rfl)) <| Rv (O.fI (.iptr rfl) fd128_2) <| Rv (O.ldI (x := iR eNon a0.f_types) (.iptr rfl) ct35 rfl) <| Rv (O.lenI (.imm rfl) sl35) <| Rv (O.lss (.lit rfl) (.lit rfl)) <| RunL.fin (.n rfl (.n rfl (.n rfl (.n rfl .nil))))) ?_
    refine Px.sq ?_
    refine W.cnd rfl (fun hb5 => ?_) (fun hb5 => ?_)
    · replace h := cndT hb5 h
      refine W.sk ?_
      refine Px.sq ?_
      refine W.sq' ?_
      refine W.bk ?_
      refine W.sq' ?_
      obtain ⟨x6, hx6, h⟩ := bnd h
      refine W.rx [(0, _), (1, _), (5, _), (24, _)] (Rv (O.mv (.iptr rfl)) <| Rv (O.nlI (.iptr rfl)) <| Rv (O.fI (.iptr rfl) fd128_2) <| Rv (O.ldI (x := iR eNon a0.f_types) (.iptr rfl) ct35 rfl) <| Rv (O.mv (.lit rfl)) <| Rv (O.ixI (.imm rfl) (.lit rfl) sl35 hx6) <| Rv (O.fI (.iptr rfl) fd135_0) <| Rv (O.ldI (x := SS x6.Name) (.iptr rfl) ct9 rfl) <| Rv (O.mv (.lit rfl)) <| Rv (O.eqS (.lit rfl) (.lit rfl)) <| RunL.fin (.n rfl (.n rfl (.n rfl (.n rfl .nil))))) ?_
      refine Px.sq ?_
      refine W.cnd rfl (fun hb7 => ?_) (fun hb7 => ?_)
      · replace h := cndT hb7 h
        refine W.sq' ?_
        refine W.rx [(4, _)] (Rv (O.mv (.lit rfl)) <| Rv (O.as (.lit rfl)) <| RunL.fin (.n rfl .nil)) ?_
        refine Px.sq ?_
        refine W.rt ?_
        refine Px.bkR ?_
        refine Px.sqR ?_
        obtain rfl := sm h
        exact Px.r2 (.n rfl .nil)
      · replace h := cndF hb7 h
        refine W.sk ?_
        refine Px.bk ?_
        refine Px.sq ?_
        refine W.rx [(0, _), (1, _), (5, _)] (Rv (O.mv (.lit rfl)) <| Rv (O.add (.lit rfl) (.k rfl)) <| RunL.re (G1 := [(0, .iptr ([iR eTok a0.f_g.Toks, iR eNon a0.f_g.Nons, iR eProd_0 a0.f_g.Prods, SS a0.f_g.Pro, SS a0.f_g.Tail, iR eB a0.f_given, iR eNon a0.f_types, iR eS a0.f_lefts, I64 a0.f_e, I64 a0.f_at, SS a0.f_name, I64 a0.f_level, I64 a0.f_inner])), (1, SS a1), (14, I64 (w64 (s1 + 1)))]) (.n rfl (.n rfl (.n rfl .nil))) <| Rv (O.as (.lit rfl)) <| RunL.fin (.n rfl (.n rfl (.n rfl .nil)))) ?_
        obtain rfl := sm h
        exact Px.go (.n rfl (.n rfl (.n rfl .nil)))
    · replace h := cndF hb5 h
      refine W.xi ?_
      refine Px.sqE ?_
      obtain rfl := sm h
      exact Px.x2 .nil
  · subst hx
    refine Px.bkH ?_
    refine Px.sq ?_
    refine W.sq' ?_
    refine W.rx [(4, _)] (Rv (O.as (.k rfl)) <| RunL.fin (.n rfl .nil)) ?_
    refine Px.sq ?_
    refine W.rt ?_
    obtain rfl := sm h
    exact Px.fin (Fin.ro (.f rfl rfl .nil) rfl (of_decide_eq_true (by kernel_rfl)) (.no (.no .nil)) rfl (.inr rfl))
  · subst hx
    refine Px.bkR ?_
    refine Px.sqR ?_
    obtain rfl := sm h
    exact Px.fin (Fin.ro (.f rfl rfl .nil) rfl (of_decide_eq_true (by kernel_rfl)) (.no (.no .nil)) rfl (.inr rfl))
def pf66 (a0 : yuccaref9_maker) (a1 : Sym) : Option (Int) :=
 (loopM (R := (Unit) ⊕ (Int)) (fun (s1 : Int) =>
 (bif decide (s1 < (a0.f_g.Toks.length : Int)) then
 (((idx a0.f_g.Toks s1).bind fun x6 => (bif decide (x6.Name = a1.Name) then ((idx a0.f_g.Toks s1).bind fun x8 => (bif (x8.Lit == a1.Lit) then some (!decide (s1 = 2)) else some false)) else some false))).bind fun c10 =>
 (bif c10 then
 some (.inr (.inr s1))
 else
 some (.inl (w64 (s1 + 1))))
 else
 some (.inr (.inl ())))) 1).bind fun x2 =>
 (match x2 with
 | .inl x3 =>
 some (-1)
 | .inr x4 =>
 some x4)
theorem con66 (a0 : yuccaref9_maker) (a1 : Sym) (r : Int) (h : pf66 a0 a1 = some r) : Con Try.prog 66 [.iptr ([iR eTok a0.f_g.Toks, iR eNon a0.f_g.Nons, iR eProd_0 a0.f_g.Prods, SS a0.f_g.Pro, SS a0.f_g.Tail, iR eB a0.f_given, iR eNon a0.f_types, iR eS a0.f_lefts, I64 a0.f_e, I64 a0.f_at, SS a0.f_name, I64 a0.f_level, I64 a0.f_inner]), .agg (eSym.cells a1)] [none, none] (I64 r) := by
  unfold pf66 at h
  refine Con.go (N := ⟨47, []⟩) Try.func66 rfl rfl rfl rfl (W.fin ?_)
  refine W.st [(0, .iptr ([iR eTok a0.f_g.Toks, iR eNon a0.f_g.Nons, iR eProd_0 a0.f_g.Prods, SS a0.f_g.Pro, SS a0.f_g.Tail, iR eB a0.f_given, iR eNon a0.f_types, iR eS a0.f_lefts, I64 a0.f_e, I64 a0.f_at, SS a0.f_name, I64 a0.f_level, I64 a0.f_inner])), (1, .agg (eSym.cells a1))] ?_
  refine W.sq' ?_
  refine W.rx [(0, _), (3, _)] (Rv (O.box (.aggF rfl rfl) rfl) <| Rv (O.as (.k rfl)) <| RunL.fin (.n rfl (.n rfl .nil))) ?_
  refine Px.sq ?_
  refine W.sq' ?_
  refine W.sq' ?_
  refine W.rx [(0, _), (3, _), (5, _)] (Rv (O.as (.k rfl)) <| RunL.fin (.n rfl (.n rfl (.n rfl .nil)))) ?_
  refine Px.sq ?_
  refine W.bk ?_
  obtain ⟨x2, hl, h⟩ := bnd h
  refine W.tr (G1 := [(0, .iptr ([iR eTok a0.f_g.Toks, iR eNon a0.f_g.Nons, iR eProd_0 a0.f_g.Prods, SS a0.f_g.Pro, SS a0.f_g.Tail, iR eB a0.f_given, iR eNon a0.f_types, iR eS a0.f_lefts, I64 a0.f_e, I64 a0.f_at, SS a0.f_name, I64 a0.f_level, I64 a0.f_inner])), (3, .obj (eSym.cells a1)), (5, I64 1)]) (.n rfl (.n rfl (.n rfl .nil))) ?_
  refine W.lp2 (s := 1) (fun (s1 : Int) => [(0, .iptr ([iR eTok a0.f_g.Toks, iR eNon a0.f_g.Nons, iR eProd_0 a0.f_g.Prods, SS a0.f_g.Pro, SS a0.f_g.Tail, iR eB a0.f_given, iR eNon a0.f_types, iR eS a0.f_lefts, I64 a0.f_e, I64 a0.f_at, SS a0.f_name, I64 a0.f_level, I64 a0.f_inner])), (3, .obj (eSym.cells a1)), (5, I64 s1)]) 0 (fun (x3 : Unit) => []) (fun (x4 : Int) => [(4, I64 x4)]) hl (fun s1 o h => ?_) (fun x3 hx => ?_) (fun x4 hx => ?_)
  · clear hl
    refine W.sq' ?_
    refine W.sq' ?_
    refine W.rx [(0, _), (3, _), (5, _), (13, _)] (Rv (O.mv (.lit rfl)) <| Rv (O.mv (.iptr rfl)) <| Rv (O.nlI (.iptr rfl)) <| Rv (O.fI (.iptr rfl) fd128_0) <| Rv (O.fI (.iptr rfl) fd38_0) <| Rv (O.ldI (x := iR eTok a0.f_g.Toks) (.iptr rfl) ct34 rfl) <| Rv (O.lenI (.imm rfl) sl34) <| Rv (O.lss (.lit rfl) (.lit rfl)) <| RunL.fin (.n rfl (.n rfl (.n rfl (.n rfl .nil))))) ?_
    refine Px.sq ?_
    refine W.cnd rfl (fun hb5 => ?_) (fun hb5 => ?_)
    · replace h := cndT hb5 h
      refine W.sk ?_
      refine Px.sq ?_
      refine W.sq' ?_
      refine W.bk ?_
      refine W.sq' ?_
      obtain ⟨c10, hj, h⟩ := bnd h
      refine W.rd [[], [0], [0, 1], [0, 1, 2], [0, 1, 2, 3], [], rn 0 6 [], rn 0 7 [], rn 0 8 [], [], [9], rn 0 11 [], rn 0 12 [], rn 0 13 [], rn 0 14 [], rn 0 15 [], rn 0 16 [], rn 0 17 [], rn 0 13 [], rn 0 19 [], rn 0 20 [], rn 0 21 [], rn 0 13 [], rn 0 13 [22], rn 0 24 [], rn 0 25 [], rn 0 26 [], rn 0 27 [], rn 0 28 [], rn 0 29 []] [(0, .iptr ([iR eTok a0.f_g.Toks, iR eNon a0.f_g.Nons, iR eProd_0 a0.f_g.Prods, SS a0.f_g.Pro, SS a0.f_g.Tail, iR eB a0.f_given, iR eNon a0.f_types, iR eS a0.f_lefts, I64 a0.f_e, I64 a0.f_at, SS a0.f_name, I64 a0.f_level, I64 a0.f_inner])), (3, .obj (eSym.cells a1)), (5, I64 s1), (45, BB c10)] mixo (by kernel_rfl) ?_ ?_
      · refine Dv 0 (O.mv (.iptr rfl)) <| Dv 1 (O.nlI (.iptr rfl)) <| Dv 2 (O.fI (.iptr rfl) fd128_0) <| Dv 3 (O.fI (.iptr rfl) fd38_0) <| Dv 4 (O.ldI (x := iR eTok a0.f_g.Toks) (.iptr rfl) ct34 rfl) <| Dv 5 (O.mv (.lit rfl)) ?_
        obtain ⟨x6, hx6, hj⟩ := bnd hj
        refine Dv 6 (O.ixI (.imm rfl) (.lit rfl) sl34 hx6) <| Dv 7 (O.fI (.iptr rfl) fd52_0) <| Dv 8 (O.ldI (x := SS x6.Name) (.iptr rfl) ct9 rfl) <| Dv 9 (O.fO rfl (.obj rfl) fd91_0 rfl) <| Dv 10 (O.ldO (y := SS a1.Name) rfl (.ptr rfl) ct9 rfl rfl) <| Dv 11 (O.eqS (.lit rfl) (.lit rfl)) <| Dv 12 (O.mv (.lit rfl)) ?_
        rcases cnd hj with ⟨hb7, hj⟩ | ⟨hb7, hj⟩
        · refine DL.v 13 (O.mv (.iptr rfl)) rfl rfl rfl rfl (.yb rfl rfl hb7) <| DL.v 14 (O.nlI (.iptr rfl)) rfl rfl rfl rfl (.yb rfl rfl hb7) <| DL.v 15 (O.fI (.iptr rfl) fd128_0) rfl rfl rfl rfl (.yb rfl rfl hb7) <| DL.v 16 (O.fI (.iptr rfl) fd38_0) rfl rfl rfl rfl (.yb rfl rfl hb7) <| DL.v 17 (O.ldI (x := iR eTok a0.f_g.Toks) (.iptr rfl) ct34 rfl) rfl rfl rfl rfl (.yb rfl rfl hb7) <| DL.v 18 (O.mv (.lit rfl)) rfl rfl rfl rfl (.yb rfl rfl hb7) ?_
          obtain ⟨x8, hx8, hj⟩ := bnd hj
          refine DL.v 19 (O.ixI (.imm rfl) (.lit rfl) sl34 hx8) rfl rfl rfl rfl (.yb rfl rfl hb7) <| DL.v 20 (O.fI (.iptr rfl) fd52_1) rfl rfl rfl rfl (.yb rfl rfl hb7) <| DL.v 21 (O.ldI (x := BB x8.Lit) (.iptr rfl) ct4 rfl) rfl rfl rfl rfl (.yb rfl rfl hb7) <| DL.v 22 (O.fO rfl (.obj rfl) fd91_1 rfl) rfl rfl rfl rfl (.yb rfl rfl hb7) <| DL.v 23 (O.ldO (y := BB a1.Lit) rfl (.ptr rfl) ct4 rfl rfl) rfl rfl rfl rfl (.yb rfl rfl hb7) <| DL.v 24 (O.eqB (.lit rfl) (.lit rfl) bt4) rfl rfl rfl rfl (.yb rfl rfl hb7) <| Dv 25 (O.pkT (.lit rfl) hb7 (.lit rfl)) <| Dv 26 (O.mv (.lit rfl)) ?_
          rcases cnd hj with ⟨hb9, hj⟩ | ⟨hb9, hj⟩
          · obtain rfl := sm hj
            exact DL.v 27 (O.mv (.lit rfl)) rfl rfl rfl rfl (.yb rfl rfl hb9) <| DL.v 28 (O.neq (.lit rfl) (.k rfl)) rfl rfl rfl rfl (.yb rfl rfl hb9) <| Dv 29 (O.pkT (.lit rfl) hb9 (.lit rfl)) <| DL.fin rfl rfl rfl (.n rfl (.n rfl (.n rfl (.n rfl .nil))))
          · obtain rfl := sm hj
            exact DL.ps 27 rfl rfl hb9 rfl rfl rfl rfl <| DL.ps 28 rfl rfl hb9 rfl rfl rfl rfl <| Dv 29 (O.pkF (.lit rfl) hb9 (.k rfl)) <| DL.fin rfl rfl rfl (.n rfl (.n rfl (.n rfl (.n rfl .nil))))
        · obtain rfl := sm hj
          exact DL.ps 13 rfl rfl hb7 rfl rfl rfl rfl <| DL.ps 14 rfl rfl hb7 rfl rfl rfl rfl <| DL.ps 15 rfl rfl hb7 rfl rfl rfl rfl <| DL.ps 16 rfl rfl hb7 rfl rfl rfl rfl <| DL.ps 17 rfl rfl hb7 rfl rfl rfl rfl <| DL.ps 18 rfl rfl hb7 rfl rfl rfl rfl <| DL.ps 19 rfl rfl hb7 rfl rfl rfl rfl <| DL.ps 20 rfl rfl hb7 rfl rfl rfl rfl <| DL.ps 21 rfl rfl hb7 rfl rfl rfl rfl <| DL.ps 22 rfl rfl hb7 rfl rfl rfl rfl <| DL.ps 23 rfl rfl hb7 rfl rfl rfl rfl <| DL.ps 24 rfl rfl hb7 rfl rfl rfl rfl <| Dv 25 (O.pkF (.lit rfl) hb7 (.k rfl)) <| Dv 26 (O.mv (.lit rfl)) <| DL.ps 27 rfl rfl rfl rfl rfl rfl rfl <| DL.ps 28 rfl rfl rfl rfl rfl rfl rfl <| Dv 29 (O.pkF (.lit rfl) rfl (.k rfl)) <| DL.fin rfl rfl rfl (.n rfl (.n rfl (.n rfl (.n rfl .nil))))
      refine Px.sq ?_
      refine W.cnd rfl (fun hb11 => ?_) (fun hb11 => ?_)
      · replace h := cndT hb11 h
        refine W.sq' ?_
        refine W.rx [(4, _)] (Rv (O.mv (.lit rfl)) <| Rv (O.as (.lit rfl)) <| RunL.fin (.n rfl .nil)) ?_
        refine Px.sq ?_
        refine W.rt ?_
        refine Px.bkR ?_
        refine Px.sqR ?_
        obtain rfl := sm h
        exact Px.r2 (.n rfl .nil)
      · replace h := cndF hb11 h
        refine W.sk ?_
        refine Px.bk ?_
        refine Px.sq ?_
        refine W.rx [(0, _), (3, _), (5, _)] (Rv (O.mv (.lit rfl)) <| Rv (O.add (.lit rfl) (.k rfl)) <| RunL.re (G1 := [(0, .iptr ([iR eTok a0.f_g.Toks, iR eNon a0.f_g.Nons, iR eProd_0 a0.f_g.Prods, SS a0.f_g.Pro, SS a0.f_g.Tail, iR eB a0.f_given, iR eNon a0.f_types, iR eS a0.f_lefts, I64 a0.f_e, I64 a0.f_at, SS a0.f_name, I64 a0.f_level, I64 a0.f_inner])), (3, .obj (eSym.cells a1)), (15, I64 (w64 (s1 + 1)))]) (.n rfl (.n rfl (.n rfl .nil))) <| Rv (O.as (.lit rfl)) <| RunL.fin (.n rfl (.n rfl (.n rfl .nil)))) ?_
        obtain rfl := sm h
        exact Px.go (.n rfl (.n rfl (.n rfl .nil)))
    · replace h := cndF hb5 h
      refine W.xi ?_
      refine Px.sqE ?_
      obtain rfl := sm h
      exact Px.x2 .nil
  · subst hx
    refine Px.bkH ?_
    refine Px.sq ?_
    refine W.sq' ?_
    refine W.rx [(4, _)] (Rv (O.as (.k rfl)) <| RunL.fin (.n rfl .nil)) ?_
    refine Px.sq ?_
    refine W.rt ?_
    obtain rfl := sm h
    exact Px.fin (Fin.ro (.f rfl rfl .nil) rfl (of_decide_eq_true (by kernel_rfl)) (.no (.no .nil)) rfl (.inr rfl))
  · subst hx
    refine Px.bkR ?_
    refine Px.sqR ?_
    obtain rfl := sm h
    exact Px.fin (Fin.ro (.f rfl rfl .nil) rfl (of_decide_eq_true (by kernel_rfl)) (.no (.no .nil)) rfl (.inr rfl))
def pf82 (a0 : yuccaref9_maker) (a1 : Int) : Option (Int) :=
 (loopM (R := (Unit) ⊕ (Int)) (fun (s1 : Int) =>
 (bif decide (s1 < (a0.f_g.Toks.length : Int)) then
 (idx a0.f_g.Toks s1).bind fun x6 =>
 (bif decide (x6.Num = a1) then
 some (.inr (.inr s1))
 else
 some (.inl (w64 (s1 + 1))))
 else
 some (.inr (.inl ())))) 3).bind fun x2 =>
 (match x2 with
 | .inl x3 =>
 some (-1)
 | .inr x4 =>
 some x4)
theorem con82 (a0 : yuccaref9_maker) (a1 : Int) (r : Int) (h : pf82 a0 a1 = some r) : Con Try.prog 82 [.iptr ([iR eTok a0.f_g.Toks, iR eNon a0.f_g.Nons, iR eProd_0 a0.f_g.Prods, SS a0.f_g.Pro, SS a0.f_g.Tail, iR eB a0.f_given, iR eNon a0.f_types, iR eS a0.f_lefts, I64 a0.f_e, I64 a0.f_at, SS a0.f_name, I64 a0.f_level, I64 a0.f_inner]), I64 a1] [none, none] (I64 r) := by
  unfold pf82 at h
  refine Con.go (N := ⟨28, []⟩) Try.func82 rfl rfl rfl rfl (W.fin ?_)
  refine W.st [(0, .iptr ([iR eTok a0.f_g.Toks, iR eNon a0.f_g.Nons, iR eProd_0 a0.f_g.Prods, SS a0.f_g.Pro, SS a0.f_g.Tail, iR eB a0.f_given, iR eNon a0.f_types, iR eS a0.f_lefts, I64 a0.f_e, I64 a0.f_at, SS a0.f_name, I64 a0.f_level, I64 a0.f_inner])), (1, I64 a1)] ?_
  refine W.sq' ?_
  refine W.rx [(0, _), (1, _)] (Rv (O.as (.k rfl)) <| RunL.fin (.n rfl (.n rfl .nil))) ?_
  refine Px.sq ?_
  refine W.sq' ?_
  refine W.sq' ?_
  refine W.rx [(0, _), (1, _), (5, _)] (Rv (O.as (.k rfl)) <| RunL.fin (.n rfl (.n rfl (.n rfl .nil)))) ?_
  refine Px.sq ?_
  refine W.bk ?_
  obtain ⟨x2, hl, h⟩ := bnd h
  refine W.tr (G1 := [(0, .iptr ([iR eTok a0.f_g.Toks, iR eNon a0.f_g.Nons, iR eProd_0 a0.f_g.Prods, SS a0.f_g.Pro, SS a0.f_g.Tail, iR eB a0.f_given, iR eNon a0.f_types, iR eS a0.f_lefts, I64 a0.f_e, I64 a0.f_at, SS a0.f_name, I64 a0.f_level, I64 a0.f_inner])), (1, I64 a1), (5, I64 3)]) (.n rfl (.n rfl (.n rfl .nil))) ?_
  refine W.lp2 (s := 3) (fun (s1 : Int) => [(0, .iptr ([iR eTok a0.f_g.Toks, iR eNon a0.f_g.Nons, iR eProd_0 a0.f_g.Prods, SS a0.f_g.Pro, SS a0.f_g.Tail, iR eB a0.f_given, iR eNon a0.f_types, iR eS a0.f_lefts, I64 a0.f_e, I64 a0.f_at, SS a0.f_name, I64 a0.f_level, I64 a0.f_inner])), (1, I64 a1), (5, I64 s1)]) 0 (fun (x3 : Unit) => []) (fun (x4 : Int) => [(4, I64 x4)]) hl (fun s1 o h => ?_) (fun x3 hx => ?_) (fun x4 hx => ?_)
  · clear hl
    refine W.sq' ?_
    refine W.sq' ?_
    refine W.rx [(0, _), (1, _), (5, _), (13, _)] (Rv (O.mv (.lit rfl)) <| Rv (O.mv (.iptr rfl)) <| Rv (O.nlI (.iptr rfl)) <| Rv (O.fI (.iptr rfl) fd128_0) <| Rv (O.fI (.iptr rfl) fd38_0) <| Rv (O.ldI (x := iR eTok a0.f_g.Toks) (.iptr rfl) ct34 rfl) <| Rv (O.lenI (.imm rfl) sl34) <| Rv (O.lss (.lit rfl) (.lit rfl)) <| RunL.fin (.n rfl (.n rfl (.n rfl (.n rfl .nil))))) ?_
    refine Px.sq ?_
    refine W.cnd rfl (fun hb5 => ?_) (fun hb5 => ?_)
    · replace h := cndT hb5 h
      refine W.sk ?_
      refine Px.sq ?_
      refine W.sq' ?_
      refine W.bk ?_
      refine W.sq' ?_
      obtain ⟨x6, hx6, h⟩ := bnd h
      refine W.rx [(0, _), (1, _), (5, _), (26, _)] (Rv (O.mv (.iptr rfl)) <| Rv (O.nlI (.iptr rfl)) <| Rv (O.fI (.iptr rfl) fd128_0) <| Rv (O.fI (.iptr rfl) fd38_0) <| Rv (O.ldI (x := iR eTok a0.f_g.Toks) (.iptr rfl) ct34 rfl) <| Rv (O.mv (.lit rfl)) <| Rv (O.ixI (.imm rfl) (.lit rfl) sl34 hx6) <| Rv (O.fI (.iptr rfl) fd52_2) <| Rv (O.ldI (x := I64 x6.Num) (.iptr rfl) ct3 rfl) <| Rv (O.mv (.lit rfl)) <| Rv (O.eql (.lit rfl) (.lit rfl)) <| RunL.fin (.n rfl (.n rfl (.n rfl (.n rfl .nil))))) ?_
      refine Px.sq ?_
      refine W.cnd rfl (fun hb7 => ?_) (fun hb7 => ?_)
      · replace h := cndT hb7 h
        refine W.sq' ?_
        refine W.rx [(4, _)] (Rv (O.mv (.lit rfl)) <| Rv (O.as (.lit rfl)) <| RunL.fin (.n rfl .nil)) ?_
        refine Px.sq ?_
        refine W.rt ?_
        refine Px.bkR ?_
        refine Px.sqR ?_
        obtain rfl := sm h
        exact Px.r2 (.n rfl .nil)
      · replace h := cndF hb7 h
        refine W.sk ?_
        refine Px.bk ?_
        refine Px.sq ?_
        refine W.rx [(0, _), (1, _), (5, _)] (Rv (O.mv (.lit rfl)) <| Rv (O.add (.lit rfl) (.k rfl)) <| RunL.re (G1 := [(0, .iptr ([iR eTok a0.f_g.Toks, iR eNon a0.f_g.Nons, iR eProd_0 a0.f_g.Prods, SS a0.f_g.Pro, SS a0.f_g.Tail, iR eB a0.f_given, iR eNon a0.f_types, iR eS a0.f_lefts, I64 a0.f_e, I64 a0.f_at, SS a0.f_name, I64 a0.f_level, I64 a0.f_inner])), (1, I64 a1), (15, I64 (w64 (s1 + 1)))]) (.n rfl (.n rfl (.n rfl .nil))) <| Rv (O.as (.lit rfl)) <| RunL.fin (.n rfl (.n rfl (.n rfl .nil)))) ?_
        obtain rfl := sm h
        exact Px.go (.n rfl (.n rfl (.n rfl .nil)))
    · replace h := cndF hb5 h
      refine W.xi ?_
      refine Px.sqE ?_
      obtain rfl := sm h
      exact Px.x2 .nil
  · subst hx
    refine Px.bkH ?_
    refine Px.sq ?_
    refine W.sq' ?_
    refine W.rx [(4, _)] (Rv (O.as (.k rfl)) <| RunL.fin (.n rfl .nil)) ?_
    refine Px.sq ?_
    refine W.rt ?_
    obtain rfl := sm h
    exact Px.fin (Fin.ro (.f rfl rfl .nil) rfl (of_decide_eq_true (by kernel_rfl)) (.no (.no .nil)) rfl (.inr rfl))
  · subst hx
    refine Px.bkR ?_
    refine Px.sqR ?_
    obtain rfl := sm h
    exact Px.fin (Fin.ro (.f rfl rfl .nil) rfl (of_decide_eq_true (by kernel_rfl)) (.no (.no .nil)) rfl (.inr rfl))
def pf81 (a0 : yuccaref9_maker) (a1 : Sym) : Option (Int × yuccaref9_maker) :=
 (pf66 a0 a1).bind fun x1 =>
 (bif decide (0 ≤ x1) then
 some (x1, a0)
 else
 ((bif a1.Lit then
 (bidx a1.Name 0).bind fun x5 =>
 (pf82 a0 (w64 x5)).bind fun x6 =>
 ((bif decide (0 ≤ x6) then
 (pf65 a0 a1.At a1.Name).bind fun x9 =>
 some x9
 else
 some a0)).bind fun j7 =>
 some (j7, w64 x5)
 else
 some (a0, 0))).bind fun j3 =>
 (appO j3.1.f_g.Toks [(⟨a1.Name, a1.Lit, j3.2, 0, 0, { data := #[] }⟩ : Tok)]).bind fun x10 =>
 (appO j3.1.f_given [a1.Lit]).bind fun x11 =>
 some (w64 (((j3.1.f_g.Toks ++ [(⟨a1.Name, a1.Lit, j3.2, 0, 0, { data := #[] }⟩ : Tok)]).length : Int) - 1), (⟨(⟨j3.1.f_g.Toks ++ [(⟨a1.Name, a1.Lit, j3.2, 0, 0, { data := #[] }⟩ : Tok)], j3.1.f_g.Nons, j3.1.f_g.Prods, j3.1.f_g.Pro, j3.1.f_g.Tail⟩ : Grammar), j3.1.f_given ++ [a1.Lit], j3.1.f_types, j3.1.f_lefts, j3.1.f_e, j3.1.f_at, j3.1.f_name, j3.1.f_level, j3.1.f_inner⟩ : yuccaref9_maker)))
theorem con81 (a0 : yuccaref9_maker) (a1 : Sym) (r : Int × yuccaref9_maker) (h : pf81 a0 a1 = some r) : Con Try.prog 81 [.obj (eyuccaref9_maker_r.cells a0), .agg (eSym.cells a1)] [some (.obj [oR eTok r.2.f_g.Toks, oR eNon r.2.f_g.Nons, oR eProd_0 r.2.f_g.Prods, SS r.2.f_g.Pro, SS r.2.f_g.Tail, oR eB r.2.f_given, oR eNon r.2.f_types, oR eS r.2.f_lefts, I64 r.2.f_e, I64 r.2.f_at, SS r.2.f_name, I64 r.2.f_level, I64 r.2.f_inner]), none] (I64 r.1) := by
  unfold pf81 at h
  refine Con.go (N := ⟨66, [0]⟩) Try.func81 rfl rfl rfl rfl (W.fin ?_)
  refine W.st [(0, .obj (eyuccaref9_maker_r.cells a0)), (1, .agg (eSym.cells a1))] ?_
  refine W.sq' ?_
  refine W.rx [(0, _), (3, _)] (Rv (O.box (.aggF rfl rfl) rfl) <| Rv (O.as (.k rfl)) <| RunL.fin (.n rfl (.n rfl .nil))) ?_
  refine Px.sq ?_
  refine W.sq' ?_
  obtain ⟨x1, hx1, h⟩ := bnd h
  refine W.rx [(0, _), (3, _), (5, _)] (Rv (O.mv (.obj rfl)) <| Rv (O.ldON (cs' := [SS a1.Name, BB a1.Lit, I64 a1.Num, I64 a1.At]) rfl (.obj rfl) at91 rfl rfl) <| Rc (PC.vw (ys := [.ptr ⟨0, []⟩ 0, .agg (eSym.cells a1)]) rfl (.c (View.p0 rfl rfl) (.c (.ag (.s (.s (.s (.s .nil))))) .nil)) (con66 a0 a1 _ hx1) call66 rfl) <| Rv (O.as (.lit rfl)) <| RunL.fin (.n rfl (.n rfl (.n rfl .nil)))) ?_
  refine Px.sq ?_
  refine W.sq' ?_
  refine W.sq' ?_
  refine W.rx [(0, _), (3, _), (5, _), (11, _)] (Rv (O.mv (.lit rfl)) <| Rv (O.geq (.lit rfl) (.k rfl)) <| RunL.fin (.n rfl (.n rfl (.n rfl (.n rfl .nil))))) ?_
  refine Px.sq ?_
  refine W.cnd rfl (fun hb2 => ?_) (fun hb2 => ?_)
  · replace h := cndT hb2 h
    refine W.sq' ?_
    refine W.rx [(0, _), (4, _)] (Rv (O.mv (.lit rfl)) <| Rv (O.as (.lit rfl)) <| RunL.fin (.n rfl (.n rfl .nil))) ?_
    refine Px.sq ?_
    refine W.rt ?_
    refine Px.sqR ?_
    obtain rfl := sm h
    exact Px.fin (Fin.ro (.f rfl rfl .nil) rfl (of_decide_eq_true (by kernel_rfl)) (.so rfl rfl (.no .nil)) rfl (.inr rfl))
  · replace h := cndF hb2 h
    refine W.sk ?_
    refine Px.sq ?_
    refine W.sq' ?_
    refine W.rx [(0, _), (3, _), (6, _)] (Rv (O.fO rfl (.obj rfl) fd91_0 rfl) <| Rv (O.ldO (y := SS a1.Name) rfl (.ptr rfl) ct9 rfl rfl) <| Rv (O.fO rfl (.obj rfl) fd91_1 rfl) <| Rv (O.ldO (y := BB a1.Lit) rfl (.ptr rfl) ct4 rfl rfl) <| Rv (O.bu (cs := [SS a1.Name, BB a1.Lit, I64 0, I64 0, I64 0, SS ({ data := #[] })]) sc52 ze52 rfl rfl rfl) <| Rv (O.al (cs := [SS ({ data := #[] }), BB false, I64 0, I64 0, I64 0, SS ({ data := #[] })]) ze52 rfl rfl) <| RunL.sO (G2 := [(0, .obj (eyuccaref9_maker_r.cells a0)), (3, .obj (eSym.cells a1)), (6, .obj [SS a1.Name, BB a1.Lit, I64 0, I64 0, I64 0, SS ({ data := #[] })])]) (cs2 := [SS a1.Name, BB a1.Lit, I64 0, I64 0, I64 0, SS ({ data := #[] })]) rfl (.obj rfl) (.aggF rfl rfl) rfl sz52 rfl rfl rfl rfl (.n rfl rfl (.n rfl rfl (.b rfl .nil))) <| RunL.fin (.n rfl (.n rfl (.n rfl .nil)))) ?_
    refine Px.sq ?_
    refine W.sq' ?_
    refine W.sq' ?_
    refine W.rx [(0, _), (3, _), (6, _), (19, _)] (Rv (O.fO rfl (.obj rfl) fd91_1 rfl) <| Rv (O.ldO (y := BB a1.Lit) rfl (.ptr rfl) ct4 rfl rfl) <| RunL.fin (.n rfl (.n rfl (.n rfl (.n rfl .nil))))) ?_
    refine Px.sq ?_
    obtain ⟨j3, hj, h⟩ := bnd h
    refine W.jn [(0, .obj (eyuccaref9_maker_r.cells j3.1)), (3, .obj (eSym.cells a1)), (6, .obj [SS a1.Name, BB a1.Lit, I64 j3.2, I64 0, I64 0, SS ({ data := #[] })])] ?_ ?_
    · clear h; have h := hj; clear hj
      refine W.cnd rfl (fun hb4 => ?_) (fun hb4 => ?_)
      · replace h := cndT hb4 h
        refine W.sq' ?_
        obtain ⟨x5, hx5, h⟩ := bnd h
        refine W.rx [(0, _), (3, _), (6, _)] (Rv (O.fO rfl (.obj rfl) fd91_0 rfl) <| Rv (O.ldO (y := SS a1.Name) rfl (.ptr rfl) ct9 rfl rfl) <| Rv (O.at' (.lit rfl) (.k rfl) st9 hx5) <| Rv (O.cvI (.lit rfl) it5 it3) <| Rv (O.fO rfl (.obj rfl) fd52_2 rfl) <| RunL.sO (G2 := [(0, .obj (eyuccaref9_maker_r.cells a0)), (3, .obj (eSym.cells a1)), (6, .obj [SS a1.Name, BB a1.Lit, I64 (w64 x5), I64 0, I64 0, SS ({ data := #[] })])]) (cs2 := [SS a1.Name, BB a1.Lit, I64 (w64 x5), I64 0, I64 0, SS ({ data := #[] })]) rfl (.ptr rfl) (.lit rfl) rfl sz3 rfl rfl rfl rfl (.n rfl rfl (.n rfl rfl (.b rfl .nil))) <| RunL.fin (.n rfl (.n rfl (.n rfl .nil)))) ?_
        refine Px.sq ?_
        refine W.sq' ?_
        obtain ⟨x6, hx6, h⟩ := bnd h
        refine W.rx [(0, _), (3, _), (6, _), (29, _)] (Rv (O.mv (.obj rfl)) <| Rv (O.fO rfl (.obj rfl) fd52_2 rfl) <| Rv (O.ldO (y := I64 (w64 x5)) rfl (.ptr rfl) ct3 rfl rfl) <| Rc (PC.vw (ys := [.ptr ⟨0, []⟩ 0, I64 (w64 x5)]) rfl (.c (View.p0 rfl rfl) (.s .nil)) (con82 a0 (w64 x5) _ hx6) call82 rfl) <| Rv (O.geq (.lit rfl) (.k rfl)) <| RunL.fin (.n rfl (.n rfl (.n rfl (.n rfl .nil))))) ?_
        refine Px.sq ?_
        obtain ⟨j7, hj, h⟩ := bnd h
        refine W.jn [(0, .obj (eyuccaref9_maker_r.cells j7)), (3, .obj (eSym.cells a1)), (6, .obj [SS a1.Name, BB a1.Lit, I64 (w64 x5), I64 0, I64 0, SS ({ data := #[] })])] ?_ ?_
        · clear h; have h := hj; clear hj
          refine W.cnd rfl (fun hb8 => ?_) (fun hb8 => ?_)
          · replace h := cndT hb8 h
            obtain ⟨x9, hx9, h⟩ := bnd h
            refine W.rx [(0, _), (3, _), (6, _)] (Rv (O.mv (.obj rfl)) <| Rv (O.fO rfl (.obj rfl) fd91_3 rfl) <| Rv (O.ldO (y := I64 a1.At) rfl (.ptr rfl) ct3 rfl rfl) <| Rv (O.fO rfl (.obj rfl) fd91_0 rfl) <| Rv (O.ldO (y := SS a1.Name) rfl (.ptr rfl) ct9 rfl rfl) <| RunL.ef (G2 := [(35, .tup []), (0, .obj [oR eTok x9.f_g.Toks, oR eNon x9.f_g.Nons, oR eProd_0 x9.f_g.Prods, SS x9.f_g.Pro, SS x9.f_g.Tail, oR eB x9.f_given, oR eNon x9.f_types, oR eS x9.f_lefts, I64 x9.f_e, I64 x9.f_at, SS x9.f_name, I64 x9.f_level, I64 x9.f_inner]), (3, .obj (eSym.cells a1)), (6, .obj [SS a1.Name, BB a1.Lit, I64 (w64 x5), I64 0, I64 0, SS ({ data := #[] })])]) rfl (EO.call rfl rfl (CallOk.ln (G2 := [(3, .obj (eSym.cells a1)), (6, .obj [SS a1.Name, BB a1.Lit, I64 (w64 x5), I64 0, I64 0, SS ({ data := #[] })])]) (A := []) (ys := [.ptr ⟨0, []⟩ 0, I64 a1.At, SS a1.Name]) (args := [.obj (eyuccaref9_maker_r.cells a0), I64 a1.At, SS a1.Name]) (cs' := [oR eTok x9.f_g.Toks, oR eNon x9.f_g.Nons, oR eProd_0 x9.f_g.Prods, SS x9.f_g.Pro, SS x9.f_g.Tail, oR eB x9.f_given, oR eNon x9.f_types, oR eS x9.f_lefts, I64 x9.f_e, I64 x9.f_at, SS x9.f_name, I64 x9.f_level, I64 x9.f_inner]) (k0 := 0) rfl rfl rfl rfl (.b rfl (.n rfl (.n rfl .nil))) rfl (con65 a0 a1.At a1.Name _ hx9) call65 (.n rfl (.n rfl .nil)) rfl rfl (.n rfl (.n rfl .nil)) .nil rfl)) <| RunL.fin (.n rfl (.n rfl (.n rfl .nil)))) ?_
            obtain rfl := sm h
            exact Px.jn (.n rfl (.n rfl (.n rfl .nil)))
          · replace h := cndF hb8 h
            refine W.sk ?_
            obtain rfl := sm h
            exact Px.jn (.n rfl (.n rfl (.n rfl .nil)))
        obtain rfl := sm h
        exact Px.jn (.n rfl (.n rfl (.n rfl .nil)))
      · replace h := cndF hb4 h
        refine W.sk ?_
        obtain rfl := sm h
        exact Px.jn (.n rfl (.n rfl (.n rfl .nil)))
    refine Px.sq ?_
    refine W.sq' ?_
    obtain ⟨x10, hx10, h⟩ := bnd h
    refine W.rd [[], [], [1], [1, 2], [1, 2, 3], [1, 2, 3, 4], [], [6], rn 1 7 [], rn 0 9 [], rn 0 10 [], rn 0 11 [], rn 0 12 []] [(0, _), (3, _)] mixo (by kernel_rfl) (Dv 0 (O.mv (.obj rfl)) <| Dv 1 (O.mv (.obj rfl)) <| Dv 2 (O.nlP (.ptr rfl)) <| Dv 3 (O.fO rfl (.ptr rfl) fd128_0 rfl) <| Dv 4 (O.fO rfl (.ptr rfl) fd38_0 rfl) <| Dv 5 (O.ldO (y := .brw eTok.z ⟨0, [0]⟩ j3.1.f_g.Toks.length) rfl (.ptr rfl) ct34 rfl rfl) <| Dv 6 (O.ldON (cs' := [SS a1.Name, BB a1.Lit, I64 j3.2, I64 0, I64 0, SS ({ data := #[] })]) rfl (.obj rfl) at52 rfl rfl) <| DL.vi 7 (x := iR eTok [(⟨a1.Name, a1.Lit, j3.2, 0, 0, { data := #[] }⟩ : Tok)]) (O.bs (ys := [.agg [SS a1.Name, BB a1.Lit, I64 j3.2, I64 0, I64 0, SS ({ data := #[] })]]) eTok [(⟨a1.Name, a1.Lit, j3.2, 0, 0, { data := #[] }⟩ : Tok)] sl34 rfl rfl rfl rfl rfl rfl zt52 rfl rfl) rfl rfl rfl rfl .none <| Dv 8 (O.ap (en := eTok) (r := x10) (.brw rfl) rfl (.imm rfl) .i ap34 rfl hx10) <| Dv 9 (O.nlP (.ptr rfl)) <| Dv 10 (O.fO rfl (.ptr rfl) fd128_0 rfl) <| Dv 11 (O.fO rfl (.ptr rfl) fd38_0 rfl) <| DL.bp 12 (G2 := [(0, .obj [oR eTok (j3.1.f_g.Toks ++ [(⟨a1.Name, a1.Lit, j3.2, 0, 0, { data := #[] }⟩ : Tok)]), oR eNon j3.1.f_g.Nons, oR eProd_0 j3.1.f_g.Prods, SS j3.1.f_g.Pro, SS j3.1.f_g.Tail, oR eB j3.1.f_given, oR eNon j3.1.f_types, oR eS j3.1.f_lefts, I64 j3.1.f_e, I64 j3.1.f_at, SS j3.1.f_name, I64 j3.1.f_level, I64 j3.1.f_inner]), (3, .obj (eSym.cells a1))]) (EO.stP (g1 := _) (en := eTok) (M := [(⟨a1.Name, a1.Lit, j3.2, 0, 0, { data := #[] }⟩ : Tok)]) (cs2 := [oR eTok (j3.1.f_g.Toks ++ [(⟨a1.Name, a1.Lit, j3.2, 0, 0, { data := #[] }⟩ : Tok)]), oR eNon j3.1.f_g.Nons, oR eProd_0 j3.1.f_g.Prods, SS j3.1.f_g.Pro, SS j3.1.f_g.Tail, oR eB j3.1.f_given, oR eNon j3.1.f_types, oR eS j3.1.f_lefts, I64 j3.1.f_e, I64 j3.1.f_at, SS j3.1.f_name, I64 j3.1.f_level, I64 j3.1.f_inner]) rfl rfl (.ptr rfl) (.pend rfl) rfl rfl rfl .ns .rf rfl rfl sz34 rfl rfl rfl rfl (.b rfl (.n rfl rfl .nil))) rfl rfl rfl rfl (by kernel_rfl) (by kernel_rfl) <| DL.fin rfl rfl rfl (.n rfl (.n rfl .nil))) ?_
    refine Px.sq ?_
    refine W.sq' ?_
    obtain ⟨x11, hx11, h⟩ := bnd h
    refine W.rd [[], [], [1], [1, 2], [1, 2, 3], [], [5], [5, 6], rn 1 7 [], rn 0 9 [], rn 0 10 [], rn 0 11 []] [(0, _)] mixo (by kernel_rfl) (Dv 0 (O.mv (.obj rfl)) <| Dv 1 (O.mv (.obj rfl)) <| Dv 2 (O.nlP (.ptr rfl)) <| Dv 3 (O.fO rfl (.ptr rfl) fd128_1 rfl) <| Dv 4 (O.ldO (y := .brw eB.z ⟨0, [5]⟩ j3.1.f_given.length) rfl (.ptr rfl) ct102 rfl rfl) <| Dv 5 (O.fO rfl (.obj rfl) fd91_1 rfl) <| Dv 6 (O.ldO (y := BB a1.Lit) rfl (.ptr rfl) ct4 rfl rfl) <| DL.vi 7 (x := iR eB [a1.Lit]) (O.bs (ys := [BB a1.Lit]) eB [a1.Lit] sl102 rfl rfl rfl rfl rfl rfl zt4 rfl rfl) rfl rfl rfl rfl .none <| Dv 8 (O.ap (en := eB) (r := x11) (.brw rfl) rfl (.imm rfl) .i ap102 rfl hx11) <| Dv 9 (O.nlP (.ptr rfl)) <| Dv 10 (O.fO rfl (.ptr rfl) fd128_1 rfl) <| DL.bp 11 (G2 := [(0, .obj [oR eTok (j3.1.f_g.Toks ++ [(⟨a1.Name, a1.Lit, j3.2, 0, 0, { data := #[] }⟩ : Tok)]), oR eNon j3.1.f_g.Nons, oR eProd_0 j3.1.f_g.Prods, SS j3.1.f_g.Pro, SS j3.1.f_g.Tail, oR eB (j3.1.f_given ++ [a1.Lit]), oR eNon j3.1.f_types, oR eS j3.1.f_lefts, I64 j3.1.f_e, I64 j3.1.f_at, SS j3.1.f_name, I64 j3.1.f_level, I64 j3.1.f_inner])]) (EO.stP (g1 := _) (en := eB) (M := [a1.Lit]) (cs2 := [oR eTok (j3.1.f_g.Toks ++ [(⟨a1.Name, a1.Lit, j3.2, 0, 0, { data := #[] }⟩ : Tok)]), oR eNon j3.1.f_g.Nons, oR eProd_0 j3.1.f_g.Prods, SS j3.1.f_g.Pro, SS j3.1.f_g.Tail, oR eB (j3.1.f_given ++ [a1.Lit]), oR eNon j3.1.f_types, oR eS j3.1.f_lefts, I64 j3.1.f_e, I64 j3.1.f_at, SS j3.1.f_name, I64 j3.1.f_level, I64 j3.1.f_inner]) rfl rfl (.ptr rfl) (.pend rfl) rfl rfl rfl .ns .rf rfl rfl sz102 rfl rfl rfl rfl (.b rfl .nil)) rfl rfl rfl rfl (by kernel_rfl) (by kernel_rfl) <| DL.fin rfl rfl rfl (.n rfl .nil)) ?_
    refine Px.sq ?_
    refine W.sq' ?_
    refine W.rx [(0, _), (4, _)] (Rv (O.mv (.obj rfl)) <| Rv (O.nlP (.ptr rfl)) <| Rv (O.fO rfl (.ptr rfl) fd128_0 rfl) <| Rv (O.fO rfl (.ptr rfl) fd38_0 rfl) <| Rv (O.ldO (y := .brw eTok.z ⟨0, [0]⟩ (j3.1.f_g.Toks ++ [(⟨a1.Name, a1.Lit, j3.2, 0, 0, { data := #[] }⟩ : Tok)]).length) rfl (.ptr rfl) ct34 rfl rfl) <| Rv (O.lenO (.brw rfl) sl34) <| Rv (O.sub (.lit rfl) (.k rfl)) <| Rv (O.as (.lit rfl)) <| RunL.fin (.n rfl (.n rfl .nil))) ?_
    refine Px.sq ?_
    refine W.rt ?_
    obtain rfl := sm h
    exact Px.fin (Fin.ro (.f rfl rfl .nil) rfl (of_decide_eq_true (by kernel_rfl)) (.so rfl rfl (.no .nil)) rfl (.inr rfl))
theorem conq65_0 (v : Value) (a0 : yuccaref9_maker) (a1 : Int) (a2 : ByteArray) (r : yuccaref9_maker) (h : pf65 a0 a1 a2 = some r) : Con Try.prog 65 [.obj [.lit v, oR eNon a0.f_g.Nons, oR eProd_0 a0.f_g.Prods, SS a0.f_g.Pro, SS a0.f_g.Tail, oR eB a0.f_given, oR eNon a0.f_types, oR eS a0.f_lefts, I64 a0.f_e, I64 a0.f_at, SS a0.f_name, I64 a0.f_level, I64 a0.f_inner], I64 a1, SS a2] [some (.obj [.lit v, oR eNon r.f_g.Nons, oR eProd_0 r.f_g.Prods, SS r.f_g.Pro, SS r.f_g.Tail, oR eB r.f_given, oR eNon r.f_types, oR eS r.f_lefts, I64 r.f_e, I64 r.f_at, SS r.f_name, I64 r.f_level, I64 r.f_inner]), none, none] (.tup []) := by
  unfold pf65 at h
  refine Con.go (N := ⟨22, [0]⟩) Try.func65 rfl rfl rfl rfl (W.fin ?_)
  refine W.st [(0, .obj [.lit v, oR eNon a0.f_g.Nons, oR eProd_0 a0.f_g.Prods, SS a0.f_g.Pro, SS a0.f_g.Tail, oR eB a0.f_given, oR eNon a0.f_types, oR eS a0.f_lefts, I64 a0.f_e, I64 a0.f_at, SS a0.f_name, I64 a0.f_level, I64 a0.f_inner]), (1, I64 a1), (2, SS a2)] ?_
  refine W.sq' ?_
  refine W.rx [(0, _), (1, _), (2, _), (10, _)] (Rv (O.mv (.obj rfl)) <| Rv (O.nlP (.ptr rfl)) <| Rv (O.fO rfl (.ptr rfl) fd128_4 rfl) <| Rv (O.ldO (y := I64 a0.f_e) rfl (.ptr rfl) ct3 rfl rfl) <| Rv (O.eql (.lit rfl) (.k rfl)) <| RunL.fin (.n rfl (.n rfl (.n rfl (.n rfl .nil))))) ?_
  refine Px.sq ?_
  obtain ⟨j1, hj, h⟩ := bnd h
  refine W.jn [(0, .obj [.lit v, oR eNon j1.f_g.Nons, oR eProd_0 j1.f_g.Prods, SS j1.f_g.Pro, SS j1.f_g.Tail, oR eB j1.f_given, oR eNon j1.f_types, oR eS j1.f_lefts, I64 j1.f_e, I64 j1.f_at, SS j1.f_name, I64 j1.f_level, I64 j1.f_inner])] ?_ ?_
  · clear h; have h := hj; clear hj
    refine W.cnd rfl (fun hb2 => ?_) (fun hb2 => ?_)
    · replace h := cndT hb2 h
      refine W.rx [(0, _)] (Rv (O.mv (.obj rfl)) <| Rv (O.mv (.obj rfl)) <| Rv (O.mv (.obj rfl)) <| Rv (O.mv (.lit rfl)) <| Rv (O.mv (.lit rfl)) <| Rv (O.nlP (.ptr rfl)) <| Rv (O.fO rfl (.ptr rfl) fd128_4 rfl) <| RunL.sO (G2 := [(0, .obj [.lit v, oR eNon a0.f_g.Nons, oR eProd_0 a0.f_g.Prods, SS a0.f_g.Pro, SS a0.f_g.Tail, oR eB a0.f_given, oR eNon a0.f_types, oR eS a0.f_lefts, I64 3, I64 a0.f_at, SS a0.f_name, I64 a0.f_level, I64 a0.f_inner]), (12, .ptr ⟨0, []⟩ 0), (13, .ptr ⟨0, []⟩ 0), (14, I64 a1), (15, SS a2)]) (cs2 := [.lit v, oR eNon a0.f_g.Nons, oR eProd_0 a0.f_g.Prods, SS a0.f_g.Pro, SS a0.f_g.Tail, oR eB a0.f_given, oR eNon a0.f_types, oR eS a0.f_lefts, I64 3, I64 a0.f_at, SS a0.f_name, I64 a0.f_level, I64 a0.f_inner]) rfl (.ptr rfl) (.k rfl) rfl sz3 rfl rfl rfl rfl (.b rfl (.p rfl rfl rfl rfl rfl rfl (.p rfl rfl rfl rfl rfl rfl (.n rfl rfl (.n rfl rfl .nil))))) <| Rv (O.nlP (.ptr rfl)) <| Rv (O.fO rfl (.ptr rfl) fd128_5 rfl) <| RunL.sO (G2 := [(0, .obj [.lit v, oR eNon a0.f_g.Nons, oR eProd_0 a0.f_g.Prods, SS a0.f_g.Pro, SS a0.f_g.Tail, oR eB a0.f_given, oR eNon a0.f_types, oR eS a0.f_lefts, I64 3, I64 a1, SS a0.f_name, I64 a0.f_level, I64 a0.f_inner]), (13, .ptr ⟨0, []⟩ 0), (15, SS a2)]) (cs2 := [.lit v, oR eNon a0.f_g.Nons, oR eProd_0 a0.f_g.Prods, SS a0.f_g.Pro, SS a0.f_g.Tail, oR eB a0.f_given, oR eNon a0.f_types, oR eS a0.f_lefts, I64 3, I64 a1, SS a0.f_name, I64 a0.f_level, I64 a0.f_inner]) rfl (.ptr rfl) (.lit rfl) rfl sz3 rfl rfl rfl rfl (.b rfl (.p rfl rfl rfl rfl rfl rfl (.n rfl rfl .nil))) <| Rv (O.nlP (.ptr rfl)) <| Rv (O.fO rfl (.ptr rfl) fd128_6 rfl) <| RunL.sO (G2 := [(0, .obj [.lit v, oR eNon a0.f_g.Nons, oR eProd_0 a0.f_g.Prods, SS a0.f_g.Pro, SS a0.f_g.Tail, oR eB a0.f_given, oR eNon a0.f_types, oR eS a0.f_lefts, I64 3, I64 a1, SS a2, I64 a0.f_level, I64 a0.f_inner])]) (cs2 := [.lit v, oR eNon a0.f_g.Nons, oR eProd_0 a0.f_g.Prods, SS a0.f_g.Pro, SS a0.f_g.Tail, oR eB a0.f_given, oR eNon a0.f_types, oR eS a0.f_lefts, I64 3, I64 a1, SS a2, I64 a0.f_level, I64 a0.f_inner]) rfl (.ptr rfl) (.lit rfl) rfl sz9 rfl rfl rfl rfl (.b rfl .nil) <| RunL.fin (.n rfl .nil)) ?_
      obtain rfl := sm h
      exact Px.jn (.n rfl .nil)
    · replace h := cndF hb2 h
      refine W.sk ?_
      obtain rfl := sm h
      exact Px.jn (.n rfl .nil)
  obtain rfl := sm h
  exact Px.fin (Fin.ro .nil rfl (of_decide_eq_true (by kernel_rfl)) (.so rfl rfl (.no (.no .nil))) rfl (.inl rfl))
def pf64 (a0 : yuccaref9_maker) (a1 : Decl) (a2 : Sym) : Option (yuccaref9_maker) :=
 (bif decide (a1.Kind = 5) then
 (pf69 a0 a2.Name).bind fun x2 =>
 ((bif decide (x2 < 0) then
 (appO a0.f_types [(⟨a2.Name, a1.Tag⟩ : Non)]).bind fun x5 =>
 some (⟨a0.f_g, a0.f_given, a0.f_types ++ [(⟨a2.Name, a1.Tag⟩ : Non)], a0.f_lefts, a0.f_e, a0.f_at, a0.f_name, a0.f_level, a0.f_inner⟩ : yuccaref9_maker)
 else
 (idx a0.f_types x2).bind fun x6 =>
 ((bif !decide (x6.Tag = a1.Tag) then
 (pf65 a0 a2.At a2.Name).bind fun x9 =>
 some x9
 else
 some a0)).bind fun j7 =>
 some j7)).bind fun j3 =>
 some j3
 else
 (pf81 a0 a2).bind fun x10 =>
 (idx x10.2.f_g.Toks x10.1).bind fun x11 =>
 ((bif !decide (a1.Kind = 1) then
 ((bif decide (0 < x11.Level) then
 (pf65 x10.2 a2.At a2.Name).bind fun x16 =>
 some (⟨(⟨x10.2.f_g.Toks, x16.f_g.Nons, x16.f_g.Prods, x16.f_g.Pro, x16.f_g.Tail⟩ : Grammar), x16.f_given, x16.f_types, x16.f_lefts, x16.f_e, x16.f_at, x16.f_name, x16.f_level, x16.f_inner⟩ : yuccaref9_maker)
 else
 some x10.2)).bind fun j14 =>
 (idx j14.f_g.Toks x10.1).bind fun x17 =>
 some (⟨(⟨(j14.f_g.Toks.set x10.1.toNat (⟨x17.Name, x17.Lit, x17.Num, j14.f_level, x17.Assoc, x17.Tag⟩ : Tok)).set x10.1.toNat (⟨(⟨x17.Name, x17.Lit, x17.Num, j14.f_level, x17.Assoc, x17.Tag⟩ : Tok).Name, (⟨x17.Name, x17.Lit, x17.Num, j14.f_level, x17.Assoc, x17.Tag⟩ : Tok).Lit, (⟨x17.Name, x17.Lit, x17.Num, j14.f_level, x17.Assoc, x17.Tag⟩ : Tok).Num, (⟨x17.Name, x17.Lit, x17.Num, j14.f_level, x17.Assoc, x17.Tag⟩ : Tok).Level, w64 (a1.Kind - 1), (⟨x17.Name, x17.Lit, x17.Num, j14.f_level, x17.Assoc, x17.Tag⟩ : Tok).Tag⟩ : Tok), j14.f_g.Nons, j14.f_g.Prods, j14.f_g.Pro, j14.f_g.Tail⟩ : Grammar), j14.f_given, j14.f_types, j14.f_lefts, j14.f_e, j14.f_at, j14.f_name, j14.f_level, j14.f_inner⟩ : yuccaref9_maker)
 else
 some x10.2)).bind fun j12 =>
 (idx j12.f_g.Toks x10.1).bind fun x18 =>
 ((bif decide (0 < a2.Num) then
 ((bif decide (x10.1 = 1) then some true else ((idx j12.f_given x10.1).bind fun x22 => (bif x22 then some true else ((pf82 j12 a2.Num).bind fun x24 => some (decide (0 ≤ x24))))))).bind fun c25 =>
 ((bif c25 then
 (pf65 j12 a2.At a2.Name).bind fun x28 =>
 some (⟨(⟨j12.f_g.Toks, x28.f_g.Nons, x28.f_g.Prods, x28.f_g.Pro, x28.f_g.Tail⟩ : Grammar), x28.f_given, x28.f_types, x28.f_lefts, x28.f_e, x28.f_at, x28.f_name, x28.f_level, x28.f_inner⟩ : yuccaref9_maker)
 else
 some j12)).bind fun j26 =>
 (idx j26.f_g.Toks x10.1).bind fun x29 =>
 (idx j26.f_given x10.1).bind fun x30 =>
 some (⟨(⟨j26.f_g.Toks.set x10.1.toNat (⟨x29.Name, x29.Lit, a2.Num, x29.Level, x29.Assoc, x29.Tag⟩ : Tok), j26.f_g.Nons, j26.f_g.Prods, j26.f_g.Pro, j26.f_g.Tail⟩ : Grammar), j26.f_given.set x10.1.toNat true, j26.f_types, j26.f_lefts, j26.f_e, j26.f_at, j26.f_name, j26.f_level, j26.f_inner⟩ : yuccaref9_maker)
 else
 some j12)).bind fun j19 =>
 (idx j19.f_g.Toks x10.1).bind fun x31 =>
 ((bif !decide (a1.Tag = { data := #[] }) then
 ((bif !decide (x31.Tag = { data := #[] }) then some (!decide (x31.Tag = a1.Tag)) else some false)).bind fun c35 =>
 ((bif c35 then
 (pf65 j19 a2.At a2.Name).bind fun x38 =>
 some (⟨(⟨j19.f_g.Toks, x38.f_g.Nons, x38.f_g.Prods, x38.f_g.Pro, x38.f_g.Tail⟩ : Grammar), x38.f_given, x38.f_types, x38.f_lefts, x38.f_e, x38.f_at, x38.f_name, x38.f_level, x38.f_inner⟩ : yuccaref9_maker)
 else
 some j19)).bind fun j36 =>
 (idx j36.f_g.Toks x10.1).bind fun x39 =>
 some (⟨(⟨j36.f_g.Toks.set x10.1.toNat (⟨x39.Name, x39.Lit, x39.Num, x39.Level, x39.Assoc, a1.Tag⟩ : Tok), j36.f_g.Nons, j36.f_g.Prods, j36.f_g.Pro, j36.f_g.Tail⟩ : Grammar), j36.f_given, j36.f_types, j36.f_lefts, j36.f_e, j36.f_at, j36.f_name, j36.f_level, j36.f_inner⟩ : yuccaref9_maker)
 else
 some j19)).bind fun j32 =>
 some j32)
theorem con64 (a0 : yuccaref9_maker) (a1 : Decl) (a2 : Sym) (r : yuccaref9_maker) (h : pf64 a0 a1 a2 = some r) : Con Try.prog 64 [.obj (eyuccaref9_maker_r.cells a0), .agg (eDecl_0.cells a1), .agg (eSym.cells a2)] [some (.obj [oR eTok r.f_g.Toks, oR eNon r.f_g.Nons, oR eProd_0 r.f_g.Prods, SS r.f_g.Pro, SS r.f_g.Tail, oR eB r.f_given, oR eNon r.f_types, oR eS r.f_lefts, I64 r.f_e, I64 r.f_at, SS r.f_name, I64 r.f_level, I64 r.f_inner]), none, none] (.tup []) := by
  unfold pf64 at h
  refine Con.go (N := ⟨152, [0]⟩) Try.func64 rfl rfl rfl rfl (W.fin ?_)
  refine W.st [(0, .obj (eyuccaref9_maker_r.cells a0)), (1, .agg (eDecl_0.cells a1)), (2, .agg (eSym.cells a2))] ?_
  refine W.sq' ?_
  refine W.rx [(0, _), (4, _), (5, _)] (Rv (O.box (.aggF rfl rfl) rfl) <| Rv (O.box (.aggF rfl rfl) rfl) <| RunL.fin (.n rfl (.n rfl (.n rfl .nil)))) ?_
  refine Px.sq ?_
  refine W.sq' ?_
  refine W.sq' ?_
  refine W.rx [(0, _), (4, _), (5, _), (11, _)] (Rv (O.fO rfl (.obj rfl) fd89_0 rfl) <| Rv (O.ldO (y := I64 a1.Kind) rfl (.ptr rfl) ct3 rfl rfl) <| Rv (O.eql (.lit rfl) (.k rfl)) <| RunL.fin (.n rfl (.n rfl (.n rfl (.n rfl .nil))))) ?_
  refine Px.sq ?_
  refine W.cnd rfl (fun hb1 => ?_) (fun hb1 => ?_)
  · replace h := cndT hb1 h
    refine W.sq' ?_
    obtain ⟨x2, hx2, h⟩ := bnd h
    refine W.rx [(0, _), (4, _), (5, _), (6, _)] (Rv (O.mv (.obj rfl)) <| Rv (O.fO rfl (.obj rfl) fd91_0 rfl) <| Rv (O.ldO (y := SS a2.Name) rfl (.ptr rfl) ct9 rfl rfl) <| Rc (PC.vw (ys := [.ptr ⟨0, []⟩ 0, SS a2.Name]) rfl (.c (View.p0 rfl rfl) (.s .nil)) (con69 a0 a2.Name _ hx2) call69 rfl) <| Rv (O.as (.lit rfl)) <| RunL.fin (.n rfl (.n rfl (.n rfl (.n rfl .nil))))) ?_
    refine Px.sq ?_
    refine W.sq' ?_
    refine W.sq' ?_
    refine W.rx [(0, _), (4, _), (5, _), (6, _), (17, _)] (Rv (O.mv (.lit rfl)) <| Rv (O.lss (.lit rfl) (.k rfl)) <| RunL.fin (.n rfl (.n rfl (.n rfl (.n rfl (.n rfl .nil)))))) ?_
    refine Px.sq ?_
    obtain ⟨j3, hj, h⟩ := bnd h
    refine W.jn [(0, .obj (eyuccaref9_maker_r.cells j3))] ?_ ?_
    · clear h; have h := hj; clear hj
      refine W.cnd rfl (fun hb4 => ?_) (fun hb4 => ?_)
      · replace h := cndT hb4 h
        obtain ⟨x5, hx5, h⟩ := bnd h
        refine W.rd [[], [], [1], [1, 2], [1, 2, 3], [], [5], [], [7], [5, 6, 7, 8], rn 5 5 [], rn 1 10 [], rn 0 12 [], rn 0 13 [], rn 0 14 []] [(0, _)] mixo (by kernel_rfl) (Dv 0 (O.mv (.obj rfl)) <| Dv 1 (O.mv (.obj rfl)) <| Dv 2 (O.nlP (.ptr rfl)) <| Dv 3 (O.fO rfl (.ptr rfl) fd128_2 rfl) <| Dv 4 (O.ldO (y := .brw eNon.z ⟨0, [6]⟩ a0.f_types.length) rfl (.ptr rfl) ct35 rfl rfl) <| Dv 5 (O.fO rfl (.obj rfl) fd91_0 rfl) <| Dv 6 (O.ldO (y := SS a2.Name) rfl (.ptr rfl) ct9 rfl rfl) <| Dv 7 (O.fO rfl (.obj rfl) fd89_1 rfl) <| Dv 8 (O.ldO (y := SS a1.Tag) rfl (.ptr rfl) ct9 rfl rfl) <| Dv 9 (O.bu (cs := [SS a2.Name, SS a1.Tag]) sc135 ze135 rfl rfl rfl) <| DL.vi 10 (x := iR eNon [(⟨a2.Name, a1.Tag⟩ : Non)]) (O.bs (ys := [.agg [SS a2.Name, SS a1.Tag]]) eNon [(⟨a2.Name, a1.Tag⟩ : Non)] sl35 rfl rfl rfl rfl rfl rfl zt135 rfl rfl) rfl rfl rfl rfl .none <| Dv 11 (O.ap (en := eNon) (r := x5) (.brw rfl) rfl (.imm rfl) .i ap35 rfl hx5) <| Dv 12 (O.nlP (.ptr rfl)) <| Dv 13 (O.fO rfl (.ptr rfl) fd128_2 rfl) <| DL.bp 14 (G2 := [(0, .obj [oR eTok a0.f_g.Toks, oR eNon a0.f_g.Nons, oR eProd_0 a0.f_g.Prods, SS a0.f_g.Pro, SS a0.f_g.Tail, oR eB a0.f_given, oR eNon (a0.f_types ++ [(⟨a2.Name, a1.Tag⟩ : Non)]), oR eS a0.f_lefts, I64 a0.f_e, I64 a0.f_at, SS a0.f_name, I64 a0.f_level, I64 a0.f_inner])]) (EO.stP (g1 := _) (en := eNon) (M := [(⟨a2.Name, a1.Tag⟩ : Non)]) (cs2 := [oR eTok a0.f_g.Toks, oR eNon a0.f_g.Nons, oR eProd_0 a0.f_g.Prods, SS a0.f_g.Pro, SS a0.f_g.Tail, oR eB a0.f_given, oR eNon (a0.f_types ++ [(⟨a2.Name, a1.Tag⟩ : Non)]), oR eS a0.f_lefts, I64 a0.f_e, I64 a0.f_at, SS a0.f_name, I64 a0.f_level, I64 a0.f_inner]) rfl rfl (.ptr rfl) (.pend rfl) rfl rfl rfl .ns .rf rfl rfl sz35 rfl rfl rfl rfl (.b rfl .nil)) rfl rfl rfl rfl (by kernel_rfl) (by kernel_rfl) <| DL.fin rfl rfl rfl (.n rfl .nil)) ?_
        obtain rfl := sm h
        exact Px.jn (.n rfl .nil)
      · replace h := cndF hb4 h
        refine W.sq' ?_
        obtain ⟨x6, hx6, h⟩ := bnd h
        refine W.rd [[], [0], [0, 1], [0, 1, 2], [], rn 0 5 [], rn 0 6 [], rn 0 7 [], [], [8], rn 0 10 []] [(0, _), (5, _), (42, _)] mixo (by kernel_rfl) (Dv 0 (O.mv (.obj rfl)) <| Dv 1 (O.nlP (.ptr rfl)) <| Dv 2 (O.fO rfl (.ptr rfl) fd128_2 rfl) <| Dv 3 (O.ldO (y := .brw eNon.z ⟨0, [6]⟩ a0.f_types.length) rfl (.ptr rfl) ct35 rfl rfl) <| Dv 4 (O.mv (.lit rfl)) <| Dv 5 (O.ixO (en := eNon) rfl (.brw rfl) (.lit rfl) sl35 hx6 rfl) <| Dv 6 (O.fE (en := eNon) rfl (.ptr rfl) fd135_1 hx6 rfl rfl) <| Dv 7 (O.ldE (en := eNon) (x' := SS x6.Tag) rfl (.ptr rfl) ct9 hx6 rfl rfl) <| Dv 8 (O.fO rfl (.obj rfl) fd89_1 rfl) <| Dv 9 (O.ldO (y := SS a1.Tag) rfl (.ptr rfl) ct9 rfl rfl) <| Dv 10 (O.neS (.lit rfl) (.lit rfl)) <| DL.fin rfl rfl rfl (.n rfl (.n rfl (.n rfl .nil)))) ?_
        refine Px.sq ?_
        obtain ⟨j7, hj, h⟩ := bnd h
        refine W.jn [(0, .obj (eyuccaref9_maker_r.cells j7))] ?_ ?_
        · clear h; have h := hj; clear hj
          refine W.cnd rfl (fun hb8 => ?_) (fun hb8 => ?_)
          · replace h := cndT hb8 h
            obtain ⟨x9, hx9, h⟩ := bnd h
            refine W.rx [(0, _)] (Rv (O.mv (.obj rfl)) <| Rv (O.fO rfl (.obj rfl) fd91_3 rfl) <| Rv (O.ldO (y := I64 a2.At) rfl (.ptr rfl) ct3 rfl rfl) <| Rv (O.fO rfl (.obj rfl) fd91_0 rfl) <| Rv (O.ldO (y := SS a2.Name) rfl (.ptr rfl) ct9 rfl rfl) <| RunL.ef (G2 := [(48, .tup []), (0, .obj [oR eTok x9.f_g.Toks, oR eNon x9.f_g.Nons, oR eProd_0 x9.f_g.Prods, SS x9.f_g.Pro, SS x9.f_g.Tail, oR eB x9.f_given, oR eNon x9.f_types, oR eS x9.f_lefts, I64 x9.f_e, I64 x9.f_at, SS x9.f_name, I64 x9.f_level, I64 x9.f_inner])]) rfl (EO.call rfl rfl (CallOk.ln (G2 := []) (A := []) (ys := [.ptr ⟨0, []⟩ 0, I64 a2.At, SS a2.Name]) (args := [.obj (eyuccaref9_maker_r.cells a0), I64 a2.At, SS a2.Name]) (cs' := [oR eTok x9.f_g.Toks, oR eNon x9.f_g.Nons, oR eProd_0 x9.f_g.Prods, SS x9.f_g.Pro, SS x9.f_g.Tail, oR eB x9.f_given, oR eNon x9.f_types, oR eS x9.f_lefts, I64 x9.f_e, I64 x9.f_at, SS x9.f_name, I64 x9.f_level, I64 x9.f_inner]) (k0 := 0) rfl rfl rfl rfl (.b rfl (.n rfl (.n rfl .nil))) rfl (con65 a0 a2.At a2.Name _ hx9) call65 .nil rfl rfl .nil .nil rfl)) <| RunL.fin (.n rfl .nil)) ?_
            obtain rfl := sm h
            exact Px.jn (.n rfl .nil)
          · replace h := cndF hb8 h
            refine W.sk ?_
            obtain rfl := sm h
            exact Px.jn (.n rfl .nil)
        obtain rfl := sm h
        exact Px.jn (.n rfl .nil)
    refine Px.sq ?_
    refine W.rt ?_
    refine Px.sqR ?_
    obtain rfl := sm h
    exact Px.fin (Fin.ro .nil rfl (of_decide_eq_true (by kernel_rfl)) (.so rfl rfl (.no (.no .nil))) rfl (.inr rfl))
  · replace h := cndF hb1 h
    refine W.sk ?_
    refine Px.sq ?_
    refine W.sq' ?_
    obtain ⟨x10, hx10, h⟩ := bnd h
    refine W.rx [(0, _), (4, _), (5, _), (7, _)] (Rv (O.mv (.obj rfl)) <| Rv (O.ldON (cs' := [SS a2.Name, BB a2.Lit, I64 a2.Num, I64 a2.At]) rfl (.obj rfl) at91 rfl rfl) <| RunL.ef (G2 := [(51, I64 x10.1), (0, .obj [oR eTok x10.2.f_g.Toks, oR eNon x10.2.f_g.Nons, oR eProd_0 x10.2.f_g.Prods, SS x10.2.f_g.Pro, SS x10.2.f_g.Tail, oR eB x10.2.f_given, oR eNon x10.2.f_types, oR eS x10.2.f_lefts, I64 x10.2.f_e, I64 x10.2.f_at, SS x10.2.f_name, I64 x10.2.f_level, I64 x10.2.f_inner]), (4, .obj (eDecl_0.cells a1)), (5, .obj (eSym.cells a2))]) rfl (EO.call rfl rfl (CallOk.ln (G2 := [(4, .obj (eDecl_0.cells a1)), (5, .obj (eSym.cells a2))]) (A := []) (ys := [.ptr ⟨0, []⟩ 0, .agg (eSym.cells a2)]) (args := [.obj (eyuccaref9_maker_r.cells a0), .agg (eSym.cells a2)]) (cs' := [oR eTok x10.2.f_g.Toks, oR eNon x10.2.f_g.Nons, oR eProd_0 x10.2.f_g.Prods, SS x10.2.f_g.Pro, SS x10.2.f_g.Tail, oR eB x10.2.f_given, oR eNon x10.2.f_types, oR eS x10.2.f_lefts, I64 x10.2.f_e, I64 x10.2.f_at, SS x10.2.f_name, I64 x10.2.f_level, I64 x10.2.f_inner]) (k0 := 0) rfl rfl rfl rfl (.b rfl (.n rfl .nil)) rfl (con81 a0 a2 _ hx10) call81 (.n rfl (.n rfl .nil)) rfl rfl (.n rfl (.n rfl .nil)) .nil rfl)) <| Rv (O.as (.lit rfl)) <| RunL.fin (.n rfl (.n rfl (.n rfl (.n rfl .nil))))) ?_
    refine Px.sq ?_
    refine W.sq' ?_
    obtain ⟨x11, hx11, h⟩ := bnd h
    refine W.rx [(0, _), (4, _), (5, _), (7, _), (8, .ptr ⟨0, [0]⟩ (x10.1.toNat * eTok.z + 0))] (Rv (O.mv (.obj rfl)) <| Rv (O.nlP (.ptr rfl)) <| Rv (O.fO rfl (.ptr rfl) fd128_0 rfl) <| Rv (O.fO rfl (.ptr rfl) fd38_0 rfl) <| Rv (O.ldO (y := .brw eTok.z ⟨0, [0]⟩ x10.2.f_g.Toks.length) rfl (.ptr rfl) ct34 rfl rfl) <| Rv (O.mv (.lit rfl)) <| Rv (O.ixO (en := eTok) rfl (.brw rfl) (.lit rfl) sl34 hx11 rfl) <| Rv (O.as (.ptr rfl)) <| RunL.fin (.n rfl (.n rfl (.n rfl (.n rfl (.r rfl (RK.el (en := eTok) rfl hx11 rfl) npPtr .nil)))))) ?_
    refine Px.sq ?_
    refine W.sq' ?_
    refine W.sq' ?_
    refine W.rx [(0, _), (4, _), (5, _), (7, _), (8, .ptr ⟨0, [0]⟩ (x10.1.toNat * eTok.z + 0)), (61, _)] (Rv (O.fO rfl (.obj rfl) fd89_0 rfl) <| Rv (O.ldO (y := I64 a1.Kind) rfl (.ptr rfl) ct3 rfl rfl) <| Rv (O.neq (.lit rfl) (.k rfl)) <| RunL.fin (.n rfl (.n rfl (.n rfl (.n rfl (.r rfl (RK.el (en := eTok) rfl hx11 rfl) npPtr (.n rfl .nil))))))) ?_
    refine Px.sq ?_
    obtain ⟨j12, hj, h⟩ := bnd h
    refine W.jn [(0, .obj (eyuccaref9_maker_r.cells j12)), (4, .obj (eDecl_0.cells a1)), (5, .obj (eSym.cells a2)), (7, I64 x10.1), (8, .ptr ⟨0, [0]⟩ (x10.1.toNat * eTok.z + 0))] ?_ ?_
    · clear h; have h := hj; clear hj
      refine W.cnd rfl (fun hb13 => ?_) (fun hb13 => ?_)
      · replace h := cndT hb13 h
        refine W.sq' ?_
        refine W.sq' ?_
        refine W.rx [(0, _), (4, _), (5, _), (7, _), (8, .ptr ⟨0, [0]⟩ (x10.1.toNat * eTok.z + 0)), (66, _)] (Rv (O.mv (.ptr rfl)) <| Rv (O.nlP (.ptr rfl)) <| Rv (O.fE (en := eTok) rfl (.ptr rfl) fd52_3 hx11 rfl rfl) <| Rv (O.ldE (en := eTok) (x' := I64 x11.Level) rfl (.ptr rfl) ct3 hx11 rfl rfl) <| Rv (O.gtr (.lit rfl) (.k rfl)) <| RunL.fin (.n rfl (.n rfl (.n rfl (.n rfl (.r rfl (RK.el (en := eTok) rfl hx11 rfl) npPtr (.n rfl .nil))))))) ?_
        refine Px.sq ?_
        obtain ⟨j14, hj, h⟩ := bnd h
        refine W.jn [(0, .obj (eyuccaref9_maker_r.cells j14)), (4, .obj (eDecl_0.cells a1)), (5, .obj (eSym.cells a2)), (7, I64 x10.1), (8, .ptr ⟨0, [0]⟩ (x10.1.toNat * eTok.z + 0))] ?_ ?_
        · clear h; have h := hj; clear hj
          refine W.cnd rfl (fun hb15 => ?_) (fun hb15 => ?_)
          · replace h := cndT hb15 h
            obtain ⟨x16, hx16, h⟩ := bnd h
            refine W.rx [(0, _), (4, _), (5, _), (7, _), (8, .ptr ⟨0, [0]⟩ (x10.1.toNat * eTok.z + 0))] (Rv (O.mv (.obj rfl)) <| Rv (O.fO rfl (.obj rfl) fd91_3 rfl) <| Rv (O.ldO (y := I64 a2.At) rfl (.ptr rfl) ct3 rfl rfl) <| Rv (O.fO rfl (.obj rfl) fd91_0 rfl) <| Rv (O.ldO (y := SS a2.Name) rfl (.ptr rfl) ct9 rfl rfl) <| RunL.ef (G2 := [(8, .ptr ⟨0, [0]⟩ (x10.1.toNat * eTok.z + 0))] ++ [(72, .tup []), (0, .obj [oR eTok x10.2.f_g.Toks, oR eNon x16.f_g.Nons, oR eProd_0 x16.f_g.Prods, SS x16.f_g.Pro, SS x16.f_g.Tail, oR eB x16.f_given, oR eNon x16.f_types, oR eS x16.f_lefts, I64 x16.f_e, I64 x16.f_at, SS x16.f_name, I64 x16.f_level, I64 x16.f_inner]), (4, .obj (eDecl_0.cells a1)), (5, .obj (eSym.cells a2)), (7, I64 x10.1)]) rfl (EO.fr (r := 0) (k0 := 0) (y := oR eTok x10.2.f_g.Toks) (cs5 := [oR eTok x10.2.f_g.Toks, oR eNon x16.f_g.Nons, oR eProd_0 x16.f_g.Prods, SS x16.f_g.Pro, SS x16.f_g.Tail, oR eB x16.f_given, oR eNon x16.f_types, oR eS x16.f_lefts, I64 x16.f_e, I64 x16.f_at, SS x16.f_name, I64 x16.f_level, I64 x16.f_inner]) (G1 := fun v => [(0, .obj [.lit v, oR eNon x10.2.f_g.Nons, oR eProd_0 x10.2.f_g.Prods, SS x10.2.f_g.Pro, SS x10.2.f_g.Tail, oR eB x10.2.f_given, oR eNon x10.2.f_types, oR eS x10.2.f_lefts, I64 x10.2.f_e, I64 x10.2.f_at, SS x10.2.f_name, I64 x10.2.f_level, I64 x10.2.f_inner]), (4, .obj (eDecl_0.cells a1)), (5, .obj (eSym.cells a2)), (7, I64 x10.1), (67, .ptr ⟨0, []⟩ 0), (69, I64 a2.At), (71, SS a2.Name)]) (G4 := fun v => [(72, .tup []), (0, .obj [.lit v, oR eNon x16.f_g.Nons, oR eProd_0 x16.f_g.Prods, SS x16.f_g.Pro, SS x16.f_g.Tail, oR eB x16.f_given, oR eNon x16.f_types, oR eS x16.f_lefts, I64 x16.f_e, I64 x16.f_at, SS x16.f_name, I64 x16.f_level, I64 x16.f_inner]), (4, .obj (eDecl_0.cells a1)), (5, .obj (eSym.cells a2)), (7, I64 x10.1)]) (c4 := fun v => [.lit v, oR eNon x16.f_g.Nons, oR eProd_0 x16.f_g.Prods, SS x16.f_g.Pro, SS x16.f_g.Tail, oR eB x16.f_given, oR eNon x16.f_types, oR eS x16.f_lefts, I64 x16.f_e, I64 x16.f_at, SS x16.f_name, I64 x16.f_level, I64 x16.f_inner]) (G5 := [(72, .tup []), (0, .obj [oR eTok x10.2.f_g.Toks, oR eNon x16.f_g.Nons, oR eProd_0 x16.f_g.Prods, SS x16.f_g.Pro, SS x16.f_g.Tail, oR eB x16.f_given, oR eNon x16.f_types, oR eS x16.f_lefts, I64 x16.f_e, I64 x16.f_at, SS x16.f_name, I64 x16.f_level, I64 x16.f_inner]), (4, .obj (eDecl_0.cells a1)), (5, .obj (eSym.cells a2)), (7, I64 x10.1)]) (A := [(8, .ptr ⟨0, [0]⟩ (x10.1.toNat * eTok.z + 0))]) rfl rfl rfl rfl (fun v => (.b rfl (.n rfl rfl (.n rfl rfl (.n rfl rfl (.p rfl rfl rfl rfl rfl rfl (.n rfl rfl (.n rfl rfl .nil)))))))) (fun v => CallOk.ln (G2 := [(4, .obj (eDecl_0.cells a1)), (5, .obj (eSym.cells a2)), (7, I64 x10.1)]) (A := []) (ys := [.ptr ⟨0, []⟩ 0, I64 a2.At, SS a2.Name]) (args := [.obj [.lit v, oR eNon x10.2.f_g.Nons, oR eProd_0 x10.2.f_g.Prods, SS x10.2.f_g.Pro, SS x10.2.f_g.Tail, oR eB x10.2.f_given, oR eNon x10.2.f_types, oR eS x10.2.f_lefts, I64 x10.2.f_e, I64 x10.2.f_at, SS x10.2.f_name, I64 x10.2.f_level, I64 x10.2.f_inner], I64 a2.At, SS a2.Name]) (cs' := [.lit v, oR eNon x16.f_g.Nons, oR eProd_0 x16.f_g.Prods, SS x16.f_g.Pro, SS x16.f_g.Tail, oR eB x16.f_given, oR eNon x16.f_types, oR eS x16.f_lefts, I64 x16.f_e, I64 x16.f_at, SS x16.f_name, I64 x16.f_level, I64 x16.f_inner]) (k0 := 0) rfl rfl rfl rfl (.b rfl (.n rfl (.n rfl .nil))) rfl (conq65_0 v x10.2 a2.At a2.Name _ hx16) call65 (.n rfl (.n rfl (.n rfl .nil))) rfl rfl (.n rfl (.n rfl (.n rfl .nil))) .nil rfl) (fun v => rfl) (fun v => rfl) (fun v => rfl) (fun v => (.n rfl rfl (.b rfl (.n rfl rfl (.n rfl rfl (.n rfl rfl .nil)))))) rfl (.c (en := eTok) (L := x10.2.f_g.Toks) rfl rfl hx11 rfl rfl rfl .nil)) <| RunL.fin (.n rfl (.n rfl (.n rfl (.n rfl (.r rfl (RK.el (en := eTok) rfl hx11 rfl) npPtr .nil)))))) ?_
            obtain rfl := sm h
            exact Px.jn (.n rfl (.n rfl (.n rfl (.n rfl (.r rfl (RK.el (en := eTok) rfl hx11 rfl) npPtr .nil)))))
          · replace h := cndF hb15 h
            refine W.sk ?_
            obtain rfl := sm h
            exact Px.jn (.n rfl (.n rfl (.n rfl (.n rfl (.r rfl (RK.el (en := eTok) rfl hx11 rfl) npPtr .nil)))))
        obtain ⟨x17, hx17, h⟩ := bnd h
        refine Px.sq ?_
        refine W.rd [[], [], [], [2], [2, 3], [2, 3, 4], [], [6], [6, 7], [0, 2, 3, 4, 5], [0, 2, 3, 4, 5, 9], [0, 2, 3, 4, 5, 9, 10], rn 0 12 [], rn 0 13 [], rn 0 14 []] [(0, _), (4, _), (5, _), (7, _), (8, .ptr ⟨0, [0]⟩ (x10.1.toNat * eTok.z + 0))] mixo (by kernel_rfl) (Dv 0 (O.mv (.ptr rfl)) <| Dv 1 (O.mv (.ptr rfl)) <| Dv 2 (O.mv (.obj rfl)) <| Dv 3 (O.nlP (.ptr rfl)) <| Dv 4 (O.fO rfl (.ptr rfl) fd128_7 rfl) <| Dv 5 (O.ldO (y := I64 j14.f_level) rfl (.ptr rfl) ct3 rfl rfl) <| Dv 6 (O.fO rfl (.obj rfl) fd89_0 rfl) <| Dv 7 (O.ldO (y := I64 a1.Kind) rfl (.ptr rfl) ct3 rfl rfl) <| Dv 8 (O.sub (.lit rfl) (.k rfl)) <| Dv 9 (O.nlP (.ptr rfl)) <| Dv 10 (O.fE (en := eTok) rfl (.ptr rfl) fd52_3 hx17 rfl rfl) <| DL.bu 11 (G2 := [(0, .obj [oR eTok (j14.f_g.Toks.set x10.1.toNat (⟨x17.Name, x17.Lit, x17.Num, j14.f_level, x17.Assoc, x17.Tag⟩ : Tok)), oR eNon j14.f_g.Nons, oR eProd_0 j14.f_g.Prods, SS j14.f_g.Pro, SS j14.f_g.Tail, oR eB j14.f_given, oR eNon j14.f_types, oR eS j14.f_lefts, I64 j14.f_e, I64 j14.f_at, SS j14.f_name, I64 j14.f_level, I64 j14.f_inner]), (4, .obj (eDecl_0.cells a1)), (5, .obj (eSym.cells a2)), (7, I64 x10.1), (8, .ptr ⟨0, [0]⟩ (x10.1.toNat * eTok.z + 0))]) (U := [(8, 81, some (I64 (w64 (a1.Kind - 1)))), (7, 80, some (I64 a1.Kind)), (6, 79, some (.ptr ⟨4, []⟩ 0)), (1, 74, some (.ptr ⟨0, [0]⟩ (x10.1.toNat * eTok.z + 0)))]) (EffOk.v (EO.eff (EO.stE (en := eTok) (y2 := (⟨x17.Name, x17.Lit, x17.Num, j14.f_level, x17.Assoc, x17.Tag⟩ : Tok)) (cs' := [I64 j14.f_level]) (x2 := .obj [oR eTok (j14.f_g.Toks.set x10.1.toNat (⟨x17.Name, x17.Lit, x17.Num, j14.f_level, x17.Assoc, x17.Tag⟩ : Tok)), oR eNon j14.f_g.Nons, oR eProd_0 j14.f_g.Prods, SS j14.f_g.Pro, SS j14.f_g.Tail, oR eB j14.f_given, oR eNon j14.f_types, oR eS j14.f_lefts, I64 j14.f_e, I64 j14.f_at, SS j14.f_name, I64 j14.f_level, I64 j14.f_inner]) rfl rfl (.ptr rfl) (.lit rfl) rfl hx17 sz3 rfl rfl rfl rfl rfl rfl rfl (.b rfl (.n rfl rfl (.n rfl rfl (.n rfl rfl (.e rfl rfl (.mk (en := eTok) rfl hx17 rfl (idx_set_same hx17) rfl) rfl .nil)))))))) rfl rfl (by kernel_rfl) rfl rfl rfl (.c (.inr (.inl ⟨_, rfl⟩)) rfl rfl rfl rfl rfl (Gd.wanted .none) (O.sub (.lit rfl) (.k rfl)) (.c (.inr (.inl ⟨_, rfl⟩)) rfl rfl rfl rfl rfl (Gd.wanted .none) (O.ldO (y := I64 a1.Kind) rfl (.ptr rfl) ct3 rfl rfl) (.c (.inr (.inr (.inr ⟨4, _, _, rfl, rfl, of_blt rfl, by simp⟩))) rfl rfl rfl rfl rfl (Gd.wanted .none) (O.fO rfl (.obj rfl) fd89_0 rfl) (.c (.inr (.inr (.inl ⟨8, _, _, rfl, rfl, rfl, by simp⟩))) rfl rfl rfl rfl rfl (Gd.wanted .none) (O.mv (.ptr rfl)) .nil)))) (by kernel_rfl) <| Dv 12 (O.nlP (.ptr rfl)) <| Dv 13 (O.fE (en := eTok) rfl (.ptr rfl) fd52_4 (idx_set_same hx17) rfl rfl) <| DL.bp 14 (G2 := [(0, .obj [oR eTok ((j14.f_g.Toks.set x10.1.toNat (⟨x17.Name, x17.Lit, x17.Num, j14.f_level, x17.Assoc, x17.Tag⟩ : Tok)).set x10.1.toNat (⟨(⟨x17.Name, x17.Lit, x17.Num, j14.f_level, x17.Assoc, x17.Tag⟩ : Tok).Name, (⟨x17.Name, x17.Lit, x17.Num, j14.f_level, x17.Assoc, x17.Tag⟩ : Tok).Lit, (⟨x17.Name, x17.Lit, x17.Num, j14.f_level, x17.Assoc, x17.Tag⟩ : Tok).Num, (⟨x17.Name, x17.Lit, x17.Num, j14.f_level, x17.Assoc, x17.Tag⟩ : Tok).Level, w64 (a1.Kind - 1), (⟨x17.Name, x17.Lit, x17.Num, j14.f_level, x17.Assoc, x17.Tag⟩ : Tok).Tag⟩ : Tok)), oR eNon j14.f_g.Nons, oR eProd_0 j14.f_g.Prods, SS j14.f_g.Pro, SS j14.f_g.Tail, oR eB j14.f_given, oR eNon j14.f_types, oR eS j14.f_lefts, I64 j14.f_e, I64 j14.f_at, SS j14.f_name, I64 j14.f_level, I64 j14.f_inner]), (4, .obj (eDecl_0.cells a1)), (5, .obj (eSym.cells a2)), (7, I64 x10.1), (8, .ptr ⟨0, [0]⟩ (x10.1.toNat * eTok.z + 0))]) (EO.stE (en := eTok) (y2 := (⟨(⟨x17.Name, x17.Lit, x17.Num, j14.f_level, x17.Assoc, x17.Tag⟩ : Tok).Name, (⟨x17.Name, x17.Lit, x17.Num, j14.f_level, x17.Assoc, x17.Tag⟩ : Tok).Lit, (⟨x17.Name, x17.Lit, x17.Num, j14.f_level, x17.Assoc, x17.Tag⟩ : Tok).Num, (⟨x17.Name, x17.Lit, x17.Num, j14.f_level, x17.Assoc, x17.Tag⟩ : Tok).Level, w64 (a1.Kind - 1), (⟨x17.Name, x17.Lit, x17.Num, j14.f_level, x17.Assoc, x17.Tag⟩ : Tok).Tag⟩ : Tok)) (cs' := [I64 (w64 (a1.Kind - 1))]) (x2 := .obj [oR eTok ((j14.f_g.Toks.set x10.1.toNat (⟨x17.Name, x17.Lit, x17.Num, j14.f_level, x17.Assoc, x17.Tag⟩ : Tok)).set x10.1.toNat (⟨(⟨x17.Name, x17.Lit, x17.Num, j14.f_level, x17.Assoc, x17.Tag⟩ : Tok).Name, (⟨x17.Name, x17.Lit, x17.Num, j14.f_level, x17.Assoc, x17.Tag⟩ : Tok).Lit, (⟨x17.Name, x17.Lit, x17.Num, j14.f_level, x17.Assoc, x17.Tag⟩ : Tok).Num, (⟨x17.Name, x17.Lit, x17.Num, j14.f_level, x17.Assoc, x17.Tag⟩ : Tok).Level, w64 (a1.Kind - 1), (⟨x17.Name, x17.Lit, x17.Num, j14.f_level, x17.Assoc, x17.Tag⟩ : Tok).Tag⟩ : Tok)), oR eNon j14.f_g.Nons, oR eProd_0 j14.f_g.Prods, SS j14.f_g.Pro, SS j14.f_g.Tail, oR eB j14.f_given, oR eNon j14.f_types, oR eS j14.f_lefts, I64 j14.f_e, I64 j14.f_at, SS j14.f_name, I64 j14.f_level, I64 j14.f_inner]) rfl rfl (.ptr rfl) (.lit rfl) rfl (idx_set_same hx17) sz3 rfl rfl rfl rfl rfl rfl rfl (.b rfl (.n rfl rfl (.n rfl rfl (.n rfl rfl (.e rfl rfl (.mk (en := eTok) rfl (idx_set_same hx17) rfl (idx_set_same (idx_set_same hx17)) rfl) rfl .nil)))))) rfl rfl rfl rfl (by kernel_rfl) (by kernel_rfl) <| DL.fin rfl rfl rfl (.n rfl (.n rfl (.n rfl (.n rfl (.r rfl (RK.el (en := eTok) rfl (idx_set_same (idx_set_same hx17)) rfl) npPtr .nil)))))) ?_
        obtain rfl := sm h
        exact Px.jn (.n rfl (.n rfl (.n rfl (.n rfl (.r rfl (RK.el (en := eTok) rfl (idx_set_same (idx_set_same hx17)) rfl) npPtr .nil)))))
      · replace h := cndF hb13 h
        refine W.sk ?_
        obtain rfl := sm h
        exact Px.jn (.n rfl (.n rfl (.n rfl (.n rfl (.r rfl (RK.el (en := eTok) rfl hx11 rfl) npPtr .nil)))))
    obtain ⟨x18, hx18, h⟩ := bnd h
    refine Px.sq ?_
    refine W.sq' ?_
    refine W.sq' ?_
    refine W.rx [(0, _), (4, _), (5, _), (7, _), (8, .ptr ⟨0, [0]⟩ (x10.1.toNat * eTok.z + 0)), (88, _)] (Rv (O.fO rfl (.obj rfl) fd91_2 rfl) <| Rv (O.ldO (y := I64 a2.Num) rfl (.ptr rfl) ct3 rfl rfl) <| Rv (O.gtr (.lit rfl) (.k rfl)) <| RunL.fin (.n rfl (.n rfl (.n rfl (.n rfl (.r rfl (RK.el (en := eTok) rfl hx18 rfl) npPtr (.n rfl .nil))))))) ?_
    refine Px.sq ?_
    obtain ⟨j19, hj, h⟩ := bnd h
    refine W.jn [(0, .obj (eyuccaref9_maker_r.cells j19)), (4, .obj (eDecl_0.cells a1)), (5, .obj (eSym.cells a2)), (8, .ptr ⟨0, [0]⟩ (x10.1.toNat * eTok.z + 0))] ?_ ?_
    · clear h; have h := hj; clear hj
      refine W.cnd rfl (fun hb20 => ?_) (fun hb20 => ?_)
      · replace h := cndT hb20 h
        refine W.sq' ?_
        refine W.sq' ?_
        obtain ⟨c25, hj, h⟩ := bnd h
        refine W.rx [(0, .obj (eyuccaref9_maker_r.cells j12)), (4, .obj (eDecl_0.cells a1)), (5, .obj (eSym.cells a2)), (7, I64 x10.1), (8, .ptr ⟨0, [0]⟩ (x10.1.toNat * eTok.z + 0)), (106, BB c25)] ?_ ?_
        · refine Rv (O.mv (.lit rfl)) <| Rv (O.eql (.lit rfl) (.k rfl)) <| Rv (O.mv (.lit rfl)) ?_
          rcases cnd hj with ⟨hb21, hj⟩ | ⟨hb21, hj⟩
          · obtain rfl := sm hj
            exact RunL.ps rfl rfl hb21 rfl rfl <| RunL.ps rfl rfl hb21 rfl rfl <| RunL.ps rfl rfl hb21 rfl rfl <| RunL.ps rfl rfl hb21 rfl rfl <| RunL.ps rfl rfl hb21 rfl rfl <| RunL.ps rfl rfl hb21 rfl rfl <| RunL.ps rfl rfl hb21 rfl rfl <| Rv (O.pkT (.lit rfl) hb21 (.k rfl)) <| Rv (O.mv (.lit rfl)) <| RunL.ps rfl rfl rfl rfl rfl <| RunL.ps rfl rfl rfl rfl rfl <| RunL.ps rfl rfl rfl rfl rfl <| RunL.ps rfl rfl rfl rfl rfl <| RunL.ps rfl rfl rfl rfl rfl <| Rv (O.pkT (.lit rfl) rfl (.k rfl)) <| RunL.fin (.n rfl (.n rfl (.n rfl (.n rfl (.r rfl (RK.el (en := eTok) rfl hx18 rfl) npPtr (.n rfl .nil))))))
          · refine RunL.v (O.mv (.obj rfl)) rfl rfl (.yb rfl rfl hb21) <| RunL.v (O.nlP (.ptr rfl)) rfl rfl (.yb rfl rfl hb21) <| RunL.v (O.fO rfl (.ptr rfl) fd128_1 rfl) rfl rfl (.yb rfl rfl hb21) <| RunL.v (O.ldO (y := .brw eB.z ⟨0, [5]⟩ j12.f_given.length) rfl (.ptr rfl) ct102 rfl rfl) rfl rfl (.yb rfl rfl hb21) <| RunL.v (O.mv (.lit rfl)) rfl rfl (.yb rfl rfl hb21) ?_
            obtain ⟨x22, hx22, hj⟩ := bnd hj
            refine RunL.v (O.ixO (en := eB) rfl (.brw rfl) (.lit rfl) sl102 hx22 rfl) rfl rfl (.yb rfl rfl hb21) <| RunL.v (O.ldE (en := eB) (x' := BB x22) rfl (.ptr rfl) ct4 hx22 rfl rfl) rfl rfl (.yb rfl rfl hb21) <| Rv (O.pkF (.lit rfl) hb21 (.lit rfl)) <| Rv (O.mv (.lit rfl)) ?_
            rcases cnd hj with ⟨hb23, hj⟩ | ⟨hb23, hj⟩
            · obtain rfl := sm hj
              exact RunL.ps rfl rfl hb23 rfl rfl <| RunL.ps rfl rfl hb23 rfl rfl <| RunL.ps rfl rfl hb23 rfl rfl <| RunL.ps rfl rfl hb23 rfl rfl <| RunL.ps rfl rfl hb23 rfl rfl <| Rv (O.pkT (.lit rfl) hb23 (.k rfl)) <| RunL.fin (.n rfl (.n rfl (.n rfl (.n rfl (.r rfl (RK.el (en := eTok) rfl hx18 rfl) npPtr (.n rfl .nil))))))
            · refine RunL.v (O.mv (.obj rfl)) rfl rfl (.yb rfl rfl hb23) <| RunL.v (O.fO rfl (.obj rfl) fd91_2 rfl) rfl rfl (.yb rfl rfl hb23) <| RunL.v (O.ldO (y := I64 a2.Num) rfl (.ptr rfl) ct3 rfl rfl) rfl rfl (.yb rfl rfl hb23) ?_
              obtain ⟨x24, hx24, hj⟩ := bnd hj
              obtain rfl := sm hj
              exact RunL.c (PC.vw (ys := [.ptr ⟨0, []⟩ 0, I64 a2.Num]) rfl (.c (View.p0 rfl rfl) (.s .nil)) (con82 j12 a2.Num _ hx24) call82 rfl) rfl rfl (.yb rfl rfl hb23) <| RunL.v (O.geq (.lit rfl) (.k rfl)) rfl rfl (.yb rfl rfl hb23) <| Rv (O.pkF (.lit rfl) hb23 (.lit rfl)) <| RunL.fin (.n rfl (.n rfl (.n rfl (.n rfl (.r rfl (RK.el (en := eTok) rfl hx18 rfl) npPtr (.n rfl .nil))))))
        refine Px.sq ?_
        obtain ⟨j26, hj, h⟩ := bnd h
        refine W.jn [(0, .obj (eyuccaref9_maker_r.cells j26)), (4, .obj (eDecl_0.cells a1)), (5, .obj (eSym.cells a2)), (7, I64 x10.1), (8, .ptr ⟨0, [0]⟩ (x10.1.toNat * eTok.z + 0))] ?_ ?_
        · clear h; have h := hj; clear hj
          refine W.cnd rfl (fun hb27 => ?_) (fun hb27 => ?_)
          · replace h := cndT hb27 h
            obtain ⟨x28, hx28, h⟩ := bnd h
            refine W.rx [(0, _), (4, _), (5, _), (7, _), (8, .ptr ⟨0, [0]⟩ (x10.1.toNat * eTok.z + 0))] (Rv (O.mv (.obj rfl)) <| Rv (O.fO rfl (.obj rfl) fd91_3 rfl) <| Rv (O.ldO (y := I64 a2.At) rfl (.ptr rfl) ct3 rfl rfl) <| Rv (O.fO rfl (.obj rfl) fd91_0 rfl) <| Rv (O.ldO (y := SS a2.Name) rfl (.ptr rfl) ct9 rfl rfl) <| RunL.ef (G2 := [(8, .ptr ⟨0, [0]⟩ (x10.1.toNat * eTok.z + 0))] ++ [(112, .tup []), (0, .obj [oR eTok j12.f_g.Toks, oR eNon x28.f_g.Nons, oR eProd_0 x28.f_g.Prods, SS x28.f_g.Pro, SS x28.f_g.Tail, oR eB x28.f_given, oR eNon x28.f_types, oR eS x28.f_lefts, I64 x28.f_e, I64 x28.f_at, SS x28.f_name, I64 x28.f_level, I64 x28.f_inner]), (4, .obj (eDecl_0.cells a1)), (5, .obj (eSym.cells a2)), (7, I64 x10.1)]) rfl (EO.fr (r := 0) (k0 := 0) (y := oR eTok j12.f_g.Toks) (cs5 := [oR eTok j12.f_g.Toks, oR eNon x28.f_g.Nons, oR eProd_0 x28.f_g.Prods, SS x28.f_g.Pro, SS x28.f_g.Tail, oR eB x28.f_given, oR eNon x28.f_types, oR eS x28.f_lefts, I64 x28.f_e, I64 x28.f_at, SS x28.f_name, I64 x28.f_level, I64 x28.f_inner]) (G1 := fun v => [(0, .obj [.lit v, oR eNon j12.f_g.Nons, oR eProd_0 j12.f_g.Prods, SS j12.f_g.Pro, SS j12.f_g.Tail, oR eB j12.f_given, oR eNon j12.f_types, oR eS j12.f_lefts, I64 j12.f_e, I64 j12.f_at, SS j12.f_name, I64 j12.f_level, I64 j12.f_inner]), (4, .obj (eDecl_0.cells a1)), (5, .obj (eSym.cells a2)), (7, I64 x10.1), (107, .ptr ⟨0, []⟩ 0), (109, I64 a2.At), (111, SS a2.Name)]) (G4 := fun v => [(112, .tup []), (0, .obj [.lit v, oR eNon x28.f_g.Nons, oR eProd_0 x28.f_g.Prods, SS x28.f_g.Pro, SS x28.f_g.Tail, oR eB x28.f_given, oR eNon x28.f_types, oR eS x28.f_lefts, I64 x28.f_e, I64 x28.f_at, SS x28.f_name, I64 x28.f_level, I64 x28.f_inner]), (4, .obj (eDecl_0.cells a1)), (5, .obj (eSym.cells a2)), (7, I64 x10.1)]) (c4 := fun v => [.lit v, oR eNon x28.f_g.Nons, oR eProd_0 x28.f_g.Prods, SS x28.f_g.Pro, SS x28.f_g.Tail, oR eB x28.f_given, oR eNon x28.f_types, oR eS x28.f_lefts, I64 x28.f_e, I64 x28.f_at, SS x28.f_name, I64 x28.f_level, I64 x28.f_inner]) (G5 := [(112, .tup []), (0, .obj [oR eTok j12.f_g.Toks, oR eNon x28.f_g.Nons, oR eProd_0 x28.f_g.Prods, SS x28.f_g.Pro, SS x28.f_g.Tail, oR eB x28.f_given, oR eNon x28.f_types, oR eS x28.f_lefts, I64 x28.f_e, I64 x28.f_at, SS x28.f_name, I64 x28.f_level, I64 x28.f_inner]), (4, .obj (eDecl_0.cells a1)), (5, .obj (eSym.cells a2)), (7, I64 x10.1)]) (A := [(8, .ptr ⟨0, [0]⟩ (x10.1.toNat * eTok.z + 0))]) rfl rfl rfl rfl (fun v => (.b rfl (.n rfl rfl (.n rfl rfl (.n rfl rfl (.p rfl rfl rfl rfl rfl rfl (.n rfl rfl (.n rfl rfl .nil)))))))) (fun v => CallOk.ln (G2 := [(4, .obj (eDecl_0.cells a1)), (5, .obj (eSym.cells a2)), (7, I64 x10.1)]) (A := []) (ys := [.ptr ⟨0, []⟩ 0, I64 a2.At, SS a2.Name]) (args := [.obj [.lit v, oR eNon j12.f_g.Nons, oR eProd_0 j12.f_g.Prods, SS j12.f_g.Pro, SS j12.f_g.Tail, oR eB j12.f_given, oR eNon j12.f_types, oR eS j12.f_lefts, I64 j12.f_e, I64 j12.f_at, SS j12.f_name, I64 j12.f_level, I64 j12.f_inner], I64 a2.At, SS a2.Name]) (cs' := [.lit v, oR eNon x28.f_g.Nons, oR eProd_0 x28.f_g.Prods, SS x28.f_g.Pro, SS x28.f_g.Tail, oR eB x28.f_given, oR eNon x28.f_types, oR eS x28.f_lefts, I64 x28.f_e, I64 x28.f_at, SS x28.f_name, I64 x28.f_level, I64 x28.f_inner]) (k0 := 0) rfl rfl rfl rfl (.b rfl (.n rfl (.n rfl .nil))) rfl (conq65_0 v j12 a2.At a2.Name _ hx28) call65 (.n rfl (.n rfl (.n rfl .nil))) rfl rfl (.n rfl (.n rfl (.n rfl .nil))) .nil rfl) (fun v => rfl) (fun v => rfl) (fun v => rfl) (fun v => (.n rfl rfl (.b rfl (.n rfl rfl (.n rfl rfl (.n rfl rfl .nil)))))) rfl (.c (en := eTok) (L := j12.f_g.Toks) rfl rfl hx18 rfl rfl rfl .nil)) <| RunL.fin (.n rfl (.n rfl (.n rfl (.n rfl (.r rfl (RK.el (en := eTok) rfl hx18 rfl) npPtr .nil)))))) ?_
            obtain rfl := sm h
            exact Px.jn (.n rfl (.n rfl (.n rfl (.n rfl (.r rfl (RK.el (en := eTok) rfl hx18 rfl) npPtr .nil)))))
          · replace h := cndF hb27 h
            refine W.sk ?_
            obtain rfl := sm h
            exact Px.jn (.n rfl (.n rfl (.n rfl (.n rfl (.r rfl (RK.el (en := eTok) rfl hx18 rfl) npPtr .nil)))))
        obtain ⟨x29, hx29, h⟩ := bnd h
        refine Px.sq ?_
        refine W.sq' ?_
        refine W.rx [(0, _), (4, _), (5, _), (7, _), (8, .ptr ⟨0, [0]⟩ (x10.1.toNat * eTok.z + 0))] (Rv (O.mv (.ptr rfl)) <| Rv (O.fO rfl (.obj rfl) fd91_2 rfl) <| Rv (O.ldO (y := I64 a2.Num) rfl (.ptr rfl) ct3 rfl rfl) <| Rv (O.nlP (.ptr rfl)) <| Rv (O.fE (en := eTok) rfl (.ptr rfl) fd52_2 hx29 rfl rfl) <| RunL.ef (G2 := [(0, .obj [oR eTok (j26.f_g.Toks.set x10.1.toNat (⟨x29.Name, x29.Lit, a2.Num, x29.Level, x29.Assoc, x29.Tag⟩ : Tok)), oR eNon j26.f_g.Nons, oR eProd_0 j26.f_g.Prods, SS j26.f_g.Pro, SS j26.f_g.Tail, oR eB j26.f_given, oR eNon j26.f_types, oR eS j26.f_lefts, I64 j26.f_e, I64 j26.f_at, SS j26.f_name, I64 j26.f_level, I64 j26.f_inner]), (4, .obj (eDecl_0.cells a1)), (5, .obj (eSym.cells a2)), (7, I64 x10.1), (8, .ptr ⟨0, [0]⟩ (x10.1.toNat * eTok.z + 0))]) rfl (EO.stE (en := eTok) (y2 := (⟨x29.Name, x29.Lit, a2.Num, x29.Level, x29.Assoc, x29.Tag⟩ : Tok)) (cs' := [I64 a2.Num]) (x2 := .obj [oR eTok (j26.f_g.Toks.set x10.1.toNat (⟨x29.Name, x29.Lit, a2.Num, x29.Level, x29.Assoc, x29.Tag⟩ : Tok)), oR eNon j26.f_g.Nons, oR eProd_0 j26.f_g.Prods, SS j26.f_g.Pro, SS j26.f_g.Tail, oR eB j26.f_given, oR eNon j26.f_types, oR eS j26.f_lefts, I64 j26.f_e, I64 j26.f_at, SS j26.f_name, I64 j26.f_level, I64 j26.f_inner]) rfl rfl (.ptr rfl) (.lit rfl) rfl hx29 sz3 rfl rfl rfl rfl rfl rfl rfl (.b rfl (.n rfl rfl (.n rfl rfl (.n rfl rfl (.e rfl rfl (.mk (en := eTok) rfl hx29 rfl (idx_set_same hx29) rfl) rfl .nil)))))) <| RunL.fin (.n rfl (.n rfl (.n rfl (.n rfl (.r rfl (RK.el (en := eTok) rfl (idx_set_same hx29) rfl) npPtr .nil)))))) ?_
        refine Px.sq ?_
        obtain ⟨x30, hx30, h⟩ := bnd h
        refine W.rx [(0, _), (4, _), (5, _), (8, .ptr ⟨0, [0]⟩ (x10.1.toNat * eTok.z + 0))] (Rv (O.mv (.obj rfl)) <| Rv (O.nlP (.ptr rfl)) <| Rv (O.fO rfl (.ptr rfl) fd128_1 rfl) <| Rv (O.ldO (y := .brw eB.z ⟨0, [5]⟩ j26.f_given.length) rfl (.ptr rfl) ct102 rfl rfl) <| Rv (O.mv (.lit rfl)) <| Rv (O.ixO (en := eB) rfl (.brw rfl) (.lit rfl) sl102 hx30 rfl) <| RunL.ef (G2 := [(0, .obj [oR eTok (j26.f_g.Toks.set x10.1.toNat (⟨x29.Name, x29.Lit, a2.Num, x29.Level, x29.Assoc, x29.Tag⟩ : Tok)), oR eNon j26.f_g.Nons, oR eProd_0 j26.f_g.Prods, SS j26.f_g.Pro, SS j26.f_g.Tail, oR eB (j26.f_given.set x10.1.toNat true), oR eNon j26.f_types, oR eS j26.f_lefts, I64 j26.f_e, I64 j26.f_at, SS j26.f_name, I64 j26.f_level, I64 j26.f_inner]), (4, .obj (eDecl_0.cells a1)), (5, .obj (eSym.cells a2)), (8, .ptr ⟨0, [0]⟩ (x10.1.toNat * eTok.z + 0))]) rfl (EO.stE (en := eB) (y2 := true) (cs' := [BB true]) (x2 := .obj [oR eTok (j26.f_g.Toks.set x10.1.toNat (⟨x29.Name, x29.Lit, a2.Num, x29.Level, x29.Assoc, x29.Tag⟩ : Tok)), oR eNon j26.f_g.Nons, oR eProd_0 j26.f_g.Prods, SS j26.f_g.Pro, SS j26.f_g.Tail, oR eB (j26.f_given.set x10.1.toNat true), oR eNon j26.f_types, oR eS j26.f_lefts, I64 j26.f_e, I64 j26.f_at, SS j26.f_name, I64 j26.f_level, I64 j26.f_inner]) rfl rfl (.ptr rfl) (.k rfl) rfl hx30 sz4 rfl rfl rfl rfl rfl rfl rfl (.b rfl (.n rfl rfl (.n rfl rfl (.e rfl rfl (.mk (en := eTok) rfl (idx_set_same hx29) rfl (idx_set_same hx29) rfl) rfl .nil))))) <| RunL.fin (.n rfl (.n rfl (.n rfl (.r rfl (RK.el (en := eTok) rfl (idx_set_same hx29) rfl) npPtr .nil))))) ?_
        obtain rfl := sm h
        exact Px.jn (.n rfl (.n rfl (.n rfl (.r rfl (RK.el (en := eTok) rfl (idx_set_same hx29) rfl) npPtr .nil))))
      · replace h := cndF hb20 h
        refine W.sk ?_
        obtain rfl := sm h
        exact Px.jn (.n rfl (.n rfl (.n rfl (.r rfl (RK.el (en := eTok) rfl hx18 rfl) npPtr .nil))))
    obtain ⟨x31, hx31, h⟩ := bnd h
    refine Px.sq ?_
    refine W.sq' ?_
    refine W.rx [(0, _), (4, _), (5, _), (8, .ptr ⟨0, [0]⟩ (x10.1.toNat * eTok.z + 0)), (126, _)] (Rv (O.fO rfl (.obj rfl) fd89_1 rfl) <| Rv (O.ldO (y := SS a1.Tag) rfl (.ptr rfl) ct9 rfl rfl) <| Rv (O.neS (.lit rfl) (.k rfl)) <| RunL.fin (.n rfl (.n rfl (.n rfl (.r rfl (RK.el (en := eTok) rfl hx31 rfl) npPtr (.n rfl .nil)))))) ?_
    refine Px.sq ?_
    obtain ⟨j32, hj, h⟩ := bnd h
    refine W.jn [(0, .obj (eyuccaref9_maker_r.cells j32))] ?_ ?_
    · clear h; have h := hj; clear hj
      refine W.cnd rfl (fun hb33 => ?_) (fun hb33 => ?_)
      · replace h := cndT hb33 h
        refine W.sq' ?_
        refine W.sq' ?_
        obtain ⟨c35, hj, h⟩ := bnd h
        refine W.rd [[], [0], [0, 1], [0, 1, 2], [0, 1, 2, 3], rn 0 5 [], rn 0 6 [], rn 0 7 [], rn 0 8 [], rn 0 9 [], rn 0 6 [], rn 0 6 [10], rn 0 12 [], rn 0 13 []] [(0, .obj (eyuccaref9_maker_r.cells j19)), (4, .obj (eDecl_0.cells a1)), (5, .obj (eSym.cells a2)), (8, .ptr ⟨0, [0]⟩ (x10.1.toNat * eTok.z + 0)), (140, BB c35)] mixo (by kernel_rfl) ?_ ?_
        · refine Dv 0 (O.mv (.ptr rfl)) <| Dv 1 (O.nlP (.ptr rfl)) <| Dv 2 (O.fE (en := eTok) rfl (.ptr rfl) fd52_5 hx31 rfl rfl) <| Dv 3 (O.ldE (en := eTok) (x' := SS x31.Tag) rfl (.ptr rfl) ct9 hx31 rfl rfl) <| Dv 4 (O.neS (.lit rfl) (.k rfl)) <| Dv 5 (O.mv (.lit rfl)) ?_
          rcases cnd hj with ⟨hb34, hj⟩ | ⟨hb34, hj⟩
          · obtain rfl := sm hj
            exact DL.v 6 (O.mv (.ptr rfl)) rfl rfl rfl rfl (.yb rfl rfl hb34) <| DL.v 7 (O.nlP (.ptr rfl)) rfl rfl rfl rfl (.yb rfl rfl hb34) <| DL.v 8 (O.fE (en := eTok) rfl (.ptr rfl) fd52_5 hx31 rfl rfl) rfl rfl rfl rfl (.yb rfl rfl hb34) <| DL.v 9 (O.ldE (en := eTok) (x' := SS x31.Tag) rfl (.ptr rfl) ct9 hx31 rfl rfl) rfl rfl rfl rfl (.yb rfl rfl hb34) <| DL.v 10 (O.fO rfl (.obj rfl) fd89_1 rfl) rfl rfl rfl rfl (.yb rfl rfl hb34) <| DL.v 11 (O.ldO (y := SS a1.Tag) rfl (.ptr rfl) ct9 rfl rfl) rfl rfl rfl rfl (.yb rfl rfl hb34) <| DL.v 12 (O.neS (.lit rfl) (.lit rfl)) rfl rfl rfl rfl (.yb rfl rfl hb34) <| Dv 13 (O.pkT (.lit rfl) hb34 (.lit rfl)) <| DL.fin rfl rfl rfl (.n rfl (.n rfl (.n rfl (.r rfl (RK.el (en := eTok) rfl hx31 rfl) npPtr (.n rfl .nil)))))
          · obtain rfl := sm hj
            exact DL.ps 6 rfl rfl hb34 rfl rfl rfl rfl <| DL.ps 7 rfl rfl hb34 rfl rfl rfl rfl <| DL.ps 8 rfl rfl hb34 rfl rfl rfl rfl <| DL.ps 9 rfl rfl hb34 rfl rfl rfl rfl <| DL.ps 10 rfl rfl hb34 rfl rfl rfl rfl <| DL.ps 11 rfl rfl hb34 rfl rfl rfl rfl <| DL.ps 12 rfl rfl hb34 rfl rfl rfl rfl <| Dv 13 (O.pkF (.lit rfl) hb34 (.k rfl)) <| DL.fin rfl rfl rfl (.n rfl (.n rfl (.n rfl (.r rfl (RK.el (en := eTok) rfl hx31 rfl) npPtr (.n rfl .nil)))))
        refine Px.sq ?_
        obtain ⟨j36, hj, h⟩ := bnd h
        refine W.jn [(0, .obj (eyuccaref9_maker_r.cells j36)), (4, .obj (eDecl_0.cells a1)), (8, .ptr ⟨0, [0]⟩ (x10.1.toNat * eTok.z + 0))] ?_ ?_
        · clear h; have h := hj; clear hj
          refine W.cnd rfl (fun hb37 => ?_) (fun hb37 => ?_)
          · replace h := cndT hb37 h
            obtain ⟨x38, hx38, h⟩ := bnd h
            refine W.rx [(0, _), (4, _), (8, .ptr ⟨0, [0]⟩ (x10.1.toNat * eTok.z + 0))] (Rv (O.mv (.obj rfl)) <| Rv (O.fO rfl (.obj rfl) fd91_3 rfl) <| Rv (O.ldO (y := I64 a2.At) rfl (.ptr rfl) ct3 rfl rfl) <| Rv (O.fO rfl (.obj rfl) fd91_0 rfl) <| Rv (O.ldO (y := SS a2.Name) rfl (.ptr rfl) ct9 rfl rfl) <| RunL.ef (G2 := [(8, .ptr ⟨0, [0]⟩ (x10.1.toNat * eTok.z + 0))] ++ [(146, .tup []), (0, .obj [oR eTok j19.f_g.Toks, oR eNon x38.f_g.Nons, oR eProd_0 x38.f_g.Prods, SS x38.f_g.Pro, SS x38.f_g.Tail, oR eB x38.f_given, oR eNon x38.f_types, oR eS x38.f_lefts, I64 x38.f_e, I64 x38.f_at, SS x38.f_name, I64 x38.f_level, I64 x38.f_inner]), (4, .obj (eDecl_0.cells a1))]) rfl (EO.fr (r := 0) (k0 := 0) (y := oR eTok j19.f_g.Toks) (cs5 := [oR eTok j19.f_g.Toks, oR eNon x38.f_g.Nons, oR eProd_0 x38.f_g.Prods, SS x38.f_g.Pro, SS x38.f_g.Tail, oR eB x38.f_given, oR eNon x38.f_types, oR eS x38.f_lefts, I64 x38.f_e, I64 x38.f_at, SS x38.f_name, I64 x38.f_level, I64 x38.f_inner]) (G1 := fun v => [(0, .obj [.lit v, oR eNon j19.f_g.Nons, oR eProd_0 j19.f_g.Prods, SS j19.f_g.Pro, SS j19.f_g.Tail, oR eB j19.f_given, oR eNon j19.f_types, oR eS j19.f_lefts, I64 j19.f_e, I64 j19.f_at, SS j19.f_name, I64 j19.f_level, I64 j19.f_inner]), (4, .obj (eDecl_0.cells a1)), (141, .ptr ⟨0, []⟩ 0), (143, I64 a2.At), (145, SS a2.Name)]) (G4 := fun v => [(146, .tup []), (0, .obj [.lit v, oR eNon x38.f_g.Nons, oR eProd_0 x38.f_g.Prods, SS x38.f_g.Pro, SS x38.f_g.Tail, oR eB x38.f_given, oR eNon x38.f_types, oR eS x38.f_lefts, I64 x38.f_e, I64 x38.f_at, SS x38.f_name, I64 x38.f_level, I64 x38.f_inner]), (4, .obj (eDecl_0.cells a1))]) (c4 := fun v => [.lit v, oR eNon x38.f_g.Nons, oR eProd_0 x38.f_g.Prods, SS x38.f_g.Pro, SS x38.f_g.Tail, oR eB x38.f_given, oR eNon x38.f_types, oR eS x38.f_lefts, I64 x38.f_e, I64 x38.f_at, SS x38.f_name, I64 x38.f_level, I64 x38.f_inner]) (G5 := [(146, .tup []), (0, .obj [oR eTok j19.f_g.Toks, oR eNon x38.f_g.Nons, oR eProd_0 x38.f_g.Prods, SS x38.f_g.Pro, SS x38.f_g.Tail, oR eB x38.f_given, oR eNon x38.f_types, oR eS x38.f_lefts, I64 x38.f_e, I64 x38.f_at, SS x38.f_name, I64 x38.f_level, I64 x38.f_inner]), (4, .obj (eDecl_0.cells a1))]) (A := [(8, .ptr ⟨0, [0]⟩ (x10.1.toNat * eTok.z + 0))]) rfl rfl rfl rfl (fun v => (.b rfl (.n rfl rfl (.p rfl rfl rfl rfl rfl rfl (.n rfl rfl (.n rfl rfl .nil)))))) (fun v => CallOk.ln (G2 := [(4, .obj (eDecl_0.cells a1))]) (A := []) (ys := [.ptr ⟨0, []⟩ 0, I64 a2.At, SS a2.Name]) (args := [.obj [.lit v, oR eNon j19.f_g.Nons, oR eProd_0 j19.f_g.Prods, SS j19.f_g.Pro, SS j19.f_g.Tail, oR eB j19.f_given, oR eNon j19.f_types, oR eS j19.f_lefts, I64 j19.f_e, I64 j19.f_at, SS j19.f_name, I64 j19.f_level, I64 j19.f_inner], I64 a2.At, SS a2.Name]) (cs' := [.lit v, oR eNon x38.f_g.Nons, oR eProd_0 x38.f_g.Prods, SS x38.f_g.Pro, SS x38.f_g.Tail, oR eB x38.f_given, oR eNon x38.f_types, oR eS x38.f_lefts, I64 x38.f_e, I64 x38.f_at, SS x38.f_name, I64 x38.f_level, I64 x38.f_inner]) (k0 := 0) rfl rfl rfl rfl (.b rfl (.n rfl (.n rfl .nil))) rfl (conq65_0 v j19 a2.At a2.Name _ hx38) call65 (.n rfl .nil) rfl rfl (.n rfl .nil) .nil rfl) (fun v => rfl) (fun v => rfl) (fun v => rfl) (fun v => (.n rfl rfl (.b rfl (.n rfl rfl .nil)))) rfl (.c (en := eTok) (L := j19.f_g.Toks) rfl rfl hx31 rfl rfl rfl .nil)) <| RunL.fin (.n rfl (.n rfl (.r rfl (RK.el (en := eTok) rfl hx31 rfl) npPtr .nil)))) ?_
            obtain rfl := sm h
            exact Px.jn (.n rfl (.n rfl (.r rfl (RK.el (en := eTok) rfl hx31 rfl) npPtr .nil)))
          · replace h := cndF hb37 h
            refine W.sk ?_
            obtain rfl := sm h
            exact Px.jn (.n rfl (.n rfl (.r rfl (RK.el (en := eTok) rfl hx31 rfl) npPtr .nil)))
        obtain ⟨x39, hx39, h⟩ := bnd h
        refine Px.sq ?_
        refine W.rx [(0, _)] (Rv (O.mv (.ptr rfl)) <| Rv (O.fO rfl (.obj rfl) fd89_1 rfl) <| Rv (O.ldO (y := SS a1.Tag) rfl (.ptr rfl) ct9 rfl rfl) <| Rv (O.nlP (.ptr rfl)) <| Rv (O.fE (en := eTok) rfl (.ptr rfl) fd52_5 hx39 rfl rfl) <| RunL.ef (G2 := [(0, .obj [oR eTok (j36.f_g.Toks.set x10.1.toNat (⟨x39.Name, x39.Lit, x39.Num, x39.Level, x39.Assoc, a1.Tag⟩ : Tok)), oR eNon j36.f_g.Nons, oR eProd_0 j36.f_g.Prods, SS j36.f_g.Pro, SS j36.f_g.Tail, oR eB j36.f_given, oR eNon j36.f_types, oR eS j36.f_lefts, I64 j36.f_e, I64 j36.f_at, SS j36.f_name, I64 j36.f_level, I64 j36.f_inner])]) rfl (EO.stE (en := eTok) (y2 := (⟨x39.Name, x39.Lit, x39.Num, x39.Level, x39.Assoc, a1.Tag⟩ : Tok)) (cs' := [SS a1.Tag]) (x2 := .obj [oR eTok (j36.f_g.Toks.set x10.1.toNat (⟨x39.Name, x39.Lit, x39.Num, x39.Level, x39.Assoc, a1.Tag⟩ : Tok)), oR eNon j36.f_g.Nons, oR eProd_0 j36.f_g.Prods, SS j36.f_g.Pro, SS j36.f_g.Tail, oR eB j36.f_given, oR eNon j36.f_types, oR eS j36.f_lefts, I64 j36.f_e, I64 j36.f_at, SS j36.f_name, I64 j36.f_level, I64 j36.f_inner]) rfl rfl (.ptr rfl) (.lit rfl) rfl hx39 sz9 rfl rfl rfl rfl rfl rfl rfl (.b rfl .nil)) <| RunL.fin (.n rfl .nil)) ?_
        obtain rfl := sm h
        exact Px.jn (.n rfl .nil)
      · replace h := cndF hb33 h
        refine W.sk ?_
        obtain rfl := sm h
        exact Px.jn (.n rfl .nil)
    obtain rfl := sm h
    exact Px.fin (Fin.ro .nil rfl (of_decide_eq_true (by kernel_rfl)) (.so rfl rfl (.no (.no .nil))) rfl (.inl rfl))
def pf67 (a0 : yuccaref9_maker) (a1 : ByteArray) : Option (Int) :=
 (loopM (R := (Unit) ⊕ (Int)) (fun (s1 : Int) =>
 (bif decide (s1 < (a0.f_lefts.length : Int)) then
 (idx a0.f_lefts s1).bind fun x6 =>
 (bif decide (x6 = a1) then
 some (.inr (.inr s1))
 else
 some (.inl (w64 (s1 + 1))))
 else
 some (.inr (.inl ())))) 0).bind fun x2 =>
 (match x2 with
 | .inl x3 =>
 some (-1)
 | .inr x4 =>
 some x4)
theorem con67 (a0 : yuccaref9_maker) (a1 : ByteArray) (r : Int) (h : pf67 a0 a1 = some r) : Con Try.prog 67 [.iptr ([iR eTok a0.f_g.Toks, iR eNon a0.f_g.Nons, iR eProd_0 a0.f_g.Prods, SS a0.f_g.Pro, SS a0.f_g.Tail, iR eB a0.f_given, iR eNon a0.f_types, iR eS a0.f_lefts, I64 a0.f_e, I64 a0.f_at, SS a0.f_name, I64 a0.f_level, I64 a0.f_inner]), SS a1] [none, none] (I64 r) := by
  unfold pf67 at h
  refine Con.go (N := ⟨25, []⟩) Try.func67 rfl rfl rfl rfl (W.fin ?_)
  refine W.st [(0, .iptr ([iR eTok a0.f_g.Toks, iR eNon a0.f_g.Nons, iR eProd_0 a0.f_g.Prods, SS a0.f_g.Pro, SS a0.f_g.Tail, iR eB a0.f_given, iR eNon a0.f_types, iR eS a0.f_lefts, I64 a0.f_e, I64 a0.f_at, SS a0.f_name, I64 a0.f_level, I64 a0.f_inner])), (1, SS a1)] ?_
  refine W.sq' ?_
  refine W.rx [(0, _), (1, _)] (Rv (O.as (.k rfl)) <| RunL.fin (.n rfl (.n rfl .nil))) ?_
  refine Px.sq ?_
  refine W.sq' ?_
  refine W.sq' ?_
  refine W.rx [(0, _), (1, _), (5, _)] (Rv (O.as (.k rfl)) <| RunL.fin (.n rfl (.n rfl (.n rfl .nil)))) ?_
  refine Px.sq ?_
  refine W.bk ?_
  obtain ⟨x2, hl, h⟩ := bnd h
  refine W.tr (G1 := [(0, .iptr ([iR eTok a0.f_g.Toks, iR eNon a0.f_g.Nons, iR eProd_0 a0.f_g.Prods, SS a0.f_g.Pro, SS a0.f_g.Tail, iR eB a0.f_given, iR eNon a0.f_types, iR eS a0.f_lefts, I64 a0.f_e, I64 a0.f_at, SS a0.f_name, I64 a0.f_level, I64 a0.f_inner])), (1, SS a1), (5, I64 0)]) (.n rfl (.n rfl (.n rfl .nil))) ?_
  refine W.lp2 (s := 0) (fun (s1 : Int) => [(0, .iptr ([iR eTok a0.f_g.Toks, iR eNon a0.f_g.Nons, iR eProd_0 a0.f_g.Prods, SS a0.f_g.Pro, SS a0.f_g.Tail, iR eB a0.f_given, iR eNon a0.f_types, iR eS a0.f_lefts, I64 a0.f_e, I64 a0.f_at, SS a0.f_name, I64 a0.f_level, I64 a0.f_inner])), (1, SS a1), (5, I64 s1)]) 0 (fun (x3 : Unit) => []) (fun (x4 : Int) => [(4, I64 x4)]) hl (fun s1 o h => ?_) (fun x3 hx => ?_) (fun x4 hx => ?_)
  · clear hl
    refine W.sq' ?_
    refine W.sq' ?_
    refine W.rx [(0, _), (1, _), (5, _), (12, _)] (Rv (O.mv (.lit rfl)) <| Rv (O.mv (.iptr rfl)) <| Rv (O.nlI (.iptr rfl)) <| Rv (O.fI (.iptr rfl) fd128_3) <| Rv (O.ldI (x := iR eS a0.f_lefts) (.iptr rfl) ct61 rfl) <| Rv (O.lenI (.imm rfl) sl61) <| Rv (O.lss (.lit rfl) (.lit rfl)) <| RunL.fin (.n rfl (.n rfl (.n rfl (.n rfl .nil))))) ?_
    refine Px.sq ?_
    refine W.cnd rfl (fun hb5 => ?_) (fun hb5 => ?_)
    · replace h := cndT hb5 h
      refine W.sk ?_
      refine Px.sq ?_
      refine W.sq' ?_
      refine W.bk ?_
      refine W.sq' ?_
      obtain ⟨x6, hx6, h⟩ := bnd h
      refine W.rx [(0, _), (1, _), (5, _), (23, _)] (Rv (O.mv (.iptr rfl)) <| Rv (O.nlI (.iptr rfl)) <| Rv (O.fI (.iptr rfl) fd128_3) <| Rv (O.ldI (x := iR eS a0.f_lefts) (.iptr rfl) ct61 rfl) <| Rv (O.mv (.lit rfl)) <| Rv (O.ixI (.imm rfl) (.lit rfl) sl61 hx6) <| Rv (O.ldI (x := SS x6) (.iptr rfl) ct9 rfl) <| Rv (O.mv (.lit rfl)) <| Rv (O.eqS (.lit rfl) (.lit rfl)) <| RunL.fin (.n rfl (.n rfl (.n rfl (.n rfl .nil))))) ?_
      refine Px.sq ?_
      refine W.cnd rfl (fun hb7 => ?_) (fun hb7 => ?_)
      · replace h := cndT hb7 h
        refine W.sq' ?_
        refine W.rx [(4, _)] (Rv (O.mv (.lit rfl)) <| Rv (O.as (.lit rfl)) <| RunL.fin (.n rfl .nil)) ?_
        refine Px.sq ?_
        refine W.rt ?_
        refine Px.bkR ?_
        refine Px.sqR ?_
        obtain rfl := sm h
        exact Px.r2 (.n rfl .nil)
      · replace h := cndF hb7 h
        refine W.sk ?_
        refine Px.bk ?_
        refine Px.sq ?_
        refine W.rx [(0, _), (1, _), (5, _)] (Rv (O.mv (.lit rfl)) <| Rv (O.add (.lit rfl) (.k rfl)) <| RunL.re (G1 := [(0, .iptr ([iR eTok a0.f_g.Toks, iR eNon a0.f_g.Nons, iR eProd_0 a0.f_g.Prods, SS a0.f_g.Pro, SS a0.f_g.Tail, iR eB a0.f_given, iR eNon a0.f_types, iR eS a0.f_lefts, I64 a0.f_e, I64 a0.f_at, SS a0.f_name, I64 a0.f_level, I64 a0.f_inner])), (1, SS a1), (14, I64 (w64 (s1 + 1)))]) (.n rfl (.n rfl (.n rfl .nil))) <| Rv (O.as (.lit rfl)) <| RunL.fin (.n rfl (.n rfl (.n rfl .nil)))) ?_
        obtain rfl := sm h
        exact Px.go (.n rfl (.n rfl (.n rfl .nil)))
    · replace h := cndF hb5 h
      refine W.xi ?_
      refine Px.sqE ?_
      obtain rfl := sm h
      exact Px.x2 .nil
  · subst hx
    refine Px.bkH ?_
    refine Px.sq ?_
    refine W.sq' ?_
    refine W.rx [(4, _)] (Rv (O.as (.k rfl)) <| RunL.fin (.n rfl .nil)) ?_
    refine Px.sq ?_
    refine W.rt ?_
    obtain rfl := sm h
    exact Px.fin (Fin.ro (.f rfl rfl .nil) rfl (of_decide_eq_true (by kernel_rfl)) (.no (.no .nil)) rfl (.inr rfl))
  · subst hx
    refine Px.bkR ?_
    refine Px.sqR ?_
    obtain rfl := sm h
    exact Px.fin (Fin.ro (.f rfl rfl .nil) rfl (of_decide_eq_true (by kernel_rfl)) (.no (.no .nil)) rfl (.inr rfl))
def pf83 (a0 : yuccaref9_maker) (a1 : Sym) : Option (Int × yuccaref9_maker) :=
 (bif a1.Lit then
 (pf81 a0 a1).bind fun x2 =>
 some (x2.1, x2.2)
 else
 (pf67 a0 a1.Name).bind fun x3 =>
 (bif decide (0 ≤ x3) then
 some (w64 (1001 + x3), a0)
 else
 (pf66 a0 a1).bind fun x5 =>
 (bif decide (x5 < 0) then
 (pf65 a0 a1.At a1.Name).bind fun x7 =>
 some (0, x7)
 else
 some (x5, a0))))
theorem con83 (a0 : yuccaref9_maker) (a1 : Sym) (r : Int × yuccaref9_maker) (h : pf83 a0 a1 = some r) : Con Try.prog 83 [.obj (eyuccaref9_maker_r.cells a0), .agg (eSym.cells a1)] [some (.obj [oR eTok r.2.f_g.Toks, oR eNon r.2.f_g.Nons, oR eProd_0 r.2.f_g.Prods, SS r.2.f_g.Pro, SS r.2.f_g.Tail, oR eB r.2.f_given, oR eNon r.2.f_types, oR eS r.2.f_lefts, I64 r.2.f_e, I64 r.2.f_at, SS r.2.f_name, I64 r.2.f_level, I64 r.2.f_inner]), none] (I64 r.1) := by
  unfold pf83 at h
  refine Con.go (N := ⟨32, [0]⟩) Try.func83 rfl rfl rfl rfl (W.fin ?_)
  refine W.st [(0, .obj (eyuccaref9_maker_r.cells a0)), (1, .agg (eSym.cells a1))] ?_
  refine W.sq' ?_
  refine W.rx [(0, _), (3, _)] (Rv (O.box (.aggF rfl rfl) rfl) <| Rv (O.as (.k rfl)) <| RunL.fin (.n rfl (.n rfl .nil))) ?_
  refine Px.sq ?_
  refine W.sq' ?_
  refine W.sq' ?_
  refine W.rx [(0, _), (3, _), (8, _)] (Rv (O.fO rfl (.obj rfl) fd91_1 rfl) <| Rv (O.ldO (y := BB a1.Lit) rfl (.ptr rfl) ct4 rfl rfl) <| RunL.fin (.n rfl (.n rfl (.n rfl .nil)))) ?_
  refine Px.sq ?_
  refine W.cnd rfl (fun hb1 => ?_) (fun hb1 => ?_)
  · replace h := cndT hb1 h
    refine W.sq' ?_
    obtain ⟨x2, hx2, h⟩ := bnd h
    refine W.rx [(0, _), (4, _)] (Rv (O.mv (.obj rfl)) <| Rv (O.ldON (cs' := [SS a1.Name, BB a1.Lit, I64 a1.Num, I64 a1.At]) rfl (.obj rfl) at91 rfl rfl) <| RunL.ef (G2 := [(11, I64 x2.1), (0, .obj [oR eTok x2.2.f_g.Toks, oR eNon x2.2.f_g.Nons, oR eProd_0 x2.2.f_g.Prods, SS x2.2.f_g.Pro, SS x2.2.f_g.Tail, oR eB x2.2.f_given, oR eNon x2.2.f_types, oR eS x2.2.f_lefts, I64 x2.2.f_e, I64 x2.2.f_at, SS x2.2.f_name, I64 x2.2.f_level, I64 x2.2.f_inner])]) rfl (EO.call rfl rfl (CallOk.ln (G2 := []) (A := []) (ys := [.ptr ⟨0, []⟩ 0, .agg (eSym.cells a1)]) (args := [.obj (eyuccaref9_maker_r.cells a0), .agg (eSym.cells a1)]) (cs' := [oR eTok x2.2.f_g.Toks, oR eNon x2.2.f_g.Nons, oR eProd_0 x2.2.f_g.Prods, SS x2.2.f_g.Pro, SS x2.2.f_g.Tail, oR eB x2.2.f_given, oR eNon x2.2.f_types, oR eS x2.2.f_lefts, I64 x2.2.f_e, I64 x2.2.f_at, SS x2.2.f_name, I64 x2.2.f_level, I64 x2.2.f_inner]) (k0 := 0) rfl rfl rfl rfl (.b rfl (.n rfl .nil)) rfl (con81 a0 a1 _ hx2) call81 .nil rfl rfl .nil .nil rfl)) <| Rv (O.as (.lit rfl)) <| RunL.fin (.n rfl (.n rfl .nil))) ?_
    refine Px.sq ?_
    refine W.rt ?_
    refine Px.sqR ?_
    obtain rfl := sm h
    exact Px.fin (Fin.ro (.f rfl rfl .nil) rfl (of_decide_eq_true (by kernel_rfl)) (.so rfl rfl (.no .nil)) rfl (.inr rfl))
  · replace h := cndF hb1 h
    refine W.sk ?_
    refine Px.sq ?_
    refine W.sq' ?_
    refine W.sq' ?_
    obtain ⟨x3, hx3, h⟩ := bnd h
    refine W.rx [(0, _), (3, _), (5, _)] (Rv (O.mv (.obj rfl)) <| Rv (O.fO rfl (.obj rfl) fd91_0 rfl) <| Rv (O.ldO (y := SS a1.Name) rfl (.ptr rfl) ct9 rfl rfl) <| Rc (PC.vw (ys := [.ptr ⟨0, []⟩ 0, SS a1.Name]) rfl (.c (View.p0 rfl rfl) (.s .nil)) (con67 a0 a1.Name _ hx3) call67 rfl) <| Rv (O.as (.lit rfl)) <| RunL.fin (.n rfl (.n rfl (.n rfl .nil)))) ?_
    refine Px.sq ?_
    refine W.sq' ?_
    refine W.rx [(0, _), (3, _), (5, _), (17, _)] (Rv (O.mv (.lit rfl)) <| Rv (O.geq (.lit rfl) (.k rfl)) <| RunL.fin (.n rfl (.n rfl (.n rfl (.n rfl .nil))))) ?_
    refine Px.sq ?_
    refine W.cnd rfl (fun hb4 => ?_) (fun hb4 => ?_)
    · replace h := cndT hb4 h
      refine W.sq' ?_
      refine W.rx [(0, _), (4, _)] (Rv (O.mv (.lit rfl)) <| Rv (O.add (.k rfl) (.lit rfl)) <| Rv (O.as (.lit rfl)) <| RunL.fin (.n rfl (.n rfl .nil))) ?_
      refine Px.sq ?_
      refine W.rt ?_
      refine Px.sqR ?_
      obtain rfl := sm h
      exact Px.fin (Fin.ro (.f rfl rfl .nil) rfl (of_decide_eq_true (by kernel_rfl)) (.so rfl rfl (.no .nil)) rfl (.inr rfl))
    · replace h := cndF hb4 h
      refine W.sk ?_
      refine Px.sq ?_
      refine W.sq' ?_
      obtain ⟨x5, hx5, h⟩ := bnd h
      refine W.rx [(0, _), (3, _), (6, _)] (Rv (O.mv (.obj rfl)) <| Rv (O.ldON (cs' := [SS a1.Name, BB a1.Lit, I64 a1.Num, I64 a1.At]) rfl (.obj rfl) at91 rfl rfl) <| Rc (PC.vw (ys := [.ptr ⟨0, []⟩ 0, .agg (eSym.cells a1)]) rfl (.c (View.p0 rfl rfl) (.c (.ag (.s (.s (.s (.s .nil))))) .nil)) (con66 a0 a1 _ hx5) call66 rfl) <| Rv (O.as (.lit rfl)) <| RunL.fin (.n rfl (.n rfl (.n rfl .nil)))) ?_
      refine Px.sq ?_
      refine W.sq' ?_
      refine W.sq' ?_
      refine W.rx [(0, _), (3, _), (6, _), (24, _)] (Rv (O.mv (.lit rfl)) <| Rv (O.lss (.lit rfl) (.k rfl)) <| RunL.fin (.n rfl (.n rfl (.n rfl (.n rfl .nil))))) ?_
      refine Px.sq ?_
      refine W.cnd rfl (fun hb6 => ?_) (fun hb6 => ?_)
      · replace h := cndT hb6 h
        refine W.sq' ?_
        obtain ⟨x7, hx7, h⟩ := bnd h
        refine W.rx [(0, _)] (Rv (O.mv (.obj rfl)) <| Rv (O.fO rfl (.obj rfl) fd91_3 rfl) <| Rv (O.ldO (y := I64 a1.At) rfl (.ptr rfl) ct3 rfl rfl) <| Rv (O.fO rfl (.obj rfl) fd91_0 rfl) <| Rv (O.ldO (y := SS a1.Name) rfl (.ptr rfl) ct9 rfl rfl) <| RunL.ef (G2 := [(30, .tup []), (0, .obj [oR eTok x7.f_g.Toks, oR eNon x7.f_g.Nons, oR eProd_0 x7.f_g.Prods, SS x7.f_g.Pro, SS x7.f_g.Tail, oR eB x7.f_given, oR eNon x7.f_types, oR eS x7.f_lefts, I64 x7.f_e, I64 x7.f_at, SS x7.f_name, I64 x7.f_level, I64 x7.f_inner])]) rfl (EO.call rfl rfl (CallOk.ln (G2 := []) (A := []) (ys := [.ptr ⟨0, []⟩ 0, I64 a1.At, SS a1.Name]) (args := [.obj (eyuccaref9_maker_r.cells a0), I64 a1.At, SS a1.Name]) (cs' := [oR eTok x7.f_g.Toks, oR eNon x7.f_g.Nons, oR eProd_0 x7.f_g.Prods, SS x7.f_g.Pro, SS x7.f_g.Tail, oR eB x7.f_given, oR eNon x7.f_types, oR eS x7.f_lefts, I64 x7.f_e, I64 x7.f_at, SS x7.f_name, I64 x7.f_level, I64 x7.f_inner]) (k0 := 0) rfl rfl rfl rfl (.b rfl (.n rfl (.n rfl .nil))) rfl (con65 a0 a1.At a1.Name _ hx7) call65 .nil rfl rfl .nil .nil rfl)) <| RunL.fin (.n rfl .nil)) ?_
        refine Px.sq ?_
        refine W.sq' ?_
        refine W.rx [(0, _), (4, _)] (Rv (O.as (.k rfl)) <| RunL.fin (.n rfl (.n rfl .nil))) ?_
        refine Px.sq ?_
        refine W.rt ?_
        refine Px.sqR ?_
        obtain rfl := sm h
        exact Px.fin (Fin.ro (.f rfl rfl .nil) rfl (of_decide_eq_true (by kernel_rfl)) (.so rfl rfl (.no .nil)) rfl (.inr rfl))
      · replace h := cndF hb6 h
        refine W.sk ?_
        refine Px.sq ?_
        refine W.sq' ?_
        refine W.rx [(0, _), (4, _)] (Rv (O.mv (.lit rfl)) <| Rv (O.as (.lit rfl)) <| RunL.fin (.n rfl (.n rfl .nil))) ?_
        refine Px.sq ?_
        refine W.rt ?_
        obtain rfl := sm h
        exact Px.fin (Fin.ro (.f rfl rfl .nil) rfl (of_decide_eq_true (by kernel_rfl)) (.so rfl rfl (.no .nil)) rfl (.inr rfl))
def pf68 (a0 : yuccaref9_maker) (a1 : ByteArray) (a2 : Alt) : Option (yuccaref9_maker) :=
 (pf67 a0 a1).bind fun x1 =>
 (loopM (R := yuccaref9_maker × List Int × ByteArray × Int) (fun (s2 : yuccaref9_maker × List Int × ByteArray × Int × Int) =>
 (bif decide (s2.2.2.2.2 < (a2.Parts.length : Int)) then
 ((idx a2.Parts s2.2.2.2.2).bind fun x7 =>
 (((bif decide (x7.Code = { data := #[] }) then
 (pf83 s2.1 x7.Sym).bind fun x11 =>
 (appO s2.2.1 [x11.1]).bind fun x12 =>
 some (x11.2, s2.2.1 ++ [x11.1], s2.2.2.1, s2.2.2.2.1)
 else
 ((bif decide (w64 (s2.2.2.2.2 + 1) = (a2.Parts.length : Int)) then
 some (s2.1.f_g.Prods, s2.1.f_inner, s2.2.1, x7.Code, x7.At)
 else
 (appO ([] : List Int) s2.2.1).bind fun x15 =>
 (appO s2.1.f_g.Prods [(⟨w64 ((s2.1.f_lefts.length : Int) + (w64 (s2.1.f_inner + 1))), ([] : List Int), (-1), x7.Code, ([] : List Int) ++ s2.2.1, x7.At⟩ : Prod)]).bind fun x16 =>
 (appO s2.2.1 [w64 ((w64 (1000 + (s2.1.f_lefts.length : Int))) + (w64 (s2.1.f_inner + 1)))]).bind fun x17 =>
 some (s2.1.f_g.Prods ++ [(⟨w64 ((s2.1.f_lefts.length : Int) + (w64 (s2.1.f_inner + 1))), ([] : List Int), (-1), x7.Code, ([] : List Int) ++ s2.2.1, x7.At⟩ : Prod)], w64 (s2.1.f_inner + 1), s2.2.1 ++ [w64 ((w64 (1000 + (s2.1.f_lefts.length : Int))) + (w64 (s2.1.f_inner + 1)))], s2.2.2.1, s2.2.2.2.1))).bind fun j13 =>
 some ((⟨(⟨s2.1.f_g.Toks, s2.1.f_g.Nons, j13.1, s2.1.f_g.Pro, s2.1.f_g.Tail⟩ : Grammar), s2.1.f_given, s2.1.f_types, s2.1.f_lefts, s2.1.f_e, s2.1.f_at, s2.1.f_name, s2.1.f_level, j13.2.1⟩ : yuccaref9_maker), j13.2.2.1, j13.2.2.2.1, j13.2.2.2.2))).bind fun j9 =>
 some (j9.1, j9.2.1, j9.2.2.1, j9.2.2.2)).bind fun j8 =>
 some (j8.1, j8.2.1, j8.2.2.1, j8.2.2.2)).bind fun j6 =>
 some (.inl (j6.1, j6.2.1, j6.2.2.1, j6.2.2.2, w64 (s2.2.2.2.2 + 1)))
 else
 some (.inr (s2.1, s2.2.1, s2.2.2.1, s2.2.2.2.1)))) (a0, ([] : List Int), { data := #[] }, a2.At, 0)).bind fun x3 =>
 (loopM (R := Int) (fun (s18 : Int × Int) =>
 (bif decide (s18.2 < (x3.2.1.length : Int)) then
 ((idx x3.2.1 s18.2).bind fun x23 =>
 ((bif decide (x23 < 1000) then
 (idx x3.2.1 s18.2).bind fun x26 =>
 some x26
 else
 some s18.1)).bind fun j24 =>
 some j24).bind fun j22 =>
 some (.inl (j22, w64 (s18.2 + 1)))
 else
 some (.inr s18.1))) ((-1), 0)).bind fun x19 =>
 ((bif !decide (a2.Prec.Name = { data := #[] }) then
 ((bif a2.Prec.Lit then some true else ((pf67 x3.1 a2.Prec.Name).bind fun x30 => some (decide (x30 < 0))))).bind fun c31 =>
 ((bif c31 then
 (pf83 x3.1 a2.Prec).bind fun x34 =>
 some (x34.2, x34.1)
 else
 (pf65 x3.1 a2.Prec.At a2.Prec.Name).bind fun x35 =>
 some (x35, (-1)))).bind fun j32 =>
 some (j32.1, j32.2)
 else
 some (x3.1, x19))).bind fun j27 =>
 (appO ([] : List Int) x3.2.1).bind fun x36 =>
 (appO j27.1.f_g.Prods [(⟨w64 (1 + x1), x3.2.1, j27.2, x3.2.2.1, ([] : List Int) ++ x3.2.1, x3.2.2.2⟩ : Prod)]).bind fun x37 =>
 some (⟨(⟨j27.1.f_g.Toks, j27.1.f_g.Nons, j27.1.f_g.Prods ++ [(⟨w64 (1 + x1), x3.2.1, j27.2, x3.2.2.1, ([] : List Int) ++ x3.2.1, x3.2.2.2⟩ : Prod)], j27.1.f_g.Pro, j27.1.f_g.Tail⟩ : Grammar), j27.1.f_given, j27.1.f_types, j27.1.f_lefts, j27.1.f_e, j27.1.f_at, j27.1.f_name, j27.1.f_level, j27.1.f_inner⟩ : yuccaref9_maker)
end Go.Proofs
