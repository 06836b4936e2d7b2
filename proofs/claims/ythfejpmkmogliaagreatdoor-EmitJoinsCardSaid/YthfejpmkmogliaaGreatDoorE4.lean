/-
  What is proved here: parts of the proof that the last text states: rules for walks through code, and of this program's functions what they answer. No condition of their own.
-/
import Derived.KernelRfl
import Derived.Test.YthfejpmkmogliaaGreatDoorRows
import Derived.Test.YthfejpmkmogliaaGreatDoorE3
namespace Go.Proofs
open Go Go.Own
set_option maxRecDepth 100000
set_option linter.unusedVariables false
def pf11 (a0:ByteArray) (a1:(List Int)):Option (ByteArray) :=
 (catO ({ data:=#[118,97,114,32] }) a0).bind fun x1 =>
 (catO x1 ({ data:=#[32,61,32,91,93,105,110,116,123] })).bind fun x2 =>
 (bwO ({ data:=#[] }) x2).bind fun x3 =>
 (loopM (R:=ByteArray) (fun (s4:ByteArray × Int) =>
 (bif decide (s4.2<(a1.length:Int)) then
 (idx a1 s4.2).bind fun x8 =>
 ((bif decide (0<s4.2) then
 (bwO s4.1 ({ data:=#[44,32] })).bind fun x11 =>
 some x11
 else
 some s4.1)).bind fun j9 =>
 (itoO x8).bind fun x12 =>
 (bwO j9 x12).bind fun x13 =>
 some (.inl (x13,w64 (s4.2+1)))
 else
 some (.inr s4.1))) (x3,0)).bind fun x5 =>
 (bwO x5 ({ data:=#[125] })).bind fun x14 =>
 (bsO x14).bind fun x15 =>
 some x15
def pf18 (a0:Int):Option (ByteArray) :=
 ((bif decide (a0<0) then
 some (IntKind.u64.wrap (-(IntKind.u64.wrap a0)))
 else
 some (IntKind.u64.wrap a0))).bind fun j1 =>
 (loopM (R:=ByteArray) (fun (s3:Int × ByteArray) =>
 ((bif decide (0<s3.1) then some true else some (decide (s3.2={ data:=#[] })))).bind fun c7 =>
 (bif c7 then
 (remU s3.1 10).bind fun x9 =>
 (catO (strOfNums [w8 (IntKind.u64.wrap (48+x9))]) s3.2).bind fun x10 =>
 (quoU s3.1 10).bind fun x11 =>
 some (.inl (x11,x10))
 else
 some (.inr s3.2))) (j1,{ data:=#[] })).bind fun x4 =>
 (bif decide (a0<0) then
 (catO ({ data:=#[45] }) x4).bind fun x13 =>
 some x13
 else
 some x4)
def pf96 (a0:Int):Option (Bool) :=
 ((bif decide (48<=a0) then some (decide (a0<=57)) else some false)).bind fun c2 =>
 some c2
def pf114 (a0:Int):Option (Bool) :=
 ((bif decide (97<=a0) then (bif decide (a0<=122) then some true else (bif decide (65<=a0) then (bif decide (a0<=90) then some true else some (decide (a0=95))) else some (decide (a0=95)))) else (bif decide (65<=a0) then (bif decide (a0<=90) then some true else some (decide (a0=95))) else some (decide (a0=95))))).bind fun c7 =>
 some c7
def pf95 (a0:ByteArray) (a1:Int):Option (Int) :=
 (loopM (R:=Int) (fun (s1:Int) =>
 ((bif decide (w64 (a1+s1)<(a0.size:Int)) then ((bidx a0 (w64 (a1+s1))).bind fun x5=>((pf114 x5).bind fun x6=>(bif x6 then some true else (bif decide (0<s1) then ((bidx a0 (w64 (a1+s1))).bind fun x9=>((pf96 x9).bind fun x10=>(bif x10 then some true else ((bidx a0 (w64 (a1+s1))).bind fun x12=>some (decide (x12=46)))))) else some false)))) else some false)).bind fun c13 =>
 (bif c13 then
 some (.inl (w64 (s1+1)))
 else
 some (.inr s1))) 0).bind fun x2 =>
 some x2
def pf116 (a0:ByteArray):Option (Bool) :=
 ((bif decide (1<=(a0.size:Int)) then (bif decide ((a0.size:Int)<=20) then ((pf95 a0 0).bind fun x3=>some (decide (x3=(a0.size:Int)))) else some false) else some false)).bind fun c4 =>
 some c4
def pf123 (a0:Int):Option (Int × Bool) :=
 (bif decide (a0=10) then
 some (110,true)
 else
 (bif decide (a0=9) then
 some (116,true)
 else
 (bif decide (a0=13) then
 some (114,true)
 else
 ((bif decide (a0=92) then
 some (decide (a0=92))
 else
 some (decide (a0=39)))).bind fun j4 =>
 (bif j4 then
 some (a0,true)
 else
 ((bif decide (32<=a0) then some (0,decide (a0<=126)) else some (0,false))).bind fun c8 =>
 some (c8.1,c8.2)))))
structure Sym where
 Name:ByteArray
 Lit:Bool
 Num:Int
 At:Int
 deriving DecidableEq,Inhabited
def eSym:En Sym:=⟨4,fun x=>[SS x.Name,BB x.Lit,I64 x.Num,I64 x.At],fun _=>rfl,fun _=>NRl.nr⟩
instance:Flat eSym:=⟨fun _=>rfl⟩
instance:OOe eSym:=⟨fun x=>(inferInstance:OOl [SS x.Name,BB x.Lit,I64 x.Num,I64 x.At])⟩
instance:Tw eSym eSym:=⟨rfl,fun x=>(inferInstance:Vws [SS x.Name,BB x.Lit,I64 x.Num,I64 x.At] [SS x.Name,BB x.Lit,I64 x.Num,I64 x.At])⟩
instance {x:Sym}:Vws (eSym.cells x) [SS x.Name,BB x.Lit,I64 x.Num,I64 x.At]:=(inferInstance:Vws [SS x.Name,BB x.Lit,I64 x.Num,I64 x.At] [SS x.Name,BB x.Lit,I64 x.Num,I64 x.At])
def pf121 (a0:Sym) (a1:Bool) (a2:Bool):Option (Bool) :=
 (bif a0.Lit then
 ((bif !a2 then some true else (bif !decide ((a0.Name.size:Int)=1) then some true else some (!decide (a0.Num=0))))).bind fun c4 =>
 (bif c4 then
 some false
 else
 (bidx a0.Name 0).bind fun x6 =>
 (pf123 x6).bind fun x7 =>
 some x7.2)
 else
 (((pf116 a0.Name).bind fun x8=>(bif x8 then (bif decide (a0.Num=0) then some true else (bif a1 then (bif decide (1<=a0.Num) then some (decide (a0.Num<=50000)) else some false) else some false)) else some false))).bind fun c13 =>
 some c13)
structure Decl where
 Kind:Int
 Tag:ByteArray
 Syms:(List Sym)
 At:Int
 deriving DecidableEq,Inhabited
def eDecl_0:En Decl:=⟨4,fun x=>[I64 x.Kind,SS x.Tag,iR eSym x.Syms,I64 x.At],fun _=>rfl,fun _=>NRl.nr⟩
instance:Flat eDecl_0:=⟨fun _=>rfl⟩
instance:Tw eDecl_0 eDecl_0:=⟨rfl,fun x=>(inferInstance:Vws [I64 x.Kind,SS x.Tag,iR eSym x.Syms,I64 x.At] [I64 x.Kind,SS x.Tag,iR eSym x.Syms,I64 x.At])⟩
instance {x:Decl}:Vws (eDecl_0.cells x) [I64 x.Kind,SS x.Tag,iR eSym x.Syms,I64 x.At]:=(inferInstance:Vws [I64 x.Kind,SS x.Tag,iR eSym x.Syms,I64 x.At] [I64 x.Kind,SS x.Tag,iR eSym x.Syms,I64 x.At])
def pf115 (a0:Decl):Option (Bool) :=
 ((bif decide (a0.Kind<1) then some true else (bif decide (6<a0.Kind) then some true else (bif decide ((a0.Syms.length:Int)=0) then some true else (bif decide (a0.Kind=6) then (bif !decide ((a0.Syms.length:Int)=1) then some true else (bif !decide (a0.Tag={ data:=#[] }) then some true else (bif decide (a0.Kind=5) then (bif decide (a0.Tag={ data:=#[] }) then some true else some false) else some false))) else (bif decide (a0.Kind=5) then (bif decide (a0.Tag={ data:=#[] }) then some true else (bif !decide (a0.Tag={ data:=#[] }) then ((pf116 a0.Tag).bind fun x12=>some (!x12)) else some false)) else (bif !decide (a0.Tag={ data:=#[] }) then ((pf116 a0.Tag).bind fun x14=>some (!x14)) else some false))))))).bind fun c15 =>
 (bif c15 then
 some false
 else
 (loopM (R:=(Unit) ⊕ (Bool)) (fun (s17:Int) =>
 (bif decide (s17<(a0.Syms.length:Int)) then
 (idx a0.Syms s17).bind fun x22 =>
 (pf121 x22 (decide (a0.Kind=1)) (decide (a0.Kind<5))).bind fun x23 =>
 (bif !x23 then
 some (.inr (.inr false))
 else
 some (.inl (w64 (s17+1))))
 else
 some (.inr (.inl ())))) 0).bind fun x18 =>
 (match x18 with
 | .inl x19 =>
 some true
 | .inr x20 =>
 some x20))
def pf94 (a0:ByteArray) (a1:Int) (a2:ByteArray):Option (Bool) :=
 ((bif decide ((a2.size:Int)<=w64 ((a0.size:Int) - a1)) then ((cutO a0 a1 (w64 (a1+(a2.size:Int)))).bind fun x2=>some (decide (x2=a2))) else some false)).bind fun c3 =>
 some c3
def pf74 (a0:ByteArray) (a1:Int):Option (Int) :=
 (((bidx a0 a1).bind fun x1=>(bif decide (x1=34) then some true else ((bidx a0 a1).bind fun x3=>some (decide (x3=39)))))).bind fun c4 =>
 (bif c4 then
 (loopM (R:=(Unit) ⊕ (Int)) (fun (s6:Int) =>
 ((bif decide (s6<(a0.size:Int)) then ((bidx a0 s6).bind fun x11=>some (!decide (x11=10))) else some false)).bind fun c12 =>
 (bif c12 then
 (bidx a0 s6).bind fun x14 =>
 (bidx a0 a1).bind fun x15 =>
 (bif decide (x14=x15) then
 some (.inr (.inr (w64 (s6+1))))
 else
 (bidx a0 s6).bind fun x17 =>
 (bif decide (x17=92) then
 ((bif decide (w64 (s6+1)<(a0.size:Int)) then ((bidx a0 (w64 (s6+1))).bind fun x20=>some (decide (x20=10))) else some false)).bind fun c21 =>
 (bif c21 then
 some (.inr (.inr (-1)))
 else
 some (.inl (w64 ((w64 (s6+1))+1))))
 else
 some (.inl (w64 (s6+1)))))
 else
 some (.inr (.inl ())))) (w64 (a1+1))).bind fun x7 =>
 (match x7 with
 | .inl x8 =>
 some (-1)
 | .inr x9 =>
 some x9)
 else
 (bidx a0 a1).bind fun x23 =>
 (bif decide (x23=96) then
 (loopM (R:=(Unit) ⊕ (Int)) (fun (s25:Int) =>
 (bif decide (s25<(a0.size:Int)) then
 (bidx a0 s25).bind fun x30 =>
 (bif decide (x30=96) then
 some (.inr (.inr (w64 (s25+1))))
 else
 some (.inl (w64 (s25+1))))
 else
 some (.inr (.inl ())))) (w64 (a1+1))).bind fun x26 =>
 (match x26 with
 | .inl x27 =>
 some (-1)
 | .inr x28 =>
 some x28)
 else
 (pf94 a0 a1 ({ data:=#[47,47] })).bind fun x32 =>
 (bif x32 then
 (loopM (R:=Int) (fun (s34:Int) =>
 ((bif decide (s34<(a0.size:Int)) then ((bidx a0 s34).bind fun x38=>some (!decide (x38=10))) else some false)).bind fun c39 =>
 (bif c39 then
 some (.inl (w64 (s34+1)))
 else
 some (.inr s34))) a1).bind fun x35 =>
 some x35
 else
 (pf94 a0 a1 ({ data:=#[47,42] })).bind fun x41 =>
 (bif x41 then
 (loopM (R:=(Unit) ⊕ (Int)) (fun (s43:Int) =>
 (bif decide (s43<(a0.size:Int)) then
 (pf94 a0 s43 ({ data:=#[42,47] })).bind fun x48 =>
 (bif x48 then
 some (.inr (.inr (w64 (s43+2))))
 else
 some (.inl (w64 (s43+1))))
 else
 some (.inr (.inl ())))) (w64 (a1+2))).bind fun x44 =>
 (match x44 with
 | .inl x45 =>
 some (-1)
 | .inr x46 =>
 some x46)
 else
 some a1))))
def pf73 (a0:ByteArray) (a1:Int):Option (Int) :=
 ((bif decide (a1<0) then some true else (bif decide ((a0.size:Int)<=a1) then some true else ((bidx a0 a1).bind fun x3=>some (!decide (x3=123)))))).bind fun c4 =>
 (bif c4 then
 some (-1)
 else
 (loopM (R:=(Unit) ⊕ (Int)) (fun (s6:Int × Int) =>
 (bif decide (s6.2<(a0.size:Int)) then
 (pf74 a0 s6.2).bind fun x11 =>
 (bif decide (x11<0) then
 some (.inr (.inr (-1)))
 else
 (bif decide (s6.2<x11) then
 some (.inl (s6.1,x11))
 else
 (bidx a0 s6.2).bind fun x14 =>
 ((bif decide (x14=123) then
 some (w64 (s6.1+1))
 else
 some s6.1)).bind fun j15 =>
 (bidx a0 s6.2).bind fun x17 =>
 ((bif decide (x17=125) then
 some (w64 (j15 - 1))
 else
 some j15)).bind fun j18 =>
 (bif decide (j18=0) then
 some (.inr (.inr (w64 (s6.2+1))))
 else
 some (.inl (j18,w64 (s6.2+1))))))
 else
 some (.inr (.inl ())))) (0,a1)).bind fun x7 =>
 (match x7 with
 | .inl x8 =>
 some (-1)
 | .inr x9 =>
 some x9))
def pf122 (a0:Sym):Option (Bool) :=
 ((bif decide (a0.Name={ data:=#[] }) then (bif !a0.Lit then some (decide (a0.Num=0)) else some false) else some false)).bind fun c3 =>
 some c3
structure Part where
 Sym:Sym
 Code:ByteArray
 At:Int
 deriving DecidableEq,Inhabited
structure Alt where
 Parts:(List Part)
 Prec:Sym
 At:Int
 deriving DecidableEq,Inhabited
def ePart:En Part:=⟨6,fun x=>[SS x.Sym.Name,BB x.Sym.Lit,I64 x.Sym.Num,I64 x.Sym.At,SS x.Code,I64 x.At],fun _=>rfl,fun _=>NRl.nr⟩
instance:Flat ePart:=⟨fun _=>rfl⟩
instance:OOe ePart:=⟨fun x=>(inferInstance:OOl [SS x.Sym.Name,BB x.Sym.Lit,I64 x.Sym.Num,I64 x.Sym.At,SS x.Code,I64 x.At])⟩
instance:Tw ePart ePart:=⟨rfl,fun x=>(inferInstance:Vws [SS x.Sym.Name,BB x.Sym.Lit,I64 x.Sym.Num,I64 x.Sym.At,SS x.Code,I64 x.At] [SS x.Sym.Name,BB x.Sym.Lit,I64 x.Sym.Num,I64 x.Sym.At,SS x.Code,I64 x.At])⟩
instance {x:Part}:Vws (ePart.cells x) [SS x.Sym.Name,BB x.Sym.Lit,I64 x.Sym.Num,I64 x.Sym.At,SS x.Code,I64 x.At]:=(inferInstance:Vws [SS x.Sym.Name,BB x.Sym.Lit,I64 x.Sym.Num,I64 x.Sym.At,SS x.Code,I64 x.At] [SS x.Sym.Name,BB x.Sym.Lit,I64 x.Sym.Num,I64 x.Sym.At,SS x.Code,I64 x.At])
def eAlt_0:En Alt:=⟨6,fun x=>[iR ePart x.Parts,SS x.Prec.Name,BB x.Prec.Lit,I64 x.Prec.Num,I64 x.Prec.At,I64 x.At],fun _=>rfl,fun _=>NRl.nr⟩
instance:Flat eAlt_0:=⟨fun _=>rfl⟩
instance:Tw eAlt_0 eAlt_0:=⟨rfl,fun x=>(inferInstance:Vws [iR ePart x.Parts,SS x.Prec.Name,BB x.Prec.Lit,I64 x.Prec.Num,I64 x.Prec.At,I64 x.At] [iR ePart x.Parts,SS x.Prec.Name,BB x.Prec.Lit,I64 x.Prec.Num,I64 x.Prec.At,I64 x.At])⟩
instance {x:Alt}:Vws (eAlt_0.cells x) [iR ePart x.Parts,SS x.Prec.Name,BB x.Prec.Lit,I64 x.Prec.Num,I64 x.Prec.At,I64 x.At]:=(inferInstance:Vws [iR ePart x.Parts,SS x.Prec.Name,BB x.Prec.Lit,I64 x.Prec.Num,I64 x.Prec.At,I64 x.At] [iR ePart x.Parts,SS x.Prec.Name,BB x.Prec.Lit,I64 x.Prec.Num,I64 x.Prec.At,I64 x.At])
def pf117 (a0:Alt):Option (Bool) :=
 (loopM (R:=(Unit) ⊕ (Bool)) (fun (s1:Int) =>
 (bif decide (s1<(a0.Parts.length:Int)) then
 (idx a0.Parts s1).bind fun x6 =>
 ((bif decide (x6.Code={ data:=#[] }) then ((pf121 x6.Sym false true).bind fun x8=>(bif !x8 then some true else (bif !decide (x6.Code={ data:=#[] }) then ((pf122 x6.Sym).bind fun x11=>(bif !x11 then some true else ((pf73 x6.Code 0).bind fun x13=>some (!decide (x13=(x6.Code.size:Int)))))) else some false))) else (bif !decide (x6.Code={ data:=#[] }) then ((pf122 x6.Sym).bind fun x15=>(bif !x15 then some true else ((pf73 x6.Code 0).bind fun x17=>some (!decide (x17=(x6.Code.size:Int)))))) else some false))).bind fun c18 =>
 (bif c18 then
 some (.inr (.inr false))
 else
 some (.inl (w64 (s1+1))))
 else
 some (.inr (.inl ())))) 0).bind fun x2 =>
 (match x2 with
 | .inl x3 =>
 (((pf122 a0.Prec).bind fun x20=>(bif x20 then some true else ((pf121 a0.Prec false true).bind fun x22=>some x22)))).bind fun c23 =>
 some c23
 | .inr x4 =>
 some x4)
structure Rule where
 Left:ByteArray
 Alts:(List Alt)
 At:Int
 deriving DecidableEq,Inhabited
structure Source where
 Pro:ByteArray
 Decls:(List Decl)
 Rules:(List Rule)
 Tail:ByteArray
 deriving DecidableEq,Inhabited
def eRule_0:En Rule:=⟨3,fun x=>[SS x.Left,iR eAlt_0 x.Alts,I64 x.At],fun _=>rfl,fun _=>NRl.nr⟩
instance:Flat eRule_0:=⟨fun _=>rfl⟩
instance:Tw eRule_0 eRule_0:=⟨rfl,fun x=>(inferInstance:Vws [SS x.Left,iR eAlt_0 x.Alts,I64 x.At] [SS x.Left,iR eAlt_0 x.Alts,I64 x.At])⟩
instance {x:Rule}:Vws (eRule_0.cells x) [SS x.Left,iR eAlt_0 x.Alts,I64 x.At]:=(inferInstance:Vws [SS x.Left,iR eAlt_0 x.Alts,I64 x.At] [SS x.Left,iR eAlt_0 x.Alts,I64 x.At])
def eSource_0:En Source:=⟨4,fun x=>[SS x.Pro,iR eDecl_0 x.Decls,iR eRule_0 x.Rules,SS x.Tail],fun _=>rfl,fun _=>NRl.nr⟩
instance:Flat eSource_0:=⟨fun _=>rfl⟩
instance:Tw eSource_0 eSource_0:=⟨rfl,fun x=>(inferInstance:Vws [SS x.Pro,iR eDecl_0 x.Decls,iR eRule_0 x.Rules,SS x.Tail] [SS x.Pro,iR eDecl_0 x.Decls,iR eRule_0 x.Rules,SS x.Tail])⟩
instance {x:Source}:Vws (eSource_0.cells x) [SS x.Pro,iR eDecl_0 x.Decls,iR eRule_0 x.Rules,SS x.Tail]:=(inferInstance:Vws [SS x.Pro,iR eDecl_0 x.Decls,iR eRule_0 x.Rules,SS x.Tail] [SS x.Pro,iR eDecl_0 x.Decls,iR eRule_0 x.Rules,SS x.Tail])
def pf99 (a0:Source):Option (Bool) :=
 (loopM (R:=(Unit) ⊕ (Bool)) (fun (s1:Int) =>
 (bif decide (w64 (s1+1)<(a0.Pro.size:Int)) then
 (cutO a0.Pro s1 (w64 (s1+2))).bind fun x6 =>
 (bif decide (x6={ data:=#[37,125] }) then
 some (.inr (.inr false))
 else
 some (.inl (w64 (s1+1))))
 else
 some (.inr (.inl ())))) 0).bind fun x2 =>
 (match x2 with
 | .inl x3 =>
 (loopM (R:=(Unit) ⊕ (Bool)) (fun (s8:Int) =>
 (bif decide (s8<(a0.Decls.length:Int)) then
 (idx a0.Decls s8).bind fun x13 =>
 (pf115 x13).bind fun x14 =>
 (bif !x14 then
 some (.inr (.inr false))
 else
 some (.inl (w64 (s8+1))))
 else
 some (.inr (.inl ())))) 0).bind fun x9 =>
 (match x9 with
 | .inl x10 =>
 (loopM (R:=(Unit) ⊕ (Bool)) (fun (s16:Int) =>
 (bif decide (s16<(a0.Rules.length:Int)) then
 (idx a0.Rules s16).bind fun x21 =>
 (((pf116 x21.Left).bind fun x22=>(bif !x22 then some true else some (decide ((x21.Alts.length:Int)=0))))).bind fun c24 =>
 (bif c24 then
 some (.inr (.inr false))
 else
 (loopM (R:=(Unit) ⊕ (Bool)) (fun (s26:Int) =>
 (bif decide (s26<(x21.Alts.length:Int)) then
 (idx x21.Alts s26).bind fun x31 =>
 (pf117 x31).bind fun x32 =>
 (bif !x32 then
 some (.inr (.inr false))
 else
 some (.inl (w64 (s26+1))))
 else
 some (.inr (.inl ())))) 0).bind fun x27 =>
 (match x27 with
 | .inl x28 =>
 some (.inl (w64 (s16+1)))
 | .inr x29 =>
 some (.inr (.inr x29))))
 else
 some (.inr (.inl ())))) 0).bind fun x17 =>
 (match x17 with
 | .inl x18 =>
 some (decide (0<(a0.Rules.length:Int)))
 | .inr x19 =>
 some x19)
 | .inr x11 =>
 some x11)
 | .inr x4 =>
 some x4)
structure Tok where
 Name:ByteArray
 Lit:Bool
 Num:Int
 Level:Int
 Assoc:Int
 Tag:ByteArray
 deriving DecidableEq,Inhabited
structure Non where
 Name:ByteArray
 Tag:ByteArray
 deriving DecidableEq,Inhabited
structure Prod where
 Left:Int
 Right:(List Int)
 Prec:Int
 Code:ByteArray
 Args:(List Int)
 At:Int
 deriving DecidableEq,Inhabited
structure Grammar where
 Toks:(List Tok)
 Nons:(List Non)
 Prods:(List Prod)
 Pro:ByteArray
 Tail:ByteArray
 deriving DecidableEq,Inhabited
structure yuccaref9_maker where
 f_g:Grammar
 f_given:(List Bool)
 f_types:(List Non)
 f_lefts:(List ByteArray)
 f_e:Int
 f_at:Int
 f_name:ByteArray
 f_level:Int
 f_inner:Int
 deriving DecidableEq,Inhabited
def eTok:En Tok:=⟨6,fun x=>[SS x.Name,BB x.Lit,I64 x.Num,I64 x.Level,I64 x.Assoc,SS x.Tag],fun _=>rfl,fun _=>NRl.nr⟩
instance:Flat eTok:=⟨fun _=>rfl⟩
instance:OOe eTok:=⟨fun x=>(inferInstance:OOl [SS x.Name,BB x.Lit,I64 x.Num,I64 x.Level,I64 x.Assoc,SS x.Tag])⟩
instance:Tw eTok eTok:=⟨rfl,fun x=>(inferInstance:Vws [SS x.Name,BB x.Lit,I64 x.Num,I64 x.Level,I64 x.Assoc,SS x.Tag] [SS x.Name,BB x.Lit,I64 x.Num,I64 x.Level,I64 x.Assoc,SS x.Tag])⟩
instance {x:Tok}:Vws (eTok.cells x) [SS x.Name,BB x.Lit,I64 x.Num,I64 x.Level,I64 x.Assoc,SS x.Tag]:=(inferInstance:Vws [SS x.Name,BB x.Lit,I64 x.Num,I64 x.Level,I64 x.Assoc,SS x.Tag] [SS x.Name,BB x.Lit,I64 x.Num,I64 x.Level,I64 x.Assoc,SS x.Tag])
def eNon:En Non:=⟨2,fun x=>[SS x.Name,SS x.Tag],fun _=>rfl,fun _=>NRl.nr⟩
instance:Flat eNon:=⟨fun _=>rfl⟩
instance:OOe eNon:=⟨fun x=>(inferInstance:OOl [SS x.Name,SS x.Tag])⟩
instance:Tw eNon eNon:=⟨rfl,fun x=>(inferInstance:Vws [SS x.Name,SS x.Tag] [SS x.Name,SS x.Tag])⟩
def eProd_0:En Prod:=⟨6,fun x=>[I64 x.Left,iR eI x.Right,I64 x.Prec,SS x.Code,iR eI x.Args,I64 x.At],fun _=>rfl,fun _=>NRl.nr⟩
instance:Flat eProd_0:=⟨fun _=>rfl⟩
instance:Tw eProd_0 eProd_0:=⟨rfl,fun x=>(inferInstance:Vws [I64 x.Left,iR eI x.Right,I64 x.Prec,SS x.Code,iR eI x.Args,I64 x.At] [I64 x.Left,iR eI x.Right,I64 x.Prec,SS x.Code,iR eI x.Args,I64 x.At])⟩
instance {x:Prod}:Vws (eProd_0.cells x) [I64 x.Left,iR eI x.Right,I64 x.Prec,SS x.Code,iR eI x.Args,I64 x.At]:=(inferInstance:Vws [I64 x.Left,iR eI x.Right,I64 x.Prec,SS x.Code,iR eI x.Args,I64 x.At] [I64 x.Left,iR eI x.Right,I64 x.Prec,SS x.Code,iR eI x.Args,I64 x.At])
def eGrammar_0:En Grammar:=⟨5,fun x=>[iR eTok x.Toks,iR eNon x.Nons,iR eProd_0 x.Prods,SS x.Pro,SS x.Tail],fun _=>rfl,fun _=>NRl.nr⟩
instance:Flat eGrammar_0:=⟨fun _=>rfl⟩
instance:Tw eGrammar_0 eGrammar_0:=⟨rfl,fun x=>(inferInstance:Vws [iR eTok x.Toks,iR eNon x.Nons,iR eProd_0 x.Prods,SS x.Pro,SS x.Tail] [iR eTok x.Toks,iR eNon x.Nons,iR eProd_0 x.Prods,SS x.Pro,SS x.Tail])⟩
instance {x:Grammar}:Vws (eGrammar_0.cells x) [iR eTok x.Toks,iR eNon x.Nons,iR eProd_0 x.Prods,SS x.Pro,SS x.Tail]:=(inferInstance:Vws [iR eTok x.Toks,iR eNon x.Nons,iR eProd_0 x.Prods,SS x.Pro,SS x.Tail] [iR eTok x.Toks,iR eNon x.Nons,iR eProd_0 x.Prods,SS x.Pro,SS x.Tail])
def eyuccaref9_maker_0:En yuccaref9_maker:=⟨13,fun x=>[iR eTok x.f_g.Toks,iR eNon x.f_g.Nons,iR eProd_0 x.f_g.Prods,SS x.f_g.Pro,SS x.f_g.Tail,iR eB x.f_given,iR eNon x.f_types,iR eS x.f_lefts,I64 x.f_e,I64 x.f_at,SS x.f_name,I64 x.f_level,I64 x.f_inner],fun _=>rfl,fun _=>NRl.nr⟩
instance:Flat eyuccaref9_maker_0:=⟨fun _=>rfl⟩
instance:Tw eyuccaref9_maker_0 eyuccaref9_maker_0:=⟨rfl,fun x=>(inferInstance:Vws [iR eTok x.f_g.Toks,iR eNon x.f_g.Nons,iR eProd_0 x.f_g.Prods,SS x.f_g.Pro,SS x.f_g.Tail,iR eB x.f_given,iR eNon x.f_types,iR eS x.f_lefts,I64 x.f_e,I64 x.f_at,SS x.f_name,I64 x.f_level,I64 x.f_inner] [iR eTok x.f_g.Toks,iR eNon x.f_g.Nons,iR eProd_0 x.f_g.Prods,SS x.f_g.Pro,SS x.f_g.Tail,iR eB x.f_given,iR eNon x.f_types,iR eS x.f_lefts,I64 x.f_e,I64 x.f_at,SS x.f_name,I64 x.f_level,I64 x.f_inner])⟩
instance {x:yuccaref9_maker}:Vws (eyuccaref9_maker_0.cells x) [iR eTok x.f_g.Toks,iR eNon x.f_g.Nons,iR eProd_0 x.f_g.Prods,SS x.f_g.Pro,SS x.f_g.Tail,iR eB x.f_given,iR eNon x.f_types,iR eS x.f_lefts,I64 x.f_e,I64 x.f_at,SS x.f_name,I64 x.f_level,I64 x.f_inner]:=(inferInstance:Vws [iR eTok x.f_g.Toks,iR eNon x.f_g.Nons,iR eProd_0 x.f_g.Prods,SS x.f_g.Pro,SS x.f_g.Tail,iR eB x.f_given,iR eNon x.f_types,iR eS x.f_lefts,I64 x.f_e,I64 x.f_at,SS x.f_name,I64 x.f_level,I64 x.f_inner] [iR eTok x.f_g.Toks,iR eNon x.f_g.Nons,iR eProd_0 x.f_g.Prods,SS x.f_g.Pro,SS x.f_g.Tail,iR eB x.f_given,iR eNon x.f_types,iR eS x.f_lefts,I64 x.f_e,I64 x.f_at,SS x.f_name,I64 x.f_level,I64 x.f_inner])
def eGrammar_1:En Grammar:=⟨5,fun x=>[oR eTok x.Toks,oR eNon x.Nons,oR eProd_0 x.Prods,SS x.Pro,SS x.Tail],fun _=>rfl,fun _=>NRl.nr⟩
instance:Tw eGrammar_1 eGrammar_0:=⟨rfl,fun x=>(inferInstance:Vws [oR eTok x.Toks,oR eNon x.Nons,oR eProd_0 x.Prods,SS x.Pro,SS x.Tail] [iR eTok x.Toks,iR eNon x.Nons,iR eProd_0 x.Prods,SS x.Pro,SS x.Tail])⟩
instance {x:Grammar}:Vws (eGrammar_1.cells x) [iR eTok x.Toks,iR eNon x.Nons,iR eProd_0 x.Prods,SS x.Pro,SS x.Tail]:=(inferInstance:Vws [oR eTok x.Toks,oR eNon x.Nons,oR eProd_0 x.Prods,SS x.Pro,SS x.Tail] [iR eTok x.Toks,iR eNon x.Nons,iR eProd_0 x.Prods,SS x.Pro,SS x.Tail])
def eyuccaref9_maker_r:En yuccaref9_maker:=⟨13,fun x=>[oR eTok x.f_g.Toks,oR eNon x.f_g.Nons,oR eProd_0 x.f_g.Prods,SS x.f_g.Pro,SS x.f_g.Tail,oR eB x.f_given,oR eNon x.f_types,oR eS x.f_lefts,I64 x.f_e,I64 x.f_at,SS x.f_name,I64 x.f_level,I64 x.f_inner],fun _=>rfl,fun _=>NRl.nr⟩
instance {x:yuccaref9_maker}:Vws (eyuccaref9_maker_r.cells x) [iR eTok x.f_g.Toks,iR eNon x.f_g.Nons,iR eProd_0 x.f_g.Prods,SS x.f_g.Pro,SS x.f_g.Tail,iR eB x.f_given,iR eNon x.f_types,iR eS x.f_lefts,I64 x.f_e,I64 x.f_at,SS x.f_name,I64 x.f_level,I64 x.f_inner]:=(inferInstance:Vws [oR eTok x.f_g.Toks,oR eNon x.f_g.Nons,oR eProd_0 x.f_g.Prods,SS x.f_g.Pro,SS x.f_g.Tail,oR eB x.f_given,oR eNon x.f_types,oR eS x.f_lefts,I64 x.f_e,I64 x.f_at,SS x.f_name,I64 x.f_level,I64 x.f_inner] [iR eTok x.f_g.Toks,iR eNon x.f_g.Nons,iR eProd_0 x.f_g.Prods,SS x.f_g.Pro,SS x.f_g.Tail,iR eB x.f_given,iR eNon x.f_types,iR eS x.f_lefts,I64 x.f_e,I64 x.f_at,SS x.f_name,I64 x.f_level,I64 x.f_inner])
def pf101 (a0:yuccaref9_maker) (a1:Int) (a2:ByteArray):Option (yuccaref9_maker) :=
 ((bif decide (a0.f_e=0) then
 some (⟨a0.f_g,a0.f_given,a0.f_types,a0.f_lefts,3,a1,a2,a0.f_level,a0.f_inner⟩:yuccaref9_maker)
 else
 some a0)).bind fun j1 =>
 some j1
def pf105 (a0:yuccaref9_maker) (a1:ByteArray):Option (Int) :=
 (loopM (R:=(Unit) ⊕ (Int)) (fun (s1:Int) =>
 (bif decide (s1<(a0.f_types.length:Int)) then
 (idx a0.f_types s1).bind fun x6 =>
 (bif decide (x6.Name=a1) then
 some (.inr (.inr s1))
 else
 some (.inl (w64 (s1+1))))
 else
 some (.inr (.inl ())))) 0).bind fun x2 =>
 (match x2 with
 | .inl x3 =>
 some (-1)
 | .inr x4 =>
 some x4)
def pf102 (a0:yuccaref9_maker) (a1:Sym):Option (Int) :=
 (loopM (R:=(Unit) ⊕ (Int)) (fun (s1:Int) =>
 (bif decide (s1<(a0.f_g.Toks.length:Int)) then
 (((idx a0.f_g.Toks s1).bind fun x6=>(bif decide (x6.Name=a1.Name) then ((idx a0.f_g.Toks s1).bind fun x8=>(bif (x8.Lit == a1.Lit) then some (!decide (s1=2)) else some false)) else some false))).bind fun c10 =>
 (bif c10 then
 some (.inr (.inr s1))
 else
 some (.inl (w64 (s1+1))))
 else
 some (.inr (.inl ())))) 1).bind fun x2 =>
 (match x2 with
 | .inl x3 =>
 some (-1)
 | .inr x4 =>
 some x4)
def pf119 (a0:yuccaref9_maker) (a1:Int):Option (Int) :=
 (loopM (R:=(Unit) ⊕ (Int)) (fun (s1:Int) =>
 (bif decide (s1<(a0.f_g.Toks.length:Int)) then
 (idx a0.f_g.Toks s1).bind fun x6 =>
 (bif decide (x6.Num=a1) then
 some (.inr (.inr s1))
 else
 some (.inl (w64 (s1+1))))
 else
 some (.inr (.inl ())))) 3).bind fun x2 =>
 (match x2 with
 | .inl x3 =>
 some (-1)
 | .inr x4 =>
 some x4)
def pf118 (a0:yuccaref9_maker) (a1:Sym):Option (Int × yuccaref9_maker) :=
 (pf102 a0 a1).bind fun x1 =>
 (bif decide (0<=x1) then
 some (x1,a0)
 else
 ((bif a1.Lit then
 (bidx a1.Name 0).bind fun x5 =>
 (pf119 a0 (w64 x5)).bind fun x6 =>
 ((bif decide (0<=x6) then
 (pf101 a0 a1.At a1.Name).bind fun x9 =>
 some x9
 else
 some a0)).bind fun j7 =>
 some (j7,w64 x5)
 else
 some (a0,0))).bind fun j3 =>
 (appO j3.1.f_g.Toks [(⟨a1.Name,a1.Lit,j3.2,0,0,{ data:=#[] }⟩:Tok)]).bind fun x10 =>
 (appO j3.1.f_given [a1.Lit]).bind fun x11 =>
 some (w64 (((j3.1.f_g.Toks++[(⟨a1.Name,a1.Lit,j3.2,0,0,{ data:=#[] }⟩:Tok)]).length:Int) - 1),(⟨(⟨j3.1.f_g.Toks++[(⟨a1.Name,a1.Lit,j3.2,0,0,{ data:=#[] }⟩:Tok)],j3.1.f_g.Nons,j3.1.f_g.Prods,j3.1.f_g.Pro,j3.1.f_g.Tail⟩:Grammar),j3.1.f_given++[a1.Lit],j3.1.f_types,j3.1.f_lefts,j3.1.f_e,j3.1.f_at,j3.1.f_name,j3.1.f_level,j3.1.f_inner⟩:yuccaref9_maker)))
def pf100 (a0:yuccaref9_maker) (a1:Decl) (a2:Sym):Option (yuccaref9_maker) :=
 (bif decide (a1.Kind=5) then
 (pf105 a0 a2.Name).bind fun x2 =>
 ((bif decide (x2<0) then
 (appO a0.f_types [(⟨a2.Name,a1.Tag⟩:Non)]).bind fun x5 =>
 some (⟨a0.f_g,a0.f_given,a0.f_types++[(⟨a2.Name,a1.Tag⟩:Non)],a0.f_lefts,a0.f_e,a0.f_at,a0.f_name,a0.f_level,a0.f_inner⟩:yuccaref9_maker)
 else
 (idx a0.f_types x2).bind fun x6 =>
 ((bif !decide (x6.Tag=a1.Tag) then
 (pf101 a0 a2.At a2.Name).bind fun x9 =>
 some x9
 else
 some a0)).bind fun j7 =>
 some j7)).bind fun j3 =>
 some j3
 else
 (pf118 a0 a2).bind fun x10 =>
 (idx x10.2.f_g.Toks x10.1).bind fun x11 =>
 ((bif !decide (a1.Kind=1) then
 ((bif decide (0<x11.Level) then
 (pf101 x10.2 a2.At a2.Name).bind fun x16 =>
 some (⟨(⟨x10.2.f_g.Toks,x16.f_g.Nons,x16.f_g.Prods,x16.f_g.Pro,x16.f_g.Tail⟩:Grammar),x16.f_given,x16.f_types,x16.f_lefts,x16.f_e,x16.f_at,x16.f_name,x16.f_level,x16.f_inner⟩:yuccaref9_maker)
 else
 some x10.2)).bind fun j14 =>
 (idx j14.f_g.Toks x10.1).bind fun x17 =>
 some (⟨(⟨(j14.f_g.Toks.set x10.1.toNat (⟨x17.Name,x17.Lit,x17.Num,j14.f_level,x17.Assoc,x17.Tag⟩:Tok)).set x10.1.toNat (⟨(⟨x17.Name,x17.Lit,x17.Num,j14.f_level,x17.Assoc,x17.Tag⟩:Tok).Name,(⟨x17.Name,x17.Lit,x17.Num,j14.f_level,x17.Assoc,x17.Tag⟩:Tok).Lit,(⟨x17.Name,x17.Lit,x17.Num,j14.f_level,x17.Assoc,x17.Tag⟩:Tok).Num,(⟨x17.Name,x17.Lit,x17.Num,j14.f_level,x17.Assoc,x17.Tag⟩:Tok).Level,w64 (a1.Kind - 1),(⟨x17.Name,x17.Lit,x17.Num,j14.f_level,x17.Assoc,x17.Tag⟩:Tok).Tag⟩:Tok),j14.f_g.Nons,j14.f_g.Prods,j14.f_g.Pro,j14.f_g.Tail⟩:Grammar),j14.f_given,j14.f_types,j14.f_lefts,j14.f_e,j14.f_at,j14.f_name,j14.f_level,j14.f_inner⟩:yuccaref9_maker)
 else
 some x10.2)).bind fun j12 =>
 (idx j12.f_g.Toks x10.1).bind fun x18 =>
 ((bif decide (0<a2.Num) then
 ((bif decide (x10.1=1) then some true else ((idx j12.f_given x10.1).bind fun x22=>(bif x22 then some true else ((pf119 j12 a2.Num).bind fun x24=>some (decide (0<=x24))))))).bind fun c25 =>
 ((bif c25 then
 (pf101 j12 a2.At a2.Name).bind fun x28 =>
 some (⟨(⟨j12.f_g.Toks,x28.f_g.Nons,x28.f_g.Prods,x28.f_g.Pro,x28.f_g.Tail⟩:Grammar),x28.f_given,x28.f_types,x28.f_lefts,x28.f_e,x28.f_at,x28.f_name,x28.f_level,x28.f_inner⟩:yuccaref9_maker)
 else
 some j12)).bind fun j26 =>
 (idx j26.f_g.Toks x10.1).bind fun x29 =>
 (idx j26.f_given x10.1).bind fun x30 =>
 some (⟨(⟨j26.f_g.Toks.set x10.1.toNat (⟨x29.Name,x29.Lit,a2.Num,x29.Level,x29.Assoc,x29.Tag⟩:Tok),j26.f_g.Nons,j26.f_g.Prods,j26.f_g.Pro,j26.f_g.Tail⟩:Grammar),j26.f_given.set x10.1.toNat true,j26.f_types,j26.f_lefts,j26.f_e,j26.f_at,j26.f_name,j26.f_level,j26.f_inner⟩:yuccaref9_maker)
 else
 some j12)).bind fun j19 =>
 (idx j19.f_g.Toks x10.1).bind fun x31 =>
 ((bif !decide (a1.Tag={ data:=#[] }) then
 ((bif !decide (x31.Tag={ data:=#[] }) then some (!decide (x31.Tag=a1.Tag)) else some false)).bind fun c35 =>
 ((bif c35 then
 (pf101 j19 a2.At a2.Name).bind fun x38 =>
 some (⟨(⟨j19.f_g.Toks,x38.f_g.Nons,x38.f_g.Prods,x38.f_g.Pro,x38.f_g.Tail⟩:Grammar),x38.f_given,x38.f_types,x38.f_lefts,x38.f_e,x38.f_at,x38.f_name,x38.f_level,x38.f_inner⟩:yuccaref9_maker)
 else
 some j19)).bind fun j36 =>
 (idx j36.f_g.Toks x10.1).bind fun x39 =>
 some (⟨(⟨j36.f_g.Toks.set x10.1.toNat (⟨x39.Name,x39.Lit,x39.Num,x39.Level,x39.Assoc,a1.Tag⟩:Tok),j36.f_g.Nons,j36.f_g.Prods,j36.f_g.Pro,j36.f_g.Tail⟩:Grammar),j36.f_given,j36.f_types,j36.f_lefts,j36.f_e,j36.f_at,j36.f_name,j36.f_level,j36.f_inner⟩:yuccaref9_maker)
 else
 some j19)).bind fun j32 =>
 some j32)
def pf103 (a0:yuccaref9_maker) (a1:ByteArray):Option (Int) :=
 (loopM (R:=(Unit) ⊕ (Int)) (fun (s1:Int) =>
 (bif decide (s1<(a0.f_lefts.length:Int)) then
 (idx a0.f_lefts s1).bind fun x6 =>
 (bif decide (x6=a1) then
 some (.inr (.inr s1))
 else
 some (.inl (w64 (s1+1))))
 else
 some (.inr (.inl ())))) 0).bind fun x2 =>
 (match x2 with
 | .inl x3 =>
 some (-1)
 | .inr x4 =>
 some x4)
def pf120 (a0:yuccaref9_maker) (a1:Sym):Option (Int × yuccaref9_maker) :=
 (bif a1.Lit then
 (pf118 a0 a1).bind fun x2 =>
 some (x2.1,x2.2)
 else
 (pf103 a0 a1.Name).bind fun x3 =>
 (bif decide (0<=x3) then
 some (w64 (1001+x3),a0)
 else
 (pf102 a0 a1).bind fun x5 =>
 (bif decide (x5<0) then
 (pf101 a0 a1.At a1.Name).bind fun x7 =>
 some (0,x7)
 else
 some (x5,a0))))
def pf104 (a0:yuccaref9_maker) (a1:ByteArray) (a2:Alt):Option (yuccaref9_maker) :=
 (pf103 a0 a1).bind fun x1 =>
 (loopM (R:=yuccaref9_maker × List Int × ByteArray × Int) (fun (s2:yuccaref9_maker × List Int × ByteArray × Int × Int) =>
 (bif decide (s2.2.2.2.2<(a2.Parts.length:Int)) then
 ((idx a2.Parts s2.2.2.2.2).bind fun x7 =>
 (((bif decide (x7.Code={ data:=#[] }) then
 (pf120 s2.1 x7.Sym).bind fun x11 =>
 (appO s2.2.1 [x11.1]).bind fun x12 =>
 some (x11.2,s2.2.1++[x11.1],s2.2.2.1,s2.2.2.2.1)
 else
 ((bif decide (w64 (s2.2.2.2.2+1)=(a2.Parts.length:Int)) then
 some (s2.1.f_g.Prods,s2.1.f_inner,s2.2.1,x7.Code,x7.At)
 else
 (appO ([]:List Int) s2.2.1).bind fun x15 =>
 (appO s2.1.f_g.Prods [(⟨w64 ((s2.1.f_lefts.length:Int)+(w64 (s2.1.f_inner+1))),([]:List Int),(-1),x7.Code,([]:List Int)++s2.2.1,x7.At⟩:Prod)]).bind fun x16 =>
 (appO s2.2.1 [w64 ((w64 (1000+(s2.1.f_lefts.length:Int)))+(w64 (s2.1.f_inner+1)))]).bind fun x17 =>
 some (s2.1.f_g.Prods++[(⟨w64 ((s2.1.f_lefts.length:Int)+(w64 (s2.1.f_inner+1))),([]:List Int),(-1),x7.Code,([]:List Int)++s2.2.1,x7.At⟩:Prod)],w64 (s2.1.f_inner+1),s2.2.1++[w64 ((w64 (1000+(s2.1.f_lefts.length:Int)))+(w64 (s2.1.f_inner+1)))],s2.2.2.1,s2.2.2.2.1))).bind fun j13 =>
 some ((⟨(⟨s2.1.f_g.Toks,s2.1.f_g.Nons,j13.1,s2.1.f_g.Pro,s2.1.f_g.Tail⟩:Grammar),s2.1.f_given,s2.1.f_types,s2.1.f_lefts,s2.1.f_e,s2.1.f_at,s2.1.f_name,s2.1.f_level,j13.2.1⟩:yuccaref9_maker),j13.2.2.1,j13.2.2.2.1,j13.2.2.2.2))).bind fun j9 =>
 some (j9.1,j9.2.1,j9.2.2.1,j9.2.2.2)).bind fun j8 =>
 some (j8.1,j8.2.1,j8.2.2.1,j8.2.2.2)).bind fun j6 =>
 some (.inl (j6.1,j6.2.1,j6.2.2.1,j6.2.2.2,w64 (s2.2.2.2.2+1)))
 else
 some (.inr (s2.1,s2.2.1,s2.2.2.1,s2.2.2.2.1)))) (a0,([]:List Int),{ data:=#[] },a2.At,0)).bind fun x3 =>
 (loopM (R:=Int) (fun (s18:Int × Int) =>
 (bif decide (s18.2<(x3.2.1.length:Int)) then
 ((idx x3.2.1 s18.2).bind fun x23 =>
 ((bif decide (x23<1000) then
 (idx x3.2.1 s18.2).bind fun x26 =>
 some x26
 else
 some s18.1)).bind fun j24 =>
 some j24).bind fun j22 =>
 some (.inl (j22,w64 (s18.2+1)))
 else
 some (.inr s18.1))) ((-1),0)).bind fun x19 =>
 ((bif !decide (a2.Prec.Name={ data:=#[] }) then
 ((bif a2.Prec.Lit then some true else ((pf103 x3.1 a2.Prec.Name).bind fun x30=>some (decide (x30<0))))).bind fun c31 =>
 ((bif c31 then
 (pf120 x3.1 a2.Prec).bind fun x34 =>
 some (x34.2,x34.1)
 else
 (pf101 x3.1 a2.Prec.At a2.Prec.Name).bind fun x35 =>
 some (x35,(-1)))).bind fun j32 =>
 some (j32.1,j32.2)
 else
 some (x3.1,x19))).bind fun j27 =>
 (appO ([]:List Int) x3.2.1).bind fun x36 =>
 (appO j27.1.f_g.Prods [(⟨w64 (1+x1),x3.2.1,j27.2,x3.2.2.1,([]:List Int)++x3.2.1,x3.2.2.2⟩:Prod)]).bind fun x37 =>
 some (⟨(⟨j27.1.f_g.Toks,j27.1.f_g.Nons,j27.1.f_g.Prods++[(⟨w64 (1+x1),x3.2.1,j27.2,x3.2.2.1,([]:List Int)++x3.2.1,x3.2.2.2⟩:Prod)],j27.1.f_g.Pro,j27.1.f_g.Tail⟩:Grammar),j27.1.f_given,j27.1.f_types,j27.1.f_lefts,j27.1.f_e,j27.1.f_at,j27.1.f_name,j27.1.f_level,j27.1.f_inner⟩:yuccaref9_maker)
def pf81 (a0:Source):Option (Grammar × Int × Int × ByteArray) :=
 (pf99 a0).bind fun x1 =>
 (bif !x1 then
 some ((⟨([]:List Tok),([]:List Non),([]:List Prod),{ data:=#[] },{ data:=#[] }⟩:Grammar),1,0,{ data:=#[] })
 else
 (mkO 3 false).bind fun x3 =>
 (loopM (R:=yuccaref9_maker × ByteArray) (fun (s4:yuccaref9_maker × ByteArray × Int) =>
 (bif decide (s4.2.2<(a0.Decls.length:Int)) then
 (idx a0.Decls s4.2.2).bind fun x8 =>
 ((bif decide (2<=x8.Kind) then some (decide (x8.Kind<=4)) else some false)).bind fun c10 =>
 ((bif c10 then
 some (w64 (s4.1.f_level+1))
 else
 some s4.1.f_level)).bind fun j11 =>
 (loopM (R:=yuccaref9_maker × ByteArray) (fun (s13:yuccaref9_maker × ByteArray × Int) =>
 (bif decide (s13.2.2<(x8.Syms.length:Int)) then
 ((bif !decide (x8.Kind=6) then
 (idx x8.Syms s13.2.2).bind fun x19 =>
 (pf100 s13.1 x8 x19).bind fun x20 =>
 some (x20,s13.2.1)
 else
 ((bif !decide (s13.2.1={ data:=#[] }) then
 (idx x8.Syms s13.2.2).bind fun x23 =>
 (idx x8.Syms s13.2.2).bind fun x24 =>
 (pf101 s13.1 x23.At x24.Name).bind fun x25 =>
 some x25
 else
 some s13.1)).bind fun j21 =>
 (idx x8.Syms s13.2.2).bind fun x26 =>
 some (j21,x26.Name))).bind fun j17 =>
 some (.inl (j17.1,j17.2,w64 (s13.2.2+1)))
 else
 some (.inr (s13.1,s13.2.1)))) ((⟨s4.1.f_g,s4.1.f_given,s4.1.f_types,s4.1.f_lefts,s4.1.f_e,s4.1.f_at,s4.1.f_name,j11,s4.1.f_inner⟩:yuccaref9_maker),s4.2.1,0)).bind fun x14 =>
 some (.inl (x14.1,x14.2,w64 (s4.2.2+1)))
 else
 some (.inr (s4.1,s4.2.1)))) ((⟨(⟨[(⟨{ data:=#[36,101,110,100] },false,0,0,0,{ data:=#[] }⟩:Tok),(⟨{ data:=#[101,114,114,111,114] },false,(-1),0,0,{ data:=#[] }⟩:Tok),(⟨{ data:=#[36,117,110,107] },false,(-1),0,0,{ data:=#[] }⟩:Tok)],[],[],{ data:=#[] },{ data:=#[] }⟩:Grammar),x3,[],[],0,0,{ data:=#[] },0,0⟩:yuccaref9_maker),{ data:=#[] },0)).bind fun x5 =>
 (loopM (R:=yuccaref9_maker) (fun (s27:yuccaref9_maker × Int) =>
 (bif decide (s27.2<(a0.Rules.length:Int)) then
 ((idx a0.Rules s27.2).bind fun x32 =>
 (pf102 s27.1 (⟨x32.Left,false,0,0⟩:Sym)).bind fun x33 =>
 ((bif decide (0<=x33) then
 (pf101 s27.1 x32.At x32.Left).bind fun x36 =>
 some x36
 else
 some s27.1)).bind fun j34 =>
 (pf103 j34 x32.Left).bind fun x37 =>
 ((bif decide (x37<0) then
 (appO j34.f_lefts [x32.Left]).bind fun x40 =>
 some (j34.f_lefts++[x32.Left])
 else
 some j34.f_lefts)).bind fun j38 =>
 some (⟨j34.f_g,j34.f_given,j34.f_types,j38,j34.f_e,j34.f_at,j34.f_name,j34.f_level,j34.f_inner⟩:yuccaref9_maker)).bind fun j31 =>
 some (.inl (j31,w64 (s27.2+1)))
 else
 some (.inr s27.1))) (x5.1,0)).bind fun x28 =>
 (loopM (R:=yuccaref9_maker) (fun (s41:yuccaref9_maker × Int) =>
 (bif decide (s41.2<(a0.Decls.length:Int)) then
 (loopM (R:=yuccaref9_maker) (fun (s45:yuccaref9_maker × Int) =>
 (idx a0.Decls s41.2).bind fun x48 =>
 (bif decide (s45.2<(x48.Syms.length:Int)) then
 ((idx a0.Decls s41.2).bind fun x51 =>
 (idx x51.Syms s45.2).bind fun x52 =>
 (((idx a0.Decls s41.2).bind fun x53=>(bif decide (5<=x53.Kind) then ((pf103 s45.1 x52.Name).bind fun x55=>some (decide (x55<0))) else some false))).bind fun c56 =>
 ((bif c56 then
 (pf101 s45.1 x52.At x52.Name).bind fun x59 =>
 some x59
 else
 some s45.1)).bind fun j57 =>
 some j57).bind fun j50 =>
 some (.inl (j50,w64 (s45.2+1)))
 else
 some (.inr s45.1))) (s41.1,0)).bind fun x46 =>
 some (.inl (x46,w64 (s41.2+1)))
 else
 some (.inr s41.1))) (x28,0)).bind fun x42 =>
 ((bif decide (x5.2={ data:=#[] }) then
 (idx a0.Rules 0).bind fun x62 =>
 some x62.Left
 else
 some x5.2)).bind fun j60 =>
 (pf103 x42 j60).bind fun x63 =>
 (loopM (R:=yuccaref9_maker) (fun (s64:yuccaref9_maker × Int) =>
 (bif decide (s64.2<(a0.Rules.length:Int)) then
 (loopM (R:=yuccaref9_maker) (fun (s68:yuccaref9_maker × Int) =>
 (idx a0.Rules s64.2).bind fun x71 =>
 (bif decide (s68.2<(x71.Alts.length:Int)) then
 (idx a0.Rules s64.2).bind fun x73 =>
 (idx a0.Rules s64.2).bind fun x74 =>
 (idx x74.Alts s68.2).bind fun x75 =>
 (pf104 s68.1 x73.Left x75).bind fun x76 =>
 some (.inl (x76,w64 (s68.2+1)))
 else
 some (.inr s68.1))) (s64.1,0)).bind fun x69 =>
 some (.inl (x69,w64 (s64.2+1)))
 else
 some (.inr s64.1))) ((⟨(⟨x42.f_g.Toks,x42.f_g.Nons,[(⟨0,[w64 (1001+x63)],(-1),{ data:=#[] },([]:List Int),0⟩:Prod)],x42.f_g.Pro,x42.f_g.Tail⟩:Grammar),x42.f_given,x42.f_types,x42.f_lefts,x42.f_e,x42.f_at,x42.f_name,x42.f_level,x42.f_inner⟩:yuccaref9_maker),0)).bind fun x65 =>
 (bif !decide (x65.f_e=0) then
 some ((⟨([]:List Tok),([]:List Non),([]:List Prod),{ data:=#[] },{ data:=#[] }⟩:Grammar),x65.f_e,x65.f_at,x65.f_name)
 else
 (loopM (R:=List Non) (fun (s78:List Non × Int) =>
 (bif decide (s78.2<(x65.f_lefts.length:Int)) then
 (idx x65.f_lefts s78.2).bind fun x82 =>
 (pf105 (⟨(⟨x65.f_g.Toks,s78.1,x65.f_g.Prods,x65.f_g.Pro,x65.f_g.Tail⟩:Grammar),x65.f_given,x65.f_types,x65.f_lefts,x65.f_e,x65.f_at,x65.f_name,x65.f_level,x65.f_inner⟩:yuccaref9_maker) x82).bind fun x83 =>
 ((bif decide (0<=x83) then
 (idx x65.f_types x83).bind fun x86 =>
 some x86.Tag
 else
 some ({ data:=#[] }))).bind fun j84 =>
 (appO s78.1 [(⟨x82,j84⟩:Non)]).bind fun x87 =>
 some (.inl (s78.1++[(⟨x82,j84⟩:Non)],w64 (s78.2+1)))
 else
 some (.inr s78.1))) ([(⟨{ data:=#[36,97,99,99,101,112,116] },{ data:=#[] }⟩:Non)],0)).bind fun x79 =>
 (loopM (R:=List Non) (fun (s88:List Non × Int) =>
 (bif decide (s88.2<=x65.f_inner) then
 (pf18 s88.2).bind fun x92 =>
 (catO ({ data:=#[64] }) x92).bind fun x93 =>
 (appO s88.1 [(⟨x93,{ data:=#[] }⟩:Non)]).bind fun x94 =>
 some (.inl (s88.1++[(⟨x93,{ data:=#[] }⟩:Non)],w64 (s88.2+1)))
 else
 some (.inr s88.1))) (x79,1)).bind fun x89 =>
 (loopM (R:=List Tok) (fun (s95:List Tok × Int × Int) =>
 (bif decide (s95.2.2<(s95.1.length:Int)) then
 ((idx x65.f_given s95.2.2).bind fun x100 =>
 ((bif !x100 then
 (idx s95.1 s95.2.2).bind fun x103 =>
 some (s95.1.set s95.2.2.toNat (⟨x103.Name,x103.Lit,s95.2.1,x103.Level,x103.Assoc,x103.Tag⟩:Tok),w64 (s95.2.1+1))
 else
 some (s95.1,s95.2.1))).bind fun j101 =>
 some (j101.1,j101.2)).bind fun j99 =>
 some (.inl (j99.1,j99.2,w64 (s95.2.2+1)))
 else
 some (.inr s95.1))) (x65.f_g.Toks,57346,3)).bind fun x96 =>
 ((bif decide (40<(x96.length:Int)) then some true else (bif decide (24<(x89.length:Int)) then some true else some (decide (60<(x65.f_g.Prods.length:Int)))))).bind fun c106 =>
 (loopM (R:=Bool) (fun (s107:Bool × Int) =>
 (bif decide (s107.2<(x65.f_g.Prods.length:Int)) then
 ((bif s107.1 then some true else ((idx x65.f_g.Prods s107.2).bind fun x112=>some (decide (8<(x112.Right.length:Int)))))).bind fun c113 =>
 some (.inl (c113,w64 (s107.2+1)))
 else
 some (.inr s107.1))) (c106,0)).bind fun x108 =>
 (bif x108 then
 some ((⟨([]:List Tok),([]:List Non),([]:List Prod),{ data:=#[] },{ data:=#[] }⟩:Grammar),4,0,{ data:=#[] })
 else
 some ((⟨x96,x89,x65.f_g.Prods,a0.Pro,a0.Tail⟩:Grammar),0,0,{ data:=#[] }))))
def pf66 (a0:Source):Option (Grammar × Bool) :=
 (pf81 a0).bind fun x1 =>
 some (x1.1,decide (x1.2.1=0))
def pf61 (a0:(List Int)) (a1:Int):Option ((List Int)) :=
 (loopM (R:=Int) (fun (s1:Int) =>
 ((bif decide (0<s1) then ((idx a0 (w64 (s1 - 1))).bind fun x5=>some (decide (a1<x5))) else some false)).bind fun c6 =>
 (bif c6 then
 some (.inl (w64 (s1 - 1)))
 else
 some (.inr s1))) (a0.length:Int)).bind fun x2 =>
 ((bif decide (0<x2) then ((idx a0 (w64 (x2 - 1))).bind fun x9=>some (decide (x9=a1))) else some false)).bind fun c10 =>
 (bif c10 then
 some a0
 else
 (subO a0 0 x2).bind fun x12 =>
 (appO ([]:List Int) x12).bind fun x13 =>
 (appO (([]:List Int)++x12) [a1]).bind fun x14 =>
 (subO a0 x2 a0.length).bind fun x15 =>
 (appO ((([]:List Int)++x12)++[a1]) x15).bind fun x16 =>
 some ((([]:List Int)++x12)++[a1]++x15))
def pf68 (a0:(List Int)) (a1:Int):Option (Bool) :=
 (loopM (R:=(Unit) ⊕ (Bool)) (fun (s1:Int) =>
 (bif decide (s1<(a0.length:Int)) then
 (idx a0 s1).bind fun x6 =>
 (bif decide (x6=a1) then
 some (.inr (.inr true))
 else
 some (.inl (w64 (s1+1))))
 else
 some (.inr (.inl ())))) 0).bind fun x2 =>
 (match x2 with
 | .inl x3 =>
 some false
 | .inr x4 =>
 some x4)
def pf82 (a0:Grammar):Option ((List Int)) :=
 (loopM (R:=List Int) (fun (s1:List Int × Int) =>
 (bif decide (s1.2<(a0.Toks.length:Int)) then
 (appO s1.1 [s1.2]).bind fun x5 =>
 some (.inl (s1.1++[s1.2],w64 (s1.2+1)))
 else
 some (.inr s1.1))) (([]:List Int),0)).bind fun x2 =>
 (loopM (R:=List Int) (fun (s6:List Int × Int) =>
 (bif decide (s6.2<(a0.Nons.length:Int)) then
 (appO s6.1 [w64 (1000+s6.2)]).bind fun x10 =>
 some (.inl (s6.1++[w64 (1000+s6.2)],w64 (s6.2+1)))
 else
 some (.inr s6.1))) (x2,0)).bind fun x7 =>
 some x7
structure Item where
 Prod:Int
 Dot:Int
 deriving DecidableEq,Inhabited
def pf108 (a0:Grammar) (a1:Item):Option (Bool) :=
 ((bif decide (0<=a1.Prod) then (bif decide (a1.Prod<(a0.Prods.length:Int)) then (bif decide (0<=a1.Dot) then ((idx a0.Prods a1.Prod).bind fun x4=>some (decide (a1.Dot<=(x4.Right.length:Int)))) else some false) else some false) else some false)).bind fun c5 =>
 some c5
def pf84 (a0:Grammar) (a1:Item):Option (Int) :=
 (((pf108 a0 a1).bind fun x1=>(bif !x1 then some true else ((idx a0.Prods a1.Prod).bind fun x3=>some (decide (a1.Dot=(x3.Right.length:Int))))))).bind fun c4 =>
 (bif c4 then
 some (-1)
 else
 (idx a0.Prods a1.Prod).bind fun x6 =>
 (idx x6.Right a1.Dot).bind fun x7 =>
 some x7)
def eItem:En Item:=⟨2,fun x=>[I64 x.Prod,I64 x.Dot],fun _=>rfl,fun _=>NRl.nr⟩
instance:Flat eItem:=⟨fun _=>rfl⟩
instance:OOe eItem:=⟨fun x=>(inferInstance:OOl [I64 x.Prod,I64 x.Dot])⟩
instance:Tw eItem eItem:=⟨rfl,fun x=>(inferInstance:Vws [I64 x.Prod,I64 x.Dot] [I64 x.Prod,I64 x.Dot])⟩
def pf107 (a0:(List Item)) (a1:Item):Option ((List Item)) :=
 (loopM (R:=Int) (fun (s1:Int) =>
 ((bif decide (0<s1) then ((idx a0 (w64 (s1 - 1))).bind fun x5=>(bif decide (a1.Prod<x5.Prod) then some true else ((idx a0 (w64 (s1 - 1))).bind fun x7=>(bif decide (x7.Prod=a1.Prod) then ((idx a0 (w64 (s1 - 1))).bind fun x9=>some (decide (a1.Dot<x9.Dot))) else some false)))) else some false)).bind fun c10 =>
 (bif c10 then
 some (.inl (w64 (s1 - 1)))
 else
 some (.inr s1))) (a0.length:Int)).bind fun x2 =>
 ((bif decide (0<x2) then ((idx a0 (w64 (x2 - 1))).bind fun x13=>some (decide (x13.Prod=a1.Prod)&&(decide (x13.Dot=a1.Dot)&&true))) else some false)).bind fun c14 =>
 (bif c14 then
 some a0
 else
 (subO a0 0 x2).bind fun x16 =>
 (appO ([]:List Item) x16).bind fun x17 =>
 (appO (([]:List Item)++x16) [a1]).bind fun x18 =>
 (subO a0 x2 a0.length).bind fun x19 =>
 (appO ((([]:List Item)++x16)++[a1]) x19).bind fun x20 =>
 some ((([]:List Item)++x16)++[a1]++x19))
def pf106 (a0:Grammar) (a1:(List Item)):Option ((List Item)) :=
 (loopM (R:=List Item) (fun (s1:List Item × Int) =>
 (bif decide (s1.2<(a1.length:Int)) then
 ((idx a1 s1.2).bind fun x6 =>
 (pf108 a0 x6).bind fun x7 =>
 ((bif x7 then
 (idx a1 s1.2).bind fun x10 =>
 (pf107 s1.1 x10).bind fun x11 =>
 some x11
 else
 some s1.1)).bind fun j8 =>
 some j8).bind fun j5 =>
 some (.inl (j5,w64 (s1.2+1)))
 else
 some (.inr s1.1))) (([]:List Item),0)).bind fun x2 =>
 some x2
def pf83 (a0:Grammar) (a1:(List Item)):Option ((List Item)) :=
 (pf106 a0 a1).bind fun x1 =>
 (loopM (R:=List Item) (fun (s2:List Item × Int) =>
 (bif !decide (s2.2=(s2.1.length:Int)) then
 (((loopM (R:=List Item) (fun (s8:List Item × Int) =>
 (bif decide (s8.2<(s2.1.length:Int)) then
 (idx s8.1 s8.2).bind fun x12 =>
 (pf84 a0 x12).bind fun x13 =>
 (loopM (R:=List Item) (fun (s14:List Item × Int) =>
 ((bif decide (s14.2<(a0.Prods.length:Int)) then some (decide (1000<=x13)) else some false)).bind fun c18 =>
 (bif c18 then
 ((idx a0.Prods s14.2).bind fun x21 =>
 ((bif decide (x21.Left=w64 (x13 - 1000)) then
 (pf107 s14.1 (⟨s14.2,0⟩:Item)).bind fun x24 =>
 some x24
 else
 some s14.1)).bind fun j22 =>
 some j22).bind fun j20 =>
 some (.inl (j20,w64 (s14.2+1)))
 else
 some (.inr s14.1))) (s8.1,0)).bind fun x15 =>
 (bif !decide ((x15.length:Int)=(s2.1.length:Int)) then
 some (.inr x15)
 else
 some (.inl (x15,w64 (s8.2+1))))
 else
 some (.inr s8.1))) (s2.1,0)).bind fun x9 =>
 some x9).bind fun j7 =>
 some (j7,(s2.1.length:Int))).bind fun j6 =>
 some (.inl (j6.1,j6.2))
 else
 some (.inr s2.1))) (x1,(-1))).bind fun x3 =>
 some x3
def pf85 (a0:Grammar) (a1:(List Item)) (a2:Int):Option ((List Item)) :=
 (pf83 a0 a1).bind fun x1 =>
 (loopM (R:=List Item) (fun (s2:List Item × Int) =>
 (bif decide (s2.2<(x1.length:Int)) then
 ((idx x1 s2.2).bind fun x7 =>
 (pf84 a0 x7).bind fun x8 =>
 ((bif decide (0<=x8) then some (decide (x8=a2)) else some false)).bind fun c10 =>
 ((bif c10 then
 (idx x1 s2.2).bind fun x13 =>
 (idx x1 s2.2).bind fun x14 =>
 (pf107 s2.1 (⟨x13.Prod,w64 (x14.Dot+1)⟩:Item)).bind fun x15 =>
 some x15
 else
 some s2.1)).bind fun j11 =>
 some j11).bind fun j6 =>
 some (.inl (j6,w64 (s2.2+1)))
 else
 some (.inr s2.1))) (([]:List Item),0)).bind fun x3 =>
 some x3
def pf109 (a0:(List Item)) (a1:(List Item)):Option (Bool) :=
 (bif !decide ((a0.length:Int)=(a1.length:Int)) then
 some false
 else
 (loopM (R:=(Unit) ⊕ (Bool)) (fun (s2:Int) =>
 (bif decide (s2<(a0.length:Int)) then
 (idx a0 s2).bind fun x7 =>
 (idx a1 s2).bind fun x8 =>
 (bif !(decide (x7.Prod=x8.Prod)&&(decide (x7.Dot=x8.Dot)&&true)) then
 some (.inr (.inr false))
 else
 some (.inl (w64 (s2+1))))
 else
 some (.inr (.inl ())))) 0).bind fun x3 =>
 (match x3 with
 | .inl x4 =>
 some true
 | .inr x5 =>
 some x5))
structure Move where
 Sym:Int
 To:Int
 deriving DecidableEq,Inhabited
structure State where
 Kernel:(List Item)
 Moves:(List Move)
 deriving DecidableEq,Inhabited
def eMove:En Move:=⟨2,fun x=>[I64 x.Sym,I64 x.To],fun _=>rfl,fun _=>NRl.nr⟩
instance:Flat eMove:=⟨fun _=>rfl⟩
instance:OOe eMove:=⟨fun x=>(inferInstance:OOl [I64 x.Sym,I64 x.To])⟩
instance:Tw eMove eMove:=⟨rfl,fun x=>(inferInstance:Vws [I64 x.Sym,I64 x.To] [I64 x.Sym,I64 x.To])⟩
def eState_0:En State:=⟨2,fun x=>[iR eItem x.Kernel,iR eMove x.Moves],fun _=>rfl,fun _=>NRl.nr⟩
instance:Flat eState_0:=⟨fun _=>rfl⟩
instance:Tw eState_0 eState_0:=⟨rfl,fun x=>(inferInstance:Vws [iR eItem x.Kernel,iR eMove x.Moves] [iR eItem x.Kernel,iR eMove x.Moves])⟩
def pf86 (a0:(List State)) (a1:(List Item)):Option (Int) :=
 (loopM (R:=(Unit) ⊕ (Int)) (fun (s1:Int) =>
 (bif decide (s1<(a0.length:Int)) then
 (idx a0 s1).bind fun x6 =>
 (pf109 x6.Kernel a1).bind fun x7 =>
 (bif x7 then
 some (.inr (.inr s1))
 else
 some (.inl (w64 (s1+1))))
 else
 some (.inr (.inl ())))) 0).bind fun x2 =>
 (match x2 with
 | .inl x3 =>
 some (-1)
 | .inr x4 =>
 some x4)
def eState_m:En State:=⟨2,fun x=>[iR eItem x.Kernel,oR eMove x.Moves],fun _=>rfl,fun _=>NRl.nr⟩
instance:Tw eState_m eState_0:=⟨rfl,fun x=>(inferInstance:Vws [iR eItem x.Kernel,oR eMove x.Moves] [iR eItem x.Kernel,iR eMove x.Moves])⟩
def pf67 (a0:Grammar):Option ((List State) × Int) :=
 (pf82 a0).bind fun x1 =>
 (loopM (R:=(List State) ⊕ (List State × Int)) (fun (s2:List State × Int) =>
 (bif decide (s2.2<(s2.1.length:Int)) then
 (idx s2.1 s2.2).bind fun x7 =>
 (pf83 a0 x7.Kernel).bind fun x8 =>
 (loopM (R:=List Int) (fun (s9:List Int × Int) =>
 (bif decide (s9.2<(x8.length:Int)) then
 ((idx x8 s9.2).bind fun x14 =>
 (pf84 a0 x14).bind fun x15 =>
 ((bif decide (0<=x15) then
 (pf61 s9.1 x15).bind fun x18 =>
 some x18
 else
 some s9.1)).bind fun j16 =>
 some j16).bind fun j13 =>
 some (.inl (j13,w64 (s9.2+1)))
 else
 some (.inr s9.1))) (([]:List Int),0)).bind fun x10 =>
 (loopM (R:=(List State) ⊕ (List State × Int)) (fun (s19:List State × Int) =>
 (bif decide (s19.2<(x1.length:Int)) then
 (idx x1 s19.2).bind fun x24 =>
 (pf68 x10 x24).bind fun x25 =>
 (bif !x25 then
 some (.inl (s19.1,w64 (s19.2+1)))
 else
 (idx s19.1 s2.2).bind fun x27 =>
 (idx x1 s19.2).bind fun x28 =>
 (pf85 a0 x27.Kernel x28).bind fun x29 =>
 (pf86 s19.1 x29).bind fun x30 =>
 (bif decide (x30<0) then
 (bif decide ((s19.1.length:Int)=150) then
 some (.inr (.inr (([]:List State),4)))
 else
 (appO s19.1 [(⟨x29,([]:List Move)⟩:State)]).bind fun x33 =>
 (idx (s19.1++[(⟨x29,([]:List Move)⟩:State)]) s2.2).bind fun x34 =>
 (idx x1 s19.2).bind fun x35 =>
 (appO x34.Moves [(⟨x35,(s19.1.length:Int)⟩:Move)]).bind fun x36 =>
 some (.inl ((s19.1++[(⟨x29,([]:List Move)⟩:State)]).set s2.2.toNat (⟨x34.Kernel,x34.Moves++[(⟨x35,(s19.1.length:Int)⟩:Move)]⟩:State),w64 (s19.2+1))))
 else
 (idx s19.1 s2.2).bind fun x37 =>
 (idx x1 s19.2).bind fun x38 =>
 (appO x37.Moves [(⟨x38,x30⟩:Move)]).bind fun x39 =>
 some (.inl (s19.1.set s2.2.toNat (⟨x37.Kernel,x37.Moves++[(⟨x38,x30⟩:Move)]⟩:State),w64 (s19.2+1)))))
 else
 some (.inr (.inl s19.1)))) (s2.1,0)).bind fun x20 =>
 (match x20 with
 | .inl x21 =>
 some (.inl (x21,w64 (s2.2+1)))
 | .inr x22 =>
 some (.inr (.inr (x22.1,x22.2))))
 else
 some (.inr (.inl s2.1)))) ([(⟨[(⟨0,0⟩:Item)],([]:List Move)⟩:State)],0)).bind fun x3 =>
 (match x3 with
 | .inl x4 =>
 some (x4,0)
 | .inr x5 =>
 some (x5.1,x5.2))
def pf49 (a0:Source):Option (Grammar × (List State) × Bool) :=
 (pf66 a0).bind fun x1 =>
 (bif !x1.2 then
 some (x1.1,([]:List State),false)
 else
 (pf67 x1.1).bind fun x3 =>
 some (x1.1,x3.1,decide (x3.2=0)))
def pf53 (a0:(List State)) (a1:Int) (a2:Int):Option (Int) :=
 (loopM (R:=(Unit) ⊕ (Int)) (fun (s1:Int) =>
 ((bif decide (0<=a1) then (bif decide (a1<(a0.length:Int)) then ((idx a0 a1).bind fun x7=>some (decide (s1<(x7.Moves.length:Int)))) else some false) else some false)).bind fun c8 =>
 (bif c8 then
 (idx a0 a1).bind fun x10 =>
 (idx x10.Moves s1).bind fun x11 =>
 (bif decide (x11.Sym=a2) then
 (idx a0 a1).bind fun x13 =>
 (idx x13.Moves s1).bind fun x14 =>
 some (.inr (.inr x14.To))
 else
 some (.inl (w64 (s1+1))))
 else
 some (.inr (.inl ())))) 0).bind fun x2 =>
 (match x2 with
 | .inl x3 =>
 some (-1)
 | .inr x4 =>
 some x4)
structure Cell where
 State:Int
 Tok:Int
 Shift:Int
 Accept:Bool
 Prods:(List Int)
 deriving DecidableEq,Inhabited
def eCell_0:En Cell:=⟨5,fun x=>[I64 x.State,I64 x.Tok,I64 x.Shift,BB x.Accept,iR eI x.Prods],fun _=>rfl,fun _=>NRl.nr⟩
instance:Flat eCell_0:=⟨fun _=>rfl⟩
instance:Tw eCell_0 eCell_0:=⟨rfl,fun x=>(inferInstance:Vws [I64 x.State,I64 x.Tok,I64 x.Shift,BB x.Accept,iR eI x.Prods] [I64 x.State,I64 x.Tok,I64 x.Shift,BB x.Accept,iR eI x.Prods])⟩
instance {x:Cell}:Vws (eCell_0.cells x) [I64 x.State,I64 x.Tok,I64 x.Shift,BB x.Accept,iR eI x.Prods]:=(inferInstance:Vws [I64 x.State,I64 x.Tok,I64 x.Shift,BB x.Accept,iR eI x.Prods] [I64 x.State,I64 x.Tok,I64 x.Shift,BB x.Accept,iR eI x.Prods])
def pf54 (a0:Cell):Option (Int) :=
 ((bif decide (0<=a0.Shift) then
 some (w64 ((a0.Prods.length:Int)+1))
 else
 some (a0.Prods.length:Int))).bind fun j1 =>
 ((bif a0.Accept then
 some (w64 (j1+1))
 else
 some j1)).bind fun j3 =>
 some j3
structure Look where
 State:Int
 Prod:Int
 Toks:(List Int)
 deriving DecidableEq,Inhabited
def eLook_0:En Look:=⟨3,fun x=>[I64 x.State,I64 x.Prod,iR eI x.Toks],fun _=>rfl,fun _=>NRl.nr⟩
instance:Flat eLook_0:=⟨fun _=>rfl⟩
instance:Tw eLook_0 eLook_0:=⟨rfl,fun x=>(inferInstance:Vws [I64 x.State,I64 x.Prod,iR eI x.Toks] [I64 x.State,I64 x.Prod,iR eI x.Toks])⟩
instance {x:Look}:Vws (eLook_0.cells x) [I64 x.State,I64 x.Prod,iR eI x.Toks]:=(inferInstance:Vws [I64 x.State,I64 x.Prod,iR eI x.Toks] [I64 x.State,I64 x.Prod,iR eI x.Toks])
def pf50 (a0:Grammar) (a1:(List State)) (a2:(List Look)):Option ((List Cell)) :=
 (loopM (R:=List Cell) (fun (s1:List Cell × Int) =>
 (bif decide (s1.2<(a1.length:Int)) then
 (loopM (R:=List Cell) (fun (s5:List Cell × Int) =>
 (bif decide (s5.2<(a0.Toks.length:Int)) then
 ((pf53 a1 s1.2 s5.2).bind fun x10 =>
 (loopM (R:=Bool) (fun (s11:Bool × Int) =>
 (idx a1 s1.2).bind fun x14 =>
 (bif decide (s11.2<(x14.Kernel.length:Int)) then
 (idx a1 s1.2).bind fun x16 =>
 (idx x16.Kernel s11.2).bind fun x17 =>
 ((bif s11.1 then some true else (bif decide (s5.2=0) then (bif decide (x17.Prod=0) then some (decide (x17.Dot=1)) else some false) else some false))).bind fun c21 =>
 some (.inl (c21,w64 (s11.2+1)))
 else
 some (.inr s11.1))) (false,0)).bind fun x12 =>
 (loopM (R:=List Int) (fun (s22:List Int × Int) =>
 (bif decide (s22.2<(a2.length:Int)) then
 ((((idx a2 s22.2).bind fun x27=>(bif decide (x27.State=s1.2) then ((idx a2 s22.2).bind fun x29=>((pf68 x29.Toks s5.2).bind fun x30=>some x30)) else some false))).bind fun c31 =>
 ((bif c31 then
 (idx a2 s22.2).bind fun x34 =>
 (pf61 s22.1 x34.Prod).bind fun x35 =>
 some x35
 else
 some s22.1)).bind fun j32 =>
 some j32).bind fun j26 =>
 some (.inl (j26,w64 (s22.2+1)))
 else
 some (.inr s22.1))) (([]:List Int),0)).bind fun x23 =>
 (pf54 (⟨s1.2,s5.2,x10,x12,x23⟩:Cell)).bind fun x36 =>
 ((bif decide (0<x36) then
 (appO s5.1 [(⟨s1.2,s5.2,x10,x12,x23⟩:Cell)]).bind fun x39 =>
 some (s5.1++[(⟨s1.2,s5.2,x10,x12,x23⟩:Cell)])
 else
 some s5.1)).bind fun j37 =>
 some j37).bind fun j9 =>
 some (.inl (j9,w64 (s5.2+1)))
 else
 some (.inr s5.1))) (s1.1,0)).bind fun x6 =>
 some (.inl (x6,w64 (s1.2+1)))
 else
 some (.inr s1.1))) (([]:List Cell),0)).bind fun x2 =>
 some x2
def pf87 (a0:(List (List Int))) (a1:(List (List Int))):Option ((List (List Int))) :=
 (loopM (R:=List (List Int)) (fun (s1:List (List Int) × Bool) =>
 (bif s1.2 then
 (loopM (R:=List (List Int) × Bool) (fun (s5:List (List Int) × Bool × Int) =>
 (bif decide (s5.2.2<(s5.1.length:Int)) then
 (idx a1 s5.2.2).bind fun x9 =>
 (idx s5.1 s5.2.2).bind fun x10 =>
 (loopM (R:=List (List Int)) (fun (s11:List (List Int) × Int) =>
 (bif decide (s11.2<(x9.length:Int)) then
 (loopM (R:=List (List Int)) (fun (s15:List (List Int) × Int) =>
 (idx x9 s11.2).bind fun x18 =>
 (idx s15.1 x18).bind fun x19 =>
 (bif decide (s15.2<(x19.length:Int)) then
 (idx s15.1 s5.2.2).bind fun x21 =>
 (idx x9 s11.2).bind fun x22 =>
 (idx s15.1 x22).bind fun x23 =>
 (idx x23 s15.2).bind fun x24 =>
 (pf61 x21 x24).bind fun x25 =>
 some (.inl (s15.1.set s5.2.2.toNat x25,w64 (s15.2+1)))
 else
 some (.inr s15.1))) (s11.1,0)).bind fun x16 =>
 some (.inl (x16,w64 (s11.2+1)))
 else
 some (.inr s11.1))) (s5.1,0)).bind fun x12 =>
 ((bif s5.2.1 then some true else ((idx x12 s5.2.2).bind fun x27=>some (!decide ((x27.length:Int)=(x10.length:Int)))))).bind fun c28 =>
 some (.inl (x12,c28,w64 (s5.2.2+1)))
 else
 some (.inr (s5.1,s5.2.1)))) (s1.1,false,0)).bind fun x6 =>
 some (.inl (x6.1,x6.2))
 else
 some (.inr s1.1))) (a0,true)).bind fun x2 =>
 some x2
structure Trans where
 State:Int
 Non:Int
 deriving DecidableEq,Inhabited
def eTrans:En Trans:=⟨2,fun x=>[I64 x.State,I64 x.Non],fun _=>rfl,fun _=>NRl.nr⟩
instance:Flat eTrans:=⟨fun _=>rfl⟩
instance:OOe eTrans:=⟨fun x=>(inferInstance:OOl [I64 x.State,I64 x.Non])⟩
instance:Tw eTrans eTrans:=⟨rfl,fun x=>(inferInstance:Vws [I64 x.State,I64 x.Non] [I64 x.State,I64 x.Non])⟩
def pf91 (a0:(List State)):Option ((List Trans)) :=
 (loopM (R:=List Trans) (fun (s1:List Trans × Int) =>
 (bif decide (s1.2<(a0.length:Int)) then
 (loopM (R:=List Trans) (fun (s5:List Trans × Int) =>
 (idx a0 s1.2).bind fun x8 =>
 (bif decide (s5.2<(x8.Moves.length:Int)) then
 ((idx a0 s1.2).bind fun x11 =>
 (idx x11.Moves s5.2).bind fun x12 =>
 ((bif decide (1000<=x12.Sym) then
 (idx a0 s1.2).bind fun x15 =>
 (idx x15.Moves s5.2).bind fun x16 =>
 (appO s5.1 [(⟨s1.2,x16.Sym⟩:Trans)]).bind fun x17 =>
 some (s5.1++[(⟨s1.2,x16.Sym⟩:Trans)])
 else
 some s5.1)).bind fun j13 =>
 some j13).bind fun j10 =>
 some (.inl (j10,w64 (s5.2+1)))
 else
 some (.inr s5.1))) (s1.1,0)).bind fun x6 =>
 some (.inl (x6,w64 (s1.2+1)))
 else
 some (.inr s1.1))) (([]:List Trans),0)).bind fun x2 =>
 some x2
def pf110 (a0:(List Item)):Option (Bool) :=
 (loopM (R:=(Unit) ⊕ (Bool)) (fun (s1:Int) =>
 (bif decide (s1<(a0.length:Int)) then
 (((idx a0 s1).bind fun x6=>(bif decide (x6.Prod=0) then ((idx a0 s1).bind fun x8=>some (decide (x8.Dot=1))) else some false))).bind fun c9 =>
 (bif c9 then
 some (.inr (.inr true))
 else
 some (.inl (w64 (s1+1))))
 else
 some (.inr (.inl ())))) 0).bind fun x2 =>
 (match x2 with
 | .inl x3 =>
 some false
 | .inr x4 =>
 some x4)
def pf88 (a0:(List State)):Option ((List (List Int))) :=
 (pf91 a0).bind fun x1 =>
 (loopM (R:=List (List Int)) (fun (s2:List (List Int) × Int) =>
 (bif decide (s2.2<(x1.length:Int)) then
 (idx x1 s2.2).bind fun x6 =>
 (idx x1 s2.2).bind fun x7 =>
 (pf53 a0 x6.State x7.Non).bind fun x8 =>
 (idx a0 x8).bind fun x9 =>
 (pf110 x9.Kernel).bind fun x10 =>
 ((bif x10 then
 (appO ([]:List Int) [0]).bind fun x13 =>
 some [0]
 else
 some ([]:List Int))).bind fun j11 =>
 (loopM (R:=List Int) (fun (s14:List Int × Int) =>
 (idx a0 x8).bind fun x17 =>
 (bif decide (s14.2<(x17.Moves.length:Int)) then
 ((idx a0 x8).bind fun x20 =>
 (idx x20.Moves s14.2).bind fun x21 =>
 ((bif decide (x21.Sym<1000) then
 (idx a0 x8).bind fun x24 =>
 (idx x24.Moves s14.2).bind fun x25 =>
 (pf61 s14.1 x25.Sym).bind fun x26 =>
 some x26
 else
 some s14.1)).bind fun j22 =>
 some j22).bind fun j19 =>
 some (.inl (j19,w64 (s14.2+1)))
 else
 some (.inr s14.1))) (j11,0)).bind fun x15 =>
 (appO s2.1 [x15]).bind fun x27 =>
 some (.inl (s2.1++[x15],w64 (s2.2+1)))
 else
 some (.inr s2.1))) (([]:List (List Int)),0)).bind fun x3 =>
 some x3
def pf113 (a0:(List Bool)) (a1:(List Int)):Option (Bool) :=
 (loopM (R:=(Unit) ⊕ (Bool)) (fun (s1:Int) =>
 (bif decide (s1<(a1.length:Int)) then
 (((idx a1 s1).bind fun x6=>(bif decide (x6<1000) then some true else ((idx a1 s1).bind fun x8=>((idx a0 (w64 (x8 - 1000))).bind fun x9=>some (!x9)))))).bind fun c10 =>
 (bif c10 then
 some (.inr (.inr false))
 else
 some (.inl (w64 (s1+1))))
 else
 some (.inr (.inl ())))) 0).bind fun x2 =>
 (match x2 with
 | .inl x3 =>
 some true
 | .inr x4 =>
 some x4)
def pf111 (a0:Grammar):Option ((List Bool)) :=
 (mkO (a0.Nons.length:Int) false).bind fun x1 =>
 (loopM (R:=List Bool) (fun (s2:List Bool × Bool) =>
 (bif s2.2 then
 (loopM (R:=List Bool × Bool) (fun (s6:List Bool × Bool × Int) =>
 (bif decide (s6.2.2<(a0.Prods.length:Int)) then
 ((idx a0.Prods s6.2.2).bind fun x11 =>
 (((idx s6.1 x11.Left).bind fun x12=>(bif !x12 then ((pf113 s6.1 x11.Right).bind fun x14=>some x14) else some false))).bind fun c15 =>
 ((bif c15 then
 (idx s6.1 x11.Left).bind fun x18 =>
 some (s6.1.set x11.Left.toNat true,true)
 else
 some (s6.1,s6.2.1))).bind fun j16 =>
 some (j16.1,j16.2)).bind fun j10 =>
 some (.inl (j10.1,j10.2,w64 (s6.2.2+1)))
 else
 some (.inr (s6.1,s6.2.1)))) (s2.1,false,0)).bind fun x7 =>
 some (.inl (x7.1,x7.2))
 else
 some (.inr s2.1))) (x1,true)).bind fun x3 =>
 some x3
def pf112 (a0:(List Trans)) (a1:Int) (a2:Int):Option (Int) :=
 (loopM (R:=(Unit) ⊕ (Int)) (fun (s1:Int) =>
 (bif decide (s1<(a0.length:Int)) then
 (((idx a0 s1).bind fun x6=>(bif decide (x6.State=a1) then ((idx a0 s1).bind fun x8=>some (decide (x8.Non=a2))) else some false))).bind fun c9 =>
 (bif c9 then
 some (.inr (.inr s1))
 else
 some (.inl (w64 (s1+1))))
 else
 some (.inr (.inl ())))) 0).bind fun x2 =>
 (match x2 with
 | .inl x3 =>
 some (-1)
 | .inr x4 =>
 some x4)
def pf89 (a0:Grammar) (a1:(List State)):Option ((List (List Int))) :=
 (pf91 a1).bind fun x1 =>
 (pf111 a0).bind fun x2 =>
 (loopM (R:=List (List Int)) (fun (s3:List (List Int) × Int) =>
 (bif decide (s3.2<(x1.length:Int)) then
 (idx x1 s3.2).bind fun x7 =>
 (idx x1 s3.2).bind fun x8 =>
 (pf53 a1 x7.State x8.Non).bind fun x9 =>
 (loopM (R:=List Int) (fun (s10:List Int × Int) =>
 (idx a1 x9).bind fun x13 =>
 (bif decide (s10.2<(x13.Moves.length:Int)) then
 ((idx a1 x9).bind fun x16 =>
 (idx x16.Moves s10.2).bind fun x17 =>
 ((bif decide (1000<=x17.Sym) then ((idx x2 (w64 (x17.Sym - 1000))).bind fun x19=>some x19) else some false)).bind fun c20 =>
 ((bif c20 then
 (pf112 x1 x9 x17.Sym).bind fun x23 =>
 (pf61 s10.1 x23).bind fun x24 =>
 some x24
 else
 some s10.1)).bind fun j21 =>
 some j21).bind fun j15 =>
 some (.inl (j15,w64 (s10.2+1)))
 else
 some (.inr s10.1))) (([]:List Int),0)).bind fun x11 =>
 (appO s3.1 [x11]).bind fun x25 =>
 some (.inl (s3.1++[x11],w64 (s3.2+1)))
 else
 some (.inr s3.1))) (([]:List (List Int)),0)).bind fun x4 =>
 some x4
def pf92 (a0:(List State)) (a1:Int) (a2:(List Int)):Option (Int) :=
 (loopM (R:=Int) (fun (s1:Int × Int) =>
 ((bif decide (s1.2<(a2.length:Int)) then some (decide (0<=s1.1)) else some false)).bind fun c5 =>
 (bif c5 then
 (idx a2 s1.2).bind fun x7 =>
 (pf53 a0 s1.1 x7).bind fun x8 =>
 some (.inl (x8,w64 (s1.2+1)))
 else
 some (.inr s1.1))) (a1,0)).bind fun x2 =>
 some x2
def pf90 (a0:Grammar) (a1:(List State)):Option ((List (List Int))) :=
 (pf91 a1).bind fun x1 =>
 (pf111 a0).bind fun x2 =>
 (mkO (x1.length:Int) ([]:List Int)).bind fun x3 =>
 (loopM (R:=List (List Int)) (fun (s4:List (List Int) × Int) =>
 (bif decide (s4.2<(x1.length:Int)) then
 (loopM (R:=List (List Int)) (fun (s8:List (List Int) × Int) =>
 (bif decide (s8.2<(a0.Prods.length:Int)) then
 ((idx a0.Prods s8.2).bind fun x13 =>
 (idx a0.Prods s8.2).bind fun x14 =>
 (idx x1 s4.2).bind fun x15 =>
 (bif !decide (w64 (1000+x14.Left)=x15.Non) then
 some s8.1
 else
 (loopM (R:=List (List Int)) (fun (s17:List (List Int) × Int) =>
 (bif decide (s17.2<(x13.Right.length:Int)) then
 ((((idx x13.Right s17.2).bind fun x22=>(bif decide (x22<1000) then some true else ((subO x13.Right (w64 (s17.2+1)) x13.Right.length).bind fun x24=>((pf113 x2 x24).bind fun x25=>some (!x25)))))).bind fun c26 =>
 (bif c26 then
 some s17.1
 else
 (idx x1 s4.2).bind fun x28 =>
 (subO x13.Right 0 s17.2).bind fun x29 =>
 (pf92 a1 x28.State x29).bind fun x30 =>
 ((bif decide (0<=x30) then
 (idx x13.Right s17.2).bind fun x33 =>
 (pf112 x1 x30 x33).bind fun x34 =>
 ((bif decide (0<=x34) then
 (idx s17.1 x34).bind fun x37 =>
 (pf61 x37 s4.2).bind fun x38 =>
 some (s17.1.set x34.toNat x38)
 else
 some s17.1)).bind fun j35 =>
 some j35
 else
 some s17.1)).bind fun j31 =>
 some j31)).bind fun j21 =>
 some (.inl (j21,w64 (s17.2+1)))
 else
 some (.inr s17.1))) (s8.1,0)).bind fun x18 =>
 some x18)).bind fun j12 =>
 some (.inl (j12,w64 (s8.2+1)))
 else
 some (.inr s8.1))) (s4.1,0)).bind fun x9 =>
 some (.inl (x9,w64 (s4.2+1)))
 else
 some (.inr s4.1))) (x3,0)).bind fun x5 =>
 some x5
def pf69 (a0:Grammar) (a1:(List State)):Option ((List (List Int))) :=
 (pf88 a1).bind fun x1 =>
 (pf89 a0 a1).bind fun x2 =>
 (pf87 x1 x2).bind fun x3 =>
 (pf90 a0 a1).bind fun x4 =>
 (pf87 x3 x4).bind fun x5 =>
 some x5
def pf70 (a0:Grammar) (a1:(List Item)):Option ((List Int)) :=
 (pf83 a0 a1).bind fun x1 =>
 (loopM (R:=List Int) (fun (s2:List Int × Int) =>
 (bif decide (s2.2<(x1.length:Int)) then
 ((((idx x1 s2.2).bind fun x7=>(bif decide (0<x7.Prod) then ((idx x1 s2.2).bind fun x9=>((idx x1 s2.2).bind fun x10=>((idx a0.Prods x10.Prod).bind fun x11=>some (decide (x9.Dot=(x11.Right.length:Int)))))) else some false))).bind fun c12 =>
 ((bif c12 then
 (idx x1 s2.2).bind fun x15 =>
 (appO s2.1 [x15.Prod]).bind fun x16 =>
 some (s2.1++[x15.Prod])
 else
 some s2.1)).bind fun j13 =>
 some j13).bind fun j6 =>
 some (.inl (j6,w64 (s2.2+1)))
 else
 some (.inr s2.1))) (([]:List Int),0)).bind fun x3 =>
 some x3
def pf71 (a0:Grammar) (a1:(List State)) (a2:Int) (a3:Int):Option ((List Int)) :=
 ((bif decide (a2<0) then some true else (bif decide ((a1.length:Int)<=a2) then some true else (bif decide (a3<1) then some true else some (decide ((a0.Prods.length:Int)<=a3)))))).bind fun c4 =>
 (bif c4 then
 some ([]:List Int)
 else
 (pf91 a1).bind fun x6 =>
 (loopM (R:=List Int) (fun (s7:List Int × Int) =>
 (bif decide (s7.2<(x6.length:Int)) then
 ((((idx x6 s7.2).bind fun x12=>((idx a0.Prods a3).bind fun x13=>(bif decide (x12.Non=w64 (1000+x13.Left)) then ((idx x6 s7.2).bind fun x15=>((idx a0.Prods a3).bind fun x16=>((pf92 a1 x15.State x16.Right).bind fun x17=>some (decide (x17=a2))))) else some false)))).bind fun c18 =>
 ((bif c18 then
 (appO s7.1 [s7.2]).bind fun x21 =>
 some (s7.1++[s7.2])
 else
 some s7.1)).bind fun j19 =>
 some j19).bind fun j11 =>
 some (.inl (j11,w64 (s7.2+1)))
 else
 some (.inr s7.1))) (([]:List Int),0)).bind fun x8 =>
 some x8)
def pf51 (a0:Grammar) (a1:(List State)):Option ((List Look)) :=
 (pf69 a0 a1).bind fun x1 =>
 (loopM (R:=List Look) (fun (s2:List Look × Int) =>
 (bif decide (s2.2<(a1.length:Int)) then
 (idx a1 s2.2).bind fun x6 =>
 (pf70 a0 x6.Kernel).bind fun x7 =>
 (loopM (R:=List Look) (fun (s8:List Look × Int) =>
 (bif decide (s8.2<(x7.length:Int)) then
 (idx x7 s8.2).bind fun x12 =>
 (idx x7 s8.2).bind fun x13 =>
 (pf71 a0 a1 s2.2 x13).bind fun x14 =>
 (loopM (R:=List Int) (fun (s15:List Int × Int) =>
 (bif decide (s15.2<(x14.length:Int)) then
 (loopM (R:=List Int) (fun (s19:List Int × Int) =>
 (idx x14 s15.2).bind fun x22 =>
 (idx x1 x22).bind fun x23 =>
 (bif decide (s19.2<(x23.length:Int)) then
 (idx x14 s15.2).bind fun x25 =>
 (idx x1 x25).bind fun x26 =>
 (idx x26 s19.2).bind fun x27 =>
 (pf61 s19.1 x27).bind fun x28 =>
 some (.inl (x28,w64 (s19.2+1)))
 else
 some (.inr s19.1))) (s15.1,0)).bind fun x20 =>
 some (.inl (x20,w64 (s15.2+1)))
 else
 some (.inr s15.1))) (([]:List Int),0)).bind fun x16 =>
 (appO s8.1 [(⟨s2.2,x12,x16⟩:Look)]).bind fun x29 =>
 some (.inl (s8.1++[(⟨s2.2,x12,x16⟩:Look)],w64 (s8.2+1)))
 else
 some (.inr s8.1))) (s2.1,0)).bind fun x9 =>
 some (.inl (x9,w64 (s2.2+1)))
 else
 some (.inr s2.1))) (([]:List Look),0)).bind fun x3 =>
 some x3
def pf38 (a0:Source):Option (Grammar × (List State) × (List Cell) × Bool) :=
 (pf49 a0).bind fun x1 =>
 (bif !x1.2.2 then
 some (x1.1,([]:List State),([]:List Cell),false)
 else
 (pf51 x1.1 x1.2.1).bind fun x3 =>
 (pf50 x1.1 x1.2.1 x3).bind fun x4 =>
 some (x1.1,x1.2.1,x4,true))
def pf93 (a0:Grammar) (a1:Int):Option (Int × Int) :=
 ((bif decide (a1<0) then some true else (bif decide ((a0.Prods.length:Int)<=a1) then some true else ((idx a0.Prods a1).bind fun x3=>some (decide (x3.Prec<0)))))).bind fun c4 =>
 (bif c4 then
 some (0,0)
 else
 (idx a0.Prods a1).bind fun x6 =>
 (idx a0.Toks x6.Prec).bind fun x7 =>
 some (x7.Level,x7.Assoc))
def pf72 (a0:Grammar) (a1:Int) (a2:Int):Option (Int) :=
 (pf93 a0 a1).bind fun x1 =>
 ((bif decide (x1.1=0) then some true else (bif decide (a2<0) then some true else (bif decide ((a0.Toks.length:Int)<=a2) then some true else ((idx a0.Toks a2).bind fun x5=>some (decide (x5.Level=0))))))).bind fun c6 =>
 (bif c6 then
 some 0
 else
 (idx a0.Toks a2).bind fun x8 =>
 (bif decide (x1.1<x8.Level) then
 some 1
 else
 (bif decide (x8.Level<x1.1) then
 some 2
 else
 (bif decide (x8.Assoc=1) then
 some 2
 else
 (bif decide (x8.Assoc=2) then
 some 1
 else
 some 3)))))
structure Clash where
 State:Int
 Tok:Int
 Keep:Int
 Drop:Int
 deriving DecidableEq,Inhabited
structure Act where
 Kind:Int
 N:Int
 deriving DecidableEq,Inhabited
def eClash:En Clash:=⟨4,fun x=>[I64 x.State,I64 x.Tok,I64 x.Keep,I64 x.Drop],fun _=>rfl,fun _=>NRl.nr⟩
instance:Flat eClash:=⟨fun _=>rfl⟩
instance:OOe eClash:=⟨fun x=>(inferInstance:OOl [I64 x.State,I64 x.Tok,I64 x.Keep,I64 x.Drop])⟩
instance:Tw eClash eClash:=⟨rfl,fun x=>(inferInstance:Vws [I64 x.State,I64 x.Tok,I64 x.Keep,I64 x.Drop] [I64 x.State,I64 x.Tok,I64 x.Keep,I64 x.Drop])⟩
instance {x:Clash}:Vws (eClash.cells x) [I64 x.State,I64 x.Tok,I64 x.Keep,I64 x.Drop]:=(inferInstance:Vws [I64 x.State,I64 x.Tok,I64 x.Keep,I64 x.Drop] [I64 x.State,I64 x.Tok,I64 x.Keep,I64 x.Drop])
def pf52 (a0:Grammar) (a1:Cell):Option (Act × (List Clash)) :=
 (loopM (R:=List Clash) (fun (s1:List Clash × Int) =>
 (bif decide (s1.2<(a1.Prods.length:Int)) then
 (idx a1.Prods 0).bind fun x5 =>
 (idx a1.Prods s1.2).bind fun x6 =>
 (appO s1.1 [(⟨a1.State,a1.Tok,x5,x6⟩:Clash)]).bind fun x7 =>
 some (.inl (s1.1++[(⟨a1.State,a1.Tok,x5,x6⟩:Clash)],w64 (s1.2+1)))
 else
 some (.inr s1.1))) (([]:List Clash),1)).bind fun x2 =>
 ((bif a1.Accept then
 some (3,0)
 else
 some (1,a1.Shift))).bind fun j8 =>
 (bif decide ((a1.Prods.length:Int)=0) then
 some ((⟨j8.1,j8.2⟩:Act),x2)
 else
 (idx a1.Prods 0).bind fun x11 =>
 ((bif decide (a1.Shift<0) then some (!a1.Accept) else some false)).bind fun c13 =>
 (bif c13 then
 some ((⟨2,x11⟩:Act),x2)
 else
 (pf72 a0 x11 a1.Tok).bind fun x15 =>
 ((bif a1.Accept then some true else some (decide (x15=0)))).bind fun c17 =>
 (bif c17 then
 (appO x2 [(⟨a1.State,a1.Tok,(-1),x11⟩:Clash)]).bind fun x19 =>
 some ((⟨j8.1,j8.2⟩:Act),x2++[(⟨a1.State,a1.Tok,(-1),x11⟩:Clash)])
 else
 (bif decide (x15=2) then
 some ((⟨2,x11⟩:Act),x2)
 else
 (bif decide (x15=3) then
 some ((⟨4,0⟩:Act),x2)
 else
 some ((⟨j8.1,j8.2⟩:Act),x2))))))
structure Dense where
 Acts:(List (List Act))
 Gotos:(List (List Int))
 deriving DecidableEq,Inhabited
def eAct:En Act:=⟨2,fun x=>[I64 x.Kind,I64 x.N],fun _=>rfl,fun _=>NRl.nr⟩
instance:Flat eAct:=⟨fun _=>rfl⟩
instance:OOe eAct:=⟨fun x=>(inferInstance:OOl [I64 x.Kind,I64 x.N])⟩
instance:Tw eAct eAct:=⟨rfl,fun x=>(inferInstance:Vws [I64 x.Kind,I64 x.N] [I64 x.Kind,I64 x.N])⟩
def pf39 (a0:Grammar) (a1:(List State)) (a2:(List Cell)):Option (Dense × (List Clash)) :=
 (loopM (R:=List (List Act) × List (List Int) × List Clash) (fun (s1:List (List Act) × List (List Int) × List Clash × Int) =>
 (bif decide (s1.2.2.2<(a1.length:Int)) then
 (mkO (a0.Toks.length:Int) (⟨0,0⟩:Act)).bind fun x5 =>
 (loopM (R:=List Clash × List Act) (fun (s6:List Clash × List Act × Int) =>
 (bif decide (s6.2.2<(a2.length:Int)) then
 ((idx a2 s6.2.2).bind fun x11 =>
 ((bif decide (x11.State=s1.2.2.2) then
 (idx a2 s6.2.2).bind fun x14 =>
 (pf52 a0 x14).bind fun x15 =>
 (idx a2 s6.2.2).bind fun x16 =>
 (idx s6.2.1 x16.Tok).bind fun x17 =>
 (appO s6.1 x15.2).bind fun x18 =>
 some (s6.1++x15.2,s6.2.1.set x16.Tok.toNat x15.1)
 else
 some (s6.1,s6.2.1))).bind fun j12 =>
 some (j12.1,j12.2)).bind fun j10 =>
 some (.inl (j10.1,j10.2,w64 (s6.2.2+1)))
 else
 some (.inr (s6.1,s6.2.1)))) (s1.2.2.1,x5,0)).bind fun x7 =>
 (mkO (a0.Nons.length:Int) 0).bind fun x19 =>
 (loopM (R:=List Int) (fun (s20:List Int × Int) =>
 (bif decide (s20.2<(s20.1.length:Int)) then
 (pf53 a1 s1.2.2.2 (w64 (1000+s20.2))).bind fun x24 =>
 (idx s20.1 s20.2).bind fun x25 =>
 some (.inl (s20.1.set s20.2.toNat x24,w64 (s20.2+1)))
 else
 some (.inr s20.1))) (x19,0)).bind fun x21 =>
 (appO s1.1 [x7.2]).bind fun x26 =>
 (appO s1.2.1 [x21]).bind fun x27 =>
 some (.inl (s1.1++[x7.2],s1.2.1++[x21],x7.1,w64 (s1.2.2.2+1)))
 else
 some (.inr (s1.1,s1.2.1,s1.2.2.1)))) (([]:List (List Act)),([]:List (List Int)),([]:List Clash),0)).bind fun x2 =>
 some ((⟨x2.1,x2.2.1⟩:Dense),x2.2.2)
def pf40 (a0:(List Cell)):Option (Int) :=
 (loopM (R:=Int) (fun (s1:Int × Int) =>
 (bif decide (s1.2<(a0.length:Int)) then
 ((idx a0 s1.2).bind fun x6 =>
 (pf54 x6).bind fun x7 =>
 ((bif decide (1<x7) then
 some (w64 (s1.1+1))
 else
 some s1.1)).bind fun j8 =>
 some j8).bind fun j5 =>
 some (.inl (j5,w64 (s1.2+1)))
 else
 some (.inr s1.1))) (0,0)).bind fun x2 =>
 some x2
def pf28 (a0:Source):Option (Grammar × Dense × Int × Bool) :=
 (pf38 a0).bind fun x1 =>
 (bif !x1.2.2.2 then
 some (x1.1,(⟨([]:List (List Act)),([]:List (List Int))⟩:Dense),0,false)
 else
 (pf39 x1.1 x1.2.1 x1.2.2.1).bind fun x3 =>
 (pf40 x1.2.2.1).bind fun x4 =>
 some (x1.1,x3.1,x4,true))
structure Piece where
 Kind:Int
 Text:ByteArray
 N:Int
 Tag:ByteArray
 deriving DecidableEq,Inhabited
def ePiece:En Piece:=⟨4,fun x=>[I64 x.Kind,SS x.Text,I64 x.N,SS x.Tag],fun _=>rfl,fun _=>NRl.nr⟩
instance:Flat ePiece:=⟨fun _=>rfl⟩
instance:OOe ePiece:=⟨fun x=>(inferInstance:OOl [I64 x.Kind,SS x.Text,I64 x.N,SS x.Tag])⟩
instance:Tw ePiece ePiece:=⟨rfl,fun x=>(inferInstance:Vws [I64 x.Kind,SS x.Text,I64 x.N,SS x.Tag] [I64 x.Kind,SS x.Text,I64 x.N,SS x.Tag])⟩
instance {x:Piece}:Vws (ePiece.cells x) [I64 x.Kind,SS x.Text,I64 x.N,SS x.Tag]:=(inferInstance:Vws [I64 x.Kind,SS x.Text,I64 x.N,SS x.Tag] [I64 x.Kind,SS x.Text,I64 x.N,SS x.Tag])
def pf75 (a0:ByteArray) (a1:Int):Option (Piece × Int × Int) :=
 ((bif decide (w64 (a1+1)<(a0.size:Int)) then ((bidx a0 (w64 (a1+1))).bind fun x2=>some (decide (x2=60))) else some false)).bind fun c3 =>
 (bif c3 then
 (pf95 a0 (w64 ((w64 (a1+1))+1))).bind fun x5 =>
 ((bif decide (x5<1) then some true else (bif decide (20<x5) then some true else (bif decide ((a0.size:Int)<=w64 ((w64 ((w64 (a1+1))+1))+x5)) then some true else ((bidx a0 (w64 ((w64 ((w64 (a1+1))+1))+x5))).bind fun x9=>some (!decide (x9=62))))))).bind fun c10 =>
 (bif c10 then
 some ((⟨0,{ data:=#[] },0,{ data:=#[] }⟩:Piece),0,0)
 else
 (cutO a0 (w64 ((w64 (a1+1))+1)) (w64 ((w64 ((w64 (a1+1))+1))+x5))).bind fun x12 =>
 ((bif decide (w64 ((w64 ((w64 (a1+1))+x5))+2)<(a0.size:Int)) then ((bidx a0 (w64 ((w64 ((w64 (a1+1))+x5))+2))).bind fun x14=>some (decide (x14=36))) else some false)).bind fun c15 =>
 (bif c15 then
 some ((⟨2,{ data:=#[] },0,x12⟩:Piece),w64 ((w64 ((w64 ((w64 ((w64 (a1+1))+x5))+2))+1)) - a1),0)
 else
 (loopM (R:=Int × Int) (fun (s17:Int × Int) =>
 ((bif decide (s17.2<(a0.size:Int)) then ((bidx a0 s17.2).bind fun x21=>((pf96 x21).bind fun x22=>some x22)) else some false)).bind fun c23 =>
 (bif c23 then
 ((bif decide (w64 (s17.2 - (w64 ((w64 ((w64 (a1+1))+x5))+2)))<3) then
 (bidx a0 s17.2).bind fun x27 =>
 some (w64 ((w64 (10 * s17.1))+(w64 (w8 (x27 - 48)))))
 else
 some s17.1)).bind fun j25 =>
 some (.inl (j25,w64 (s17.2+1)))
 else
 some (.inr (s17.1,s17.2)))) (0,w64 ((w64 ((w64 (a1+1))+x5))+2))).bind fun x18 =>
 (bif decide (x18.2=w64 ((w64 ((w64 (a1+1))+x5))+2)) then
 some ((⟨0,{ data:=#[] },0,{ data:=#[] }⟩:Piece),0,0)
 else
 (bif decide (3<w64 (x18.2 - (w64 ((w64 ((w64 (a1+1))+x5))+2)))) then
 some ((⟨0,{ data:=#[] },0,{ data:=#[] }⟩:Piece),0,6)
 else
 some ((⟨3,{ data:=#[] },x18.1,x12⟩:Piece),w64 (x18.2 - a1),0)))))
 else
 ((bif decide (w64 (a1+1)<(a0.size:Int)) then ((bidx a0 (w64 (a1+1))).bind fun x31=>some (decide (x31=36))) else some false)).bind fun c32 =>
 (bif c32 then
 some ((⟨2,{ data:=#[] },0,{ data:=#[] }⟩:Piece),w64 ((w64 ((w64 (a1+1))+1)) - a1),0)
 else
 (loopM (R:=Int × Int) (fun (s34:Int × Int) =>
 ((bif decide (s34.2<(a0.size:Int)) then ((bidx a0 s34.2).bind fun x38=>((pf96 x38).bind fun x39=>some x39)) else some false)).bind fun c40 =>
 (bif c40 then
 ((bif decide (w64 (s34.2 - (w64 (a1+1)))<3) then
 (bidx a0 s34.2).bind fun x44 =>
 some (w64 ((w64 (10 * s34.1))+(w64 (w8 (x44 - 48)))))
 else
 some s34.1)).bind fun j42 =>
 some (.inl (j42,w64 (s34.2+1)))
 else
 some (.inr (s34.1,s34.2)))) (0,w64 (a1+1))).bind fun x35 =>
 (bif decide (x35.2=w64 (a1+1)) then
 some ((⟨0,{ data:=#[] },0,{ data:=#[] }⟩:Piece),0,0)
 else
 (bif decide (3<w64 (x35.2 - (w64 (a1+1)))) then
 some ((⟨0,{ data:=#[] },0,{ data:=#[] }⟩:Piece),0,6)
 else
 some ((⟨3,{ data:=#[] },x35.1,{ data:=#[] }⟩:Piece),w64 (x35.2 - a1),0)))))
def pf55 (a0:ByteArray):Option ((List Piece) × Int) :=
 (pf73 a0 0).bind fun x1 =>
 (bif !decide (x1=(a0.size:Int)) then
 some (([]:List Piece),1)
 else
 (loopM (R:=(List Piece × Int) ⊕ (List Piece × Int)) (fun (s3:List Piece × Int × Int) =>
 (bif decide (s3.2.2<(a0.size:Int)) then
 (pf74 a0 s3.2.2).bind fun x8 =>
 (bif decide (s3.2.2<x8) then
 some (.inl (s3.1,s3.2.1,x8))
 else
 (bidx a0 s3.2.2).bind fun x10 =>
 (bif !decide (x10=36) then
 some (.inl (s3.1,s3.2.1,w64 (s3.2.2+1)))
 else
 (pf75 a0 s3.2.2).bind fun x12 =>
 (bif !decide (x12.2.2=0) then
 some (.inr (.inr (([]:List Piece),x12.2.2)))
 else
 (bif decide (x12.2.1=0) then
 some (.inl (s3.1,s3.2.1,w64 (s3.2.2+1)))
 else
 ((bif decide (s3.2.1<s3.2.2) then
 (cutO a0 s3.2.1 s3.2.2).bind fun x17 =>
 (appO s3.1 [(⟨1,x17,0,{ data:=#[] }⟩:Piece)]).bind fun x18 =>
 some (s3.1++[(⟨1,x17,0,{ data:=#[] }⟩:Piece)])
 else
 some s3.1)).bind fun j15 =>
 (appO j15 [x12.1]).bind fun x19 =>
 some (.inl (j15++[x12.1],w64 (s3.2.2+x12.2.1),w64 (s3.2.2+x12.2.1)))))))
 else
 some (.inr (.inl (s3.1,s3.2.1))))) (([]:List Piece),0,0)).bind fun x4 =>
 (match x4 with
 | .inl x5 =>
 ((bif decide (x5.2<(a0.size:Int)) then
 (cutO a0 x5.2 a0.size).bind fun x22 =>
 (appO x5.1 [(⟨1,x22,0,{ data:=#[] }⟩:Piece)]).bind fun x23 =>
 some (x5.1++[(⟨1,x22,0,{ data:=#[] }⟩:Piece)])
 else
 some x5.1)).bind fun j20 =>
 some (j20,0)
 | .inr x6 =>
 some (x6.1,x6.2)))
def pf56 (a0:Grammar) (a1:Int):Option (ByteArray) :=
 (bif decide (1000<=a1) then
 (idx a0.Nons (w64 (a1 - 1000))).bind fun x2 =>
 some x2.Tag
 else
 (idx a0.Toks a1).bind fun x3 =>
 some x3.Tag)
def pf41 (a0:Grammar) (a1:Int):Option (ByteArray × Int × ByteArray) :=
 ((bif decide (a1<0) then some true else (bif decide ((a0.Prods.length:Int)<=a1) then some true else ((idx a0.Prods a1).bind fun x3=>some (decide (x3.Code={ data:=#[] })))))).bind fun c4 =>
 (bif c4 then
 some ({ data:=#[] },0,{ data:=#[] })
 else
 (idx a0.Prods a1).bind fun x6 =>
 (pf55 x6.Code).bind fun x7 =>
 (bif !decide (x7.2=0) then
 some ({ data:=#[] },x7.2,{ data:=#[] })
 else
 (loopM (R:=(ByteArray) ⊕ (ByteArray × Int × ByteArray)) (fun (s9:ByteArray × Int) =>
 (bif decide (s9.2<(x7.1.length:Int)) then
 (idx x7.1 s9.2).bind fun x14 =>
 (idx x7.1 s9.2).bind fun x15 =>
 (bif decide (x15.Kind=1) then
 (idx x7.1 s9.2).bind fun x17 =>
 (catO s9.1 x17.Text).bind fun x18 =>
 some (.inl (x18,w64 (s9.2+1)))
 else
 (bif decide (x15.Kind=2) then
 (catO s9.1 ({ data:=#[121,121,86,65,76] })).bind fun x20 =>
 ((bif decide (x14.Tag={ data:=#[] }) then
 (idx a0.Nons x6.Left).bind fun x23 =>
 some x23.Tag
 else
 some x14.Tag)).bind fun j21 =>
 ((bif !decide (j21={ data:=#[] }) then
 (catO x20 ({ data:=#[46] })).bind fun x26 =>
 (catO x26 j21).bind fun x27 =>
 some x27
 else
 some x20)).bind fun j24 =>
 some (.inl (j24,w64 (s9.2+1)))
 else
 (idx x7.1 s9.2).bind fun x28 =>
 ((bif decide (x28.N<1) then some true else some (decide ((x6.Args.length:Int)<x28.N)))).bind fun c30 =>
 (bif c30 then
 (pf18 x28.N).bind fun x32 =>
 (catO ({ data:=#[36] }) x32).bind fun x33 =>
 some (.inr (.inr ({ data:=#[] },6,x33)))
 else
 (catO s9.1 ({ data:=#[121,121,68,111,108,108,97,114,91] })).bind fun x34 =>
 (pf18 x28.N).bind fun x35 =>
 (catO x34 x35).bind fun x36 =>
 (catO x36 ({ data:=#[93] })).bind fun x37 =>
 ((bif decide (x14.Tag={ data:=#[] }) then
 (idx x6.Args (w64 (x28.N - 1))).bind fun x40 =>
 (pf56 a0 x40).bind fun x41 =>
 some x41
 else
 some x14.Tag)).bind fun j38 =>
 ((bif !decide (j38={ data:=#[] }) then
 (catO x37 ({ data:=#[46] })).bind fun x44 =>
 (catO x44 j38).bind fun x45 =>
 some x45
 else
 some x37)).bind fun j42 =>
 some (.inl (j42,w64 (s9.2+1))))))
 else
 some (.inr (.inl s9.1)))) ({ data:=#[] },0)).bind fun x10 =>
 (match x10 with
 | .inl x11 =>
 some (x11,0,{ data:=#[] })
 | .inr x12 =>
 some (x12.1,x12.2.1,x12.2.2))))
def pf29 (a0:Grammar):Option ((List ByteArray) × Int × Int × ByteArray) :=
 (loopM (R:=(List ByteArray) ⊕ (List ByteArray × Int × Int × ByteArray)) (fun (s1:List ByteArray × Int) =>
 (bif decide (s1.2<(a0.Prods.length:Int)) then
 (pf41 a0 s1.2).bind fun x6 =>
 (bif !decide (x6.2.1=0) then
 (idx a0.Prods s1.2).bind fun x8 =>
 some (.inr (.inr (([]:List ByteArray),x6.2.1,x8.At,x6.2.2)))
 else
 (appO s1.1 [x6.1]).bind fun x9 =>
 some (.inl (s1.1++[x6.1],w64 (s1.2+1))))
 else
 some (.inr (.inl s1.1)))) (([]:List ByteArray),0)).bind fun x2 =>
 (match x2 with
 | .inl x3 =>
 some (x3,0,0,{ data:=#[] })
 | .inr x4 =>
 some (x4.1,x4.2.1,x4.2.2.1,x4.2.2.2))
structure Pair where
 At:Int
 Val:Int
 deriving DecidableEq,Inhabited
structure Row where
 Def:Int
 Pairs:(List Pair)
 deriving DecidableEq,Inhabited
def ePair:En Pair:=⟨2,fun x=>[I64 x.At,I64 x.Val],fun _=>rfl,fun _=>NRl.nr⟩
instance:Flat ePair:=⟨fun _=>rfl⟩
instance:OOe ePair:=⟨fun x=>(inferInstance:OOl [I64 x.At,I64 x.Val])⟩
instance:Tw ePair ePair:=⟨rfl,fun x=>(inferInstance:Vws [I64 x.At,I64 x.Val] [I64 x.At,I64 x.Val])⟩
def eRow_0:En Row:=⟨2,fun x=>[I64 x.Def,iR ePair x.Pairs],fun _=>rfl,fun _=>NRl.nr⟩
instance:Flat eRow_0:=⟨fun _=>rfl⟩
instance:Tw eRow_0 eRow_0:=⟨rfl,fun x=>(inferInstance:Vws [I64 x.Def,iR ePair x.Pairs] [I64 x.Def,iR ePair x.Pairs])⟩
def pf42 (a0:(List Row)):Option ((List Int) × (List (List Pair))) :=
 (loopM (R:=List Int × List (List Pair)) (fun (s1:List Int × List (List Pair) × Int) =>
 (bif decide (s1.2.2<(a0.length:Int)) then
 (idx a0 s1.2.2).bind fun x5 =>
 (appO s1.1 [x5.Def]).bind fun x6 =>
 (idx a0 s1.2.2).bind fun x7 =>
 (appO s1.2.1 [x7.Pairs]).bind fun x8 =>
 some (.inl (s1.1++[x5.Def],s1.2.1++[x7.Pairs],w64 (s1.2.2+1)))
 else
 some (.inr (s1.1,s1.2.1)))) (([]:List Int),([]:List (List Pair)),0)).bind fun x2 =>
 some (x2.1,x2.2)
def pf57 (a0:(List Int)):Option (Int) :=
 (loopM (R:=List Int) (fun (s1:List Int × Int) =>
 (bif decide (s1.2<(a0.length:Int)) then
 (idx a0 s1.2).bind fun x5 =>
 (pf61 s1.1 x5).bind fun x6 =>
 some (.inl (x6,w64 (s1.2+1)))
 else
 some (.inr s1.1))) (([]:List Int),0)).bind fun x2 =>
 (loopM (R:=Int) (fun (s7:Int × Int × Int) =>
 (bif decide (s7.2.2<(x2.length:Int)) then
 ((loopM (R:=Int) (fun (s12:Int × Int) =>
 (bif decide (s12.2<(a0.length:Int)) then
 ((idx a0 s12.2).bind fun x17 =>
 (idx x2 s7.2.2).bind fun x18 =>
 ((bif decide (x17=x18) then
 some (w64 (s12.1+1))
 else
 some s12.1)).bind fun j19 =>
 some j19).bind fun j16 =>
 some (.inl (j16,w64 (s12.2+1)))
 else
 some (.inr s12.1))) (0,0)).bind fun x13 =>
 ((bif decide (s7.2.1<x13) then
 (idx x2 s7.2.2).bind fun x23 =>
 some (x23,x13)
 else
 some (s7.1,s7.2.1))).bind fun j21 =>
 some (j21.1,j21.2)).bind fun j11 =>
 some (.inl (j11.1,j11.2,w64 (s7.2.2+1)))
 else
 some (.inr s7.1))) ((-1),0,0)).bind fun x8 =>
 some x8
def pf58 (a0:Act):Option (Int) :=
 ((bif decide (a0.Kind=1) then (bif decide (0<=a0.N) then some (decide (a0.N<=19999)) else some false) else some false)).bind fun c3 =>
 (bif c3 then
 some (w64 (a0.N+1))
 else
 ((bif decide (a0.Kind=2) then (bif decide (1<=a0.N) then some (decide (a0.N<=19999)) else some false) else some false)).bind fun c7 =>
 (bif c7 then
 some (w64 (-a0.N))
 else
 ((bif decide (a0.Kind=3) then some (decide (a0.N=0)) else some false)).bind fun c10 =>
 (bif c10 then
 some 20001
 else
 ((bif decide (a0.Kind=4) then some (decide (a0.N=0)) else some false)).bind fun c13 =>
 (bif c13 then
 some 20002
 else
 some 0))))
def pf43 (a0:Dense):Option ((List Row)) :=
 (loopM (R:=List Row) (fun (s1:List Row × Int) =>
 (bif decide (s1.2<(a0.Acts.length:Int)) then
 (loopM (R:=List Int) (fun (s5:List Int × Int) =>
 (idx a0.Acts s1.2).bind fun x8 =>
 (bif decide (s5.2<(x8.length:Int)) then
 ((idx a0.Acts s1.2).bind fun x11 =>
 (idx x11 s5.2).bind fun x12 =>
 ((bif decide (x12.Kind=2) then
 (idx a0.Acts s1.2).bind fun x15 =>
 (idx x15 s5.2).bind fun x16 =>
 (appO s5.1 [x16.N]).bind fun x17 =>
 some (s5.1++[x16.N])
 else
 some s5.1)).bind fun j13 =>
 some j13).bind fun j10 =>
 some (.inl (j10,w64 (s5.2+1)))
 else
 some (.inr s5.1))) (([]:List Int),0)).bind fun x6 =>
 (pf57 x6).bind fun x18 =>
 (loopM (R:=List Pair) (fun (s19:List Pair × Int) =>
 (idx a0.Acts s1.2).bind fun x22 =>
 (bif decide (s19.2<(x22.length:Int)) then
 ((idx a0.Acts s1.2).bind fun x25 =>
 (idx x25 s19.2).bind fun x26 =>
 ((bif !decide (x26.Kind=0) then (bif !decide (x26.Kind=2) then some true else some (!decide (x26.N=x18))) else some false)).bind fun c29 =>
 ((bif c29 then
 (pf58 x26).bind fun x32 =>
 (appO s19.1 [(⟨s19.2,x32⟩:Pair)]).bind fun x33 =>
 some (s19.1++[(⟨s19.2,x32⟩:Pair)])
 else
 some s19.1)).bind fun j30 =>
 some j30).bind fun j24 =>
 some (.inl (j24,w64 (s19.2+1)))
 else
 some (.inr s19.1))) (([]:List Pair),0)).bind fun x20 =>
 (appO s1.1 [(⟨x18,x20⟩:Row)]).bind fun x34 =>
 some (.inl (s1.1++[(⟨x18,x20⟩:Row)],w64 (s1.2+1)))
 else
 some (.inr s1.1))) (([]:List Row),0)).bind fun x2 =>
 some x2
def pf59 (a0:(List (List Pair))):Option (Bool) :=
 (bif decide (400<(a0.length:Int)) then
 some false
 else
 (loopM (R:=(Unit) ⊕ (Bool)) (fun (s2:Int) =>
 (bif decide (s2<(a0.length:Int)) then
 (loopM (R:=(Unit) ⊕ (Bool)) (fun (s7:List Int × Int) =>
 (idx a0 s2).bind fun x11 =>
 (bif decide (s7.2<(x11.length:Int)) then
 (((idx a0 s2).bind fun x13=>((idx x13 s7.2).bind fun x14=>(bif decide (x14.At<0) then some true else ((idx a0 s2).bind fun x16=>((idx x16 s7.2).bind fun x17=>(bif decide (999<x17.At) then some true else ((idx a0 s2).bind fun x19=>((idx x19 s7.2).bind fun x20=>((pf68 s7.1 x20.At).bind fun x21=>some x21)))))))))).bind fun c22 =>
 (bif c22 then
 some (.inr (.inr false))
 else
 (idx a0 s2).bind fun x24 =>
 (idx x24 s7.2).bind fun x25 =>
 (appO s7.1 [x25.At]).bind fun x26 =>
 some (.inl (s7.1++[x25.At],w64 (s7.2+1))))
 else
 some (.inr (.inl ())))) (([]:List Int),0)).bind fun x8 =>
 (match x8 with
 | .inl x9 =>
 some (.inl (w64 (s2+1)))
 | .inr x10 =>
 some (.inr (.inr x10)))
 else
 some (.inr (.inl ())))) 0).bind fun x3 =>
 (match x3 with
 | .inl x4 =>
 some true
 | .inr x5 =>
 some x5))
def pf60 (a0:(List Int)) (a1:(List Pair)) (a2:Int):Option (Bool) :=
 (loopM (R:=(Unit) ⊕ (Bool)) (fun (s1:Int) =>
 (bif decide (s1<(a1.length:Int)) then
 (idx a1 s1).bind fun x6 =>
 ((bif decide (w64 (a2+x6.At)<(a0.length:Int)) then ((idx a0 (w64 (a2+x6.At))).bind fun x8=>some (!decide (x8=0))) else some false)).bind fun c9 =>
 (bif c9 then
 some (.inr (.inr false))
 else
 some (.inl (w64 (s1+1))))
 else
 some (.inr (.inl ())))) 0).bind fun x2 =>
 (match x2 with
 | .inl x3 =>
 some true
 | .inr x4 =>
 some x4)
structure Comb where
 Base:(List Int)
 Val:(List Int)
 Chk:(List Int)
 deriving DecidableEq,Inhabited
def eComb_0:En Comb:=⟨3,fun x=>[iR eI x.Base,iR eI x.Val,iR eI x.Chk],fun _=>rfl,fun _=>NRl.nr⟩
instance:Flat eComb_0:=⟨fun _=>rfl⟩
instance:Tw eComb_0 eComb_0:=⟨rfl,fun x=>(inferInstance:Vws [iR eI x.Base,iR eI x.Val,iR eI x.Chk] [iR eI x.Base,iR eI x.Val,iR eI x.Chk])⟩
instance {x:Comb}:Vws (eComb_0.cells x) [iR eI x.Base,iR eI x.Val,iR eI x.Chk]:=(inferInstance:Vws [iR eI x.Base,iR eI x.Val,iR eI x.Chk] [iR eI x.Base,iR eI x.Val,iR eI x.Chk])
def eComb_r:En Comb:=⟨3,fun x=>[oR eI x.Base,oR eI x.Val,oR eI x.Chk],fun _=>rfl,fun _=>NRl.nr⟩
instance:OOe eComb_r:=⟨fun x=>(inferInstance:OOl [oR eI x.Base,oR eI x.Val,oR eI x.Chk])⟩
instance {x:Comb}:Vws (eComb_r.cells x) [iR eI x.Base,iR eI x.Val,iR eI x.Chk]:=(inferInstance:Vws [oR eI x.Base,oR eI x.Val,oR eI x.Chk] [iR eI x.Base,iR eI x.Val,iR eI x.Chk])
def pf44 (a0:(List (List Pair))):Option (Comb) :=
 (pf59 a0).bind fun x1 =>
 (bif !x1 then
 some (⟨([]:List Int),([]:List Int),([]:List Int)⟩:Comb)
 else
 (mkO (a0.length:Int) 0).bind fun x3 =>
 (mkO (a0.length:Int) false).bind fun x4 =>
 (loopM (R:=(Unit) ⊕ (Comb)) (fun (s5:Comb × List Bool) =>
 (loopM (R:=Int) (fun (s9:Int × Int) =>
 (bif decide (s9.2<(a0.length:Int)) then
 ((((idx s5.2 s9.2).bind fun x14=>(bif !x14 then ((idx a0 s9.2).bind fun x16=>(bif decide (0<(x16.length:Int)) then (bif decide (s9.1<0) then some true else ((idx a0 s9.2).bind fun x19=>((idx a0 s9.1).bind fun x20=>some (decide ((x20.length:Int)<(x19.length:Int)))))) else some false)) else some false))).bind fun c21 =>
 ((bif c21 then
 some s9.2
 else
 some s9.1)).bind fun j22 =>
 some j22).bind fun j13 =>
 some (.inl (j13,w64 (s9.2+1)))
 else
 some (.inr s9.1))) ((-1),0)).bind fun x10 =>
 (bif decide (x10<0) then
 some (.inr (.inr s5.1))
 else
 (idx s5.2 x10).bind fun x25 =>
 (loopM (R:=List Int) (fun (s26:List Int) =>
 (idx a0 x10).bind fun x29 =>
 (idx s26 x10).bind fun x30 =>
 (pf60 s5.1.Chk x29 x30).bind fun x31 =>
 (bif !x31 then
 (idx s26 x10).bind fun x33 =>
 some (.inl (s26.set x10.toNat (w64 (x33+1))))
 else
 some (.inr s26))) s5.1.Base).bind fun x27 =>
 (loopM (R:=List Int × List Int) (fun (s34:List Int × List Int × Int) =>
 (idx a0 x10).bind fun x37 =>
 (bif decide (s34.2.2<(x37.length:Int)) then
 (idx x27 x10).bind fun x39 =>
 (idx a0 x10).bind fun x40 =>
 (idx x40 s34.2.2).bind fun x41 =>
 (loopM (R:=List Int × List Int) (fun (s42:List Int × List Int) =>
 (bif decide ((s42.2.length:Int)<=w64 (x39+x41.At)) then
 (appO s42.2 [0]).bind fun x46 =>
 (appO s42.1 [0]).bind fun x47 =>
 some (.inl (s42.1++[0],s42.2++[0]))
 else
 some (.inr (s42.1,s42.2)))) (s34.1,s34.2.1)).bind fun x43 =>
 (idx a0 x10).bind fun x48 =>
 (idx x48 s34.2.2).bind fun x49 =>
 (idx x43.2 (w64 (x39+x41.At))).bind fun x50 =>
 (idx x43.1 (w64 (x39+x41.At))).bind fun x51 =>
 some (.inl (x43.1.set (w64 (x39+x41.At)).toNat x49.Val,x43.2.set (w64 (x39+x41.At)).toNat (w64 (x10+1)),w64 (s34.2.2+1)))
 else
 some (.inr (s34.1,s34.2.1)))) (s5.1.Val,s5.1.Chk,0)).bind fun x35 =>
 some (.inl ((⟨x27,x35.1,x35.2⟩:Comb),s5.2.set x10.toNat true)))) ((⟨x3,([]:List Int),([]:List Int)⟩:Comb),x4)).bind fun x6 =>
 (match x6 with
 | .inl x7 =>
 none
 | .inr x8 =>
 some x8))
def pf45 (a0:Dense):Option ((List Row)) :=
 (loopM (R:=List Row) (fun (s1:List Row × Int) =>
 ((bif decide (0<(a0.Gotos.length:Int)) then ((idx a0.Gotos 0).bind fun x5=>some (decide (s1.2<(x5.length:Int)))) else some false)).bind fun c6 =>
 (bif c6 then
 (loopM (R:=List Int) (fun (s8:List Int × Int) =>
 (bif decide (s8.2<(a0.Gotos.length:Int)) then
 ((idx a0.Gotos s8.2).bind fun x13 =>
 (idx x13 s1.2).bind fun x14 =>
 ((bif decide (0<=x14) then
 (idx a0.Gotos s8.2).bind fun x17 =>
 (idx x17 s1.2).bind fun x18 =>
 (appO s8.1 [x18]).bind fun x19 =>
 some (s8.1++[x18])
 else
 some s8.1)).bind fun j15 =>
 some j15).bind fun j12 =>
 some (.inl (j12,w64 (s8.2+1)))
 else
 some (.inr s8.1))) (([]:List Int),0)).bind fun x9 =>
 (pf57 x9).bind fun x20 =>
 (loopM (R:=List Pair) (fun (s21:List Pair × Int) =>
 (bif decide (s21.2<(a0.Gotos.length:Int)) then
 ((idx a0.Gotos s21.2).bind fun x26 =>
 (idx x26 s1.2).bind fun x27 =>
 ((bif decide (0<=x27) then some (!decide (x27=x20)) else some false)).bind fun c29 =>
 ((bif c29 then
 (appO s21.1 [(⟨s21.2,x27⟩:Pair)]).bind fun x32 =>
 some (s21.1++[(⟨s21.2,x27⟩:Pair)])
 else
 some s21.1)).bind fun j30 =>
 some j30).bind fun j25 =>
 some (.inl (j25,w64 (s21.2+1)))
 else
 some (.inr s21.1))) (([]:List Pair),0)).bind fun x22 =>
 (appO s1.1 [(⟨x20,x22⟩:Row)]).bind fun x33 =>
 some (.inl (s1.1++[(⟨x20,x22⟩:Row)],w64 (s1.2+1)))
 else
 some (.inr s1.1))) (([]:List Row),0)).bind fun x2 =>
 some x2
def pf46 (a0:Grammar):Option ((List Pair)) :=
 (loopM (R:=List Int) (fun (s1:List Int × Int) =>
 (bif decide (s1.2<(a0.Toks.length:Int)) then
 ((idx a0.Toks s1.2).bind fun x6 =>
 ((bif decide (0<x6.Num) then
 (idx a0.Toks s1.2).bind fun x9 =>
 (pf61 s1.1 x9.Num).bind fun x10 =>
 some x10
 else
 some s1.1)).bind fun j7 =>
 some j7).bind fun j5 =>
 some (.inl (j5,w64 (s1.2+1)))
 else
 some (.inr s1.1))) (([]:List Int),0)).bind fun x2 =>
 (loopM (R:=List Pair) (fun (s11:List Pair × Int) =>
 (bif decide (s11.2<(x2.length:Int)) then
 (loopM (R:=List Pair) (fun (s15:List Pair × Int) =>
 (bif decide (s15.2<(a0.Toks.length:Int)) then
 ((idx a0.Toks s15.2).bind fun x20 =>
 (idx x2 s11.2).bind fun x21 =>
 ((bif decide (x20.Num=x21) then
 (idx x2 s11.2).bind fun x24 =>
 (appO s15.1 [(⟨x24,s15.2⟩:Pair)]).bind fun x25 =>
 some (s15.1++[(⟨x24,s15.2⟩:Pair)])
 else
 some s15.1)).bind fun j22 =>
 some j22).bind fun j19 =>
 some (.inl (j19,w64 (s15.2+1)))
 else
 some (.inr s15.1))) (s11.1,0)).bind fun x16 =>
 some (.inl (x16,w64 (s11.2+1)))
 else
 some (.inr s11.1))) (([]:List Pair),0)).bind fun x12 =>
 some x12
structure Tables where
 Def:(List Int)
 Acts:Comb
 GoDef:(List Int)
 Gos:Comb
 Left:(List Int)
 Len:(List Int)
 Nums:(List Pair)
 deriving DecidableEq,Inhabited
def eTables_0:En Tables:=⟨11,fun x=>[iR eI x.Def,iR eI x.Acts.Base,iR eI x.Acts.Val,iR eI x.Acts.Chk,iR eI x.GoDef,iR eI x.Gos.Base,iR eI x.Gos.Val,iR eI x.Gos.Chk,iR eI x.Left,iR eI x.Len,iR ePair x.Nums],fun _=>rfl,fun _=>NRl.nr⟩
instance:Flat eTables_0:=⟨fun _=>rfl⟩
instance:Tw eTables_0 eTables_0:=⟨rfl,fun x=>(inferInstance:Vws [iR eI x.Def,iR eI x.Acts.Base,iR eI x.Acts.Val,iR eI x.Acts.Chk,iR eI x.GoDef,iR eI x.Gos.Base,iR eI x.Gos.Val,iR eI x.Gos.Chk,iR eI x.Left,iR eI x.Len,iR ePair x.Nums] [iR eI x.Def,iR eI x.Acts.Base,iR eI x.Acts.Val,iR eI x.Acts.Chk,iR eI x.GoDef,iR eI x.Gos.Base,iR eI x.Gos.Val,iR eI x.Gos.Chk,iR eI x.Left,iR eI x.Len,iR ePair x.Nums])⟩
instance {x:Tables}:Vws (eTables_0.cells x) [iR eI x.Def,iR eI x.Acts.Base,iR eI x.Acts.Val,iR eI x.Acts.Chk,iR eI x.GoDef,iR eI x.Gos.Base,iR eI x.Gos.Val,iR eI x.Gos.Chk,iR eI x.Left,iR eI x.Len,iR ePair x.Nums]:=(inferInstance:Vws [iR eI x.Def,iR eI x.Acts.Base,iR eI x.Acts.Val,iR eI x.Acts.Chk,iR eI x.GoDef,iR eI x.Gos.Base,iR eI x.Gos.Val,iR eI x.Gos.Chk,iR eI x.Left,iR eI x.Len,iR ePair x.Nums] [iR eI x.Def,iR eI x.Acts.Base,iR eI x.Acts.Val,iR eI x.Acts.Chk,iR eI x.GoDef,iR eI x.Gos.Base,iR eI x.Gos.Val,iR eI x.Gos.Chk,iR eI x.Left,iR eI x.Len,iR ePair x.Nums])
def pf30 (a0:Grammar) (a1:Dense):Option (Tables) :=
 (pf43 a1).bind fun x1 =>
 (pf42 x1).bind fun x2 =>
 (pf44 x2.2).bind fun x3 =>
 (pf45 a1).bind fun x4 =>
 (pf42 x4).bind fun x5 =>
 (pf44 x5.2).bind fun x6 =>
 (loopM (R:=List Int × List Int) (fun (s7:List Int × List Int × Int) =>
 (bif decide (s7.2.2<(a0.Prods.length:Int)) then
 (idx a0.Prods s7.2.2).bind fun x11 =>
 (appO s7.1 [x11.Left]).bind fun x12 =>
 (idx a0.Prods s7.2.2).bind fun x13 =>
 (appO s7.2.1 [(x13.Right.length:Int)]).bind fun x14 =>
 some (.inl (s7.1++[x11.Left],s7.2.1++[(x13.Right.length:Int)],w64 (s7.2.2+1)))
 else
 some (.inr (s7.1,s7.2.1)))) (([]:List Int),([]:List Int),0)).bind fun x8 =>
 (pf46 a0).bind fun x15 =>
 some (⟨x2.1,x3,x5.1,x6,x8.1,x8.2,x15⟩:Tables)
def pf15 (a0:Source):Option (Grammar × Tables × (List ByteArray) × Bool) :=
 (pf28 a0).bind fun x1 =>
 (bif !x1.2.2.2 then
 some (x1.1,(⟨([]:List Int),(⟨([]:List Int),([]:List Int),([]:List Int)⟩:Comb),([]:List Int),(⟨([]:List Int),([]:List Int),([]:List Int)⟩:Comb),([]:List Int),([]:List Int),([]:List Pair)⟩:Tables),([]:List ByteArray),false)
 else
 (pf29 x1.1).bind fun x3 =>
 (pf30 x1.1 x1.2.1).bind fun x4 =>
 some (x1.1,x4,x3.1,decide (x3.2.1=0)))
def pf31 (a0:Tables):Option ((List (List Int))) :=
 (loopM (R:=List Int × List Int) (fun (s1:List Int × List Int × Int) =>
 (bif decide (s1.2.2<(a0.Nums.length:Int)) then
 (idx a0.Nums s1.2.2).bind fun x5 =>
 (appO s1.1 [x5.At]).bind fun x6 =>
 (appO s1.2.1 [x5.Val]).bind fun x7 =>
 some (.inl (s1.1++[x5.At],s1.2.1++[x5.Val],w64 (s1.2.2+1)))
 else
 some (.inr (s1.1,s1.2.1)))) (([]:List Int),([]:List Int),0)).bind fun x2 =>
 some [a0.Def,a0.Acts.Base,a0.Acts.Val,a0.Acts.Chk,a0.GoDef,a0.Gos.Base,a0.Gos.Val,a0.Gos.Chk,a0.Left,a0.Len,x2.1,x2.2]
def pf32 :Option ((List ByteArray)) :=
 some [{ data:=#[121,121,68,101,102] },{ data:=#[121,121,65,99,116,66,97,115,101] },{ data:=#[121,121,65,99,116,86,97,108] },{ data:=#[121,121,65,99,116,67,104,107] },{ data:=#[121,121,71,111,68,101,102] },{ data:=#[121,121,71,111,66,97,115,101] },{ data:=#[121,121,71,111,86,97,108] },{ data:=#[121,121,71,111,67,104,107] },{ data:=#[121,121,76,101,102,116] },{ data:=#[121,121,76,101,110] },{ data:=#[121,121,78,117,109,65,116] },{ data:=#[121,121,78,117,109,86,97,108] }]
def pf16 (a0:Grammar) (a1:Tables) (a2:(List ByteArray)):Option (ByteArray) :=
 (itoO (a0.Pro.size:Int)).bind fun x1 =>
 (catO ({ data:=#[47,47,32,67,111,100,101,32,109,97,100,101,32,98,121,32,121,117,99,99,97,32] }) x1).bind fun x2 =>
 (catO x2 ({ data:=#[10] })).bind fun x3 =>
 (catO x3 a0.Pro).bind fun x4 =>
 (catO x4 ({ data:=#[10] })).bind fun x5 =>
 (bwO ({ data:=#[] }) x5).bind fun x6 =>
 (loopM (R:=ByteArray) (fun (s7:ByteArray × Int) =>
 (bif decide (s7.2<(a0.Toks.length:Int)) then
 ((idx a0.Toks s7.2).bind fun x12 =>
 ((bif decide (2<s7.2) then some (!x12.Lit) else some false)).bind fun c14 =>
 ((bif c14 then
 (catO ({ data:=#[99,111,110,115,116,32] }) x12.Name).bind fun x17 =>
 (catO x17 ({ data:=#[32,61,32] })).bind fun x18 =>
 (itoO x12.Num).bind fun x19 =>
 (catO x18 x19).bind fun x20 =>
 (catO x20 ({ data:=#[10] })).bind fun x21 =>
 (bwO s7.1 x21).bind fun x22 =>
 some x22
 else
 some s7.1)).bind fun j15 =>
 some j15).bind fun j11 =>
 some (.inl (j11,w64 (s7.2+1)))
 else
 some (.inr s7.1))) (x6,0)).bind fun x8 =>
 (pf31 a1).bind fun x23 =>
 (pf32 ).bind fun x24 =>
 (loopM (R:=ByteArray) (fun (s25:ByteArray × Int) =>
 (bif decide (s25.2<(x24.length:Int)) then
 (idx x24 s25.2).bind fun x29 =>
 (idx x23 s25.2).bind fun x30 =>
 (pf11 x29 x30).bind fun x31 =>
 (catO x31 ({ data:=#[10] })).bind fun x32 =>
 (bwO s25.1 x32).bind fun x33 =>
 some (.inl (x33,w64 (s25.2+1)))
 else
 some (.inr s25.1))) (x8,0)).bind fun x26 =>
 (bwO x26 ({ data:=#[102,117,110,99,32,121,121,65,99,116,105,111,110,40,112,32,105,110,116,44,32,121,121,68,111,108,108,97,114,32,91,93,121,121,83,121,109,84,121,112,101,44,32,121,121,86,65,76,32,121,121,83,121,109,84,121,112,101,41,32,121,121,83,121,109,84,121,112,101,32,123,10,9,115,119,105,116,99,104,32,112,32,123,10] })).bind fun x34 =>
 (loopM (R:=ByteArray) (fun (s35:ByteArray × Int) =>
 (bif decide (s35.2<(a2.length:Int)) then
 ((idx a2 s35.2).bind fun x40 =>
 ((bif !decide (x40={ data:=#[] }) then
 (itoO s35.2).bind fun x43 =>
 (catO ({ data:=#[9,99,97,115,101,32] }) x43).bind fun x44 =>
 (catO x44 ({ data:=#[58,10,9,9] })).bind fun x45 =>
 (catO x45 x40).bind fun x46 =>
 (catO x46 ({ data:=#[10] })).bind fun x47 =>
 (bwO s35.1 x47).bind fun x48 =>
 some x48
 else
 some s35.1)).bind fun j41 =>
 some j41).bind fun j39 =>
 some (.inl (j39,w64 (s35.2+1)))
 else
 some (.inr s35.1))) (x34,0)).bind fun x36 =>
 (catO ({ data:=#[9,125,10,9,114,101,116,117,114,110,32,121,121,86,65,76,10,125,10] }) a0.Tail).bind fun x49 =>
 (bwO x36 x49).bind fun x50 =>
 (bsO x50).bind fun x51 =>
 some x51
def pf8 :Option (Bool) :=
 (pf15 (⟨{ data:=#[112] },([]:List Decl),[(⟨{ data:=#[115] },[(⟨[(⟨(⟨{ data:=#[120] },true,0,0⟩:Sym),{ data:=#[] },0⟩:Part),(⟨(⟨{ data:=#[] },false,0,0⟩:Sym),{ data:=#[123,102,40,41,125] },0⟩:Part)],(⟨{ data:=#[] },false,0,0⟩:Sym),0⟩:Alt)],0⟩:Rule)],{ data:=#[116] }⟩:Source)).bind fun x1 =>
 (pf16 x1.1 x1.2.1 x1.2.2.1).bind fun x2 =>
 ((bif x1.2.2.2 then ((pf11 ({ data:=#[121,121,68,101,102] }) [(-1),2]).bind fun x4=>(bif decide (x4={ data:=#[118,97,114,32,121,121,68,101,102,32,61,32,91,93,105,110,116,123,45,49,44,32,50,125] }) then some (decide (x2={ data:=#[47,47,32,67,111,100,101,32,109,97,100,101,32,98,121,32,121,117,99,99,97,32,49,10,112,10,118,97,114,32,121,121,68,101,102,32,61,32,91,93,105,110,116,123,45,49,44,32,49,44,32,45,49,125,10,118,97,114,32,121,121,65,99,116,66,97,115,101,32,61,32,91,93,105,110,116,123,48,44,32,48,44,32,48,125,10,118,97,114,32,121,121,65,99,116,86,97,108,32,61,32,91,93,105,110,116,123,50,48,48,48,49,44,32,48,44,32,48,44,32,50,125,10,118,97,114,32,121,121,65,99,116,67,104,107,32,61,32,91,93,105,110,116,123,51,44,32,48,44,32,48,44,32,49,125,10,118,97,114,32,121,121,71,111,68,101,102,32,61,32,91,93,105,110,116,123,45,49,44,32,50,125,10,118,97,114,32,121,121,71,111,66,97,115,101,32,61,32,91,93,105,110,116,123,48,44,32,48,125,10,118,97,114,32,121,121,71,111,86,97,108,32,61,32,91,93,105,110,116,123,125,10,118,97,114,32,121,121,71,111,67,104,107,32,61,32,91,93,105,110,116,123,125,10,118,97,114,32,121,121,76,101,102,116,32,61,32,91,93,105,110,116,123,48,44,32,49,125,10,118,97,114,32,121,121,76,101,110,32,61,32,91,93,105,110,116,123,49,44,32,49,125,10,118,97,114,32,121,121,78,117,109,65,116,32,61,32,91,93,105,110,116,123,49,50,48,125,10,118,97,114,32,121,121,78,117,109,86,97,108,32,61,32,91,93,105,110,116,123,51,125,10,102,117,110,99,32,121,121,65,99,116,105,111,110,40,112,32,105,110,116,44,32,121,121,68,111,108,108,97,114,32,91,93,121,121,83,121,109,84,121,112,101,44,32,121,121,86,65,76,32,121,121,83,121,109,84,121,112,101,41,32,121,121,83,121,109,84,121,112,101,32,123,10,9,115,119,105,116,99,104,32,112,32,123,10,9,99,97,115,101,32,49,58,10,9,9,123,102,40,41,125,10,9,125,10,9,114,101,116,117,114,110,32,121,121,86,65,76,10,125,10,116] })) else some false)) else some false)).bind fun c6 =>
 some c6
def pf9 (a0:ByteArray) (a1:Int):Option (ByteArray) :=
 (bif decide (a1<(a0.size:Int)) then
 (cutO a0 0 a1).bind fun x2 =>
 some x2
 else
 some a0)
def pf10 (a0:(List Int)) (a1:Int):Option ((List Int)) :=
 (bif decide (a1<(a0.length:Int)) then
 (subO a0 0 a1).bind fun x2 =>
 some x2
 else
 some a0)
def pf12 (a0:ByteArray) (a1:(List Int)):Option (ByteArray) :=
 (catO ({ data:=#[118,97,114,32] }) a0).bind fun x1 =>
 (catO x1 ({ data:=#[32,61,32,91,93,105,110,116,123] })).bind fun x2 =>
 (loopM (R:=ByteArray) (fun (s3:ByteArray × Int) =>
 (bif decide (s3.2<(a1.length:Int)) then
 ((bif decide (0<s3.2) then
 (catO s3.1 ({ data:=#[44,32] })).bind fun x9 =>
 some x9
 else
 some s3.1)).bind fun j7 =>
 (idx a1 s3.2).bind fun x10 =>
 (pf18 x10).bind fun x11 =>
 (catO j7 x11).bind fun x12 =>
 some (.inl (x12,w64 (s3.2+1)))
 else
 some (.inr s3.1))) (x2,0)).bind fun x4 =>
 (catO x4 ({ data:=#[125] })).bind fun x13 =>
 some x13
def pf3 (a0:ByteArray) (a1:(List Int)):Option (Bool) :=
 (pf8 ).bind fun x1 =>
 (bif !x1 then
 some false
 else
 (pf9 a0 40).bind fun x3 =>
 (pf10 a1 100).bind fun x4 =>
 (pf11 x3 x4).bind fun x5 =>
 (pf12 x3 x4).bind fun x6 =>
 some (decide (x5=x6)))
def pf4 (a0:ByteArray) (a1:(List Int)) (a2:(List Int)):Option (Bool) :=
 (pf8 ).bind fun x1 =>
 (bif !x1 then
 some false
 else
 (pf9 a0 40).bind fun x3 =>
 (pf10 a1 60).bind fun x4 =>
 (pf10 a2 60).bind fun x5 =>
 (pf11 x3 x4).bind fun x6 =>
 (pf11 ({ data:=#[] }) x5).bind fun x7 =>
 ((bif decide ((x6.size:Int)=0) then some true else (bif decide ((x7.size:Int)<(({ data:=#[118,97,114,32,32,61,32,91,93,105,110,116,123] }:ByteArray).size:Int)) then some true else ((cutO x7 0 (({ data:=#[118,97,114,32,32,61,32,91,93,105,110,116,123] }:ByteArray).size:Int)).bind fun x10=>(bif !decide (x10={ data:=#[118,97,114,32,32,61,32,91,93,105,110,116,123] }) then some true else ((bidx x6 (w64 ((x6.size:Int) - 1))).bind fun x12=>some (!decide (x12=125)))))))).bind fun c13 =>
 (bif c13 then
 some false
 else
 ((bif decide ((x4.length:Int)=0) then some true else some (decide ((x5.length:Int)=0)))).bind fun c16 =>
 ((bif c16 then
 some ({ data:=#[] })
 else
 some ({ data:=#[44,32] }))).bind fun j17 =>
 (appO ([]:List Int) x4).bind fun x19 =>
 (appO (([]:List Int)++x4) x5).bind fun x20 =>
 (pf11 x3 (([]:List Int)++x4++x5)).bind fun x21 =>
 (cutO x6 0 (w64 ((x6.size:Int) - 1))).bind fun x22 =>
 (catO x22 j17).bind fun x23 =>
 (cutO x7 (({ data:=#[118,97,114,32,32,61,32,91,93,105,110,116,123] }:ByteArray).size:Int) x7.size).bind fun x24 =>
 (catO x23 x24).bind fun x25 =>
 some (decide (x21=x25))))
def eDecl_1:En Decl:=⟨4,fun x=>[I64 x.Kind,SS x.Tag,oR eSym x.Syms,I64 x.At],fun _=>rfl,fun _=>NRl.nr⟩
instance:Tw eDecl_1 eDecl_0:=⟨rfl,fun x=>(inferInstance:Vws [I64 x.Kind,SS x.Tag,oR eSym x.Syms,I64 x.At] [I64 x.Kind,SS x.Tag,iR eSym x.Syms,I64 x.At])⟩
instance {x:Decl}:Vws (eDecl_1.cells x) [I64 x.Kind,SS x.Tag,iR eSym x.Syms,I64 x.At]:=(inferInstance:Vws [I64 x.Kind,SS x.Tag,oR eSym x.Syms,I64 x.At] [I64 x.Kind,SS x.Tag,iR eSym x.Syms,I64 x.At])
structure yuccalaw0_Gr where
 Nons:Int
 Rules:(List (List Int))
 Levels:(List Int)
 Inner:(List Int)
 Bare:Bool
 deriving DecidableEq,Inhabited
def eyuccalaw0_Gr_0:En yuccalaw0_Gr:=⟨5,fun x=>[I64 x.Nons,iR (eM eI) x.Rules,iR eI x.Levels,iR eI x.Inner,BB x.Bare],fun _=>rfl,fun _=>NRl.nr⟩
instance:Flat eyuccalaw0_Gr_0:=⟨fun _=>rfl⟩
instance:Tw eyuccalaw0_Gr_0 eyuccalaw0_Gr_0:=⟨rfl,fun x=>(inferInstance:Vws [I64 x.Nons,iR (eM eI) x.Rules,iR eI x.Levels,iR eI x.Inner,BB x.Bare] [I64 x.Nons,iR (eM eI) x.Rules,iR eI x.Levels,iR eI x.Inner,BB x.Bare])⟩
instance {x:yuccalaw0_Gr}:Vws (eyuccalaw0_Gr_0.cells x) [I64 x.Nons,iR (eM eI) x.Rules,iR eI x.Levels,iR eI x.Inner,BB x.Bare]:=(inferInstance:Vws [I64 x.Nons,iR (eM eI) x.Rules,iR eI x.Levels,iR eI x.Inner,BB x.Bare] [I64 x.Nons,iR (eM eI) x.Rules,iR eI x.Levels,iR eI x.Inner,BB x.Bare])
def eRule_1:En Rule:=⟨3,fun x=>[SS x.Left,oR eAlt_0 x.Alts,I64 x.At],fun _=>rfl,fun _=>NRl.nr⟩
instance:Tw eRule_1 eRule_0:=⟨rfl,fun x=>(inferInstance:Vws [SS x.Left,oR eAlt_0 x.Alts,I64 x.At] [SS x.Left,iR eAlt_0 x.Alts,I64 x.At])⟩
instance {x:Rule}:Vws (eRule_1.cells x) [SS x.Left,iR eAlt_0 x.Alts,I64 x.At]:=(inferInstance:Vws [SS x.Left,oR eAlt_0 x.Alts,I64 x.At] [SS x.Left,iR eAlt_0 x.Alts,I64 x.At])
theorem wk8:pf8=some true:=by kernel_rfl
end Go.Proofs
namespace Go.Own
open Go
variable {α β S R:Type}
abbrev LR (p:S->Prop) (q:R->Prop) (x:S ⊕ R):Prop:=Sum.elim p q x
def Tot (x:Option α) (Φ:α->Prop):Prop:=∃ a,x=some a/\Φ a
namespace Tot
variable {Φ Ψ:α->Prop}
theorem so {a:α}(h:Φ a):Tot (some a) Φ:=⟨a,rfl,h⟩
theorem bi {x:Option β}{f:β->Option α}(h:Tot x fun a=>Tot (f a) Φ):Tot (x.bind f) Φ:=by
 obtain ⟨a,rfl,b,hb,hΦ⟩:=h
 exact ⟨b,hb,hΦ⟩
theorem sm {f:β->Option α}{a:β}(h:Tot (f a) Φ):Tot ((some a).bind f) Φ:=h
theorem use {x:Option α}(h:Tot x Ψ) (hi:∀ a,Ψ a->Φ a):Tot x Φ:=by
 obtain ⟨a,ha,hΨ⟩:=h
 exact ⟨a,ha,hi a hΨ⟩
theorem by' {x:Option β}{f:β->Option α}{Ξ:β->Prop}(h:Tot x Ξ) (hk:∀ a,Ξ a->Tot (f a) Φ):Tot (x.bind f) Φ:=bi (h.use hk)
theorem cd {c:Bool}{a b:Option α}(ht:c=true->Tot a Φ) (hf:c=false->Tot b Φ):Tot (cond c a b) Φ:=by
 cases c
 ·exact hf rfl
 ·exact ht rfl
theorem cp {p:Prop} [Decidable p] {a b:Option α}(ht:p->Tot a Φ) (hf:¬ p->Tot b Φ):Tot (cond (decide p) a b) Φ :=
 cd (fun h=>ht (of_decide_eq_true h)) (fun h=>hf (of_decide_eq_false h))
theorem ap {Φ:List α->Prop}{l m:List α}(h:l.length+m.length<=lim) (hk:Φ (l++m)):Tot (appO l m) Φ:=by
 refine ⟨l++m,?_,hk⟩
 unfold appO
 rw [if_pos h]
theorem loop {f:S->Option (S ⊕ R)}{s0:S}{Ψ:R->Prop}(Inv:S->Prop) (μ:S->Nat) (h0:Inv s0) (hμ:μ s0<fuel)
  (hs:∀ s,Inv s->Tot (f s) (LR (fun s'=>Inv s'/\μ s'<μ s) Ψ)):Tot (loopM f s0) Ψ:=by
 have key:∀ n s,Inv s->μ s<n->Tot (iter f n s) Ψ:=by
  intro n
  induction n with
  | zero=>intro s _ h; omega
  | succ n ih =>
   intro s hI hm
   obtain ⟨x,hx,hP⟩:=hs s hI
   cases x with
   | inl s' =>
    obtain ⟨h1,h2⟩:=hP
    simp only [iter,hx]
    exact ih s' h1 (by omega)
   | inr r =>
    simp only [iter,hx]
    exact ⟨r,rfl,hP⟩
 exact key fuel s0 h0 hμ
theorem count {f:S->Option (S ⊕ R)}{s0:S}{Ψ:R->Prop}(i:S->Int) (n:Int) (Inv:S->Prop) (h0:Inv s0) (hn:n - i s0<1000000000000000000)
  (hs:∀ s,Inv s->Tot (f s) (LR (fun s'=>Inv s'/\i s<i s'/\i s'<=n) Ψ)):Tot (loopM f s0) Ψ:=by
 refine loop Inv (fun s=>(n - i s).toNat) h0 (by show (n - i s0).toNat<1000000000000000000; omega) fun s hI=>(hs s hI).use fun x hx=>?_
 cases x with
 | inl s'=>exact ⟨hx.1,by have:=hx.2; show (n - i s').toNat<(n - i s).toNat; omega⟩
 | inr r=>exact hx
end Tot
theorem w64_id {n:Int}(h0:-9223372036854775808<=n) (h1:n<=9223372036854775807):w64 n=n:=by
 show IntKind.i64.wrap n=n
 rw [IntKind.wrap_i64]; omega
namespace Tot
theorem cat {Φ:ByteArray->Prop}{s u:ByteArray}(h:s.size+u.size<=4611686018427387904) (hk:Φ (s++u)):Tot (catO s u) Φ:=by
 refine ⟨s++u,?_,hk⟩
 unfold catO
 rw [if_pos h]
theorem cut {Φ:ByteArray->Prop}{s:ByteArray}{m n:Int}(h:0<=m/\m<=n/\n<=s.size) (hk:Φ (cutS s m n)):Tot (cutO s m n) Φ:=by
 refine ⟨_,?_,hk⟩
 unfold cutO
 rw [if_pos h]
theorem sub {Φ:List α->Prop}{l:List α}{m n:Int}(h:0<=m/\m<=n/\n<=l.length) (hk:Φ ((l.drop m.toNat).take (n - m).toNat)):Tot (subO l m n) Φ:=by
 refine ⟨_,?_,hk⟩
 unfold subO
 rw [if_pos h]
theorem rem {Φ:Int->Prop}{m n:Int}(h:n≠0) (hk:Φ (m.tmod n)):Tot (remO m n) Φ:=by
 refine ⟨_,?_,hk⟩
 unfold remO
 rw [if_neg h]
theorem quo {Φ:Int->Prop}{m n:Int}(h:n≠0) (hk:Φ (w64 (m.tdiv n))):Tot (quoO m n) Φ:=by
 refine ⟨_,?_,hk⟩
 unfold quoO
 rw [if_neg h]
theorem remU {Φ:Int->Prop}{m n:Int}(h:n≠0) (hk:Φ (m.tmod n)):Tot (Own.remU m n) Φ:=by
 refine ⟨_,?_,hk⟩
 unfold Own.remU
 rw [if_neg h]
theorem quoU {Φ:Int->Prop}{m n:Int}(h:n≠0) (hk:Φ (IntKind.u64.wrap (m.tdiv n))):Tot (Own.quoU m n) Φ:=by
 refine ⟨_,?_,hk⟩
 unfold Own.quoU
 rw [if_neg h]
theorem mk {Φ:List α->Prop}{m:Int}{z:α}(h:0<=m/\m<=lim) (hk:Φ (List.replicate m.toNat z)):Tot (mkO m z) Φ:=by
 refine ⟨_,?_,hk⟩
 unfold mkO
 rw [if_pos h]
theorem ex {x:Option α}{Φ:α->Prop}(h:Tot x Φ):∃ a,x=some a/\Φ a:=h
end Tot
namespace Tot
end Tot
end Go.Own
namespace Go.Proofs
open Go Go.Own Go.Lib
set_option linter.unusedVariables false
theorem baExt {a b:ByteArray}(h:a.data.toList=b.data.toList):a=b:=by
 cases a; cases b; congr; exact Array.ext' h
theorem baApp (a b:ByteArray):(a++b).data.toList=a.data.toList++b.data.toList:=by rw [ByteArray.data_append,Array.toList_append]
theorem baSize (a:ByteArray):a.size=a.data.toList.length:=(Array.length_toList ..).symm
theorem ba0 {a:ByteArray}(h:a.size=0):a={ data:=#[] }:=baExt (List.eq_nil_of_length_eq_zero (by rw [<- baSize,h]))
theorem baS (a b:ByteArray):(a++b).size=a.size+b.size:=ByteArray.size_append
theorem ndig (u:Nat):1<=(decDigits u).length:=by rw [decDigits_length]; exact nDigits_pos u
theorem ndig20 {u:Nat}(h:u<18446744073709551616):(decDigits u).length<=20:=by
 rw [decDigits_length]
 rcases Nat.eq_zero_or_pos u with rfl | h1
 ·rw [nDigits_small (by omega)]; omega
 ·have:=numDigits_eq u h1 h
  split at this <;> omega
theorem digU (u:Nat) (hu:u<18446744073709551616) (f:Int × ByteArray->Option ((Int × ByteArray) ⊕ ByteArray))
  (hf:f=fun (s3:Int × ByteArray) =>
((bif decide (0<s3.1) then some true else some (decide (s3.2={ data:=#[] })))).bind fun c7 =>
(bif c7 then
(remU s3.1 10).bind fun x9 =>
(catO (strOfNums [w8 (IntKind.u64.wrap (48+x9))]) s3.2).bind fun x10 =>
(quoU s3.1 10).bind fun x11 =>
some (.inl (x11,x10))
else
some (.inr s3.2))):loopM (R:=ByteArray) f ((u:Int),{ data:=#[] })=some ⟨(decDigits u).toArray⟩:=by
 suffices h:Tot (loopM (R:=ByteArray) f ((u:Int),{ data:=#[] })) fun r=>r=⟨(decDigits u).toArray⟩ by
  obtain ⟨r,hr,e⟩:=h; rw [hr,e]
 refine Tot.loop (fun s=>∃ m:Nat,s.1=m/\m<18446744073709551616/\((s.2.size=0/\m=u)\/(0<s.2.size/\(if m=0 then [] else decDigits m)++s.2.data.toList=decDigits u)))
  (fun s=>if s.1=0 then (if s.2.size=0 then 1 else 0) else (decDigits s.1.toNat).length+1) ⟨u,rfl,hu,.inl ⟨rfl,rfl⟩⟩ ?_ ?_
 ·show (if (u:Int)=0 then _ else _)<1000000000000000000
  have:=ndig20 hu
  split
  ·split <;> omega
  ·simp only [Int.toNat_natCast]; omega
 ·rintro ⟨x,s⟩ ⟨m,hx,hm,hs⟩
  simp only at hx hs
  subst hx
  rw [hf]
  by_cases hgo:0<m\/s.size=0
  ·have hc:(bif decide (0<((m:Int),s).1) then some true else some (decide (((m:Int),s).2={ data:=#[] })))=some true:=by
    simp only
    by_cases h0:0<(m:Int)
    ·rw [decide_eq_true h0]; rfl
    ·rw [decide_eq_false h0]
     show some (decide (s={ data:=#[] }))=some true
     rw [decide_eq_true (ba0 (by omega))]
   simp only [hc,Option.bind_some,cond_true]
   have hmod:(m:Int).tmod 10=((m % 10:Nat):Int):=by
    rw [Int.tmod_eq_emod_of_nonneg (by omega)]; omega
   have hdiv:IntKind.u64.wrap ((m:Int).tdiv 10)=((m / 10:Nat):Int):=by
    rw [Int.tdiv_eq_ediv_of_nonneg (by omega),IntKind.wrap_u64]; omega
   have hdig:w8 (IntKind.u64.wrap (48+(m:Int).tmod 10))=((48+m % 10:Nat):Int):=by
    show IntKind.u8.wrap _=_
    rw [hmod,IntKind.wrap_u64,IntKind.wrap_u8]; omega
   have hone:(strOfNums [((48+m % 10:Nat):Int)]).data.toList=[UInt8.ofNat (48+m % 10)]:=rfl
   have hsz:(strOfNums [((48+m % 10:Nat):Int)]).size=1:=strOfNums_size _
   -- what is there behind the step
   have hD:(if m / 10=0 then [] else decDigits (m / 10))++(UInt8.ofNat (48+m % 10)::s.data.toList)=decDigits u:=by
    have hh:(if m / 10=0 then [] else decDigits (m / 10))++[UInt8.ofNat (48+m % 10)]=decDigits m:=by
     by_cases h10:m<10
     ·rw [if_pos (by omega),decDigits,dif_pos h10,Nat.mod_eq_of_lt h10]; rfl
     ·rw [if_neg (by omega)]
      conv=>rhs; rw [decDigits,dif_neg h10]
    rw [show UInt8.ofNat (48+m % 10)::s.data.toList=[UInt8.ofNat (48+m % 10)]++s.data.toList from rfl,<- List.append_assoc,hh]
    rcases hs with ⟨h0,rfl⟩ | ⟨h0,h1⟩
    ·rw [List.eq_nil_of_length_eq_zero (l:=s.data.toList) (by rw [<- baSize]; exact h0),List.append_nil]
    ·rw [if_neg (by omega)] at h1; exact h1
   have hs20:s.size+1<=20:=by
    have h1:=congrArg List.length hD
    have h2:=ndig20 hu
    rw [List.length_append,List.length_cons,<- baSize] at h1
    omega
   refine .bi (.remU (by omega) (.bi ?_))
   rw [hdig]
   refine .cat (by rw [hsz]; omega) (.bi (.quoU (by omega) (.so ?_)))
   rw [hdiv]
   refine ⟨⟨m / 10,rfl,by omega,.inr ⟨by rw [baS,hsz]; omega,?_⟩⟩,?_⟩
   ·show _++(strOfNums [((48+m % 10:Nat):Int)]++s).data.toList=_
    rw [baApp,hone]; exact hD
   ·show (if ((m / 10:Nat):Int)=0 then (if (strOfNums [((48+m % 10:Nat):Int)]++s).size=0 then 1 else 0) else (decDigits ((m / 10:Nat):Int).toNat).length+1)<(if (m:Int)=0 then (if s.size=0 then 1 else 0) else (decDigits (m:Int).toNat).length+1)
    rw [baS,hsz]
    simp only [Int.toNat_natCast]
    by_cases h0:m=0
    ·have:s.size=0:=by omega
     subst h0
     simp [this]
    ·have hm0:¬ (m:Int)=0:=by omega
     rw [if_neg hm0]
     by_cases h10:m<10
     ·rw [if_pos (show ((m / 10:Nat):Int)=0 by omega),if_neg (by omega)]
      have:=ndig m; omega
     ·rw [if_neg (show ¬ ((m / 10:Nat):Int)=0 by omega)]
      have:decDigits m=decDigits (m / 10)++[UInt8.ofNat (48+m % 10)]:=by conv=>lhs; rw [decDigits,dif_neg h10]
      rw [this,List.length_append]; simp
  ·have h0:m=0:=by omega
   subst h0
   have hs0:0<s.size:=by omega
   have hne:¬ s={ data:=#[] }:=fun e=>by rw [e] at hs0; exact absurd hs0 (by decide)
   simp only [Int.natCast_zero,Int.lt_irrefl,decide_false,cond_false,Option.bind_some,decide_eq_false hne]
   refine .so ?_
   rcases hs with ⟨h,_⟩ | ⟨_,h⟩
   ·omega
   ·rw [if_pos rfl] at h
    exact baExt h
theorem c18 (n:Int) (h:-9223372036854775808<=n/\n<=9223372036854775807):pf18 n=some ⟨(itoB n).toArray⟩:=by
 rw [itoB_eq h]
 unfold pf18 Lib.itoa
 by_cases h0:n<0
 ·have e:IntKind.u64.wrap (-(IntKind.u64.wrap n))=((n.natAbs:Nat):Int):=by
   rw [IntKind.wrap_u64,IntKind.wrap_u64]; omega
  simp only [decide_eq_true h0,cond_true,Option.bind_some,e,if_pos h0]
  rw [digU n.natAbs (by omega) _ rfl,Option.bind_some]
  have hsz:({ data:=(decDigits n.natAbs).toArray }:ByteArray).size<=20:=by rw [baSize]; exact ndig20 (by omega)
  have:catO ⟨#[45]⟩ ⟨(decDigits n.natAbs).toArray⟩=some ⟨(45::decDigits n.natAbs).toArray⟩:=by
   unfold catO
   rw [if_pos (by have:({ data:=#[45] }:ByteArray).size=1:=rfl; omega)]
   rfl
  rw [this]; rfl
 ·have e:IntKind.u64.wrap n=((n.toNat:Nat):Int):=by rw [IntKind.wrap_u64]; omega
  simp only [decide_eq_false h0,cond_false,Option.bind_some,e,if_neg h0]
  rw [digU n.toNat (by omega) _ rfl]; rfl
theorem itoBl (n:Int) (h:-9223372036854775808<=n/\n<=9223372036854775807):(itoB n).length<=21:=by
 rw [itoB_eq h]
 unfold Lib.itoa
 split
 ·have:=ndig20 (u:=n.natAbs) (by omega); simp only [List.length_cons]; omega
 ·have:=ndig20 (u:=n.toNat) (by omega); omega
theorem cIto (n:Int) (h:-9223372036854775808<=n/\n<=9223372036854775807):itoO n=some ⟨(itoB n).toArray⟩:=by unfold itoO; rw [if_pos h]
def i64 (n:Int):Prop:=-9223372036854775808<=n/\n<=9223372036854775807
def jn:Nat->List Int->List UInt8
 | _,[]=>[]
 | k,x::l=>(if 0<k then [44,32] else [])++(itoB x++jn (k+1) l)
def lHead:List UInt8:=[118,97,114,32]
def lMid:List UInt8:=[32,61,32,91,93,105,110,116,123]
def lineB (name:ByteArray) (l:List Int):List UInt8:=lHead++name.data.toList++lMid++jn 0 l++[125]
theorem jnL:∀ (l:List Int) (k:Nat),(∀ x∈l,i64 x)->(jn k l).length<=23 * l.length
 | [],k,_=>by simp [jn]
 | x::l,k,h=>by
  have h1:=itoBl x (h x (by simp))
  have h2:=jnL l (k+1) fun y hy=>h y (by simp [hy])
  simp only [jn,List.length_append,List.length_cons]
  split <;> simp <;> omega
theorem jnS (l:List Int):∀ k:Nat,0<k->jn k l=jn 1 l:=by
 induction l with
 | nil=>intro k _; rfl
 | cons x l ih =>
  intro k hk
  simp only [jn]
  rw [ih (k+1) (by omega),ih (1+1) (by omega),if_pos hk,if_pos (by omega)]
theorem jnApp (a b:List Int):∀ k:Nat,jn k (a++b)=jn k a++jn (k+a.length) b:=by
 induction a with
 | nil=>intro k; simp [jn]
 | cons x a ih =>
  intro k
  simp only [List.cons_append,jn,ih (k+1),List.length_cons]
  rw [show k+1+a.length=k+(a.length+1) by omega]
  simp
theorem bwOk {x s:ByteArray}(h:x.size+s.size<=140737488355328):bwO x s=some (x++s):=by unfold bwO; rw [if_pos h]
theorem _root_.Go.Own.Tot.bw {Φ:ByteArray->Prop}{s u:ByteArray}(h:s.size+u.size<=140737488355328) (hk:Φ (s++u)):Tot (bwO s u) Φ:=⟨_,bwOk h,hk⟩
theorem lit4:({ data:=#[118,97,114,32] }:ByteArray).size=4:=rfl
theorem lit9:({ data:=#[32,61,32,91,93,105,110,116,123] }:ByteArray).size=9:=rfl
theorem lit2:({ data:=#[44,32] }:ByteArray).size=2:=rfl
theorem lit1:({ data:=#[125] }:ByteArray).size=1:=rfl
theorem idxG {α:Type}{l:List α}{i:Nat}(h:i<l.length):idx l (i:Int)=some l[i]:=by
 simp [idx,h]
theorem dropG {l:List Int}{i:Nat}(h:i<l.length):l.drop i=l[i]::l.drop (i+1):=(List.getElem_cons_drop h).symm
theorem itSz {n:Int}(h:i64 n):({ data:=(itoB n).toArray }:ByteArray).size<=21:=by rw [baSize]; exact itoBl n h
theorem c11 (name:ByteArray) (l:List Int) (hn:name.size<=1000000000) (hl:l.length<=1000000000) (hr:∀ x∈l,i64 x):pf11 name l=some ⟨(lineB name l).toArray⟩:=by
 suffices h:Tot (pf11 name l) fun r=>r.data.toList=lineB name l by
  obtain ⟨r,hr,e⟩:=h; rw [hr]; exact congrArg some (baExt e)
 unfold pf11
 refine .bi (.cat (by rw [lit4]; omega) (.bi (.cat (by rw [baS,lit4,lit9]; omega) (.bi (.bw (by simp only [baS,lit4,lit9]; have:({ data:=#[] }:ByteArray).size=0:=rfl; omega) ?_)))))
 have hbase:(({ data:=#[] }:ByteArray)++(({ data:=#[118,97,114,32] }:ByteArray)++name++{ data:=#[32,61,32,91,93,105,110,116,123] })).data.toList=lHead++name.data.toList++lMid:=by
  rw [baApp,baApp,baApp]; rfl
 refine .by' (Ξ:=fun r=>r.data.toList=lHead++name.data.toList++lMid++jn 0 l/\r.size<=13+name.size+23 * l.length) (Tot.count (fun s=>s.2) l.length
  (fun s=>∃ i:Nat,s.2=i/\i<=l.length/\s.1.data.toList++jn i (l.drop i)=lHead++name.data.toList++lMid++jn 0 l/\s.1.size<=13+name.size+23 * i) ⟨0,rfl,by omega,by rw [hbase]; rfl,by rw [baSize,hbase,List.length_append,List.length_append,<- baSize]; show 4+name.size+9<=_; omega⟩ (by simp only; omega) ?_) ?_
 ·rintro ⟨s,x⟩ ⟨i,hx,hi,he,hz⟩
  simp only at hx he hz
  subst hx
  refine Tot.cp (fun hlt=>?_) (fun hge=>.so ⟨by
   have:i=l.length:=by omega
   subst this
   rw [List.drop_length] at he
   simpa [jn] using he,by
    have:i=l.length:=by omega
    subst this
    exact hz⟩)
  have hlt':i<l.length:=by simpa using hlt
  simp only [idxG hlt',Option.bind_some]
  have hb:=hr l[i] (List.getElem_mem hlt')
  rw [dropG hlt'] at he
  have fin:∀ j:ByteArray,j.data.toList=s.data.toList++(if 0<i then [44,32] else [])->j.size<=s.size+2->Tot ((itoO l[i]).bind fun x12=>(bwO j x12).bind fun x13=>some (.inl (x13,w64 ((i:Int)+1))))
    (LR (fun (s':ByteArray × Int)=>(∃ i':Nat,s'.2=i'/\i'<=l.length/\s'.1.data.toList++jn i' (l.drop i')=lHead++name.data.toList++lMid++jn 0 l/\s'.1.size<=13+name.size+23 * i')/\(i:Int)<s'.2/\s'.2<=l.length) fun (r:ByteArray)=>r.data.toList=lHead++name.data.toList++lMid++jn 0 l/\r.size<=13+name.size+23 * l.length):=by
   intro j hj hjz
   rw [cIto _ hb,Option.bind_some]
   have h21:=itSz hb
   refine .bi (.bw (by omega) (.so ?_))
   have hw:w64 ((i:Int)+1)=((i+1:Nat):Int):=by rw [w64_id (by omega) (by omega)]; omega
   refine ⟨⟨i+1,hw,by omega,?_,by rw [baS]; omega⟩,by rw [hw]; omega,by rw [hw]; omega⟩
   show (j++{ data:=(itoB l[i]).toArray }).data.toList++_=_
   rw [baApp,hj,<- he]
   simp [jn]
  by_cases h0:0<i
  ·simp only [decide_eq_true (show (0:Int)<(i:Int) by omega),cond_true]
   refine .bi (.bi (.bw (by rw [lit2]; omega) (.so ?_)))
   exact fin _ (by rw [baApp,if_pos h0]) (by rw [baS,lit2]; omega)
  ·simp only [decide_eq_false (show ¬ (0:Int)<(i:Int) by omega),cond_false,Option.bind_some]
   exact fin s (by rw [if_neg h0,List.append_nil]) (by omega)
 ·rintro r ⟨hr1,hr2⟩
  refine .bi (.bw (by rw [lit1]; omega) (.bi ?_))
  have hne:(r++({ data:=#[125] }:ByteArray)).size≠0:=by rw [baS,lit1]; omega
  refine ⟨_,by unfold bsO; rw [if_neg hne],.so ?_⟩
  rw [baApp,hr1]; rfl
theorem c12 (name:ByteArray) (l:List Int) (hn:name.size<=1000000000) (hl:l.length<=1000000000) (hr:∀ x∈l,i64 x):pf12 name l=some ⟨(lineB name l).toArray⟩:=by
 suffices h:Tot (pf12 name l) fun r=>r.data.toList=lineB name l by
  obtain ⟨r,hr,e⟩:=h; rw [hr]; exact congrArg some (baExt e)
 unfold pf12
 refine .bi (.cat (by rw [lit4]; omega) (.bi (.cat (by rw [baS,lit4,lit9]; omega) ?_)))
 have hbase:((({ data:=#[118,97,114,32] }:ByteArray)++name++{ data:=#[32,61,32,91,93,105,110,116,123] })).data.toList=lHead++name.data.toList++lMid:=by
  rw [baApp,baApp]; rfl
 refine .by' (Ξ:=fun r=>r.data.toList=lHead++name.data.toList++lMid++jn 0 l/\r.size<=13+name.size+23 * l.length) (Tot.count (fun s=>s.2) l.length
  (fun s=>∃ i:Nat,s.2=i/\i<=l.length/\s.1.data.toList++jn i (l.drop i)=lHead++name.data.toList++lMid++jn 0 l/\s.1.size<=13+name.size+23 * i) ⟨0,rfl,by omega,by rw [hbase]; rfl,by rw [baSize,hbase,List.length_append,List.length_append,<- baSize]; show 4+name.size+9<=_; omega⟩ (by simp only; omega) ?_) ?_
 ·rintro ⟨s,x⟩ ⟨i,hx,hi,he,hz⟩
  simp only at hx he hz
  subst hx
  refine Tot.cp (fun hlt=>?_) (fun hge=>.so ⟨by
   have:i=l.length:=by omega
   subst this
   rw [List.drop_length] at he
   simpa [jn] using he,by
    have:i=l.length:=by omega
    subst this
    exact hz⟩)
  have hlt':i<l.length:=by simpa using hlt
  have hb:=hr l[i] (List.getElem_mem hlt')
  rw [dropG hlt'] at he
  have fin:∀ j:ByteArray,j.data.toList=s.data.toList++(if 0<i then [44,32] else [])->j.size<=s.size+2->Tot ((idx l (i:Int)).bind fun x10=>(pf18 x10).bind fun x11=>(catO j x11).bind fun x12=>some (.inl (x12,w64 ((i:Int)+1))))
    (LR (fun (s':ByteArray × Int)=>(∃ i':Nat,s'.2=i'/\i'<=l.length/\s'.1.data.toList++jn i' (l.drop i')=lHead++name.data.toList++lMid++jn 0 l/\s'.1.size<=13+name.size+23 * i')/\(i:Int)<s'.2/\s'.2<=l.length) fun (r:ByteArray)=>r.data.toList=lHead++name.data.toList++lMid++jn 0 l/\r.size<=13+name.size+23 * l.length):=by
   intro j hj hjz
   rw [idxG hlt',Option.bind_some,c18 _ hb,Option.bind_some]
   have h21:=itSz hb
   refine .bi (.cat (by omega) (.so ?_))
   have hw:w64 ((i:Int)+1)=((i+1:Nat):Int):=by rw [w64_id (by omega) (by omega)]; omega
   refine ⟨⟨i+1,hw,by omega,?_,by rw [baS]; omega⟩,by rw [hw]; omega,by rw [hw]; omega⟩
   show (j++{ data:=(itoB l[i]).toArray }).data.toList++_=_
   rw [baApp,hj,<- he]
   simp [jn]
  by_cases h0:0<i
  ·simp only [decide_eq_true (show (0:Int)<(i:Int) by omega),cond_true]
   refine .bi (.bi (.cat (by rw [lit2]; omega) (.so ?_)))
   exact fin _ (by rw [baApp,if_pos h0]) (by rw [baS,lit2]; omega)
  ·simp only [decide_eq_false (show ¬ (0:Int)<(i:Int) by omega),cond_false,Option.bind_some]
   exact fin s (by rw [if_neg h0,List.append_nil]) (by omega)
 ·rintro r ⟨hr1,hr2⟩
  refine .bi (.cat (by rw [lit1]; omega) (.so ?_))
  rw [baApp,hr1]; rfl
theorem cutSz (s:ByteArray) (m n:Int) (h:0<=m/\m<=n/\n<=s.size):(cutS s m n).size=(n - m).toNat:=by
 unfold cutS
 simp [ByteArray.size_extract]
 omega
theorem c9 (s:ByteArray) (n:Int) (hn:0<=n):Tot (pf9 s n) fun r=>(r.size:Int)<=n:=by
 unfold pf9
 refine Tot.cp (fun h=>.bi (.cut ⟨by omega,by omega,by omega⟩ (.so ?_))) (fun h=>.so (by omega))
 rw [cutSz _ _ _ ⟨by omega,by omega,by omega⟩]; omega
theorem c10 (l:List Int) (n:Int) (hn:0<=n):Tot (pf10 l n) fun r=>(r.length:Int)<=n/\∀ x∈r,x∈l:=by
 unfold pf10
 refine Tot.cp (fun h=>.bi (.sub ⟨by omega,by omega,by omega⟩ (.so ?_))) (fun h=>.so ⟨by omega,fun _ h=>h⟩)
 refine ⟨by simp; omega,fun x hx=>?_⟩
 exact List.mem_of_mem_drop (List.mem_of_mem_take hx)
theorem t3 (a0:ByteArray) (a1:List Int) (hr:∀ x∈a1,i64 x):pf3 a0 a1=some true:=by
 suffices h:Tot (pf3 a0 a1) fun r=>r=true by
  obtain ⟨r,hr,e⟩:=h; rw [hr,e]
 unfold pf3
 rw [wk8]
 refine Tot.sm (.by' (c9 a0 40 (by omega)) fun n hn=>.by' (c10 a1 100 (by omega)) fun l hl=>?_)
 have h1:=c11 n l (by omega) (by omega) fun x hx=>hr x (hl.2 x hx)
 have h2:=c12 n l (by omega) (by omega) fun x hx=>hr x (hl.2 x hx)
 rw [h1,h2]
 exact Tot.sm (Tot.sm (.so (decide_eq_true rfl)))
theorem cutD (s:ByteArray) (m n:Int):(cutS s m n).data.toList=(s.data.toList.drop m.toNat).take (n.toNat - m.toNat):=by
 unfold cutS
 rw [ByteArray.data_extract,Array.toList_extract]
theorem cutEq {s:ByteArray}{m n:Int}{l:List UInt8}(h:0<=m/\m<=n/\n<=s.size) (hl:(s.data.toList.drop m.toNat).take (n.toNat - m.toNat)=l):cutO s m n=some ⟨l.toArray⟩:=by
 unfold cutO
 rw [if_pos h]
 exact congrArg some (baExt (by rw [cutD,hl]))
def lH:List UInt8:=[118,97,114,32,32,61,32,91,93,105,110,116,123]
theorem lineE (name:ByteArray) (l:List Int):lineB name l=(lHead++name.data.toList++lMid++jn 0 l)++[125]:=rfl
theorem line0 (l:List Int):lineB { data:=#[] } l=lH++(jn 0 l++[125]):=rfl
theorem byteD (s:ByteArray) (m:Int) (h:m.toNat<s.size):byteAt s m=((s.data.toList[m.toNat]'(by rw [<- baSize]; exact h)).toNat:Int):=by
 unfold byteAt
 rw [getElem?_pos s m.toNat h]
 rfl
theorem t4 (a0:ByteArray) (a1 a2:List Int) (hr1:∀ x∈a1,i64 x) (hr2:∀ x∈a2,i64 x):pf4 a0 a1 a2=some true:=by
 suffices h:Tot (pf4 a0 a1 a2) fun r=>r=true by
  obtain ⟨r,hr,e⟩:=h; rw [hr,e]
 unfold pf4
 rw [wk8]
 refine Tot.sm (.by' (c9 a0 40 (by omega)) fun n hn=>.by' (c10 a1 60 (by omega)) fun a ha=>.by' (c10 a2 60 (by omega)) fun b hb=>?_)
 have ra:∀ x∈a,i64 x:=fun x hx=>hr1 x (ha.2 x hx)
 have rb:∀ x∈b,i64 x:=fun x hx=>hr2 x (hb.2 x hx)
 have hA:=c11 n a (by omega) (by omega) ra
 have hB:=c11 { data:=#[] } b (by decide) (by omega) rb
 have hC:=c11 n (([]:List Int)++a++b) (by omega) (by simp; omega) (by simp; exact fun x hx=>hx.elim (ra x) (rb x))
 rw [hA,hB]
 have za:(⟨(lineB n a).toArray⟩:ByteArray).size=(lHead++n.data.toList++lMid++jn 0 a).length+1:=by rw [baSize,lineE,List.length_append]; rfl
 have zb:(⟨(lineB { data:=#[] } b).toArray⟩:ByteArray).size=13+(jn 0 b).length+1:=by rw [baSize,line0]; simp [lH]; omega
 have zl:((lHead++n.data.toList++lMid++jn 0 a).length:Int)<10000:=by
  have:=jnL a 0 ra
  simp only [List.length_append,<- baSize]
  have h1:lHead.length=4:=rfl
  have h2:lMid.length=9:=rfl
  omega
 have zl2:(jn 0 b).length<10000:=by have:=jnL b 0 rb; omega
 have z13:(({ data:=#[118,97,114,32,32,61,32,91,93,105,110,116,123] }:ByteArray).size:Int)=13:=rfl
 generalize hX:(⟨(lineB n a).toArray⟩:ByteArray)=x6 at *
 generalize hY:(⟨(lineB { data:=#[] } b).toArray⟩:ByteArray)=x7 at *
 have dX:x6.data.toList=(lHead++n.data.toList++lMid++jn 0 a)++[125]:=by rw [<- hX]; exact lineE n a
 have dY:x7.data.toList=lH++(jn 0 b++[125]):=by rw [<- hY]; exact line0 b
 rw [Option.bind_some,Option.bind_some]
 have hw:w64 ((x6.size:Int) - 1)=(x6.size:Int) - 1:=w64_id (by omega) (by omega)
 have hcut1:cutO x7 0 (({ data:=#[118,97,114,32,32,61,32,91,93,105,110,116,123] }:ByteArray).size:Int)=some { data:=#[118,97,114,32,32,61,32,91,93,105,110,116,123] }:=by
  rw [z13]
  refine (cutEq (l:=lH) ⟨by omega,by omega,by omega⟩ ?_).trans rfl
  rw [dY]; rfl
 have hbx:bidx x6 (w64 ((x6.size:Int) - 1))=some 125:=by
  rw [hw]
  unfold bidx
  rw [if_pos ⟨by omega,by omega⟩,byteD _ _ (by omega)]
  have:x6.data.toList[((x6.size:Int) - 1).toNat]?=some 125:=by
   rw [dX,show ((x6.size:Int) - 1).toNat=(lHead++n.data.toList++lMid++jn 0 a).length by omega,List.getElem?_append_right (Nat.le_refl _)]
   simp
  rw [List.getElem?_eq_getElem (by rw [<- baSize]; omega)] at this
  rw [Option.some.inj this]; rfl
 simp only [decide_eq_false (show ¬ (x6.size:Int)=0 by omega),cond_false,z13,decide_eq_false (show ¬ (x7.size:Int)<13 by omega)]
 rw [z13] at hcut1
 rw [hcut1]
 simp only [Option.bind_some,decide_true,Bool.not_true,cond_false,hbx]
 have hap1:appO ([]:List Int) a=some ([]++a):=by unfold appO; rw [if_pos (by rw [List.length_nil,Nat.zero_add]; exact Nat.le_trans (m:=60) (by omega) (by decide))]
 have hap2:appO (([]:List Int)++a) b=some ([]++a++b):=by unfold appO; rw [if_pos (by rw [List.nil_append]; exact Nat.le_trans (m:=120) (by omega) (by decide))]
 rw [hap1,hap2,hC,hw]
 have hcut2:cutO x6 0 ((x6.size:Int) - 1)=some ⟨(lHead++n.data.toList++lMid++jn 0 a).toArray⟩:=by
  refine cutEq ⟨by omega,by omega,by omega⟩ ?_
  have e1:((x6.size:Int) - 1).toNat - (0:Int).toNat=(lHead++n.data.toList++lMid++jn 0 a).length:=by
   have:(0:Int).toNat=0:=rfl
   omega
  rw [dX,e1]
  exact List.take_left
 have hcut3:cutO x7 13 x7.size=some ⟨(jn 0 b++[125]).toArray⟩:=by
  refine cutEq ⟨by omega,by omega,by omega⟩ ?_
  rw [dY]
  have:(x7.size:Int).toNat - (13:Int).toNat=(jn 0 b++[125]).length:=by simp only [List.length_append,List.length_cons,List.length_nil]; omega
  rw [this]
  show (jn 0 b++[125]).take _=_
  exact List.take_length
 rw [hcut2,hcut3]
 have fin:∀ j:ByteArray,j.data.toList=(if a=[]\/b=[] then [] else [44,32])->Tot ((catO ⟨(lHead++n.data.toList++lMid++jn 0 a).toArray⟩ j).bind fun x23=>(catO x23 ⟨(jn 0 b++[125]).toArray⟩).bind fun x25=>some (decide ((⟨(lineB n ([]++a++b)).toArray⟩:ByteArray)=x25))) fun r=>r=true:=by
  intro j hj
  have hjz:j.size<=2:=by rw [baSize,hj]; split <;> simp
  have s1:(⟨(lHead++n.data.toList++lMid++jn 0 a).toArray⟩:ByteArray).size=(lHead++n.data.toList++lMid++jn 0 a).length:=by rw [baSize]
  have s2:(⟨(jn 0 b++[125]).toArray⟩:ByteArray).size=(jn 0 b).length+1:=by rw [baSize]; simp
  refine .bi (.cat (by omega) (.bi (.cat (by rw [baS]; omega) (.so (decide_eq_true (baExt ?_))))))
  rw [baApp,baApp,hj]
  show lineB n ([]++a++b)=_
  rw [lineE,List.nil_append,jnApp,Nat.zero_add]
  rcases a with _ | ⟨x,a⟩
  ·simp [jn]
  ·rw [jnS b (x::a).length (by simp)]
   rcases b with _ | ⟨y,b⟩
   ·simp [jn]
   ·rw [if_neg (by simp)]
    simp [jn,jnS b 2 (by omega)]
 simp only [Option.bind_some]
 by_cases h1:a=[]
 ·rw [decide_eq_true (show (a.length:Int)=0 by rw [h1]; rfl)]
  exact fin ⟨#[]⟩ (by rw [if_pos (.inl h1)])
 ·have ha0:¬ (a.length:Int)=0:=fun e=>h1 (List.eq_nil_of_length_eq_zero (by omega))
  rw [decide_eq_false ha0]
  simp only [cond_false,Option.bind_some]
  by_cases h2:b=[]
  ·rw [decide_eq_true (show (b.length:Int)=0 by rw [h2]; rfl)]
   exact fin ⟨#[]⟩ (by rw [if_pos (.inr h2)])
  ·have hb0:¬ (b.length:Int)=0:=fun e=>h2 (List.eq_nil_of_length_eq_zero (by omega))
   rw [decide_eq_false hb0]
   exact fin ⟨#[44,32]⟩ (by rw [if_neg (by simp [h1,h2])])
open Go Go.Own
set_option maxRecDepth 100000
set_option maxHeartbeats 4000000
set_option synthInstance.maxHeartbeats 1000000
set_option synthInstance.maxSize 10000
theorem sl22:slT Tryz.prog 22 3 1=true:=by kernel_rfl
theorem ct3:cellT Tryz.prog 3=true:=by kernel_rfl
theorem st9:strT Tryz.prog 9=true:=by kernel_rfl
theorem ct4:cellT Tryz.prog 4=true:=by kernel_rfl
theorem ct9:cellT Tryz.prog 9=true:=by kernel_rfl
theorem fd59_0:fldT Tryz.prog 59 0 0 3=true:=by kernel_rfl
theorem at62:aggT Tryz.prog 62 4=true:=by kernel_rfl
theorem mixo:Tryz.prog.follows .mixedOrders=true:=by kernel_rfl
theorem sl68:slT Tryz.prog 68 67 6=true:=by kernel_rfl
theorem at67:aggT Tryz.prog 67 6=true:=by kernel_rfl
theorem ze67:(Tryz.prog.info? 67).bind (·.zero)=some (.agg #[.string { data:=#[] },.bool false,.int .i64 0,.int .i64 0,.string { data:=#[] },.int .i64 0]):=by kernel_rfl
theorem at59:aggT Tryz.prog 59 4=true:=by kernel_rfl
theorem sl30:slT Tryz.prog 30 65 3=true:=by kernel_rfl
theorem at65:aggT Tryz.prog 65 3=true:=by kernel_rfl
theorem ze65:(Tryz.prog.info? 65).bind (·.zero)=some (.agg #[.string { data:=#[] },.slice none 0 0,.int .i64 0]):=by kernel_rfl
theorem sl63:slT Tryz.prog 63 70 6=true:=by kernel_rfl
theorem at70:aggT Tryz.prog 70 6=true:=by kernel_rfl
theorem fd210_4:fldT Tryz.prog 210 4 8 3=true:=by kernel_rfl
theorem sz3:sizeT Tryz.prog 3 1=true:=by kernel_rfl
theorem fd210_5:fldT Tryz.prog 210 5 9 3=true:=by kernel_rfl
theorem fd210_6:fldT Tryz.prog 210 6 10 9=true:=by kernel_rfl
theorem sz9:sizeT Tryz.prog 9 1=true:=by kernel_rfl
theorem sl40:slT Tryz.prog 40 143 2=true:=by kernel_rfl
theorem sl39:slT Tryz.prog 39 94 6=true:=by kernel_rfl
theorem fd94_2:fldT Tryz.prog 94 2 2 3=true:=by kernel_rfl
theorem ze94:(Tryz.prog.info? 94).bind (·.zero)=some (.agg #[.string { data:=#[] },.bool false,.int .i64 0,.int .i64 0,.int .i64 0,.string { data:=#[] }]):=by kernel_rfl
theorem sc94:structT Tryz.prog 94 [(0,1),(1,1),(2,1),(3,1),(4,1),(5,1)]=true:=by kernel_rfl
theorem call101:callT Tryz.prog 101=true:=by kernel_rfl
theorem zt94:zeroT Tryz.prog 94 6=true:=by kernel_rfl
theorem sl56:slT Tryz.prog 56 4 1=true:=by kernel_rfl
theorem ze143:(Tryz.prog.info? 143).bind (·.zero)=some (.agg #[.string { data:=#[] },.string { data:=#[] }]):=by kernel_rfl
theorem sc143:structT Tryz.prog 143 [(0,1),(1,1)]=true:=by kernel_rfl
theorem zt143:zeroT Tryz.prog 143 2=true:=by kernel_rfl
theorem ap40:appT Tryz.prog 40 143 2 32=true:=by kernel_rfl
theorem fd143_1:fldT Tryz.prog 143 1 1 9=true:=by kernel_rfl
theorem call118:callT Tryz.prog 118=true:=by kernel_rfl
theorem fd94_3:fldT Tryz.prog 94 3 3 3=true:=by kernel_rfl
theorem fd94_4:fldT Tryz.prog 94 4 4 3=true:=by kernel_rfl
theorem sz4:sizeT Tryz.prog 4 1=true:=by kernel_rfl
theorem fd94_5:fldT Tryz.prog 94 5 5 9=true:=by kernel_rfl
theorem sl49:slT Tryz.prog 49 9 1=true:=by kernel_rfl
theorem ze110:(Tryz.prog.info? 110).bind (·.zero)=some (.agg #[.int .i64 0,.slice none 0 0,.int .i64 0,.string { data:=#[] },.slice none 0 0,.int .i64 0]):=by kernel_rfl
theorem sc110:structT Tryz.prog 110 [(0,1),(1,1),(2,1),(3,1),(4,1),(5,1)]=true:=by kernel_rfl
theorem fd110_1:fldT Tryz.prog 110 1 1 22=true:=by kernel_rfl
theorem ct22:cellT Tryz.prog 22=true:=by kernel_rfl
theorem call120:callT Tryz.prog 120=true:=by kernel_rfl
theorem zt3:zeroT Tryz.prog 3 1=true:=by kernel_rfl
theorem ap22:appT Tryz.prog 22 3 1 8=true:=by kernel_rfl
theorem sz22:sizeT Tryz.prog 22 1=true:=by kernel_rfl
theorem fd67_2:fldT Tryz.prog 67 2 5 3=true:=by kernel_rfl
theorem zt110:zeroT Tryz.prog 110 6=true:=by kernel_rfl
theorem sl41:slT Tryz.prog 41 110 6=true:=by kernel_rfl
theorem ap41:appT Tryz.prog 41 110 6 88=true:=by kernel_rfl
theorem sz41:sizeT Tryz.prog 41 1=true:=by kernel_rfl
theorem at110:aggT Tryz.prog 110 6=true:=by kernel_rfl
theorem ze43:(Tryz.prog.info? 43).bind (·.zero)=some (.agg #[.slice none 0 0,.slice none 0 0,.slice none 0 0,.string { data:=#[] },.string { data:=#[] }]):=by kernel_rfl
theorem at32:aggT Tryz.prog 32 4=true:=by kernel_rfl
theorem sc43:structT Tryz.prog 43 [(0,1),(1,1),(2,1),(3,1),(4,1)]=true:=by kernel_rfl
theorem sz43:sizeT Tryz.prog 43 5=true:=by kernel_rfl
theorem at43:aggT Tryz.prog 43 5=true:=by kernel_rfl
theorem ze4:(Tryz.prog.info? 4).bind (·.zero)=some (.bool false):=by kernel_rfl
theorem bb4:(Tryz.prog.info? 4).map (·.bytes)=some 1:=by kernel_rfl
theorem ze210:(Tryz.prog.info? 210).bind (·.zero)=some (.agg #[.slice none 0 0,.slice none 0 0,.slice none 0 0,.string { data:=#[] },.string { data:=#[] },.slice none 0 0,.slice none 0 0,.slice none 0 0,.int .i64 0,.int .i64 0,.string { data:=#[] },.int .i64 0,.int .i64 0]):=by kernel_rfl
theorem sc210:structT Tryz.prog 210 [(0,5),(5,1),(6,1),(7,1),(8,1),(9,1),(10,1),(11,1),(12,1)]=true:=by kernel_rfl
theorem ze59:(Tryz.prog.info? 59).bind (·.zero)=some (.agg #[.int .i64 0,.string { data:=#[] },.slice none 0 0,.int .i64 0]):=by kernel_rfl
theorem call100:callT Tryz.prog 100=true:=by kernel_rfl
theorem ze62:(Tryz.prog.info? 62).bind (·.zero)=some (.agg #[.string { data:=#[] },.bool false,.int .i64 0,.int .i64 0]):=by kernel_rfl
theorem sc62:structT Tryz.prog 62 [(0,1),(1,1),(2,1),(3,1)]=true:=by kernel_rfl
theorem zt9:zeroT Tryz.prog 9 1=true:=by kernel_rfl
theorem ap49:appT Tryz.prog 49 9 1 16=true:=by kernel_rfl
theorem call104:callT Tryz.prog 104=true:=by kernel_rfl
theorem at143:aggT Tryz.prog 143 2=true:=by kernel_rfl
theorem fd32_3:fldT Tryz.prog 32 3 3 9=true:=by kernel_rfl
theorem at165:aggT Tryz.prog 165 2=true:=by kernel_rfl
theorem sl160:slT Tryz.prog 160 165 2=true:=by kernel_rfl
theorem zt165:zeroT Tryz.prog 165 2=true:=by kernel_rfl
theorem ze165:(Tryz.prog.info? 165).bind (·.zero)=some (.agg #[.int .i64 0,.int .i64 0]):=by kernel_rfl
theorem sc165:structT Tryz.prog 165 [(0,1),(1,1)]=true:=by kernel_rfl
theorem sl99:slT Tryz.prog 99 163 2=true:=by kernel_rfl
theorem fd163_0:fldT Tryz.prog 163 0 0 160=true:=by kernel_rfl
theorem ct160:cellT Tryz.prog 160=true:=by kernel_rfl
theorem ze163:(Tryz.prog.info? 163).bind (·.zero)=some (.agg #[.slice none 0 0,.slice none 0 0]):=by kernel_rfl
theorem sc163:structT Tryz.prog 163 [(0,1),(1,1)]=true:=by kernel_rfl
theorem zt163:zeroT Tryz.prog 163 2=true:=by kernel_rfl
theorem ap99:appT Tryz.prog 99 163 2 48=true:=by kernel_rfl
theorem fd163_1:fldT Tryz.prog 163 1 1 161=true:=by kernel_rfl
theorem ct161:cellT Tryz.prog 161=true:=by kernel_rfl
theorem ze176:(Tryz.prog.info? 176).bind (·.zero)=some (.agg #[.int .i64 0,.int .i64 0]):=by kernel_rfl
theorem sc176:structT Tryz.prog 176 [(0,1),(1,1)]=true:=by kernel_rfl
theorem zt176:zeroT Tryz.prog 176 2=true:=by kernel_rfl
theorem sl161:slT Tryz.prog 161 176 2=true:=by kernel_rfl
theorem ap161:appT Tryz.prog 161 176 2 16=true:=by kernel_rfl
theorem sz161:sizeT Tryz.prog 161 1=true:=by kernel_rfl
theorem at130:aggT Tryz.prog 130 5=true:=by kernel_rfl
theorem sl33:slT Tryz.prog 33 22 1=true:=by kernel_rfl
theorem zt22:zeroT Tryz.prog 22 1=true:=by kernel_rfl
theorem ap33:appT Tryz.prog 33 22 1 24=true:=by kernel_rfl
theorem call88:callT Tryz.prog 88=true:=by kernel_rfl
theorem call89:callT Tryz.prog 89=true:=by kernel_rfl
theorem call87:callT Tryz.prog 87=true:=by kernel_rfl
theorem call90:callT Tryz.prog 90=true:=by kernel_rfl
theorem ze132:(Tryz.prog.info? 132).bind (·.zero)=some (.agg #[.int .i64 0,.int .i64 0]):=by kernel_rfl
theorem ze173:(Tryz.prog.info? 173).bind (·.zero)=some (.agg #[.int .i64 0,.int .i64 0,.int .i64 0,.int .i64 0]):=by kernel_rfl
theorem sc173:structT Tryz.prog 173 [(0,1),(1,1),(2,1),(3,1)]=true:=by kernel_rfl
theorem zt173:zeroT Tryz.prog 173 4=true:=by kernel_rfl
theorem sl103:slT Tryz.prog 103 173 4=true:=by kernel_rfl
theorem ap103:appT Tryz.prog 103 173 4 32=true:=by kernel_rfl
theorem sc132:structT Tryz.prog 132 [(0,1),(1,1)]=true:=by kernel_rfl
theorem sz132:sizeT Tryz.prog 132 2=true:=by kernel_rfl
theorem at132:aggT Tryz.prog 132 2=true:=by kernel_rfl
theorem ze87:(Tryz.prog.info? 87).bind (·.zero)=some (.agg #[.slice none 0 0,.slice none 0 0]):=by kernel_rfl
theorem sl128:slT Tryz.prog 128 132 2=true:=by kernel_rfl
theorem bb132:(Tryz.prog.info? 132).map (·.bytes)=some 16:=by kernel_rfl
theorem ze3:(Tryz.prog.info? 3).bind (·.zero)=some (.int .i64 0):=by kernel_rfl
theorem bb3:(Tryz.prog.info? 3).map (·.bytes)=some 8:=by kernel_rfl
theorem zt128:zeroT Tryz.prog 128 1=true:=by kernel_rfl
theorem sl85:slT Tryz.prog 85 128 1=true:=by kernel_rfl
theorem ap85:appT Tryz.prog 85 128 1 24=true:=by kernel_rfl
theorem sz85:sizeT Tryz.prog 85 1=true:=by kernel_rfl
theorem at87:aggT Tryz.prog 87 2=true:=by kernel_rfl
theorem sz87:sizeT Tryz.prog 87 2=true:=by kernel_rfl
theorem sc87:structT Tryz.prog 87 [(0,1),(1,1)]=true:=by kernel_rfl
theorem zt46:zeroT Tryz.prog 46 1=true:=by kernel_rfl
theorem sl111:slT Tryz.prog 111 46 1=true:=by kernel_rfl
theorem ap111:appT Tryz.prog 111 46 1 24=true:=by kernel_rfl
theorem ze119:(Tryz.prog.info? 119).bind (·.zero)=some (.agg #[.int .i64 0,.int .i64 0]):=by kernel_rfl
theorem ze45:(Tryz.prog.info? 45).bind (·.zero)=some (.agg #[.slice none 0 0,.slice none 0 0,.slice none 0 0]):=by kernel_rfl
theorem sc45:structT Tryz.prog 45 [(0,1),(1,1),(2,1)]=true:=by kernel_rfl
theorem sz45:sizeT Tryz.prog 45 3=true:=by kernel_rfl
theorem at45:aggT Tryz.prog 45 3=true:=by kernel_rfl
theorem fd45_1:fldT Tryz.prog 45 1 1 22=true:=by kernel_rfl
theorem ze48:(Tryz.prog.info? 48).bind (·.zero)=some (.agg #[.slice none 0 0,.slice none 0 0,.slice none 0 0,.slice none 0 0,.slice none 0 0,.slice none 0 0,.slice none 0 0,.slice none 0 0,.slice none 0 0,.slice none 0 0,.slice none 0 0]):=by kernel_rfl
theorem at48:aggT Tryz.prog 48 11=true:=by kernel_rfl
theorem sz48:sizeT Tryz.prog 48 11=true:=by kernel_rfl
theorem sc48:structT Tryz.prog 48 [(0,1),(1,3),(4,1),(5,3),(8,1),(9,1),(10,1)]=true:=by kernel_rfl
theorem at119:aggT Tryz.prog 119 2=true:=by kernel_rfl
theorem call11:callT Tryz.prog 11=true:=by kernel_rfl
theorem sc67:structT Tryz.prog 67 [(0,4),(4,1),(5,1)]=true:=by kernel_rfl
theorem zt67:zeroT Tryz.prog 67 6=true:=by kernel_rfl
theorem ze70:(Tryz.prog.info? 70).bind (·.zero)=some (.agg #[.slice none 0 0,.string { data:=#[] },.bool false,.int .i64 0,.int .i64 0,.int .i64 0]):=by kernel_rfl
theorem sc70:structT Tryz.prog 70 [(0,1),(1,4),(5,1)]=true:=by kernel_rfl
theorem zt70:zeroT Tryz.prog 70 6=true:=by kernel_rfl
theorem sc65:structT Tryz.prog 65 [(0,1),(1,1),(2,1)]=true:=by kernel_rfl
theorem zt65:zeroT Tryz.prog 65 3=true:=by kernel_rfl
theorem ze32:(Tryz.prog.info? 32).bind (·.zero)=some (.agg #[.string { data:=#[] },.slice none 0 0,.slice none 0 0,.string { data:=#[] }]):=by kernel_rfl
theorem sc32:structT Tryz.prog 32 [(0,1),(1,1),(2,1),(3,1)]=true:=by kernel_rfl
theorem call15:callT Tryz.prog 15=true:=by kernel_rfl
theorem call16:callT Tryz.prog 16=true:=by kernel_rfl
theorem call8:callT Tryz.prog 8=true:=by kernel_rfl
theorem call9:callT Tryz.prog 9=true:=by kernel_rfl
theorem call10:callT Tryz.prog 10=true:=by kernel_rfl
instance:F6 Tryz.prog 74 (.agg #[.pointer none,.slice none 0 0]):={}
instance:F3 Tryz.prog 22 3 1:={}
instance:F1 Tryz.prog 3:={}
instance:F9 Tryz.prog 3 .i64:={}
instance:F9 Tryz.prog 97 .u64:={}
instance:F9 Tryz.prog 5 .u8:={}
instance:F3 Tryz.prog 60 5 1:={}
instance:F2 Tryz.prog 9:={}
instance:F4 Tryz.prog 62 1 1 4:={}
instance:F1 Tryz.prog 4:={}
instance:F4 Tryz.prog 62 0 0 9:={}
instance:F1 Tryz.prog 9:={}
instance:F4 Tryz.prog 62 2 2 3:={}
instance:F4 Tryz.prog 59 0 0 3:={}
instance:F4 Tryz.prog 59 2 2 57:={}
instance:F1 Tryz.prog 57:={}
instance:F3 Tryz.prog 57 62 4:={}
instance:F4 Tryz.prog 59 1 1 9:={}
instance:F5 Tryz.prog 62 4:={}
instance:F0 Tryz.prog:={}
instance:F4 Tryz.prog 70 0 0 68:={}
instance:F1 Tryz.prog 68:={}
instance:F3 Tryz.prog 68 67 6:={}
instance:F5 Tryz.prog 67 6:={}
instance:F6 Tryz.prog 67 (.agg #[.string { data:=#[] },.bool false,.int .i64 0,.int .i64 0,.string { data:=#[] },.int .i64 0]):={}
instance:F4 Tryz.prog 67 1 4 9:={}
instance:F4 Tryz.prog 67 0 0 62:={}
instance:F4 Tryz.prog 70 1 1 62:={}
instance:F4 Tryz.prog 32 0 0 9:={}
instance:F4 Tryz.prog 32 1 1 29:={}
instance:F1 Tryz.prog 29:={}
instance:F3 Tryz.prog 29 59 4:={}
instance:F5 Tryz.prog 59 4:={}
instance:F4 Tryz.prog 32 2 2 30:={}
instance:F1 Tryz.prog 30:={}
instance:F3 Tryz.prog 30 65 3:={}
instance:F5 Tryz.prog 65 3:={}
instance:F6 Tryz.prog 65 (.agg #[.string { data:=#[] },.slice none 0 0,.int .i64 0]):={}
instance:F4 Tryz.prog 65 0 0 9:={}
instance:F4 Tryz.prog 65 1 1 63:={}
instance:F1 Tryz.prog 63:={}
instance:F3 Tryz.prog 63 70 6:={}
instance:F5 Tryz.prog 70 6:={}
instance:F4 Tryz.prog 210 4 8 3:={}
instance:F4 Tryz.prog 210 5 9 3:={}
instance:F4 Tryz.prog 210 6 10 9:={}
instance:F4 Tryz.prog 210 2 6 40:={}
instance:F1 Tryz.prog 40:={}
instance:F3 Tryz.prog 40 143 2:={}
instance:F4 Tryz.prog 143 0 0 9:={}
instance:F4 Tryz.prog 210 0 0 43:={}
instance:F4 Tryz.prog 43 0 0 39:={}
instance:F1 Tryz.prog 39:={}
instance:F3 Tryz.prog 39 94 6:={}
instance:F4 Tryz.prog 94 0 0 9:={}
instance:F4 Tryz.prog 94 1 1 4:={}
instance:F4 Tryz.prog 94 2 2 3:={}
instance:F6 Tryz.prog 94 (.agg #[.string { data:=#[] },.bool false,.int .i64 0,.int .i64 0,.int .i64 0,.string { data:=#[] }]):={}
instance:F7 Tryz.prog 94 [(0,1),(1,1),(2,1),(3,1),(4,1),(5,1)]:={}
instance:F4 Tryz.prog 62 3 3 3:={}
instance:F5 Tryz.prog 94 6:={}
instance:F8 Tryz.prog 39 94 6 64:={}
instance:F4 Tryz.prog 210 1 5 56:={}
instance:F1 Tryz.prog 56:={}
instance:F3 Tryz.prog 56 4 1:={}
instance:F8 Tryz.prog 56 4 1 1:={}
instance:F6 Tryz.prog 143 (.agg #[.string { data:=#[] },.string { data:=#[] }]):={}
instance:F7 Tryz.prog 143 [(0,1),(1,1)]:={}
instance:F8 Tryz.prog 40 143 2 32:={}
instance:F4 Tryz.prog 143 1 1 9:={}
instance:F4 Tryz.prog 94 3 3 3:={}
instance:F4 Tryz.prog 210 7 11 3:={}
instance:F4 Tryz.prog 94 4 4 3:={}
instance:F4 Tryz.prog 94 5 5 9:={}
instance:F4 Tryz.prog 210 3 7 49:={}
instance:F1 Tryz.prog 49:={}
instance:F3 Tryz.prog 49 9 1:={}
instance:F4 Tryz.prog 70 2 5 3:={}
instance:F6 Tryz.prog 110 (.agg #[.int .i64 0,.slice none 0 0,.int .i64 0,.string { data:=#[] },.slice none 0 0,.int .i64 0]):={}
instance:F7 Tryz.prog 110 [(0,1),(1,1),(2,1),(3,1),(4,1),(5,1)]:={}
instance:F4 Tryz.prog 110 1 1 22:={}
instance:F1 Tryz.prog 22:={}
instance:F8 Tryz.prog 22 3 1 8:={}
instance:F4 Tryz.prog 67 2 5 3:={}
instance:F4 Tryz.prog 110 3 3 9:={}
instance:F4 Tryz.prog 110 5 5 3:={}
instance:F4 Tryz.prog 210 8 12 3:={}
instance:F4 Tryz.prog 43 2 2 41:={}
instance:F1 Tryz.prog 41:={}
instance:F3 Tryz.prog 41 110 6:={}
instance:F8 Tryz.prog 41 110 6 88:={}
instance:F4 Tryz.prog 110 2 2 3:={}
instance:F4 Tryz.prog 110 4 4 22:={}
instance:F5 Tryz.prog 110 6:={}
instance:F6 Tryz.prog 43 (.agg #[.slice none 0 0,.slice none 0 0,.slice none 0 0,.string { data:=#[] },.string { data:=#[] }]):={}
instance:F5 Tryz.prog 32 4:={}
instance:F7 Tryz.prog 43 [(0,1),(1,1),(2,1),(3,1),(4,1)]:={}
instance:F5 Tryz.prog 43 5:={}
instance:F6 Tryz.prog 4 (.bool false):={}
instance:Fb Tryz.prog 4 1:={}
instance:F6 Tryz.prog 210 (.agg #[.slice none 0 0,.slice none 0 0,.slice none 0 0,.string { data:=#[] },.string { data:=#[] },.slice none 0 0,.slice none 0 0,.slice none 0 0,.int .i64 0,.int .i64 0,.string { data:=#[] },.int .i64 0,.int .i64 0]):={}
instance:F7 Tryz.prog 210 [(0,5),(5,1),(6,1),(7,1),(8,1),(9,1),(10,1),(11,1),(12,1)]:={}
instance:F6 Tryz.prog 59 (.agg #[.int .i64 0,.string { data:=#[] },.slice none 0 0,.int .i64 0]):={}
instance:F6 Tryz.prog 62 (.agg #[.string { data:=#[] },.bool false,.int .i64 0,.int .i64 0]):={}
instance:F7 Tryz.prog 62 [(0,1),(1,1),(2,1),(3,1)]:={}
instance:F4 Tryz.prog 65 2 2 3:={}
instance:F8 Tryz.prog 49 9 1 16:={}
instance:F4 Tryz.prog 43 1 1 40:={}
instance:F5 Tryz.prog 143 2:={}
instance:F4 Tryz.prog 32 3 3 9:={}
instance:F4 Tryz.prog 43 3 3 9:={}
instance:F4 Tryz.prog 43 4 4 9:={}
instance:F4 Tryz.prog 165 0 0 3:={}
instance:F4 Tryz.prog 165 1 1 3:={}
instance:F5 Tryz.prog 165 2:={}
instance:F3 Tryz.prog 160 165 2:={}
instance:F8 Tryz.prog 160 165 2 16:={}
instance:F4 Tryz.prog 110 0 0 3:={}
instance:F6 Tryz.prog 165 (.agg #[.int .i64 0,.int .i64 0]):={}
instance:F7 Tryz.prog 165 [(0,1),(1,1)]:={}
instance:F3 Tryz.prog 99 163 2:={}
instance:F4 Tryz.prog 163 0 0 160:={}
instance:F1 Tryz.prog 160:={}
instance:F6 Tryz.prog 163 (.agg #[.slice none 0 0,.slice none 0 0]):={}
instance:F7 Tryz.prog 163 [(0,1),(1,1)]:={}
instance:F8 Tryz.prog 99 163 2 48:={}
instance:F4 Tryz.prog 163 1 1 161:={}
instance:F1 Tryz.prog 161:={}
instance:F6 Tryz.prog 176 (.agg #[.int .i64 0,.int .i64 0]):={}
instance:F7 Tryz.prog 176 [(0,1),(1,1)]:={}
instance:F3 Tryz.prog 161 176 2:={}
instance:F8 Tryz.prog 161 176 2 16:={}
instance:F4 Tryz.prog 176 0 0 3:={}
instance:F4 Tryz.prog 176 1 1 3:={}
instance:F4 Tryz.prog 130 4 4 22:={}
instance:F4 Tryz.prog 130 2 2 3:={}
instance:F4 Tryz.prog 130 3 3 4:={}
instance:F6 Tryz.prog 130 (.agg #[.int .i64 0,.int .i64 0,.int .i64 0,.bool false,.slice none 0 0]):={}
instance:F7 Tryz.prog 130 [(0,1),(1,1),(2,1),(3,1),(4,1)]:={}
instance:F3 Tryz.prog 126 167 3:={}
instance:F4 Tryz.prog 167 0 0 3:={}
instance:F4 Tryz.prog 167 2 2 22:={}
instance:F4 Tryz.prog 167 1 1 3:={}
instance:F5 Tryz.prog 130 5:={}
instance:F3 Tryz.prog 100 130 5:={}
instance:F8 Tryz.prog 100 130 5 56:={}
instance:F3 Tryz.prog 33 22 1:={}
instance:F6 Tryz.prog 200 (.agg #[.int .i64 0,.int .i64 0]):={}
instance:F7 Tryz.prog 200 [(0,1),(1,1)]:={}
instance:F3 Tryz.prog 197 200 2:={}
instance:F8 Tryz.prog 197 200 2 16:={}
instance:F4 Tryz.prog 200 0 0 3:={}
instance:F4 Tryz.prog 200 1 1 3:={}
instance:F8 Tryz.prog 33 22 1 24:={}
instance:F6 Tryz.prog 22 (.slice none 0 0):={}
instance:Fb Tryz.prog 22 24:={}
instance:F6 Tryz.prog 167 (.agg #[.int .i64 0,.int .i64 0,.slice none 0 0]):={}
instance:F7 Tryz.prog 167 [(0,1),(1,1),(2,1)]:={}
instance:F5 Tryz.prog 167 3:={}
instance:F8 Tryz.prog 126 167 3 40:={}
instance:F6 Tryz.prog 132 (.agg #[.int .i64 0,.int .i64 0]):={}
instance:F4 Tryz.prog 130 0 0 3:={}
instance:F4 Tryz.prog 130 1 1 3:={}
instance:F6 Tryz.prog 173 (.agg #[.int .i64 0,.int .i64 0,.int .i64 0,.int .i64 0]):={}
instance:F7 Tryz.prog 173 [(0,1),(1,1),(2,1),(3,1)]:={}
instance:F3 Tryz.prog 103 173 4:={}
instance:F8 Tryz.prog 103 173 4 32:={}
instance:F7 Tryz.prog 132 [(0,1),(1,1)]:={}
instance:F5 Tryz.prog 132 2:={}
instance:F6 Tryz.prog 87 (.agg #[.slice none 0 0,.slice none 0 0]):={}
instance:F3 Tryz.prog 128 132 2:={}
instance:Fb Tryz.prog 132 16:={}
instance:F6 Tryz.prog 3 (.int .i64 0):={}
instance:Fb Tryz.prog 3 8:={}
instance:F4 Tryz.prog 87 0 0 85:={}
instance:F1 Tryz.prog 85:={}
instance:F3 Tryz.prog 85 128 1:={}
instance:F8 Tryz.prog 85 128 1 24:={}
instance:F4 Tryz.prog 87 1 1 33:={}
instance:F1 Tryz.prog 33:={}
instance:F5 Tryz.prog 87 2:={}
instance:F7 Tryz.prog 87 [(0,1),(1,1)]:={}
instance:F6 Tryz.prog 141 (.agg #[.int .i64 0,.string { data:=#[] },.int .i64 0,.string { data:=#[] }]):={}
instance:F7 Tryz.prog 141 [(0,1),(1,1),(2,1),(3,1)]:={}
instance:F5 Tryz.prog 141 4:={}
instance:F3 Tryz.prog 137 141 4:={}
instance:F8 Tryz.prog 137 141 4 48:={}
instance:F4 Tryz.prog 141 3 3 9:={}
instance:F4 Tryz.prog 141 0 0 3:={}
instance:F4 Tryz.prog 141 1 1 9:={}
instance:F4 Tryz.prog 141 2 2 3:={}
instance:F3 Tryz.prog 114 146 2:={}
instance:F4 Tryz.prog 146 0 0 3:={}
instance:F4 Tryz.prog 146 1 1 46:={}
instance:F1 Tryz.prog 46:={}
instance:F3 Tryz.prog 111 46 1:={}
instance:F8 Tryz.prog 111 46 1 24:={}
instance:F4 Tryz.prog 132 0 0 3:={}
instance:F4 Tryz.prog 132 1 1 3:={}
instance:F1 Tryz.prog 128:={}
instance:F6 Tryz.prog 146 (.agg #[.int .i64 0,.slice none 0 0]):={}
instance:F7 Tryz.prog 146 [(0,1),(1,1)]:={}
instance:F6 Tryz.prog 119 (.agg #[.int .i64 0,.int .i64 0]):={}
instance:F7 Tryz.prog 119 [(0,1),(1,1)]:={}
instance:F3 Tryz.prog 46 119 2:={}
instance:F8 Tryz.prog 46 119 2 16:={}
instance:F5 Tryz.prog 146 2:={}
instance:F8 Tryz.prog 114 146 2 32:={}
instance:F4 Tryz.prog 119 0 0 3:={}
instance:F6 Tryz.prog 45 (.agg #[.slice none 0 0,.slice none 0 0,.slice none 0 0]):={}
instance:F7 Tryz.prog 45 [(0,1),(1,1),(2,1)]:={}
instance:F5 Tryz.prog 45 3:={}
instance:F4 Tryz.prog 45 2 2 22:={}
instance:F4 Tryz.prog 45 0 0 22:={}
instance:F4 Tryz.prog 45 1 1 22:={}
instance:F4 Tryz.prog 119 1 1 3:={}
instance:F6 Tryz.prog 48 (.agg #[.slice none 0 0,.slice none 0 0,.slice none 0 0,.slice none 0 0,.slice none 0 0,.slice none 0 0,.slice none 0 0,.slice none 0 0,.slice none 0 0,.slice none 0 0,.slice none 0 0]):={}
instance:F4 Tryz.prog 48 0 0 22:={}
instance:F4 Tryz.prog 48 1 1 45:={}
instance:F4 Tryz.prog 48 2 4 22:={}
instance:F4 Tryz.prog 48 3 5 45:={}
instance:F4 Tryz.prog 48 4 8 22:={}
instance:F4 Tryz.prog 48 5 9 22:={}
instance:F4 Tryz.prog 48 6 10 46:={}
instance:F5 Tryz.prog 48 11:={}
instance:F7 Tryz.prog 48 [(0,1),(1,3),(4,1),(5,3),(8,1),(9,1),(10,1)]:={}
instance:F5 Tryz.prog 119 2:={}
instance:F7 Tryz.prog 67 [(0,4),(4,1),(5,1)]:={}
instance:F6 Tryz.prog 70 (.agg #[.slice none 0 0,.string { data:=#[] },.bool false,.int .i64 0,.int .i64 0,.int .i64 0]):={}
instance:F7 Tryz.prog 70 [(0,1),(1,4),(5,1)]:={}
instance:F7 Tryz.prog 65 [(0,1),(1,1),(2,1)]:={}
instance:F6 Tryz.prog 32 (.agg #[.string { data:=#[] },.slice none 0 0,.slice none 0 0,.string { data:=#[] }]):={}
instance:F7 Tryz.prog 32 [(0,1),(1,1),(2,1),(3,1)]:={}
instance:F4 Tryz.prog 59 3 3 3:={}
instance:F7 Tryz.prog 59 [(0,1),(1,1),(2,1),(3,1)]:={}
instance:F8 Tryz.prog 57 62 4 40:={}
instance:F8 Tryz.prog 29 59 4 56:={}
instance:F8 Tryz.prog 68 67 6 64:={}
instance:F8 Tryz.prog 63 70 6 72:={}
instance:F8 Tryz.prog 30 65 3 48:={}
instance:F4 Tryz.prog 35 0 0 3:={}
instance:F4 Tryz.prog 35 2 2 22:={}
instance:F4 Tryz.prog 35 1 1 33:={}
instance:F4 Tryz.prog 35 3 3 22:={}
instance:F4 Tryz.prog 35 4 4 4:={}
instance:F5 Tryz.prog 35 5:={}
instance:F3 Tryz.prog 38 32 4:={}
instance:ET Tryz.prog 22 Int eI:={}
instance:ET Tryz.prog 29 Decl eDecl_0:={}
instance:ET Tryz.prog 30 Rule eRule_0:={}
instance:ET Tryz.prog 33 (List Int) (eM eI):={}
instance:ET Tryz.prog 38 Source eSource_0:={}
instance:ET Tryz.prog 39 Tok eTok:={}
instance:ET Tryz.prog 40 Non eNon:={}
instance:ET Tryz.prog 41 Prod eProd_0:={}
instance:ET Tryz.prog 46 Pair ePair:={}
instance:ET Tryz.prog 49 ByteArray eS:={}
instance:ET Tryz.prog 56 Bool eB:={}
instance:ET Tryz.prog 57 Sym eSym:={}
instance:ET Tryz.prog 60 Int eU:={}
instance:ET Tryz.prog 63 Alt eAlt_0:={}
instance:ET Tryz.prog 68 Part ePart:={}
instance:ET Tryz.prog 85 (List Act) (eM eAct):={}
instance:ET Tryz.prog 100 Cell eCell_0:={}
instance:ET Tryz.prog 103 Clash eClash:={}
instance:ET Tryz.prog 111 (List Pair) (eM ePair):={}
instance:ET Tryz.prog 114 Row eRow_0:={}
instance:ET Tryz.prog 126 Look eLook_0:={}
instance:ET Tryz.prog 128 Act eAct:={}
instance:ET Tryz.prog 137 Piece ePiece:={}
instance:ET Tryz.prog 160 Item eItem:={}
instance:ET Tryz.prog 161 Move eMove:={}
instance:ET Tryz.prog 197 Trans eTrans:={}
instance con11 {a0:ByteArray}{a1:(List Int)}{r:ByteArray}:CF Tryz.prog 11 (pf11 a0 a1=some r) [SS a0,iR eI a1] [none,none] (SS r):=⟨fun h=>by unfold pf11 at h; exact Con.au (N:=⟨28,[]⟩) [0,1,4,5,6,7,12,13,14,15,20] (.lp (fun (s4:ByteArray × Int)=>[(2005,.brow 5 (Lib.strCells s4.1)),(14,I64 s4.2)]) [5,12,13,14] 0 (fun (x5:ByteArray)=>[(2005,.brow 5 (Lib.strCells x5))]) [5] (.b (.p (.jn [5,7,12,13,14] (fun (j9:ByteArray)=>[(2005,.brow 5 (Lib.strCells j9))]) .e .e)) .e) .e) Tryz.func11 rfl rfl rfl rfl rfl goW⟩
instance con18 {a0:Int}{r:ByteArray}:CF Tryz.prog 18 (pf18 a0=some r) [I64 a0] [none] (SS r):=⟨fun h=>by unfold pf18 at h; exact Con.au (N:=⟨32,[]⟩) [0,2,3,4,8,16,28] (.jn [0,3] (fun (j1:Int)=>[(3,.lit (.int .u64 j1))]) .e (.lp (fun (s3:Int × ByteArray)=>[(3,.lit (.int .u64 s3.1)),(4,SS s3.2)]) [0,3,4] 0 (fun (x4:ByteArray)=>[(4,SS x4)]) [0,4] (.rj 5 [0,3,4,16] (fun (c7:Bool)=>[(16,BB c7)]) .e) .e)) Tryz.func18 rfl rfl rfl rfl rfl goW⟩
instance con96 {a0:Int}{r:Bool}:CF Tryz.prog 96 (pf96 a0=some r) [U8 a0] [none] (BB r):=⟨fun h=>by unfold pf96 at h; exact Con.au (N:=⟨9,[]⟩) [0,2] (.rj 1 [2] (fun (c2:Bool)=>[(2,BB c2)]) .e) Tryz.func96 rfl rfl rfl rfl rfl goW⟩
instance con114 {a0:Int}{r:Bool}:CF Tryz.prog 114 (pf114 a0=some r) [U8 a0] [none] (BB r):=⟨fun h=>by unfold pf114 at h; exact Con.au (N:=⟨21,[]⟩) [0,2] (.rj 1 [2] (fun (c7:Bool)=>[(2,BB c7)]) .e) Tryz.func114 rfl rfl rfl rfl rfl goW⟩
instance con95 {a0:ByteArray}{a1:Int}{r:Int}:CF Tryz.prog 95 (pf95 a0 a1=some r) [SS a0,I64 a1] [none,none] (I64 r):=⟨fun h=>by unfold pf95 at h; exact Con.au (N:=⟨43,[]⟩) [0,1,4,5,39] (.lp (fun (s1:Int)=>[(5,I64 s1)]) [0,1,5] 0 (fun (x2:Int)=>[(5,I64 x2)]) [5] (.rj 2 [0,1,5,39] (fun (c13:Bool)=>[(39,BB c13)]) .e) .e) Tryz.func95 rfl rfl rfl rfl rfl goW⟩
instance con116 {a0:ByteArray}{r:Bool}:CF Tryz.prog 116 (pf116 a0=some r) [SS a0] [none] (BB r):=⟨fun h=>by unfold pf116 at h; exact Con.au (N:=⟨18,[]⟩) [0,2] (.rj 1 [2] (fun (c4:Bool)=>[(2,BB c4)]) .e) Tryz.func116 rfl rfl rfl rfl rfl goW⟩
instance con123 {a0:Int}{r:Int × Bool}:CF Tryz.prog 123 (pf123 a0=some r) [U8 a0] [none] (.tup [U8 r.1,BB r.2]):=⟨fun h=>by unfold pf123 at h; exact Con.au (N:=⟨21,[]⟩) [0,2,3,4,5,7,9,11] (.b .e (.b .e (.b .e (.jn [0,11] (fun (j4:Bool)=>[(11,BB j4)]) .e (.b .e (.rj 11 [2,3] (fun (c8:Int × Bool)=>[(2,U8 c8.1),(3,BB c8.2)]) .e)))))) Tryz.func123 rfl rfl rfl rfl rfl goW⟩
instance con121 {a0:Sym}{a1:Bool}{a2:Bool}{r:Bool}:CF Tryz.prog 121 (pf121 a0 a1 a2=some r) [.agg (eSym.cells a0),BB a1,BB a2] [none,none,none] (BB r):=⟨fun h=>by unfold pf121 at h; exact Con.au (N:=⟨53,[]⟩) [1,2,3,6,8,10,23] (.b (.rj 2 [3,23] (fun (c4:Bool)=>[(23,BB c4)]) .e) (.rj 6 [6] (fun (c13:Bool)=>[(6,BB c13)]) .e)) Tryz.func121 rfl rfl rfl rfl rfl goW⟩
instance con115 {a0:Decl}{r:Bool}:CF Tryz.prog 115 (pf115 a0=some r) [.agg (eDecl_0.cells a0)] [none] (BB r):=⟨fun h=>by unfold pf115 at h; exact Con.au (N:=⟨75,[]⟩) [1,2,3,54,59,74] (.rj 1 [1,54] (fun (c15:Bool)=>[(54,BB c15)]) (.b .e (.l2 (fun (s17:Int)=>[(3,I64 s17)]) [1,3] 0 (fun (x19:Unit)=>[]) [] (fun (x20:Bool)=>[(2,BB x20)]) [2] (.b (.rd 6 [[],[0],[],[0,1,2],[0,1,2,3],[],[5],[5,6],[],[8],[8,9],rn 0 11 [],rn 0 12 []] .e) .e) .e .e))) Tryz.func115 rfl rfl rfl rfl rfl goW⟩
instance con94 {a0:ByteArray}{a1:Int}{a2:ByteArray}{r:Bool}:CF Tryz.prog 94 (pf94 a0 a1 a2=some r) [SS a0,I64 a1,SS a2] [none,none,none] (BB r):=⟨fun h=>by unfold pf94 at h; exact Con.au (N:=⟨25,[]⟩) [0,1,2,6] (.rj 1 [6] (fun (c3:Bool)=>[(6,BB c3)]) .e) Tryz.func94 rfl rfl rfl rfl rfl goW⟩
instance con74 {a0:ByteArray}{a1:Int}{r:Int}:CF Tryz.prog 74 (pf74 a0 a1=some r) [SS a0,I64 a1] [none,none] (I64 r):=⟨fun h=>by unfold pf74 at h; exact Con.au (N:=⟨114,[]⟩) [0,1,4,5,6,7,8,9,31,40,46,58,59,69,75,78,92,96,105,110] (.rj 1 [0,1,9] (fun (c4:Bool)=>[(9,BB c4)]) (.b (.l2 (fun (s6:Int)=>[(5,I64 s6)]) [0,1,5] 1 (fun (x8:Unit)=>[]) [] (fun (x9:Int)=>[(4,I64 x9)]) [4] (.rj 3 [0,1,5,31] (fun (c12:Bool)=>[(31,BB c12)]) (.b (.rd 5 [[],[],[0,1],[],[],[3,4],rn 0 6 []] (.b .e (.b (.rj 9 [0,1,5,58] (fun (c21:Bool)=>[(58,BB c21)]) .e) .e))) .e)) .e .e) (.b (.l2 (fun (s25:Int)=>[(6,I64 s25)]) [0,6] 3 (fun (x27:Unit)=>[]) [] (fun (x28:Int)=>[(4,I64 x28)]) [4] .e .e .e) (.b (.lp (fun (s34:Int)=>[(7,I64 s34)]) [0,7] 5 (fun (x35:Int)=>[(7,I64 x35)]) [7] (.rj 21 [0,7,92] (fun (c39:Bool)=>[(92,BB c39)]) .e) .e) (.b (.l2 (fun (s43:Int)=>[(8,I64 s43)]) [0,8] 7 (fun (x45:Unit)=>[]) [] (fun (x46:Int)=>[(4,I64 x46)]) [4] .e .e .e) .e))))) Tryz.func74 rfl rfl rfl rfl rfl goW⟩
instance con73 {a0:ByteArray}{a1:Int}{r:Int}:CF Tryz.prog 73 (pf73 a0 a1=some r) [SS a0,I64 a1] [none,none] (I64 r):=⟨fun h=>by unfold pf73 at h; exact Con.au (N:=⟨53,[]⟩) [0,1,4,5,6,7,21,26,31,34,39,45,51] (.rj 1 [0,1,21] (fun (c4:Bool)=>[(21,BB c4)]) (.b .e (.l2 (fun (s6:Int × Int)=>[(5,I64 s6.1),(6,I64 s6.2)]) [0,5,6] 0 (fun (x8:Unit)=>[]) [] (fun (x9:Int)=>[(4,I64 x9)]) [4] (.b (.b .e (.b .e (.jn [0,5,6] (fun (j15:Int)=>[(5,I64 j15)]) .e (.jn [0,5,6] (fun (j18:Int)=>[(5,I64 j18)]) .e .e)))) .e) .e .e))) Tryz.func73 rfl rfl rfl rfl rfl goW⟩
instance con122 {a0:Sym}{r:Bool}:CF Tryz.prog 122 (pf122 a0=some r) [.agg (eSym.cells a0)] [none] (BB r):=⟨fun h=>by unfold pf122 at h; exact Con.au (N:=⟨16,[]⟩) [1,2] (.rj 1 [2] (fun (c3:Bool)=>[(2,BB c3)]) .e) Tryz.func122 rfl rfl rfl rfl rfl goW⟩
instance con117 {a0:Alt}{r:Bool}:CF Tryz.prog 117 (pf117 a0=some r) [.agg (eAlt_0.cells a0)] [none] (BB r):=⟨fun h=>by unfold pf117 at h; exact Con.au (N:=⟨54,[]⟩) [1,2,3,4,9,45] (.l2 (fun (s1:Int)=>[(3,I64 s1)]) [1,3] 0 (fun (x3:Unit)=>[]) [1] (fun (x4:Bool)=>[(2,BB x4)]) [2] (.b (.rk 5 [[],[0],[0,1],[0,1,2],[0,1,2,3],rn 0 5 [],rn 0 6 [],rn 0 7 [],rn 0 8 [],rn 0 9 [],rn 0 10 [],rn 0 11 [],rn 0 12 [],rn 0 13 [],rn 0 14 [],rn 0 15 [],rn 0 16 [],rn 0 17 [],rn 0 18 [],rn 0 19 [],rn 0 20 [],rn 0 21 [],rn 0 19 [],rn 0 19 [22],rn 0 19 [22,23],rn 0 25 [],rn 0 26 [],rn 0 27 [],rn 0 28 []] [1,3,45] (fun (c18:Bool)=>[(45,BB c18)]) .e) .e) (.rj 7 [2] (fun (c23:Bool)=>[(2,BB c23)]) .e) .e) Tryz.func117 rfl rfl rfl rfl rfl goW⟩
instance con99 {a0:Source}{r:Bool}:CF Tryz.prog 99 (pf99 a0=some r) [.agg (eSource_0.cells a0)] [none] (BB r):=⟨fun h=>by unfold pf99 at h; exact Con.au (N:=⟨77,[]⟩) [1,2,3,4,5,6,7,13,22,27,36,41,58,63,72] (.l2 (fun (s1:Int)=>[(3,I64 s1)]) [1,3] 0 (fun (x3:Unit)=>[]) [1] (fun (x4:Bool)=>[(2,BB x4)]) [2] .e (.l2 (fun (s8:Int)=>[(4,I64 s8)]) [1,4] 2 (fun (x10:Unit)=>[]) [1] (fun (x11:Bool)=>[(2,BB x11)]) [2] .e (.l2 (fun (s16:Int)=>[(5,I64 s16)]) [1,5] 4 (fun (x18:Unit)=>[]) [1] (fun (x19:Bool)=>[(2,BB x19)]) [2] (.b (.rj 15 [1,5,6,58] (fun (c24:Bool)=>[(58,BB c24)]) (.b .e (.l2 (fun (s26:Int)=>[(7,I64 s26)]) [1,5,6,7] 6 (fun (x28:Unit)=>[]) [1,5] (fun (x29:Bool)=>[(2,BB x29)]) [2] .e .e .e))) .e) .e .e) .e) .e) Tryz.func99 rfl rfl rfl rfl rfl goW⟩
instance con101 {a0:yuccaref9_maker}{a1:Int}{a2:ByteArray}{r:yuccaref9_maker}:CF Tryz.prog 101 (pf101 a0 a1 a2=some r) [.obj (eyuccaref9_maker_r.cells a0),I64 a1,SS a2] [some (.obj [oR eTok r.f_g.Toks,oR eNon r.f_g.Nons,oR eProd_0 r.f_g.Prods,SS r.f_g.Pro,SS r.f_g.Tail,oR eB r.f_given,oR eNon r.f_types,oR eS r.f_lefts,I64 r.f_e,I64 r.f_at,SS r.f_name,I64 r.f_level,I64 r.f_inner]),none,none] (.tup []):=⟨fun h=>by unfold pf101 at h; exact Con.au (N:=⟨22,[0]⟩) [0,1,2,10] (.jn [0] (fun (j1:yuccaref9_maker)=>[(0,.obj (eyuccaref9_maker_r.cells j1))]) .e .e) Tryz.func101 rfl rfl rfl rfl rfl goW⟩
instance con105 {a0:yuccaref9_maker}{a1:ByteArray}{r:Int}:CF Tryz.prog 105 (pf105 a0 a1=some r) [.iptr ([iR eTok a0.f_g.Toks,iR eNon a0.f_g.Nons,iR eProd_0 a0.f_g.Prods,SS a0.f_g.Pro,SS a0.f_g.Tail,iR eB a0.f_given,iR eNon a0.f_types,iR eS a0.f_lefts,I64 a0.f_e,I64 a0.f_at,SS a0.f_name,I64 a0.f_level,I64 a0.f_inner]),SS a1] [none,none] (I64 r):=⟨fun h=>by unfold pf105 at h; exact Con.au (N:=⟨26,[]⟩) [0,1,4,5,12,24] (.l2 (fun (s1:Int)=>[(5,I64 s1)]) [0,1,5] 0 (fun (x3:Unit)=>[]) [] (fun (x4:Int)=>[(4,I64 x4)]) [4] .e .e .e) Tryz.func105 rfl rfl rfl rfl rfl goW⟩
instance con102 {a0:yuccaref9_maker}{a1:Sym}{r:Int}:CF Tryz.prog 102 (pf102 a0 a1=some r) [.iptr ([iR eTok a0.f_g.Toks,iR eNon a0.f_g.Nons,iR eProd_0 a0.f_g.Prods,SS a0.f_g.Pro,SS a0.f_g.Tail,iR eB a0.f_given,iR eNon a0.f_types,iR eS a0.f_lefts,I64 a0.f_e,I64 a0.f_at,SS a0.f_name,I64 a0.f_level,I64 a0.f_inner]),.agg (eSym.cells a1)] [none,none] (I64 r):=⟨fun h=>by unfold pf102 at h; exact Con.au (N:=⟨47,[]⟩) [0,3,4,5,13,45] (.l2 (fun (s1:Int)=>[(5,I64 s1)]) [0,3,5] 0 (fun (x3:Unit)=>[]) [] (fun (x4:Int)=>[(4,I64 x4)]) [4] (.b (.rk 4 [[],[0],[0,1],[0,1,2],[0,1,2,3],[],rn 0 6 [],rn 0 7 [],rn 0 8 [],[],[9],rn 0 11 [],rn 0 12 [],rn 0 13 [],rn 0 14 [],rn 0 15 [],rn 0 16 [],rn 0 17 [],rn 0 13 [],rn 0 19 [],rn 0 20 [],rn 0 21 [],rn 0 13 [],rn 0 13 [22],rn 0 24 [],rn 0 25 [],rn 0 26 [],rn 0 27 [],rn 0 28 [],rn 0 29 []] [0,3,5,45] (fun (c10:Bool)=>[(45,BB c10)]) .e) .e) .e .e) Tryz.func102 rfl rfl rfl rfl rfl goW⟩
instance con119 {a0:yuccaref9_maker}{a1:Int}{r:Int}:CF Tryz.prog 119 (pf119 a0 a1=some r) [.iptr ([iR eTok a0.f_g.Toks,iR eNon a0.f_g.Nons,iR eProd_0 a0.f_g.Prods,SS a0.f_g.Pro,SS a0.f_g.Tail,iR eB a0.f_given,iR eNon a0.f_types,iR eS a0.f_lefts,I64 a0.f_e,I64 a0.f_at,SS a0.f_name,I64 a0.f_level,I64 a0.f_inner]),I64 a1] [none,none] (I64 r):=⟨fun h=>by unfold pf119 at h; exact Con.au (N:=⟨28,[]⟩) [0,1,4,5,13,26] (.l2 (fun (s1:Int)=>[(5,I64 s1)]) [0,1,5] 0 (fun (x3:Unit)=>[]) [] (fun (x4:Int)=>[(4,I64 x4)]) [4] .e .e .e) Tryz.func119 rfl rfl rfl rfl rfl goW⟩
instance con118 {a0:yuccaref9_maker}{a1:Sym}{r:Int × yuccaref9_maker}:CF Tryz.prog 118 (pf118 a0 a1=some r) [.obj (eyuccaref9_maker_r.cells a0),.agg (eSym.cells a1)] [some (.obj [oR eTok r.2.f_g.Toks,oR eNon r.2.f_g.Nons,oR eProd_0 r.2.f_g.Prods,SS r.2.f_g.Pro,SS r.2.f_g.Tail,oR eB r.2.f_given,oR eNon r.2.f_types,oR eS r.2.f_lefts,I64 r.2.f_e,I64 r.2.f_at,SS r.2.f_name,I64 r.2.f_level,I64 r.2.f_inner]),none] (I64 r.1):=⟨fun h=>by unfold pf118 at h; exact Con.au (N:=⟨66,[0]⟩) [0,3,4,5,6,11,19,29] (.b .e (.jn [0,3,6] (fun (j3:yuccaref9_maker × Int)=>[(0,.obj (eyuccaref9_maker_r.cells j3.1)),(3006,I64 j3.2)]) (.b (.jn [0,3,6] (fun (j7:yuccaref9_maker)=>[(0,.obj (eyuccaref9_maker_r.cells j7))]) .e .e) .e) (.rd 9 [[],[],[1],[1,2],[1,2,3],[1,2,3,4],[],[6],rn 1 7 [],rn 0 9 [],rn 0 10 [],rn 0 11 [],rn 0 12 []] (.rd 10 [[],[],[1],[1,2],[1,2,3],[],[5],[5,6],rn 1 7 [],rn 0 9 [],rn 0 10 [],rn 0 11 []] .e)))) Tryz.func118 rfl rfl rfl rfl rfl goW⟩
theorem conq101_0 (v:Value) (a0:yuccaref9_maker) (a1:Int) (a2:ByteArray) (r:yuccaref9_maker) (h:pf101 a0 a1 a2=some r):Con Tryz.prog 101 [.obj [.lit v,oR eNon a0.f_g.Nons,oR eProd_0 a0.f_g.Prods,SS a0.f_g.Pro,SS a0.f_g.Tail,oR eB a0.f_given,oR eNon a0.f_types,oR eS a0.f_lefts,I64 a0.f_e,I64 a0.f_at,SS a0.f_name,I64 a0.f_level,I64 a0.f_inner],I64 a1,SS a2] [some (.obj [.lit v,oR eNon r.f_g.Nons,oR eProd_0 r.f_g.Prods,SS r.f_g.Pro,SS r.f_g.Tail,oR eB r.f_given,oR eNon r.f_types,oR eS r.f_lefts,I64 r.f_e,I64 r.f_at,SS r.f_name,I64 r.f_level,I64 r.f_inner]),none,none] (.tup []):=by
 unfold pf101 at h
 refine Con.go (N:=⟨22,[0]⟩) Tryz.func101 q q q q (W.fin ?_)
 refine W.st [(0,.obj [.lit v,oR eNon a0.f_g.Nons,oR eProd_0 a0.f_g.Prods,SS a0.f_g.Pro,SS a0.f_g.Tail,oR eB a0.f_given,oR eNon a0.f_types,oR eS a0.f_lefts,I64 a0.f_e,I64 a0.f_at,SS a0.f_name,I64 a0.f_level,I64 a0.f_inner]),(1,I64 a1),(2,SS a2)] ?_
 refine W.aq [0,1,2,10] ?_
 refine bd h fun j1 hj h=>W.jq [0] [(0,.obj [.lit v,oR eNon j1.f_g.Nons,oR eProd_0 j1.f_g.Prods,SS j1.f_g.Pro,SS j1.f_g.Tail,oR eB j1.f_given,oR eNon j1.f_types,oR eS j1.f_lefts,I64 j1.f_e,I64 j1.f_at,SS j1.f_name,I64 j1.f_level,I64 j1.f_inner])] ?_ ?_
 ·clear h; have h:=hj; clear hj
  refine W.ch h q (fun hb2 h=>?_) (fun hb2 h=>?_)
  ·refine W.rk [0] (Rv (O.mv .z4)<|Rv (O.mv .z4)<|Rv (O.mv .z4)<|Vm q<|Vm q<|Rv (O.nlP .z5)<|Rv O.y2<|RunL.sO (G2:=[(0,_),(12,.ptr ⟨0,[]⟩ 0),(13,.ptr ⟨0,[]⟩ 0),(14,_),(15,_)]) (cs2:=[.lit v,oR eNon a0.f_g.Nons,oR eProd_0 a0.f_g.Prods,SS a0.f_g.Pro,SS a0.f_g.Tail,oR eB a0.f_given,oR eNon a0.f_types,oR eS a0.f_lefts,I64 3,I64 a0.f_at,SS a0.f_name,I64 a0.f_level,I64 a0.f_inner]) q (.ptr q) (.k q) q sz3 q q q q (.b q (.p q q q q q q (.p q q q q q q (.n q q (.n q q .nil)))))<|Rv (O.nlP .z5)<|Rv O.y2<|RunL.sO (G2:=[(0,_),(13,.ptr ⟨0,[]⟩ 0),(15,_)]) (cs2:=[.lit v,oR eNon a0.f_g.Nons,oR eProd_0 a0.f_g.Prods,SS a0.f_g.Pro,SS a0.f_g.Tail,oR eB a0.f_given,oR eNon a0.f_types,oR eS a0.f_lefts,I64 3,I64 a1,SS a0.f_name,I64 a0.f_level,I64 a0.f_inner]) q (.ptr q) (.lit q) q sz3 q q q q (.b q (.p q q q q q q (.n q q .nil)))<|Rv (O.nlP .z5)<|Rv O.y2<|RunL.f' (EO.sv1 [0])<|Fk q) ?_
   exact sm h ▸ Px.jt
  ·exact W.sk<|sm h ▸ Px.jt
 exact sm h ▸ Px.fin (Fin.ro .nil q (ode (by kernel_rfl)) (.so q q (.no (.no .nil))) q (.inl q))
theorem con100l (a0:yuccaref9_maker) (a1:Decl) (a2:Sym) (r:yuccaref9_maker) (h:pf100 a0 a1 a2=some r):Con Tryz.prog 100 [.obj (eyuccaref9_maker_r.cells a0),.agg (eDecl_0.cells a1),.agg (eSym.cells a2)] [some (.obj [oR eTok r.f_g.Toks,oR eNon r.f_g.Nons,oR eProd_0 r.f_g.Prods,SS r.f_g.Pro,SS r.f_g.Tail,oR eB r.f_given,oR eNon r.f_types,oR eS r.f_lefts,I64 r.f_e,I64 r.f_at,SS r.f_name,I64 r.f_level,I64 r.f_inner]),none,none] (.tup []):=by
 unfold pf100 at h
 refine Con.go (N:=⟨152,[0]⟩) Tryz.func100 q q q q (W.fin ?_)
 refine W.st [(0,.obj (eyuccaref9_maker_r.cells a0)),(1,.agg (eDecl_0.cells a1)),(2,.agg (eSym.cells a2))] ?_
 refine W.rq [0,4,5] (Rv (O.box (.aggF q q) q)<|Rv (O.box (.aggF q q) q)<|Fk q) ?_
 refine W.sq'<|W.aq [0,4,5,11] ?_
 refine W.ch h q (fun hb1 h=>?_) (fun hb1 h=>?_)
 ·refine bd h fun x2 hx2 h=>W.rq [0,4,5,6] (Rv (O.mv .z4)<|Rv O.y1<|Rv O.y3<|Rc (PC.vz (ys:=[.ptr ⟨0,[]⟩ 0,SS a2.Name]) q (.c (View.p0 q q) (.s .nil)) (CF.go hx2))<|RunL.au) ?_
  refine W.sq'<|W.aq [0,4,5,6,17] ?_
  refine bd h fun j3 hj h=>W.jq [0] [(0,.obj (eyuccaref9_maker_r.cells j3))] ?_ ?_
  ·clear h; have h:=hj; clear hj
   refine W.ch h q (fun hb4 h=>?_) (fun hb4 h=>?_)
   ·refine bd h fun x5 hx5 h=>W.rd [[],[],[1],[1,2],[1,2,3],[],[5],[],[7],[5,6,7,8],rn 5 5 [],rn 1 10 [],rn 0 12 [],rn 0 13 [],rn 0 14 []] [(0,_)] mixo (by kernel_rfl) (Dv 0 (O.mv .z4)<|Dv 1 (O.mv .z4)<|Dv 2 (O.nlP .z5)<|Dv 3 O.y2<|Dv 4 (O.y5 (y:=.brw eNon.z ⟨0,[6]⟩ a0.f_types.length))<|Dv 5 O.y1<|Dv 6 O.y3<|Dv 7 O.y1<|Dv 8 O.y3<|Dv 9 (O.bu (cs:=[SS a2.Name,SS a1.Tag]) sc143 ze143 q q q)<|DL.vi 10 (x:=iR eNon [(⟨a2.Name,a1.Tag⟩:Non)]) (O.bs (ys:=[.agg [SS a2.Name,SS a1.Tag]]) eNon [(⟨a2.Name,a1.Tag⟩:Non)] sl40 q q q q q q zt143 q q) q q q q .none<|Dv 11 (O.ap (en:=eNon) (r:=x5) .z6 q .z2 .i ap40 q hx5)<|Dv 12 (O.nlP .z5)<|Dv 13 O.y2<|DL.bpz 14 (EO.sp [0])<|DL.fin q q q (.n q .nil)) ?_
    exact sm h ▸ Px.jt
   ·refine W.sq'<|bd h fun x6 hx6 h=>W.rd [[],[0],[0,1],[0,1,2],[],rn 0 5 [],rn 0 6 [],rn 0 7 [],[],[8],rn 0 10 []] [(0,_),(5,_),(42,_)] mixo (by kernel_rfl) (Dv 0 (O.mv .z4)<|Dv 1 (O.nlP .z5)<|Dv 2 O.y2<|Dv 3 (O.y5 (y:=.brw eNon.z ⟨0,[6]⟩ a0.f_types.length))<|Dv 4 (O.mv (.lit q))<|Dv 5 (O.ixO (en:=eNon) q .z6 .z1 sl40 hx6 q)<|Dv 6 (O.fE (en:=eNon) q .z5 fd143_1 hx6 q q)<|Dv 7 (O.ldE (en:=eNon) (x':=SS x6.Tag) q .z5 ct9 hx6 q q)<|Dv 8 O.y1<|Dv 9 O.y3<|Dv 10 (O.neS .z1 .z1)<|DL.fin q q q (tn3 q q q)) ?_
    refine Px.sq<|bd h fun j7 hj h=>W.jq [0] [(0,.obj (eyuccaref9_maker_r.cells j7))] ?_ ?_
    ·clear h; have h:=hj; clear hj
     refine W.ch h q (fun hb8 h=>?_) (fun hb8 h=>?_)
     ·refine bd h fun x9 hx9 h=>W.rk [0] (Rv (O.mv .z4)<|Rv O.y1<|Rv O.y3<|Rv O.y1<|Rv O.y3<|RunL.ef q (EO.call q q (CallOk.ln (G2:=[]) (A:=[]) (ys:=[.ptr ⟨0,[]⟩ 0,I64 a2.At,SS a2.Name]) (args:=[.obj (eyuccaref9_maker_r.cells a0),I64 a2.At,SS a2.Name]) (cs':=eyuccaref9_maker_r.cells x9) (k0:=0) q q q q (.b q (.n q (.n q .nil))) q (CF.go hx9) call101 .nil q q .nil .nil q))<|Fk q) ?_
      exact sm h ▸ Px.jt
     ·exact W.sk<|sm h ▸ Px.jt
    exact sm h ▸ Px.jt
  exact Px.sq<|W.rt<|Px.sqR<|sm h ▸ Px.fin (Fin.ro .nil q (ode (by kernel_rfl)) (.so q q (.no (.no .nil))) q (.inr q))
 ·refine W.sk<|Px.sq<|bd h fun x10 hx10 h=>W.rq [0,4,5,7] (Rv (O.mv .z4)<|Rv (O.ldON (cs':=eSym.cells a2) q .z4 at62 q q)<|RunL.ef q (EO.call q q (CallOk.ln (G2:=[(4,.obj (eDecl_0.cells a1)),(5,.obj (eSym.cells a2))]) (A:=[]) (ys:=[.ptr ⟨0,[]⟩ 0,.agg (eSym.cells a2)]) (args:=[.obj (eyuccaref9_maker_r.cells a0),.agg (eSym.cells a2)]) (cs':=eyuccaref9_maker_r.cells x10.2) (k0:=0) q q q q (.b q (.n q .nil)) q (CF.go hx10) call118 (tn2 q q) q q (tn2 q q) .nil q))<|RunL.au) ?_
  refine bd h fun x11 hx11 h=>W.rs [(0,_),(4,_),(5,_),(7,_),(8,.ptr ⟨0,[0]⟩ (x10.1.toNat * eTok.z+0))] (Rv (O.mv .z4)<|Rv (O.nlP .z5)<|Rv O.y2<|Rv O.y2<|Rv (O.y5 (y:=.brw eTok.z ⟨0,[0]⟩ x10.2.f_g.Toks.length))<|Vm q<|Rv (O.ixO (en:=eTok) q .z6 .z1 sl39 hx11 q)<|Rv (O.az .z5)<|Fi (.n q (.n q (.n q (.n q (.r q (RK.el (en:=eTok) q hx11 q) npPtr .nil)))))) ?_
  refine W.sq'<|W.rs [(0,_),(4,_),(5,_),(7,_),(8,.ptr ⟨0,[0]⟩ (x10.1.toNat * eTok.z+0)),(61,_)] (Rv O.y1<|Rv O.y3<|Rv (O.neq .z1 .z8)<|Fi (.n q (.n q (.n q (.n q (.r q (RK.el (en:=eTok) q hx11 q) npPtr (.n q .nil))))))) ?_
  refine bd h fun j12 hj h=>W.jq [0,4,5,7,8] [(0,.obj (eyuccaref9_maker_r.cells j12))] ?_ ?_
  ·clear h; have h:=hj; clear hj
   refine W.ch h q (fun hb13 h=>?_) (fun hb13 h=>?_)
   ·refine W.sq'<|W.rs [(0,_),(4,_),(5,_),(7,_),(8,.ptr ⟨0,[0]⟩ (x10.1.toNat * eTok.z+0)),(66,_)] (Rv (O.mv .z5)<|Rv (O.nlP .z5)<|Rv (O.fE (en:=eTok) q .z5 fd94_3 hx11 q q)<|Rv (O.ldE (en:=eTok) (x':=I64 x11.Level) q .z5 ct3 hx11 q q)<|Rv (O.gtr .z1 .z8)<|Fi (.n q (.n q (.n q (.n q (.r q (RK.el (en:=eTok) q hx11 q) npPtr (.n q .nil))))))) ?_
    refine bd h fun j14 hj h=>W.jq [0,4,5,7,8] [(0,.obj (eyuccaref9_maker_r.cells j14))] ?_ ?_
    ·clear h; have h:=hj; clear hj
     refine W.ch h q (fun hb15 h=>?_) (fun hb15 h=>?_)
     ·refine bd h fun x16 hx16 h=>W.rx [(0,_),(4,_),(5,_),(7,_),(8,.ptr ⟨0,[0]⟩ (x10.1.toNat * eTok.z+0))] (Rv (O.mv .z4)<|Rv O.y1<|Rv O.y3<|Rv O.y1<|Rv O.y3<|RunL.ef (G2:=[(8,.ptr ⟨0,[0]⟩ (x10.1.toNat * eTok.z+0))]++[(72,.tup []),(0,.obj [oR eTok x10.2.f_g.Toks,oR eNon x16.f_g.Nons,oR eProd_0 x16.f_g.Prods,SS x16.f_g.Pro,SS x16.f_g.Tail,oR eB x16.f_given,oR eNon x16.f_types,oR eS x16.f_lefts,I64 x16.f_e,I64 x16.f_at,SS x16.f_name,I64 x16.f_level,I64 x16.f_inner]),(4,.obj (eDecl_0.cells a1)),(5,.obj (eSym.cells a2)),(7,I64 x10.1)]) q (EO.fr (r:=0) (k0:=0) (y:=oR eTok x10.2.f_g.Toks) (cs5:=[oR eTok x10.2.f_g.Toks,oR eNon x16.f_g.Nons,oR eProd_0 x16.f_g.Prods,SS x16.f_g.Pro,SS x16.f_g.Tail,oR eB x16.f_given,oR eNon x16.f_types,oR eS x16.f_lefts,I64 x16.f_e,I64 x16.f_at,SS x16.f_name,I64 x16.f_level,I64 x16.f_inner]) (G1:=fun v=>[(0,.obj [.lit v,oR eNon x10.2.f_g.Nons,oR eProd_0 x10.2.f_g.Prods,SS x10.2.f_g.Pro,SS x10.2.f_g.Tail,oR eB x10.2.f_given,oR eNon x10.2.f_types,oR eS x10.2.f_lefts,I64 x10.2.f_e,I64 x10.2.f_at,SS x10.2.f_name,I64 x10.2.f_level,I64 x10.2.f_inner]),(4,.obj (eDecl_0.cells a1)),(5,.obj (eSym.cells a2)),(7,I64 x10.1),(67,.ptr ⟨0,[]⟩ 0),(69,I64 a2.At),(71,SS a2.Name)]) (G4:=fun v=>[(72,.tup []),(0,.obj [.lit v,oR eNon x16.f_g.Nons,oR eProd_0 x16.f_g.Prods,SS x16.f_g.Pro,SS x16.f_g.Tail,oR eB x16.f_given,oR eNon x16.f_types,oR eS x16.f_lefts,I64 x16.f_e,I64 x16.f_at,SS x16.f_name,I64 x16.f_level,I64 x16.f_inner]),(4,.obj (eDecl_0.cells a1)),(5,.obj (eSym.cells a2)),(7,I64 x10.1)]) (c4:=fun v=>[.lit v,oR eNon x16.f_g.Nons,oR eProd_0 x16.f_g.Prods,SS x16.f_g.Pro,SS x16.f_g.Tail,oR eB x16.f_given,oR eNon x16.f_types,oR eS x16.f_lefts,I64 x16.f_e,I64 x16.f_at,SS x16.f_name,I64 x16.f_level,I64 x16.f_inner]) (G5:=[(72,.tup []),(0,.obj [oR eTok x10.2.f_g.Toks,oR eNon x16.f_g.Nons,oR eProd_0 x16.f_g.Prods,SS x16.f_g.Pro,SS x16.f_g.Tail,oR eB x16.f_given,oR eNon x16.f_types,oR eS x16.f_lefts,I64 x16.f_e,I64 x16.f_at,SS x16.f_name,I64 x16.f_level,I64 x16.f_inner]),(4,.obj (eDecl_0.cells a1)),(5,.obj (eSym.cells a2)),(7,I64 x10.1)]) (A:=[(8,.ptr ⟨0,[0]⟩ (x10.1.toNat * eTok.z+0))]) q q q q (fun v=>(.b q (.n q q (.n q q (.n q q (.p q q q q q q (.n q q (.n q q .nil)))))))) (fun v=>CallOk.ln (G2:=[(4,.obj (eDecl_0.cells a1)),(5,.obj (eSym.cells a2)),(7,I64 x10.1)]) (A:=[]) (ys:=[.ptr ⟨0,[]⟩ 0,I64 a2.At,SS a2.Name]) (args:=[.obj [.lit v,oR eNon x10.2.f_g.Nons,oR eProd_0 x10.2.f_g.Prods,SS x10.2.f_g.Pro,SS x10.2.f_g.Tail,oR eB x10.2.f_given,oR eNon x10.2.f_types,oR eS x10.2.f_lefts,I64 x10.2.f_e,I64 x10.2.f_at,SS x10.2.f_name,I64 x10.2.f_level,I64 x10.2.f_inner],I64 a2.At,SS a2.Name]) (cs':=[.lit v,oR eNon x16.f_g.Nons,oR eProd_0 x16.f_g.Prods,SS x16.f_g.Pro,SS x16.f_g.Tail,oR eB x16.f_given,oR eNon x16.f_types,oR eS x16.f_lefts,I64 x16.f_e,I64 x16.f_at,SS x16.f_name,I64 x16.f_level,I64 x16.f_inner]) (k0:=0) q q q q (.b q (.n q (.n q .nil))) q (conq101_0 v x10.2 a2.At a2.Name _ hx16) call101 (tn3 q q q) q q (tn3 q q q) .nil q) (fun v=>q) (fun v=>q) (fun v=>q) (fun v=>(.n q q (.b q (.n q q (.n q q (.n q q .nil)))))) q (.c (en:=eTok) (L:=x10.2.f_g.Toks) q q hx11 q q q .nil))<|Fi (.n q (.n q (.n q (.n q (.r q (RK.el (en:=eTok) q hx11 q) npPtr .nil)))))) ?_
      exact sm h ▸ Px.jn (.n q (.n q (.n q (.n q (.r q (RK.el (en:=eTok) q hx11 q) npPtr .nil)))))
     ·exact W.sk<|sm h ▸ Px.jn (.n q (.n q (.n q (.n q (.r q (RK.el (en:=eTok) q hx11 q) npPtr .nil)))))
    refine bd h fun x17 hx17 h=>Px.sq<|W.rd [[],[],[],[2],[2,3],[2,3,4],[],[6],[6,7],[0,2,3,4,5],[0,2,3,4,5,9],[0,2,3,4,5,9,10],rn 0 12 [],rn 0 13 [],rn 0 14 []] [(0,_),(4,_),(5,_),(7,_),(8,.ptr ⟨0,[0]⟩ (x10.1.toNat * eTok.z+0))] mixo (by kernel_rfl) (Dv 0 (O.mv .z5)<|Dv 1 (O.mv .z5)<|Dv 2 (O.mv .z4)<|Dv 3 (O.nlP .z5)<|Dv 4 O.y2<|Dv 5 O.y3<|Dv 6 O.y1<|Dv 7 O.y3<|Dv 8 (O.sub .z1 .z8)<|Dv 9 (O.nlP .z5)<|Dv 10 (O.fE (en:=eTok) q .z5 fd94_3 hx17 q q)<|DL.bu 11 (G2:=[(0,.obj [oR eTok (j14.f_g.Toks.set x10.1.toNat (⟨x17.Name,x17.Lit,x17.Num,j14.f_level,x17.Assoc,x17.Tag⟩:Tok)),oR eNon j14.f_g.Nons,oR eProd_0 j14.f_g.Prods,SS j14.f_g.Pro,SS j14.f_g.Tail,oR eB j14.f_given,oR eNon j14.f_types,oR eS j14.f_lefts,I64 j14.f_e,I64 j14.f_at,SS j14.f_name,I64 j14.f_level,I64 j14.f_inner]),(4,.obj (eDecl_0.cells a1)),(5,.obj (eSym.cells a2)),(7,I64 x10.1),(8,.ptr ⟨0,[0]⟩ (x10.1.toNat * eTok.z+0))]) (U:=[(8,81,some (I64 (w64 (a1.Kind - 1)))),(7,80,some (I64 a1.Kind)),(6,79,some (.ptr ⟨4,[]⟩ 0)),(1,74,some (.ptr ⟨0,[0]⟩ (x10.1.toNat * eTok.z+0)))]) (EffOk.v (EO.eff (EO.stE (en:=eTok) (y2:=(⟨x17.Name,x17.Lit,x17.Num,j14.f_level,x17.Assoc,x17.Tag⟩:Tok)) (cs':=[I64 j14.f_level]) (x2:=.obj [oR eTok (j14.f_g.Toks.set x10.1.toNat (⟨x17.Name,x17.Lit,x17.Num,j14.f_level,x17.Assoc,x17.Tag⟩:Tok)),oR eNon j14.f_g.Nons,oR eProd_0 j14.f_g.Prods,SS j14.f_g.Pro,SS j14.f_g.Tail,oR eB j14.f_given,oR eNon j14.f_types,oR eS j14.f_lefts,I64 j14.f_e,I64 j14.f_at,SS j14.f_name,I64 j14.f_level,I64 j14.f_inner]) q q (.ptr q) (.lit q) q hx17 sz3 q q q q q q q (.b q (.n q q (.n q q (.n q q (.e q q (.mk (en:=eTok) q hx17 q (idx_set_same hx17) q) q .nil)))))))) q q (by kernel_rfl) q q q (.c (.inr (.inl ⟨_,q⟩)) q q q q q (Gd.wanted .none) (O.sub .z1 .z8) (.c (.inr (.inl ⟨_,q⟩)) q q q q q (Gd.wanted .none) (O.ldOl q .z5 ct3 q) (.c (.inr (.inr (.inr (.inl ⟨4,_,_,q,q,of_blt q,by simp,_,q,of_blt q⟩)))) q q q q q (Gd.wanted .none) (O.fO q .z4 fd59_0 q) (.c (.inr (.inr (.inl ⟨8,_,_,q,q,q,by simp⟩))) q q q q q (Gd.wanted .none) (O.mv .z5) .nil)))) (by kernel_rfl)<|Dv 12 (O.nlP .z5)<|Dv 13 (O.fE (en:=eTok) q .z5 fd94_4 (idx_set_same hx17) q q)<|DL.bpz 14 (G2:=[(0,.obj [oR eTok ((j14.f_g.Toks.set x10.1.toNat (⟨x17.Name,x17.Lit,x17.Num,j14.f_level,x17.Assoc,x17.Tag⟩:Tok)).set x10.1.toNat (⟨(⟨x17.Name,x17.Lit,x17.Num,j14.f_level,x17.Assoc,x17.Tag⟩:Tok).Name,(⟨x17.Name,x17.Lit,x17.Num,j14.f_level,x17.Assoc,x17.Tag⟩:Tok).Lit,(⟨x17.Name,x17.Lit,x17.Num,j14.f_level,x17.Assoc,x17.Tag⟩:Tok).Num,(⟨x17.Name,x17.Lit,x17.Num,j14.f_level,x17.Assoc,x17.Tag⟩:Tok).Level,w64 (a1.Kind - 1),(⟨x17.Name,x17.Lit,x17.Num,j14.f_level,x17.Assoc,x17.Tag⟩:Tok).Tag⟩:Tok)),oR eNon j14.f_g.Nons,oR eProd_0 j14.f_g.Prods,SS j14.f_g.Pro,SS j14.f_g.Tail,oR eB j14.f_given,oR eNon j14.f_types,oR eS j14.f_lefts,I64 j14.f_e,I64 j14.f_at,SS j14.f_name,I64 j14.f_level,I64 j14.f_inner]),(4,.obj (eDecl_0.cells a1)),(5,.obj (eSym.cells a2)),(7,I64 x10.1),(8,.ptr ⟨0,[0]⟩ (x10.1.toNat * eTok.z+0))]) (EO.stE (en:=eTok) (y2:=(⟨(⟨x17.Name,x17.Lit,x17.Num,j14.f_level,x17.Assoc,x17.Tag⟩:Tok).Name,(⟨x17.Name,x17.Lit,x17.Num,j14.f_level,x17.Assoc,x17.Tag⟩:Tok).Lit,(⟨x17.Name,x17.Lit,x17.Num,j14.f_level,x17.Assoc,x17.Tag⟩:Tok).Num,(⟨x17.Name,x17.Lit,x17.Num,j14.f_level,x17.Assoc,x17.Tag⟩:Tok).Level,w64 (a1.Kind - 1),(⟨x17.Name,x17.Lit,x17.Num,j14.f_level,x17.Assoc,x17.Tag⟩:Tok).Tag⟩:Tok)) (cs':=[I64 (w64 (a1.Kind - 1))]) (x2:=.obj [oR eTok ((j14.f_g.Toks.set x10.1.toNat (⟨x17.Name,x17.Lit,x17.Num,j14.f_level,x17.Assoc,x17.Tag⟩:Tok)).set x10.1.toNat (⟨(⟨x17.Name,x17.Lit,x17.Num,j14.f_level,x17.Assoc,x17.Tag⟩:Tok).Name,(⟨x17.Name,x17.Lit,x17.Num,j14.f_level,x17.Assoc,x17.Tag⟩:Tok).Lit,(⟨x17.Name,x17.Lit,x17.Num,j14.f_level,x17.Assoc,x17.Tag⟩:Tok).Num,(⟨x17.Name,x17.Lit,x17.Num,j14.f_level,x17.Assoc,x17.Tag⟩:Tok).Level,w64 (a1.Kind - 1),(⟨x17.Name,x17.Lit,x17.Num,j14.f_level,x17.Assoc,x17.Tag⟩:Tok).Tag⟩:Tok)),oR eNon j14.f_g.Nons,oR eProd_0 j14.f_g.Prods,SS j14.f_g.Pro,SS j14.f_g.Tail,oR eB j14.f_given,oR eNon j14.f_types,oR eS j14.f_lefts,I64 j14.f_e,I64 j14.f_at,SS j14.f_name,I64 j14.f_level,I64 j14.f_inner]) q q (.ptr q) (.lit q) q (idx_set_same hx17) sz3 q q q q q q q (.b q (.n q q (.n q q (.n q q (.e q q (.mk (en:=eTok) q (idx_set_same hx17) q (idx_set_same (idx_set_same hx17)) q) q .nil))))))<|DL.fin q q q (.n q (.n q (.n q (.n q (.r q (RK.el (en:=eTok) q (idx_set_same (idx_set_same hx17)) q) npPtr .nil)))))) ?_
    exact sm h ▸ Px.jn (.n q (.n q (.n q (.n q (.r q (RK.el (en:=eTok) q (idx_set_same (idx_set_same hx17)) q) npPtr .nil)))))
   ·exact W.sk<|sm h ▸ Px.jn (.n q (.n q (.n q (.n q (.r q (RK.el (en:=eTok) q hx11 q) npPtr .nil)))))
  refine bd h fun x18 hx18 h=>Px.sq<|W.sq'<|W.rs [(0,_),(4,_),(5,_),(7,_),(8,.ptr ⟨0,[0]⟩ (x10.1.toNat * eTok.z+0)),(88,_)] (Rv O.y1<|Rv O.y3<|Rv (O.gtr .z1 .z8)<|Fi (.n q (.n q (.n q (.n q (.r q (RK.el (en:=eTok) q hx18 q) npPtr (.n q .nil))))))) ?_
  refine bd h fun j19 hj h=>W.jq [0,4,5,8] [(0,.obj (eyuccaref9_maker_r.cells j19))] ?_ ?_
  ·clear h; have h:=hj; clear hj
   refine W.ch h q (fun hb20 h=>?_) (fun hb20 h=>?_)
   ·refine W.sq'<|bd h fun c25 hj h=>W.rz [0,4,5,7,8,106] [(106,BB c25)] ?_ ?_
    ·refine Vm q<|Rv (O.eql .z1 .z8)<|Rv (O.mv (.lit q)) ?_
     rcases cnd hj with ⟨hb21,hj⟩ | ⟨hb21,hj⟩
     ·exact sm hj ▸ (Ps hb21<|Ps hb21<|Ps hb21<|Ps hb21<|Ps hb21<|Ps hb21<|Ps hb21<|Rv (O.pkT .z1 hb21 .z8)<|Vm q<|Ps q<|Ps q<|Ps q<|Ps q<|Ps q<|Rv (O.pkT .z1 q .z8)<|Fi (.n q (.n q (.n q (.n q (.r q (RK.el (en:=eTok) q hx18 q) npPtr (.n q .nil)))))))
     ·refine Yv hb21 (O.mv .z4)<|Yv hb21 (O.nlP .z5)<|Yv hb21 O.y2<|Yv hb21 (O.y5 (y:=.brw eB.z ⟨0,[5]⟩ j12.f_given.length))<|Yv hb21 (O.mv (.lit q)) ?_
      refine bd hj fun x22 hx22 hj=>Yv hb21 (O.ixO (en:=eB) q .z6 .z1 sl56 hx22 q)<|Yv hb21 (O.ldE (en:=eB) (x':=BB x22) q .z5 ct4 hx22 q q)<|Rv (O.pkF .z1 hb21 .z1)<|Rv (O.mv (.lit q)) ?_
      rcases cnd hj with ⟨hb23,hj⟩ | ⟨hb23,hj⟩
      ·exact sm hj ▸ (Ps hb23<|Ps hb23<|Ps hb23<|Ps hb23<|Ps hb23<|Rv (O.pkT .z1 hb23 .z8)<|Fi (.n q (.n q (.n q (.n q (.r q (RK.el (en:=eTok) q hx18 q) npPtr (.n q .nil)))))))
      ·refine Yv hb23 (O.mv .z4)<|Yv hb23 O.y1<|Yv hb23 O.y3 ?_
       exact bd hj fun x24 hx24 hj=>sm hj ▸ (RunL.c (PC.vz (ys:=[.ptr ⟨0,[]⟩ 0,I64 a2.Num]) q (.c (View.p0 q q) (.s .nil)) (CF.go hx24)) q q (.yb q q hb23)<|Yv hb23 (O.geq .z1 .z8)<|Rv (O.pkF .z1 hb23 .z1)<|Fi (.n q (.n q (.n q (.n q (.r q (RK.el (en:=eTok) q hx18 q) npPtr (.n q .nil)))))))
    refine bd h fun j26 hj h=>W.jq [0,4,5,7,8] [(0,.obj (eyuccaref9_maker_r.cells j26))] ?_ ?_
    ·clear h; have h:=hj; clear hj
     refine W.ch h q (fun hb27 h=>?_) (fun hb27 h=>?_)
     ·refine bd h fun x28 hx28 h=>W.rx [(0,_),(4,_),(5,_),(7,_),(8,.ptr ⟨0,[0]⟩ (x10.1.toNat * eTok.z+0))] (Rv (O.mv .z4)<|Rv O.y1<|Rv O.y3<|Rv O.y1<|Rv O.y3<|RunL.ef (G2:=[(8,.ptr ⟨0,[0]⟩ (x10.1.toNat * eTok.z+0))]++[(112,.tup []),(0,.obj [oR eTok j12.f_g.Toks,oR eNon x28.f_g.Nons,oR eProd_0 x28.f_g.Prods,SS x28.f_g.Pro,SS x28.f_g.Tail,oR eB x28.f_given,oR eNon x28.f_types,oR eS x28.f_lefts,I64 x28.f_e,I64 x28.f_at,SS x28.f_name,I64 x28.f_level,I64 x28.f_inner]),(4,.obj (eDecl_0.cells a1)),(5,.obj (eSym.cells a2)),(7,I64 x10.1)]) q (EO.fr (r:=0) (k0:=0) (y:=oR eTok j12.f_g.Toks) (cs5:=[oR eTok j12.f_g.Toks,oR eNon x28.f_g.Nons,oR eProd_0 x28.f_g.Prods,SS x28.f_g.Pro,SS x28.f_g.Tail,oR eB x28.f_given,oR eNon x28.f_types,oR eS x28.f_lefts,I64 x28.f_e,I64 x28.f_at,SS x28.f_name,I64 x28.f_level,I64 x28.f_inner]) (G1:=fun v=>[(0,.obj [.lit v,oR eNon j12.f_g.Nons,oR eProd_0 j12.f_g.Prods,SS j12.f_g.Pro,SS j12.f_g.Tail,oR eB j12.f_given,oR eNon j12.f_types,oR eS j12.f_lefts,I64 j12.f_e,I64 j12.f_at,SS j12.f_name,I64 j12.f_level,I64 j12.f_inner]),(4,.obj (eDecl_0.cells a1)),(5,.obj (eSym.cells a2)),(7,I64 x10.1),(107,.ptr ⟨0,[]⟩ 0),(109,I64 a2.At),(111,SS a2.Name)]) (G4:=fun v=>[(112,.tup []),(0,.obj [.lit v,oR eNon x28.f_g.Nons,oR eProd_0 x28.f_g.Prods,SS x28.f_g.Pro,SS x28.f_g.Tail,oR eB x28.f_given,oR eNon x28.f_types,oR eS x28.f_lefts,I64 x28.f_e,I64 x28.f_at,SS x28.f_name,I64 x28.f_level,I64 x28.f_inner]),(4,.obj (eDecl_0.cells a1)),(5,.obj (eSym.cells a2)),(7,I64 x10.1)]) (c4:=fun v=>[.lit v,oR eNon x28.f_g.Nons,oR eProd_0 x28.f_g.Prods,SS x28.f_g.Pro,SS x28.f_g.Tail,oR eB x28.f_given,oR eNon x28.f_types,oR eS x28.f_lefts,I64 x28.f_e,I64 x28.f_at,SS x28.f_name,I64 x28.f_level,I64 x28.f_inner]) (G5:=[(112,.tup []),(0,.obj [oR eTok j12.f_g.Toks,oR eNon x28.f_g.Nons,oR eProd_0 x28.f_g.Prods,SS x28.f_g.Pro,SS x28.f_g.Tail,oR eB x28.f_given,oR eNon x28.f_types,oR eS x28.f_lefts,I64 x28.f_e,I64 x28.f_at,SS x28.f_name,I64 x28.f_level,I64 x28.f_inner]),(4,.obj (eDecl_0.cells a1)),(5,.obj (eSym.cells a2)),(7,I64 x10.1)]) (A:=[(8,.ptr ⟨0,[0]⟩ (x10.1.toNat * eTok.z+0))]) q q q q (fun v=>(.b q (.n q q (.n q q (.n q q (.p q q q q q q (.n q q (.n q q .nil)))))))) (fun v=>CallOk.ln (G2:=[(4,.obj (eDecl_0.cells a1)),(5,.obj (eSym.cells a2)),(7,I64 x10.1)]) (A:=[]) (ys:=[.ptr ⟨0,[]⟩ 0,I64 a2.At,SS a2.Name]) (args:=[.obj [.lit v,oR eNon j12.f_g.Nons,oR eProd_0 j12.f_g.Prods,SS j12.f_g.Pro,SS j12.f_g.Tail,oR eB j12.f_given,oR eNon j12.f_types,oR eS j12.f_lefts,I64 j12.f_e,I64 j12.f_at,SS j12.f_name,I64 j12.f_level,I64 j12.f_inner],I64 a2.At,SS a2.Name]) (cs':=[.lit v,oR eNon x28.f_g.Nons,oR eProd_0 x28.f_g.Prods,SS x28.f_g.Pro,SS x28.f_g.Tail,oR eB x28.f_given,oR eNon x28.f_types,oR eS x28.f_lefts,I64 x28.f_e,I64 x28.f_at,SS x28.f_name,I64 x28.f_level,I64 x28.f_inner]) (k0:=0) q q q q (.b q (.n q (.n q .nil))) q (conq101_0 v j12 a2.At a2.Name _ hx28) call101 (tn3 q q q) q q (tn3 q q q) .nil q) (fun v=>q) (fun v=>q) (fun v=>q) (fun v=>(.n q q (.b q (.n q q (.n q q (.n q q .nil)))))) q (.c (en:=eTok) (L:=j12.f_g.Toks) q q hx18 q q q .nil))<|Fi (.n q (.n q (.n q (.n q (.r q (RK.el (en:=eTok) q hx18 q) npPtr .nil)))))) ?_
      exact sm h ▸ Px.jn (.n q (.n q (.n q (.n q (.r q (RK.el (en:=eTok) q hx18 q) npPtr .nil)))))
     ·exact W.sk<|sm h ▸ Px.jn (.n q (.n q (.n q (.n q (.r q (RK.el (en:=eTok) q hx18 q) npPtr .nil)))))
    refine bd h fun x29 hx29 h=>Px.sq<|W.rs [(0,_),(4,_),(5,_),(7,_),(8,.ptr ⟨0,[0]⟩ (x10.1.toNat * eTok.z+0))] (Rv (O.mv .z5)<|Rv O.y1<|Rv O.y3<|Rv (O.nlP .z5)<|Rv (O.fE (en:=eTok) q .z5 fd94_2 hx29 q q)<|RunL.ef (G2:=[(0,.obj [oR eTok (j26.f_g.Toks.set x10.1.toNat (⟨x29.Name,x29.Lit,a2.Num,x29.Level,x29.Assoc,x29.Tag⟩:Tok)),oR eNon j26.f_g.Nons,oR eProd_0 j26.f_g.Prods,SS j26.f_g.Pro,SS j26.f_g.Tail,oR eB j26.f_given,oR eNon j26.f_types,oR eS j26.f_lefts,I64 j26.f_e,I64 j26.f_at,SS j26.f_name,I64 j26.f_level,I64 j26.f_inner]),(4,.obj (eDecl_0.cells a1)),(5,.obj (eSym.cells a2)),(7,I64 x10.1),(8,.ptr ⟨0,[0]⟩ (x10.1.toNat * eTok.z+0))]) q (EO.stE (en:=eTok) (y2:=(⟨x29.Name,x29.Lit,a2.Num,x29.Level,x29.Assoc,x29.Tag⟩:Tok)) (cs':=[I64 a2.Num]) (x2:=.obj [oR eTok (j26.f_g.Toks.set x10.1.toNat (⟨x29.Name,x29.Lit,a2.Num,x29.Level,x29.Assoc,x29.Tag⟩:Tok)),oR eNon j26.f_g.Nons,oR eProd_0 j26.f_g.Prods,SS j26.f_g.Pro,SS j26.f_g.Tail,oR eB j26.f_given,oR eNon j26.f_types,oR eS j26.f_lefts,I64 j26.f_e,I64 j26.f_at,SS j26.f_name,I64 j26.f_level,I64 j26.f_inner]) q q (.ptr q) (.lit q) q hx29 sz3 q q q q q q q (.b q (.n q q (.n q q (.n q q (.e q q (.mk (en:=eTok) q hx29 q (idx_set_same hx29) q) q .nil))))))<|Fi (.n q (.n q (.n q (.n q (.r q (RK.el (en:=eTok) q (idx_set_same hx29) q) npPtr .nil)))))) ?_
    refine bd h fun x30 hx30 h=>W.rx [(0,_),(4,_),(5,_),(8,.ptr ⟨0,[0]⟩ (x10.1.toNat * eTok.z+0))] (Rv (O.mv .z4)<|Rv (O.nlP .z5)<|Rv O.y2<|Rv (O.y5 (y:=.brw eB.z ⟨0,[5]⟩ j26.f_given.length))<|Vm q<|Rv (O.ixO (en:=eB) q .z6 .z1 sl56 hx30 q)<|RunL.ef (G2:=[(0,.obj [oR eTok (j26.f_g.Toks.set x10.1.toNat (⟨x29.Name,x29.Lit,a2.Num,x29.Level,x29.Assoc,x29.Tag⟩:Tok)),oR eNon j26.f_g.Nons,oR eProd_0 j26.f_g.Prods,SS j26.f_g.Pro,SS j26.f_g.Tail,oR eB (j26.f_given.set x10.1.toNat true),oR eNon j26.f_types,oR eS j26.f_lefts,I64 j26.f_e,I64 j26.f_at,SS j26.f_name,I64 j26.f_level,I64 j26.f_inner]),(4,.obj (eDecl_0.cells a1)),(5,.obj (eSym.cells a2)),(8,.ptr ⟨0,[0]⟩ (x10.1.toNat * eTok.z+0))]) q (EO.stE (en:=eB) (y2:=true) (cs':=[BB true]) (x2:=.obj [oR eTok (j26.f_g.Toks.set x10.1.toNat (⟨x29.Name,x29.Lit,a2.Num,x29.Level,x29.Assoc,x29.Tag⟩:Tok)),oR eNon j26.f_g.Nons,oR eProd_0 j26.f_g.Prods,SS j26.f_g.Pro,SS j26.f_g.Tail,oR eB (j26.f_given.set x10.1.toNat true),oR eNon j26.f_types,oR eS j26.f_lefts,I64 j26.f_e,I64 j26.f_at,SS j26.f_name,I64 j26.f_level,I64 j26.f_inner]) q q (.ptr q) (.k q) q hx30 sz4 q q q q q q q (.b q (.n q q (.n q q (.e q q (.mk (en:=eTok) q (idx_set_same hx29) q (idx_set_same hx29) q) q .nil)))))<|Fi (.n q (.n q (.n q (.r q (RK.el (en:=eTok) q (idx_set_same hx29) q) npPtr .nil))))) ?_
    exact sm h ▸ Px.jn (.n q (.n q (.n q (.r q (RK.el (en:=eTok) q (idx_set_same hx29) q) npPtr .nil))))
   ·exact W.sk<|sm h ▸ Px.jn (.n q (.n q (.n q (.r q (RK.el (en:=eTok) q hx18 q) npPtr .nil))))
  refine bd h fun x31 hx31 h=>Px.sq<|W.rs [(0,_),(4,_),(5,_),(8,.ptr ⟨0,[0]⟩ (x10.1.toNat * eTok.z+0)),(126,_)] (Rv O.y1<|Rv O.y3<|Rv (O.neS .z1 .z8)<|Fi (.n q (.n q (.n q (.r q (RK.el (en:=eTok) q hx31 q) npPtr (.n q .nil)))))) ?_
  refine bd h fun j32 hj h=>W.jq [0] [(0,.obj (eyuccaref9_maker_r.cells j32))] ?_ ?_
  ·clear h; have h:=hj; clear hj
   refine W.ch h q (fun hb33 h=>?_) (fun hb33 h=>?_)
   ·refine W.sq'<|W.sq'<|bd h fun c35 hj h=>W.rd [[],[0],[0,1],[0,1,2],[0,1,2,3],rn 0 5 [],rn 0 6 [],rn 0 7 [],rn 0 8 [],rn 0 9 [],rn 0 6 [],rn 0 6 [10],rn 0 12 [],rn 0 13 []] [(0,.obj (eyuccaref9_maker_r.cells j19)),(4,.obj (eDecl_0.cells a1)),(5,.obj (eSym.cells a2)),(8,.ptr ⟨0,[0]⟩ (x10.1.toNat * eTok.z+0)),(140,BB c35)] mixo (by kernel_rfl) ?_ ?_
    ·refine Dv 0 (O.mv .z5)<|Dv 1 (O.nlP .z5)<|Dv 2 (O.fE (en:=eTok) q .z5 fd94_5 hx31 q q)<|Dv 3 (O.ldE (en:=eTok) (x':=SS x31.Tag) q .z5 ct9 hx31 q q)<|Dv 4 (O.neS .z1 .z8)<|Dv 5 (O.mv (.lit q)) ?_
     rcases cnd hj with ⟨hb34,hj⟩ | ⟨hb34,hj⟩
     ·exact sm hj ▸ (DYv 6 hb34 (O.mv .z5)<|DYv 7 hb34 (O.nlP .z5)<|DYv 8 hb34 (O.fE (en:=eTok) q .z5 fd94_5 hx31 q q)<|DYv 9 hb34 (O.ldE (en:=eTok) (x':=SS x31.Tag) q .z5 ct9 hx31 q q)<|DYv 10 hb34 O.y1<|DYv 11 hb34 O.y3<|DYv 12 hb34 (O.neS .z1 .z1)<|Dv 13 (O.pkT .z1 hb34 .z1)<|DL.fin q q q (.n q (.n q (.n q (.r q (RK.el (en:=eTok) q hx31 q) npPtr (.n q .nil))))))
     ·exact sm hj ▸ (DPs 6 hb34<|DPs 7 hb34<|DPs 8 hb34<|DPs 9 hb34<|DPs 10 hb34<|DPs 11 hb34<|DPs 12 hb34<|Dv 13 (O.pkF .z1 hb34 .z8)<|DL.fin q q q (.n q (.n q (.n q (.r q (RK.el (en:=eTok) q hx31 q) npPtr (.n q .nil))))))
    refine Px.sq<|bd h fun j36 hj h=>W.jq [0,4,8] [(0,.obj (eyuccaref9_maker_r.cells j36))] ?_ ?_
    ·clear h; have h:=hj; clear hj
     refine W.ch h q (fun hb37 h=>?_) (fun hb37 h=>?_)
     ·refine bd h fun x38 hx38 h=>W.rx [(0,_),(4,_),(8,.ptr ⟨0,[0]⟩ (x10.1.toNat * eTok.z+0))] (Rv (O.mv .z4)<|Rv O.y1<|Rv O.y3<|Rv O.y1<|Rv O.y3<|RunL.ef (G2:=[(8,.ptr ⟨0,[0]⟩ (x10.1.toNat * eTok.z+0))]++[(146,.tup []),(0,.obj [oR eTok j19.f_g.Toks,oR eNon x38.f_g.Nons,oR eProd_0 x38.f_g.Prods,SS x38.f_g.Pro,SS x38.f_g.Tail,oR eB x38.f_given,oR eNon x38.f_types,oR eS x38.f_lefts,I64 x38.f_e,I64 x38.f_at,SS x38.f_name,I64 x38.f_level,I64 x38.f_inner]),(4,.obj (eDecl_0.cells a1))]) q (EO.fr (r:=0) (k0:=0) (y:=oR eTok j19.f_g.Toks) (cs5:=[oR eTok j19.f_g.Toks,oR eNon x38.f_g.Nons,oR eProd_0 x38.f_g.Prods,SS x38.f_g.Pro,SS x38.f_g.Tail,oR eB x38.f_given,oR eNon x38.f_types,oR eS x38.f_lefts,I64 x38.f_e,I64 x38.f_at,SS x38.f_name,I64 x38.f_level,I64 x38.f_inner]) (G1:=fun v=>[(0,.obj [.lit v,oR eNon j19.f_g.Nons,oR eProd_0 j19.f_g.Prods,SS j19.f_g.Pro,SS j19.f_g.Tail,oR eB j19.f_given,oR eNon j19.f_types,oR eS j19.f_lefts,I64 j19.f_e,I64 j19.f_at,SS j19.f_name,I64 j19.f_level,I64 j19.f_inner]),(4,.obj (eDecl_0.cells a1)),(141,.ptr ⟨0,[]⟩ 0),(143,I64 a2.At),(145,SS a2.Name)]) (G4:=fun v=>[(146,.tup []),(0,.obj [.lit v,oR eNon x38.f_g.Nons,oR eProd_0 x38.f_g.Prods,SS x38.f_g.Pro,SS x38.f_g.Tail,oR eB x38.f_given,oR eNon x38.f_types,oR eS x38.f_lefts,I64 x38.f_e,I64 x38.f_at,SS x38.f_name,I64 x38.f_level,I64 x38.f_inner]),(4,.obj (eDecl_0.cells a1))]) (c4:=fun v=>[.lit v,oR eNon x38.f_g.Nons,oR eProd_0 x38.f_g.Prods,SS x38.f_g.Pro,SS x38.f_g.Tail,oR eB x38.f_given,oR eNon x38.f_types,oR eS x38.f_lefts,I64 x38.f_e,I64 x38.f_at,SS x38.f_name,I64 x38.f_level,I64 x38.f_inner]) (G5:=[(146,.tup []),(0,.obj [oR eTok j19.f_g.Toks,oR eNon x38.f_g.Nons,oR eProd_0 x38.f_g.Prods,SS x38.f_g.Pro,SS x38.f_g.Tail,oR eB x38.f_given,oR eNon x38.f_types,oR eS x38.f_lefts,I64 x38.f_e,I64 x38.f_at,SS x38.f_name,I64 x38.f_level,I64 x38.f_inner]),(4,.obj (eDecl_0.cells a1))]) (A:=[(8,.ptr ⟨0,[0]⟩ (x10.1.toNat * eTok.z+0))]) q q q q (fun v=>(.b q (.n q q (.p q q q q q q (.n q q (.n q q .nil)))))) (fun v=>CallOk.ln (G2:=[(4,.obj (eDecl_0.cells a1))]) (A:=[]) (ys:=[.ptr ⟨0,[]⟩ 0,I64 a2.At,SS a2.Name]) (args:=[.obj [.lit v,oR eNon j19.f_g.Nons,oR eProd_0 j19.f_g.Prods,SS j19.f_g.Pro,SS j19.f_g.Tail,oR eB j19.f_given,oR eNon j19.f_types,oR eS j19.f_lefts,I64 j19.f_e,I64 j19.f_at,SS j19.f_name,I64 j19.f_level,I64 j19.f_inner],I64 a2.At,SS a2.Name]) (cs':=[.lit v,oR eNon x38.f_g.Nons,oR eProd_0 x38.f_g.Prods,SS x38.f_g.Pro,SS x38.f_g.Tail,oR eB x38.f_given,oR eNon x38.f_types,oR eS x38.f_lefts,I64 x38.f_e,I64 x38.f_at,SS x38.f_name,I64 x38.f_level,I64 x38.f_inner]) (k0:=0) q q q q (.b q (.n q (.n q .nil))) q (conq101_0 v j19 a2.At a2.Name _ hx38) call101 (.n q .nil) q q (.n q .nil) .nil q) (fun v=>q) (fun v=>q) (fun v=>q) (fun v=>(.n q q (.b q (.n q q .nil)))) q (.c (en:=eTok) (L:=j19.f_g.Toks) q q hx31 q q q .nil))<|Fi (.n q (.n q (.r q (RK.el (en:=eTok) q hx31 q) npPtr .nil)))) ?_
      exact sm h ▸ Px.jn (.n q (.n q (.r q (RK.el (en:=eTok) q hx31 q) npPtr .nil)))
     ·exact W.sk<|sm h ▸ Px.jn (.n q (.n q (.r q (RK.el (en:=eTok) q hx31 q) npPtr .nil)))
    refine bd h fun x39 hx39 h=>Px.sq<|W.rk [0] (Rv (O.mv .z5)<|Rv O.y1<|Rv O.y3<|Rv (O.nlP .z5)<|Rv (O.fE (en:=eTok) q .z5 fd94_5 hx39 q q)<|RunL.f' (EO.se (en:=eTok) (y2:=(⟨x39.Name,x39.Lit,x39.Num,x39.Level,x39.Assoc,a1.Tag⟩:Tok)) [0] hx39)<|Fk q) ?_
    exact sm h ▸ Px.jt
   ·exact W.sk<|sm h ▸ Px.jt
  exact sm h ▸ Px.fin (Fin.ro .nil q (ode (by kernel_rfl)) (.so q q (.no (.no .nil))) q (.inl q))
instance con100 {a0:yuccaref9_maker}{a1:Decl}{a2:Sym}{r:yuccaref9_maker}:CF Tryz.prog 100 (pf100 a0 a1 a2=some r) [.obj (eyuccaref9_maker_r.cells a0),.agg (eDecl_0.cells a1),.agg (eSym.cells a2)] [some (.obj [oR eTok r.f_g.Toks,oR eNon r.f_g.Nons,oR eProd_0 r.f_g.Prods,SS r.f_g.Pro,SS r.f_g.Tail,oR eB r.f_given,oR eNon r.f_types,oR eS r.f_lefts,I64 r.f_e,I64 r.f_at,SS r.f_name,I64 r.f_level,I64 r.f_inner]),none,none] (.tup []):=⟨con100l a0 a1 a2 _⟩
instance con103 {a0:yuccaref9_maker}{a1:ByteArray}{r:Int}:CF Tryz.prog 103 (pf103 a0 a1=some r) [.iptr ([iR eTok a0.f_g.Toks,iR eNon a0.f_g.Nons,iR eProd_0 a0.f_g.Prods,SS a0.f_g.Pro,SS a0.f_g.Tail,iR eB a0.f_given,iR eNon a0.f_types,iR eS a0.f_lefts,I64 a0.f_e,I64 a0.f_at,SS a0.f_name,I64 a0.f_level,I64 a0.f_inner]),SS a1] [none,none] (I64 r):=⟨fun h=>by unfold pf103 at h; exact Con.au (N:=⟨25,[]⟩) [0,1,4,5,12,23] (.l2 (fun (s1:Int)=>[(5,I64 s1)]) [0,1,5] 0 (fun (x3:Unit)=>[]) [] (fun (x4:Int)=>[(4,I64 x4)]) [4] .e .e .e) Tryz.func103 rfl rfl rfl rfl rfl goW⟩
instance con120 {a0:yuccaref9_maker}{a1:Sym}{r:Int × yuccaref9_maker}:CF Tryz.prog 120 (pf120 a0 a1=some r) [.obj (eyuccaref9_maker_r.cells a0),.agg (eSym.cells a1)] [some (.obj [oR eTok r.2.f_g.Toks,oR eNon r.2.f_g.Nons,oR eProd_0 r.2.f_g.Prods,SS r.2.f_g.Pro,SS r.2.f_g.Tail,oR eB r.2.f_given,oR eNon r.2.f_types,oR eS r.2.f_lefts,I64 r.2.f_e,I64 r.2.f_at,SS r.2.f_name,I64 r.2.f_level,I64 r.2.f_inner]),none] (I64 r.1):=⟨fun h=>by unfold pf120 at h; exact Con.au (N:=⟨32,[0]⟩) [0,3,4,5,6,8,17,24] .e Tryz.func120 rfl rfl rfl rfl rfl goW⟩
theorem con104l (a0:yuccaref9_maker) (a1:ByteArray) (a2:Alt) (r:yuccaref9_maker) (h:pf104 a0 a1 a2=some r):Con Tryz.prog 104 [.obj (eyuccaref9_maker_r.cells a0),SS a1,.agg (eAlt_0.cells a2)] [some (.obj [oR eTok r.f_g.Toks,oR eNon r.f_g.Nons,oR eProd_0 r.f_g.Prods,SS r.f_g.Pro,SS r.f_g.Tail,oR eB r.f_given,oR eNon r.f_types,oR eS r.f_lefts,I64 r.f_e,I64 r.f_at,SS r.f_name,I64 r.f_level,I64 r.f_inner]),none,none] (.tup []):=by
 unfold pf104 at h
 refine Con.go (N:=⟨173,[0]⟩) Tryz.func104 q q q q (W.fin ?_)
 refine W.st [(0,.obj (eyuccaref9_maker_r.cells a0)),(1,SS a1),(2,.agg (eAlt_0.cells a2))] ?_
 refine W.rq [0,1,5] (Rv (O.box (.aggF q q) q)<|Fk q) ?_
 refine W.sq'<|bd h fun x1 hx1 h=>W.rd [[],[],[0,1],[0,1,2],[],[4],rn 0 6 [],[],rn 0 8 []] [(0,_),(5,_),(6,_)] mixo (by kernel_rfl) (Dv 0 (O.mv .z4)<|Dv 1 (O.mv (.lit q))<|Dc 2 (PC.vz (ys:=[.ptr ⟨0,[]⟩ 0,SS a1]) q (.c (View.p0 q q) (.s .nil)) (CF.go hx1))<|Dv 3 (O.add .z8 .z1)<|Dv 4 O.y1<|Dv 5 O.y3<|Dv 6 (O.bu (cs:=[I64 (w64 (1+x1)),.nils,I64 (-1),SS S0,.nils,I64 a2.At]) sc110 ze110 q q q)<|Dv 7 (O.al (cs:=[I64 0,.nils,I64 0,SS S0,.nils,I64 0]) ze110 q q)<|DL.bpz 8 (EO.sva [0,5,6])<|DL.fin q q q (tn3 q q q)) ?_
 refine Px.sq<|W.sq'<|W.aq [0,5,6,7] ?_
 refine W.bk<|bd h fun x3 hl h=>W.l1 (a0,([]:List Int),S0,a2.At,0) (fun (s2:yuccaref9_maker × List Int × ByteArray × Int × Int)=>[(0,.obj (eyuccaref9_maker_r.cells s2.1)),(6,.obj [I64 (w64 (1+x1)),oR eI s2.2.1,I64 (-1),SS s2.2.2.1,.nils,I64 s2.2.2.2.1]),(7,I64 s2.2.2.2.2)]) [0,5,6,7] 0 (fun (x3:yuccaref9_maker × List Int × ByteArray × Int)=>[(0,.obj (eyuccaref9_maker_r.cells x3.1)),(6,.obj [I64 (w64 (1+x1)),oR eI x3.2.1,I64 (-1),SS x3.2.2.1,.nils,I64 x3.2.2.2])]) [0,5,6] hl (fun s2 o h=>?_) ?_
 ·clear hl
  refine W.sq'<|W.aq [0,5,6,7,21] ?_
  refine W.ch h q (fun hb5 h=>?_) (fun hb5 h=>?_)
  ·refine W.sk<|Px.sq<|W.sq'<|bd h fun j6 hj h=>W.jq [0,5,6,7] [(0,.obj (eyuccaref9_maker_r.cells j6.1)),(6,.obj [I64 (w64 (1+x1)),oR eI j6.2.1,I64 (-1),SS j6.2.2.1,.nils,I64 j6.2.2.2])] ?_ ?_
   ·clear h; have h:=hj; clear hj
    refine W.bk<|bd h fun x7 hx7 h=>W.rq [0,5,6,7,8] (Rv O.y1<|Rv (O.y5 (y:=iR ePart a2.Parts))<|Vm q<|Rv (O.y4 hx7)<|Rv (O.ldIN (cs':=ePart.cells x7) .z7 at67 q q)<|Rv (O.al (cs:=[SS S0,BB false,I64 0,I64 0,SS S0,I64 0]) ze67 q q)<|RunL.f' (EO.sva [0,5,6,7,8])<|Fk q) ?_
    refine bd h fun j8 hj h=>W.jq [0,5,6,7] [(0,.obj (eyuccaref9_maker_r.cells j8.1)),(6,.obj [I64 (w64 (1+x1)),oR eI j8.2.1,I64 (-1),SS j8.2.2.1,.nils,I64 j8.2.2.2])] ?_ ?_
    ·clear h; have h:=hj; clear hj
     refine W.bk<|W.aq [0,5,6,7,8,82] ?_
     refine bd h fun j9 hj h=>W.jq [0,5,6,7] [(0,.obj (eyuccaref9_maker_r.cells j9.1)),(6,.obj [I64 (w64 (1+x1)),oR eI j9.2.1,I64 (-1),SS j9.2.2.1,.nils,I64 j9.2.2.2])] ?_ ?_
     ·clear h; have h:=hj; clear hj
      refine W.ch h q (fun hb10 h=>?_) (fun hb10 h=>?_)
      ·refine bd h fun x11 hx11 h=>bd h fun x12 hx12 h=>W.rd [[],[0],[],[],[3],[2,3,4],[2,3,4,5],rn 0 7 [],rn 0 8 [],rn 0 9 []] [(0,_),(5,_),(6,_),(7,_)] mixo (by kernel_rfl) (Dv 0 O.y1<|Dv 1 (O.y5 (y:=.brw eI.z ⟨6,[1]⟩ s2.2.1.length))<|Dv 2 (O.mv .z4)<|Dv 3 O.y1<|Dv 4 (O.ldON (cs':=eSym.cells x7.Sym) q .z5 at62 q q)<|DL.bu 5 (G2:=(6,.obj [I64 (w64 (1+x1)),oR eI s2.2.1,I64 (-1),SS s2.2.2.1,.nils,I64 s2.2.2.2.1])::[(91,I64 x11.1),(0,.obj (eyuccaref9_maker_r.cells x11.2)),(5,.obj (eAlt_0.cells a2)),(7,I64 s2.2.2.2.2)]) (U:=[(1,87,some (.brw eI.z ⟨6,[1]⟩ s2.2.1.length)),(0,86,some (.ptr ⟨6,[]⟩ 1))]) (EffV.box (r:=6) (G1:=[(0,.obj (eyuccaref9_maker_r.cells s2.1)),(5,.obj (eAlt_0.cells a2)),(7,I64 s2.2.2.2.2),(88,.ptr ⟨0,[]⟩ 0),(90,.agg (eSym.cells x7.Sym))]) (G2:=[(91,I64 x11.1),(0,.obj (eyuccaref9_maker_r.cells x11.2)),(5,.obj (eAlt_0.cells a2)),(7,I64 s2.2.2.2.2)]) (EO.call q q (CallOk.ln (G2:=[(5,.obj (eAlt_0.cells a2)),(7,I64 s2.2.2.2.2)]) (A:=[]) (ys:=[.ptr ⟨0,[]⟩ 0,.agg (eSym.cells x7.Sym)]) (args:=[.obj (eyuccaref9_maker_r.cells s2.1),.agg (eSym.cells x7.Sym)]) (cs':=eyuccaref9_maker_r.cells x11.2) (k0:=0) q q q q (.b q (.n q .nil)) q (CF.go hx11) call120 (tn2 q q) q q (tn2 q q) .nil q)) q (.n q (.n q (.n q (.q q q q (.n q .nil))))) q q q) q q (by kernel_rfl) q q q (.c (.inl ⟨6,[1],_,_,_,_,q,by simp [rsV],q,q,Nat.le_refl _⟩) q q q q q (Gd.wanted .none) (O.ldO (y:=.brw eI.z ⟨6,[1]⟩ s2.2.1.length) q .z5 ct22 q q) (.c (.inr (.inr (.inr (.inl ⟨6,_,_,q,q,of_blt q,by simp,_,q,of_blt q⟩)))) q q q q q (Gd.wanted .none) (O.fO q .z4 fd110_1 q) .nil)) (by kernel_rfl)<|DL.vi 6 (x:=iR eI [x11.1]) (O.bs (ys:=[I64 x11.1]) eI [x11.1] sl22 q q q q q q zt3 q q) q q q q .none<|Dv 7 (O.ap (en:=eI) (r:=x12) .z6 q .z2 .i ap22 q hx12)<|Dv 8 O.y1<|DL.bpz 9 (EO.sp [0,5,6,7])<|DL.fin q q q (tn4 q q q q)) ?_
       exact sm h ▸ Px.jt
      ·refine W.aq [0,5,6,7,8,95] ?_
       refine bd h fun j13 hj h=>W.jq [0,5,6,7] [(0,.obj [oR eTok s2.1.f_g.Toks,oR eNon s2.1.f_g.Nons,oR eProd_0 j13.1,SS s2.1.f_g.Pro,SS s2.1.f_g.Tail,oR eB s2.1.f_given,oR eNon s2.1.f_types,oR eS s2.1.f_lefts,I64 s2.1.f_e,I64 s2.1.f_at,SS s2.1.f_name,I64 s2.1.f_level,I64 j13.2.1]),(6,.obj [I64 (w64 (1+x1)),oR eI j13.2.2.1,I64 (-1),SS j13.2.2.2.1,.nils,I64 j13.2.2.2.2])] ?_ ?_
       ·clear h; have h:=hj; clear hj
        refine W.ch h q (fun hb14 h=>?_) (fun hb14 h=>?_)
        ·refine W.rd [[],[0],[],[2],[0,1],[0,1,4],rn 0 6 [],rn 0 7 []] [(0,_),(5,_),(6,_),(7,_)] mixo (by kernel_rfl) (Dv 0 O.y1<|Dv 1 O.y3<|Dv 2 O.y1<|Dv 3 O.y3<|Dv 4 O.y1<|DL.bu 5 (G2:=[(0,.obj (eyuccaref9_maker_r.cells s2.1)),(5,.obj (eAlt_0.cells a2)),(6,.obj [I64 (w64 (1+x1)),oR eI s2.2.1,I64 (-1),SS x7.Code,.nils,I64 s2.2.2.2.1]),(7,I64 s2.2.2.2.2),(8,.obj (ePart.cells x7))]) (U:=[(3,105,some (I64 x7.At)),(2,104,some (.ptr ⟨8,[]⟩ 5))]) (EffOk.v (EO.eff (EO.sO (G2:=[(0,.obj (eyuccaref9_maker_r.cells s2.1)),(5,.obj (eAlt_0.cells a2)),(6,.obj [I64 (w64 (1+x1)),oR eI s2.2.1,I64 (-1),SS x7.Code,.nils,I64 s2.2.2.2.1]),(7,I64 s2.2.2.2.2),(8,.obj (ePart.cells x7))]) (cs2:=[I64 (w64 (1+x1)),oR eI s2.2.1,I64 (-1),SS x7.Code,.nils,I64 s2.2.2.2.1]) q q q (.ptr q) (.lit q) q sz9 q q q q (.n q q (.n q q (.b q (.n q q (.n q q .nil)))))))) q q (by kernel_rfl) q q q (.c (.inr (.inl ⟨_,q⟩)) q q q q q (Gd.wanted .none) (O.ldOl q .z5 ct3 q) (.c (.inr (.inr (.inr (.inl ⟨8,_,_,q,q,of_blt q,by simp,_,q,of_blt q⟩)))) q q q q q (Gd.wanted .none) (O.fO q .z4 fd67_2 q) .nil)) (by kernel_rfl)<|Dv 6 O.y1<|DL.bpz 7 (EO.sv1 [0,5,6,7])<|DL.fin q q q (tn4 q q q q)) ?_
         exact sm h ▸ Px.jt
        ·refine W.rq [0,5,6,7,8] (Rv (O.mv .z4)<|Rv (O.nlP .z5)<|Rv O.y2<|Rv O.y3<|Rv (O.add .z1 .z8)<|Rv (O.nlP .z5)<|Rv O.y2<|RunL.f' (EO.sv1 [0,5,6,7,8])<|Fk q) ?_
         refine W.sq'<|bd h fun x15 hx15 h=>bd h fun x16 hx16 h=>W.rd [[],[],[1],[1,2],[1,2,3],[1,2,3,4],[],[6],[6,7],[6,7,8],[6,7,8,9],[],[11],[11,12],[11,12,13],rn 6 9 [],[],[16],[],[],[19],[18,19,20],[],[22],rn 6 18 [],rn 6 19 [],rn 1 25 [],rn 0 27 [],rn 0 28 [],rn 0 29 [],rn 0 30 []] [(0,_),(5,_),(6,_),(7,_)] mixo (by kernel_rfl) (Dv 0 (O.mv .z4)<|Dv 1 (O.mv .z4)<|Dv 2 (O.nlP .z5)<|Dv 3 O.y2<|Dv 4 O.y2<|Dv 5 (O.y5 (y:=.brw eProd_0.z ⟨0,[2]⟩ s2.1.f_g.Prods.length))<|Dv 6 (O.mv .z4)<|Dv 7 (O.nlP .z5)<|Dv 8 O.y2<|Dv 9 (O.y5 (y:=.brw eS.z ⟨0,[7]⟩ s2.1.f_lefts.length))<|Dv 10 (O.lenO .z6 sl49)<|Dv 11 (O.mv .z4)<|Dv 12 (O.nlP .z5)<|Dv 13 O.y2<|Dv 14 O.y3<|Dv 15 (O.add .z1 .z1)<|Dv 16 O.y1<|Dv 17 O.y3<|Dv 18 (O.bs (ys:=[]) eI ([]:List Int) sl22 q q q q q q zt3 q q)<|Dv 19 O.y1<|Dv 20 (O.y5 (y:=.brw eI.z ⟨6,[1]⟩ s2.2.1.length))<|Dv 21 (O.ap (en:=eI) (r:=x15) .z3 q .z6 (.flat eI q) ap22 q hx15)<|Dv 22 O.y1<|Dv 23 O.y3<|Dv 24 (O.bu (cs:=[I64 (w64 ((s2.1.f_lefts.length:Int)+(w64 (s2.1.f_inner+1)))),.nils,I64 (-1),SS x7.Code,.brw eI.z ⟨57,[]⟩ (([]:List Int).length+s2.2.1.length),I64 x7.At]) sc110 ze110 q q q)<|Dv 25 (O.bsL (ys:=[.agg [I64 (w64 ((s2.1.f_lefts.length:Int)+(w64 (s2.1.f_inner+1)))),.nils,I64 (-1),SS x7.Code,.brw eI.z ⟨57,[]⟩ (([]:List Int).length+s2.2.1.length),I64 x7.At]]) (cs:=[I64 (w64 ((s2.1.f_lefts.length:Int)+(w64 (s2.1.f_inner+1)))),.nils,I64 (-1),SS x7.Code,.brw eI.z ⟨57,[]⟩ (([]:List Int).length+s2.2.1.length),I64 x7.At]) sl41 q q q q q zt110 q q)<|Dv 26 (O.apL' (en:=eProd_0) (M:=[(⟨w64 ((s2.1.f_lefts.length:Int)+(w64 (s2.1.f_inner+1))),([]:List Int),(-1),x7.Code,([]:List Int)++s2.2.1,x7.At⟩:Prod)]) (r:=x16) .z6 q .z3 q q q q ap41 q hx16 (noQ_spec (by kernel_rfl) (by kernel_rfl)))<|Dv 27 (O.nlP .z5)<|Dv 28 O.y2<|Dv 29 O.y2<|DL.bpz 30 (G2:=[(0,.obj [oR eTok s2.1.f_g.Toks,oR eNon s2.1.f_g.Nons,oR eProd_0 (s2.1.f_g.Prods++[(⟨w64 ((s2.1.f_lefts.length:Int)+(w64 (s2.1.f_inner+1))),([]:List Int),(-1),x7.Code,([]:List Int)++s2.2.1,x7.At⟩:Prod)]),SS s2.1.f_g.Pro,SS s2.1.f_g.Tail,oR eB s2.1.f_given,oR eNon s2.1.f_types,oR eS s2.1.f_lefts,I64 s2.1.f_e,I64 s2.1.f_at,SS s2.1.f_name,I64 s2.1.f_level,I64 (w64 (s2.1.f_inner+1))]),(5,.obj (eAlt_0.cells a2)),(6,.obj [I64 (w64 (1+x1)),oR eI s2.2.1,I64 (-1),SS s2.2.2.1,.nils,I64 s2.2.2.2.1]),(7,I64 s2.2.2.2.2)]) (EO.stP (g1:=_) (en:=eProd_0) (M:=[(⟨w64 ((s2.1.f_lefts.length:Int)+(w64 (s2.1.f_inner+1))),([]:List Int),(-1),x7.Code,([]:List Int)++s2.2.1,x7.At⟩:Prod)]) (cs2:=[oR eTok s2.1.f_g.Toks,oR eNon s2.1.f_g.Nons,oR eProd_0 (s2.1.f_g.Prods++[(⟨w64 ((s2.1.f_lefts.length:Int)+(w64 (s2.1.f_inner+1))),([]:List Int),(-1),x7.Code,([]:List Int)++s2.2.1,x7.At⟩:Prod)]),SS s2.1.f_g.Pro,SS s2.1.f_g.Tail,oR eB s2.1.f_given,oR eNon s2.1.f_types,oR eS s2.1.f_lefts,I64 s2.1.f_e,I64 s2.1.f_at,SS s2.1.f_name,I64 s2.1.f_level,I64 (w64 (s2.1.f_inner+1))]) q q (.ptr q) (.pend q) q q q (.f (.f (.f (.f (.pn q q q .ns (.f .nil)))))) (.f (.z (.f (.f (.z (hv:=Vw.pn q q) (.f .nil)))))) q q sz41 q q q q (.b q (.n q q (.n q q (.n q q .nil)))))<|DL.fin q q q (tn4 q q q q)) ?_
         refine Px.sq<|bd h fun x17 hx17 h=>W.rd [[],[0],[],[2],[2,3],[2,3,4],[2,3,4,5],rn 2 5 [],[],[8],[8,9],[8,9,10],rn 2 10 [],rn 2 11 [],rn 0 14 [],rn 0 15 [],rn 0 16 []] [(0,_),(5,_),(6,_),(7,_)] mixo (by kernel_rfl) (Dv 0 O.y1<|Dv 1 (O.y5 (y:=.brw eI.z ⟨6,[1]⟩ s2.2.1.length))<|Dv 2 (O.mv .z4)<|Dv 3 (O.nlP .z5)<|Dv 4 O.y2<|Dv 5 (O.y5 (y:=.brw eS.z ⟨0,[7]⟩ s2.1.f_lefts.length))<|Dv 6 (O.lenO .z6 sl49)<|Dv 7 (O.add .z8 .z1)<|Dv 8 (O.mv .z4)<|Dv 9 (O.nlP .z5)<|Dv 10 O.y2<|Dv 11 O.y3<|Dv 12 (O.add .z1 .z1)<|DL.vi 13 (x:=iR eI [w64 ((w64 (1000+(s2.1.f_lefts.length:Int)))+(w64 (s2.1.f_inner+1)))]) (O.bs (ys:=[I64 (w64 ((w64 (1000+(s2.1.f_lefts.length:Int)))+(w64 (s2.1.f_inner+1))))]) eI [w64 ((w64 (1000+(s2.1.f_lefts.length:Int)))+(w64 (s2.1.f_inner+1)))] sl22 q q q q q q zt3 q q) q q q q .none<|Dv 14 (O.ap (en:=eI) (r:=x17) .z6 q .z2 .i ap22 q hx17)<|Dv 15 O.y1<|DL.bpz 16 (EO.sp [0,5,6,7])<|DL.fin q q q (tn4 q q q q)) ?_
         exact sm h ▸ Px.jt
       exact sm h ▸ Px.jt
     exact Px.bk<|sm h ▸ Px.jt
    exact Px.bk<|sm h ▸ Px.jt
   refine Px.sq<|W.rk [0,5,6,7] (Vm q<|Rv (O.add .z1 .z8)<|RunL.rk [0,5,6,23] q<|RunL.au) ?_
   exact sm h ▸ Px.gt
  ·exact W.xi<|Px.sqE<|sm h ▸ Px.t1
 refine Px.bkH<|Px.sq<|W.sq'<|W.aq [0,5,6,9] ?_
 refine W.bk<|bd h fun x19 hl h=>W.l1 ((-1),0) (fun (s18:Int × Int)=>[(6,.obj [I64 (w64 (1+x1)),oR eI x3.2.1,I64 s18.1,SS x3.2.2.1,.nils,I64 x3.2.2.2]),(9,I64 s18.2)]) [0,5,6,9] 3 (fun (x19:Int)=>[(6,.obj [I64 (w64 (1+x1)),oR eI x3.2.1,I64 x19,SS x3.2.2.1,.nils,I64 x3.2.2.2])]) [0,5,6] hl (fun s18 o h=>?_) ?_
 ·clear hl
  refine W.sq'<|W.aq [0,5,6,9,112] ?_
  refine W.ch h q (fun hb21 h=>?_) (fun hb21 h=>?_)
  ·refine W.sk<|Px.sq<|W.sq'<|bd h fun j22 hj h=>W.jq [0,5,6,9] [(6,.obj [I64 (w64 (1+x1)),oR eI x3.2.1,I64 j22,SS x3.2.2.1,.nils,I64 x3.2.2.2])] ?_ ?_
   ·clear h; have h:=hj; clear hj
    refine W.bk<|bd h fun x23 hx23 h=>W.rq [0,5,6,9,120] (Rv O.y1<|Rv (O.y5 (y:=.brw eI.z ⟨6,[1]⟩ x3.2.1.length))<|Vm q<|Rv (O.ixO (en:=eI) q .z6 .z1 sl22 hx23 q)<|Rv (O.ldE (en:=eI) (x':=I64 x23) q .z5 ct3 hx23 q q)<|RunL.au) ?_
    refine bd h fun j24 hj h=>W.jq [0,5,6,9] [(6,.obj [I64 (w64 (1+x1)),oR eI x3.2.1,I64 j24,SS x3.2.2.1,.nils,I64 x3.2.2.2])] ?_ ?_
    ·clear h; have h:=hj; clear hj
     refine W.ch h q (fun hb25 h=>?_) (fun hb25 h=>?_)
     ·refine bd h fun x26 hx26 h=>W.rk [0,5,6,9] (Rv O.y1<|Rv (O.y5 (y:=.brw eI.z ⟨6,[1]⟩ x3.2.1.length))<|Vm q<|Rv (O.ixO (en:=eI) q .z6 .z1 sl22 hx26 q)<|Rv (O.ldE (en:=eI) (x':=I64 x26) q .z5 ct3 hx26 q q)<|Rv O.y1<|RunL.f' (EO.sv1 [0,5,6,9])<|Fk q) ?_
      exact sm h ▸ Px.jt
     ·exact W.sk<|sm h ▸ Px.jt
    exact Px.bk<|sm h ▸ Px.jt
   refine Px.sq<|W.rk [0,5,6,9] (Vm q<|Rv (O.add .z1 .z8)<|RunL.rk [0,5,6,114] q<|RunL.au) ?_
   exact sm h ▸ Px.gt
  ·exact W.xi<|Px.sqE<|sm h ▸ Px.t1
 refine Px.bkH<|Px.sq<|W.sq'<|W.aq [0,5,6,130] ?_
 refine bd h fun j27 hj h=>W.jq [0,6] [(0,.obj (eyuccaref9_maker_r.cells j27.1)),(6,.obj [I64 (w64 (1+x1)),oR eI x3.2.1,I64 j27.2,SS x3.2.2.1,.nils,I64 x3.2.2.2])] ?_ ?_
 ·clear h; have h:=hj; clear hj
  refine W.ch h q (fun hb28 h=>?_) (fun hb28 h=>?_)
  ·refine W.rq [0,5,6] (Rv O.y1<|RunL.f' (EO.sv1 [0,5,6])<|Fk q) ?_
   refine bd h fun c31 hj h=>W.rz [0,5,6,142] [(142,BB c31)] ?_ ?_
   ·refine Rv O.y1<|Rv O.y2<|Rv O.y3<|Rv (O.mv (.lit q)) ?_
    rcases cnd hj with ⟨hb29,hj⟩ | ⟨hb29,hj⟩
    ·exact sm hj ▸ RunL.au
    ·refine Yv hb29 (O.mv .z4)<|Yv hb29 O.y1<|Yv hb29 O.y2<|Yv hb29 O.y3 ?_
     exact bd hj fun x30 hx30 hj=>sm hj ▸ (RunL.c (PC.vz (ys:=[.ptr ⟨0,[]⟩ 0,SS a2.Prec.Name]) q (.c (View.p0 q q) (.s .nil)) (CF.go hx30)) q q (.yb q q hb29)<|RunL.au)
   refine bd h fun j32 hj h=>W.jq [0,6] [(0,.obj (eyuccaref9_maker_r.cells j32.1)),(6,.obj [I64 (w64 (1+x1)),oR eI x3.2.1,I64 j32.2,SS x3.2.2.1,.nils,I64 x3.2.2.2])] ?_ ?_
   ·clear h; have h:=hj; clear hj
    refine W.ch h q (fun hb33 h=>?_) (fun hb33 h=>?_)
    ·refine bd h fun x34 hx34 h=>W.rk [0,6] (Rv (O.mv .z4)<|Rv O.y1<|Rv (O.ldON (cs':=eSym.cells a2.Prec) q .z5 at62 q q)<|RunL.ef q (EO.call q q (CallOk.ln (G2:=[(6,.obj [I64 (w64 (1+x1)),oR eI x3.2.1,I64 (-1),SS x3.2.2.1,.nils,I64 x3.2.2.2])]) (A:=[]) (ys:=[.ptr ⟨0,[]⟩ 0,.agg (eSym.cells a2.Prec)]) (args:=[.obj (eyuccaref9_maker_r.cells x3.1),.agg (eSym.cells a2.Prec)]) (cs':=eyuccaref9_maker_r.cells x34.2) (k0:=0) q q q q (.b q (.n q .nil)) q (CF.go hx34) call120 (.n q .nil) q q (.n q .nil) .nil q))<|Rv O.y1<|RunL.f' (EO.sv1 [0,6])<|Fk q) ?_
     exact sm h ▸ Px.jt
    ·refine bd h fun x35 hx35 h=>W.rk [0,6] (Rv (O.mv .z4)<|Rv O.y1<|Rv O.y2<|Rv O.y3<|Rv O.y1<|Rv O.y2<|Rv O.y3<|RunL.ef q (EO.call q q (CallOk.ln (G2:=[(6,.obj [I64 (w64 (1+x1)),oR eI x3.2.1,I64 (-1),SS x3.2.2.1,.nils,I64 x3.2.2.2])]) (A:=[]) (ys:=[.ptr ⟨0,[]⟩ 0,I64 a2.Prec.At,SS a2.Prec.Name]) (args:=[.obj (eyuccaref9_maker_r.cells x3.1),I64 a2.Prec.At,SS a2.Prec.Name]) (cs':=eyuccaref9_maker_r.cells x35) (k0:=0) q q q q (.b q (.n q (.n q .nil))) q (CF.go hx35) call101 (.n q .nil) q q (.n q .nil) .nil q))<|Fk q) ?_
     exact sm h ▸ Px.jt
   exact sm h ▸ Px.jt
  ·exact W.sk<|sm h ▸ Px.jt
 refine Px.sq<|bd h fun x36 hx36 h=>W.rq [0,6] (Rv (O.bs (ys:=[]) eI ([]:List Int) sl22 q q q q q q zt3 q q)<|Rv O.y1<|Rv (O.y5 (y:=.brw eI.z ⟨6,[1]⟩ x3.2.1.length))<|Rv (O.ap (en:=eI) (r:=x36) .z3 q .z6 (.flat eI q) ap22 q hx36)<|Rv O.y1<|RunL.f' (EO.sp [0,6])<|Fk q) ?_
 refine W.fz (G1:=[(0,_),(6,.obj [I64 (w64 (1+x1)),iR eI x3.2.1,I64 j27.2,SS x3.2.2.1,oR eI (([]:List Int)++x3.2.1),I64 x3.2.2.2])]) [6] (.n q q (.z q q (FzL.obj (.f (.z (.f (.f (.f (.f .nil))))))) .nil)) ?_
 refine W.fz (G1:=[(0,_),(6,.obj [I64 (w64 (1+x1)),iR eI x3.2.1,I64 j27.2,SS x3.2.2.1,iR eI (([]:List Int)++x3.2.1),I64 x3.2.2.2])]) [6] (.n q q (.z q q (FzL.obj (.f (.f (.f (.f (.z (.f .nil))))))) .nil)) ?_
 refine bd h fun x37 hx37 h=>W.rd [[],[],[1],[1,2],[1,2,3],[1,2,3,4],[],[6],rn 1 7 [],rn 0 9 [],rn 0 10 [],rn 0 11 [],rn 0 12 []] [(0,_)] mixo (by kernel_rfl) (Dv 0 (O.mv .z4)<|Dv 1 (O.mv .z4)<|Dv 2 (O.nlP .z5)<|Dv 3 O.y2<|Dv 4 O.y2<|Dv 5 (O.y5 (y:=.brw eProd_0.z ⟨0,[2]⟩ j27.1.f_g.Prods.length))<|Dv 6 (O.ldON (cs':=[I64 (w64 (1+x1)),iR eI x3.2.1,I64 j27.2,SS x3.2.2.1,iR eI (([]:List Int)++x3.2.1),I64 x3.2.2.2]) q .z4 at110 q q)<|DL.vi 7 (x:=iR eProd_0 [(⟨w64 (1+x1),x3.2.1,j27.2,x3.2.2.1,([]:List Int)++x3.2.1,x3.2.2.2⟩:Prod)]) (O.bs (ys:=[.agg [I64 (w64 (1+x1)),iR eI x3.2.1,I64 j27.2,SS x3.2.2.1,iR eI (([]:List Int)++x3.2.1),I64 x3.2.2.2]]) eProd_0 [(⟨w64 (1+x1),x3.2.1,j27.2,x3.2.2.1,([]:List Int)++x3.2.1,x3.2.2.2⟩:Prod)] sl41 q q q q q q zt110 q q) q q q q .none<|Dv 8 (O.ap (en:=eProd_0) (r:=x37) .z6 q .z2 .i ap41 q hx37)<|Dv 9 (O.nlP .z5)<|Dv 10 O.y2<|Dv 11 O.y2<|DL.bpz 12 (EO.sp [0])<|DL.fin q q q (.n q .nil)) ?_
 exact sm h ▸ Px.fin (Fin.ro .nil q (ode (by kernel_rfl)) (.so q q (.no (.no .nil))) q (.inl q))
instance con104 {a0:yuccaref9_maker}{a1:ByteArray}{a2:Alt}{r:yuccaref9_maker}:CF Tryz.prog 104 (pf104 a0 a1 a2=some r) [.obj (eyuccaref9_maker_r.cells a0),SS a1,.agg (eAlt_0.cells a2)] [some (.obj [oR eTok r.f_g.Toks,oR eNon r.f_g.Nons,oR eProd_0 r.f_g.Prods,SS r.f_g.Pro,SS r.f_g.Tail,oR eB r.f_given,oR eNon r.f_types,oR eS r.f_lefts,I64 r.f_e,I64 r.f_at,SS r.f_name,I64 r.f_level,I64 r.f_inner]),none,none] (.tup []):=⟨con104l a0 a1 a2 _⟩
theorem con81l (a0:Source) (r:Grammar × Int × Int × ByteArray) (h:pf81 a0=some r):Con Tryz.prog 81 [.agg (eSource_0.cells a0)] [none] (.tup [.agg (eGrammar_0.cells r.1),I64 r.2.1,I64 r.2.2.1,SS r.2.2.2]):=by
 unfold pf81 at h
 refine Con.go (N:=⟨435,[]⟩) Tryz.func81 q q q q (W.fin ?_)
 refine W.st [(0,.agg (eSource_0.cells a0))] ?_
 refine W.rq [1,2] (Rv (O.box (.aggF q q) q)<|Rv (O.al (cs:=[.nils,.nils,.nils,SS S0,SS S0]) ze43 q q)<|RunL.au) ?_
 refine W.sq'<|bd h fun x1 hx1 h=>W.rq [1,2,28] (Rv (O.ldON (cs':=eSource_0.cells a0) q .z4 at32 q q)<|Rc (PC.gz (.cc (.aggF q q) .nil) (CF.go hx1))<|RunL.au) ?_
 refine W.ch h q (fun hb2 h=>?_) (fun hb2 h=>?_)
 ·refine W.rq [2,3,4,5] (Rv (O.bu (cs:=[.nils,.nils,.nils,SS S0,SS S0]) sc43 ze43 q q q)<|RunL.f' (EO.sva [2])<|RunL.au) ?_
  refine W.fz (G1:=[(2,.obj [iR eTok ([]:List Tok),iR eNon ([]:List Non),iR eProd_0 ([]:List Prod),SS S0,SS S0]),(3,_),(4,_),(5,_)]) [2] (.z q q (FzL.obj (.z (.z (.z (.f (.f .nil)))))) (.n q q (.n q q (.n q q .nil)))) ?_
  exact W.rt<|Px.sqR<|sm h ▸ Pr (.c (ys0:=[iR eTok ([]:List Tok),iR eNon ([]:List Non),iR eProd_0 ([]:List Prod),SS S0,SS S0]) q at43 q q q (.f q (.f q (.f q (.f q (.f q .nil))))) (.f q q (.f q q (.f q q .nil))))
 ·refine W.sk<|Px.sq<|bd h fun x3 hx3 h=>W.rq [1,2,6] (Rv (O.mk (en:=eB) (z0:=false) sl56 .z8 .z8 ze4 q q hx3 bb4 q)<|Rv (O.bu (cs:=[.nils,.nils,.nils,SS S0,SS S0,.brw eB.z ⟨30,[]⟩ x3.length,.nils,.nils,I64 0,I64 0,SS S0,I64 0,I64 0]) sc210 ze210 q q q)<|Rv (O.box (.aggF q q) q)<|RunL.ea (G2:=[(1,.obj (eSource_0.cells a0)),(2,.obj [.nils,.nils,.nils,SS S0,SS S0])]) q (EO.aG (y':=.obj [.nils,.nils,.nils,SS S0,SS S0,oR eB x3,.nils,.nils,I64 0,I64 0,SS S0,I64 0,I64 0]) q q (.obj q) (.b q (.f (.f (.f (.f (.f (.r q (.f (.f (.f (.f (.f (.f (.f .nil))))))))))))) .nil) .refl (tn2 q q) q q)<|Fk q) ?_
  refine W.rq [1,2,6] (Rv (O.mv .z4)<|Rv (O.bu (cs:=[SS ({ data:=#[36,101,110,100] }),BB false,I64 0,I64 0,I64 0,SS S0]) sc94 ze94 q q q)<|Rv (O.bu (cs:=[SS ({ data:=#[101,114,114,111,114] }),BB false,I64 (-1),I64 0,I64 0,SS S0]) sc94 ze94 q q q)<|Rv (O.bu (cs:=[SS ({ data:=#[36,117,110,107] }),BB false,I64 (-1),I64 0,I64 0,SS S0]) sc94 ze94 q q q)<|Rv (O.bs (ys:=[.agg [SS ({ data:=#[36,101,110,100] }),BB false,I64 0,I64 0,I64 0,SS S0],.agg [SS ({ data:=#[101,114,114,111,114] }),BB false,I64 (-1),I64 0,I64 0,SS S0],.agg [SS ({ data:=#[36,117,110,107] }),BB false,I64 (-1),I64 0,I64 0,SS S0]]) eTok [(⟨{ data:=#[36,101,110,100] },false,0,0,0,S0⟩:Tok),(⟨{ data:=#[101,114,114,111,114] },false,(-1),0,0,S0⟩:Tok),(⟨{ data:=#[36,117,110,107] },false,(-1),0,0,S0⟩:Tok)] sl39 q q q q q q zt94 q q)<|Rv (O.nlP .z5)<|Rv O.y2<|Rv O.y2<|RunL.f' (EO.sw [1,2,6])<|Fk q) ?_
  refine W.aq [1,2,6,7] ?_
  refine W.sq'<|W.aq [1,2,6,7,8] ?_
  refine W.bk<|bd h fun x5 hl h=>W.l1 ((⟨(⟨[(⟨{ data:=#[36,101,110,100] },false,0,0,0,S0⟩:Tok),(⟨{ data:=#[101,114,114,111,114] },false,(-1),0,0,S0⟩:Tok),(⟨{ data:=#[36,117,110,107] },false,(-1),0,0,S0⟩:Tok)],[],[],S0,S0⟩:Grammar),x3,[],[],0,0,S0,0,0⟩:yuccaref9_maker),S0,0) (fun (s4:yuccaref9_maker × ByteArray × Int)=>[(6,.obj (eyuccaref9_maker_r.cells s4.1)),(7,SS s4.2.1),(8,I64 s4.2.2)]) [1,2,6,7,8] 0 (fun (x5:yuccaref9_maker × ByteArray)=>[(6,.obj (eyuccaref9_maker_r.cells x5.1)),(7,SS x5.2)]) [1,2,6,7] hl (fun s4 o h=>?_) ?_
  ·clear hl
   refine W.sq'<|W.aq [1,2,6,7,8,45] ?_
   refine W.ch h q (fun hb7 h=>?_) (fun hb7 h=>?_)
   ·refine W.sk<|Px.sq<|W.sq'<|W.bk<|bd h fun x8 hx8 h=>W.rq [1,2,6,7,8,9] (Rv O.y1<|Rv (O.y5 (y:=iR eDecl_0 a0.Decls))<|Vm q<|Rv (O.y4 hx8)<|Rv (O.ldIN (cs':=eDecl_0.cells x8) .z7 at59 q q)<|Rv (O.al (cs:=[I64 0,SS S0,.nils,I64 0]) ze59 q q)<|RunL.f' (EO.sva [1,2,6,7,8,9])<|Fk q) ?_
    refine W.sq'<|bd h fun c10 hj h=>W.rz [1,2,6,7,8,9,60] [(60,BB c10)] ?_ ?_
    ·refine Rv O.y1<|Rv O.y3<|Rv (O.geq .z1 .z8)<|Rv (O.mv (.lit q)) ?_
     rcases cnd hj with ⟨hb9,hj⟩ | ⟨hb9,hj⟩
     ·exact sm hj ▸ RunL.au
     ·exact sm hj ▸ RunL.au
    refine bd h fun j11 hj h=>W.jq [1,2,6,7,8,9] [(6,.obj [oR eTok s4.1.f_g.Toks,oR eNon s4.1.f_g.Nons,oR eProd_0 s4.1.f_g.Prods,SS s4.1.f_g.Pro,SS s4.1.f_g.Tail,oR eB s4.1.f_given,oR eNon s4.1.f_types,oR eS s4.1.f_lefts,I64 s4.1.f_e,I64 s4.1.f_at,SS s4.1.f_name,I64 j11,I64 s4.1.f_inner])] ?_ ?_
    ·clear h; have h:=hj; clear hj
     refine W.ch h q (fun hb12 h=>?_) (fun hb12 h=>?_)
     ·refine W.rk [1,2,6,7,8,9] (Rv (O.mv .z4)<|Rv (O.nlP .z5)<|Rv O.y2<|Rv O.y3<|Rv (O.add .z1 .z8)<|Rv (O.nlP .z5)<|Rv O.y2<|RunL.f' (EO.sv1 [1,2,6,7,8,9])<|Fk q) ?_
      exact sm h ▸ Px.jt
     ·exact W.sk<|sm h ▸ Px.jt
    refine Px.sq<|W.aq [1,2,6,7,8,9,10] ?_
    refine W.bk<|bd h fun x14 hl h=>W.l1 ((⟨s4.1.f_g,s4.1.f_given,s4.1.f_types,s4.1.f_lefts,s4.1.f_e,s4.1.f_at,s4.1.f_name,j11,s4.1.f_inner⟩:yuccaref9_maker),s4.2.1,0) (fun (s13:yuccaref9_maker × ByteArray × Int)=>[(6,.obj (eyuccaref9_maker_r.cells s13.1)),(7,SS s13.2.1),(10,I64 s13.2.2)]) [1,2,6,7,8,9,10] 2 (fun (x14:yuccaref9_maker × ByteArray)=>[(6,.obj (eyuccaref9_maker_r.cells x14.1)),(7,SS x14.2)]) [1,2,6,7,8] hl (fun s13 o h=>?_) ?_
    ·clear hl
     refine W.sq'<|W.aq [1,2,6,7,8,9,10,72] ?_
     refine W.ch h q (fun hb16 h=>?_) (fun hb16 h=>?_)
     ·refine W.sk<|Px.sq<|W.sq'<|bd h fun j17 hj h=>W.jq [1,2,6,7,8,9,10] [(6,.obj (eyuccaref9_maker_r.cells j17.1)),(7,SS j17.2)] ?_ ?_
      ·clear h; have h:=hj; clear hj
       refine W.bk<|W.sq'<|W.aq [1,2,6,7,8,9,10,77] ?_
       refine W.ch h q (fun hb18 h=>?_) (fun hb18 h=>?_)
       ·refine W.sq'<|bd h fun x19 hx19 h=>bd h fun x20 hx20 h=>W.rd [[],[],[],[2],[],[2,3,4],[2,3,4,5],rn 0 7 []] [(1,_),(2,_),(6,_),(7,_),(8,_),(9,_),(10,_)] mixo (by kernel_rfl) (Dv 0 (O.mv .z4)<|Dv 1 (O.ldON (cs':=eDecl_0.cells x8) q .z4 at59 q q)<|Dv 2 O.y1<|Dv 3 (O.y5 (y:=iR eSym x8.Syms))<|Dv 4 (O.mv (.lit q))<|Dv 5 (O.y4 hx19)<|Dv 6 (O.ldIN (cs':=eSym.cells x19) .z7 at62 q q)<|DL.bpz 7 (G2:=[(85,.tup []),(6,.obj (eyuccaref9_maker_r.cells x20)),(1,.obj (eSource_0.cells a0)),(2,.obj [.nils,.nils,.nils,SS S0,SS S0]),(7,SS s13.2.1),(8,I64 s4.2.2),(9,.obj (eDecl_0.cells x8)),(10,I64 s13.2.2)]) (EO.call q q (CallOk.ln (G2:=[(1,.obj (eSource_0.cells a0)),(2,.obj [.nils,.nils,.nils,SS S0,SS S0]),(7,SS s13.2.1),(8,I64 s4.2.2),(9,.obj (eDecl_0.cells x8)),(10,I64 s13.2.2)]) (A:=[]) (ys:=[.ptr ⟨6,[]⟩ 0,.agg (eDecl_0.cells x8),.agg (eSym.cells x19)]) (args:=[.obj (eyuccaref9_maker_r.cells s13.1),.agg (eDecl_0.cells x8),.agg (eSym.cells x19)]) (cs':=eyuccaref9_maker_r.cells x20) (k0:=0) q q q q (.b q (.n q (.n q .nil))) q (CF.go hx20) call100 (tn6 q q q q q q) q q (tn6 q q q q q q) .nil q))<|DL.fin q q q (tn7 q q q q q q q)) ?_
        exact Px.sq<|W.xi<|Px.sqE<|Px.bkH<|sm h ▸ Px.jt
       ·refine W.sk<|Px.sq<|W.sq'<|W.aq [1,2,6,8,9,10,87] ?_
        refine bd h fun j21 hj h=>W.jq [1,2,6,8,9,10] [(6,.obj (eyuccaref9_maker_r.cells j21))] ?_ ?_
        ·clear h; have h:=hj; clear hj
         refine W.ch h q (fun hb22 h=>?_) (fun hb22 h=>?_)
         ·refine bd h fun x23 hx23 h=>bd h fun x24 hx24 h=>bd h fun x25 hx25 h=>W.rd [[],[],[1],[],[1,2,3],[1,2,3,4],rn 1 5 [],[],[7],[],[7,8,9],[7,8,9,10],rn 7 5 [],rn 0 13 []] [(1,_),(2,_),(6,_),(8,_),(9,_),(10,_)] mixo (by kernel_rfl) (Dv 0 (O.mv .z4)<|Dv 1 O.y1<|Dv 2 (O.y5 (y:=iR eSym x8.Syms))<|Dv 3 (O.mv (.lit q))<|Dv 4 (O.y4 hx23)<|Dv 5 O.y8<|Dv 6 (O.y6 (x:=I64 x23.At))<|Dv 7 O.y1<|Dv 8 (O.y5 (y:=iR eSym x8.Syms))<|Dv 9 (O.mv (.lit q))<|Dv 10 (O.y4 hx24)<|Dv 11 O.y8<|Dv 12 (O.y6 (x:=SS x24.Name))<|DL.bpz 13 (G2:=[(101,.tup []),(6,.obj (eyuccaref9_maker_r.cells x25)),(1,.obj (eSource_0.cells a0)),(2,.obj [.nils,.nils,.nils,SS S0,SS S0]),(8,I64 s4.2.2),(9,.obj (eDecl_0.cells x8)),(10,I64 s13.2.2)]) (EO.call q q (CallOk.ln (G2:=[(1,.obj (eSource_0.cells a0)),(2,.obj [.nils,.nils,.nils,SS S0,SS S0]),(8,I64 s4.2.2),(9,.obj (eDecl_0.cells x8)),(10,I64 s13.2.2)]) (A:=[]) (ys:=[.ptr ⟨6,[]⟩ 0,I64 x23.At,SS x24.Name]) (args:=[.obj (eyuccaref9_maker_r.cells s13.1),I64 x23.At,SS x24.Name]) (cs':=eyuccaref9_maker_r.cells x25) (k0:=0) q q q q (.b q (.n q (.n q .nil))) q (CF.go hx25) call101 (tn5 q q q q q) q q (tn5 q q q q q) .nil q))<|DL.fin q q q (tn6 q q q q q q)) ?_
          exact sm h ▸ Px.jt
         ·exact W.sk<|sm h ▸ Px.jt
        refine Px.sq<|bd h fun x26 hx26 h=>W.ak [1,2,6,7,8,9,10] ?_
        exact Px.bk<|sm h ▸ Px.jt
      refine Px.sq<|W.rk [1,2,6,7,8,9,10] (Vm q<|Rv (O.add .z1 .z8)<|RunL.rk [1,2,6,7,8,9,74] q<|RunL.au) ?_
      exact sm h ▸ Px.gt
     ·exact W.xi<|Px.sqE<|sm h ▸ Px.t1
    refine Px.bkH<|Px.bk<|Px.sq<|W.rk [1,2,6,7,8] (Vm q<|Rv (O.add .z1 .z8)<|RunL.rk [1,2,6,7,47] q<|RunL.au) ?_
    exact sm h ▸ Px.gt
   ·exact W.xi<|Px.sqE<|sm h ▸ Px.t1
  refine Px.bkH<|Px.sq<|W.sq'<|W.aq [1,2,6,7,11] ?_
  refine W.bk<|bd h fun x28 hl h=>W.l1 (x5.1,0) (fun (s27:yuccaref9_maker × Int)=>[(6,.obj (eyuccaref9_maker_r.cells s27.1)),(11,I64 s27.2)]) [1,2,6,7,11] 4 (fun (x28:yuccaref9_maker)=>[(6,.obj (eyuccaref9_maker_r.cells x28))]) [1,2,6,7] hl (fun s27 o h=>?_) ?_
  ·clear hl
   refine W.sq'<|W.aq [1,2,6,7,11,112] ?_
   refine W.ch h q (fun hb30 h=>?_) (fun hb30 h=>?_)
   ·refine W.sk<|Px.sq<|W.sq'<|bd h fun j31 hj h=>W.jq [1,2,6,7,11] [(6,.obj (eyuccaref9_maker_r.cells j31))] ?_ ?_
    ·clear h; have h:=hj; clear hj
     refine W.bk<|bd h fun x32 hx32 h=>W.rq [1,2,6,7,11,12] (Rv O.y1<|Rv (O.y5 (y:=iR eRule_0 a0.Rules))<|Vm q<|Rv (O.y4 hx32)<|Rv (O.ldIN (cs':=eRule_0.cells x32) .z7 at65 q q)<|Rv (O.al (cs:=[SS S0,.nils,I64 0]) ze65 q q)<|RunL.f' (EO.sva [1,2,6,7,11,12])<|Fk q) ?_
     refine W.sq'<|bd h fun x33 hx33 h=>W.rq [1,2,6,7,11,12,125] (Rv (O.mv .z4)<|Rv O.y1<|Rv O.y3<|Rv (O.bu (cs:=[SS x32.Left,BB false,I64 0,I64 0]) sc62 ze62 q q q)<|Rc (PC.vz (ys:=[.ptr ⟨6,[]⟩ 0,.agg [SS x32.Left,BB false,I64 0,I64 0]]) q (.c (View.p0 q q) (.c (.ag (.s (.s (.s (.s .nil))))) .nil)) (CF.go hx33))<|RunL.au) ?_
     refine bd h fun j34 hj h=>W.jq [1,2,6,7,11,12] [(6,.obj (eyuccaref9_maker_r.cells j34))] ?_ ?_
     ·clear h; have h:=hj; clear hj
      refine W.ch h q (fun hb35 h=>?_) (fun hb35 h=>?_)
      ·refine bd h fun x36 hx36 h=>W.rk [1,2,6,7,11,12] (Rv (O.mv .z4)<|Rv O.y1<|Rv O.y3<|Rv O.y1<|Rv O.y3<|RunL.ef q (EO.call q q (CallOk.ln (G2:=[(1,.obj (eSource_0.cells a0)),(2,.obj [.nils,.nils,.nils,SS S0,SS S0]),(7,SS x5.2),(11,I64 s27.2),(12,.obj (eRule_0.cells x32))]) (A:=[]) (ys:=[.ptr ⟨6,[]⟩ 0,I64 x32.At,SS x32.Left]) (args:=[.obj (eyuccaref9_maker_r.cells s27.1),I64 x32.At,SS x32.Left]) (cs':=eyuccaref9_maker_r.cells x36) (k0:=0) q q q q (.b q (.n q (.n q .nil))) q (CF.go hx36) call101 (tn5 q q q q q) q q (tn5 q q q q q) .nil q))<|Fk q) ?_
       exact sm h ▸ Px.jt
      ·exact W.sk<|sm h ▸ Px.jt
     refine Px.sq<|bd h fun x37 hx37 h=>W.rq [1,2,6,7,11,12,136] (Rv (O.mv .z4)<|Rv O.y1<|Rv O.y3<|Rc (PC.vz (ys:=[.ptr ⟨6,[]⟩ 0,SS x32.Left]) q (.c (View.p0 q q) (.s .nil)) (CF.go hx37))<|RunL.au) ?_
     refine bd h fun j38 hj h=>W.jq [1,2,6,7,11] [(6,.obj [oR eTok j34.f_g.Toks,oR eNon j34.f_g.Nons,oR eProd_0 j34.f_g.Prods,SS j34.f_g.Pro,SS j34.f_g.Tail,oR eB j34.f_given,oR eNon j34.f_types,oR eS j38,I64 j34.f_e,I64 j34.f_at,SS j34.f_name,I64 j34.f_level,I64 j34.f_inner])] ?_ ?_
     ·clear h; have h:=hj; clear hj
      refine W.ch h q (fun hb39 h=>?_) (fun hb39 h=>?_)
      ·refine bd h fun x40 hx40 h=>W.rd [[],[],[1],[1,2],[1,2,3],[],[5],[5,6],rn 1 7 [],rn 0 9 [],rn 0 10 [],rn 0 11 []] [(1,_),(2,_),(6,_),(7,_),(11,_)] mixo (by kernel_rfl) (Dv 0 (O.mv .z4)<|Dv 1 (O.mv .z4)<|Dv 2 (O.nlP .z5)<|Dv 3 O.y2<|Dv 4 (O.y5 (y:=.brw eS.z ⟨6,[7]⟩ j34.f_lefts.length))<|Dv 5 O.y1<|Dv 6 O.y3<|DL.vi 7 (x:=iR eS [x32.Left]) (O.bs (ys:=[SS x32.Left]) eS [x32.Left] sl49 q q q q q q zt9 q q) q q q q .none<|Dv 8 (O.ap (en:=eS) (r:=x40) .z6 q .z2 .i ap49 q hx40)<|Dv 9 (O.nlP .z5)<|Dv 10 O.y2<|DL.bpz 11 (EO.sp [1,2,6,7,11])<|DL.fin q q q (tn5 q q q q q)) ?_
       exact sm h ▸ Px.jt
      ·exact W.sk<|sm h ▸ Px.jt
     exact Px.bk<|sm h ▸ Px.jt
    refine Px.sq<|W.rk [1,2,6,7,11] (Vm q<|Rv (O.add .z1 .z8)<|RunL.rk [1,2,6,7,114] q<|RunL.au) ?_
    exact sm h ▸ Px.gt
   ·exact W.xi<|Px.sqE<|sm h ▸ Px.t1
  refine Px.bkH<|Px.sq<|W.sq'<|W.aq [1,2,6,7,13] ?_
  refine W.bk<|bd h fun x42 hl h=>W.l1 (x28,0) (fun (s41:yuccaref9_maker × Int)=>[(6,.obj (eyuccaref9_maker_r.cells s41.1)),(13,I64 s41.2)]) [1,2,6,7,13] 6 (fun (x42:yuccaref9_maker)=>[(6,.obj (eyuccaref9_maker_r.cells x42))]) [1,2,6,7] hl (fun s41 o h=>?_) ?_
  ·clear hl
   refine W.sq'<|W.aq [1,2,6,7,13,152] ?_
   refine W.ch h q (fun hb44 h=>?_) (fun hb44 h=>?_)
   ·refine W.sk<|Px.sq<|W.sq'<|W.bk<|W.aq [1,2,6,7,13,14] ?_
    refine W.bk<|bd h fun x46 hl h=>W.l1 (s41.1,0) (fun (s45:yuccaref9_maker × Int)=>[(6,.obj (eyuccaref9_maker_r.cells s45.1)),(14,I64 s45.2)]) [1,2,6,7,13,14] 8 (fun (x46:yuccaref9_maker)=>[(6,.obj (eyuccaref9_maker_r.cells x46))]) [1,2,6,7,13] hl (fun s45 o h=>?_) ?_
    ·clear hl
     refine W.sq'<|bd h fun x48 hx48 h=>W.aq [1,2,6,7,13,14,163] ?_
     refine W.ch h q (fun hb49 h=>?_) (fun hb49 h=>?_)
     ·refine W.sk<|Px.sq<|W.sq'<|bd h fun j50 hj h=>W.jq [1,2,6,7,13,14] [(6,.obj (eyuccaref9_maker_r.cells j50))] ?_ ?_
      ·clear h; have h:=hj; clear hj
       refine W.bk<|bd h fun x51 hx51 h=>bd h fun x52 hx52 h=>W.rq [1,2,6,7,13,14,15] (Rv O.y1<|Rv (O.y5 (y:=iR eDecl_0 a0.Decls))<|Vm q<|Rv (O.y4 hx51)<|Rv O.y8<|Rv (O.y6 (x:=iR eSym x51.Syms))<|Vm q<|Rv (O.y4 hx52)<|Rv (O.ldIN (cs':=eSym.cells x52) .z7 at62 q q)<|Rv (O.al (cs:=[SS S0,BB false,I64 0,I64 0]) ze62 q q)<|RunL.f' (EO.sva [1,2,6,7,13,14,15])<|Fk q) ?_
       refine bd h fun c56 hj h=>W.rz [1,2,6,7,13,14,15,188] [(188,BB c56)] ?_ ?_
       ·refine Rv O.y1<|Rv (O.y5 (y:=iR eDecl_0 a0.Decls))<|Rv (O.mv (.lit q)) ?_
        refine bd hj fun x53 hx53 hj=>Rv (O.y4 hx53)<|Rv O.y8<|Rv (O.y6 (x:=I64 x53.Kind))<|Rv (O.geq .z1 .z8)<|Rv (O.mv (.lit q)) ?_
        rcases cnd hj with ⟨hb54,hj⟩ | ⟨hb54,hj⟩
        ·refine Yv hb54 (O.mv .z4)<|Yv hb54 O.y1<|Yv hb54 O.y3 ?_
         exact bd hj fun x55 hx55 hj=>sm hj ▸ (RunL.c (PC.vz (ys:=[.ptr ⟨6,[]⟩ 0,SS x52.Name]) q (.c (View.p0 q q) (.s .nil)) (CF.go hx55)) q q (.yb q q hb54)<|RunL.au)
        ·exact sm hj ▸ RunL.au
       refine bd h fun j57 hj h=>W.jq [1,2,6,7,13,14] [(6,.obj (eyuccaref9_maker_r.cells j57))] ?_ ?_
       ·clear h; have h:=hj; clear hj
        refine W.ch h q (fun hb58 h=>?_) (fun hb58 h=>?_)
        ·refine bd h fun x59 hx59 h=>W.rk [1,2,6,7,13,14] (Rv (O.mv .z4)<|Rv O.y1<|Rv O.y3<|Rv O.y1<|Rv O.y3<|RunL.ef q (EO.call q q (CallOk.ln (G2:=[(1,.obj (eSource_0.cells a0)),(2,.obj [.nils,.nils,.nils,SS S0,SS S0]),(7,SS x5.2),(13,I64 s41.2),(14,I64 s45.2)]) (A:=[]) (ys:=[.ptr ⟨6,[]⟩ 0,I64 x52.At,SS x52.Name]) (args:=[.obj (eyuccaref9_maker_r.cells s45.1),I64 x52.At,SS x52.Name]) (cs':=eyuccaref9_maker_r.cells x59) (k0:=0) q q q q (.b q (.n q (.n q .nil))) q (CF.go hx59) call101 (tn5 q q q q q) q q (tn5 q q q q q) .nil q))<|Fk q) ?_
         exact sm h ▸ Px.jt
        ·exact W.sk<|sm h ▸ Px.jt
       exact Px.bk<|sm h ▸ Px.jt
      refine Px.sq<|W.rk [1,2,6,7,13,14] (Vm q<|Rv (O.add .z1 .z8)<|RunL.rk [1,2,6,7,13,165] q<|RunL.au) ?_
      exact sm h ▸ Px.gt
     ·exact W.xi<|Px.sqE<|sm h ▸ Px.t1
    refine Px.bkH<|Px.bk<|Px.sq<|W.rk [1,2,6,7,13] (Vm q<|Rv (O.add .z1 .z8)<|RunL.rk [1,2,6,7,154] q<|RunL.au) ?_
    exact sm h ▸ Px.gt
   ·exact W.xi<|Px.sqE<|sm h ▸ Px.t1
  refine Px.bkH<|Px.sq<|W.sq'<|W.aq [1,2,6,7,196] ?_
  refine bd h fun j60 hj h=>W.jq [1,2,6,7] [(7,SS j60)] ?_ ?_
  ·clear h; have h:=hj; clear hj
   refine W.ch h q (fun hb61 h=>?_) (fun hb61 h=>?_)
   ·refine bd h fun x62 hx62 h=>W.rk [1,2,6,7] (Rv O.y1<|Rv (O.y5 (y:=iR eRule_0 a0.Rules))<|Rv (O.ixI .z2 .z8 sl30 hx62)<|Rv O.y8<|Rv (O.y6 (x:=SS x62.Left))<|RunL.rk [1,2,6,201] q<|RunL.au) ?_
    exact sm h ▸ Px.jt
   ·exact W.sk<|sm h ▸ Px.jt
  refine Px.sq<|bd h fun x63 hx63 h=>W.rq [1,2,6] (Rv (O.mv .z4)<|Rv (O.mv .z4)<|Vm q<|Rc (PC.vz (ys:=[.ptr ⟨6,[]⟩ 0,SS j60]) q (.c (View.p0 q q) (.s .nil)) (CF.go hx63))<|Rv (O.add .z8 .z1)<|RunL.vi (x:=iR eI [w64 (1001+x63)]) (O.bs (ys:=[I64 (w64 (1001+x63))]) eI [w64 (1001+x63)] sl22 q q q q q q zt3 q q) q q .none<|RunL.vi (x:=.agg [I64 0,iR eI [w64 (1001+x63)],I64 (-1),SS S0,iR eI ([]:List Int),I64 0]) (O.bu (cs:=[I64 0,iR eI [w64 (1001+x63)],I64 (-1),SS S0,.nils,I64 0]) sc110 ze110 q q q) q q .none<|Rv (O.bs (ys:=[.agg [I64 0,iR eI [w64 (1001+x63)],I64 (-1),SS S0,iR eI ([]:List Int),I64 0]]) eProd_0 [(⟨0,[w64 (1001+x63)],(-1),S0,([]:List Int),0⟩:Prod)] sl41 q q q q q q zt110 q q)<|Rv (O.nlP .z5)<|Rv O.y2<|Rv O.y2<|RunL.f' (EO.sw [1,2,6])<|Fk q) ?_
  refine W.sq'<|W.aq [1,2,6,16] ?_
  refine W.bk<|bd h fun x65 hl h=>W.l1 ((⟨(⟨x42.f_g.Toks,x42.f_g.Nons,[(⟨0,[w64 (1001+x63)],(-1),S0,([]:List Int),0⟩:Prod)],x42.f_g.Pro,x42.f_g.Tail⟩:Grammar),x42.f_given,x42.f_types,x42.f_lefts,x42.f_e,x42.f_at,x42.f_name,x42.f_level,x42.f_inner⟩:yuccaref9_maker),0) (fun (s64:yuccaref9_maker × Int)=>[(6,.obj (eyuccaref9_maker_r.cells s64.1)),(16,I64 s64.2)]) [1,2,6,16] 10 (fun (x65:yuccaref9_maker)=>[(6,.obj (eyuccaref9_maker_r.cells x65))]) [1,2,6] hl (fun s64 o h=>?_) ?_
  ·clear hl
   refine W.sq'<|W.aq [1,2,6,16,217] ?_
   refine W.ch h q (fun hb67 h=>?_) (fun hb67 h=>?_)
   ·refine W.sk<|Px.sq<|W.sq'<|W.bk<|W.aq [1,2,6,16,17] ?_
    refine W.bk<|bd h fun x69 hl h=>W.l1 (s64.1,0) (fun (s68:yuccaref9_maker × Int)=>[(6,.obj (eyuccaref9_maker_r.cells s68.1)),(17,I64 s68.2)]) [1,2,6,16,17] 12 (fun (x69:yuccaref9_maker)=>[(6,.obj (eyuccaref9_maker_r.cells x69))]) [1,2,6,16] hl (fun s68 o h=>?_) ?_
    ·clear hl
     refine W.sq'<|bd h fun x71 hx71 h=>W.aq [1,2,6,16,17,228] ?_
     refine W.ch h q (fun hb72 h=>?_) (fun hb72 h=>?_)
     ·refine W.sk<|Px.sq<|W.sq'<|W.bk<|bd h fun x73 hx73 h=>bd h fun x74 hx74 h=>bd h fun x75 hx75 h=>bd h fun x76 hx76 h=>W.rd [[],[],[1],[],[1,2,3],[1,2,3,4],rn 1 5 [],[],[7],[],[7,8,9],[7,8,9,10],rn 7 5 [],[],rn 7 7 [],rn 7 8 [],rn 0 16 []] [(1,_),(2,_),(6,_),(16,_),(17,_)] mixo (by kernel_rfl) (Dv 0 (O.mv .z4)<|Dv 1 O.y1<|Dv 2 (O.y5 (y:=iR eRule_0 a0.Rules))<|Dv 3 (O.mv (.lit q))<|Dv 4 (O.y4 hx73)<|Dv 5 O.y8<|Dv 6 (O.y6 (x:=SS x73.Left))<|Dv 7 O.y1<|Dv 8 (O.y5 (y:=iR eRule_0 a0.Rules))<|Dv 9 (O.mv (.lit q))<|Dv 10 (O.y4 hx74)<|Dv 11 O.y8<|Dv 12 (O.y6 (x:=iR eAlt_0 x74.Alts))<|Dv 13 (O.mv (.lit q))<|Dv 14 (O.y4 hx75)<|Dv 15 (O.ldIN (cs':=eAlt_0.cells x75) .z7 at70 q q)<|DL.bpz 16 (G2:=[(247,.tup []),(6,.obj (eyuccaref9_maker_r.cells x76)),(1,.obj (eSource_0.cells a0)),(2,.obj [.nils,.nils,.nils,SS S0,SS S0]),(16,I64 s64.2),(17,I64 s68.2)]) (EO.call q q (CallOk.ln (G2:=[(1,.obj (eSource_0.cells a0)),(2,.obj [.nils,.nils,.nils,SS S0,SS S0]),(16,I64 s64.2),(17,I64 s68.2)]) (A:=[]) (ys:=[.ptr ⟨6,[]⟩ 0,SS x73.Left,.agg (eAlt_0.cells x75)]) (args:=[.obj (eyuccaref9_maker_r.cells s68.1),SS x73.Left,.agg (eAlt_0.cells x75)]) (cs':=eyuccaref9_maker_r.cells x76) (k0:=0) q q q q (.b q (.n q (.n q .nil))) q (CF.go hx76) call104 (tn4 q q q q) q q (tn4 q q q q) .nil q))<|DL.fin q q q (tn5 q q q q q)) ?_
      refine Px.bk<|Px.sq<|W.rk [1,2,6,16,17] (Vm q<|Rv (O.add .z1 .z8)<|RunL.rk [1,2,6,16,230] q<|RunL.au) ?_
      exact sm h ▸ Px.gt
     ·exact W.xi<|Px.sqE<|sm h ▸ Px.t1
    refine Px.bkH<|Px.bk<|Px.sq<|W.rk [1,2,6,16] (Vm q<|Rv (O.add .z1 .z8)<|RunL.rk [1,2,6,219] q<|RunL.au) ?_
    exact sm h ▸ Px.gt
   ·exact W.xi<|Px.sqE<|sm h ▸ Px.t1
  refine Px.bkH<|Px.sq<|W.sq'<|W.aq [1,2,6,252] ?_
  refine W.ch h q (fun hb77 h=>?_) (fun hb77 h=>?_)
  ·refine W.sq'<|W.rd [[],[],[1],[1,2],[1,2,3],[],[5],[5,6],[5,6,7],[],[9],[9,10],[9,10,11],[0],rn 0 5 [13],rn 0 9 [13,14],rn 0 16 []] [(2,_),(3,_),(4,_),(5,_)] mixo (by kernel_rfl) (Dv 0 (O.bu (cs:=[.nils,.nils,.nils,SS S0,SS S0]) sc43 ze43 q q q)<|Dv 1 (O.mv .z4)<|Dv 2 (O.nlP .z5)<|Dv 3 O.y2<|Dv 4 O.y3<|Dv 5 (O.mv .z4)<|Dv 6 (O.nlP .z5)<|Dv 7 O.y2<|Dv 8 O.y3<|Dv 9 (O.mv .z4)<|Dv 10 (O.nlP .z5)<|Dv 11 O.y2<|Dv 12 O.y3<|DL.bu 13 (G2:=[(2,.obj [.nils,.nils,.nils,SS S0,SS S0]),(6,.obj (eyuccaref9_maker_r.cells x65))]) (U:=[(12,265,some (SS x65.f_name)),(11,264,some (.ptr ⟨6,[]⟩ 10)),(10,263,some (.ptr ⟨6,[]⟩ 0)),(9,262,some (.ptr ⟨6,[]⟩ 0)),(8,261,some (I64 x65.f_at)),(7,260,some (.ptr ⟨6,[]⟩ 9)),(6,259,some (.ptr ⟨6,[]⟩ 0)),(5,258,some (.ptr ⟨6,[]⟩ 0)),(4,257,some (I64 x65.f_e)),(3,256,some (.ptr ⟨6,[]⟩ 8)),(2,255,some (.ptr ⟨6,[]⟩ 0)),(1,254,some (.ptr ⟨6,[]⟩ 0))]) (EffOk.v (EO.eff (EO.sO (G2:=[(2,.obj [.nils,.nils,.nils,SS S0,SS S0]),(6,.obj (eyuccaref9_maker_r.cells x65))]) (cs2:=[.nils,.nils,.nils,SS S0,SS S0]) q q q (.obj q) (.aggF q q) q sz43 q q q q (.b q (.n q q .nil))))) q q (by kernel_rfl) q q q (.c (.inr (.inl ⟨_,q⟩)) q q q q q (Gd.wanted .none) (O.ldOl q .z5 ct9 q) (.c (.inr (.inr (.inr (.inl ⟨6,_,_,q,q,of_blt q,by simp,_,q,of_blt q⟩)))) q q q q q (Gd.wanted .none) (O.fO q .z5 fd210_6 q) (.c (.inr (.inr (.inr (.inl ⟨6,_,_,q,q,of_blt q,by simp,_,q,of_blt q⟩)))) q q q q q (Gd.wanted .none) (O.nlP .z5) (.c (.inr (.inr (.inr (.inl ⟨6,_,_,q,q,of_blt q,by simp,_,q,of_blt q⟩)))) q q q q q (Gd.wanted .none) (O.mv .z4) (.c (.inr (.inl ⟨_,q⟩)) q q q q q (Gd.wanted .none) (O.ldOl q .z5 ct3 q) (.c (.inr (.inr (.inr (.inl ⟨6,_,_,q,q,of_blt q,by simp,_,q,of_blt q⟩)))) q q q q q (Gd.wanted .none) (O.fO q .z5 fd210_5 q) (.c (.inr (.inr (.inr (.inl ⟨6,_,_,q,q,of_blt q,by simp,_,q,of_blt q⟩)))) q q q q q (Gd.wanted .none) (O.nlP .z5) (.c (.inr (.inr (.inr (.inl ⟨6,_,_,q,q,of_blt q,by simp,_,q,of_blt q⟩)))) q q q q q (Gd.wanted .none) (O.mv .z4) (.c (.inr (.inl ⟨_,q⟩)) q q q q q (Gd.wanted .none) (O.ldOl q .z5 ct3 q) (.c (.inr (.inr (.inr (.inl ⟨6,_,_,q,q,of_blt q,by simp,_,q,of_blt q⟩)))) q q q q q (Gd.wanted .none) (O.fO q .z5 fd210_4 q) (.c (.inr (.inr (.inr (.inl ⟨6,_,_,q,q,of_blt q,by simp,_,q,of_blt q⟩)))) q q q q q (Gd.wanted .none) (O.nlP .z5) (.c (.inr (.inr (.inr (.inl ⟨6,_,_,q,q,of_blt q,by simp,_,q,of_blt q⟩)))) q q q q q (Gd.wanted .none) (O.mv .z4) .nil)))))))))))) (by kernel_rfl)<|Dv 14 (O.az (.lit q))<|Dv 15 (O.az (.lit q))<|Dv 16 (O.az (.lit q))<|DL.fin q q q (tn4 q q q q)) ?_
   refine Px.sq<|W.fz (G1:=[(2,.obj [iR eTok ([]:List Tok),iR eNon ([]:List Non),iR eProd_0 ([]:List Prod),SS S0,SS S0]),(3,_),(4,_),(5,_)]) [2] (.z q q (FzL.obj (.z (.z (.z (.f (.f .nil)))))) (.n q q (.n q q (.n q q .nil)))) ?_
   exact W.rt<|Px.sqR<|sm h ▸ Pr (.c (ys0:=[iR eTok ([]:List Tok),iR eNon ([]:List Non),iR eProd_0 ([]:List Prod),SS S0,SS S0]) q at43 q q q (.f q (.f q (.f q (.f q (.f q .nil))))) (.f q q (.f q q (.f q q .nil))))
  ·refine W.sk<|Px.sq<|W.rq [1,2,6] (Rv (O.mv .z4)<|Rv (O.bu (cs:=[SS ({ data:=#[36,97,99,99,101,112,116] }),SS S0]) sc143 ze143 q q q)<|Rv (O.bs (ys:=[.agg [SS ({ data:=#[36,97,99,99,101,112,116] }),SS S0]]) eNon [(⟨{ data:=#[36,97,99,99,101,112,116] },S0⟩:Non)] sl40 q q q q q q zt143 q q)<|Rv (O.nlP .z5)<|Rv O.y2<|Rv O.y2<|RunL.f' (EO.sw [1,2,6])<|Fk q) ?_
   refine W.sq'<|W.aq [1,2,6,18] ?_
   refine W.bk<|bd h fun x79 hl h=>W.l1 ([(⟨{ data:=#[36,97,99,99,101,112,116] },S0⟩:Non)],0) (fun (s78:List Non × Int)=>[(6,.obj [oR eTok x65.f_g.Toks,oR eNon s78.1,oR eProd_0 x65.f_g.Prods,SS x65.f_g.Pro,SS x65.f_g.Tail,oR eB x65.f_given,oR eNon x65.f_types,oR eS x65.f_lefts,I64 x65.f_e,I64 x65.f_at,SS x65.f_name,I64 x65.f_level,I64 x65.f_inner]),(18,I64 s78.2)]) [1,2,6,18] 14 (fun (x79:List Non)=>[(6,.obj [oR eTok x65.f_g.Toks,oR eNon x79,oR eProd_0 x65.f_g.Prods,SS x65.f_g.Pro,SS x65.f_g.Tail,oR eB x65.f_given,oR eNon x65.f_types,oR eS x65.f_lefts,I64 x65.f_e,I64 x65.f_at,SS x65.f_name,I64 x65.f_level,I64 x65.f_inner])]) [1,2,6] hl (fun s78 o h=>?_) ?_
   ·clear hl
    refine W.sq'<|W.aq [1,2,6,18,278] ?_
    refine W.ch h q (fun hb81 h=>?_) (fun hb81 h=>?_)
    ·refine W.sk<|Px.sq<|W.sq'<|W.bk<|bd h fun x82 hx82 h=>W.rq [1,2,6,18,19] (Rv (O.mv .z4)<|Rv (O.nlP .z5)<|Rv O.y2<|Rv (O.y5 (y:=.brw eS.z ⟨6,[7]⟩ x65.f_lefts.length))<|Vm q<|Rv (O.ixO (en:=eS) q .z6 .z1 sl49 hx82 q)<|Rv (O.ldE (en:=eS) (x':=SS x82) q .z5 ct9 hx82 q q)<|Rv (O.bu (cs:=[SS x82,SS S0]) sc143 ze143 q q q)<|Rv (O.al (cs:=[SS S0,SS S0]) ze143 q q)<|RunL.f' (EO.sva [1,2,6,18,19])<|Fk q) ?_
     refine W.sq'<|bd h fun x83 hx83 h=>W.rq [1,2,6,18,19,20] (Rv (O.mv .z4)<|Rv O.y1<|Rv O.y3<|Rc (PC.vz (ys:=[.ptr ⟨6,[]⟩ 0,SS x82]) q (.c (View.p0 q q) (.s .nil)) (CF.go hx83))<|RunL.au) ?_
     refine W.aq [1,2,6,18,19,20,294] ?_
     refine bd h fun j84 hj h=>W.jq [1,2,6,18,19] [(19,.obj [SS x82,SS j84])] ?_ ?_
     ·clear h; have h:=hj; clear hj
      refine W.ch h q (fun hb85 h=>?_) (fun hb85 h=>?_)
      ·refine bd h fun x86 hx86 h=>W.rk [1,2,6,18,19] (Rv (O.mv .z4)<|Rv (O.nlP .z5)<|Rv O.y2<|Rv (O.y5 (y:=.brw eNon.z ⟨6,[6]⟩ x65.f_types.length))<|Vm q<|Rv (O.ixO (en:=eNon) q .z6 .z1 sl40 hx86 q)<|Rv (O.fE (en:=eNon) q .z5 fd143_1 hx86 q q)<|Rv (O.ldE (en:=eNon) (x':=SS x86.Tag) q .z5 ct9 hx86 q q)<|Rv O.y1<|RunL.f' (EO.sv1 [1,2,6,18,19])<|Fk q) ?_
       exact sm h ▸ Px.jt
      ·exact W.sk<|sm h ▸ Px.jt
     refine Px.sq<|bd h fun x87 hx87 h=>W.rd [[],[],[1],[1,2],[1,2,3],[1,2,3,4],[],[6],rn 1 7 [],rn 0 9 [],rn 0 10 [],rn 0 11 [],rn 0 12 []] [(1,_),(2,_),(6,_),(18,_)] mixo (by kernel_rfl) (Dv 0 (O.mv .z4)<|Dv 1 (O.mv .z4)<|Dv 2 (O.nlP .z5)<|Dv 3 O.y2<|Dv 4 O.y2<|Dv 5 (O.y5 (y:=.brw eNon.z ⟨6,[1]⟩ s78.1.length))<|Dv 6 (O.ldON (cs':=[SS x82,SS j84]) q .z4 at143 q q)<|DL.vi 7 (x:=iR eNon [(⟨x82,j84⟩:Non)]) (O.bs (ys:=[.agg [SS x82,SS j84]]) eNon [(⟨x82,j84⟩:Non)] sl40 q q q q q q zt143 q q) q q q q .none<|Dv 8 (O.ap (en:=eNon) (r:=x87) .z6 q .z2 .i ap40 q hx87)<|Dv 9 (O.nlP .z5)<|Dv 10 O.y2<|Dv 11 O.y2<|DL.bpz 12 (EO.sp [1,2,6,18])<|DL.fin q q q (tn4 q q q q)) ?_
     refine Px.bk<|Px.sq<|W.rk [1,2,6,18] (Vm q<|Rv (O.add .z1 .z8)<|RunL.rk [1,2,6,280] q<|RunL.au) ?_
     exact sm h ▸ Px.gt
    ·exact W.xi<|Px.sqE<|sm h ▸ Px.t1
   refine Px.bkH<|Px.sq<|W.sq'<|W.aq [1,2,6,21] ?_
   refine W.bk<|bd h fun x89 hl h=>W.l1 (x79,1) (fun (s88:List Non × Int)=>[(6,.obj [oR eTok x65.f_g.Toks,oR eNon s88.1,oR eProd_0 x65.f_g.Prods,SS x65.f_g.Pro,SS x65.f_g.Tail,oR eB x65.f_given,oR eNon x65.f_types,oR eS x65.f_lefts,I64 x65.f_e,I64 x65.f_at,SS x65.f_name,I64 x65.f_level,I64 x65.f_inner]),(21,I64 s88.2)]) [1,2,6,21] 16 (fun (x89:List Non)=>[(6,.obj [oR eTok x65.f_g.Toks,oR eNon x89,oR eProd_0 x65.f_g.Prods,SS x65.f_g.Pro,SS x65.f_g.Tail,oR eB x65.f_given,oR eNon x65.f_types,oR eS x65.f_lefts,I64 x65.f_e,I64 x65.f_at,SS x65.f_name,I64 x65.f_level,I64 x65.f_inner])]) [1,2,6] hl (fun s88 o h=>?_) ?_
   ·clear hl
    refine W.sq'<|W.aq [1,2,6,21,321] ?_
    refine W.ch h q (fun hb91 h=>?_) (fun hb91 h=>?_)
    ·refine W.sk<|Px.sq<|W.sq'<|W.bk<|bd h fun x92 hx92 h=>bd h fun x93 hx93 h=>bd h fun x94 hx94 h=>W.rd [[],[],[1],[1,2],[1,2,3],[1,2,3,4],[],[6],[6,7],[6,7,8],[6,7,8,9],rn 1 10 [],rn 0 12 [],rn 0 13 [],rn 0 14 [],rn 0 15 []] [(1,_),(2,_),(6,_),(21,_)] mixo (by kernel_rfl) (Dv 0 (O.mv .z4)<|Dv 1 (O.mv .z4)<|Dv 2 (O.nlP .z5)<|Dv 3 O.y2<|Dv 4 O.y2<|Dv 5 (O.y5 (y:=.brw eNon.z ⟨6,[1]⟩ s88.1.length))<|Dv 6 (O.mv (.lit q))<|Dc 7 (PC.gz (.cc (.lit q) .nil) (CF.go hx92))<|Dv 8 (O.cat .z8 .z1 hx93)<|Dv 9 (O.bu (cs:=[SS x93,SS S0]) sc143 ze143 q q q)<|DL.vi 10 (x:=iR eNon [(⟨x93,S0⟩:Non)]) (O.bs (ys:=[.agg [SS x93,SS S0]]) eNon [(⟨x93,S0⟩:Non)] sl40 q q q q q q zt143 q q) q q q q .none<|Dv 11 (O.ap (en:=eNon) (r:=x94) .z6 q .z2 .i ap40 q hx94)<|Dv 12 (O.nlP .z5)<|Dv 13 O.y2<|Dv 14 O.y2<|DL.bpz 15 (EO.sp [1,2,6,21])<|DL.fin q q q (tn4 q q q q)) ?_
     refine Px.bk<|Px.sq<|W.rk [1,2,6,21] (Vm q<|Rv (O.add .z1 .z8)<|RunL.rk [1,2,6,323] q<|RunL.au) ?_
     exact sm h ▸ Px.gt
    ·exact W.xi<|Px.sqE<|sm h ▸ Px.t1
   refine Px.bkH<|Px.sq<|W.aq [1,2,6,22] ?_
   refine W.sq'<|W.aq [1,2,6,22,23] ?_
   refine W.bk<|bd h fun x96 hl h=>W.l1 (x65.f_g.Toks,57346,3) (fun (s95:List Tok × Int × Int)=>[(6,.obj [oR eTok s95.1,oR eNon x89,oR eProd_0 x65.f_g.Prods,SS x65.f_g.Pro,SS x65.f_g.Tail,oR eB x65.f_given,oR eNon x65.f_types,oR eS x65.f_lefts,I64 x65.f_e,I64 x65.f_at,SS x65.f_name,I64 x65.f_level,I64 x65.f_inner]),(22,I64 s95.2.1),(23,I64 s95.2.2)]) [1,2,6,22,23] 18 (fun (x96:List Tok)=>[(6,.obj [oR eTok x96,oR eNon x89,oR eProd_0 x65.f_g.Prods,SS x65.f_g.Pro,SS x65.f_g.Tail,oR eB x65.f_given,oR eNon x65.f_types,oR eS x65.f_lefts,I64 x65.f_e,I64 x65.f_at,SS x65.f_name,I64 x65.f_level,I64 x65.f_inner])]) [1,2,6] hl (fun s95 o h=>?_) ?_
   ·clear hl
    refine W.sq'<|W.aq [1,2,6,22,23,346] ?_
    refine W.ch h q (fun hb98 h=>?_) (fun hb98 h=>?_)
    ·refine W.sk<|Px.sq<|W.sq'<|bd h fun j99 hj h=>W.jq [1,2,6,22,23] [(6,.obj [oR eTok j99.1,oR eNon x89,oR eProd_0 x65.f_g.Prods,SS x65.f_g.Pro,SS x65.f_g.Tail,oR eB x65.f_given,oR eNon x65.f_types,oR eS x65.f_lefts,I64 x65.f_e,I64 x65.f_at,SS x65.f_name,I64 x65.f_level,I64 x65.f_inner]),(22,I64 j99.2)] ?_ ?_
     ·clear h; have h:=hj; clear hj
      refine W.bk<|bd h fun x100 hx100 h=>W.rq [1,2,6,22,23,356] (Rv (O.mv .z4)<|Rv (O.nlP .z5)<|Rv O.y2<|Rv (O.y5 (y:=.brw eB.z ⟨6,[5]⟩ x65.f_given.length))<|Vm q<|Rv (O.ixO (en:=eB) q .z6 .z1 sl56 hx100 q)<|Rv (O.ldE (en:=eB) (x':=BB x100) q .z5 ct4 hx100 q q)<|RunL.au) ?_
      refine bd h fun j101 hj h=>W.jq [1,2,6,22,23] [(6,.obj [oR eTok j101.1,oR eNon x89,oR eProd_0 x65.f_g.Prods,SS x65.f_g.Pro,SS x65.f_g.Tail,oR eB x65.f_given,oR eNon x65.f_types,oR eS x65.f_lefts,I64 x65.f_e,I64 x65.f_at,SS x65.f_name,I64 x65.f_level,I64 x65.f_inner]),(22,I64 j101.2)] ?_ ?_
      ·clear h; have h:=hj; clear hj
       refine W.ch h q (fun hb102 h=>?_) (fun hb102 h=>?_)
       ·refine bd h fun x103 hx103 h=>W.rq [1,2,6,22,23] (Rv (O.mv .z4)<|Rv (O.nlP .z5)<|Rv O.y2<|Rv O.y2<|Rv (O.y5 (y:=.brw eTok.z ⟨6,[0]⟩ s95.1.length))<|Vm q<|Vm q<|Rv (O.ixO (en:=eTok) q .z6 .z1 sl39 hx103 q)<|Rv (O.fE (en:=eTok) q .z5 fd94_2 hx103 q q)<|RunL.f' (EO.se (en:=eTok) (y2:=(⟨x103.Name,x103.Lit,s95.2.1,x103.Level,x103.Assoc,x103.Tag⟩:Tok)) [1,2,6,22,23] hx103)<|Fk q) ?_
        refine W.rk [1,2,6,22,23] (Vm q<|Rv (O.add .z1 .z8)<|RunL.rk [1,2,6,23,367] q<|RunL.au) ?_
        exact sm h ▸ Px.jt
       ·exact W.sk<|sm h ▸ Px.jt
      exact Px.bk<|sm h ▸ Px.jt
     refine Px.sq<|W.rk [1,2,6,22,23] (Vm q<|Rv (O.add .z1 .z8)<|RunL.rk [1,2,6,22,348] q<|RunL.au) ?_
     exact sm h ▸ Px.gt
    ·exact W.xi<|Px.sqE<|sm h ▸ Px.t1
   refine Px.bkH<|Px.sq<|bd h fun c106 hj h=>W.rz [1,2,6,24] [(24,BB c106)] ?_ ?_
   ·refine Rv (O.mv .z4)<|Rv (O.nlP .z5)<|Rv O.y2<|Rv O.y2<|Rv (O.y5 (y:=.brw eTok.z ⟨6,[0]⟩ x96.length))<|Rv (O.lenO .z6 sl39)<|Rv (O.gtr .z1 .z8)<|Rv (O.mv (.lit q)) ?_
    rcases cnd hj with ⟨hb104,hj⟩ | ⟨hb104,hj⟩
    ·exact sm hj ▸ RunL.au
    ·refine Yv hb104 (O.mv .z4)<|Yv hb104 (O.nlP .z5)<|Yv hb104 O.y2<|Yv hb104 O.y2<|Yv hb104 (O.y5 (y:=.brw eNon.z ⟨6,[1]⟩ x89.length))<|Yv hb104 (O.lenO .z6 sl40)<|Yv hb104 (O.gtr .z1 .z8)<|Rv (O.pkF .z1 hb104 .z1)<|Rv (O.mv (.lit q)) ?_
     rcases cnd hj with ⟨hb105,hj⟩ | ⟨hb105,hj⟩
     ·exact sm hj ▸ RunL.au
     ·exact sm hj ▸ (Yv hb105 (O.mv .z4)<|RunL.au)
   refine W.sq'<|W.aq [1,2,6,24,25] ?_
   refine W.bk<|bd h fun x108 hl h=>W.l1 (c106,0) (fun (s107:Bool × Int)=>[(24,BB s107.1),(25,I64 s107.2)]) [1,2,6,24,25] 20 (fun (x108:Bool)=>[(24,BB x108)]) [1,2,6,24] hl (fun s107 o h=>?_) ?_
   ·clear hl
    refine W.sq'<|W.aq [1,2,6,24,25,400] ?_
    refine W.ch h q (fun hb110 h=>?_) (fun hb110 h=>?_)
    ·refine W.sk<|Px.sq<|W.sq'<|W.bk<|bd h fun c113 hj h=>W.rx [(1,.obj (eSource_0.cells a0)),(2,.obj [.nils,.nils,.nils,SS S0,SS S0]),(6,.obj [oR eTok x96,oR eNon x89,oR eProd_0 x65.f_g.Prods,SS x65.f_g.Pro,SS x65.f_g.Tail,oR eB x65.f_given,oR eNon x65.f_types,oR eS x65.f_lefts,I64 x65.f_e,I64 x65.f_at,SS x65.f_name,I64 x65.f_level,I64 x65.f_inner]),(24,BB c113),(25,I64 s107.2)] ?_ ?_
     ·refine Vm q<|Rv (O.mv (.lit q)) ?_
      rcases cnd hj with ⟨hb111,hj⟩ | ⟨hb111,hj⟩
      ·exact sm hj ▸ (Ps hb111<|Ps hb111<|Ps hb111<|Ps hb111<|Ps hb111<|Ps hb111<|Ps hb111<|Ps hb111<|Ps hb111<|Ps hb111<|Ps hb111<|Rv (O.pkT .z1 hb111 .z8)<|RunL.rk [1,2,6,25,416] q<|RunL.au)
      ·refine Yv hb111 (O.mv .z4)<|Yv hb111 (O.nlP .z5)<|Yv hb111 O.y2<|Yv hb111 O.y2<|Yv hb111 (O.y5 (y:=.brw eProd_0.z ⟨6,[2]⟩ x65.f_g.Prods.length))<|Yv hb111 (O.mv (.lit q)) ?_
       exact bd hj fun x112 hx112 hj=>sm hj ▸ (Yv hb111 (O.ixO (en:=eProd_0) q .z6 .z1 sl41 hx112 q)<|Yv hb111 (O.fE (en:=eProd_0) q .z5 fd110_1 hx112 q q)<|Yv hb111 (O.ldE (en:=eProd_0) (x':=iR eI x112.Right) q .z5 ct22 hx112 q q)<|Yv hb111 O.y9<|Yv hb111 (O.gtr .z1 .z8)<|Rv (O.pkF .z1 hb111 .z1)<|RunL.rk [1,2,6,25,416] q<|RunL.au)
     refine Px.bk<|Px.sq<|W.rk [1,2,6,24,25] (Vm q<|Rv (O.add .z1 .z8)<|RunL.rk [1,2,6,24,402] q<|RunL.au) ?_
     exact sm h ▸ Px.gt
    ·exact W.xi<|Px.sqE<|sm h ▸ Px.t1
   refine Px.bkH<|Px.sq<|W.sq'<|W.aq [1,2,6,417] ?_
   refine W.ch h q (fun hb114 h=>?_) (fun hb114 h=>?_)
   ·refine W.rq [2,3,4,5] (Rv (O.bu (cs:=[.nils,.nils,.nils,SS S0,SS S0]) sc43 ze43 q q q)<|RunL.f' (EO.sva [2])<|RunL.au) ?_
    refine W.fz (G1:=[(2,.obj [iR eTok ([]:List Tok),iR eNon ([]:List Non),iR eProd_0 ([]:List Prod),SS S0,SS S0]),(3,_),(4,_),(5,_)]) [2] (.z q q (FzL.obj (.z (.z (.z (.f (.f .nil)))))) (.n q q (.n q q (.n q q .nil)))) ?_
    exact W.rt<|Px.sqR<|sm h ▸ Pr (.c (ys0:=[iR eTok ([]:List Tok),iR eNon ([]:List Non),iR eProd_0 ([]:List Prod),SS S0,SS S0]) q at43 q q q (.f q (.f q (.f q (.f q (.f q .nil))))) (.f q q (.f q q (.f q q .nil))))
   ·refine W.sk<|Px.sq<|W.sq'<|W.rd [[],[],[],[2],[],[4],[0,2,3],[0,2,3,6],[0,2,3,6,7],[0,2,3,6,7,8],rn 0 10 [],rn 0 11 [],rn 0 12 [],rn 0 13 []] [(2,_),(6,_)] mixo (by kernel_rfl) (Dv 0 (O.mv .z4)<|Dv 1 (O.mv .z4)<|Dv 2 O.y1<|Dv 3 O.y3<|Dv 4 O.y1<|Dv 5 O.y3<|Dv 6 (O.nlP .z5)<|Dv 7 O.y2<|Dv 8 O.y2<|DL.bu 9 (G2:=[(1,.obj (eSource_0.cells a0)),(2,.obj [.nils,.nils,.nils,SS S0,SS S0]),(6,.obj [oR eTok x96,oR eNon x89,oR eProd_0 x65.f_g.Prods,SS a0.Pro,SS x65.f_g.Tail,oR eB x65.f_given,oR eNon x65.f_types,oR eS x65.f_lefts,I64 x65.f_e,I64 x65.f_at,SS x65.f_name,I64 x65.f_level,I64 x65.f_inner])]) (U:=[(5,424,some (SS a0.Tail)),(4,423,some (.ptr ⟨1,[]⟩ 3)),(1,420,some (.ptr ⟨6,[]⟩ 0))]) (EffOk.v (EO.eff (EO.sO (G2:=[(1,.obj (eSource_0.cells a0)),(2,.obj [.nils,.nils,.nils,SS S0,SS S0]),(6,.obj [oR eTok x96,oR eNon x89,oR eProd_0 x65.f_g.Prods,SS a0.Pro,SS x65.f_g.Tail,oR eB x65.f_given,oR eNon x65.f_types,oR eS x65.f_lefts,I64 x65.f_e,I64 x65.f_at,SS x65.f_name,I64 x65.f_level,I64 x65.f_inner])]) (cs2:=[oR eTok x96,oR eNon x89,oR eProd_0 x65.f_g.Prods,SS a0.Pro,SS x65.f_g.Tail,oR eB x65.f_given,oR eNon x65.f_types,oR eS x65.f_lefts,I64 x65.f_e,I64 x65.f_at,SS x65.f_name,I64 x65.f_level,I64 x65.f_inner]) q q q (.ptr q) (.lit q) q sz9 q q q q (.n q q (.n q q (.b q .nil)))))) q q (by kernel_rfl) q q q (.c (.inr (.inl ⟨_,q⟩)) q q q q q (Gd.wanted .none) (O.ldOl q .z5 ct9 q) (.c (.inr (.inr (.inr (.inl ⟨1,_,_,q,q,of_blt q,by simp,_,q,of_blt q⟩)))) q q q q q (Gd.wanted .none) (O.fO q .z4 fd32_3 q) (.c (.inr (.inr (.inr (.inl ⟨6,_,_,q,q,of_blt q,by simp,_,q,of_blt q⟩)))) q q q q q (Gd.wanted .none) (O.mv .z4) .nil))) (by kernel_rfl)<|Dv 10 (O.nlP .z5)<|Dv 11 O.y2<|Dv 12 O.y2<|DL.bpz 13 (EO.sv1 [2,6])<|DL.fin q q q (tn2 q q)) ?_
    refine Px.sq<|W.sq'<|W.fz (G1:=[(2,_),(6,.obj [iR eTok x96,iR eNon x89,iR eProd_0 x65.f_g.Prods,SS a0.Pro,SS a0.Tail,oR eB x65.f_given,oR eNon x65.f_types,oR eS x65.f_lefts,I64 x65.f_e,I64 x65.f_at,SS x65.f_name,I64 x65.f_level,I64 x65.f_inner])]) [6] (.n q q (.z q q (FzL.obj (.z (.z (.z (.f (.f (.f (.f (.f (.f (.f (.f (.f (.f .nil)))))))))))))) .nil)) ?_
    refine W.rk [2,3,4,5] (Rv (O.mv .z4)<|Rv (O.nlP .z5)<|Rv O.y2<|Rv (O.ldON (cs':=[iR eTok x96,iR eNon x89,iR eProd_0 x65.f_g.Prods,SS a0.Pro,SS a0.Tail]) q .z5 at43 q q)<|RunL.f' (EO.sva [2])<|RunL.au) ?_
    exact Px.sq<|W.rt<|sm h ▸ Pr (.c (ys0:=[iR eTok x96,iR eNon x89,iR eProd_0 x65.f_g.Prods,SS a0.Pro,SS a0.Tail]) q at43 q q q (.f q (.f q (.f q (.f q (.f q .nil))))) (.f q q (.f q q (.f q q .nil))))
instance con81 {a0:Source}{r:Grammar × Int × Int × ByteArray}:CF Tryz.prog 81 (pf81 a0=some r) [.agg (eSource_0.cells a0)] [none] (.tup [.agg (eGrammar_0.cells r.1),I64 r.2.1,I64 r.2.2.1,SS r.2.2.2]):=⟨con81l a0 _⟩
instance con66 {a0:Source}{r:Grammar × Bool}:CF Tryz.prog 66 (pf66 a0=some r) [.agg (eSource_0.cells a0)] [none] (.tup [.agg (eGrammar_0.cells r.1),BB r.2]):=⟨fun h=>by unfold pf66 at h; exact Con.au (N:=⟨18,[]⟩) [1,2,3,4,5] .e Tryz.func66 rfl rfl rfl rfl rfl goW⟩
instance con61 {a0:(List Int)}{a1:Int}{r:(List Int)}:CF Tryz.prog 61 (pf61 a0 a1=some r) [iR eI a0,I64 a1] [none,none] (iR eI r):=⟨fun h=>by unfold pf61 at h; exact Con.au (N:=⟨47,[]⟩) [0,1,4,5,6,19,32] (.lp (fun (s1:Int)=>[(5,I64 s1)]) [0,1,5] 0 (fun (x2:Int)=>[(5,I64 x2)]) [0,1,5] (.rj 2 [0,1,5,19] (fun (c6:Bool)=>[(19,BB c6)]) .e) (.rj 4 [0,1,5,32] (fun (c10:Bool)=>[(32,BB c10)]) (.b .e (.rd 7 [[],[],[1],[0,1,2],[],[],[4,5],rn 0 7 [],rn 0 8 []] .e)))) Tryz.func61 rfl rfl rfl rfl rfl goW⟩
instance con68 {a0:(List Int)}{a1:Int}{r:Bool}:CF Tryz.prog 68 (pf68 a0 a1=some r) [iR eI a0,I64 a1] [none,none] (BB r):=⟨fun h=>by unfold pf68 at h; exact Con.au (N:=⟨18,[]⟩) [0,1,4,5,9,17] (.l2 (fun (s1:Int)=>[(5,I64 s1)]) [0,1,5] 0 (fun (x3:Unit)=>[]) [] (fun (x4:Bool)=>[(4,BB x4)]) [4] .e .e .e) Tryz.func68 rfl rfl rfl rfl rfl goW⟩
instance con82 {a0:Grammar}{r:(List Int)}:CF Tryz.prog 82 (pf82 a0=some r) [.agg (eGrammar_0.cells a0)] [none] (iR eI r):=⟨fun h=>by unfold pf82 at h; exact Con.au (N:=⟨30,[]⟩) [1,2,3,4,5,10,21] (.lp (fun (s1:List Int × Int)=>[(3,oR eI s1.1),(4,I64 s1.2)]) [1,3,4] 0 (fun (x2:List Int)=>[(3,oR eI x2)]) [1,3] .e (.lp (fun (s6:List Int × Int)=>[(3,oR eI s6.1),(5,I64 s6.2)]) [1,3,5] 2 (fun (x7:List Int)=>[(3,oR eI x7)]) [3] .e .e)) Tryz.func82 rfl rfl rfl rfl rfl goW⟩
instance con108 {a0:Grammar}{a1:Item}{r:Bool}:CF Tryz.prog 108 (pf108 a0 a1=some r) [.agg (eGrammar_0.cells a0),.agg [I64 a1.Prod,I64 a1.Dot]] [none,none] (BB r):=⟨fun h=>by unfold pf108 at h; exact Con.au (N:=⟨34,[]⟩) [2,3,4] (.rk 1 [[],[0],[0,1],[0,1,2],[0,1,2,3],rn 0 5 [],[0,1,2,3],[0,1,2,3,6],[0,1,2,3,6,7],rn 0 9 [],rn 0 10 [],rn 0 11 [],rn 0 12 [],rn 0 13 [],rn 0 14 [],rn 0 15 [],rn 0 16 [],rn 0 17 [],rn 0 18 [],rn 0 17 [],rn 0 17 [19],rn 0 17 [],rn 0 17 [21],rn 0 17 [19,20,21,22],rn 0 17 (rn 19 5 []),rn 0 17 (rn 19 6 []),rn 0 17 (rn 19 7 []),rn 0 27 [],rn 0 28 [],rn 0 29 []] [4] (fun (c5:Bool)=>[(4,BB c5)]) .e) Tryz.func108 rfl rfl rfl rfl rfl goW⟩
instance con84 {a0:Grammar}{a1:Item}{r:Int}:CF Tryz.prog 84 (pf84 a0 a1=some r) [.agg (eGrammar_0.cells a0),.agg [I64 a1.Prod,I64 a1.Dot]] [none,none] (I64 r):=⟨fun h=>by unfold pf84 at h; exact Con.au (N:=⟨33,[]⟩) [2,3,4,21] (.rk 1 [[],[],[0,1],[0,1,2],[0,1,2,3],rn 0 5 [],rn 0 6 [],rn 0 5 [],rn 0 5 [7],rn 0 5 [],rn 0 5 [9],rn 0 5 [7,8,9,10],rn 0 5 (rn 7 5 []),rn 0 5 (rn 7 6 []),rn 0 5 (rn 7 7 []),rn 0 15 [],rn 0 16 []] [2,3,21] (fun (c4:Bool)=>[(21,BB c4)]) (.b .e (.rd 3 [[],[0],[],[2],[0,1,2,3],rn 0 5 [],rn 0 6 [],[],[7],rn 0 9 [],rn 0 10 [],rn 0 11 []] .e))) Tryz.func84 rfl rfl rfl rfl rfl goW⟩
instance con107 {a0:(List Item)}{a1:Item}{r:(List Item)}:CF Tryz.prog 107 (pf107 a0 a1=some r) [iR eItem a0,.agg [I64 a1.Prod,I64 a1.Dot]] [none,none] (iR eItem r):=⟨fun h=>by unfold pf107 at h; exact Con.au (N:=⟨71,[]⟩) [0,3,4,5,6,43,56] (.lp (fun (s1:Int)=>[(5,I64 s1)]) [0,3,5] 0 (fun (x2:Int)=>[(5,I64 x2)]) [0,3,5] (.rk 2 [[],[0],[0,1],[0,1,2],[0,1,2],[0,1,2,4],rn 0 6 [],rn 0 7 [],rn 0 8 [],[0,1,2],[0,1,2,9],rn 0 11 [],rn 0 12 [],rn 0 13 [],rn 0 13 [],rn 0 13 [14],rn 0 16 [],rn 0 17 [],rn 0 18 [],rn 0 13 [],rn 0 13 [19],rn 0 21 [],rn 0 22 [],rn 0 23 [],rn 0 23 [],rn 0 23 [24],rn 0 26 [],rn 0 27 [],rn 0 28 [],rn 0 23 [],rn 0 23 [29],rn 0 31 [],rn 0 32 [],rn 0 33 [],rn 0 34 []] [0,3,5,43] (fun (c10:Bool)=>[(43,BB c10)]) .e) (.rk 4 [[],[0],[0,1],[0,1,2],[0,1,2],[0,1,2,4],rn 0 6 [],rn 0 7 [],[0,1,2],rn 0 9 [],rn 0 10 []] [0,3,5,56] (fun (c14:Bool)=>[(56,BB c14)]) (.b .e (.rd 7 [[],[],[1],[0,1,2],[],[],[4,5],rn 0 7 [],rn 0 8 []] .e)))) Tryz.func107 rfl rfl rfl rfl rfl goW⟩
instance con106 {a0:Grammar}{a1:(List Item)}{r:(List Item)}:CF Tryz.prog 106 (pf106 a0 a1=some r) [.agg (eGrammar_0.cells a0),iR eItem a1] [none,none] (iR eItem r):=⟨fun h=>by unfold pf106 at h; exact Con.au (N:=⟨26,[]⟩) [1,2,4,5,6,10,18] (.lp (fun (s1:List Item × Int)=>[(5,iR eItem s1.1),(6,I64 s1.2)]) [1,2,5,6] 0 (fun (x2:List Item)=>[(5,iR eItem x2)]) [5] (.b (.jn [1,2,5,6] (fun (j5:List Item)=>[(5,iR eItem j5)]) (.rd 5 [[],[],[],[1,2],[1,2,3],rn 0 5 []] (.jn [1,2,5,6] (fun (j8:List Item)=>[(5,iR eItem j8)]) .e .e)) .e) .e) .e) Tryz.func106 rfl rfl rfl rfl rfl goW⟩
instance con83 {a0:Grammar}{a1:(List Item)}{r:(List Item)}:CF Tryz.prog 83 (pf83 a0 a1=some r) [.agg (eGrammar_0.cells a0),iR eItem a1] [none,none] (iR eItem r):=⟨fun h=>by unfold pf83 at h; exact Con.au (N:=⟨59,[]⟩) [1,2,4,5,6,7,8,9,16,21,38,49,57] (.lp (fun (s2:List Item × Int)=>[(5,iR eItem s2.1),(6,I64 s2.2)]) [2,5,6] 0 (fun (x3:List Item)=>[(5,iR eItem x3)]) [5] (.b (.jn [2,5,6] (fun (j6:List Item × Int)=>[(5,iR eItem j6.1),(6,I64 j6.2)]) (.p (.jn [2,5,6] (fun (j7:List Item)=>[(5,iR eItem j7)]) (.lp (fun (s8:List Item × Int)=>[(5,iR eItem s8.1),(7,I64 s8.2)]) [2,5,6,7] 2 (fun (x9:List Item)=>[(5,iR eItem x9)]) [2,5,6] (.b (.rd 8 [[],[],[],[1,2],[1,2,3],rn 0 5 [],rn 0 6 []] (.lp (fun (s14:List Item × Int)=>[(5,iR eItem s14.1),(9,I64 s14.2)]) [2,5,6,7,8,9] 4 (fun (x15:List Item)=>[(5,iR eItem x15)]) [2,5,6,7] (.rj 10 [2,5,6,7,8,9,38] (fun (c18:Bool)=>[(38,BB c18)]) (.b (.jn [2,5,6,7,8,9] (fun (j20:List Item)=>[(5,iR eItem j20)]) (.p (.jn [2,5,6,7,8,9] (fun (j22:List Item)=>[(5,iR eItem j22)]) .e .e)) .e) .e)) .e)) .e) .e) .e)) .e) .e) .e) Tryz.func83 rfl rfl rfl rfl rfl goW⟩
instance con85 {a0:Grammar}{a1:(List Item)}{a2:Int}{r:(List Item)}:CF Tryz.prog 85 (pf85 a0 a1 a2=some r) [.agg (eGrammar_0.cells a0),iR eItem a1,I64 a2] [none,none,none] (iR eItem r):=⟨fun h=>by unfold pf85 at h; exact Con.au (N:=⟨48,[]⟩) [1,2,3,6,7,8,9,10,17,32] (.lp (fun (s2:List Item × Int)=>[(7,iR eItem s2.1),(9,I64 s2.2)]) [2,3,7,8,9] 0 (fun (x3:List Item)=>[(7,iR eItem x3)]) [7] (.b (.jn [2,3,7,8,9] (fun (j6:List Item)=>[(7,iR eItem j6)]) (.rd 6 [[],[],[],[1,2],[1,2,3],rn 0 5 [],rn 0 6 []] (.rj 7 [2,3,7,8,9,32] (fun (c10:Bool)=>[(32,BB c10)]) (.jn [2,3,7,8,9] (fun (j11:List Item)=>[(7,iR eItem j11)]) (.b (.rd 8 [[],[],[],[1,2],[1,2,3],[1,2,3,4],[],[],[6,7],[6,7,8],[6,7,8,9],rn 6 5 [],rn 1 11 [],rn 0 13 [],rn 0 14 []] .e) .e) .e))) .e) .e) .e) Tryz.func85 rfl rfl rfl rfl rfl goW⟩
instance con109 {a0:(List Item)}{a1:(List Item)}{r:Bool}:CF Tryz.prog 109 (pf109 a0 a1=some r) [iR eItem a0,iR eItem a1] [none,none] (BB r):=⟨fun h=>by unfold pf109 at h; exact Con.au (N:=⟨26,[]⟩) [0,1,4,5,10,14,25] (.b .e (.l2 (fun (s2:Int)=>[(5,I64 s2)]) [0,1,5] 0 (fun (x4:Unit)=>[]) [] (fun (x5:Bool)=>[(4,BB x5)]) [4] (.b (.rd 6 [[],[],[0,1],[0,1,2],[],[],[4,5],[4,5,6],rn 0 8 []] .e) .e) .e .e)) Tryz.func109 rfl rfl rfl rfl rfl goW⟩
instance con86 {a0:(List State)}{a1:(List Item)}{r:Int}:CF Tryz.prog 86 (pf86 a0 a1=some r) [iR eState_0 a0,iR eItem a1] [none,none] (I64 r):=⟨fun h=>by unfold pf86 at h; exact Con.au (N:=⟨20,[]⟩) [0,1,4,5,9,18] (.l2 (fun (s1:Int)=>[(5,I64 s1)]) [0,1,5] 0 (fun (x3:Unit)=>[]) [] (fun (x4:Int)=>[(4,I64 x4)]) [4] .e .e .e) Tryz.func86 rfl rfl rfl rfl rfl goW⟩
theorem con67l (a0:Grammar) (r:(List State) × Int) (h:pf67 a0=some r):Con Tryz.prog 67 [.agg (eGrammar_0.cells a0)] [none] (.tup [iR eState_0 r.1,I64 r.2]):=by
 unfold pf67 at h
 refine Con.go (N:=⟨106,[]⟩) Tryz.func67 q q q q (W.fin ?_)
 refine W.st [(0,.agg (eGrammar_0.cells a0))] ?_
 refine W.rq [1] (Rv (O.box (.aggF q q) q)<|RunL.au) ?_
 refine W.rq [1,4] (Rv (O.bu (cs:=[I64 0,I64 0]) sc165 ze165 q q q)<|Rv (O.bsL (ys:=[.agg [I64 0,I64 0]]) (cs:=[I64 0,I64 0]) sl160 q q q q q zt165 q q)<|Rv (O.bu (cs:=[.brw 2 ⟨15,[]⟩ 1,.nils]) sc163 ze163 q q q)<|Rv (O.bsL (ys:=[.agg [.brw 2 ⟨15,[]⟩ 1,.nils]]) (cs:=[.brw 2 ⟨15,[]⟩ 1,.nils]) sl99 q q q q q zt163 q q)<|RunL.ea (G2:=[(1,.obj (eGrammar_0.cells a0))]) q (EO.aG (y':=oR eState_m [(⟨[(⟨0,0⟩:Item)],([]:List Move)⟩:State)]) q q (.own q) (.l q q (.l q q (.f (.f .nil)) (.f .nil)) .nil) (FzL.own (.z (hv:=Vw.rl (en:=eItem) (L:=[(⟨0,0⟩:Item)]) (cs':=[I64 0,I64 0]) q q) (.o .nil))) (.n q .nil) q q)<|Fk q) ?_
 refine bd h fun x1 hx1 h=>W.rq [1,4,5] (Rv (O.ldON (cs':=eGrammar_0.cells a0) q .z4 at43 q q)<|Rc (PC.gz (.cc (.aggF q q) .nil) (CF.go hx1))<|RunL.au) ?_
 refine W.sq'<|W.aq [1,4,5,6] ?_
 refine W.bk<|bd h fun x3 hl h=>W.l2 ([(⟨[(⟨0,0⟩:Item)],([]:List Move)⟩:State)],0) (fun (s2:List State × Int)=>[(4,oR eState_m s2.1),(6,I64 s2.2)]) [1,4,5,6] 0 (fun (x4:List State)=>[(4,oR eState_m x4)]) [4] (fun (x5:List State × Int)=>[(2,iR eState_0 x5.1),(3,I64 x5.2)]) [2,3] hl (fun s2 o h=>?_) (fun x4 hx=>?_) (fun x5 hx=>?_)
 ·clear hl
  refine W.sq'<|W.aq [1,4,5,6,23] ?_
  refine W.ch h q (fun hb6 h=>?_) (fun hb6 h=>?_)
  ·refine W.sk<|Px.sq<|W.sq'<|W.bk<|W.sq'<|bd h fun x7 hx7 h=>bd h fun x8 hx8 h=>W.rd [[],[],[],[1,2],[1,2,3],[1,2,3,4],rn 0 6 [],rn 0 7 []] [(1,_),(4,_),(5,_),(6,_),(7,_)] mixo (by kernel_rfl) (Dv 0 (O.ldON (cs':=eGrammar_0.cells a0) q .z4 at43 q q)<|Dv 1 (O.mv .z3)<|Dv 2 (O.mv (.lit q))<|Dv 3 (O.ixO (en:=eState_m) q .z6 .z1 sl99 hx7 q)<|Dv 4 (O.fE (en:=eState_m) q .z5 fd163_0 hx7 q q)<|Dv 5 (O.ldE (en:=eState_m) (x':=iR eItem x7.Kernel) q .z5 ct160 hx7 q q)<|Dc 6 (PC.gz (.cc (.aggF q q) (.cc (.imm q) .nil)) (CF.go hx8))<|Dv 7 (O.az .z2)<|DL.fin q q q (tn5 q q q q q)) ?_
   refine Px.sq<|W.aq [1,4,5,6,7,8] ?_
   refine W.sq'<|W.aq [1,4,5,6,7,8,9] ?_
   refine W.bk<|bd h fun x10 hl h=>W.l1 (([]:List Int),0) (fun (s9:List Int × Int)=>[(8,iR eI s9.1),(9,I64 s9.2)]) [1,4,5,6,7,8,9] 2 (fun (x10:List Int)=>[(8,iR eI x10)]) [1,4,5,6,8] hl (fun s9 o h=>?_) ?_
   ·clear hl
    refine W.sq'<|W.aq [1,4,5,6,7,8,9,36] ?_
    refine W.ch h q (fun hb12 h=>?_) (fun hb12 h=>?_)
    ·refine W.sk<|Px.sq<|W.sq'<|bd h fun j13 hj h=>W.jq [1,4,5,6,7,8,9] [(8,iR eI j13)] ?_ ?_
     ·clear h; have h:=hj; clear hj
      refine W.bk<|W.sq'<|bd h fun x14 hx14 h=>bd h fun x15 hx15 h=>W.rd [[],[],[],[1,2],[1,2,3],rn 0 5 [],rn 0 6 []] [(1,_),(4,_),(5,_),(6,_),(7,_),(8,_),(9,_),(10,_)] mixo (by kernel_rfl) (Dv 0 (O.ldON (cs':=eGrammar_0.cells a0) q .z4 at43 q q)<|Dv 1 (O.mv .z2)<|Dv 2 (O.mv (.lit q))<|Dv 3 (O.y4 hx14)<|Dv 4 (O.ldIN (cs':=[I64 x14.Prod,I64 x14.Dot]) .z7 at165 q q)<|Dc 5 (PC.gz (.cc (.aggF q q) (.cc (.aggF q q) .nil)) (CF.go hx15))<|Dv 6 (O.az (.lit q))<|DL.fin q q q (tn8 q q q q q q q q)) ?_
      refine Px.sq<|W.aq [1,4,5,6,7,8,9,10,46] ?_
      refine bd h fun j16 hj h=>W.jq [1,4,5,6,7,8,9] [(8,iR eI j16)] ?_ ?_
      ·clear h; have h:=hj; clear hj
       refine W.ch h q (fun hb17 h=>?_) (fun hb17 h=>?_)
       ·refine bd h fun x18 hx18 h=>W.rk [1,4,5,6,7,8,9] (Rv (O.mv .z2)<|Vm q<|Rc (PC.gz (.cc (.imm q) (.cc (.lit q) .nil)) (CF.go hx18))<|RunL.rk [1,4,5,6,7,9,49] q<|RunL.au) ?_
        exact sm h ▸ Px.jt
       ·exact W.sk<|sm h ▸ Px.jt
      exact Px.bk<|sm h ▸ Px.jt
     refine Px.sq<|W.rk [1,4,5,6,7,8,9] (Vm q<|Rv (O.add .z1 .z8)<|RunL.rk [1,4,5,6,7,8,38] q<|RunL.au) ?_
     exact sm h ▸ Px.gt
    ·exact W.xi<|Px.sqE<|sm h ▸ Px.t1
   refine Px.bkH<|Px.sq<|W.aq [1,4,5,6,8,11] ?_
   refine W.bk<|bd h fun x20 hl h=>W.l2 (s2.1,0) (fun (s19:List State × Int)=>[(4,oR eState_m s19.1),(11,I64 s19.2)]) [1,4,5,6,8,11] 4 (fun (x21:List State)=>[(4,oR eState_m x21)]) [1,4,5,6] (fun (x22:List State × Int)=>[(2,iR eState_0 x22.1),(3,I64 x22.2)]) [2,3] hl (fun s19 o h=>?_) (fun x21 hx=>?_) (fun x22 hx=>?_)
   ·clear hl
    refine W.sq'<|W.aq [1,4,5,6,8,11,53] ?_
    refine W.ch h q (fun hb23 h=>?_) (fun hb23 h=>?_)
    ·refine W.sk<|Px.sq<|W.sq'<|W.bk<|W.sq'<|bd h fun x24 hx24 h=>bd h fun x25 hx25 h=>W.rq [1,4,5,6,8,11,62] (Rv (O.mv .z2)<|Rv (O.mv .z2)<|Vm q<|Rv (O.y4 hx24)<|Rv (O.y6 (x:=I64 x24))<|Rc (PC.gz (.cc (.imm q) (.cc (.lit q) .nil)) (CF.go hx25))<|RunL.au) ?_
     refine W.ch h q (fun hb26 h=>?_) (fun hb26 h=>?_)
     ·refine W.xi<|Px.sqE<|Px.bkH<|Px.sq<|W.rk [1,4,5,6,8,11] (Vm q<|Rv (O.add .z1 .z8)<|RunL.rk [1,4,5,6,8,55] q<|RunL.au) ?_
      exact sm h ▸ Px.gt
     ·refine W.sk<|Px.sq<|W.sq'<|bd h fun x27 hx27 h=>bd h fun x28 hx28 h=>bd h fun x29 hx29 h=>W.rd [[],[],[],[1,2],[1,2,3],[1,2,3,4],[],[],[6,7],[6,7,8],rn 0 10 [],rn 0 11 []] [(1,_),(4,_),(5,_),(6,_),(8,_),(11,_),(12,_)] mixo (by kernel_rfl) (Dv 0 (O.ldON (cs':=eGrammar_0.cells a0) q .z4 at43 q q)<|Dv 1 (O.mv .z3)<|Dv 2 (O.mv (.lit q))<|Dv 3 (O.ixO (en:=eState_m) q .z6 .z1 sl99 hx27 q)<|Dv 4 (O.fE (en:=eState_m) q .z5 fd163_0 hx27 q q)<|Dv 5 (O.ldE (en:=eState_m) (x':=iR eItem x27.Kernel) q .z5 ct160 hx27 q q)<|Dv 6 (O.mv .z2)<|Dv 7 (O.mv (.lit q))<|Dv 8 (O.y4 hx28)<|Dv 9 (O.y6 (x:=I64 x28))<|Dc 10 (PC.gz (.cc (.aggF q q) (.cc (.imm q) (.cc (.lit q) .nil))) (CF.go hx29))<|Dv 11 (O.az .z2)<|DL.fin q q q (tn7 q q q q q q q)) ?_
      refine Px.sq<|bd h fun x30 hx30 h=>W.rq [1,4,5,6,8,11,12,13] (Rv (O.mv .z3)<|Rv (O.mv .z2)<|Rc (PC.vz (ys:=[.brw eState_m.z ⟨4,[]⟩ s19.1.length,iR eItem x29]) q (.c (.row q) (.s .nil)) (CF.go hx30))<|RunL.au) ?_
      refine W.sq'<|W.aq [1,4,5,6,8,11,12,13,78] ?_
      refine W.ch h q (fun hb31 h=>?_) (fun hb31 h=>?_)
      ·refine W.rq [1,4,5,6,8,11,12,13] (Rv (O.mv .z3)<|Rv (O.lenO .z6 sl99)<|RunL.rk [1,4,5,6,8,11,12,80] q<|RunL.au) ?_
       refine W.sq'<|W.aq [1,4,5,6,8,11,12,13,82] ?_
       refine W.ch h q (fun hb32 h=>?_) (fun hb32 h=>?_)
       ·refine W.aq [2,3] ?_
        refine W.fz (G1:=[(2,iR eState_0 ([]:List State)),(3,_)]) [2] (.z q q .zz (.n q q .nil)) ?_
        exact W.rt<|Px.sqR<|Px.sqR<|Px.bkR<|Px.sqR<|sm h ▸ Px.r2 (tn2 q q)
       ·refine W.sk<|Px.sq<|bd h fun x33 hx33 h=>W.rk [1,4,5,6,8,11,13] (Rv (O.mv .z3)<|Rv (O.mv .z2)<|Rv (O.bu (cs:=[iR eItem x29,.nils]) sc163 ze163 q q q)<|Rv (O.bsL (ys:=[.agg [iR eItem x29,.nils]]) (cs:=[iR eItem x29,.nils]) sl99 q q q q q zt163 q q)<|Rv (O.apL (en:=eState_m) (M:=[(⟨x29,([]:List Move)⟩:State)]) (r:=x33) .z6 q .z3 q q q q ap99 q hx33)<|RunL.ea (G2:=[(1,.obj (eGrammar_0.cells a0)),(5,iR eI x1),(6,I64 s2.2),(8,iR eI x10),(11,I64 s19.2),(13,I64 (s19.1.length:Int))]) q (EO.apG (M:=[(⟨x29,([]:List Move)⟩:State)]) q q (.pend q) q q q (.f (.f .nil)) (.f (.o .nil)) q q (tn6 q q q q q q) q q)<|Fk q) ?_
        refine Px.sq<|bd h fun x34 hx34 h=>bd h fun x35 hx35 h=>bd h fun x36 hx36 h=>W.rd [[],[],[],[],[2,3],[2,3,4],[2,3,4,5],[],[],[7,8],[7,8,9],[],rn 7 5 [],rn 7 6 [],rn 2 12 [],rn 0 15 [],rn 0 16 [],rn 0 17 []] [(1,_),(4,_),(5,_),(6,_),(8,_),(11,_)] mixo (by kernel_rfl) (Dv 0 (O.mv .z3)<|Dv 1 (O.mv (.lit q))<|Dv 2 (O.mv .z3)<|Dv 3 (O.mv (.lit q))<|Dv 4 (O.ixO (en:=eState_m) q .z6 .z1 sl99 hx34 q)<|Dv 5 (O.fE (en:=eState_m) q .z5 fd163_1 hx34 q q)<|Dv 6 (O.ldE (en:=eState_m) (x':=.brw eMove.z ⟨4,[s2.2.toNat * eState_m.z+1]⟩ x34.Moves.length) q .z5 ct161 hx34 q q)<|Dv 7 (O.mv .z2)<|Dv 8 (O.mv (.lit q))<|Dv 9 (O.y4 hx35)<|Dv 10 (O.y6 (x:=I64 x35))<|Dv 11 (O.mv (.lit q))<|Dv 12 (O.bu (cs:=[I64 x35,I64 (s19.1.length:Int)]) sc176 ze176 q q q)<|DL.vi 13 (x:=iR eMove [(⟨x35,(s19.1.length:Int)⟩:Move)]) (O.bs (ys:=[.agg [I64 x35,I64 (s19.1.length:Int)]]) eMove [(⟨x35,(s19.1.length:Int)⟩:Move)] sl161 q q q q q q zt176 q q) q q q q .none<|Dv 14 (O.ap (en:=eMove) (r:=x36) .z6 (atP_el (r:=4) (path:=[]) (o:=1) (en:=eState_m) q hx34 q) .z2 .i ap161 q hx36)<|Dv 15 (O.ixO (en:=eState_m) q .z6 .z1 sl99 hx34 q)<|Dv 16 (O.fE (en:=eState_m) q .z5 fd163_1 hx34 q q)<|DL.bpz 17 (G2:=[(1,.obj (eGrammar_0.cells a0)),(4,oR eState_m ((s19.1++[(⟨x29,([]:List Move)⟩:State)]).set s2.2.toNat (⟨x34.Kernel,x34.Moves++[(⟨x35,(s19.1.length:Int)⟩:Move)]⟩:State))),(5,iR eI x1),(6,I64 s2.2),(8,iR eI x10),(11,I64 s19.2)]) (EO.stEP (en:=eState_m) (en2:=eMove) (M:=[(⟨x35,(s19.1.length:Int)⟩:Move)]) (y2:=(⟨x34.Kernel,x34.Moves++[(⟨x35,(s19.1.length:Int)⟩:Move)]⟩:State)) (x2:=oR eState_m ((s19.1++[(⟨x29,([]:List Move)⟩:State)]).set s2.2.toNat (⟨x34.Kernel,x34.Moves++[(⟨x35,(s19.1.length:Int)⟩:Move)]⟩:State))) (y0:=.own eState_m.z (s19.1++[(⟨x29,([]:List Move)⟩:State)]).length ((rowc eState_m (s19.1++[(⟨x29,([]:List Move)⟩:State)])).set (s2.2.toNat * eState_m.z+1) .dead)) q q (.ptr q) (.pend q) q q hx34 q q .ns .rf q q sz161 q q q q q q (.n q q (.b q (.n q q (.n q q (.n q q (.n q q .nil)))))))<|DL.fin q q q (tn6 q q q q q q)) ?_
        refine Px.bk<|Px.sq<|W.rk [1,4,5,6,8,11] (Vm q<|Rv (O.add .z1 .z8)<|RunL.rk [1,4,5,6,8,55] q<|RunL.au) ?_
        exact sm h ▸ Px.gt
      ·refine W.sk<|Px.sq<|bd h fun x37 hx37 h=>bd h fun x38 hx38 h=>bd h fun x39 hx39 h=>W.rd [[],[],[],[],[2,3],[2,3,4],[2,3,4,5],[],[],[7,8],[7,8,9],[],rn 7 5 [],rn 7 6 [],rn 2 12 [],rn 0 15 [],rn 0 16 [],rn 0 17 []] [(1,_),(4,_),(5,_),(6,_),(8,_),(11,_)] mixo (by kernel_rfl) (Dv 0 (O.mv .z3)<|Dv 1 (O.mv (.lit q))<|Dv 2 (O.mv .z3)<|Dv 3 (O.mv (.lit q))<|Dv 4 (O.ixO (en:=eState_m) q .z6 .z1 sl99 hx37 q)<|Dv 5 (O.fE (en:=eState_m) q .z5 fd163_1 hx37 q q)<|Dv 6 (O.ldE (en:=eState_m) (x':=.brw eMove.z ⟨4,[s2.2.toNat * eState_m.z+1]⟩ x37.Moves.length) q .z5 ct161 hx37 q q)<|Dv 7 (O.mv .z2)<|Dv 8 (O.mv (.lit q))<|Dv 9 (O.y4 hx38)<|Dv 10 (O.y6 (x:=I64 x38))<|Dv 11 (O.mv (.lit q))<|Dv 12 (O.bu (cs:=[I64 x38,I64 x30]) sc176 ze176 q q q)<|DL.vi 13 (x:=iR eMove [(⟨x38,x30⟩:Move)]) (O.bs (ys:=[.agg [I64 x38,I64 x30]]) eMove [(⟨x38,x30⟩:Move)] sl161 q q q q q q zt176 q q) q q q q .none<|Dv 14 (O.ap (en:=eMove) (r:=x39) .z6 (atP_el (r:=4) (path:=[]) (o:=1) (en:=eState_m) q hx37 q) .z2 .i ap161 q hx39)<|Dv 15 (O.ixO (en:=eState_m) q .z6 .z1 sl99 hx37 q)<|Dv 16 (O.fE (en:=eState_m) q .z5 fd163_1 hx37 q q)<|DL.bpz 17 (G2:=[(1,.obj (eGrammar_0.cells a0)),(4,oR eState_m (s19.1.set s2.2.toNat (⟨x37.Kernel,x37.Moves++[(⟨x38,x30⟩:Move)]⟩:State))),(5,iR eI x1),(6,I64 s2.2),(8,iR eI x10),(11,I64 s19.2)]) (EO.stEP (en:=eState_m) (en2:=eMove) (M:=[(⟨x38,x30⟩:Move)]) (y2:=(⟨x37.Kernel,x37.Moves++[(⟨x38,x30⟩:Move)]⟩:State)) (x2:=oR eState_m (s19.1.set s2.2.toNat (⟨x37.Kernel,x37.Moves++[(⟨x38,x30⟩:Move)]⟩:State))) (y0:=.own eState_m.z s19.1.length ((rowc eState_m s19.1).set (s2.2.toNat * eState_m.z+1) .dead)) q q (.ptr q) (.pend q) q q hx37 q q .ns .rf q q sz161 q q q q q q (.n q q (.b q (.n q q (.n q q (.n q q (.n q q .nil)))))))<|DL.fin q q q (tn6 q q q q q q)) ?_
       refine Px.bk<|Px.sq<|W.rk [1,4,5,6,8,11] (Vm q<|Rv (O.add .z1 .z8)<|RunL.rk [1,4,5,6,8,55] q<|RunL.au) ?_
       exact sm h ▸ Px.gt
    ·exact W.xi<|Px.sqE<|sm h ▸ Px.x2 (tn4 q q q q)
   ·subst hx
    refine Px.bkH<|Px.bk<|Px.sq<|W.rk [1,4,5,6] (Vm q<|Rv (O.add .z1 .z8)<|RunL.rk [1,4,5,25] q<|RunL.au) ?_
    exact sm h ▸ Px.gt
   ·subst hx
    exact Px.bkR<|Px.bkR<|Px.sqR<|sm h ▸ Px.r2 (tn2 q q)
  ·exact W.xi<|Px.sqE<|sm h ▸ Px.x2 (.n q .nil)
 ·subst hx
  refine Px.bkH<|Px.sq<|W.rq [2,3] (Rv (O.mv .z3)<|RunL.a' (EO.ar [])<|RunL.au) ?_
  refine W.fz (G1:=[(2,iR eState_0 x4),(3,_)]) [2] (.z q q .zz (.n q q .nil)) ?_
  exact W.rt<|sm h ▸ Pr (.f q q (.f q q .nil))
 ·subst hx
  exact Px.bkR<|Px.sqR<|sm h ▸ Pr (.f q q (.f q q .nil))
instance con67 {a0:Grammar}{r:(List State) × Int}:CF Tryz.prog 67 (pf67 a0=some r) [.agg (eGrammar_0.cells a0)] [none] (.tup [iR eState_0 r.1,I64 r.2]):=⟨con67l a0 _⟩
instance con49 {a0:Source}{r:Grammar × (List State) × Bool}:CF Tryz.prog 49 (pf49 a0=some r) [.agg (eSource_0.cells a0)] [none] (.tup [.agg (eGrammar_0.cells r.1),iR eState_0 r.2.1,BB r.2.2]):=⟨fun h=>by unfold pf49 at h; exact Con.au (N:=⟨26,[]⟩) [1,2,3,4,5,6,7,8,15] .e Tryz.func49 rfl rfl rfl rfl rfl goW⟩
instance con53 {a0:(List State)}{a1:Int}{a2:Int}{r:Int}:CF Tryz.prog 53 (pf53 a0 a1 a2=some r) [iR eState_0 a0,I64 a1,I64 a2] [none,none,none] (I64 r):=⟨fun h=>by unfold pf53 at h; exact Con.au (N:=⟨48,[]⟩) [0,1,2,6,7,25,38] (.l2 (fun (s1:Int)=>[(7,I64 s1)]) [0,1,2,7] 0 (fun (x3:Unit)=>[]) [] (fun (x4:Int)=>[(6,I64 x4)]) [6] (.rj 2 [0,1,2,7,25] (fun (c8:Bool)=>[(25,BB c8)]) .e) .e .e) Tryz.func53 rfl rfl rfl rfl rfl goW⟩
instance con54 {a0:Cell}{r:Int}:CF Tryz.prog 54 (pf54 a0=some r) [.agg (eCell_0.cells a0)] [none] (I64 r):=⟨fun h=>by unfold pf54 at h; exact Con.au (N:=⟨17,[]⟩) [1,2,3,9,13] (.jn [1,3] (fun (j1:Int)=>[(3,I64 j1)]) .e (.jn [3] (fun (j3:Int)=>[(3,I64 j3)]) .e .e)) Tryz.func54 rfl rfl rfl rfl rfl goW⟩
instance con50 {a0:Grammar}{a1:(List State)}{a2:(List Look)}{r:(List Cell)}:CF Tryz.prog 50 (pf50 a0 a1 a2=some r) [.agg (eGrammar_0.cells a0),iR eState_0 a1,iR eLook_0 a2] [none,none,none] (iR eCell_0 r):=⟨fun h=>by unfold pf50 at h; exact Con.au (N:=⟨108,[]⟩) [1,2,3,6,7,8,9,10,11,12,13,17,24,41,72,90,102] (.lp (fun (s1:List Cell × Int)=>[(7,oR eCell_0 s1.1),(8,I64 s1.2)]) [1,2,3,7,8] 0 (fun (x2:List Cell)=>[(7,oR eCell_0 x2)]) [7] (.b (.lp (fun (s5:List Cell × Int)=>[(7,oR eCell_0 s5.1),(9,I64 s5.2)]) [1,2,3,7,8,9] 2 (fun (x6:List Cell)=>[(7,oR eCell_0 x6)]) [1,2,3,7,8] (.b (.jn [1,2,3,7,8,9] (fun (j9:List Cell)=>[(7,oR eCell_0 j9)]) (.lp (fun (s11:Bool × Int)=>[(4010,BB s11.1),(11,I64 s11.2)]) [1,2,3,7,8,9,10,11] 4 (fun (x12:Bool)=>[(4010,BB x12)]) [1,2,3,7,8,9,10] (.b (.rj 13 [1,2,3,7,8,9,10,11] (fun (c21:Bool)=>[(4010,BB c21)]) .e) .e) (.lp (fun (s22:List Int × Int)=>[(5010,iR eI s22.1),(13,I64 s22.2)]) [1,2,3,7,8,9,10,13] 6 (fun (x23:List Int)=>[(5010,iR eI x23)]) [1,2,3,7,8,9,10] (.b (.jn [1,2,3,7,8,9,10,13] (fun (j26:List Int)=>[(5010,iR eI j26)]) (.rj 17 [1,2,3,7,8,9,10,13,90] (fun (c31:Bool)=>[(90,BB c31)]) (.jn [1,2,3,7,8,9,10,13] (fun (j32:List Int)=>[(5010,iR eI j32)]) (.b (.rd 18 [[],[0],[],[],[2,3],[2,3,4],[2,3,4,5],rn 0 7 [],rn 0 8 [],rn 0 9 []] .e) .e) .e)) .e) .e) (.jn [1,2,3,7,8,9] (fun (j37:List Cell)=>[(7,oR eCell_0 j37)]) .e .e))) .e) .e) .e) .e) .e) Tryz.func50 rfl rfl rfl rfl rfl goW⟩
instance con87 {a0:(List (List Int))}{a1:(List (List Int))}{r:(List (List Int))}:CF Tryz.prog 87 (pf87 a0 a1=some r) [oR (eM eI) a0,iR (eM eI) a1] [none,none] (oR (eM eI) r):=⟨fun h=>by unfold pf87 at h; exact Con.au (N:=⟨74,[]⟩) [0,1,4,5,6,7,8,9,10,11,15,30,42] (.lp (fun (s1:List (List Int) × Bool)=>[(0,oR (eM eI) s1.1),(5,BB s1.2)]) [0,1,5] 0 (fun (x2:List (List Int))=>[(0,oR (eM eI) x2)]) [0] (.b (.lp (fun (s5:List (List Int) × Bool × Int)=>[(0,oR (eM eI) s5.1),(5,BB s5.2.1),(6,I64 s5.2.2)]) [0,1,5,6] 2 (fun (x6:List (List Int) × Bool)=>[(0,oR (eM eI) x6.1),(5,BB x6.2)]) [0,1,5] (.b (.lp (fun (s11:List (List Int) × Int)=>[(0,oR (eM eI) s11.1),(9,I64 s11.2)]) [0,1,5,6,7,8,9] 4 (fun (x12:List (List Int))=>[(0,oR (eM eI) x12)]) [0,1,5,6,8] (.b (.lp (fun (s15:List (List Int) × Int)=>[(0,oR (eM eI) s15.1),(10,I64 s15.2)]) [0,1,5,6,7,8,9,10] 6 (fun (x16:List (List Int))=>[(0,oR (eM eI) x16)]) [0,1,5,6,7,8,9] (.b (.rd 15 [[],[],[],[],[2,3],[2,3,4],[],[],[],[7,8],[7,8,9],rn 6 5 [],rn 6 6 [],[],rn 6 8 [],rn 6 9 [],rn 2 14 [],rn 0 17 [],rn 0 18 []] .e) .e) .e) .e) (.rj 16 [0,1,5,6] (fun (c28:Bool)=>[(5,BB c28)]) .e)) .e) .e) .e) .e) Tryz.func87 rfl rfl rfl rfl rfl goW⟩
end Go.Proofs
