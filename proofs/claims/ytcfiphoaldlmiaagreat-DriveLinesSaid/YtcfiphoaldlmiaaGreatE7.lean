/- Parts of the proof that the last text states. -/
import Derived.Test.YtcfiphoaldlmiaaGreatRows
import Derived.Test.YtcfiphoaldlmiaaGreatE6
namespace Go.Proofs
open Go Go.Own
set_option maxRecDepth 100000
set_option linter.unusedVariables false
structure Sym where
 Name:ByteArray
 Lit:Bool
 Num:Int
 At:Int
 deriving DecidableEq,Inhabited
structure Part where
 Sym:Sym
 Code:ByteArray
 At:Int
 deriving DecidableEq,Inhabited
def eSym:En Sym:=⟨4,fun x=>[SS x.Name,BB x.Lit,I64 x.Num,I64 x.At],fun _=>rfl,fun _=>NRl.nr⟩
instance:Flat eSym:=⟨fun _=>rfl⟩
instance:OOe eSym:=⟨fun x=>(inferInstance:OOl [SS x.Name,BB x.Lit,I64 x.Num,I64 x.At])⟩
instance:Tw eSym eSym:=⟨rfl,fun x=>(inferInstance:Vws [SS x.Name,BB x.Lit,I64 x.Num,I64 x.At] [SS x.Name,BB x.Lit,I64 x.Num,I64 x.At])⟩
instance {x:Sym}:Vws (eSym.cells x) [SS x.Name,BB x.Lit,I64 x.Num,I64 x.At]:=(inferInstance:Vws [SS x.Name,BB x.Lit,I64 x.Num,I64 x.At] [SS x.Name,BB x.Lit,I64 x.Num,I64 x.At])
def ePart:En Part:=⟨6,fun x=>[SS x.Sym.Name,BB x.Sym.Lit,I64 x.Sym.Num,I64 x.Sym.At,SS x.Code,I64 x.At],fun _=>rfl,fun _=>NRl.nr⟩
instance:Flat ePart:=⟨fun _=>rfl⟩
instance:OOe ePart:=⟨fun x=>(inferInstance:OOl [SS x.Sym.Name,BB x.Sym.Lit,I64 x.Sym.Num,I64 x.Sym.At,SS x.Code,I64 x.At])⟩
instance:Tw ePart ePart:=⟨rfl,fun x=>(inferInstance:Vws [SS x.Sym.Name,BB x.Sym.Lit,I64 x.Sym.Num,I64 x.Sym.At,SS x.Code,I64 x.At] [SS x.Sym.Name,BB x.Sym.Lit,I64 x.Sym.Num,I64 x.Sym.At,SS x.Code,I64 x.At])⟩
instance {x:Part}:Vws (ePart.cells x) [SS x.Sym.Name,BB x.Sym.Lit,I64 x.Sym.Num,I64 x.Sym.At,SS x.Code,I64 x.At]:=(inferInstance:Vws [SS x.Sym.Name,BB x.Sym.Lit,I64 x.Sym.Num,I64 x.Sym.At,SS x.Code,I64 x.At] [SS x.Sym.Name,BB x.Sym.Lit,I64 x.Sym.Num,I64 x.Sym.At,SS x.Code,I64 x.At])
def pf11 (a0:ByteArray):Option (Part) :=
 some (⟨(⟨a0,false,0,0⟩:Sym),{ data:=#[] },0⟩:Part)
def pf12 (a0:ByteArray):Option (Part) :=
 some (⟨(⟨a0,true,0,0⟩:Sym),{ data:=#[] },0⟩:Part)
def pf138 (a0:Int):Option (Bool) :=
 ((bif decide (97<=a0) then (bif decide (a0<=122) then some true else (bif decide (65<=a0) then (bif decide (a0<=90) then some true else some (decide (a0=95))) else some (decide (a0=95)))) else (bif decide (65<=a0) then (bif decide (a0<=90) then some true else some (decide (a0=95))) else some (decide (a0=95))))).bind fun c7 =>
 some c7
def pf139 (a0:Int):Option (Bool) :=
 ((bif decide (48<=a0) then some (decide (a0<=57)) else some false)).bind fun c2 =>
 some c2
def pf134 (a0:ByteArray) (a1:Int):Option (Int) :=
 (loopM (R:=Int) (fun (s1:Int) =>
 ((bif decide (w64 (a1+s1)<(a0.size:Int)) then ((bidx a0 (w64 (a1+s1))).bind fun x5=>((pf138 x5).bind fun x6=>(bif x6 then some true else (bif decide (0<s1) then ((bidx a0 (w64 (a1+s1))).bind fun x9=>((pf139 x9).bind fun x10=>(bif x10 then some true else ((bidx a0 (w64 (a1+s1))).bind fun x12=>some (decide (x12=46)))))) else some false)))) else some false)).bind fun c13 =>
 (bif c13 then
 some (.inl (w64 (s1+1)))
 else
 some (.inr s1))) 0).bind fun x2 =>
 some x2
def pf127 (a0:ByteArray):Option (Bool) :=
 ((bif decide (1<=(a0.size:Int)) then (bif decide ((a0.size:Int)<=20) then ((pf134 a0 0).bind fun x3=>some (decide (x3=(a0.size:Int)))) else some false) else some false)).bind fun c4 =>
 some c4
def pf137 (a0:Int):Option (Int × Bool) :=
 (bif decide (a0=10) then
 some (110,true)
 else
 (bif decide (a0=9) then
 some (116,true)
 else
 (bif decide (a0=13) then
 some (114,true)
 else
 ((bif decide (a0=92) then
 some (decide (a0=92))
 else
 some (decide (a0=39)))).bind fun j4 =>
 (bif j4 then
 some (a0,true)
 else
 ((bif decide (32<=a0) then some (0,decide (a0<=126)) else some (0,false))).bind fun c8 =>
 some (c8.1,c8.2)))))
def pf133 (a0:Sym) (a1:Bool) (a2:Bool):Option (Bool) :=
 (bif a0.Lit then
 ((bif !a2 then some true else (bif !decide ((a0.Name.size:Int)=1) then some true else some (!decide (a0.Num=0))))).bind fun c4 =>
 (bif c4 then
 some false
 else
 (bidx a0.Name 0).bind fun x6 =>
 (pf137 x6).bind fun x7 =>
 some x7.2)
 else
 (((pf127 a0.Name).bind fun x8=>(bif x8 then (bif decide (a0.Num=0) then some true else (bif a1 then (bif decide (1<=a0.Num) then some (decide (a0.Num<=50000)) else some false) else some false)) else some false))).bind fun c13 =>
 some c13)
structure Decl where
 Kind:Int
 Tag:ByteArray
 Syms:(List Sym)
 At:Int
 deriving DecidableEq,Inhabited
def eDecl_0:En Decl:=⟨4,fun x=>[I64 x.Kind,SS x.Tag,iR eSym x.Syms,I64 x.At],fun _=>rfl,fun _=>NRl.nr⟩
instance:Flat eDecl_0:=⟨fun _=>rfl⟩
instance:Tw eDecl_0 eDecl_0:=⟨rfl,fun x=>(inferInstance:Vws [I64 x.Kind,SS x.Tag,iR eSym x.Syms,I64 x.At] [I64 x.Kind,SS x.Tag,iR eSym x.Syms,I64 x.At])⟩
instance {x:Decl}:Vws (eDecl_0.cells x) [I64 x.Kind,SS x.Tag,iR eSym x.Syms,I64 x.At]:=(inferInstance:Vws [I64 x.Kind,SS x.Tag,iR eSym x.Syms,I64 x.At] [I64 x.Kind,SS x.Tag,iR eSym x.Syms,I64 x.At])
def pf126 (a0:Decl):Option (Bool) :=
 ((bif decide (a0.Kind<1) then some true else (bif decide (6<a0.Kind) then some true else (bif decide ((a0.Syms.length:Int)=0) then some true else (bif decide (a0.Kind=6) then (bif !decide ((a0.Syms.length:Int)=1) then some true else (bif !decide (a0.Tag={ data:=#[] }) then some true else (bif decide (a0.Kind=5) then (bif decide (a0.Tag={ data:=#[] }) then some true else some false) else some false))) else (bif decide (a0.Kind=5) then (bif decide (a0.Tag={ data:=#[] }) then some true else (bif !decide (a0.Tag={ data:=#[] }) then ((pf127 a0.Tag).bind fun x12=>some (!x12)) else some false)) else (bif !decide (a0.Tag={ data:=#[] }) then ((pf127 a0.Tag).bind fun x14=>some (!x14)) else some false))))))).bind fun c15 =>
 (bif c15 then
 some false
 else
 (loopM (R:=(Unit) ⊕ (Bool)) (fun (s17:Int) =>
 (bif decide (s17<(a0.Syms.length:Int)) then
 (idx a0.Syms s17).bind fun x22 =>
 (pf133 x22 (decide (a0.Kind=1)) (decide (a0.Kind<5))).bind fun x23 =>
 (bif !x23 then
 some (.inr (.inr false))
 else
 some (.inl (w64 (s17+1))))
 else
 some (.inr (.inl ())))) 0).bind fun x18 =>
 (match x18 with
 | .inl x19 =>
 some true
 | .inr x20 =>
 some x20))
def pf135 (a0:Sym):Option (Bool) :=
 ((bif decide (a0.Name={ data:=#[] }) then (bif !a0.Lit then some (decide (a0.Num=0)) else some false) else some false)).bind fun c3 =>
 some c3
def pf141 (a0:ByteArray) (a1:Int) (a2:ByteArray):Option (Bool) :=
 ((bif decide ((a2.size:Int)<=w64 ((a0.size:Int) - a1)) then ((cutO a0 a1 (w64 (a1+(a2.size:Int)))).bind fun x2=>some (decide (x2=a2))) else some false)).bind fun c3 =>
 some c3
def pf140 (a0:ByteArray) (a1:Int):Option (Int) :=
 (((bidx a0 a1).bind fun x1=>(bif decide (x1=34) then some true else ((bidx a0 a1).bind fun x3=>some (decide (x3=39)))))).bind fun c4 =>
 (bif c4 then
 (loopM (R:=(Unit) ⊕ (Int)) (fun (s6:Int) =>
 ((bif decide (s6<(a0.size:Int)) then ((bidx a0 s6).bind fun x11=>some (!decide (x11=10))) else some false)).bind fun c12 =>
 (bif c12 then
 (bidx a0 s6).bind fun x14 =>
 (bidx a0 a1).bind fun x15 =>
 (bif decide (x14=x15) then
 some (.inr (.inr (w64 (s6+1))))
 else
 (bidx a0 s6).bind fun x17 =>
 (bif decide (x17=92) then
 ((bif decide (w64 (s6+1)<(a0.size:Int)) then ((bidx a0 (w64 (s6+1))).bind fun x20=>some (decide (x20=10))) else some false)).bind fun c21 =>
 (bif c21 then
 some (.inr (.inr (-1)))
 else
 some (.inl (w64 ((w64 (s6+1))+1))))
 else
 some (.inl (w64 (s6+1)))))
 else
 some (.inr (.inl ())))) (w64 (a1+1))).bind fun x7 =>
 (match x7 with
 | .inl x8 =>
 some (-1)
 | .inr x9 =>
 some x9)
 else
 (bidx a0 a1).bind fun x23 =>
 (bif decide (x23=96) then
 (loopM (R:=(Unit) ⊕ (Int)) (fun (s25:Int) =>
 (bif decide (s25<(a0.size:Int)) then
 (bidx a0 s25).bind fun x30 =>
 (bif decide (x30=96) then
 some (.inr (.inr (w64 (s25+1))))
 else
 some (.inl (w64 (s25+1))))
 else
 some (.inr (.inl ())))) (w64 (a1+1))).bind fun x26 =>
 (match x26 with
 | .inl x27 =>
 some (-1)
 | .inr x28 =>
 some x28)
 else
 (pf141 a0 a1 ({ data:=#[47,47] })).bind fun x32 =>
 (bif x32 then
 (loopM (R:=Int) (fun (s34:Int) =>
 ((bif decide (s34<(a0.size:Int)) then ((bidx a0 s34).bind fun x38=>some (!decide (x38=10))) else some false)).bind fun c39 =>
 (bif c39 then
 some (.inl (w64 (s34+1)))
 else
 some (.inr s34))) a1).bind fun x35 =>
 some x35
 else
 (pf141 a0 a1 ({ data:=#[47,42] })).bind fun x41 =>
 (bif x41 then
 (loopM (R:=(Unit) ⊕ (Int)) (fun (s43:Int) =>
 (bif decide (s43<(a0.size:Int)) then
 (pf141 a0 s43 ({ data:=#[42,47] })).bind fun x48 =>
 (bif x48 then
 some (.inr (.inr (w64 (s43+2))))
 else
 some (.inl (w64 (s43+1))))
 else
 some (.inr (.inl ())))) (w64 (a1+2))).bind fun x44 =>
 (match x44 with
 | .inl x45 =>
 some (-1)
 | .inr x46 =>
 some x46)
 else
 some a1))))
def pf136 (a0:ByteArray) (a1:Int):Option (Int) :=
 ((bif decide (a1<0) then some true else (bif decide ((a0.size:Int)<=a1) then some true else ((bidx a0 a1).bind fun x3=>some (!decide (x3=123)))))).bind fun c4 =>
 (bif c4 then
 some (-1)
 else
 (loopM (R:=(Unit) ⊕ (Int)) (fun (s6:Int × Int) =>
 (bif decide (s6.2<(a0.size:Int)) then
 (pf140 a0 s6.2).bind fun x11 =>
 (bif decide (x11<0) then
 some (.inr (.inr (-1)))
 else
 (bif decide (s6.2<x11) then
 some (.inl (s6.1,x11))
 else
 (bidx a0 s6.2).bind fun x14 =>
 ((bif decide (x14=123) then
 some (w64 (s6.1+1))
 else
 some s6.1)).bind fun j15 =>
 (bidx a0 s6.2).bind fun x17 =>
 ((bif decide (x17=125) then
 some (w64 (j15 - 1))
 else
 some j15)).bind fun j18 =>
 (bif decide (j18=0) then
 some (.inr (.inr (w64 (s6.2+1))))
 else
 some (.inl (j18,w64 (s6.2+1))))))
 else
 some (.inr (.inl ())))) (0,a1)).bind fun x7 =>
 (match x7 with
 | .inl x8 =>
 some (-1)
 | .inr x9 =>
 some x9))
structure Alt where
 Parts:(List Part)
 Prec:Sym
 At:Int
 deriving DecidableEq,Inhabited
def eAlt_0:En Alt:=⟨6,fun x=>[iR ePart x.Parts,SS x.Prec.Name,BB x.Prec.Lit,I64 x.Prec.Num,I64 x.Prec.At,I64 x.At],fun _=>rfl,fun _=>NRl.nr⟩
instance:Flat eAlt_0:=⟨fun _=>rfl⟩
instance:Tw eAlt_0 eAlt_0:=⟨rfl,fun x=>(inferInstance:Vws [iR ePart x.Parts,SS x.Prec.Name,BB x.Prec.Lit,I64 x.Prec.Num,I64 x.Prec.At,I64 x.At] [iR ePart x.Parts,SS x.Prec.Name,BB x.Prec.Lit,I64 x.Prec.Num,I64 x.Prec.At,I64 x.At])⟩
instance {x:Alt}:Vws (eAlt_0.cells x) [iR ePart x.Parts,SS x.Prec.Name,BB x.Prec.Lit,I64 x.Prec.Num,I64 x.Prec.At,I64 x.At]:=(inferInstance:Vws [iR ePart x.Parts,SS x.Prec.Name,BB x.Prec.Lit,I64 x.Prec.Num,I64 x.Prec.At,I64 x.At] [iR ePart x.Parts,SS x.Prec.Name,BB x.Prec.Lit,I64 x.Prec.Num,I64 x.Prec.At,I64 x.At])
def pf128 (a0:Alt):Option (Bool) :=
 (loopM (R:=(Unit) ⊕ (Bool)) (fun (s1:Int) =>
 (bif decide (s1<(a0.Parts.length:Int)) then
 (idx a0.Parts s1).bind fun x6 =>
 ((bif decide (x6.Code={ data:=#[] }) then ((pf133 x6.Sym false true).bind fun x8=>(bif !x8 then some true else (bif !decide (x6.Code={ data:=#[] }) then ((pf135 x6.Sym).bind fun x11=>(bif !x11 then some true else ((pf136 x6.Code 0).bind fun x13=>some (!decide (x13=(x6.Code.size:Int)))))) else some false))) else (bif !decide (x6.Code={ data:=#[] }) then ((pf135 x6.Sym).bind fun x15=>(bif !x15 then some true else ((pf136 x6.Code 0).bind fun x17=>some (!decide (x17=(x6.Code.size:Int)))))) else some false))).bind fun c18 =>
 (bif c18 then
 some (.inr (.inr false))
 else
 some (.inl (w64 (s1+1))))
 else
 some (.inr (.inl ())))) 0).bind fun x2 =>
 (match x2 with
 | .inl x3 =>
 (((pf135 a0.Prec).bind fun x20=>(bif x20 then some true else ((pf133 a0.Prec false true).bind fun x22=>some x22)))).bind fun c23 =>
 some c23
 | .inr x4 =>
 some x4)
structure Rule where
 Left:ByteArray
 Alts:(List Alt)
 At:Int
 deriving DecidableEq,Inhabited
structure Source where
 Pro:ByteArray
 Decls:(List Decl)
 Rules:(List Rule)
 Tail:ByteArray
 deriving DecidableEq,Inhabited
def eRule_0:En Rule:=⟨3,fun x=>[SS x.Left,iR eAlt_0 x.Alts,I64 x.At],fun _=>rfl,fun _=>NRl.nr⟩
instance:Flat eRule_0:=⟨fun _=>rfl⟩
instance:Tw eRule_0 eRule_0:=⟨rfl,fun x=>(inferInstance:Vws [SS x.Left,iR eAlt_0 x.Alts,I64 x.At] [SS x.Left,iR eAlt_0 x.Alts,I64 x.At])⟩
instance {x:Rule}:Vws (eRule_0.cells x) [SS x.Left,iR eAlt_0 x.Alts,I64 x.At]:=(inferInstance:Vws [SS x.Left,iR eAlt_0 x.Alts,I64 x.At] [SS x.Left,iR eAlt_0 x.Alts,I64 x.At])
def eSource_0:En Source:=⟨4,fun x=>[SS x.Pro,iR eDecl_0 x.Decls,iR eRule_0 x.Rules,SS x.Tail],fun _=>rfl,fun _=>NRl.nr⟩
instance:Flat eSource_0:=⟨fun _=>rfl⟩
instance:Tw eSource_0 eSource_0:=⟨rfl,fun x=>(inferInstance:Vws [SS x.Pro,iR eDecl_0 x.Decls,iR eRule_0 x.Rules,SS x.Tail] [SS x.Pro,iR eDecl_0 x.Decls,iR eRule_0 x.Rules,SS x.Tail])⟩
instance {x:Source}:Vws (eSource_0.cells x) [SS x.Pro,iR eDecl_0 x.Decls,iR eRule_0 x.Rules,SS x.Tail]:=(inferInstance:Vws [SS x.Pro,iR eDecl_0 x.Decls,iR eRule_0 x.Rules,SS x.Tail] [SS x.Pro,iR eDecl_0 x.Decls,iR eRule_0 x.Rules,SS x.Tail])
def pf106 (a0:Source):Option (Bool) :=
 (loopM (R:=(Unit) ⊕ (Bool)) (fun (s1:Int) =>
 (bif decide (w64 (s1+1)<(a0.Pro.size:Int)) then
 (cutO a0.Pro s1 (w64 (s1+2))).bind fun x6 =>
 (bif decide (x6={ data:=#[37,125] }) then
 some (.inr (.inr false))
 else
 some (.inl (w64 (s1+1))))
 else
 some (.inr (.inl ())))) 0).bind fun x2 =>
 (match x2 with
 | .inl x3 =>
 (loopM (R:=(Unit) ⊕ (Bool)) (fun (s8:Int) =>
 (bif decide (s8<(a0.Decls.length:Int)) then
 (idx a0.Decls s8).bind fun x13 =>
 (pf126 x13).bind fun x14 =>
 (bif !x14 then
 some (.inr (.inr false))
 else
 some (.inl (w64 (s8+1))))
 else
 some (.inr (.inl ())))) 0).bind fun x9 =>
 (match x9 with
 | .inl x10 =>
 (loopM (R:=(Unit) ⊕ (Bool)) (fun (s16:Int) =>
 (bif decide (s16<(a0.Rules.length:Int)) then
 (idx a0.Rules s16).bind fun x21 =>
 (((pf127 x21.Left).bind fun x22=>(bif !x22 then some true else some (decide ((x21.Alts.length:Int)=0))))).bind fun c24 =>
 (bif c24 then
 some (.inr (.inr false))
 else
 (loopM (R:=(Unit) ⊕ (Bool)) (fun (s26:Int) =>
 (bif decide (s26<(x21.Alts.length:Int)) then
 (idx x21.Alts s26).bind fun x31 =>
 (pf128 x31).bind fun x32 =>
 (bif !x32 then
 some (.inr (.inr false))
 else
 some (.inl (w64 (s26+1))))
 else
 some (.inr (.inl ())))) 0).bind fun x27 =>
 (match x27 with
 | .inl x28 =>
 some (.inl (w64 (s16+1)))
 | .inr x29 =>
 some (.inr (.inr x29))))
 else
 some (.inr (.inl ())))) 0).bind fun x17 =>
 (match x17 with
 | .inl x18 =>
 some (decide (0<(a0.Rules.length:Int)))
 | .inr x19 =>
 some x19)
 | .inr x11 =>
 some x11)
 | .inr x4 =>
 some x4)
structure Tok where
 Name:ByteArray
 Lit:Bool
 Num:Int
 Level:Int
 Assoc:Int
 Tag:ByteArray
 deriving DecidableEq,Inhabited
structure Non where
 Name:ByteArray
 Tag:ByteArray
 deriving DecidableEq,Inhabited
structure Prod where
 Left:Int
 Right:(List Int)
 Prec:Int
 Code:ByteArray
 Args:(List Int)
 At:Int
 deriving DecidableEq,Inhabited
structure Grammar where
 Toks:(List Tok)
 Nons:(List Non)
 Prods:(List Prod)
 Pro:ByteArray
 Tail:ByteArray
 deriving DecidableEq,Inhabited
structure yuccaref9_maker where
 f_g:Grammar
 f_given:(List Bool)
 f_types:(List Non)
 f_lefts:(List ByteArray)
 f_e:Int
 f_at:Int
 f_name:ByteArray
 f_level:Int
 f_inner:Int
 deriving DecidableEq,Inhabited
def eTok:En Tok:=⟨6,fun x=>[SS x.Name,BB x.Lit,I64 x.Num,I64 x.Level,I64 x.Assoc,SS x.Tag],fun _=>rfl,fun _=>NRl.nr⟩
instance:Flat eTok:=⟨fun _=>rfl⟩
instance:OOe eTok:=⟨fun x=>(inferInstance:OOl [SS x.Name,BB x.Lit,I64 x.Num,I64 x.Level,I64 x.Assoc,SS x.Tag])⟩
instance:Tw eTok eTok:=⟨rfl,fun x=>(inferInstance:Vws [SS x.Name,BB x.Lit,I64 x.Num,I64 x.Level,I64 x.Assoc,SS x.Tag] [SS x.Name,BB x.Lit,I64 x.Num,I64 x.Level,I64 x.Assoc,SS x.Tag])⟩
instance {x:Tok}:Vws (eTok.cells x) [SS x.Name,BB x.Lit,I64 x.Num,I64 x.Level,I64 x.Assoc,SS x.Tag]:=(inferInstance:Vws [SS x.Name,BB x.Lit,I64 x.Num,I64 x.Level,I64 x.Assoc,SS x.Tag] [SS x.Name,BB x.Lit,I64 x.Num,I64 x.Level,I64 x.Assoc,SS x.Tag])
def eNon:En Non:=⟨2,fun x=>[SS x.Name,SS x.Tag],fun _=>rfl,fun _=>NRl.nr⟩
instance:Flat eNon:=⟨fun _=>rfl⟩
instance:OOe eNon:=⟨fun x=>(inferInstance:OOl [SS x.Name,SS x.Tag])⟩
instance:Tw eNon eNon:=⟨rfl,fun x=>(inferInstance:Vws [SS x.Name,SS x.Tag] [SS x.Name,SS x.Tag])⟩
def eProd_0:En Prod:=⟨6,fun x=>[I64 x.Left,iR eI x.Right,I64 x.Prec,SS x.Code,iR eI x.Args,I64 x.At],fun _=>rfl,fun _=>NRl.nr⟩
instance:Flat eProd_0:=⟨fun _=>rfl⟩
instance:Tw eProd_0 eProd_0:=⟨rfl,fun x=>(inferInstance:Vws [I64 x.Left,iR eI x.Right,I64 x.Prec,SS x.Code,iR eI x.Args,I64 x.At] [I64 x.Left,iR eI x.Right,I64 x.Prec,SS x.Code,iR eI x.Args,I64 x.At])⟩
instance {x:Prod}:Vws (eProd_0.cells x) [I64 x.Left,iR eI x.Right,I64 x.Prec,SS x.Code,iR eI x.Args,I64 x.At]:=(inferInstance:Vws [I64 x.Left,iR eI x.Right,I64 x.Prec,SS x.Code,iR eI x.Args,I64 x.At] [I64 x.Left,iR eI x.Right,I64 x.Prec,SS x.Code,iR eI x.Args,I64 x.At])
def eGrammar_0:En Grammar:=⟨5,fun x=>[iR eTok x.Toks,iR eNon x.Nons,iR eProd_0 x.Prods,SS x.Pro,SS x.Tail],fun _=>rfl,fun _=>NRl.nr⟩
instance:Flat eGrammar_0:=⟨fun _=>rfl⟩
instance:Tw eGrammar_0 eGrammar_0:=⟨rfl,fun x=>(inferInstance:Vws [iR eTok x.Toks,iR eNon x.Nons,iR eProd_0 x.Prods,SS x.Pro,SS x.Tail] [iR eTok x.Toks,iR eNon x.Nons,iR eProd_0 x.Prods,SS x.Pro,SS x.Tail])⟩
instance {x:Grammar}:Vws (eGrammar_0.cells x) [iR eTok x.Toks,iR eNon x.Nons,iR eProd_0 x.Prods,SS x.Pro,SS x.Tail]:=(inferInstance:Vws [iR eTok x.Toks,iR eNon x.Nons,iR eProd_0 x.Prods,SS x.Pro,SS x.Tail] [iR eTok x.Toks,iR eNon x.Nons,iR eProd_0 x.Prods,SS x.Pro,SS x.Tail])
def eyuccaref9_maker_0:En yuccaref9_maker:=⟨13,fun x=>[iR eTok x.f_g.Toks,iR eNon x.f_g.Nons,iR eProd_0 x.f_g.Prods,SS x.f_g.Pro,SS x.f_g.Tail,iR eB x.f_given,iR eNon x.f_types,iR eS x.f_lefts,I64 x.f_e,I64 x.f_at,SS x.f_name,I64 x.f_level,I64 x.f_inner],fun _=>rfl,fun _=>NRl.nr⟩
instance:Flat eyuccaref9_maker_0:=⟨fun _=>rfl⟩
instance:Tw eyuccaref9_maker_0 eyuccaref9_maker_0:=⟨rfl,fun x=>(inferInstance:Vws [iR eTok x.f_g.Toks,iR eNon x.f_g.Nons,iR eProd_0 x.f_g.Prods,SS x.f_g.Pro,SS x.f_g.Tail,iR eB x.f_given,iR eNon x.f_types,iR eS x.f_lefts,I64 x.f_e,I64 x.f_at,SS x.f_name,I64 x.f_level,I64 x.f_inner] [iR eTok x.f_g.Toks,iR eNon x.f_g.Nons,iR eProd_0 x.f_g.Prods,SS x.f_g.Pro,SS x.f_g.Tail,iR eB x.f_given,iR eNon x.f_types,iR eS x.f_lefts,I64 x.f_e,I64 x.f_at,SS x.f_name,I64 x.f_level,I64 x.f_inner])⟩
instance {x:yuccaref9_maker}:Vws (eyuccaref9_maker_0.cells x) [iR eTok x.f_g.Toks,iR eNon x.f_g.Nons,iR eProd_0 x.f_g.Prods,SS x.f_g.Pro,SS x.f_g.Tail,iR eB x.f_given,iR eNon x.f_types,iR eS x.f_lefts,I64 x.f_e,I64 x.f_at,SS x.f_name,I64 x.f_level,I64 x.f_inner]:=(inferInstance:Vws [iR eTok x.f_g.Toks,iR eNon x.f_g.Nons,iR eProd_0 x.f_g.Prods,SS x.f_g.Pro,SS x.f_g.Tail,iR eB x.f_given,iR eNon x.f_types,iR eS x.f_lefts,I64 x.f_e,I64 x.f_at,SS x.f_name,I64 x.f_level,I64 x.f_inner] [iR eTok x.f_g.Toks,iR eNon x.f_g.Nons,iR eProd_0 x.f_g.Prods,SS x.f_g.Pro,SS x.f_g.Tail,iR eB x.f_given,iR eNon x.f_types,iR eS x.f_lefts,I64 x.f_e,I64 x.f_at,SS x.f_name,I64 x.f_level,I64 x.f_inner])
def eGrammar_1:En Grammar:=⟨5,fun x=>[oR eTok x.Toks,oR eNon x.Nons,oR eProd_0 x.Prods,SS x.Pro,SS x.Tail],fun _=>rfl,fun _=>NRl.nr⟩
instance:Tw eGrammar_1 eGrammar_0:=⟨rfl,fun x=>(inferInstance:Vws [oR eTok x.Toks,oR eNon x.Nons,oR eProd_0 x.Prods,SS x.Pro,SS x.Tail] [iR eTok x.Toks,iR eNon x.Nons,iR eProd_0 x.Prods,SS x.Pro,SS x.Tail])⟩
instance {x:Grammar}:Vws (eGrammar_1.cells x) [iR eTok x.Toks,iR eNon x.Nons,iR eProd_0 x.Prods,SS x.Pro,SS x.Tail]:=(inferInstance:Vws [oR eTok x.Toks,oR eNon x.Nons,oR eProd_0 x.Prods,SS x.Pro,SS x.Tail] [iR eTok x.Toks,iR eNon x.Nons,iR eProd_0 x.Prods,SS x.Pro,SS x.Tail])
def eyuccaref9_maker_r:En yuccaref9_maker:=⟨13,fun x=>[oR eTok x.f_g.Toks,oR eNon x.f_g.Nons,oR eProd_0 x.f_g.Prods,SS x.f_g.Pro,SS x.f_g.Tail,oR eB x.f_given,oR eNon x.f_types,oR eS x.f_lefts,I64 x.f_e,I64 x.f_at,SS x.f_name,I64 x.f_level,I64 x.f_inner],fun _=>rfl,fun _=>NRl.nr⟩
instance {x:yuccaref9_maker}:Vws (eyuccaref9_maker_r.cells x) [iR eTok x.f_g.Toks,iR eNon x.f_g.Nons,iR eProd_0 x.f_g.Prods,SS x.f_g.Pro,SS x.f_g.Tail,iR eB x.f_given,iR eNon x.f_types,iR eS x.f_lefts,I64 x.f_e,I64 x.f_at,SS x.f_name,I64 x.f_level,I64 x.f_inner]:=(inferInstance:Vws [oR eTok x.f_g.Toks,oR eNon x.f_g.Nons,oR eProd_0 x.f_g.Prods,SS x.f_g.Pro,SS x.f_g.Tail,oR eB x.f_given,oR eNon x.f_types,oR eS x.f_lefts,I64 x.f_e,I64 x.f_at,SS x.f_name,I64 x.f_level,I64 x.f_inner] [iR eTok x.f_g.Toks,iR eNon x.f_g.Nons,iR eProd_0 x.f_g.Prods,SS x.f_g.Pro,SS x.f_g.Tail,iR eB x.f_given,iR eNon x.f_types,iR eS x.f_lefts,I64 x.f_e,I64 x.f_at,SS x.f_name,I64 x.f_level,I64 x.f_inner])
def pf108 (a0:yuccaref9_maker) (a1:Int) (a2:ByteArray):Option (yuccaref9_maker) :=
 ((bif decide (a0.f_e=0) then
 some (⟨a0.f_g,a0.f_given,a0.f_types,a0.f_lefts,3,a1,a2,a0.f_level,a0.f_inner⟩:yuccaref9_maker)
 else
 some a0)).bind fun j1 =>
 some j1
def pf112 (a0:yuccaref9_maker) (a1:ByteArray):Option (Int) :=
 (loopM (R:=(Unit) ⊕ (Int)) (fun (s1:Int) =>
 (bif decide (s1<(a0.f_types.length:Int)) then
 (idx a0.f_types s1).bind fun x6 =>
 (bif decide (x6.Name=a1) then
 some (.inr (.inr s1))
 else
 some (.inl (w64 (s1+1))))
 else
 some (.inr (.inl ())))) 0).bind fun x2 =>
 (match x2 with
 | .inl x3 =>
 some (-1)
 | .inr x4 =>
 some x4)
def pf109 (a0:yuccaref9_maker) (a1:Sym):Option (Int) :=
 (loopM (R:=(Unit) ⊕ (Int)) (fun (s1:Int) =>
 (bif decide (s1<(a0.f_g.Toks.length:Int)) then
 (((idx a0.f_g.Toks s1).bind fun x6=>(bif decide (x6.Name=a1.Name) then ((idx a0.f_g.Toks s1).bind fun x8=>(bif (x8.Lit == a1.Lit) then some (!decide (s1=2)) else some false)) else some false))).bind fun c10 =>
 (bif c10 then
 some (.inr (.inr s1))
 else
 some (.inl (w64 (s1+1))))
 else
 some (.inr (.inl ())))) 1).bind fun x2 =>
 (match x2 with
 | .inl x3 =>
 some (-1)
 | .inr x4 =>
 some x4)
def pf130 (a0:yuccaref9_maker) (a1:Int):Option (Int) :=
 (loopM (R:=(Unit) ⊕ (Int)) (fun (s1:Int) =>
 (bif decide (s1<(a0.f_g.Toks.length:Int)) then
 (idx a0.f_g.Toks s1).bind fun x6 =>
 (bif decide (x6.Num=a1) then
 some (.inr (.inr s1))
 else
 some (.inl (w64 (s1+1))))
 else
 some (.inr (.inl ())))) 3).bind fun x2 =>
 (match x2 with
 | .inl x3 =>
 some (-1)
 | .inr x4 =>
 some x4)
def pf129 (a0:yuccaref9_maker) (a1:Sym):Option (Int × yuccaref9_maker) :=
 (pf109 a0 a1).bind fun x1 =>
 (bif decide (0<=x1) then
 some (x1,a0)
 else
 ((bif a1.Lit then
 (bidx a1.Name 0).bind fun x5 =>
 (pf130 a0 (w64 x5)).bind fun x6 =>
 ((bif decide (0<=x6) then
 (pf108 a0 a1.At a1.Name).bind fun x9 =>
 some x9
 else
 some a0)).bind fun j7 =>
 some (j7,w64 x5)
 else
 some (a0,0))).bind fun j3 =>
 (appO j3.1.f_g.Toks [(⟨a1.Name,a1.Lit,j3.2,0,0,{ data:=#[] }⟩:Tok)]).bind fun x10 =>
 (appO j3.1.f_given [a1.Lit]).bind fun x11 =>
 some (w64 (((j3.1.f_g.Toks++[(⟨a1.Name,a1.Lit,j3.2,0,0,{ data:=#[] }⟩:Tok)]).length:Int) - 1),(⟨(⟨j3.1.f_g.Toks++[(⟨a1.Name,a1.Lit,j3.2,0,0,{ data:=#[] }⟩:Tok)],j3.1.f_g.Nons,j3.1.f_g.Prods,j3.1.f_g.Pro,j3.1.f_g.Tail⟩:Grammar),j3.1.f_given++[a1.Lit],j3.1.f_types,j3.1.f_lefts,j3.1.f_e,j3.1.f_at,j3.1.f_name,j3.1.f_level,j3.1.f_inner⟩:yuccaref9_maker)))
def pf107 (a0:yuccaref9_maker) (a1:Decl) (a2:Sym):Option (yuccaref9_maker) :=
 (bif decide (a1.Kind=5) then
 (pf112 a0 a2.Name).bind fun x2 =>
 ((bif decide (x2<0) then
 (appO a0.f_types [(⟨a2.Name,a1.Tag⟩:Non)]).bind fun x5 =>
 some (⟨a0.f_g,a0.f_given,a0.f_types++[(⟨a2.Name,a1.Tag⟩:Non)],a0.f_lefts,a0.f_e,a0.f_at,a0.f_name,a0.f_level,a0.f_inner⟩:yuccaref9_maker)
 else
 (idx a0.f_types x2).bind fun x6 =>
 ((bif !decide (x6.Tag=a1.Tag) then
 (pf108 a0 a2.At a2.Name).bind fun x9 =>
 some x9
 else
 some a0)).bind fun j7 =>
 some j7)).bind fun j3 =>
 some j3
 else
 (pf129 a0 a2).bind fun x10 =>
 (idx x10.2.f_g.Toks x10.1).bind fun x11 =>
 ((bif !decide (a1.Kind=1) then
 ((bif decide (0<x11.Level) then
 (pf108 x10.2 a2.At a2.Name).bind fun x16 =>
 some (⟨(⟨x10.2.f_g.Toks,x16.f_g.Nons,x16.f_g.Prods,x16.f_g.Pro,x16.f_g.Tail⟩:Grammar),x16.f_given,x16.f_types,x16.f_lefts,x16.f_e,x16.f_at,x16.f_name,x16.f_level,x16.f_inner⟩:yuccaref9_maker)
 else
 some x10.2)).bind fun j14 =>
 (idx j14.f_g.Toks x10.1).bind fun x17 =>
 some (⟨(⟨(j14.f_g.Toks.set x10.1.toNat (⟨x17.Name,x17.Lit,x17.Num,j14.f_level,x17.Assoc,x17.Tag⟩:Tok)).set x10.1.toNat (⟨(⟨x17.Name,x17.Lit,x17.Num,j14.f_level,x17.Assoc,x17.Tag⟩:Tok).Name,(⟨x17.Name,x17.Lit,x17.Num,j14.f_level,x17.Assoc,x17.Tag⟩:Tok).Lit,(⟨x17.Name,x17.Lit,x17.Num,j14.f_level,x17.Assoc,x17.Tag⟩:Tok).Num,(⟨x17.Name,x17.Lit,x17.Num,j14.f_level,x17.Assoc,x17.Tag⟩:Tok).Level,w64 (a1.Kind - 1),(⟨x17.Name,x17.Lit,x17.Num,j14.f_level,x17.Assoc,x17.Tag⟩:Tok).Tag⟩:Tok),j14.f_g.Nons,j14.f_g.Prods,j14.f_g.Pro,j14.f_g.Tail⟩:Grammar),j14.f_given,j14.f_types,j14.f_lefts,j14.f_e,j14.f_at,j14.f_name,j14.f_level,j14.f_inner⟩:yuccaref9_maker)
 else
 some x10.2)).bind fun j12 =>
 (idx j12.f_g.Toks x10.1).bind fun x18 =>
 ((bif decide (0<a2.Num) then
 ((bif decide (x10.1=1) then some true else ((idx j12.f_given x10.1).bind fun x22=>(bif x22 then some true else ((pf130 j12 a2.Num).bind fun x24=>some (decide (0<=x24))))))).bind fun c25 =>
 ((bif c25 then
 (pf108 j12 a2.At a2.Name).bind fun x28 =>
 some (⟨(⟨j12.f_g.Toks,x28.f_g.Nons,x28.f_g.Prods,x28.f_g.Pro,x28.f_g.Tail⟩:Grammar),x28.f_given,x28.f_types,x28.f_lefts,x28.f_e,x28.f_at,x28.f_name,x28.f_level,x28.f_inner⟩:yuccaref9_maker)
 else
 some j12)).bind fun j26 =>
 (idx j26.f_g.Toks x10.1).bind fun x29 =>
 (idx j26.f_given x10.1).bind fun x30 =>
 some (⟨(⟨j26.f_g.Toks.set x10.1.toNat (⟨x29.Name,x29.Lit,a2.Num,x29.Level,x29.Assoc,x29.Tag⟩:Tok),j26.f_g.Nons,j26.f_g.Prods,j26.f_g.Pro,j26.f_g.Tail⟩:Grammar),j26.f_given.set x10.1.toNat true,j26.f_types,j26.f_lefts,j26.f_e,j26.f_at,j26.f_name,j26.f_level,j26.f_inner⟩:yuccaref9_maker)
 else
 some j12)).bind fun j19 =>
 (idx j19.f_g.Toks x10.1).bind fun x31 =>
 ((bif !decide (a1.Tag={ data:=#[] }) then
 ((bif !decide (x31.Tag={ data:=#[] }) then some (!decide (x31.Tag=a1.Tag)) else some false)).bind fun c35 =>
 ((bif c35 then
 (pf108 j19 a2.At a2.Name).bind fun x38 =>
 some (⟨(⟨j19.f_g.Toks,x38.f_g.Nons,x38.f_g.Prods,x38.f_g.Pro,x38.f_g.Tail⟩:Grammar),x38.f_given,x38.f_types,x38.f_lefts,x38.f_e,x38.f_at,x38.f_name,x38.f_level,x38.f_inner⟩:yuccaref9_maker)
 else
 some j19)).bind fun j36 =>
 (idx j36.f_g.Toks x10.1).bind fun x39 =>
 some (⟨(⟨j36.f_g.Toks.set x10.1.toNat (⟨x39.Name,x39.Lit,x39.Num,x39.Level,x39.Assoc,a1.Tag⟩:Tok),j36.f_g.Nons,j36.f_g.Prods,j36.f_g.Pro,j36.f_g.Tail⟩:Grammar),j36.f_given,j36.f_types,j36.f_lefts,j36.f_e,j36.f_at,j36.f_name,j36.f_level,j36.f_inner⟩:yuccaref9_maker)
 else
 some j19)).bind fun j32 =>
 some j32)
def pf110 (a0:yuccaref9_maker) (a1:ByteArray):Option (Int) :=
 (loopM (R:=(Unit) ⊕ (Int)) (fun (s1:Int) =>
 (bif decide (s1<(a0.f_lefts.length:Int)) then
 (idx a0.f_lefts s1).bind fun x6 =>
 (bif decide (x6=a1) then
 some (.inr (.inr s1))
 else
 some (.inl (w64 (s1+1))))
 else
 some (.inr (.inl ())))) 0).bind fun x2 =>
 (match x2 with
 | .inl x3 =>
 some (-1)
 | .inr x4 =>
 some x4)
def pf131 (a0:yuccaref9_maker) (a1:Sym):Option (Int × yuccaref9_maker) :=
 (bif a1.Lit then
 (pf129 a0 a1).bind fun x2 =>
 some (x2.1,x2.2)
 else
 (pf110 a0 a1.Name).bind fun x3 =>
 (bif decide (0<=x3) then
 some (w64 (1001+x3),a0)
 else
 (pf109 a0 a1).bind fun x5 =>
 (bif decide (x5<0) then
 (pf108 a0 a1.At a1.Name).bind fun x7 =>
 some (0,x7)
 else
 some (x5,a0))))
def pf111 (a0:yuccaref9_maker) (a1:ByteArray) (a2:Alt):Option (yuccaref9_maker) :=
 (pf110 a0 a1).bind fun x1 =>
 (loopM (R:=yuccaref9_maker × List Int × ByteArray × Int) (fun (s2:yuccaref9_maker × List Int × ByteArray × Int × Int) =>
 (bif decide (s2.2.2.2.2<(a2.Parts.length:Int)) then
 ((idx a2.Parts s2.2.2.2.2).bind fun x7 =>
 (((bif decide (x7.Code={ data:=#[] }) then
 (pf131 s2.1 x7.Sym).bind fun x11 =>
 (appO s2.2.1 [x11.1]).bind fun x12 =>
 some (x11.2,s2.2.1++[x11.1],s2.2.2.1,s2.2.2.2.1)
 else
 ((bif decide (w64 (s2.2.2.2.2+1)=(a2.Parts.length:Int)) then
 some (s2.1.f_g.Prods,s2.1.f_inner,s2.2.1,x7.Code,x7.At)
 else
 (appO ([]:List Int) s2.2.1).bind fun x15 =>
 (appO s2.1.f_g.Prods [(⟨w64 ((s2.1.f_lefts.length:Int)+(w64 (s2.1.f_inner+1))),([]:List Int),(-1),x7.Code,([]:List Int)++s2.2.1,x7.At⟩:Prod)]).bind fun x16 =>
 (appO s2.2.1 [w64 ((w64 (1000+(s2.1.f_lefts.length:Int)))+(w64 (s2.1.f_inner+1)))]).bind fun x17 =>
 some (s2.1.f_g.Prods++[(⟨w64 ((s2.1.f_lefts.length:Int)+(w64 (s2.1.f_inner+1))),([]:List Int),(-1),x7.Code,([]:List Int)++s2.2.1,x7.At⟩:Prod)],w64 (s2.1.f_inner+1),s2.2.1++[w64 ((w64 (1000+(s2.1.f_lefts.length:Int)))+(w64 (s2.1.f_inner+1)))],s2.2.2.1,s2.2.2.2.1))).bind fun j13 =>
 some ((⟨(⟨s2.1.f_g.Toks,s2.1.f_g.Nons,j13.1,s2.1.f_g.Pro,s2.1.f_g.Tail⟩:Grammar),s2.1.f_given,s2.1.f_types,s2.1.f_lefts,s2.1.f_e,s2.1.f_at,s2.1.f_name,s2.1.f_level,j13.2.1⟩:yuccaref9_maker),j13.2.2.1,j13.2.2.2.1,j13.2.2.2.2))).bind fun j9 =>
 some (j9.1,j9.2.1,j9.2.2.1,j9.2.2.2)).bind fun j8 =>
 some (j8.1,j8.2.1,j8.2.2.1,j8.2.2.2)).bind fun j6 =>
 some (.inl (j6.1,j6.2.1,j6.2.2.1,j6.2.2.2,w64 (s2.2.2.2.2+1)))
 else
 some (.inr (s2.1,s2.2.1,s2.2.2.1,s2.2.2.2.1)))) (a0,([]:List Int),{ data:=#[] },a2.At,0)).bind fun x3 =>
 (loopM (R:=Int) (fun (s18:Int × Int) =>
 (bif decide (s18.2<(x3.2.1.length:Int)) then
 ((idx x3.2.1 s18.2).bind fun x23 =>
 ((bif decide (x23<1000) then
 (idx x3.2.1 s18.2).bind fun x26 =>
 some x26
 else
 some s18.1)).bind fun j24 =>
 some j24).bind fun j22 =>
 some (.inl (j22,w64 (s18.2+1)))
 else
 some (.inr s18.1))) ((-1),0)).bind fun x19 =>
 ((bif !decide (a2.Prec.Name={ data:=#[] }) then
 ((bif a2.Prec.Lit then some true else ((pf110 x3.1 a2.Prec.Name).bind fun x30=>some (decide (x30<0))))).bind fun c31 =>
 ((bif c31 then
 (pf131 x3.1 a2.Prec).bind fun x34 =>
 some (x34.2,x34.1)
 else
 (pf108 x3.1 a2.Prec.At a2.Prec.Name).bind fun x35 =>
 some (x35,(-1)))).bind fun j32 =>
 some (j32.1,j32.2)
 else
 some (x3.1,x19))).bind fun j27 =>
 (appO ([]:List Int) x3.2.1).bind fun x36 =>
 (appO j27.1.f_g.Prods [(⟨w64 (1+x1),x3.2.1,j27.2,x3.2.2.1,([]:List Int)++x3.2.1,x3.2.2.2⟩:Prod)]).bind fun x37 =>
 some (⟨(⟨j27.1.f_g.Toks,j27.1.f_g.Nons,j27.1.f_g.Prods++[(⟨w64 (1+x1),x3.2.1,j27.2,x3.2.2.1,([]:List Int)++x3.2.1,x3.2.2.2⟩:Prod)],j27.1.f_g.Pro,j27.1.f_g.Tail⟩:Grammar),j27.1.f_given,j27.1.f_types,j27.1.f_lefts,j27.1.f_e,j27.1.f_at,j27.1.f_name,j27.1.f_level,j27.1.f_inner⟩:yuccaref9_maker)
def pf113 (a0:Int):Option (ByteArray) :=
 ((bif decide (a0<0) then
 some (IntKind.u64.wrap (-(IntKind.u64.wrap a0)))
 else
 some (IntKind.u64.wrap a0))).bind fun j1 =>
 (loopM (R:=ByteArray) (fun (s3:Int × ByteArray) =>
 ((bif decide (0<s3.1) then some true else some (decide (s3.2={ data:=#[] })))).bind fun c7 =>
 (bif c7 then
 (remU s3.1 10).bind fun x9 =>
 (catO (strOfNums [w8 (IntKind.u64.wrap (48+x9))]) s3.2).bind fun x10 =>
 (quoU s3.1 10).bind fun x11 =>
 some (.inl (x11,x10))
 else
 some (.inr s3.2))) (j1,{ data:=#[] })).bind fun x4 =>
 (bif decide (a0<0) then
 (catO ({ data:=#[45] }) x4).bind fun x13 =>
 some x13
 else
 some x4)
def pf79 (a0:Source):Option (Grammar × Int × Int × ByteArray) :=
 (pf106 a0).bind fun x1 =>
 (bif !x1 then
 some ((⟨([]:List Tok),([]:List Non),([]:List Prod),{ data:=#[] },{ data:=#[] }⟩:Grammar),1,0,{ data:=#[] })
 else
 (mkO 3 false).bind fun x3 =>
 (loopM (R:=yuccaref9_maker × ByteArray) (fun (s4:yuccaref9_maker × ByteArray × Int) =>
 (bif decide (s4.2.2<(a0.Decls.length:Int)) then
 (idx a0.Decls s4.2.2).bind fun x8 =>
 ((bif decide (2<=x8.Kind) then some (decide (x8.Kind<=4)) else some false)).bind fun c10 =>
 ((bif c10 then
 some (w64 (s4.1.f_level+1))
 else
 some s4.1.f_level)).bind fun j11 =>
 (loopM (R:=yuccaref9_maker × ByteArray) (fun (s13:yuccaref9_maker × ByteArray × Int) =>
 (bif decide (s13.2.2<(x8.Syms.length:Int)) then
 ((bif !decide (x8.Kind=6) then
 (idx x8.Syms s13.2.2).bind fun x19 =>
 (pf107 s13.1 x8 x19).bind fun x20 =>
 some (x20,s13.2.1)
 else
 ((bif !decide (s13.2.1={ data:=#[] }) then
 (idx x8.Syms s13.2.2).bind fun x23 =>
 (idx x8.Syms s13.2.2).bind fun x24 =>
 (pf108 s13.1 x23.At x24.Name).bind fun x25 =>
 some x25
 else
 some s13.1)).bind fun j21 =>
 (idx x8.Syms s13.2.2).bind fun x26 =>
 some (j21,x26.Name))).bind fun j17 =>
 some (.inl (j17.1,j17.2,w64 (s13.2.2+1)))
 else
 some (.inr (s13.1,s13.2.1)))) ((⟨s4.1.f_g,s4.1.f_given,s4.1.f_types,s4.1.f_lefts,s4.1.f_e,s4.1.f_at,s4.1.f_name,j11,s4.1.f_inner⟩:yuccaref9_maker),s4.2.1,0)).bind fun x14 =>
 some (.inl (x14.1,x14.2,w64 (s4.2.2+1)))
 else
 some (.inr (s4.1,s4.2.1)))) ((⟨(⟨[(⟨{ data:=#[36,101,110,100] },false,0,0,0,{ data:=#[] }⟩:Tok),(⟨{ data:=#[101,114,114,111,114] },false,(-1),0,0,{ data:=#[] }⟩:Tok),(⟨{ data:=#[36,117,110,107] },false,(-1),0,0,{ data:=#[] }⟩:Tok)],[],[],{ data:=#[] },{ data:=#[] }⟩:Grammar),x3,[],[],0,0,{ data:=#[] },0,0⟩:yuccaref9_maker),{ data:=#[] },0)).bind fun x5 =>
 (loopM (R:=yuccaref9_maker) (fun (s27:yuccaref9_maker × Int) =>
 (bif decide (s27.2<(a0.Rules.length:Int)) then
 ((idx a0.Rules s27.2).bind fun x32 =>
 (pf109 s27.1 (⟨x32.Left,false,0,0⟩:Sym)).bind fun x33 =>
 ((bif decide (0<=x33) then
 (pf108 s27.1 x32.At x32.Left).bind fun x36 =>
 some x36
 else
 some s27.1)).bind fun j34 =>
 (pf110 j34 x32.Left).bind fun x37 =>
 ((bif decide (x37<0) then
 (appO j34.f_lefts [x32.Left]).bind fun x40 =>
 some (j34.f_lefts++[x32.Left])
 else
 some j34.f_lefts)).bind fun j38 =>
 some (⟨j34.f_g,j34.f_given,j34.f_types,j38,j34.f_e,j34.f_at,j34.f_name,j34.f_level,j34.f_inner⟩:yuccaref9_maker)).bind fun j31 =>
 some (.inl (j31,w64 (s27.2+1)))
 else
 some (.inr s27.1))) (x5.1,0)).bind fun x28 =>
 (loopM (R:=yuccaref9_maker) (fun (s41:yuccaref9_maker × Int) =>
 (bif decide (s41.2<(a0.Decls.length:Int)) then
 (loopM (R:=yuccaref9_maker) (fun (s45:yuccaref9_maker × Int) =>
 (idx a0.Decls s41.2).bind fun x48 =>
 (bif decide (s45.2<(x48.Syms.length:Int)) then
 ((idx a0.Decls s41.2).bind fun x51 =>
 (idx x51.Syms s45.2).bind fun x52 =>
 (((idx a0.Decls s41.2).bind fun x53=>(bif decide (5<=x53.Kind) then ((pf110 s45.1 x52.Name).bind fun x55=>some (decide (x55<0))) else some false))).bind fun c56 =>
 ((bif c56 then
 (pf108 s45.1 x52.At x52.Name).bind fun x59 =>
 some x59
 else
 some s45.1)).bind fun j57 =>
 some j57).bind fun j50 =>
 some (.inl (j50,w64 (s45.2+1)))
 else
 some (.inr s45.1))) (s41.1,0)).bind fun x46 =>
 some (.inl (x46,w64 (s41.2+1)))
 else
 some (.inr s41.1))) (x28,0)).bind fun x42 =>
 ((bif decide (x5.2={ data:=#[] }) then
 (idx a0.Rules 0).bind fun x62 =>
 some x62.Left
 else
 some x5.2)).bind fun j60 =>
 (pf110 x42 j60).bind fun x63 =>
 (loopM (R:=yuccaref9_maker) (fun (s64:yuccaref9_maker × Int) =>
 (bif decide (s64.2<(a0.Rules.length:Int)) then
 (loopM (R:=yuccaref9_maker) (fun (s68:yuccaref9_maker × Int) =>
 (idx a0.Rules s64.2).bind fun x71 =>
 (bif decide (s68.2<(x71.Alts.length:Int)) then
 (idx a0.Rules s64.2).bind fun x73 =>
 (idx a0.Rules s64.2).bind fun x74 =>
 (idx x74.Alts s68.2).bind fun x75 =>
 (pf111 s68.1 x73.Left x75).bind fun x76 =>
 some (.inl (x76,w64 (s68.2+1)))
 else
 some (.inr s68.1))) (s64.1,0)).bind fun x69 =>
 some (.inl (x69,w64 (s64.2+1)))
 else
 some (.inr s64.1))) ((⟨(⟨x42.f_g.Toks,x42.f_g.Nons,[(⟨0,[w64 (1001+x63)],(-1),{ data:=#[] },([]:List Int),0⟩:Prod)],x42.f_g.Pro,x42.f_g.Tail⟩:Grammar),x42.f_given,x42.f_types,x42.f_lefts,x42.f_e,x42.f_at,x42.f_name,x42.f_level,x42.f_inner⟩:yuccaref9_maker),0)).bind fun x65 =>
 (bif !decide (x65.f_e=0) then
 some ((⟨([]:List Tok),([]:List Non),([]:List Prod),{ data:=#[] },{ data:=#[] }⟩:Grammar),x65.f_e,x65.f_at,x65.f_name)
 else
 (loopM (R:=List Non) (fun (s78:List Non × Int) =>
 (bif decide (s78.2<(x65.f_lefts.length:Int)) then
 (idx x65.f_lefts s78.2).bind fun x82 =>
 (pf112 (⟨(⟨x65.f_g.Toks,s78.1,x65.f_g.Prods,x65.f_g.Pro,x65.f_g.Tail⟩:Grammar),x65.f_given,x65.f_types,x65.f_lefts,x65.f_e,x65.f_at,x65.f_name,x65.f_level,x65.f_inner⟩:yuccaref9_maker) x82).bind fun x83 =>
 ((bif decide (0<=x83) then
 (idx x65.f_types x83).bind fun x86 =>
 some x86.Tag
 else
 some ({ data:=#[] }))).bind fun j84 =>
 (appO s78.1 [(⟨x82,j84⟩:Non)]).bind fun x87 =>
 some (.inl (s78.1++[(⟨x82,j84⟩:Non)],w64 (s78.2+1)))
 else
 some (.inr s78.1))) ([(⟨{ data:=#[36,97,99,99,101,112,116] },{ data:=#[] }⟩:Non)],0)).bind fun x79 =>
 (loopM (R:=List Non) (fun (s88:List Non × Int) =>
 (bif decide (s88.2<=x65.f_inner) then
 (pf113 s88.2).bind fun x92 =>
 (catO ({ data:=#[64] }) x92).bind fun x93 =>
 (appO s88.1 [(⟨x93,{ data:=#[] }⟩:Non)]).bind fun x94 =>
 some (.inl (s88.1++[(⟨x93,{ data:=#[] }⟩:Non)],w64 (s88.2+1)))
 else
 some (.inr s88.1))) (x79,1)).bind fun x89 =>
 (loopM (R:=List Tok) (fun (s95:List Tok × Int × Int) =>
 (bif decide (s95.2.2<(s95.1.length:Int)) then
 ((idx x65.f_given s95.2.2).bind fun x100 =>
 ((bif !x100 then
 (idx s95.1 s95.2.2).bind fun x103 =>
 some (s95.1.set s95.2.2.toNat (⟨x103.Name,x103.Lit,s95.2.1,x103.Level,x103.Assoc,x103.Tag⟩:Tok),w64 (s95.2.1+1))
 else
 some (s95.1,s95.2.1))).bind fun j101 =>
 some (j101.1,j101.2)).bind fun j99 =>
 some (.inl (j99.1,j99.2,w64 (s95.2.2+1)))
 else
 some (.inr s95.1))) (x65.f_g.Toks,57346,3)).bind fun x96 =>
 ((bif decide (40<(x96.length:Int)) then some true else (bif decide (24<(x89.length:Int)) then some true else some (decide (60<(x65.f_g.Prods.length:Int)))))).bind fun c106 =>
 (loopM (R:=Bool) (fun (s107:Bool × Int) =>
 (bif decide (s107.2<(x65.f_g.Prods.length:Int)) then
 ((bif s107.1 then some true else ((idx x65.f_g.Prods s107.2).bind fun x112=>some (decide (8<(x112.Right.length:Int)))))).bind fun c113 =>
 some (.inl (c113,w64 (s107.2+1)))
 else
 some (.inr s107.1))) (c106,0)).bind fun x108 =>
 (bif x108 then
 some ((⟨([]:List Tok),([]:List Non),([]:List Prod),{ data:=#[] },{ data:=#[] }⟩:Grammar),4,0,{ data:=#[] })
 else
 some ((⟨x96,x89,x65.f_g.Prods,a0.Pro,a0.Tail⟩:Grammar),0,0,{ data:=#[] }))))
def pf56 (a0:Source):Option (Grammar × Bool) :=
 (pf79 a0).bind fun x1 =>
 some (x1.1,decide (x1.2.1=0))
def pf58 (a0:(List Int)) (a1:Int):Option (Bool) :=
 (loopM (R:=(Unit) ⊕ (Bool)) (fun (s1:Int) =>
 (bif decide (s1<(a0.length:Int)) then
 (idx a0 s1).bind fun x6 =>
 (bif decide (x6=a1) then
 some (.inr (.inr true))
 else
 some (.inl (w64 (s1+1))))
 else
 some (.inr (.inl ())))) 0).bind fun x2 =>
 (match x2 with
 | .inl x3 =>
 some false
 | .inr x4 =>
 some x4)
def pf59 (a0:(List Int)) (a1:Int):Option ((List Int)) :=
 (loopM (R:=Int) (fun (s1:Int) =>
 ((bif decide (0<s1) then ((idx a0 (w64 (s1 - 1))).bind fun x5=>some (decide (a1<x5))) else some false)).bind fun c6 =>
 (bif c6 then
 some (.inl (w64 (s1 - 1)))
 else
 some (.inr s1))) (a0.length:Int)).bind fun x2 =>
 ((bif decide (0<x2) then ((idx a0 (w64 (x2 - 1))).bind fun x9=>some (decide (x9=a1))) else some false)).bind fun c10 =>
 (bif c10 then
 some a0
 else
 (subO a0 0 x2).bind fun x12 =>
 (appO ([]:List Int) x12).bind fun x13 =>
 (appO (([]:List Int)++x12) [a1]).bind fun x14 =>
 (subO a0 x2 a0.length).bind fun x15 =>
 (appO ((([]:List Int)++x12)++[a1]) x15).bind fun x16 =>
 some ((([]:List Int)++x12)++[a1]++x15))
def pf80 (a0:Grammar):Option ((List Int)) :=
 (loopM (R:=List Int) (fun (s1:List Int × Int) =>
 (bif decide (s1.2<(a0.Toks.length:Int)) then
 (appO s1.1 [s1.2]).bind fun x5 =>
 some (.inl (s1.1++[s1.2],w64 (s1.2+1)))
 else
 some (.inr s1.1))) (([]:List Int),0)).bind fun x2 =>
 (loopM (R:=List Int) (fun (s6:List Int × Int) =>
 (bif decide (s6.2<(a0.Nons.length:Int)) then
 (appO s6.1 [w64 (1000+s6.2)]).bind fun x10 =>
 some (.inl (s6.1++[w64 (1000+s6.2)],w64 (s6.2+1)))
 else
 some (.inr s6.1))) (x2,0)).bind fun x7 =>
 some x7
structure Item where
 Prod:Int
 Dot:Int
 deriving DecidableEq,Inhabited
def pf116 (a0:Grammar) (a1:Item):Option (Bool) :=
 ((bif decide (0<=a1.Prod) then (bif decide (a1.Prod<(a0.Prods.length:Int)) then (bif decide (0<=a1.Dot) then ((idx a0.Prods a1.Prod).bind fun x4=>some (decide (a1.Dot<=(x4.Right.length:Int)))) else some false) else some false) else some false)).bind fun c5 =>
 some c5
def pf82 (a0:Grammar) (a1:Item):Option (Int) :=
 (((pf116 a0 a1).bind fun x1=>(bif !x1 then some true else ((idx a0.Prods a1.Prod).bind fun x3=>some (decide (a1.Dot=(x3.Right.length:Int))))))).bind fun c4 =>
 (bif c4 then
 some (-1)
 else
 (idx a0.Prods a1.Prod).bind fun x6 =>
 (idx x6.Right a1.Dot).bind fun x7 =>
 some x7)
def eItem:En Item:=⟨2,fun x=>[I64 x.Prod,I64 x.Dot],fun _=>rfl,fun _=>NRl.nr⟩
instance:Flat eItem:=⟨fun _=>rfl⟩
instance:OOe eItem:=⟨fun x=>(inferInstance:OOl [I64 x.Prod,I64 x.Dot])⟩
instance:Tw eItem eItem:=⟨rfl,fun x=>(inferInstance:Vws [I64 x.Prod,I64 x.Dot] [I64 x.Prod,I64 x.Dot])⟩
def pf115 (a0:(List Item)) (a1:Item):Option ((List Item)) :=
 (loopM (R:=Int) (fun (s1:Int) =>
 ((bif decide (0<s1) then ((idx a0 (w64 (s1 - 1))).bind fun x5=>(bif decide (a1.Prod<x5.Prod) then some true else ((idx a0 (w64 (s1 - 1))).bind fun x7=>(bif decide (x7.Prod=a1.Prod) then ((idx a0 (w64 (s1 - 1))).bind fun x9=>some (decide (a1.Dot<x9.Dot))) else some false)))) else some false)).bind fun c10 =>
 (bif c10 then
 some (.inl (w64 (s1 - 1)))
 else
 some (.inr s1))) (a0.length:Int)).bind fun x2 =>
 ((bif decide (0<x2) then ((idx a0 (w64 (x2 - 1))).bind fun x13=>some (decide (x13.Prod=a1.Prod)&&(decide (x13.Dot=a1.Dot)&&true))) else some false)).bind fun c14 =>
 (bif c14 then
 some a0
 else
 (subO a0 0 x2).bind fun x16 =>
 (appO ([]:List Item) x16).bind fun x17 =>
 (appO (([]:List Item)++x16) [a1]).bind fun x18 =>
 (subO a0 x2 a0.length).bind fun x19 =>
 (appO ((([]:List Item)++x16)++[a1]) x19).bind fun x20 =>
 some ((([]:List Item)++x16)++[a1]++x19))
def pf114 (a0:Grammar) (a1:(List Item)):Option ((List Item)) :=
 (loopM (R:=List Item) (fun (s1:List Item × Int) =>
 (bif decide (s1.2<(a1.length:Int)) then
 ((idx a1 s1.2).bind fun x6 =>
 (pf116 a0 x6).bind fun x7 =>
 ((bif x7 then
 (idx a1 s1.2).bind fun x10 =>
 (pf115 s1.1 x10).bind fun x11 =>
 some x11
 else
 some s1.1)).bind fun j8 =>
 some j8).bind fun j5 =>
 some (.inl (j5,w64 (s1.2+1)))
 else
 some (.inr s1.1))) (([]:List Item),0)).bind fun x2 =>
 some x2
def pf81 (a0:Grammar) (a1:(List Item)):Option ((List Item)) :=
 (pf114 a0 a1).bind fun x1 =>
 (loopM (R:=List Item) (fun (s2:List Item × Int) =>
 (bif !decide (s2.2=(s2.1.length:Int)) then
 (((loopM (R:=List Item) (fun (s8:List Item × Int) =>
 (bif decide (s8.2<(s2.1.length:Int)) then
 (idx s8.1 s8.2).bind fun x12 =>
 (pf82 a0 x12).bind fun x13 =>
 (loopM (R:=List Item) (fun (s14:List Item × Int) =>
 ((bif decide (s14.2<(a0.Prods.length:Int)) then some (decide (1000<=x13)) else some false)).bind fun c18 =>
 (bif c18 then
 ((idx a0.Prods s14.2).bind fun x21 =>
 ((bif decide (x21.Left=w64 (x13 - 1000)) then
 (pf115 s14.1 (⟨s14.2,0⟩:Item)).bind fun x24 =>
 some x24
 else
 some s14.1)).bind fun j22 =>
 some j22).bind fun j20 =>
 some (.inl (j20,w64 (s14.2+1)))
 else
 some (.inr s14.1))) (s8.1,0)).bind fun x15 =>
 (bif !decide ((x15.length:Int)=(s2.1.length:Int)) then
 some (.inr x15)
 else
 some (.inl (x15,w64 (s8.2+1))))
 else
 some (.inr s8.1))) (s2.1,0)).bind fun x9 =>
 some x9).bind fun j7 =>
 some (j7,(s2.1.length:Int))).bind fun j6 =>
 some (.inl (j6.1,j6.2))
 else
 some (.inr s2.1))) (x1,(-1))).bind fun x3 =>
 some x3
def pf83 (a0:Grammar) (a1:(List Item)) (a2:Int):Option ((List Item)) :=
 (pf81 a0 a1).bind fun x1 =>
 (loopM (R:=List Item) (fun (s2:List Item × Int) =>
 (bif decide (s2.2<(x1.length:Int)) then
 ((idx x1 s2.2).bind fun x7 =>
 (pf82 a0 x7).bind fun x8 =>
 ((bif decide (0<=x8) then some (decide (x8=a2)) else some false)).bind fun c10 =>
 ((bif c10 then
 (idx x1 s2.2).bind fun x13 =>
 (idx x1 s2.2).bind fun x14 =>
 (pf115 s2.1 (⟨x13.Prod,w64 (x14.Dot+1)⟩:Item)).bind fun x15 =>
 some x15
 else
 some s2.1)).bind fun j11 =>
 some j11).bind fun j6 =>
 some (.inl (j6,w64 (s2.2+1)))
 else
 some (.inr s2.1))) (([]:List Item),0)).bind fun x3 =>
 some x3
def pf117 (a0:(List Item)) (a1:(List Item)):Option (Bool) :=
 (bif !decide ((a0.length:Int)=(a1.length:Int)) then
 some false
 else
 (loopM (R:=(Unit) ⊕ (Bool)) (fun (s2:Int) =>
 (bif decide (s2<(a0.length:Int)) then
 (idx a0 s2).bind fun x7 =>
 (idx a1 s2).bind fun x8 =>
 (bif !(decide (x7.Prod=x8.Prod)&&(decide (x7.Dot=x8.Dot)&&true)) then
 some (.inr (.inr false))
 else
 some (.inl (w64 (s2+1))))
 else
 some (.inr (.inl ())))) 0).bind fun x3 =>
 (match x3 with
 | .inl x4 =>
 some true
 | .inr x5 =>
 some x5))
structure Move where
 Sym:Int
 To:Int
 deriving DecidableEq,Inhabited
structure State where
 Kernel:(List Item)
 Moves:(List Move)
 deriving DecidableEq,Inhabited
def eMove:En Move:=⟨2,fun x=>[I64 x.Sym,I64 x.To],fun _=>rfl,fun _=>NRl.nr⟩
instance:Flat eMove:=⟨fun _=>rfl⟩
instance:OOe eMove:=⟨fun x=>(inferInstance:OOl [I64 x.Sym,I64 x.To])⟩
instance:Tw eMove eMove:=⟨rfl,fun x=>(inferInstance:Vws [I64 x.Sym,I64 x.To] [I64 x.Sym,I64 x.To])⟩
def eState_0:En State:=⟨2,fun x=>[iR eItem x.Kernel,iR eMove x.Moves],fun _=>rfl,fun _=>NRl.nr⟩
instance:Flat eState_0:=⟨fun _=>rfl⟩
instance:Tw eState_0 eState_0:=⟨rfl,fun x=>(inferInstance:Vws [iR eItem x.Kernel,iR eMove x.Moves] [iR eItem x.Kernel,iR eMove x.Moves])⟩
def pf84 (a0:(List State)) (a1:(List Item)):Option (Int) :=
 (loopM (R:=(Unit) ⊕ (Int)) (fun (s1:Int) =>
 (bif decide (s1<(a0.length:Int)) then
 (idx a0 s1).bind fun x6 =>
 (pf117 x6.Kernel a1).bind fun x7 =>
 (bif x7 then
 some (.inr (.inr s1))
 else
 some (.inl (w64 (s1+1))))
 else
 some (.inr (.inl ())))) 0).bind fun x2 =>
 (match x2 with
 | .inl x3 =>
 some (-1)
 | .inr x4 =>
 some x4)
def eState_m:En State:=⟨2,fun x=>[iR eItem x.Kernel,oR eMove x.Moves],fun _=>rfl,fun _=>NRl.nr⟩
instance:Tw eState_m eState_0:=⟨rfl,fun x=>(inferInstance:Vws [iR eItem x.Kernel,oR eMove x.Moves] [iR eItem x.Kernel,iR eMove x.Moves])⟩
def pf57 (a0:Grammar):Option ((List State) × Int) :=
 (pf80 a0).bind fun x1 =>
 (loopM (R:=(List State) ⊕ (List State × Int)) (fun (s2:List State × Int) =>
 (bif decide (s2.2<(s2.1.length:Int)) then
 (idx s2.1 s2.2).bind fun x7 =>
 (pf81 a0 x7.Kernel).bind fun x8 =>
 (loopM (R:=List Int) (fun (s9:List Int × Int) =>
 (bif decide (s9.2<(x8.length:Int)) then
 ((idx x8 s9.2).bind fun x14 =>
 (pf82 a0 x14).bind fun x15 =>
 ((bif decide (0<=x15) then
 (pf59 s9.1 x15).bind fun x18 =>
 some x18
 else
 some s9.1)).bind fun j16 =>
 some j16).bind fun j13 =>
 some (.inl (j13,w64 (s9.2+1)))
 else
 some (.inr s9.1))) (([]:List Int),0)).bind fun x10 =>
 (loopM (R:=(List State) ⊕ (List State × Int)) (fun (s19:List State × Int) =>
 (bif decide (s19.2<(x1.length:Int)) then
 (idx x1 s19.2).bind fun x24 =>
 (pf58 x10 x24).bind fun x25 =>
 (bif !x25 then
 some (.inl (s19.1,w64 (s19.2+1)))
 else
 (idx s19.1 s2.2).bind fun x27 =>
 (idx x1 s19.2).bind fun x28 =>
 (pf83 a0 x27.Kernel x28).bind fun x29 =>
 (pf84 s19.1 x29).bind fun x30 =>
 (bif decide (x30<0) then
 (bif decide ((s19.1.length:Int)=150) then
 some (.inr (.inr (([]:List State),4)))
 else
 (appO s19.1 [(⟨x29,([]:List Move)⟩:State)]).bind fun x33 =>
 (idx (s19.1++[(⟨x29,([]:List Move)⟩:State)]) s2.2).bind fun x34 =>
 (idx x1 s19.2).bind fun x35 =>
 (appO x34.Moves [(⟨x35,(s19.1.length:Int)⟩:Move)]).bind fun x36 =>
 some (.inl ((s19.1++[(⟨x29,([]:List Move)⟩:State)]).set s2.2.toNat (⟨x34.Kernel,x34.Moves++[(⟨x35,(s19.1.length:Int)⟩:Move)]⟩:State),w64 (s19.2+1))))
 else
 (idx s19.1 s2.2).bind fun x37 =>
 (idx x1 s19.2).bind fun x38 =>
 (appO x37.Moves [(⟨x38,x30⟩:Move)]).bind fun x39 =>
 some (.inl (s19.1.set s2.2.toNat (⟨x37.Kernel,x37.Moves++[(⟨x38,x30⟩:Move)]⟩:State),w64 (s19.2+1)))))
 else
 some (.inr (.inl s19.1)))) (s2.1,0)).bind fun x20 =>
 (match x20 with
 | .inl x21 =>
 some (.inl (x21,w64 (s2.2+1)))
 | .inr x22 =>
 some (.inr (.inr (x22.1,x22.2))))
 else
 some (.inr (.inl s2.1)))) ([(⟨[(⟨0,0⟩:Item)],([]:List Move)⟩:State)],0)).bind fun x3 =>
 (match x3 with
 | .inl x4 =>
 some (x4,0)
 | .inr x5 =>
 some (x5.1,x5.2))
def pf37 (a0:Source):Option (Grammar × (List State) × Bool) :=
 (pf56 a0).bind fun x1 =>
 (bif !x1.2 then
 some (x1.1,([]:List State),false)
 else
 (pf57 x1.1).bind fun x3 =>
 some (x1.1,x3.1,decide (x3.2=0)))
def pf41 (a0:(List State)) (a1:Int) (a2:Int):Option (Int) :=
 (loopM (R:=(Unit) ⊕ (Int)) (fun (s1:Int) =>
 ((bif decide (0<=a1) then (bif decide (a1<(a0.length:Int)) then ((idx a0 a1).bind fun x7=>some (decide (s1<(x7.Moves.length:Int)))) else some false) else some false)).bind fun c8 =>
 (bif c8 then
 (idx a0 a1).bind fun x10 =>
 (idx x10.Moves s1).bind fun x11 =>
 (bif decide (x11.Sym=a2) then
 (idx a0 a1).bind fun x13 =>
 (idx x13.Moves s1).bind fun x14 =>
 some (.inr (.inr x14.To))
 else
 some (.inl (w64 (s1+1))))
 else
 some (.inr (.inl ())))) 0).bind fun x2 =>
 (match x2 with
 | .inl x3 =>
 some (-1)
 | .inr x4 =>
 some x4)
structure Cell where
 State:Int
 Tok:Int
 Shift:Int
 Accept:Bool
 Prods:(List Int)
 deriving DecidableEq,Inhabited
def eCell_0:En Cell:=⟨5,fun x=>[I64 x.State,I64 x.Tok,I64 x.Shift,BB x.Accept,iR eI x.Prods],fun _=>rfl,fun _=>NRl.nr⟩
instance:Flat eCell_0:=⟨fun _=>rfl⟩
instance:Tw eCell_0 eCell_0:=⟨rfl,fun x=>(inferInstance:Vws [I64 x.State,I64 x.Tok,I64 x.Shift,BB x.Accept,iR eI x.Prods] [I64 x.State,I64 x.Tok,I64 x.Shift,BB x.Accept,iR eI x.Prods])⟩
instance {x:Cell}:Vws (eCell_0.cells x) [I64 x.State,I64 x.Tok,I64 x.Shift,BB x.Accept,iR eI x.Prods]:=(inferInstance:Vws [I64 x.State,I64 x.Tok,I64 x.Shift,BB x.Accept,iR eI x.Prods] [I64 x.State,I64 x.Tok,I64 x.Shift,BB x.Accept,iR eI x.Prods])
def pf42 (a0:Cell):Option (Int) :=
 ((bif decide (0<=a0.Shift) then
 some (w64 ((a0.Prods.length:Int)+1))
 else
 some (a0.Prods.length:Int))).bind fun j1 =>
 ((bif a0.Accept then
 some (w64 (j1+1))
 else
 some j1)).bind fun j3 =>
 some j3
structure Look where
 State:Int
 Prod:Int
 Toks:(List Int)
 deriving DecidableEq,Inhabited
def eLook_0:En Look:=⟨3,fun x=>[I64 x.State,I64 x.Prod,iR eI x.Toks],fun _=>rfl,fun _=>NRl.nr⟩
instance:Flat eLook_0:=⟨fun _=>rfl⟩
instance:Tw eLook_0 eLook_0:=⟨rfl,fun x=>(inferInstance:Vws [I64 x.State,I64 x.Prod,iR eI x.Toks] [I64 x.State,I64 x.Prod,iR eI x.Toks])⟩
instance {x:Look}:Vws (eLook_0.cells x) [I64 x.State,I64 x.Prod,iR eI x.Toks]:=(inferInstance:Vws [I64 x.State,I64 x.Prod,iR eI x.Toks] [I64 x.State,I64 x.Prod,iR eI x.Toks])
def pf38 (a0:Grammar) (a1:(List State)) (a2:(List Look)):Option ((List Cell)) :=
 (loopM (R:=List Cell) (fun (s1:List Cell × Int) =>
 (bif decide (s1.2<(a1.length:Int)) then
 (loopM (R:=List Cell) (fun (s5:List Cell × Int) =>
 (bif decide (s5.2<(a0.Toks.length:Int)) then
 ((pf41 a1 s1.2 s5.2).bind fun x10 =>
 (loopM (R:=Bool) (fun (s11:Bool × Int) =>
 (idx a1 s1.2).bind fun x14 =>
 (bif decide (s11.2<(x14.Kernel.length:Int)) then
 (idx a1 s1.2).bind fun x16 =>
 (idx x16.Kernel s11.2).bind fun x17 =>
 ((bif s11.1 then some true else (bif decide (s5.2=0) then (bif decide (x17.Prod=0) then some (decide (x17.Dot=1)) else some false) else some false))).bind fun c21 =>
 some (.inl (c21,w64 (s11.2+1)))
 else
 some (.inr s11.1))) (false,0)).bind fun x12 =>
 (loopM (R:=List Int) (fun (s22:List Int × Int) =>
 (bif decide (s22.2<(a2.length:Int)) then
 ((((idx a2 s22.2).bind fun x27=>(bif decide (x27.State=s1.2) then ((idx a2 s22.2).bind fun x29=>((pf58 x29.Toks s5.2).bind fun x30=>some x30)) else some false))).bind fun c31 =>
 ((bif c31 then
 (idx a2 s22.2).bind fun x34 =>
 (pf59 s22.1 x34.Prod).bind fun x35 =>
 some x35
 else
 some s22.1)).bind fun j32 =>
 some j32).bind fun j26 =>
 some (.inl (j26,w64 (s22.2+1)))
 else
 some (.inr s22.1))) (([]:List Int),0)).bind fun x23 =>
 (pf42 (⟨s1.2,s5.2,x10,x12,x23⟩:Cell)).bind fun x36 =>
 ((bif decide (0<x36) then
 (appO s5.1 [(⟨s1.2,s5.2,x10,x12,x23⟩:Cell)]).bind fun x39 =>
 some (s5.1++[(⟨s1.2,s5.2,x10,x12,x23⟩:Cell)])
 else
 some s5.1)).bind fun j37 =>
 some j37).bind fun j9 =>
 some (.inl (j9,w64 (s5.2+1)))
 else
 some (.inr s5.1))) (s1.1,0)).bind fun x6 =>
 some (.inl (x6,w64 (s1.2+1)))
 else
 some (.inr s1.1))) (([]:List Cell),0)).bind fun x2 =>
 some x2
def pf85 (a0:(List (List Int))) (a1:(List (List Int))):Option ((List (List Int))) :=
 (loopM (R:=List (List Int)) (fun (s1:List (List Int) × Bool) =>
 (bif s1.2 then
 (loopM (R:=List (List Int) × Bool) (fun (s5:List (List Int) × Bool × Int) =>
 (bif decide (s5.2.2<(s5.1.length:Int)) then
 (idx a1 s5.2.2).bind fun x9 =>
 (idx s5.1 s5.2.2).bind fun x10 =>
 (loopM (R:=List (List Int)) (fun (s11:List (List Int) × Int) =>
 (bif decide (s11.2<(x9.length:Int)) then
 (loopM (R:=List (List Int)) (fun (s15:List (List Int) × Int) =>
 (idx x9 s11.2).bind fun x18 =>
 (idx s15.1 x18).bind fun x19 =>
 (bif decide (s15.2<(x19.length:Int)) then
 (idx s15.1 s5.2.2).bind fun x21 =>
 (idx x9 s11.2).bind fun x22 =>
 (idx s15.1 x22).bind fun x23 =>
 (idx x23 s15.2).bind fun x24 =>
 (pf59 x21 x24).bind fun x25 =>
 some (.inl (s15.1.set s5.2.2.toNat x25,w64 (s15.2+1)))
 else
 some (.inr s15.1))) (s11.1,0)).bind fun x16 =>
 some (.inl (x16,w64 (s11.2+1)))
 else
 some (.inr s11.1))) (s5.1,0)).bind fun x12 =>
 ((bif s5.2.1 then some true else ((idx x12 s5.2.2).bind fun x27=>some (!decide ((x27.length:Int)=(x10.length:Int)))))).bind fun c28 =>
 some (.inl (x12,c28,w64 (s5.2.2+1)))
 else
 some (.inr (s5.1,s5.2.1)))) (s1.1,false,0)).bind fun x6 =>
 some (.inl (x6.1,x6.2))
 else
 some (.inr s1.1))) (a0,true)).bind fun x2 =>
 some x2
structure Trans where
 State:Int
 Non:Int
 deriving DecidableEq,Inhabited
def eTrans:En Trans:=⟨2,fun x=>[I64 x.State,I64 x.Non],fun _=>rfl,fun _=>NRl.nr⟩
instance:Flat eTrans:=⟨fun _=>rfl⟩
instance:OOe eTrans:=⟨fun x=>(inferInstance:OOl [I64 x.State,I64 x.Non])⟩
instance:Tw eTrans eTrans:=⟨rfl,fun x=>(inferInstance:Vws [I64 x.State,I64 x.Non] [I64 x.State,I64 x.Non])⟩
def pf89 (a0:(List State)):Option ((List Trans)) :=
 (loopM (R:=List Trans) (fun (s1:List Trans × Int) =>
 (bif decide (s1.2<(a0.length:Int)) then
 (loopM (R:=List Trans) (fun (s5:List Trans × Int) =>
 (idx a0 s1.2).bind fun x8 =>
 (bif decide (s5.2<(x8.Moves.length:Int)) then
 ((idx a0 s1.2).bind fun x11 =>
 (idx x11.Moves s5.2).bind fun x12 =>
 ((bif decide (1000<=x12.Sym) then
 (idx a0 s1.2).bind fun x15 =>
 (idx x15.Moves s5.2).bind fun x16 =>
 (appO s5.1 [(⟨s1.2,x16.Sym⟩:Trans)]).bind fun x17 =>
 some (s5.1++[(⟨s1.2,x16.Sym⟩:Trans)])
 else
 some s5.1)).bind fun j13 =>
 some j13).bind fun j10 =>
 some (.inl (j10,w64 (s5.2+1)))
 else
 some (.inr s5.1))) (s1.1,0)).bind fun x6 =>
 some (.inl (x6,w64 (s1.2+1)))
 else
 some (.inr s1.1))) (([]:List Trans),0)).bind fun x2 =>
 some x2
def pf118 (a0:(List Item)):Option (Bool) :=
 (loopM (R:=(Unit) ⊕ (Bool)) (fun (s1:Int) =>
 (bif decide (s1<(a0.length:Int)) then
 (((idx a0 s1).bind fun x6=>(bif decide (x6.Prod=0) then ((idx a0 s1).bind fun x8=>some (decide (x8.Dot=1))) else some false))).bind fun c9 =>
 (bif c9 then
 some (.inr (.inr true))
 else
 some (.inl (w64 (s1+1))))
 else
 some (.inr (.inl ())))) 0).bind fun x2 =>
 (match x2 with
 | .inl x3 =>
 some false
 | .inr x4 =>
 some x4)
def pf86 (a0:(List State)):Option ((List (List Int))) :=
 (pf89 a0).bind fun x1 =>
 (loopM (R:=List (List Int)) (fun (s2:List (List Int) × Int) =>
 (bif decide (s2.2<(x1.length:Int)) then
 (idx x1 s2.2).bind fun x6 =>
 (idx x1 s2.2).bind fun x7 =>
 (pf41 a0 x6.State x7.Non).bind fun x8 =>
 (idx a0 x8).bind fun x9 =>
 (pf118 x9.Kernel).bind fun x10 =>
 ((bif x10 then
 (appO ([]:List Int) [0]).bind fun x13 =>
 some [0]
 else
 some ([]:List Int))).bind fun j11 =>
 (loopM (R:=List Int) (fun (s14:List Int × Int) =>
 (idx a0 x8).bind fun x17 =>
 (bif decide (s14.2<(x17.Moves.length:Int)) then
 ((idx a0 x8).bind fun x20 =>
 (idx x20.Moves s14.2).bind fun x21 =>
 ((bif decide (x21.Sym<1000) then
 (idx a0 x8).bind fun x24 =>
 (idx x24.Moves s14.2).bind fun x25 =>
 (pf59 s14.1 x25.Sym).bind fun x26 =>
 some x26
 else
 some s14.1)).bind fun j22 =>
 some j22).bind fun j19 =>
 some (.inl (j19,w64 (s14.2+1)))
 else
 some (.inr s14.1))) (j11,0)).bind fun x15 =>
 (appO s2.1 [x15]).bind fun x27 =>
 some (.inl (s2.1++[x15],w64 (s2.2+1)))
 else
 some (.inr s2.1))) (([]:List (List Int)),0)).bind fun x3 =>
 some x3
def pf121 (a0:(List Bool)) (a1:(List Int)):Option (Bool) :=
 (loopM (R:=(Unit) ⊕ (Bool)) (fun (s1:Int) =>
 (bif decide (s1<(a1.length:Int)) then
 (((idx a1 s1).bind fun x6=>(bif decide (x6<1000) then some true else ((idx a1 s1).bind fun x8=>((idx a0 (w64 (x8 - 1000))).bind fun x9=>some (!x9)))))).bind fun c10 =>
 (bif c10 then
 some (.inr (.inr false))
 else
 some (.inl (w64 (s1+1))))
 else
 some (.inr (.inl ())))) 0).bind fun x2 =>
 (match x2 with
 | .inl x3 =>
 some true
 | .inr x4 =>
 some x4)
def pf119 (a0:Grammar):Option ((List Bool)) :=
 (mkO (a0.Nons.length:Int) false).bind fun x1 =>
 (loopM (R:=List Bool) (fun (s2:List Bool × Bool) =>
 (bif s2.2 then
 (loopM (R:=List Bool × Bool) (fun (s6:List Bool × Bool × Int) =>
 (bif decide (s6.2.2<(a0.Prods.length:Int)) then
 ((idx a0.Prods s6.2.2).bind fun x11 =>
 (((idx s6.1 x11.Left).bind fun x12=>(bif !x12 then ((pf121 s6.1 x11.Right).bind fun x14=>some x14) else some false))).bind fun c15 =>
 ((bif c15 then
 (idx s6.1 x11.Left).bind fun x18 =>
 some (s6.1.set x11.Left.toNat true,true)
 else
 some (s6.1,s6.2.1))).bind fun j16 =>
 some (j16.1,j16.2)).bind fun j10 =>
 some (.inl (j10.1,j10.2,w64 (s6.2.2+1)))
 else
 some (.inr (s6.1,s6.2.1)))) (s2.1,false,0)).bind fun x7 =>
 some (.inl (x7.1,x7.2))
 else
 some (.inr s2.1))) (x1,true)).bind fun x3 =>
 some x3
def pf120 (a0:(List Trans)) (a1:Int) (a2:Int):Option (Int) :=
 (loopM (R:=(Unit) ⊕ (Int)) (fun (s1:Int) =>
 (bif decide (s1<(a0.length:Int)) then
 (((idx a0 s1).bind fun x6=>(bif decide (x6.State=a1) then ((idx a0 s1).bind fun x8=>some (decide (x8.Non=a2))) else some false))).bind fun c9 =>
 (bif c9 then
 some (.inr (.inr s1))
 else
 some (.inl (w64 (s1+1))))
 else
 some (.inr (.inl ())))) 0).bind fun x2 =>
 (match x2 with
 | .inl x3 =>
 some (-1)
 | .inr x4 =>
 some x4)
def pf87 (a0:Grammar) (a1:(List State)):Option ((List (List Int))) :=
 (pf89 a1).bind fun x1 =>
 (pf119 a0).bind fun x2 =>
 (loopM (R:=List (List Int)) (fun (s3:List (List Int) × Int) =>
 (bif decide (s3.2<(x1.length:Int)) then
 (idx x1 s3.2).bind fun x7 =>
 (idx x1 s3.2).bind fun x8 =>
 (pf41 a1 x7.State x8.Non).bind fun x9 =>
 (loopM (R:=List Int) (fun (s10:List Int × Int) =>
 (idx a1 x9).bind fun x13 =>
 (bif decide (s10.2<(x13.Moves.length:Int)) then
 ((idx a1 x9).bind fun x16 =>
 (idx x16.Moves s10.2).bind fun x17 =>
 ((bif decide (1000<=x17.Sym) then ((idx x2 (w64 (x17.Sym - 1000))).bind fun x19=>some x19) else some false)).bind fun c20 =>
 ((bif c20 then
 (pf120 x1 x9 x17.Sym).bind fun x23 =>
 (pf59 s10.1 x23).bind fun x24 =>
 some x24
 else
 some s10.1)).bind fun j21 =>
 some j21).bind fun j15 =>
 some (.inl (j15,w64 (s10.2+1)))
 else
 some (.inr s10.1))) (([]:List Int),0)).bind fun x11 =>
 (appO s3.1 [x11]).bind fun x25 =>
 some (.inl (s3.1++[x11],w64 (s3.2+1)))
 else
 some (.inr s3.1))) (([]:List (List Int)),0)).bind fun x4 =>
 some x4
def pf90 (a0:(List State)) (a1:Int) (a2:(List Int)):Option (Int) :=
 (loopM (R:=Int) (fun (s1:Int × Int) =>
 ((bif decide (s1.2<(a2.length:Int)) then some (decide (0<=s1.1)) else some false)).bind fun c5 =>
 (bif c5 then
 (idx a2 s1.2).bind fun x7 =>
 (pf41 a0 s1.1 x7).bind fun x8 =>
 some (.inl (x8,w64 (s1.2+1)))
 else
 some (.inr s1.1))) (a1,0)).bind fun x2 =>
 some x2
def pf88 (a0:Grammar) (a1:(List State)):Option ((List (List Int))) :=
 (pf89 a1).bind fun x1 =>
 (pf119 a0).bind fun x2 =>
 (mkO (x1.length:Int) ([]:List Int)).bind fun x3 =>
 (loopM (R:=List (List Int)) (fun (s4:List (List Int) × Int) =>
 (bif decide (s4.2<(x1.length:Int)) then
 (loopM (R:=List (List Int)) (fun (s8:List (List Int) × Int) =>
 (bif decide (s8.2<(a0.Prods.length:Int)) then
 ((idx a0.Prods s8.2).bind fun x13 =>
 (idx a0.Prods s8.2).bind fun x14 =>
 (idx x1 s4.2).bind fun x15 =>
 (bif !decide (w64 (1000+x14.Left)=x15.Non) then
 some s8.1
 else
 (loopM (R:=List (List Int)) (fun (s17:List (List Int) × Int) =>
 (bif decide (s17.2<(x13.Right.length:Int)) then
 ((((idx x13.Right s17.2).bind fun x22=>(bif decide (x22<1000) then some true else ((subO x13.Right (w64 (s17.2+1)) x13.Right.length).bind fun x24=>((pf121 x2 x24).bind fun x25=>some (!x25)))))).bind fun c26 =>
 (bif c26 then
 some s17.1
 else
 (idx x1 s4.2).bind fun x28 =>
 (subO x13.Right 0 s17.2).bind fun x29 =>
 (pf90 a1 x28.State x29).bind fun x30 =>
 ((bif decide (0<=x30) then
 (idx x13.Right s17.2).bind fun x33 =>
 (pf120 x1 x30 x33).bind fun x34 =>
 ((bif decide (0<=x34) then
 (idx s17.1 x34).bind fun x37 =>
 (pf59 x37 s4.2).bind fun x38 =>
 some (s17.1.set x34.toNat x38)
 else
 some s17.1)).bind fun j35 =>
 some j35
 else
 some s17.1)).bind fun j31 =>
 some j31)).bind fun j21 =>
 some (.inl (j21,w64 (s17.2+1)))
 else
 some (.inr s17.1))) (s8.1,0)).bind fun x18 =>
 some x18)).bind fun j12 =>
 some (.inl (j12,w64 (s8.2+1)))
 else
 some (.inr s8.1))) (s4.1,0)).bind fun x9 =>
 some (.inl (x9,w64 (s4.2+1)))
 else
 some (.inr s4.1))) (x3,0)).bind fun x5 =>
 some x5
def pf60 (a0:Grammar) (a1:(List State)):Option ((List (List Int))) :=
 (pf86 a1).bind fun x1 =>
 (pf87 a0 a1).bind fun x2 =>
 (pf85 x1 x2).bind fun x3 =>
 (pf88 a0 a1).bind fun x4 =>
 (pf85 x3 x4).bind fun x5 =>
 some x5
def pf61 (a0:Grammar) (a1:(List Item)):Option ((List Int)) :=
 (pf81 a0 a1).bind fun x1 =>
 (loopM (R:=List Int) (fun (s2:List Int × Int) =>
 (bif decide (s2.2<(x1.length:Int)) then
 ((((idx x1 s2.2).bind fun x7=>(bif decide (0<x7.Prod) then ((idx x1 s2.2).bind fun x9=>((idx x1 s2.2).bind fun x10=>((idx a0.Prods x10.Prod).bind fun x11=>some (decide (x9.Dot=(x11.Right.length:Int)))))) else some false))).bind fun c12 =>
 ((bif c12 then
 (idx x1 s2.2).bind fun x15 =>
 (appO s2.1 [x15.Prod]).bind fun x16 =>
 some (s2.1++[x15.Prod])
 else
 some s2.1)).bind fun j13 =>
 some j13).bind fun j6 =>
 some (.inl (j6,w64 (s2.2+1)))
 else
 some (.inr s2.1))) (([]:List Int),0)).bind fun x3 =>
 some x3
def pf62 (a0:Grammar) (a1:(List State)) (a2:Int) (a3:Int):Option ((List Int)) :=
 ((bif decide (a2<0) then some true else (bif decide ((a1.length:Int)<=a2) then some true else (bif decide (a3<1) then some true else some (decide ((a0.Prods.length:Int)<=a3)))))).bind fun c4 =>
 (bif c4 then
 some ([]:List Int)
 else
 (pf89 a1).bind fun x6 =>
 (loopM (R:=List Int) (fun (s7:List Int × Int) =>
 (bif decide (s7.2<(x6.length:Int)) then
 ((((idx x6 s7.2).bind fun x12=>((idx a0.Prods a3).bind fun x13=>(bif decide (x12.Non=w64 (1000+x13.Left)) then ((idx x6 s7.2).bind fun x15=>((idx a0.Prods a3).bind fun x16=>((pf90 a1 x15.State x16.Right).bind fun x17=>some (decide (x17=a2))))) else some false)))).bind fun c18 =>
 ((bif c18 then
 (appO s7.1 [s7.2]).bind fun x21 =>
 some (s7.1++[s7.2])
 else
 some s7.1)).bind fun j19 =>
 some j19).bind fun j11 =>
 some (.inl (j11,w64 (s7.2+1)))
 else
 some (.inr s7.1))) (([]:List Int),0)).bind fun x8 =>
 some x8)
def pf39 (a0:Grammar) (a1:(List State)):Option ((List Look)) :=
 (pf60 a0 a1).bind fun x1 =>
 (loopM (R:=List Look) (fun (s2:List Look × Int) =>
 (bif decide (s2.2<(a1.length:Int)) then
 (idx a1 s2.2).bind fun x6 =>
 (pf61 a0 x6.Kernel).bind fun x7 =>
 (loopM (R:=List Look) (fun (s8:List Look × Int) =>
 (bif decide (s8.2<(x7.length:Int)) then
 (idx x7 s8.2).bind fun x12 =>
 (idx x7 s8.2).bind fun x13 =>
 (pf62 a0 a1 s2.2 x13).bind fun x14 =>
 (loopM (R:=List Int) (fun (s15:List Int × Int) =>
 (bif decide (s15.2<(x14.length:Int)) then
 (loopM (R:=List Int) (fun (s19:List Int × Int) =>
 (idx x14 s15.2).bind fun x22 =>
 (idx x1 x22).bind fun x23 =>
 (bif decide (s19.2<(x23.length:Int)) then
 (idx x14 s15.2).bind fun x25 =>
 (idx x1 x25).bind fun x26 =>
 (idx x26 s19.2).bind fun x27 =>
 (pf59 s19.1 x27).bind fun x28 =>
 some (.inl (x28,w64 (s19.2+1)))
 else
 some (.inr s19.1))) (s15.1,0)).bind fun x20 =>
 some (.inl (x20,w64 (s15.2+1)))
 else
 some (.inr s15.1))) (([]:List Int),0)).bind fun x16 =>
 (appO s8.1 [(⟨s2.2,x12,x16⟩:Look)]).bind fun x29 =>
 some (.inl (s8.1++[(⟨s2.2,x12,x16⟩:Look)],w64 (s8.2+1)))
 else
 some (.inr s8.1))) (s2.1,0)).bind fun x9 =>
 some (.inl (x9,w64 (s2.2+1)))
 else
 some (.inr s2.1))) (([]:List Look),0)).bind fun x3 =>
 some x3
def pf20 (a0:Source):Option (Grammar × (List State) × (List Cell) × Bool) :=
 (pf37 a0).bind fun x1 =>
 (bif !x1.2.2 then
 some (x1.1,([]:List State),([]:List Cell),false)
 else
 (pf39 x1.1 x1.2.1).bind fun x3 =>
 (pf38 x1.1 x1.2.1 x3).bind fun x4 =>
 some (x1.1,x1.2.1,x4,true))
def pf91 (a0:Grammar) (a1:Int):Option (Int × Int) :=
 ((bif decide (a1<0) then some true else (bif decide ((a0.Prods.length:Int)<=a1) then some true else ((idx a0.Prods a1).bind fun x3=>some (decide (x3.Prec<0)))))).bind fun c4 =>
 (bif c4 then
 some (0,0)
 else
 (idx a0.Prods a1).bind fun x6 =>
 (idx a0.Toks x6.Prec).bind fun x7 =>
 some (x7.Level,x7.Assoc))
def pf63 (a0:Grammar) (a1:Int) (a2:Int):Option (Int) :=
 (pf91 a0 a1).bind fun x1 =>
 ((bif decide (x1.1=0) then some true else (bif decide (a2<0) then some true else (bif decide ((a0.Toks.length:Int)<=a2) then some true else ((idx a0.Toks a2).bind fun x5=>some (decide (x5.Level=0))))))).bind fun c6 =>
 (bif c6 then
 some 0
 else
 (idx a0.Toks a2).bind fun x8 =>
 (bif decide (x1.1<x8.Level) then
 some 1
 else
 (bif decide (x8.Level<x1.1) then
 some 2
 else
 (bif decide (x8.Assoc=1) then
 some 2
 else
 (bif decide (x8.Assoc=2) then
 some 1
 else
 some 3)))))
structure Clash where
 State:Int
 Tok:Int
 Keep:Int
 Drop:Int
 deriving DecidableEq,Inhabited
structure Act where
 Kind:Int
 N:Int
 deriving DecidableEq,Inhabited
def eClash:En Clash:=⟨4,fun x=>[I64 x.State,I64 x.Tok,I64 x.Keep,I64 x.Drop],fun _=>rfl,fun _=>NRl.nr⟩
instance:Flat eClash:=⟨fun _=>rfl⟩
instance:OOe eClash:=⟨fun x=>(inferInstance:OOl [I64 x.State,I64 x.Tok,I64 x.Keep,I64 x.Drop])⟩
instance:Tw eClash eClash:=⟨rfl,fun x=>(inferInstance:Vws [I64 x.State,I64 x.Tok,I64 x.Keep,I64 x.Drop] [I64 x.State,I64 x.Tok,I64 x.Keep,I64 x.Drop])⟩
instance {x:Clash}:Vws (eClash.cells x) [I64 x.State,I64 x.Tok,I64 x.Keep,I64 x.Drop]:=(inferInstance:Vws [I64 x.State,I64 x.Tok,I64 x.Keep,I64 x.Drop] [I64 x.State,I64 x.Tok,I64 x.Keep,I64 x.Drop])
def pf40 (a0:Grammar) (a1:Cell):Option (Act × (List Clash)) :=
 (loopM (R:=List Clash) (fun (s1:List Clash × Int) =>
 (bif decide (s1.2<(a1.Prods.length:Int)) then
 (idx a1.Prods 0).bind fun x5 =>
 (idx a1.Prods s1.2).bind fun x6 =>
 (appO s1.1 [(⟨a1.State,a1.Tok,x5,x6⟩:Clash)]).bind fun x7 =>
 some (.inl (s1.1++[(⟨a1.State,a1.Tok,x5,x6⟩:Clash)],w64 (s1.2+1)))
 else
 some (.inr s1.1))) (([]:List Clash),1)).bind fun x2 =>
 ((bif a1.Accept then
 some (3,0)
 else
 some (1,a1.Shift))).bind fun j8 =>
 (bif decide ((a1.Prods.length:Int)=0) then
 some ((⟨j8.1,j8.2⟩:Act),x2)
 else
 (idx a1.Prods 0).bind fun x11 =>
 ((bif decide (a1.Shift<0) then some (!a1.Accept) else some false)).bind fun c13 =>
 (bif c13 then
 some ((⟨2,x11⟩:Act),x2)
 else
 (pf63 a0 x11 a1.Tok).bind fun x15 =>
 ((bif a1.Accept then some true else some (decide (x15=0)))).bind fun c17 =>
 (bif c17 then
 (appO x2 [(⟨a1.State,a1.Tok,(-1),x11⟩:Clash)]).bind fun x19 =>
 some ((⟨j8.1,j8.2⟩:Act),x2++[(⟨a1.State,a1.Tok,(-1),x11⟩:Clash)])
 else
 (bif decide (x15=2) then
 some ((⟨2,x11⟩:Act),x2)
 else
 (bif decide (x15=3) then
 some ((⟨4,0⟩:Act),x2)
 else
 some ((⟨j8.1,j8.2⟩:Act),x2))))))
structure Dense where
 Acts:(List (List Act))
 Gotos:(List (List Int))
 deriving DecidableEq,Inhabited
def eAct:En Act:=⟨2,fun x=>[I64 x.Kind,I64 x.N],fun _=>rfl,fun _=>NRl.nr⟩
instance:Flat eAct:=⟨fun _=>rfl⟩
instance:OOe eAct:=⟨fun x=>(inferInstance:OOl [I64 x.Kind,I64 x.N])⟩
instance:Tw eAct eAct:=⟨rfl,fun x=>(inferInstance:Vws [I64 x.Kind,I64 x.N] [I64 x.Kind,I64 x.N])⟩
def pf21 (a0:Grammar) (a1:(List State)) (a2:(List Cell)):Option (Dense × (List Clash)) :=
 (loopM (R:=List (List Act) × List (List Int) × List Clash) (fun (s1:List (List Act) × List (List Int) × List Clash × Int) =>
 (bif decide (s1.2.2.2<(a1.length:Int)) then
 (mkO (a0.Toks.length:Int) (⟨0,0⟩:Act)).bind fun x5 =>
 (loopM (R:=List Clash × List Act) (fun (s6:List Clash × List Act × Int) =>
 (bif decide (s6.2.2<(a2.length:Int)) then
 ((idx a2 s6.2.2).bind fun x11 =>
 ((bif decide (x11.State=s1.2.2.2) then
 (idx a2 s6.2.2).bind fun x14 =>
 (pf40 a0 x14).bind fun x15 =>
 (idx a2 s6.2.2).bind fun x16 =>
 (idx s6.2.1 x16.Tok).bind fun x17 =>
 (appO s6.1 x15.2).bind fun x18 =>
 some (s6.1++x15.2,s6.2.1.set x16.Tok.toNat x15.1)
 else
 some (s6.1,s6.2.1))).bind fun j12 =>
 some (j12.1,j12.2)).bind fun j10 =>
 some (.inl (j10.1,j10.2,w64 (s6.2.2+1)))
 else
 some (.inr (s6.1,s6.2.1)))) (s1.2.2.1,x5,0)).bind fun x7 =>
 (mkO (a0.Nons.length:Int) 0).bind fun x19 =>
 (loopM (R:=List Int) (fun (s20:List Int × Int) =>
 (bif decide (s20.2<(s20.1.length:Int)) then
 (pf41 a1 s1.2.2.2 (w64 (1000+s20.2))).bind fun x24 =>
 (idx s20.1 s20.2).bind fun x25 =>
 some (.inl (s20.1.set s20.2.toNat x24,w64 (s20.2+1)))
 else
 some (.inr s20.1))) (x19,0)).bind fun x21 =>
 (appO s1.1 [x7.2]).bind fun x26 =>
 (appO s1.2.1 [x21]).bind fun x27 =>
 some (.inl (s1.1++[x7.2],s1.2.1++[x21],x7.1,w64 (s1.2.2.2+1)))
 else
 some (.inr (s1.1,s1.2.1,s1.2.2.1)))) (([]:List (List Act)),([]:List (List Int)),([]:List Clash),0)).bind fun x2 =>
 some ((⟨x2.1,x2.2.1⟩:Dense),x2.2.2)
def pf22 (a0:(List Cell)):Option (Int) :=
 (loopM (R:=Int) (fun (s1:Int × Int) =>
 (bif decide (s1.2<(a0.length:Int)) then
 ((idx a0 s1.2).bind fun x6 =>
 (pf42 x6).bind fun x7 =>
 ((bif decide (1<x7) then
 some (w64 (s1.1+1))
 else
 some s1.1)).bind fun j8 =>
 some j8).bind fun j5 =>
 some (.inl (j5,w64 (s1.2+1)))
 else
 some (.inr s1.1))) (0,0)).bind fun x2 =>
 some x2
def pf13 (a0:Source):Option (Grammar × Dense × Int × Bool) :=
 (pf20 a0).bind fun x1 =>
 (bif !x1.2.2.2 then
 some (x1.1,(⟨([]:List (List Act)),([]:List (List Int))⟩:Dense),0,false)
 else
 (pf21 x1.1 x1.2.1 x1.2.2.1).bind fun x3 =>
 (pf22 x1.2.2.1).bind fun x4 =>
 some (x1.1,x3.1,x4,true))
def pf5 :Option (Grammar × Dense × Bool) :=
 (pf11 ({ data:=#[115] })).bind fun x1 =>
 (pf11 ({ data:=#[108] })).bind fun x2 =>
 (pf12 ({ data:=#[120] })).bind fun x3 =>
 (pf12 ({ data:=#[59] })).bind fun x4 =>
 (pf11 ({ data:=#[101,114,114,111,114] })).bind fun x5 =>
 (pf12 ({ data:=#[59] })).bind fun x6 =>
 (pf13 (⟨{ data:=#[] },([]:List Decl),[(⟨{ data:=#[115] },[(⟨([]:List Part),(⟨{ data:=#[] },false,0,0⟩:Sym),0⟩:Alt),(⟨[x1,x2],(⟨{ data:=#[] },false,0,0⟩:Sym),0⟩:Alt)],0⟩:Rule),(⟨{ data:=#[108] },[(⟨[x3,x4],(⟨{ data:=#[] },false,0,0⟩:Sym),0⟩:Alt),(⟨[x5,x6],(⟨{ data:=#[] },false,0,0⟩:Sym),0⟩:Alt)],0⟩:Rule)],{ data:=#[] }⟩:Source)).bind fun x7 =>
 some (x7.1,x7.2.1,x7.2.2.2)
structure Pair where
 At:Int
 Val:Int
 deriving DecidableEq,Inhabited
def ePair:En Pair:=⟨2,fun x=>[I64 x.At,I64 x.Val],fun _=>rfl,fun _=>NRl.nr⟩
instance:Flat ePair:=⟨fun _=>rfl⟩
instance:OOe ePair:=⟨fun x=>(inferInstance:OOl [I64 x.At,I64 x.Val])⟩
instance:Tw ePair ePair:=⟨rfl,fun x=>(inferInstance:Vws [I64 x.At,I64 x.Val] [I64 x.At,I64 x.Val])⟩
def pf43 (a0:Int):Option (Bool) :=
 some (!decide (a0=a0))
def pf25 (a0:Int) (a1:Int):Option (Int) :=
 (pf43 a0).bind fun x1 =>
 (pf43 a1).bind fun x2 =>
 (bif x1 then
 (bif x2 then
 some 0
 else
 some (-1))
 else
 (bif x2 then
 some 1
 else
 (bif decide (a0<a1) then
 some (-1)
 else
 (bif decide (a1<a0) then
 some 1
 else
 some 0))))
def pf24 (a0:Pair) (a1:Int):Option (Int) :=
 (pf25 a0.At a1).bind fun x1 =>
 some x1
def pf23_24 (a0:(List Pair)) (a1:Int):Option (Int × Bool) :=
 (loopM (R:=Int) (fun (s1:Int × Int) =>
 (bif decide (s1.1<s1.2) then
 ((idx a0 (w64 (shrK .u64 (IntKind.u64.wrap (w64 (s1.1+s1.2))) 1))).bind fun x6 =>
 (pf24 x6 a1).bind fun x7 =>
 ((bif decide (x7<0) then
 some (w64 ((w64 (shrK .u64 (IntKind.u64.wrap (w64 (s1.1+s1.2))) 1))+1),s1.2)
 else
 some (s1.1,w64 (shrK .u64 (IntKind.u64.wrap (w64 (s1.1+s1.2))) 1)))).bind fun j8 =>
 some (j8.1,j8.2)).bind fun j5 =>
 some (.inl (j5.1,j5.2))
 else
 some (.inr s1.1))) (0,(a0.length:Int))).bind fun x2 =>
 ((bif decide (x2<(a0.length:Int)) then ((idx a0 x2).bind fun x11=>((pf24 x11 a1).bind fun x12=>some (x2,decide (x12=0)))) else some (x2,false))).bind fun c13 =>
 some (c13.1,c13.2)
def pf14 (a0:(List Pair)) (a1:Int):Option (Int) :=
 (bif decide (a1<=0) then
 some 0
 else
 (pf23_24 a0 a1).bind fun x2 =>
 (bif !x2.2 then
 some 2
 else
 (idx a0 x2.1).bind fun x4 =>
 some x4.Val))
structure Comb where
 Base:(List Int)
 Val:(List Int)
 Chk:(List Int)
 deriving DecidableEq,Inhabited
def eComb_0:En Comb:=⟨3,fun x=>[iR eI x.Base,iR eI x.Val,iR eI x.Chk],fun _=>rfl,fun _=>NRl.nr⟩
instance:Flat eComb_0:=⟨fun _=>rfl⟩
instance:Tw eComb_0 eComb_0:=⟨rfl,fun x=>(inferInstance:Vws [iR eI x.Base,iR eI x.Val,iR eI x.Chk] [iR eI x.Base,iR eI x.Val,iR eI x.Chk])⟩
instance {x:Comb}:Vws (eComb_0.cells x) [iR eI x.Base,iR eI x.Val,iR eI x.Chk]:=(inferInstance:Vws [iR eI x.Base,iR eI x.Val,iR eI x.Chk] [iR eI x.Base,iR eI x.Val,iR eI x.Chk])
def pf64 (a0:Comb) (a1:Int) (a2:Int):Option (Int × Bool) :=
 ((bif decide (a1<0) then some true else (bif decide ((a0.Base.length:Int)<=a1) then some true else (bif decide (a2<0) then some true else some (decide ((a0.Chk.length:Int)<=a2)))))).bind fun c4 =>
 (bif c4 then
 some (0,false)
 else
 (idx a0.Base a1).bind fun x6 =>
 ((bif decide ((a0.Chk.length:Int)<=w64 (x6+a2)) then some true else ((idx a0.Chk (w64 (x6+a2))).bind fun x8=>some (!decide (x8=w64 (a1+1)))))).bind fun c9 =>
 (bif c9 then
 some (0,false)
 else
 (idx a0.Val (w64 (x6+a2))).bind fun x11 =>
 some (x11,true)))
def pf65 (a0:Int):Option (Act) :=
 ((bif decide (0<a0) then some (decide (a0<=20000)) else some false)).bind fun c2 =>
 (bif c2 then
 some (⟨1,w64 (a0 - 1)⟩:Act)
 else
 ((bif decide (a0<0) then some (decide ((-20000)<a0)) else some false)).bind fun c5 =>
 (bif c5 then
 some (⟨2,w64 (-a0)⟩:Act)
 else
 (bif decide (a0=20001) then
 some (⟨3,0⟩:Act)
 else
 (bif decide (a0=20002) then
 some (⟨4,0⟩:Act)
 else
 some (⟨0,0⟩:Act)))))
structure Tables where
 Def:(List Int)
 Acts:Comb
 GoDef:(List Int)
 Gos:Comb
 Left:(List Int)
 Len:(List Int)
 Nums:(List Pair)
 deriving DecidableEq,Inhabited
def eTables_0:En Tables:=⟨11,fun x=>[iR eI x.Def,iR eI x.Acts.Base,iR eI x.Acts.Val,iR eI x.Acts.Chk,iR eI x.GoDef,iR eI x.Gos.Base,iR eI x.Gos.Val,iR eI x.Gos.Chk,iR eI x.Left,iR eI x.Len,iR ePair x.Nums],fun _=>rfl,fun _=>NRl.nr⟩
instance:Flat eTables_0:=⟨fun _=>rfl⟩
instance:Tw eTables_0 eTables_0:=⟨rfl,fun x=>(inferInstance:Vws [iR eI x.Def,iR eI x.Acts.Base,iR eI x.Acts.Val,iR eI x.Acts.Chk,iR eI x.GoDef,iR eI x.Gos.Base,iR eI x.Gos.Val,iR eI x.Gos.Chk,iR eI x.Left,iR eI x.Len,iR ePair x.Nums] [iR eI x.Def,iR eI x.Acts.Base,iR eI x.Acts.Val,iR eI x.Acts.Chk,iR eI x.GoDef,iR eI x.Gos.Base,iR eI x.Gos.Val,iR eI x.Gos.Chk,iR eI x.Left,iR eI x.Len,iR ePair x.Nums])⟩
instance {x:Tables}:Vws (eTables_0.cells x) [iR eI x.Def,iR eI x.Acts.Base,iR eI x.Acts.Val,iR eI x.Acts.Chk,iR eI x.GoDef,iR eI x.Gos.Base,iR eI x.Gos.Val,iR eI x.Gos.Chk,iR eI x.Left,iR eI x.Len,iR ePair x.Nums]:=(inferInstance:Vws [iR eI x.Def,iR eI x.Acts.Base,iR eI x.Acts.Val,iR eI x.Acts.Chk,iR eI x.GoDef,iR eI x.Gos.Base,iR eI x.Gos.Val,iR eI x.Gos.Chk,iR eI x.Left,iR eI x.Len,iR ePair x.Nums] [iR eI x.Def,iR eI x.Acts.Base,iR eI x.Acts.Val,iR eI x.Acts.Chk,iR eI x.GoDef,iR eI x.Gos.Base,iR eI x.Gos.Val,iR eI x.Gos.Chk,iR eI x.Left,iR eI x.Len,iR ePair x.Nums])
def pf44 (a0:Tables) (a1:Int) (a2:Int):Option (Act) :=
 (pf64 a0.Acts a1 a2).bind fun x1 =>
 (bif x1.2 then
 (pf65 x1.1).bind fun x3 =>
 some x3
 else
 ((bif decide (a1<0) then some true else (bif decide ((a0.Def.length:Int)<=a1) then some true else ((idx a0.Def a1).bind fun x6=>some (decide (x6<0)))))).bind fun c7 =>
 (bif c7 then
 some (⟨0,0⟩:Act)
 else
 (idx a0.Def a1).bind fun x9 =>
 some (⟨2,x9⟩:Act)))
structure Node where
 Sym:Int
 Prod:Int
 At:Int
 Kids:Ri
 deriving Inhabited
structure Upset where
 At:Int
 Told:Bool
 deriving DecidableEq,Inhabited
structure Parse where
 Kind:Int
 At:Int
 Steps:Int
 Deep:Int
 Prods:(List Int)
 Upsets:(List Upset)
 Lost:(List Int)
 Tree:Node
 deriving Inhabited
structure drive_driver where
 f_t:Tables
 f_toks:(List Int)
 f_depth:Int
 f_steps:Int
 f_stack:(List Int)
 f_nodes:(List Node)
 f_flag:Int
 f_p:Parse
 deriving Inhabited
def eNode:En Node:=⟨4,fun x=>[I64 x.Sym,I64 x.Prod,I64 x.At,rI 4 x.Kids],fun _=>rfl,fun _=>NRl.nr⟩
instance:Flat eNode:=⟨fun _=>rfl⟩
instance:Tw eNode eNode:=⟨rfl,fun x=>(inferInstance:Vws [I64 x.Sym,I64 x.Prod,I64 x.At,rI 4 x.Kids] [I64 x.Sym,I64 x.Prod,I64 x.At,rI 4 x.Kids])⟩
instance {x:Node}:Vws (eNode.cells x) [I64 x.Sym,I64 x.Prod,I64 x.At,rI 4 x.Kids]:=(inferInstance:Vws [I64 x.Sym,I64 x.Prod,I64 x.At,rI 4 x.Kids] [I64 x.Sym,I64 x.Prod,I64 x.At,rI 4 x.Kids])
def eUpset:En Upset:=⟨2,fun x=>[I64 x.At,BB x.Told],fun _=>rfl,fun _=>NRl.nr⟩
instance:Flat eUpset:=⟨fun _=>rfl⟩
instance:OOe eUpset:=⟨fun x=>(inferInstance:OOl [I64 x.At,BB x.Told])⟩
instance:Tw eUpset eUpset:=⟨rfl,fun x=>(inferInstance:Vws [I64 x.At,BB x.Told] [I64 x.At,BB x.Told])⟩
def eParse_0:En Parse:=⟨11,fun x=>[I64 x.Kind,I64 x.At,I64 x.Steps,I64 x.Deep,iR eI x.Prods,iR eUpset x.Upsets,iR eI x.Lost,I64 x.Tree.Sym,I64 x.Tree.Prod,I64 x.Tree.At,rI 4 x.Tree.Kids],fun _=>rfl,fun _=>NRl.nr⟩
instance:Flat eParse_0:=⟨fun _=>rfl⟩
instance:Tw eParse_0 eParse_0:=⟨rfl,fun x=>(inferInstance:Vws [I64 x.Kind,I64 x.At,I64 x.Steps,I64 x.Deep,iR eI x.Prods,iR eUpset x.Upsets,iR eI x.Lost,I64 x.Tree.Sym,I64 x.Tree.Prod,I64 x.Tree.At,rI 4 x.Tree.Kids] [I64 x.Kind,I64 x.At,I64 x.Steps,I64 x.Deep,iR eI x.Prods,iR eUpset x.Upsets,iR eI x.Lost,I64 x.Tree.Sym,I64 x.Tree.Prod,I64 x.Tree.At,rI 4 x.Tree.Kids])⟩
instance {x:Parse}:Vws (eParse_0.cells x) [I64 x.Kind,I64 x.At,I64 x.Steps,I64 x.Deep,iR eI x.Prods,iR eUpset x.Upsets,iR eI x.Lost,I64 x.Tree.Sym,I64 x.Tree.Prod,I64 x.Tree.At,rI 4 x.Tree.Kids]:=(inferInstance:Vws [I64 x.Kind,I64 x.At,I64 x.Steps,I64 x.Deep,iR eI x.Prods,iR eUpset x.Upsets,iR eI x.Lost,I64 x.Tree.Sym,I64 x.Tree.Prod,I64 x.Tree.At,rI 4 x.Tree.Kids] [I64 x.Kind,I64 x.At,I64 x.Steps,I64 x.Deep,iR eI x.Prods,iR eUpset x.Upsets,iR eI x.Lost,I64 x.Tree.Sym,I64 x.Tree.Prod,I64 x.Tree.At,rI 4 x.Tree.Kids])
def edrive_driver_0:En drive_driver:=⟨28,fun x=>[iR eI x.f_t.Def,iR eI x.f_t.Acts.Base,iR eI x.f_t.Acts.Val,iR eI x.f_t.Acts.Chk,iR eI x.f_t.GoDef,iR eI x.f_t.Gos.Base,iR eI x.f_t.Gos.Val,iR eI x.f_t.Gos.Chk,iR eI x.f_t.Left,iR eI x.f_t.Len,iR ePair x.f_t.Nums,iR eI x.f_toks,I64 x.f_depth,I64 x.f_steps,iR eI x.f_stack,iR eNode x.f_nodes,I64 x.f_flag,I64 x.f_p.Kind,I64 x.f_p.At,I64 x.f_p.Steps,I64 x.f_p.Deep,iR eI x.f_p.Prods,iR eUpset x.f_p.Upsets,iR eI x.f_p.Lost,I64 x.f_p.Tree.Sym,I64 x.f_p.Tree.Prod,I64 x.f_p.Tree.At,rI 4 x.f_p.Tree.Kids],fun _=>rfl,fun _=>NRl.nr⟩
instance:Flat edrive_driver_0:=⟨fun _=>rfl⟩
instance:Tw edrive_driver_0 edrive_driver_0:=⟨rfl,fun x=>(inferInstance:Vws [iR eI x.f_t.Def,iR eI x.f_t.Acts.Base,iR eI x.f_t.Acts.Val,iR eI x.f_t.Acts.Chk,iR eI x.f_t.GoDef,iR eI x.f_t.Gos.Base,iR eI x.f_t.Gos.Val,iR eI x.f_t.Gos.Chk,iR eI x.f_t.Left,iR eI x.f_t.Len,iR ePair x.f_t.Nums,iR eI x.f_toks,I64 x.f_depth,I64 x.f_steps,iR eI x.f_stack,iR eNode x.f_nodes,I64 x.f_flag,I64 x.f_p.Kind,I64 x.f_p.At,I64 x.f_p.Steps,I64 x.f_p.Deep,iR eI x.f_p.Prods,iR eUpset x.f_p.Upsets,iR eI x.f_p.Lost,I64 x.f_p.Tree.Sym,I64 x.f_p.Tree.Prod,I64 x.f_p.Tree.At,rI 4 x.f_p.Tree.Kids] [iR eI x.f_t.Def,iR eI x.f_t.Acts.Base,iR eI x.f_t.Acts.Val,iR eI x.f_t.Acts.Chk,iR eI x.f_t.GoDef,iR eI x.f_t.Gos.Base,iR eI x.f_t.Gos.Val,iR eI x.f_t.Gos.Chk,iR eI x.f_t.Left,iR eI x.f_t.Len,iR ePair x.f_t.Nums,iR eI x.f_toks,I64 x.f_depth,I64 x.f_steps,iR eI x.f_stack,iR eNode x.f_nodes,I64 x.f_flag,I64 x.f_p.Kind,I64 x.f_p.At,I64 x.f_p.Steps,I64 x.f_p.Deep,iR eI x.f_p.Prods,iR eUpset x.f_p.Upsets,iR eI x.f_p.Lost,I64 x.f_p.Tree.Sym,I64 x.f_p.Tree.Prod,I64 x.f_p.Tree.At,rI 4 x.f_p.Tree.Kids])⟩
instance {x:drive_driver}:Vws (edrive_driver_0.cells x) [iR eI x.f_t.Def,iR eI x.f_t.Acts.Base,iR eI x.f_t.Acts.Val,iR eI x.f_t.Acts.Chk,iR eI x.f_t.GoDef,iR eI x.f_t.Gos.Base,iR eI x.f_t.Gos.Val,iR eI x.f_t.Gos.Chk,iR eI x.f_t.Left,iR eI x.f_t.Len,iR ePair x.f_t.Nums,iR eI x.f_toks,I64 x.f_depth,I64 x.f_steps,iR eI x.f_stack,iR eNode x.f_nodes,I64 x.f_flag,I64 x.f_p.Kind,I64 x.f_p.At,I64 x.f_p.Steps,I64 x.f_p.Deep,iR eI x.f_p.Prods,iR eUpset x.f_p.Upsets,iR eI x.f_p.Lost,I64 x.f_p.Tree.Sym,I64 x.f_p.Tree.Prod,I64 x.f_p.Tree.At,rI 4 x.f_p.Tree.Kids]:=(inferInstance:Vws [iR eI x.f_t.Def,iR eI x.f_t.Acts.Base,iR eI x.f_t.Acts.Val,iR eI x.f_t.Acts.Chk,iR eI x.f_t.GoDef,iR eI x.f_t.Gos.Base,iR eI x.f_t.Gos.Val,iR eI x.f_t.Gos.Chk,iR eI x.f_t.Left,iR eI x.f_t.Len,iR ePair x.f_t.Nums,iR eI x.f_toks,I64 x.f_depth,I64 x.f_steps,iR eI x.f_stack,iR eNode x.f_nodes,I64 x.f_flag,I64 x.f_p.Kind,I64 x.f_p.At,I64 x.f_p.Steps,I64 x.f_p.Deep,iR eI x.f_p.Prods,iR eUpset x.f_p.Upsets,iR eI x.f_p.Lost,I64 x.f_p.Tree.Sym,I64 x.f_p.Tree.Prod,I64 x.f_p.Tree.At,rI 4 x.f_p.Tree.Kids] [iR eI x.f_t.Def,iR eI x.f_t.Acts.Base,iR eI x.f_t.Acts.Val,iR eI x.f_t.Acts.Chk,iR eI x.f_t.GoDef,iR eI x.f_t.Gos.Base,iR eI x.f_t.Gos.Val,iR eI x.f_t.Gos.Chk,iR eI x.f_t.Left,iR eI x.f_t.Len,iR ePair x.f_t.Nums,iR eI x.f_toks,I64 x.f_depth,I64 x.f_steps,iR eI x.f_stack,iR eNode x.f_nodes,I64 x.f_flag,I64 x.f_p.Kind,I64 x.f_p.At,I64 x.f_p.Steps,I64 x.f_p.Deep,iR eI x.f_p.Prods,iR eUpset x.f_p.Upsets,iR eI x.f_p.Lost,I64 x.f_p.Tree.Sym,I64 x.f_p.Tree.Prod,I64 x.f_p.Tree.At,rI 4 x.f_p.Tree.Kids])
def pf26 (a0:drive_driver) (a1:Int):Option (Act) :=
 (idx a0.f_stack (w64 ((a0.f_stack.length:Int) - 1))).bind fun x1 =>
 (pf44 a0.f_t x1 a1).bind fun x2 =>
 some x2
def pf27 (a0:drive_driver):Option (Int) :=
 (bif decide ((a0.f_toks.length:Int)<=a0.f_p.At) then
 some 0
 else
 (idx a0.f_toks a0.f_p.At).bind fun x2 =>
 some x2)
def eParse_1:En Parse:=⟨11,fun x=>[I64 x.Kind,I64 x.At,I64 x.Steps,I64 x.Deep,oR eI x.Prods,oR eUpset x.Upsets,oR eI x.Lost,I64 x.Tree.Sym,I64 x.Tree.Prod,I64 x.Tree.At,rI 4 x.Tree.Kids],fun _=>rfl,fun _=>NRl.nr⟩
instance:Tw eParse_1 eParse_0:=⟨rfl,fun x=>(inferInstance:Vws [I64 x.Kind,I64 x.At,I64 x.Steps,I64 x.Deep,oR eI x.Prods,oR eUpset x.Upsets,oR eI x.Lost,I64 x.Tree.Sym,I64 x.Tree.Prod,I64 x.Tree.At,rI 4 x.Tree.Kids] [I64 x.Kind,I64 x.At,I64 x.Steps,I64 x.Deep,iR eI x.Prods,iR eUpset x.Upsets,iR eI x.Lost,I64 x.Tree.Sym,I64 x.Tree.Prod,I64 x.Tree.At,rI 4 x.Tree.Kids])⟩
instance {x:Parse}:Vws (eParse_1.cells x) [I64 x.Kind,I64 x.At,I64 x.Steps,I64 x.Deep,iR eI x.Prods,iR eUpset x.Upsets,iR eI x.Lost,I64 x.Tree.Sym,I64 x.Tree.Prod,I64 x.Tree.At,rI 4 x.Tree.Kids]:=(inferInstance:Vws [I64 x.Kind,I64 x.At,I64 x.Steps,I64 x.Deep,oR eI x.Prods,oR eUpset x.Upsets,oR eI x.Lost,I64 x.Tree.Sym,I64 x.Tree.Prod,I64 x.Tree.At,rI 4 x.Tree.Kids] [I64 x.Kind,I64 x.At,I64 x.Steps,I64 x.Deep,iR eI x.Prods,iR eUpset x.Upsets,iR eI x.Lost,I64 x.Tree.Sym,I64 x.Tree.Prod,I64 x.Tree.At,rI 4 x.Tree.Kids])
def edrive_driver_r:En drive_driver:=⟨28,fun x=>[iR eI x.f_t.Def,iR eI x.f_t.Acts.Base,iR eI x.f_t.Acts.Val,iR eI x.f_t.Acts.Chk,iR eI x.f_t.GoDef,iR eI x.f_t.Gos.Base,iR eI x.f_t.Gos.Val,iR eI x.f_t.Gos.Chk,iR eI x.f_t.Left,iR eI x.f_t.Len,iR ePair x.f_t.Nums,oR eI x.f_toks,I64 x.f_depth,I64 x.f_steps,oR eI x.f_stack,oR eNode x.f_nodes,I64 x.f_flag,I64 x.f_p.Kind,I64 x.f_p.At,I64 x.f_p.Steps,I64 x.f_p.Deep,oR eI x.f_p.Prods,oR eUpset x.f_p.Upsets,oR eI x.f_p.Lost,I64 x.f_p.Tree.Sym,I64 x.f_p.Tree.Prod,I64 x.f_p.Tree.At,rI 4 x.f_p.Tree.Kids],fun _=>rfl,fun _=>NRl.nr⟩
instance {x:drive_driver}:Vws (edrive_driver_r.cells x) [iR eI x.f_t.Def,iR eI x.f_t.Acts.Base,iR eI x.f_t.Acts.Val,iR eI x.f_t.Acts.Chk,iR eI x.f_t.GoDef,iR eI x.f_t.Gos.Base,iR eI x.f_t.Gos.Val,iR eI x.f_t.Gos.Chk,iR eI x.f_t.Left,iR eI x.f_t.Len,iR ePair x.f_t.Nums,iR eI x.f_toks,I64 x.f_depth,I64 x.f_steps,iR eI x.f_stack,iR eNode x.f_nodes,I64 x.f_flag,I64 x.f_p.Kind,I64 x.f_p.At,I64 x.f_p.Steps,I64 x.f_p.Deep,iR eI x.f_p.Prods,iR eUpset x.f_p.Upsets,iR eI x.f_p.Lost,I64 x.f_p.Tree.Sym,I64 x.f_p.Tree.Prod,I64 x.f_p.Tree.At,rI 4 x.f_p.Tree.Kids]:=(inferInstance:Vws [iR eI x.f_t.Def,iR eI x.f_t.Acts.Base,iR eI x.f_t.Acts.Val,iR eI x.f_t.Acts.Chk,iR eI x.f_t.GoDef,iR eI x.f_t.Gos.Base,iR eI x.f_t.Gos.Val,iR eI x.f_t.Gos.Chk,iR eI x.f_t.Left,iR eI x.f_t.Len,iR ePair x.f_t.Nums,oR eI x.f_toks,I64 x.f_depth,I64 x.f_steps,oR eI x.f_stack,oR eNode x.f_nodes,I64 x.f_flag,I64 x.f_p.Kind,I64 x.f_p.At,I64 x.f_p.Steps,I64 x.f_p.Deep,oR eI x.f_p.Prods,oR eUpset x.f_p.Upsets,oR eI x.f_p.Lost,I64 x.f_p.Tree.Sym,I64 x.f_p.Tree.Prod,I64 x.f_p.Tree.At,rI 4 x.f_p.Tree.Kids] [iR eI x.f_t.Def,iR eI x.f_t.Acts.Base,iR eI x.f_t.Acts.Val,iR eI x.f_t.Acts.Chk,iR eI x.f_t.GoDef,iR eI x.f_t.Gos.Base,iR eI x.f_t.Gos.Val,iR eI x.f_t.Gos.Chk,iR eI x.f_t.Left,iR eI x.f_t.Len,iR ePair x.f_t.Nums,iR eI x.f_toks,I64 x.f_depth,I64 x.f_steps,iR eI x.f_stack,iR eNode x.f_nodes,I64 x.f_flag,I64 x.f_p.Kind,I64 x.f_p.At,I64 x.f_p.Steps,I64 x.f_p.Deep,iR eI x.f_p.Prods,iR eUpset x.f_p.Upsets,iR eI x.f_p.Lost,I64 x.f_p.Tree.Sym,I64 x.f_p.Tree.Prod,I64 x.f_p.Tree.At,rI 4 x.f_p.Tree.Kids])
def pf45 (a0:drive_driver) (a1:Int):Option (Bool × drive_driver) :=
 ((bif decide (a0.f_p.Steps=a0.f_steps) then some true else some (decide (a0.f_depth<a1)))).bind fun c2 =>
 (bif c2 then
 some (false,(⟨a0.f_t,a0.f_toks,a0.f_depth,a0.f_steps,a0.f_stack,a0.f_nodes,a0.f_flag,(⟨3,a0.f_p.At,a0.f_p.Steps,a0.f_p.Deep,a0.f_p.Prods,a0.f_p.Upsets,a0.f_p.Lost,a0.f_p.Tree⟩:Parse)⟩:drive_driver))
 else
 some (true,(⟨a0.f_t,a0.f_toks,a0.f_depth,a0.f_steps,a0.f_stack,a0.f_nodes,a0.f_flag,(⟨a0.f_p.Kind,a0.f_p.At,w64 (a0.f_p.Steps+1),a0.f_p.Deep,a0.f_p.Prods,a0.f_p.Upsets,a0.f_p.Lost,a0.f_p.Tree⟩:Parse)⟩:drive_driver)))
def pf28 (a0:drive_driver) (a1:Int) (a2:Int) (a3:Node):Option (Bool × drive_driver) :=
 (pf45 a0 (w64 ((a0.f_stack.length:Int) - a2))).bind fun x1 =>
 (bif !x1.1 then
 some (false,x1.2)
 else
 (inO x1.2.f_stack (w64 ((x1.2.f_stack.length:Int) - a2))).bind fun x3 =>
 (appO (x1.2.f_stack.take ((w64 ((x1.2.f_stack.length:Int) - a2)).toNat)) [a1]).bind fun x4 =>
 (inO x1.2.f_nodes (w64 ((x1.2.f_nodes.length:Int) - a2))).bind fun x5 =>
 (appO (x1.2.f_nodes.take ((w64 ((x1.2.f_nodes.length:Int) - a2)).toNat)) [a3]).bind fun x6 =>
 some (true,(⟨x1.2.f_t,x1.2.f_toks,x1.2.f_depth,x1.2.f_steps,x4,x6,x1.2.f_flag,(⟨x1.2.f_p.Kind,x1.2.f_p.At,x1.2.f_p.Steps,max x1.2.f_p.Deep (w64 ((x4.length:Int) - 1)),x1.2.f_p.Prods,x1.2.f_p.Upsets,x1.2.f_p.Lost,x1.2.f_p.Tree⟩:Parse)⟩:drive_driver)))
def pf29 (a0:drive_driver) (a1:Int):Option (Node) :=
 some (⟨a1,(-1),a0.f_p.At,(ri eNode ([]:List Node))⟩:Node)
def pf46 (a0:List Node):Option (List Node):=cloneO a0
def pf47 (a0:Tables) (a1:Int) (a2:Int):Option (Int) :=
 (pf64 a0.Gos a2 a1).bind fun x1 =>
 (bif x1.2 then
 some x1.1
 else
 ((bif decide (a2<0) then some true else some (decide ((a0.GoDef.length:Int)<=a2)))).bind fun c4 =>
 (bif c4 then
 some (-1)
 else
 (idx a0.GoDef a2).bind fun x6 =>
 some x6))
def pf30 (a0:drive_driver) (a1:Int):Option (drive_driver) :=
 (idx a0.f_t.Len a1).bind fun x1 =>
 (idx a0.f_t.Left a1).bind fun x2 =>
 (inO a0.f_nodes (w64 ((a0.f_nodes.length:Int) - x1))).bind fun x3 =>
 (pf46 (a0.f_nodes.drop ((w64 ((a0.f_nodes.length:Int) - x1)).toNat))).bind fun x4 =>
 (idx a0.f_stack (w64 ((w64 ((a0.f_stack.length:Int) - 1)) - x1))).bind fun x5 =>
 (pf47 a0.f_t x5 x2).bind fun x6 =>
 (pf28 a0 x6 x1 (⟨w64 (1000+x2),a1,(-1),(ri eNode x4)⟩:Node)).bind fun x7 =>
 ((bif x7.1 then
 (appO x7.2.f_p.Prods [a1]).bind fun x10 =>
 some (x7.2.f_p.Prods++[a1])
 else
 some x7.2.f_p.Prods)).bind fun j8 =>
 some (⟨x7.2.f_t,x7.2.f_toks,x7.2.f_depth,x7.2.f_steps,x7.2.f_stack,x7.2.f_nodes,x7.2.f_flag,(⟨x7.2.f_p.Kind,x7.2.f_p.At,x7.2.f_p.Steps,x7.2.f_p.Deep,j8,x7.2.f_p.Upsets,x7.2.f_p.Lost,x7.2.f_p.Tree⟩:Parse)⟩:drive_driver)
def pf48 (a0:drive_driver):Option (drive_driver) :=
 (pf27 a0).bind fun x1 =>
 ((bif decide (x1=0) then
 some (⟨a0.f_t,a0.f_toks,a0.f_depth,a0.f_steps,a0.f_stack,a0.f_nodes,a0.f_flag,(⟨2,a0.f_p.At,a0.f_p.Steps,a0.f_p.Deep,a0.f_p.Prods,a0.f_p.Upsets,a0.f_p.Lost,a0.f_p.Tree⟩:Parse)⟩:drive_driver)
 else
 (pf45 a0 (w64 ((a0.f_stack.length:Int) - 1))).bind fun x4 =>
 ((bif x4.1 then
 (appO x4.2.f_p.Lost [x4.2.f_p.At]).bind fun x7 =>
 some (w64 (x4.2.f_p.At+1),x4.2.f_p.Lost++[x4.2.f_p.At])
 else
 some (x4.2.f_p.At,x4.2.f_p.Lost))).bind fun j5 =>
 some (⟨x4.2.f_t,x4.2.f_toks,x4.2.f_depth,x4.2.f_steps,x4.2.f_stack,x4.2.f_nodes,x4.2.f_flag,(⟨x4.2.f_p.Kind,j5.1,x4.2.f_p.Steps,x4.2.f_p.Deep,x4.2.f_p.Prods,x4.2.f_p.Upsets,j5.2,x4.2.f_p.Tree⟩:Parse)⟩:drive_driver))).bind fun j2 =>
 some j2
def pf31 (a0:drive_driver):Option (drive_driver) :=
 (bif decide (a0.f_flag=3) then
 (pf48 a0).bind fun x2 =>
 some x2
 else
 (appO a0.f_p.Upsets [(⟨a0.f_p.At,decide (a0.f_flag=0)⟩:Upset)]).bind fun x3 =>
 (pf26 (⟨a0.f_t,a0.f_toks,a0.f_depth,a0.f_steps,a0.f_stack,a0.f_nodes,3,(⟨a0.f_p.Kind,a0.f_p.At,a0.f_p.Steps,a0.f_p.Deep,a0.f_p.Prods,a0.f_p.Upsets++[(⟨a0.f_p.At,decide (a0.f_flag=0)⟩:Upset)],a0.f_p.Lost,a0.f_p.Tree⟩:Parse)⟩:drive_driver) 1).bind fun x4 =>
 (loopM (R:=(drive_driver × Int × Int) ⊕ (drive_driver)) (fun (s5:drive_driver × Int × Int) =>
 (bif !decide (s5.2.1=1) then
 (bif decide (w64 ((s5.1.f_stack.length:Int) - 1)=0) then
 some (.inr (.inr (⟨s5.1.f_t,s5.1.f_toks,s5.1.f_depth,s5.1.f_steps,s5.1.f_stack,s5.1.f_nodes,s5.1.f_flag,(⟨2,s5.1.f_p.At,s5.1.f_p.Steps,s5.1.f_p.Deep,s5.1.f_p.Prods,s5.1.f_p.Upsets,s5.1.f_p.Lost,s5.1.f_p.Tree⟩:Parse)⟩:drive_driver)))
 else
 (pf45 s5.1 (w64 ((w64 ((s5.1.f_stack.length:Int) - 1)) - 1))).bind fun x11 =>
 (bif !x11.1 then
 some (.inr (.inr x11.2))
 else
 (inO x11.2.f_stack (w64 ((s5.1.f_stack.length:Int) - 1))).bind fun x13 =>
 (inO x11.2.f_nodes (w64 ((w64 ((s5.1.f_stack.length:Int) - 1)) - 1))).bind fun x14 =>
 (pf26 (⟨x11.2.f_t,x11.2.f_toks,x11.2.f_depth,x11.2.f_steps,x11.2.f_stack.take ((w64 ((s5.1.f_stack.length:Int) - 1)).toNat),x11.2.f_nodes.take ((w64 ((w64 ((s5.1.f_stack.length:Int) - 1)) - 1)).toNat),x11.2.f_flag,x11.2.f_p⟩:drive_driver) 1).bind fun x15 =>
 some (.inl ((⟨x11.2.f_t,x11.2.f_toks,x11.2.f_depth,x11.2.f_steps,x11.2.f_stack.take ((w64 ((s5.1.f_stack.length:Int) - 1)).toNat),x11.2.f_nodes.take ((w64 ((w64 ((s5.1.f_stack.length:Int) - 1)) - 1)).toNat),x11.2.f_flag,x11.2.f_p⟩:drive_driver),x15.Kind,x15.N))))
 else
 some (.inr (.inl (s5.1,s5.2.1,s5.2.2))))) ((⟨a0.f_t,a0.f_toks,a0.f_depth,a0.f_steps,a0.f_stack,a0.f_nodes,3,(⟨a0.f_p.Kind,a0.f_p.At,a0.f_p.Steps,a0.f_p.Deep,a0.f_p.Prods,a0.f_p.Upsets++[(⟨a0.f_p.At,decide (a0.f_flag=0)⟩:Upset)],a0.f_p.Lost,a0.f_p.Tree⟩:Parse)⟩:drive_driver),x4.Kind,x4.N)).bind fun x6 =>
 (match x6 with
 | .inl x7 =>
 (pf29 x7.1 1).bind fun x16 =>
 (pf28 x7.1 x7.2.2 0 x16).bind fun x17 =>
 some x17.2
 | .inr x8 =>
 some x8))
def pf15 (a0:drive_driver):Option (drive_driver) :=
 (pf27 a0).bind fun x1 =>
 (pf26 a0 x1).bind fun x2 =>
 (((bif decide (x2.Kind=1) then
 (pf27 a0).bind fun x6 =>
 (pf29 a0 x6).bind fun x7 =>
 (pf28 a0 x2.N 0 x7).bind fun x8 =>
 ((bif x8.1 then
 some (max (w64 (x8.2.f_flag - 1)) 0,w64 (x8.2.f_p.At+1))
 else
 some (x8.2.f_flag,x8.2.f_p.At))).bind fun j9 =>
 some (⟨x8.2.f_t,x8.2.f_toks,x8.2.f_depth,x8.2.f_steps,x8.2.f_stack,x8.2.f_nodes,j9.1,(⟨x8.2.f_p.Kind,j9.2,x8.2.f_p.Steps,x8.2.f_p.Deep,x8.2.f_p.Prods,x8.2.f_p.Upsets,x8.2.f_p.Lost,x8.2.f_p.Tree⟩:Parse)⟩:drive_driver)
 else
 ((bif decide (x2.Kind=2) then
 (pf30 a0 x2.N).bind fun x13 =>
 some x13
 else
 ((bif decide (x2.Kind=3) then
 (idx a0.f_nodes (w64 ((a0.f_nodes.length:Int) - 1))).bind fun x16 =>
 some (⟨a0.f_t,a0.f_toks,a0.f_depth,a0.f_steps,a0.f_stack,a0.f_nodes,a0.f_flag,(⟨1,a0.f_p.At,a0.f_p.Steps,a0.f_p.Deep,a0.f_p.Prods,a0.f_p.Upsets,a0.f_p.Lost,x16⟩:Parse)⟩:drive_driver)
 else
 (pf31 a0).bind fun x17 =>
 some x17)).bind fun j14 =>
 some j14)).bind fun j11 =>
 some j11)).bind fun j4 =>
 some j4).bind fun j3 =>
 some j3
def pf7 (a0:Tables) (a1:(List Int)) (a2:Int) (a3:Int):Option (Parse) :=
 ((loopM (R:=List Int) (fun (s2:List Int × Int) =>
 (bif decide (s2.2<(a1.length:Int)) then
 (idx a1 s2.2).bind fun x6 =>
 (bif decide (x6<=0) then
 some (.inr s2.1)
 else
 (pf14 a0.Nums x6).bind fun x8 =>
 (appO s2.1 [x8]).bind fun x9 =>
 some (.inl (s2.1++[x8],w64 (s2.2+1))))
 else
 some (.inr s2.1))) (([]:List Int),0)).bind fun x3 =>
 some x3).bind fun j1 =>
 (loopM (R:=drive_driver) (fun (s10:drive_driver) =>
 (bif decide (s10.f_p.Kind=0) then
 (pf15 s10).bind fun x14 =>
 some (.inl x14)
 else
 some (.inr s10))) (⟨a0,j1,min (max a2 0) 100000,min (max a3 0) 1000000,[0],[],0,(⟨0,0,0,0,[],[],[],(⟨0,0,0,ri0⟩:Node)⟩:Parse)⟩:drive_driver)).bind fun x11 =>
 some x11.f_p
def pf49 (a0:(List (List Pair))):Option (Bool) :=
 (bif decide (400<(a0.length:Int)) then
 some false
 else
 (loopM (R:=(Unit) ⊕ (Bool)) (fun (s2:Int) =>
 (bif decide (s2<(a0.length:Int)) then
 (idx a0 s2).bind fun x7 =>
 (loopM (R:=(Unit) ⊕ (Bool)) (fun (s8:List Bool × Int) =>
 (bif decide (s8.2<(x7.length:Int)) then
 (idx x7 s8.2).bind fun x13 =>
 ((bif decide (x13.At<0) then some true else (bif decide (1000<=x13.At) then some true else ((idxA 1000 s8.1 x13.At).bind fun x16=>some x16)))).bind fun c17 =>
 (bif c17 then
 some (.inr (.inr false))
 else
 (idxA 1000 s8.1 x13.At).bind fun x19 =>
 some (.inl (s8.1.set x13.At.toNat true,w64 (s8.2+1))))
 else
 some (.inr (.inl ())))) ((List.replicate 1000 false),0)).bind fun x9 =>
 (match x9 with
 | .inl x10 =>
 some (.inl (w64 (s2+1)))
 | .inr x11 =>
 some (.inr (.inr x11)))
 else
 some (.inr (.inl ())))) 0).bind fun x3 =>
 (match x3 with
 | .inl x4 =>
 some true
 | .inr x5 =>
 some x5))
def pf52 (a0:(List Int)):Option (Int) :=
 (loopM (R:=(Unit) ⊕ (Int)) (fun (s1:Int) =>
 (bif decide (s1<(a0.length:Int)) then
 (idx a0 s1).bind fun x6 =>
 (bif !decide (x6=0) then
 some (.inr (.inr x6))
 else
 some (.inl (w64 (s1+1))))
 else
 some (.inr (.inl ())))) 0).bind fun x2 =>
 (match x2 with
 | .inl x3 =>
 some 0
 | .inr x4 =>
 some x4)
def pf51 (a0:Int) (a1:Int) (c0:(List (List Pair))):Option (Int) :=
 (idx c0 a1).bind fun x1 =>
 (idx c0 a0).bind fun x2 =>
 (pf25 (x1.length:Int) (x2.length:Int)).bind fun x3 =>
 (pf25 a0 a1).bind fun x4 =>
 (pf52 [x3,x4]).bind fun x5 =>
 some x5
def pf68 (a0:Pair) (c0:Int) (c1:(List Int)):Option (Bool) :=
 ((bif decide (w64 (c0+a0.At)<(c1.length:Int)) then ((idx c1 (w64 (c0+a0.At))).bind fun x2=>some (!decide (x2=0))) else some false)).bind fun c3 =>
 some c3
def pf100_68 (a0:(List Pair)) (a1_0:Int) (a1_1:(List Int)):Option (Int) :=
 (loopM (R:=(Unit) ⊕ (Int)) (fun (s1:Int) =>
 (bif decide (s1<(a0.length:Int)) then
 (idx a0 s1).bind fun x6 =>
 (pf68 x6 a1_0 a1_1).bind fun x7 =>
 (bif x7 then
 some (.inr (.inr s1))
 else
 some (.inl (w64 (s1+1))))
 else
 some (.inr (.inl ())))) 0).bind fun x2 =>
 (match x2 with
 | .inl x3 =>
 some (-1)
 | .inr x4 =>
 some x4)
def pf67_68 (a0:(List Pair)) (a1_0:Int) (a1_1:(List Int)):Option (Bool) :=
 (pf100_68 a0 a1_0 a1_1).bind fun x1 =>
 some (decide (0<=x1))
def pf53 (a0:(List Int)) (a1:(List Pair)) (a2:Int):Option (Bool) :=
 (pf67_68 a1 a2 a0).bind fun x1 =>
 some (!x1)
def eComb_r:En Comb:=⟨3,fun x=>[oR eI x.Base,oR eI x.Val,oR eI x.Chk],fun _=>rfl,fun _=>NRl.nr⟩
instance:OOe eComb_r:=⟨fun x=>(inferInstance:OOl [oR eI x.Base,oR eI x.Val,oR eI x.Chk])⟩
instance {x:Comb}:Vws (eComb_r.cells x) [iR eI x.Base,iR eI x.Val,iR eI x.Chk]:=(inferInstance:Vws [oR eI x.Base,oR eI x.Val,oR eI x.Chk] [iR eI x.Base,iR eI x.Val,iR eI x.Chk])
def pf32 (a0:(List (List Pair))):Option (Comb) :=
 (pf49 a0).bind fun x1 =>
 (bif !x1 then
 some (⟨([]:List Int),([]:List Int),([]:List Int)⟩:Comb)
 else
 (mkO (a0.length:Int) 0).bind fun x3 =>
 (loopM (R:=List Int) (fun (s4:List Int × Int) =>
 (bif decide (s4.2<(a0.length:Int)) then
 ((idx a0 s4.2).bind fun x9 =>
 ((bif decide (0<(x9.length:Int)) then
 (appO s4.1 [s4.2]).bind fun x12 =>
 some (s4.1++[s4.2])
 else
 some s4.1)).bind fun j10 =>
 some j10).bind fun j8 =>
 some (.inl (j8,w64 (s4.2+1)))
 else
 some (.inr s4.1))) (([]:List Int),0)).bind fun x5 =>
 (sortO (fun a b=>pf51 a b a0) x5).bind fun x13 =>
 (loopM (R:=Comb) (fun (s14:Comb × Int) =>
 (bif decide (s14.2<(x13.length:Int)) then
 (idx x13 s14.2).bind fun x18 =>
 (loopM (R:=List Int) (fun (s19:List Int) =>
 (idx a0 x18).bind fun x22 =>
 (idx s19 x18).bind fun x23 =>
 (pf53 s14.1.Chk x22 x23).bind fun x24 =>
 (bif !x24 then
 (idx s19 x18).bind fun x26 =>
 some (.inl (s19.set x18.toNat (w64 (x26+1))))
 else
 some (.inr s19))) s14.1.Base).bind fun x20 =>
 (idx a0 x18).bind fun x27 =>
 (loopM (R:=List Int × List Int) (fun (s28:List Int × List Int × Int) =>
 (bif decide (s28.2.2<(x27.length:Int)) then
 (idx x27 s28.2.2).bind fun x32 =>
 (idx x20 x18).bind fun x33 =>
 (loopM (R:=List Int × List Int) (fun (s34:List Int × List Int) =>
 (bif decide ((s34.2.length:Int)<=w64 (x33+x32.At)) then
 (appO s34.2 [0]).bind fun x38 =>
 (appO s34.1 [0]).bind fun x39 =>
 some (.inl (s34.1++[0],s34.2++[0]))
 else
 some (.inr (s34.1,s34.2)))) (s28.1,s28.2.1)).bind fun x35 =>
 (idx x35.2 (w64 (x33+x32.At))).bind fun x40 =>
 (idx x35.1 (w64 (x33+x32.At))).bind fun x41 =>
 some (.inl (x35.1.set (w64 (x33+x32.At)).toNat x32.Val,x35.2.set (w64 (x33+x32.At)).toNat (w64 (x18+1)),w64 (s28.2.2+1)))
 else
 some (.inr (s28.1,s28.2.1)))) (s14.1.Val,s14.1.Chk,0)).bind fun x29 =>
 some (.inl ((⟨x20,x29.1,x29.2⟩:Comb),w64 (s14.2+1)))
 else
 some (.inr s14.1))) ((⟨x3,([]:List Int),([]:List Int)⟩:Comb),0)).bind fun x15 =>
 some x15)
structure Row where
 Def:Int
 Pairs:(List Pair)
 deriving DecidableEq,Inhabited
def eRow_0:En Row:=⟨2,fun x=>[I64 x.Def,iR ePair x.Pairs],fun _=>rfl,fun _=>NRl.nr⟩
instance:Flat eRow_0:=⟨fun _=>rfl⟩
instance:Tw eRow_0 eRow_0:=⟨rfl,fun x=>(inferInstance:Vws [I64 x.Def,iR ePair x.Pairs] [I64 x.Def,iR ePair x.Pairs])⟩
def pf16 (a0:(List Row)):Option ((List Int) × Comb) :=
 (loopM (R:=List Int × List (List Pair)) (fun (s1:List Int × List (List Pair) × Int) =>
 (bif decide (s1.2.2<(a0.length:Int)) then
 (idx a0 s1.2.2).bind fun x5 =>
 (appO s1.1 [x5.Def]).bind fun x6 =>
 (appO s1.2.1 [x5.Pairs]).bind fun x7 =>
 some (.inl (s1.1++[x5.Def],s1.2.1++[x5.Pairs],w64 (s1.2.2+1)))
 else
 some (.inr (s1.1,s1.2.1)))) (([]:List Int),([]:List (List Pair)),0)).bind fun x2 =>
 (pf32 x2.2).bind fun x8 =>
 some (x2.1,x8)
def pf33 (a0:(List Int)):Option (Int) :=
 (loopM (R:=Int) (fun (s1:(List (Int × Int)) × Int × Int) =>
 (bif decide (s1.2.2<(a0.length:Int)) then
 ((idx a0 s1.2.2).bind fun x6 =>
 (mgetO kI64 0 s1.1 x6).bind fun x7 =>
 (mputO kI64 s1.1 x6 (w64 (x7+1))).bind fun x8 =>
 (mgetO kI64 0 x8 x6).bind fun x9 =>
 (mgetO kI64 0 x8 s1.2.1).bind fun x10 =>
 ((bif decide (s1.2.1<0) then some true else (bif decide (0<w64 (x9 - x10)) then some true else (bif decide (w64 (x9 - x10)=0) then some (decide (x6<s1.2.1)) else some false)))).bind fun c14 =>
 ((bif c14 then
 some x6
 else
 some s1.2.1)).bind fun j15 =>
 some (x8,j15)).bind fun j5 =>
 some (.inl (j5.1,j5.2,w64 (s1.2.2+1)))
 else
 some (.inr s1.2.1))) (([]:List (Int × Int)),(-1),0)).bind fun x2 =>
 some x2
def pf34 (a0:Act):Option (Int) :=
 ((bif decide (a0.Kind=1) then (bif decide (0<=a0.N) then some (decide (a0.N<20000)) else some false) else some false)).bind fun c3 =>
 (bif c3 then
 some (w64 (a0.N+1))
 else
 ((bif decide (a0.Kind=2) then (bif decide (0<a0.N) then some (decide (a0.N<20000)) else some false) else some false)).bind fun c7 =>
 (bif c7 then
 some (w64 (-a0.N))
 else
 ((bif decide (a0.Kind=3) then some (decide (a0.N=0)) else some false)).bind fun c10 =>
 (bif c10 then
 some 20001
 else
 ((bif decide (a0.Kind=4) then some (decide (a0.N=0)) else some false)).bind fun c13 =>
 (bif c13 then
 some 20002
 else
 some 0))))
def pf17 (a0:Dense):Option ((List Row)) :=
 (loopM (R:=List Row) (fun (s1:List Row × Int) =>
 (bif decide (s1.2<(a0.Acts.length:Int)) then
 (idx a0.Acts s1.2).bind fun x5 =>
 (loopM (R:=List Int) (fun (s6:List Int × Int) =>
 (bif decide (s6.2<(x5.length:Int)) then
 ((idx x5 s6.2).bind fun x11 =>
 ((bif decide (x11.Kind=2) then
 (appO s6.1 [x11.N]).bind fun x14 =>
 some (s6.1++[x11.N])
 else
 some s6.1)).bind fun j12 =>
 some j12).bind fun j10 =>
 some (.inl (j10,w64 (s6.2+1)))
 else
 some (.inr s6.1))) (([]:List Int),0)).bind fun x7 =>
 (pf33 x7).bind fun x15 =>
 (loopM (R:=List Pair) (fun (s16:List Pair × Int) =>
 (bif decide (s16.2<(x5.length:Int)) then
 ((idx x5 s16.2).bind fun x21 =>
 ((bif !decide (x21.Kind=0) then (bif !decide (x21.Kind=2) then some true else some (!decide (x21.N=x15))) else some false)).bind fun c24 =>
 ((bif c24 then
 (pf34 x21).bind fun x27 =>
 (appO s16.1 [(⟨s16.2,x27⟩:Pair)]).bind fun x28 =>
 some (s16.1++[(⟨s16.2,x27⟩:Pair)])
 else
 some s16.1)).bind fun j25 =>
 some j25).bind fun j20 =>
 some (.inl (j20,w64 (s16.2+1)))
 else
 some (.inr s16.1))) (([]:List Pair),0)).bind fun x17 =>
 (appO s1.1 [(⟨x15,x17⟩:Row)]).bind fun x29 =>
 some (.inl (s1.1++[(⟨x15,x17⟩:Row)],w64 (s1.2+1)))
 else
 some (.inr s1.1))) (([]:List Row),0)).bind fun x2 =>
 some x2
def pf18 (a0:Dense):Option ((List Row)) :=
 (bif decide ((a0.Gotos.length:Int)=0) then
 some ([]:List Row)
 else
 (idx a0.Gotos 0).bind fun x2 =>
 (loopM (R:=List Row) (fun (s3:List Row × Int) =>
 (bif decide (s3.2<(x2.length:Int)) then
 (loopM (R:=List Int) (fun (s7:List Int × Int) =>
 (bif decide (s7.2<(a0.Gotos.length:Int)) then
 ((idx a0.Gotos s7.2).bind fun x12 =>
 (idx x12 s3.2).bind fun x13 =>
 ((bif decide (0<=x13) then
 (idx x12 s3.2).bind fun x16 =>
 (appO s7.1 [x16]).bind fun x17 =>
 some (s7.1++[x16])
 else
 some s7.1)).bind fun j14 =>
 some j14).bind fun j11 =>
 some (.inl (j11,w64 (s7.2+1)))
 else
 some (.inr s7.1))) (([]:List Int),0)).bind fun x8 =>
 (pf33 x8).bind fun x18 =>
 (loopM (R:=List Pair) (fun (s19:List Pair × Int) =>
 (bif decide (s19.2<(a0.Gotos.length:Int)) then
 ((idx a0.Gotos s19.2).bind fun x24 =>
 (((idx x24 s3.2).bind fun x25=>(bif decide (0<=x25) then ((idx x24 s3.2).bind fun x27=>some (!decide (x27=x18))) else some false))).bind fun c28 =>
 ((bif c28 then
 (idx x24 s3.2).bind fun x31 =>
 (appO s19.1 [(⟨s19.2,x31⟩:Pair)]).bind fun x32 =>
 some (s19.1++[(⟨s19.2,x31⟩:Pair)])
 else
 some s19.1)).bind fun j29 =>
 some j29).bind fun j23 =>
 some (.inl (j23,w64 (s19.2+1)))
 else
 some (.inr s19.1))) (([]:List Pair),0)).bind fun x20 =>
 (appO s3.1 [(⟨x18,x20⟩:Row)]).bind fun x33 =>
 some (.inl (s3.1++[(⟨x18,x20⟩:Row)],w64 (s3.2+1)))
 else
 some (.inr s3.1))) (([]:List Row),0)).bind fun x4 =>
 some x4)
def pf36 (a0:Pair) (a1:Pair):Option (Int) :=
 (pf25 a0.At a1.At).bind fun x1 =>
 some x1
def pf19 (a0:Grammar):Option ((List Pair)) :=
 (loopM (R:=List Pair) (fun (s1:List Pair × Int) =>
 (bif decide (s1.2<(a0.Toks.length:Int)) then
 ((idx a0.Toks s1.2).bind fun x6 =>
 ((bif decide (0<x6.Num) then
 (appO s1.1 [(⟨x6.Num,s1.2⟩:Pair)]).bind fun x9 =>
 some (s1.1++[(⟨x6.Num,s1.2⟩:Pair)])
 else
 some s1.1)).bind fun j7 =>
 some j7).bind fun j5 =>
 some (.inl (j5,w64 (s1.2+1)))
 else
 some (.inr s1.1))) (([]:List Pair),0)).bind fun x2 =>
 (sortO (fun a b=>pf36 a b) x2).bind fun x10 =>
 some x10
def pf8 (a0:Grammar) (a1:Dense):Option (Tables) :=
 (pf17 a1).bind fun x1 =>
 (pf16 x1).bind fun x2 =>
 (pf18 a1).bind fun x3 =>
 (pf16 x3).bind fun x4 =>
 (loopM (R:=List Int × List Int) (fun (s5:List Int × List Int × Int) =>
 (bif decide (s5.2.2<(a0.Prods.length:Int)) then
 (idx a0.Prods s5.2.2).bind fun x9 =>
 (appO s5.1 [x9.Left]).bind fun x10 =>
 (appO s5.2.1 [(x9.Right.length:Int)]).bind fun x11 =>
 some (.inl (s5.1++[x9.Left],s5.2.1++[(x9.Right.length:Int)],w64 (s5.2.2+1)))
 else
 some (.inr (s5.1,s5.2.1)))) (([]:List Int),([]:List Int),0)).bind fun x6 =>
 (pf19 a0).bind fun x12 =>
 some (⟨x2.1,x2.2,x4.1,x4.2,x6.1,x6.2,x12⟩:Tables)
def pf9 (a0:(List Int)) (a1:(List Int)):Option (Bool) :=
 (bif !decide ((a0.length:Int)=(a1.length:Int)) then
 some false
 else
 (loopM (R:=(Unit) ⊕ (Bool)) (fun (s2:Int) =>
 (bif decide (s2<(a0.length:Int)) then
 (idx a0 s2).bind fun x7 =>
 (idx a1 s2).bind fun x8 =>
 (bif !decide (x7=x8) then
 some (.inr (.inr false))
 else
 some (.inl (w64 (s2+1))))
 else
 some (.inr (.inl ())))) 0).bind fun x3 =>
 (match x3 with
 | .inl x4 =>
 some true
 | .inr x5 =>
 some x5))
def pf4 :Option (Bool) :=
 (pf5 ).bind fun x1 =>
 (pf8 x1.1 x1.2.1).bind fun x2 =>
 ((bif !x1.2.2 then some true else some (decide ((x2.Def.length:Int)=0)))).bind fun c4 =>
 (bif c4 then
 some false
 else
 (pf7 x2 [120,120,59,120,59] 50 50).bind fun x6 =>
 (pf7 x2 [120,59,0,120] 50 50).bind fun x7 =>
 (pf7 x2 [59,59] 50 3).bind fun x8 =>
 ((bif decide (x6.Kind=1) then (bif decide (x6.At=5) then (bif decide ((x6.Upsets.length:Int)=1) then ((idx x6.Upsets 0).bind fun x12=>(bif decide (x12.At=1) then ((idx x6.Upsets 0).bind fun x14=>(bif x14.Told then ((pf9 x6.Lost [1]).bind fun x16=>(bif x16 then (bif decide (x6.Tree.Sym=1001) then ((pf9 x6.Prods [1,4,2,3,2]).bind fun x19=>(bif x19 then (bif decide (x6.Steps=12) then (bif decide (x6.Deep=3) then (bif decide (x7.Kind=1) then (bif decide (x7.At=2) then some (decide (x8.Kind=3)) else some false) else some false) else some false) else some false) else some false)) else some false) else some false)) else some false)) else some false)) else some false) else some false) else some false)).bind fun c25 =>
 some c25)
def pf6 (a0:Int) (a1:Int):Option (Int) :=
 (remO a0 a1).bind fun x1 =>
 ((bif decide (x1<0) then
 some (w64 (x1+a1))
 else
 some x1)).bind fun j2 =>
 some j2
def pf10 (a0:(List Upset)) (a1:(List Upset)):Option (Bool) :=
 (bif !decide ((a0.length:Int)=(a1.length:Int)) then
 some false
 else
 (loopM (R:=(Unit) ⊕ (Bool)) (fun (s2:Int) =>
 (bif decide (s2<(a0.length:Int)) then
 (idx a0 s2).bind fun x7 =>
 (idx a1 s2).bind fun x8 =>
 (bif !(decide (x7.At=x8.At)&&((x7.Told == x8.Told)&&true)) then
 some (.inr (.inr false))
 else
 some (.inl (w64 (s2+1))))
 else
 some (.inr (.inl ())))) 0).bind fun x3 =>
 (match x3 with
 | .inl x4 =>
 some true
 | .inr x5 =>
 some x5))
def pf3 (a0:(List Int)):Option (Bool) :=
 (pf4 ).bind fun x1 =>
 (bif !x1 then
 some false
 else
 (pf5 ).bind fun x3 =>
 (loopM (R:=List Int × List Int × List Int × List Upset × Int × Int) (fun (s4:List Int × List Int × List Int × List Upset × Int × Int × Bool × Int) =>
 ((bif decide (s4.2.2.2.2.2.2.2<(a0.length:Int)) then some (decide (s4.2.2.2.2.2.2.2<30)) else some false)).bind fun c8 =>
 (bif c8 then
 ((idx a0 s4.2.2.2.2.2.2.2).bind fun x11 =>
 (pf6 x11 5).bind fun x12 =>
 (appO s4.1 [120]).bind fun x13 =>
 (bif decide (x12=0) then
 (appO (s4.1++[120]) [59]).bind fun x15 =>
 (appO s4.2.2.1 [3,2]).bind fun x16 =>
 some ((s4.1++[120])++[59],s4.2.1,s4.2.2.1++[3,2],s4.2.2.2.1,w64 (s4.2.2.2.2.1+4),3,false)
 else
 (appO s4.2.2.2.1 [(⟨((s4.1++[120]).length:Int),!s4.2.2.2.2.2.2.1⟩:Upset)]).bind fun x17 =>
 (loopM (R:=List Int × List Int) (fun (s18:List Int × List Int × Int) =>
 (bif decide (s18.2.2<x12) then
 (appO s18.2.1 [(s18.1.length:Int)]).bind fun x22 =>
 (remO s18.2.2 2).bind fun x23 =>
 (idx [120,999] x23).bind fun x24 =>
 (appO s18.1 [x24]).bind fun x25 =>
 some (.inl (s18.1++[x24],s18.2.1++[(s18.1.length:Int)],w64 (s18.2.2+1)))
 else
 some (.inr (s18.1,s18.2.1)))) (s4.1++[120],s4.2.1,0)).bind fun x19 =>
 (appO x19.1 [59]).bind fun x26 =>
 (appO s4.2.2.1 [4,2]).bind fun x27 =>
 some (x19.1++[59],x19.2,s4.2.2.1++[4,2],s4.2.2.2.1++[(⟨((s4.1++[120]).length:Int),!s4.2.2.2.2.2.2.1⟩:Upset)],w64 (s4.2.2.2.2.1+(w64 (6+x12))),3,true))).bind fun j10 =>
 some (.inl (j10.1,j10.2.1,j10.2.2.1,j10.2.2.2.1,j10.2.2.2.2.1,j10.2.2.2.2.2.1,j10.2.2.2.2.2.2,w64 (s4.2.2.2.2.2.2.2+1)))
 else
 some (.inr (s4.1,s4.2.1,s4.2.2.1,s4.2.2.2.1,s4.2.2.2.2.1,s4.2.2.2.2.2.1)))) (([]:List Int),([]:List Int),[1],([]:List Upset),1,1,false,0)).bind fun x5 =>
 (pf8 x3.1 x3.2.1).bind fun x28 =>
 (pf7 x28 x5.1 100 1000).bind fun x29 =>
 ((bif x3.2.2 then (bif decide (x29.Kind=1) then (bif decide (x29.At=(x5.1.length:Int)) then ((pf9 x29.Prods x5.2.2.1).bind fun x33=>(bif x33 then ((pf10 x29.Upsets x5.2.2.2.1).bind fun x35=>(bif x35 then ((pf9 x29.Lost x5.2.1).bind fun x37=>(bif x37 then (bif decide (x29.Steps=x5.2.2.2.2.1) then some (decide (x29.Deep=x5.2.2.2.2.2)) else some false) else some false)) else some false)) else some false)) else some false) else some false) else some false)).bind fun c40 =>
 some c40)
end Go.Proofs
namespace Go.Own
open Go
variable {α β S R:Type}
abbrev LR (p:S->Prop) (q:R->Prop) (x:S ⊕ R):Prop:=Sum.elim p q x
def Tot (x:Option α) (Φ:α->Prop):Prop:=∃ a,x=some a/\Φ a
namespace Tot
variable {Φ Ψ:α->Prop}
theorem so {a:α}(h:Φ a):Tot (some a) Φ:=⟨a,rfl,h⟩
theorem bi {x:Option β}{f:β->Option α}(h:Tot x fun a=>Tot (f a) Φ):Tot (x.bind f) Φ:=by
 obtain ⟨a,rfl,b,hb,hΦ⟩:=h
 exact ⟨b,hb,hΦ⟩
theorem sm {f:β->Option α}{a:β}(h:Tot (f a) Φ):Tot ((some a).bind f) Φ:=h
theorem use {x:Option α}(h:Tot x Ψ) (hi:∀ a,Ψ a->Φ a):Tot x Φ:=by
 obtain ⟨a,ha,hΨ⟩:=h
 exact ⟨a,ha,hi a hΨ⟩
theorem by' {x:Option β}{f:β->Option α}{Ξ:β->Prop}(h:Tot x Ξ) (hk:∀ a,Ξ a->Tot (f a) Φ):Tot (x.bind f) Φ:=bi (h.use hk)
theorem cd {c:Bool}{a b:Option α}(ht:c=true->Tot a Φ) (hf:c=false->Tot b Φ):Tot (cond c a b) Φ:=by
 grind
theorem ap {Φ:List α->Prop}{l m:List α}(h:l.length+m.length<=lim) (hk:Φ (l++m)):Tot (appO l m) Φ:=by
 refine ⟨l++m,?_,hk⟩
 grind [appO]
theorem loop {f:S->Option (S ⊕ R)}{s0:S}{Ψ:R->Prop}(Inv:S->Prop) (μ:S->Nat) (h0:Inv s0) (hμ:μ s0<fuel)
  (hs:∀ s,Inv s->Tot (f s) (LR (fun s'=>Inv s'/\μ s'<μ s) Ψ)):Tot (loopM f s0) Ψ:=by
 have key:∀ n s,Inv s->μ s<n->Tot (iter f n s) Ψ:=by
  intro n
  induction n with
  | zero=>intro s _ h; omega
  | succ n ih =>
   intro s hI hm
   obtain ⟨x,hx,hP⟩:=hs s hI
   cases x with
   | inl s' =>
    grind [iter]
   | inr r =>
    simp only [iter,hx]
    exact ⟨r,rfl,hP⟩
 exact key fuel s0 h0 hμ
theorem count {f:S->Option (S ⊕ R)}{s0:S}{Ψ:R->Prop}(i:S->Int) (n:Int) (Inv:S->Prop) (h0:Inv s0) (hn:n - i s0<1000000000000000000)
  (hs:∀ s,Inv s->Tot (f s) (LR (fun s'=>Inv s'/\i s<i s'/\i s'<=n) Ψ)):Tot (loopM f s0) Ψ:=by
 refine loop Inv (fun s=>(n - i s).toNat) h0 (by show (n - i s0).toNat<1000000000000000000; omega) fun s hI=>(hs s hI).use fun x hx=>?_
 grind
end Tot
theorem w64_id {n:Int}(h0:-9223372036854775808<=n) (h1:n<=9223372036854775807):w64 n=n:=by
 grind [IntKind.wrap_i64]
namespace Tot
theorem cat {Φ:ByteArray->Prop}{s u:ByteArray}(h:s.size+u.size<=4611686018427387904) (hk:Φ (s++u)):Tot (catO s u) Φ:=by
 refine ⟨s++u,?_,hk⟩
 grind [catO]
theorem cut {Φ:ByteArray->Prop}{s:ByteArray}{m n:Int}(h:0<=m/\m<=n/\n<=s.size) (hk:Φ (cutS s m n)):Tot (cutO s m n) Φ:=by
 refine ⟨_,?_,hk⟩
 grind [cutO]
theorem sub {Φ:List α->Prop}{l:List α}{m n:Int}(h:0<=m/\m<=n/\n<=l.length) (hk:Φ ((l.drop m.toNat).take (n - m).toNat)):Tot (subO l m n) Φ:=by
 refine ⟨_,?_,hk⟩
 grind [subO]
theorem rem {Φ:Int->Prop}{m n:Int}(h:n≠0) (hk:Φ (m.tmod n)):Tot (remO m n) Φ:=by
 refine ⟨_,?_,hk⟩
 grind [remO]
theorem quo {Φ:Int->Prop}{m n:Int}(h:n≠0) (hk:Φ (w64 (m.tdiv n))):Tot (quoO m n) Φ:=by
 refine ⟨_,?_,hk⟩
 grind [quoO]
theorem remU {Φ:Int->Prop}{m n:Int}(h:n≠0) (hk:Φ (m.tmod n)):Tot (Own.remU m n) Φ:=by
 refine ⟨_,?_,hk⟩
 grind [Own.remU]
theorem quoU {Φ:Int->Prop}{m n:Int}(h:n≠0) (hk:Φ (IntKind.u64.wrap (m.tdiv n))):Tot (Own.quoU m n) Φ:=by
 refine ⟨_,?_,hk⟩
 grind [Own.quoU]
theorem mk {Φ:List α->Prop}{m:Int}{z:α}(h:0<=m/\m<=lim) (hk:Φ (List.replicate m.toNat z)):Tot (mkO m z) Φ:=by
 refine ⟨_,?_,hk⟩
 grind [mkO]
theorem ex {x:Option α}{Φ:α->Prop}(h:Tot x Φ):∃ a,x=some a/\Φ a:=h
end Tot
namespace Tot
theorem scan {f:Int->Option (Int ⊕ (Unit ⊕ R))}(l:List β) (P:β->Prop) (Q:R->Prop) (hl:l.length<=100000000000000000)
  (hs:∀ (s:Int) (y:β),0<=s->s<l.length->idx l s=some y->y∈l->Tot (f s) (LR (fun s'=>s'=s+1/\P y) (LR (fun _=>False) Q)))
  (he:∀ s:Int,¬ s<l.length->f s=some (.inr (.inl ()))):Tot (loopM f 0) (LR (fun _=>∀ y∈l,P y) Q):=by
 refine count (fun s=>s) l.length (fun s=>0<=s/\s<=l.length/\∀ (j:Nat) (y:β),(j:Int)<s->l[j]?=some y->P y) ⟨by omega,by omega,fun j y h=>by omega⟩ (by show (l.length:Int) - 0<_; omega) fun s hI=>?_
 obtain ⟨h0,h1,h2⟩:=hI
 by_cases hlt:s<l.length
 ·have hlt':s.toNat<l.length:=by omega
  have hi:idx l s=some l[s.toNat]:=by simp [idx,h0,hlt']
  refine (hs s _ h0 hlt hi (List.getElem_mem hlt')).use fun x hx=>?_
  rcases x with s' | ⟨⟨⟩⟩ | r
  ·obtain ⟨rfl,hP⟩:=hx
   grind
  ·grind
  grind
 ·rw [he s hlt]
  refine so fun y hy=>?_
  obtain ⟨j,hj,rfl⟩:=List.mem_iff_getElem.1 hy
  exact h2 j _ (by omega) (List.getElem?_eq_getElem hj)
end Tot
end Go.Own
namespace Go.Proofs
open Go Go.Own
set_option linter.unusedVariables false
theorem idx_end {l:List Int}{a:Int}{n:Int}(hn:n=l.length):idx (l++[a]) n=some a:=by
 subst hn
 simp [idx]
theorem e45 (d:drive_driver) (n:Int) (h0:0<=d.f_p.Steps) (h1:d.f_p.Steps<=1000000) :
  pf45 d n=some (if d.f_p.Steps=d.f_steps\/d.f_depth<n then (false,{ d with f_p:={ d.f_p with Kind:=3 } }) else (true,{ d with f_p:={ d.f_p with Steps:=d.f_p.Steps+1 } })):=by
 unfold pf45
 rw [w64_id (n:=d.f_p.Steps+1) (by omega) (by omega)]
 by_cases h:d.f_p.Steps=d.f_steps
 ·simp [h]
 ·by_cases h':d.f_depth<n
  ·simp [h,h']
  ·simp [h,h']
theorem e28 (d:drive_driver) (s:Int) (m:Nat) (n:Node) (h0:0<=d.f_p.Steps) (h1:d.f_p.Steps<=1000000) (hs:d.f_stack.length=d.f_nodes.length+1) (hl:d.f_nodes.length<=1000000) (hm:m<=d.f_nodes.length)
  (hr:d.f_p.Steps<d.f_steps) (hd:d.f_nodes.length+1 - m<=d.f_depth) :
  pf28 d s m n=some (true,{ d with f_stack:=d.f_stack.take (d.f_nodes.length+1 - m)++[s],f_nodes:=d.f_nodes.take (d.f_nodes.length - m)++[n],f_p:={ d.f_p with Steps:=d.f_p.Steps+1,Deep:=max d.f_p.Deep (d.f_nodes.length+1 - m) } }):=by
 unfold pf28
 rw [e45 d _ h0 h1,if_neg (by rw [w64_id (by omega) (by omega)]; omega)]
 have e1:w64 ((d.f_stack.length:Int) - m)=((d.f_nodes.length+1 - m:Nat):Int):=by rw [w64_id (by omega) (by omega)]; omega
 have e2:w64 ((d.f_nodes.length:Int) - m)=((d.f_nodes.length - m:Nat):Int):=by rw [w64_id (by omega) (by omega)]; omega
 simp only [Option.bind_some,Bool.not_true,cond_false,e1,e2,Int.toNat_natCast]
 have i1:inO d.f_stack ((d.f_nodes.length+1 - m:Nat):Int)=some ():=by simp [inO]; omega
 have i2:inO d.f_nodes ((d.f_nodes.length - m:Nat):Int)=some ():=by simp [inO]
 have a1:appO (d.f_stack.take (d.f_nodes.length+1 - m)) [s]=some (d.f_stack.take (d.f_nodes.length+1 - m)++[s]):=by simp [appO,lim]; omega
 have a2:appO (d.f_nodes.take (d.f_nodes.length - m)) [n]=some (d.f_nodes.take (d.f_nodes.length - m)++[n]):=by simp [appO,lim]; omega
 rw [i1,Option.bind_some,a1,Option.bind_some,i2,Option.bind_some,a2,Option.bind_some]
 have e3:w64 (((d.f_stack.take (d.f_nodes.length+1 - m)++[s]).length:Int) - 1)=(d.f_nodes.length:Int)+1 - m:=by
  simp only [List.length_append,List.length_take,List.length_cons,List.length_nil,hs]
  rw [w64_id (by omega) (by omega)]; omega
 rw [e3]
structure DOk (d:drive_driver):Prop where
 sn:d.f_stack.length=d.f_nodes.length+1
 nd:d.f_nodes.length<=d.f_depth
 dm:d.f_depth<=100000
 s0:0<=d.f_p.Steps
 ss:d.f_p.Steps<=d.f_steps
 sm:d.f_steps<=1000000
 a0:0<=d.f_p.At
 al:d.f_p.At<=d.f_toks.length
 tl:d.f_toks.length<=1000000000000
 fl:0<=d.f_flag/\d.f_flag<=3
 pl:d.f_p.Prods.length<=d.f_p.Steps
 ll:d.f_p.Lost.length<=d.f_p.Steps
 ul:d.f_p.Upsets.length<=d.f_p.Steps+1
 uf:d.f_flag≠3->d.f_p.Upsets.length<=d.f_p.Steps
theorem appO1 {α:Type}{l m:List α}(h:l.length+m.length<=2000000):appO l m=some (l++m):=by
 unfold appO lim; rw [if_pos (by omega)]
theorem n_shift {d:drive_driver}{k N:Int}(h:DOk d) (hk:pf27 d=some k) (ha:pf26 d k=some ⟨1,N⟩) (hr:d.f_p.Steps<d.f_steps) (hd:d.f_nodes.length+1<=d.f_depth) :
  pf15 d=some { d with f_stack:=d.f_stack++[N],f_nodes:=d.f_nodes++[⟨k,-1,d.f_p.At,ri eNode []⟩],f_flag:=max (d.f_flag - 1) 0,f_p:={ d.f_p with At:=d.f_p.At+1,Steps:=d.f_p.Steps+1,Deep:=max d.f_p.Deep (d.f_nodes.length+1) } }:=by
 have ⟨_,_,_,_,_,_,_,_,_,_,_,_,_,_⟩:=h
 have:=e28 d N 0 ⟨k,-1,d.f_p.At,ri eNode []⟩ (by omega) (by omega) h.sn (by omega) (by omega) hr (by omega)
 unfold pf15
 simp only [hk,ha,Option.bind_some,decide_true,cond_true,pf29]
 rw [show ((0:Nat):Int)=0 from rfl] at this
 rw [this]
 simp only [Option.bind_some,cond_true,Nat.sub_zero]
 rw [w64_id (n:=d.f_flag - 1) (by omega) (by omega),w64_id (n:=d.f_p.At+1) (by omega) (by omega),<- h.sn,List.take_length,List.take_length]
 simp
theorem n_reduce {d:drive_driver}{k p l q s:Int}{n:Nat}(h:DOk d) (hk:pf27 d=some k) (ha:pf26 d k=some ⟨2,p⟩) (hn:idx d.f_t.Len p=some (n:Int)) (hl:idx d.f_t.Left p=some l) (hl0:0<=l/\l<=1000000) (hle:n<=d.f_nodes.length)
  (hs:idx d.f_stack ((d.f_nodes.length:Int) - n)=some s) (hg:pf47 d.f_t s l=some q) (hr:d.f_p.Steps<d.f_steps) (hd:d.f_nodes.length+1 - n<=d.f_depth) :
  pf15 d=some { d with f_stack:=d.f_stack.take (d.f_nodes.length+1 - n)++[q],f_nodes:=d.f_nodes.take (d.f_nodes.length - n)++[⟨1000+l,p,-1,ri eNode (d.f_nodes.drop (d.f_nodes.length - n))⟩],f_p:={ d.f_p with Steps:=d.f_p.Steps+1,Deep:=max d.f_p.Deep (d.f_nodes.length+1 - n),Prods:=d.f_p.Prods++[p] } }:=by
 have ⟨_,_,_,_,_,_,_,_,_,_,_,_,_,_⟩:=h
 have e1:w64 ((d.f_nodes.length:Int) - n)=((d.f_nodes.length - n:Nat):Int):=by rw [w64_id (by omega) (by omega)]; omega
 have e2:w64 ((w64 ((d.f_stack.length:Int) - 1)) - n)=(d.f_nodes.length:Int) - n:=by rw [w64_id (n:=(d.f_stack.length:Int) - 1) (by omega) (by omega),w64_id (by omega) (by omega)]; omega
 have i2:inO d.f_nodes ((d.f_nodes.length - n:Nat):Int)=some ():=by simp [inO]
 have c1:pf46 (d.f_nodes.drop (d.f_nodes.length - n))=some (d.f_nodes.drop (d.f_nodes.length - n)):=by simp [pf46,cloneO]; omega
 have hp:=e28 d q n ⟨1000+l,p,-1,ri eNode (d.f_nodes.drop (d.f_nodes.length - n))⟩ (by omega) (by omega) h.sn (by omega) hle hr (by omega)
 have ap:appO d.f_p.Prods [p]=some (d.f_p.Prods++[p]):=appO1 (by simp; omega)
 have hR:pf30 d p=some { d with f_stack:=d.f_stack.take (d.f_nodes.length+1 - n)++[q],f_nodes:=d.f_nodes.take (d.f_nodes.length - n)++[⟨1000+l,p,-1,ri eNode (d.f_nodes.drop (d.f_nodes.length - n))⟩],f_p:={ d.f_p with Steps:=d.f_p.Steps+1,Deep:=max d.f_p.Deep (d.f_nodes.length+1 - n),Prods:=d.f_p.Prods++[p] } }:=by
  unfold pf30
  simp only [hn,hl,Option.bind_some,e1,e2,i2,Int.toNat_natCast,c1,hs,hg]
  rw [w64_id (n:=1000+l) (by omega) (by omega),hp]
  simp only [Option.bind_some,cond_true,ap]
 unfold pf15
 simp only [hk,ha,Option.bind_some,hR]
 simp
theorem n_lose {d:drive_driver}{k:Int}{a:Act}(h:DOk d) (hk:pf27 d=some k) (ha:pf26 d k=some a) (h1:a.Kind≠1) (h2:a.Kind≠2) (h3:a.Kind≠3) (hf:d.f_flag=3) (hk0:k≠0) (hr:d.f_p.Steps<d.f_steps) :
  pf15 d=some { d with f_p:={ d.f_p with At:=d.f_p.At+1,Steps:=d.f_p.Steps+1,Lost:=d.f_p.Lost++[d.f_p.At] } }:=by
 have ⟨_,_,_,_,_,_,_,_,_,_,_,_,_,_⟩:=h
 have ap:appO d.f_p.Lost [d.f_p.At]=some (d.f_p.Lost++[d.f_p.At]):=appO1 (by simp; omega)
 have hL:pf48 d=some { d with f_p:={ d.f_p with At:=d.f_p.At+1,Steps:=d.f_p.Steps+1,Lost:=d.f_p.Lost++[d.f_p.At] } }:=by
  unfold pf48
  rw [hk,Option.bind_some,e45 d _ h.s0 (by omega),if_neg (by rw [w64_id (by omega) (by omega)]; omega)]
  simp only [hk0,decide_false,cond_false,Option.bind_some,cond_true,ap]
  rw [w64_id (n:=d.f_p.At+1) (by omega) (by omega)]
 unfold pf15
 simp only [hk,ha,Option.bind_some,h1,h2,h3,decide_false,cond_false]
 unfold pf31
 simp only [hf,decide_true,cond_true,hL,Option.bind_some]
theorem n_accept {d:drive_driver}{k N:Int}{x:Node}(h:DOk d) (hk:pf27 d=some k) (ha:pf26 d k=some ⟨3,N⟩) (hx:idx d.f_nodes ((d.f_nodes.length:Int) - 1)=some x) :
  pf15 d=some { d with f_p:={ d.f_p with Kind:=1,Tree:=x } }:=by
 have ⟨_,_,_,_,_,_,_,_,_,_,_,_,_,_⟩:=h
 unfold pf15
 simp only [hk,ha,Option.bind_some]
 rw [w64_id (n:=(d.f_nodes.length:Int) - 1) (by omega) (by omega),hx]
 simp
def popn (d:drive_driver) (j:Nat):drive_driver:={ d with f_stack:=d.f_stack.take (d.f_stack.length - j),f_nodes:=d.f_nodes.take (d.f_nodes.length - j),f_p:={ d.f_p with Steps:=d.f_p.Steps+j } }
def upset (d:drive_driver):drive_driver:={ d with f_flag:=3,f_p:={ d.f_p with Upsets:=d.f_p.Upsets++[⟨d.f_p.At,decide (d.f_flag=0)⟩] } }
theorem popn_0 (d:drive_driver):popn d 0=d:=by
 unfold popn
 simp
theorem tot_is {α:Type}{x:Option α}{a:α}(h:Tot x fun r=>r=a):x=some a:=by
 obtain ⟨_,h,rfl⟩:=h
 exact h
theorem n_mend {d:drive_driver}{k:Int}{a:Act}{N:Int}{n:Nat}(h:DOk d) (hk:pf27 d=some k) (ha:pf26 d k=some a) (h1:a.Kind≠1) (h2:a.Kind≠2) (h3:a.Kind≠3) (hf:d.f_flag≠3)
  (hn:n<=d.f_nodes.length) (hp:∀ j,j<n->∃ b,pf26 (popn (upset d) j) 1=some b/\b.Kind≠1) (hq:pf26 (popn (upset d) n) 1=some ⟨1,N⟩) (hr:d.f_p.Steps+n<d.f_steps) (hd:d.f_nodes.length+1 - n<=d.f_depth) :
  pf15 d=some { popn (upset d) n with f_stack:=(popn (upset d) n).f_stack++[N],f_nodes:=(popn (upset d) n).f_nodes++[⟨1,-1,d.f_p.At,ri eNode []⟩],f_p:={ (popn (upset d) n).f_p with Steps:=(popn (upset d) n).f_p.Steps+1,Deep:=max d.f_p.Deep (d.f_nodes.length - n+1) } }:=by
 have ⟨_,_,_,_,_,_,_,_,_,_,_,_,_,_⟩:=h
 have up:=h.uf hf
 have ap:appO d.f_p.Upsets [(⟨d.f_p.At,decide (d.f_flag=0)⟩:Upset)]=some (d.f_p.Upsets++[⟨d.f_p.At,decide (d.f_flag=0)⟩]):=appO1 (by simp; omega)
 obtain ⟨c0,hc0⟩:∃ c,pf26 (upset d) 1=some c:=by
  by_cases h0:n=0
  ·subst h0; rw [popn_0] at hq; exact ⟨_,hq⟩
  ·obtain ⟨b,hb,_⟩:=hp 0 (by omega); rw [popn_0] at hb; exact ⟨_,hb⟩
 have hM:pf31 d=some { popn (upset d) n with f_stack:=(popn (upset d) n).f_stack++[N],f_nodes:=(popn (upset d) n).f_nodes++[⟨1,-1,d.f_p.At,ri eNode []⟩],f_p:={ (popn (upset d) n).f_p with Steps:=(popn (upset d) n).f_p.Steps+1,Deep:=max d.f_p.Deep (d.f_nodes.length - n+1) } }:=by
  unfold pf31
  simp only [hf,decide_false,cond_false,ap,Option.bind_some]
  have hc1:=hc0
  unfold upset at hc1
  rw [hc1,Option.bind_some]
  refine tot_is ?_
  apply Tot.by' (Ξ:=fun r=>r=.inl (popn (upset d) n,1,N))
  ·refine Tot.loop (fun s=>∃ j,j<=n/\s.1=popn (upset d) j/\pf26 (popn (upset d) j) 1=some ⟨s.2.1,s.2.2⟩) (fun s=>(s.1.f_nodes.length+1) - (d.f_nodes.length - n)) ⟨0,by omega,by rw [popn_0]; rfl,by rw [popn_0,hc0]⟩ ?_ ?_
   ·show d.f_nodes.length+1 - (d.f_nodes.length - n)<1000000000000000000
    omega
   ·rintro ⟨s,ka,na⟩ ⟨j,hj,hs,hact⟩
    simp only at hs hact
    subst hs
    have ln:(popn (upset d) j).f_nodes.length=d.f_nodes.length - j:=by simp [popn,upset]
    have ls:(popn (upset d) j).f_stack.length=d.f_nodes.length+1 - j:=by simp [popn,upset]; omega
    by_cases hjn:j=n
    ·subst hjn
     rw [hq] at hact
     cases hact
     exact Tot.so rfl
    ·obtain ⟨b,hb,hbk⟩:=hp j (by omega)
     rw [hact] at hb
     cases hb
     simp only at hbk
     have t1:w64 (((popn (upset d) j).f_stack.length:Int) - 1)=((d.f_nodes.length - j:Nat):Int):=by rw [ls,w64_id (by omega) (by omega)]; omega
     have t2:w64 (((d.f_nodes.length - j:Nat):Int) - 1)=((d.f_nodes.length - j - 1:Nat):Int):=by rw [w64_id (by omega) (by omega)]; omega
     have e:=e45 (popn (upset d) j) ((d.f_nodes.length - j - 1:Nat):Int) (by simp [popn,upset]; omega) (by simp [popn,upset]; omega)
     rw [if_neg (by simp [popn,upset]; omega)] at e
     have i1:inO (popn (upset d) j).f_stack ((d.f_nodes.length - j:Nat):Int)=some ():=by simp [inO,ls]; omega
     have i2:inO (popn (upset d) j).f_nodes ((d.f_nodes.length - j - 1:Nat):Int)=some ():=by simp [inO,ln]
     have pe:({ popn (upset d) j with f_stack:=(popn (upset d) j).f_stack.take (d.f_nodes.length - j),f_nodes:=(popn (upset d) j).f_nodes.take (d.f_nodes.length - j - 1),f_p:={ (popn (upset d) j).f_p with Steps:=(popn (upset d) j).f_p.Steps+1 } }:drive_driver)=popn (upset d) (j+1):=by
      have x1:min (d.f_nodes.length - j) (d.f_stack.length - j)=d.f_stack.length - (j+1):=by omega
      have x2:min (d.f_nodes.length - j - 1) (d.f_nodes.length - j)=d.f_nodes.length - (j+1):=by omega
      have x3:d.f_p.Steps+(j:Int)+1=d.f_p.Steps+((j+1:Nat):Int):=by omega
      simp only [popn,upset,List.take_take,x1,x2,x3]
     have q:∃ c,pf26 (popn (upset d) (j+1)) 1=some c:=by
      by_cases h0:j+1=n
      ·rw [h0]; exact ⟨_,hq⟩
      ·obtain ⟨b,hb,_⟩:=hp (j+1) (by omega); exact ⟨_,hb⟩
     obtain ⟨c,hc⟩:=q
     simp only [hbk,decide_false,Bool.not_false,cond_true,t1,t2]
     rw [decide_eq_false (by omega),cond_false,e]
     simp only [Option.bind_some,Bool.not_true,cond_false,i1,i2,Int.toNat_natCast]
     rw [pe,hc]
     refine Tot.so ⟨⟨j+1,by omega,rfl,hc⟩,?_⟩
     have ln':(popn (upset d) (j+1)).f_nodes.length=d.f_nodes.length - (j+1):=by simp [popn,upset]
     show (popn (upset d) (j+1)).f_nodes.length+1 - _<(popn (upset d) j).f_nodes.length+1 - _
     omega
  ·rintro r rfl
   have ln:(popn (upset d) n).f_nodes.length=d.f_nodes.length - n:=by simp [popn,upset]
   have ls:(popn (upset d) n).f_stack.length=d.f_nodes.length+1 - n:=by simp [popn,upset]; omega
   have:=e28 (popn (upset d) n) N 0 ⟨1,-1,d.f_p.At,ri eNode []⟩ (by simp [popn,upset]; omega) (by simp [popn,upset]; omega) (by rw [ln,ls]; omega) (by omega) (by omega) (by simp [popn,upset]; omega) (by rw [ln]; simp [popn,upset]; omega)
   rw [show ((0:Nat):Int)=0 from rfl] at this
   have x4:((popn (upset d) n).f_nodes.length:Int)+1 - 0=d.f_nodes.length - n+1:=by omega
   have x5:(popn (upset d) n).f_nodes.length+1 - 0=(popn (upset d) n).f_stack.length:=by omega
   rw [x4,x5,Nat.sub_zero,List.take_length,List.take_length] at this
   show Tot ((pf29 (popn (upset d) n) 1).bind fun x16=>(pf28 (popn (upset d) n) N 0 x16).bind fun x17=>some x17.2) _
   simp only [pf29,Option.bind_some]
   rw [show (popn (upset d) n).f_p.At=d.f_p.At from rfl,this]
   exact Tot.so rfl
 unfold pf15
 simp only [hk,ha,Option.bind_some,h1,h2,h3,decide_false,cond_false,hM]
def T5:Tables:=⟨[1,-1,-1,-1,2,4,3],⟨[0,0,0,1,0,0,0],[20001,3,0,4,6,7],[2,2,0,2,3,4]⟩,[-1,1,4],⟨[0,0,0],[],[]⟩,[0,1,1,2,2],[1,0,2,2,2],[⟨59,4⟩,⟨120,3⟩]⟩
def drv (toks st:List Int) (nodes:List Node) (fl at' s dp:Int) (pr:List Int) (up:List Upset) (lo:List Int):drive_driver:=⟨T5,toks,100,1000,st,nodes,fl,⟨0,at',s,dp,pr,up,lo,⟨0,0,0,ri0⟩⟩⟩
theorem a26 {toks S:List Int}{ns:List Node}{fl a s dp:Int}{pr lo:List Int}{up:List Upset}{q k:Int}{r:Act}(h:pf44 T5 q k=some r) (hl:S.length<=1000000):pf26 (drv toks (S++[q]) ns fl a s dp pr up lo) k=some r:=by
 unfold pf26
 have:w64 (((S++[q]).length:Int) - 1)=S.length:=by
  simp only [List.length_append,List.length_cons,List.length_nil]
  rw [w64_id (by omega) (by omega)]; omega
 show (idx (S++[q]) (w64 (((S++[q]).length:Int) - 1))).bind _=_
 rw [this,idx_end rfl,Option.bind_some]
 show (pf44 T5 q k).bind _=_
 rw [h]; rfl
inductive Ru:Nat->drive_driver->drive_driver->Prop
 | nil {d:drive_driver}:Ru 0 d d
 | one {n:Nat}{d e f:drive_driver}(hk:d.f_p.Kind=0) (h:pf15 d=some e) (t:Ru n e f):Ru (n+1) d f
theorem Ru.add {n m:Nat}{d e f:drive_driver}(h:Ru n d e) (t:Ru m e f):Ru (n+m) d f:=by
 induction h with
 | nil=>simpa using t
 | @one n d e g hk h _ ih=>rw [Nat.add_right_comm]; exact .one hk h (ih t)
def dloop (d:drive_driver):Option drive_driver:=loopM (R:=drive_driver) (fun (s10:drive_driver) =>
 (bif decide (s10.f_p.Kind=0) then
 (pf15 s10).bind fun x14 =>
 some (.inl x14)
 else
 some (.inr s10))) d
theorem Ru.loop {n:Nat}{d e:drive_driver}(h:Ru n d e) (hn:n<1000000000) (hk:e.f_p.Kind≠0):dloop d=some e:=by
 have key:∀ m,iter (fun (s10:drive_driver)=>(bif decide (s10.f_p.Kind=0) then (pf15 s10).bind fun x14=>some (.inl x14) else some (.inr s10):Option (drive_driver ⊕ drive_driver))) (n+(m+1)) d=some e:=by
  intro m
  clear hn
  induction h with
  | nil=>simp [iter,hk]
  | @one n d e g hk' h _ ih =>
   rw [Nat.add_right_comm]
   simp only [iter,hk',decide_true,cond_true,h,Option.bind_some]
   exact ih hk
 have:=key (fuel - n - 1)
 rw [show n+(fuel - n - 1+1)=fuel by unfold fuel; omega] at this
 exact this
theorem tk_at {toks st:List Int}{ns:List Node}{fl a s dp:Int}{pr lo:List Int}{up:List Upset}{k:Int}(h:idx toks a=some k):pf27 (drv toks st ns fl a s dp pr up lo)=some k:=by
 have ⟨h0,h1,_⟩:=idx_spec h
 unfold pf27
 show (bif decide ((toks.length:Int)<=a) then some 0 else (idx toks a).bind fun x2=>some x2)=some k
 rw [decide_eq_false (by omega),cond_false,h]; rfl
theorem tk_end {toks st:List Int}{ns:List Node}{fl a s dp:Int}{pr lo:List Int}{up:List Upset}(h:(toks.length:Int)<=a):pf27 (drv toks st ns fl a s dp pr up lo)=some 0:=by
 unfold pf27
 show (bif decide ((toks.length:Int)<=a) then some 0 else (idx toks a).bind fun x2=>some x2)=some 0
 rw [decide_eq_true h]; rfl
def tk (toks:List Int) (a:Int):Option Int:=if (toks.length:Int)<=a then some 0 else idx toks a
theorem tk_is {toks st:List Int}{ns:List Node}{fl a s dp:Int}{pr lo:List Int}{up:List Upset}{k:Int}(h:tk toks a=some k):pf27 (drv toks st ns fl a s dp pr up lo)=some k:=by
 unfold tk at h
 split at h
 ·cases h; exact tk_end (by assumption)
 ·exact tk_at h
structure Nm (toks:List Int) (fl at' st:Int) (pr:List Int) (up:List Upset) (lo:List Int):Prop where
 f:0<=fl/\fl<=3
 a:0<=at'/\at'<=toks.length
 t:toks.length<=100000
 s:0<=st/\st<=1000
 p:pr.length<=st
 u:up.length<=st+1
 uf:fl≠3->up.length<=st
 l:lo.length<=st
theorem Nm.ok {toks st:List Int}{ns:List Node}{fl a s dp:Int}{pr lo:List Int}{up:List Upset}(h:Nm toks fl a s pr up lo) (hs:st.length=ns.length+1) (hn:ns.length<=100):DOk (drv toks st ns fl a s dp pr up lo):=by
 obtain ⟨_,_,_,_,_,_,_,_⟩:=h
 refine ⟨hs,?_,?_,?_,?_,?_,?_,?_,?_,?_,?_,?_,?_,?_⟩ <;> simp only [drv] <;> omega
theorem l_shift {toks S:List Int}{ns:List Node}{fl a s dp:Int}{pr lo:List Int}{up:List Upset}{q k N:Int}(h:Nm toks fl a s pr up lo) (hs:S.length=ns.length) (hn:ns.length<100) (hk:tk toks a=some k) (ha:pf44 T5 q k=some ⟨1,N⟩) (hr:s<1000) :
  ∃ x,Ru 1 (drv toks (S++[q]) ns fl a s dp pr up lo) (drv toks (S++[q]++[N]) (ns++[x]) (max (fl - 1) 0) (a+1) (s+1) (max dp (ns.length+1)) pr up lo) :=
 ⟨_,.one rfl (n_shift (h.ok (by simp [hs]) (by omega)) (tk_is hk) (a26 ha (by omega)) hr (by show (ns.length:Int)+1<=100; omega)) .nil⟩
theorem l_reduce {toks S R:List Int}{ns ms:List Node}{fl a s dp:Int}{pr lo:List Int}{up:List Upset}{q k p l g t:Int}(h:Nm toks fl a s pr up lo) (hs:S.length=ns.length) (hR:(R++[q]).length=ms.length+1+0) (hn:ns.length+ms.length<100) (hk:tk toks a=some k) (ha:pf44 T5 q k=some ⟨2,p⟩) (hr:s<1000)
  (hlen:idx T5.Len p=some (ms.length:Int)) (hl:idx T5.Left p=some l) (hl0:0<=l/\l<=1000000) (hst:idx (S++(R++[q])) (ns.length:Int)=some t) (hg:pf47 T5 t l=some g) :
  ∃ x,Ru 1 (drv toks (S++R++[q]) (ns++ms) fl a s dp pr up lo) (drv toks ((S++(R++[q])).take (ns.length+1)++[g]) (ns++[x]) fl a (s+1) (max dp (ns.length+1)) (pr++[p]) up lo):=by
 have hR':R.length=ms.length:=by simpa using hR
 have:=n_reduce (d:=drv toks (S++R++[q]) (ns++ms) fl a s dp pr up lo) (n:=ms.length) (q:=g) (s:=t) (h.ok (by simp; omega) (by simp; omega)) (tk_is hk) (a26 ha (by simp; omega)) hlen hl hl0 (by show ms.length<=(ns++ms).length; simp) (by
  show idx (S++R++[q]) (((ns++ms).length:Int) - ms.length)=some t
  rw [List.append_assoc,show (((ns++ms).length:Int) - ms.length)=ns.length by simp]
  exact hst) hg hr (by show (((ns++ms).length:Nat):Int)+1 - ms.length<=100; simp; omega)
 have e1:(ns++ms).length+1 - ms.length=ns.length+1:=by simp; omega
 have e2:(ns++ms).length - ms.length=ns.length:=by simp
 have e3:(((ns++ms).length:Nat):Int)+1 - ms.length=ns.length+1:=by simp; omega
 simp only [drv] at this
 rw [e1,e2,e3,List.take_left,List.append_assoc] at this
 rw [List.append_assoc]
 exact ⟨_,.one rfl this .nil⟩
section
variable {toks:List Int}{fl a s dp:Int}{pr lo:List Int}{up:List Upset}
theorem Nm.sh (h:Nm toks fl a s pr up lo) (ha:a+1<=toks.length) (hs:s+1<=1000):Nm toks (max (fl - 1) 0) (a+1) (s+1) pr up lo:=by
 obtain ⟨_,_,_,_,_,_,_,_⟩:=h
 refine ⟨?_,?_,?_,?_,?_,?_,?_,?_⟩ <;> omega
theorem Nm.rd {p:Int}(h:Nm toks fl a s pr up lo) (hs:s+1<=1000):Nm toks fl a (s+1) (pr++[p]) up lo:=by
 obtain ⟨_,_,_,_,_,_,_,_⟩:=h
 refine ⟨?_,?_,?_,?_,by simp; omega,?_,?_,?_⟩ <;> omega
theorem Nm.ls {p:Int}(h:Nm toks fl a s pr up lo) (ha:a+1<=toks.length) (hs:s+1<=1000):Nm toks fl (a+1) (s+1) pr up (lo++[p]):=by
 obtain ⟨_,_,_,_,_,_,_,_⟩:=h
 refine ⟨?_,?_,?_,?_,?_,?_,?_,by simp; omega⟩ <;> omega
theorem Nm.up' {u:Upset}(h:Nm toks fl a s pr up lo) (hf:fl≠3) (hs:s+2<=1000):Nm toks 3 a (s+2) pr (up++[u]) lo:=by
 obtain ⟨_,_,_,_,_,_,hu,_⟩:=h
 have:=hu hf
 refine ⟨?_,?_,?_,?_,?_,by simp; omega,by simp,?_⟩ <;> omega
theorem good {n0:Node}{k:Int}(h:Nm toks fl a s pr up lo) (hs:s+4<=1000) (ha:a+2<=toks.length) (h0:tk toks a=some 3) (h1:tk toks (a+1)=some 4) (hk:tk toks (a+2)=some k) (hk':k=0\/k=3) :
  ∃ n1,Ru 4 (drv toks [0,1] [n0] fl a s dp pr up lo) (drv toks [0,1] [n1] (max (max (fl - 1) 0 - 1) 0) (a+2) (s+4) (max dp 3) (pr++[3,2]) up lo):=by
 have m1:=h.sh (by omega) (by omega)
 have m2:=m1.sh (by omega) (by omega)
 have m3:=m2.rd (p:=3) (by omega)
 have e2:a+1+1=a+2:=by omega
 obtain ⟨x1,r1⟩:=l_shift (S:=[0]) (q:=1) (ns:=[n0]) (dp:=dp) (k:=3) (N:=3) h rfl (by simp) h0 (by kernel_rfl) (by omega)
 obtain ⟨x2,r2⟩:=l_shift (S:=[0,1]) (q:=3) (ns:=[n0,x1]) (dp:=max dp 2) (k:=4) (N:=6) m1 rfl (by simp) h1 (by kernel_rfl) (by omega)
 obtain ⟨x3,r3⟩:=l_reduce (S:=[0]) (R:=[1,3]) (q:=6) (ns:=[n0]) (ms:=[x1,x2]) (dp:=max (max dp 2) 3) (k:=k) (p:=3) (l:=2) (g:=4) (t:=1) m2 rfl rfl (by simp) (by rw [e2]; exact hk) (by rcases hk' with rfl | rfl <;> kernel_rfl) (by omega) rfl rfl (by omega) rfl (by kernel_rfl)
 obtain ⟨x4,r4⟩:=l_reduce (S:=[]) (R:=[0,1]) (q:=4) (ns:=[]) (ms:=[n0,x3]) (dp:=max (max (max dp 2) 3) 2) (k:=k) (p:=2) (l:=1) (g:=1) (t:=0) m3 rfl rfl (by simp) (by rw [e2]; exact hk) (by rcases hk' with rfl | rfl <;> kernel_rfl) (by omega) rfl rfl (by omega) rfl (by kernel_rfl)
 refine ⟨x4,?_⟩
 have:=Ru.add r1 (Ru.add r2 (Ru.add r3 r4))
 have e:drv toks [0,1] [x4] (max (max (fl - 1) 0 - 1) 0) (a+2) (s+4) (max dp 3) (pr++[3,2]) up lo=drv toks [0,1] [x4] (max (max (fl - 1) 0 - 1) 0) (a+1+1) (s+1+1+1+1) (max (max (max (max dp 2) 3) 2) 1) (pr++[3]++[2]) up lo:=by
  congr 1
  ·omega
  ·omega
  ·omega
  ·simp
 rw [e]
 exact this
theorem l_lose {ns:List Node}{t:Int}(h:Nm toks 3 a s pr up lo) (hn:ns.length=2) (hk:tk toks a=some t) (ht:t=3\/t=2) (hs:s+1<=1000) :
  Ru 1 (drv toks [0,1,2] ns 3 a s dp pr up lo) (drv toks [0,1,2] ns 3 (a+1) (s+1) dp pr up (lo++[a])):=by
 have hact:pf26 (drv toks [0,1,2] ns 3 a s dp pr up lo) t=some ⟨0,0⟩:=a26 (S:=[0,1]) (q:=2) (by rcases ht with rfl | rfl <;> kernel_rfl) (by simp)
 exact .one rfl (n_lose (h.ok (by simp [hn]) (by omega)) (tk_is hk) hact (by decide) (by decide) (by decide) rfl (by omega) (show s<1000 by omega)) .nil
theorem l_loses {ns:List Node}(k:Nat):∀ {a s:Int}{lo:List Int},Nm toks 3 a s pr up lo->ns.length=2->(∀ j:Nat,j<k->∃ t,tk toks (a+j)=some t/\(t=3\/t=2))->a+k<=toks.length->s+k<=1000 ->
  Ru k (drv toks [0,1,2] ns 3 a s dp pr up lo) (drv toks [0,1,2] ns 3 (a+k) (s+k) dp pr up (lo++(List.range k).map fun j:Nat=>a+(j:Int)))/\Nm toks 3 (a+k) (s+k) pr up (lo++(List.range k).map fun j:Nat=>a+(j:Int)):=by
 induction k with
 | zero=>intro a s lo h _ _ _ _; simpa using ⟨Ru.nil,h⟩
 | succ k ih =>
  intro a s lo h hn ht ha hs
  obtain ⟨r,m⟩:=ih h hn (fun j hj=>ht j (by omega)) (by omega) (by omega)
  obtain ⟨t,htk,h3⟩:=ht k (by omega)
  have r2:=l_lose (dp:=dp) m hn htk h3 (by omega)
  have m2:=m.ls (p:=a+k) (by omega) (by omega)
  have e1:a+((k+1:Nat):Int)=a+k+1:=by omega
  have e2:s+((k+1:Nat):Int)=s+k+1:=by omega
  have e3:lo++(List.range (k+1)).map (fun j:Nat=>a+(j:Int))=lo++(List.range k).map (fun j:Nat=>a+(j:Int))++[a+(k:Int)]:=by simp [List.range_succ]
  rw [e1,e2,e3]
  exact ⟨r.add r2,m2⟩
theorem spoilt {n0:Node}{z:Int}{k:Nat}(h:Nm toks fl a s pr up lo) (hf:fl<=2) (hk1:1<=k) (hs:s+6+k<=1000) (ha:a+2+k<=toks.length) (h0:tk toks a=some 3) (h1:tk toks (a+1)=some 3) (hj:∀ j:Nat,j<k->∃ t,tk toks (a+1+j)=some t/\(t=3\/t=2)) (h2:tk toks (a+1+k)=some 4) (hz:tk toks (a+2+k)=some z) (hz':z=0\/z=3) :
  ∃ n1,Ru (5+k) (drv toks [0,1] [n0] fl a s dp pr up lo) (drv toks [0,1] [n1] 2 (a+2+k) (s+6+k) (max dp 3) (pr++[4,2]) (up++[⟨a+1,decide (max (fl - 1) 0=0)⟩]) (lo++(List.range k).map fun j:Nat=>a+1+(j:Int))):=by
 have m1:=h.sh (by omega) (by omega)
 obtain ⟨x1,r1⟩:=l_shift (S:=[0]) (q:=1) (ns:=[n0]) (dp:=dp) (k:=3) (N:=3) h rfl (by simp) h0 (by kernel_rfl) (by omega)
 have hf1:max (fl - 1) 0≠3:=by omega
 have m2:=m1.up' (u:=⟨a+1,decide (max (fl - 1) 0=0)⟩) hf1 (by omega)
 have q1:pf26 (drv toks [0,1,3] [n0,x1] (max (fl - 1) 0) (a+1) (s+1) (max dp 2) pr up lo) 3=some ⟨0,0⟩:=a26 (S:=[0,1]) (q:=3) (by kernel_rfl) (by simp)
 have q2:pf26 (popn (upset (drv toks [0,1,3] [n0,x1] (max (fl - 1) 0) (a+1) (s+1) (max dp 2) pr up lo)) 0) 1=some ⟨0,0⟩:=by
  rw [popn_0]; exact a26 (S:=[0,1]) (q:=3) (by kernel_rfl) (by simp)
 have q3:pf26 (popn (upset (drv toks [0,1,3] [n0,x1] (max (fl - 1) 0) (a+1) (s+1) (max dp 2) pr up lo)) 1) 1=some ⟨1,2⟩:=a26 (S:=[0]) (q:=1) (by kernel_rfl) (by simp)
 have g:=n_mend (n:=1) (m1.ok (st:=[0,1,3]) (ns:=[n0,x1]) (dp:=max dp 2) rfl (by simp)) (tk_is h1) q1 (by decide) (by decide) (by decide) hf1 (by show 1<=2; omega) (fun j hj=>by
  obtain rfl:j=0:=by omega
  exact ⟨_,q2,by decide⟩) q3 (by show s+1+((1:Nat):Int)<1000; omega) (by show ((2:Nat):Int)+1 - ((1:Nat):Int)<=100; omega)
 have r2:Ru 1 (drv toks [0,1,3] [n0,x1] (max (fl - 1) 0) (a+1) (s+1) (max dp 2) pr up lo) (drv toks [0,1,2] [n0,⟨1,-1,a+1,ri eNode []⟩] 3 (a+1) (s+1+2) (max (max dp 2) 2) pr (up++[⟨a+1,decide (max (fl - 1) 0=0)⟩]) lo):=by
  have e:s+1+2=s+1+((1:Nat):Int)+1:=by omega
  rw [e]
  exact .one rfl g .nil
 obtain ⟨r3,m3⟩:=l_loses (dp:=max (max dp 2) 2) (ns:=[n0,⟨1,-1,a+1,ri eNode []⟩]) k m2 rfl (fun j hj'=>hj j hj') (by omega) (by omega)
 have m4:=m3.sh (by omega) (by omega)
 have m5:=m4.rd (p:=4) (by omega)
 have e2:a+1+k+1=a+2+k:=by omega
 obtain ⟨x4,r4⟩:=l_shift (S:=[0,1]) (q:=2) (ns:=[n0,⟨1,-1,a+1,ri eNode []⟩]) (dp:=max (max dp 2) 2) (k:=4) (N:=5) m3 rfl (by simp) h2 (by kernel_rfl) (by omega)
 obtain ⟨x5,r5⟩:=l_reduce (S:=[0]) (R:=[1,2]) (q:=5) (ns:=[n0]) (ms:=[⟨1,-1,a+1,ri eNode []⟩,x4]) (dp:=max (max (max dp 2) 2) 3) (k:=z) (p:=4) (l:=2) (g:=4) (t:=1) m4 rfl rfl (by simp) (by rw [e2]; exact hz) (by rcases hz' with rfl | rfl <;> kernel_rfl) (by omega) rfl rfl (by omega) rfl (by kernel_rfl)
 obtain ⟨x6,r6⟩:=l_reduce (S:=[]) (R:=[0,1]) (q:=4) (ns:=[]) (ms:=[n0,x5]) (dp:=max (max (max (max dp 2) 2) 3) 2) (k:=z) (p:=2) (l:=1) (g:=1) (t:=0) m5 rfl rfl (by simp) (by rw [e2]; exact hz) (by rcases hz' with rfl | rfl <;> kernel_rfl) (by omega) rfl rfl (by omega) rfl (by kernel_rfl)
 refine ⟨x6,?_⟩
 have:=Ru.add r1 (Ru.add r2 (Ru.add r3 (Ru.add r4 (Ru.add r5 r6))))
 have e:drv toks [0,1] [x6] 2 (a+2+k) (s+6+k) (max dp 3) (pr++[4,2]) (up++[⟨a+1,decide (max (fl - 1) 0=0)⟩]) (lo++(List.range k).map fun j:Nat=>a+1+(j:Int))=drv toks [0,1] [x6] (max (3 - 1) 0) (a+1+k+1) (s+1+2+k+1+1+1) (max (max (max (max (max dp 2) 2) 3) 2) 1) (pr++[4]++[2]) (up++[⟨a+1,decide (max (fl - 1) 0=0)⟩]) (lo++(List.range k).map fun j:Nat=>a+1+(j:Int)):=by
  congr 1
  ·omega
  ·omega
  ·omega
  ·simp
 rw [e,show 5+k=1+(1+(k+(1+(1+1)))) by omega]
 exact this
end
theorem tk_app {p r:List Int}{j:Int}(h:0<=j):tk (p++r) ((p.length:Int)+j)=tk r j:=by
 have e:((p.length:Int)+j).toNat=p.length+j.toNat:=by omega
 unfold tk idx
 simp only [List.length_append,e]
 by_cases hr:(r.length:Int)<=j
 ·rw [if_pos (by omega),if_pos hr]
 ·rw [if_neg (by omega),if_neg hr,if_pos (by omega),if_pos h,List.getElem?_append_right (by omega)]
  congr 1; omega
theorem tk_0 {x:Int}{r:List Int}:tk (x::r) 0=some x:=by
 unfold tk idx
 rw [if_neg (by simp)]; simp
theorem tk_s {x:Int}{r:List Int}{j:Int}(h:0<=j):tk (x::r) (j+1)=tk r j:=by
 have:=tk_app (p:=[x]) (r:=r) h
 rw [<- this]; congr 1; simp only [List.length_cons,List.length_nil]; omega
theorem tk_j {r q:List Int}{j:Nat}(h:j<r.length):tk (r++q) (j:Int)=r[j]?:=by
 unfold tk idx
 rw [if_neg (by simp; omega),if_pos (by omega),Int.toNat_natCast,List.getElem?_append_left h]
def junk (k:Nat):List Int:=(List.range k).map fun j=>if j % 2=0 then 120 else 999
def lnOf (k:Nat):List Int:=if k=0 then [120,59] else 120::(junk k++[59])
def tn (x:Int):Int:=if x=120 then 3 else if x=59 then 4 else 2
structure Acc where
 l:List Int
 lost:List Int
 prods:List Int
 ups:List Upset
 steps:Int
 deep:Int
 was:Bool
def stp (a:Acc) (k:Nat):Acc:=if k=0 then ⟨a.l++lnOf k,a.lost,a.prods++[3,2],a.ups,a.steps+4,3,false⟩ else
 ⟨a.l++lnOf k,a.lost++(List.range k).map (fun j:Nat=>(a.l.length:Int)+1+(j:Int)),a.prods++[4,2],a.ups++[⟨(a.l.length:Int)+1,!a.was⟩],a.steps+6+k,3,true⟩
def flOf (a:Acc):Int:=if a.was then 2 else 0
def dOf (toks:List Int) (n:Node) (a:Acc):drive_driver:=drv toks [0,1] [n] (flOf a) a.l.length a.steps a.deep a.prods a.ups a.lost
theorem junk_len (k:Nat):(junk k).length=k:=by simp [junk]
theorem ln_len (k:Nat):(lnOf k).length=k+2:=by
 unfold lnOf
 split
 ·simp [*]
 ·simp [junk_len]
theorem ln_0 (k:Nat) (R:List Int):tk ((lnOf k).map tn++R) 0=some 3:=by
 unfold lnOf
 split <;> exact tk_0
structure ANm (a:Acc):Prop where
 d:a.deep=1\/a.deep=3
 s:0<=a.steps
 p:a.prods.length<=a.steps
 u:a.ups.length<=a.steps
 l:a.lost.length<=a.steps
theorem ANm.nm {a:Acc}{toks:List Int}(h:ANm a) (hs:a.steps<=1000) (ht:a.l.length<=toks.length) (hl:toks.length<=100000):Nm toks (flOf a) a.l.length a.steps a.prods a.ups a.lost:=by
 obtain ⟨_,_,_,_,_⟩:=h
 have hf:flOf a=0\/flOf a=2:=by unfold flOf; split <;> simp
 refine ⟨?_,?_,?_,?_,?_,?_,?_,?_⟩ <;> omega
theorem ANm.stp {a:Acc}{k:Nat}(h:ANm a):ANm (stp a k):=by
 obtain ⟨_,_,_,_,_⟩:=h
 unfold Proofs.stp
 split
 ·exact ⟨.inr rfl,by simp; omega,by simp; omega,by simp; omega,by simp; omega⟩
 ·exact ⟨.inr rfl,by simp; omega,by simp; omega,by simp; omega,by simp; omega⟩
theorem one_line {toks R:List Int}{A:Acc}{k:Nat}{n0:Node}{z:Int}(h:ANm A) (ht:toks=A.l.map tn++((lnOf k).map tn++R)) (hz:tk R 0=some z) (hz':z=0\/z=3) (hl:toks.length<=100000) (hs:A.steps+6+k<=1000) :
  ∃ n1 m,m<=10+k/\Ru m (dOf toks n0 A) (dOf toks n1 (stp A k)):=by
 have hlen:toks.length=A.l.length+(k+2)+R.length:=by rw [ht]; simp [ln_len]; omega
 have hm:=h.nm (toks:=toks) (by omega) (by omega) hl
 have at':∀ j:Int,0<=j->tk toks ((A.l.length:Int)+j)=tk ((lnOf k).map tn++R) j:=fun j hj=>by
  have:=tk_app (p:=A.l.map tn) (r:=(lnOf k).map tn++R) hj
  rw [<- ht] at this
  simpa using this
 have hd:max A.deep 3=3:=by have:=h.d; omega
 have h0:tk toks (A.l.length:Int)=some 3:=by
  have:=at' 0 (by omega)
  rw [ln_0,Int.add_zero] at this; exact this
 by_cases hk:k=0
 ·subst hk
  have e:(lnOf 0).map tn++R=3::4::R:=rfl
  rw [e] at at'
  have h1:tk toks ((A.l.length:Int)+1)=some 4:=by
   rw [at' 1 (by omega)]; exact (tk_s (j:=0) (by omega)).trans tk_0
  have h2:tk toks ((A.l.length:Int)+2)=some z:=by
   rw [at' 2 (by omega),<- hz]; exact (tk_s (j:=1) (by omega)).trans (tk_s (j:=0) (by omega))
  obtain ⟨n1,r⟩:=good (n0:=n0) (dp:=A.deep) hm (by omega) (by omega) h0 h1 h2 hz'
  refine ⟨n1,4,by omega,?_⟩
  have ef:max (max (flOf A - 1) 0 - 1) 0=0:=by unfold flOf; split <;> rfl
  rw [ef,hd] at r
  have el:(((A.l++lnOf 0).length:Nat):Int)=(A.l.length:Int)+2:=by simp [ln_len]
  show Ru 4 _ (drv toks [0,1] [n1] 0 (((A.l++lnOf 0).length:Nat):Int) (A.steps+4) 3 (A.prods++[3,2]) A.ups A.lost)
  rw [el]; exact r
 ·have e:(lnOf k).map tn++R=3::((junk k).map tn++(4::R)):=by
   unfold lnOf
   rw [if_neg hk]
   simp [tn]
  rw [e] at at'
  have hj:∀ j:Nat,j<k->tk toks ((A.l.length:Int)+1+(j:Int))=some (if j % 2=0 then 3 else 2):=fun j hj=>by
   rw [Int.add_assoc,at' (1+(j:Int)) (by omega),Int.add_comm 1,tk_s (by omega),tk_j (by simp [junk_len,hj])]
   simp only [junk,List.map_map,List.getElem?_map,List.getElem?_range hj,Option.map_some,Function.comp]
   by_cases hm:j % 2=0
   ·simp [hm,tn]
   ·simp [hm,tn]
  have hB:∀ j:Int,0<=j->tk toks ((A.l.length:Int)+1+k+j)=tk (4::R) j:=fun j hj=>by
   rw [show (A.l.length:Int)+1+k+j=A.l.length+(((junk k).map tn).length+j+1) by simp [junk_len]; omega,at' _ (by simp; omega),tk_s (by simp; omega),tk_app hj]
  have h1:tk toks ((A.l.length:Int)+1)=some 3:=by
   have:=hj 0 (by omega)
   simpa using this
  have h2:tk toks ((A.l.length:Int)+1+k)=some 4:=by
   have:=hB 0 (by omega)
   rw [tk_0,Int.add_zero] at this; exact this
  have h3:tk toks ((A.l.length:Int)+2+k)=some z:=by
   have:=hB 1 (by omega)
   rw [show (1:Int)=0+1 from rfl,tk_s (by omega),hz] at this
   rw [<- this]; congr 1; omega
  have hf:flOf A<=2:=by unfold flOf; split <;> omega
  obtain ⟨n1,r⟩:=spoilt (n0:=n0) (dp:=A.deep) hm hf (by omega) (by omega) (by omega) h0 h1 (fun j hj'=>⟨_,hj j hj',by split <;> simp⟩) h2 h3 hz'
  refine ⟨n1,5+k,by omega,?_⟩
  have ef:decide (max (flOf A - 1) 0=0)=!A.was:=by unfold flOf; cases A.was <;> rfl
  rw [ef,hd] at r
  have el:(((A.l++lnOf k).length:Nat):Int)=(A.l.length:Int)+2+k:=by simp [ln_len]; omega
  have es:stp A k=⟨A.l++lnOf k,A.lost++(List.range k).map (fun j:Nat=>(A.l.length:Int)+1+(j:Int)),A.prods++[4,2],A.ups++[⟨(A.l.length:Int)+1,!A.was⟩],A.steps+6+k,3,true⟩:=by
   unfold stp; rw [if_neg hk]
  rw [es]
  show Ru (5+k) _ (drv toks [0,1] [n1] 2 (((A.l++lnOf k).length:Nat):Int) (A.steps+6+k) 3 _ _ _)
  rw [el]; exact r
theorem lines_z (ks:List Nat):∃ z,tk ((ks.flatMap lnOf).map tn) 0=some z/\(z=0\/z=3):=by
 cases ks with
 | nil=>exact ⟨0,by simp [tk],.inl rfl⟩
 | cons k ks=>exact ⟨3,by rw [List.flatMap_cons,List.map_append]; exact ln_0 k _,.inr rfl⟩
theorem all_lines {toks:List Int}(hl:toks.length<=100000) (ks:List Nat):∀ (A:Acc) (n0:Node),ANm A->(∀ k∈ks,k<=4)->toks=A.l.map tn++(ks.flatMap lnOf).map tn->A.steps+10 * ks.length<=1000 ->
  ∃ n1 m,m<=14 * ks.length/\Ru m (dOf toks n0 A) (dOf toks n1 (ks.foldl stp A)):=by
 induction ks with
 | nil=>intro A n0 _ _ _ _; exact ⟨n0,0,by simp,.nil⟩
 | cons k ks ih =>
  intro A n0 hA hk ht hs
  obtain ⟨z,hz,hz'⟩:=lines_z ks
  have hk4:k<=4:=hk k List.mem_cons_self
  simp only [List.length_cons] at hs ⊢
  rw [List.flatMap_cons,List.map_append] at ht
  obtain ⟨n1,m1,hm1,r1⟩:=one_line (n0:=n0) hA ht hz hz' hl (by omega)
  have e1:(stp A k).l=A.l++lnOf k:=by unfold stp; split <;> rfl
  have e2:(stp A k).steps<=A.steps+10:=by unfold stp; split <;> simp <;> omega
  obtain ⟨n2,m2,hm2,r2⟩:=ih (stp A k) n1 hA.stp (fun k' h=>hk k' (List.mem_cons_of_mem _ h)) (by rw [e1,ht]; simp) (by omega)
  exact ⟨n2,m1+m2,by omega,r1.add r2⟩
end Go.Proofs
