/- Parts of the proof that the last text states. -/
import Derived.KernelRfl
import Derived.Test.YtejfkabkakfblaaGreatDoorRows
import Derived.Test.YtejfkabkakfblaaGreatDoorE3
namespace Go.Proofs
open Go Go.Own
set_option maxRecDepth 100000
set_option linter.unusedVariables false
def sa (a0:ByteArray) (aB:(List Int)):Option (ByteArray) :=
 (e' (⟨#[118,97,114,32]⟩) a0).bind λa6 =>
 (e' a6 (⟨#[32,61,32,91,93,105,110,116,123]⟩)).bind λx2 =>
 (m' (⟨#[]⟩) x2).bind λaX =>
 (b5 (R:=ByteArray) (λ(cW:ByteArray × Int) =>
 (bif decide (cW.2<(aB.length:Int)) then
 (idx aB cW.2).bind λb3 =>
 ((bif decide (0<cW.2) then
 (m' cW.1 (⟨#[44,32]⟩)).bind λcB =>
 some cB
 else
 some cW.1)).bind λny =>
 (sR b3).bind λdJ =>
 (m' ny dJ).bind λeX =>
 some (.inl (eX,aG (cW.2+1)))
 else
 some (.inr cW.1))) (aX,0)).bind λbK =>
 (m' bK (⟨#[125]⟩)).bind λeP =>
 (wJ eP).bind λcL =>
 some cL
def qk (a0:Int):Option (ByteArray) :=
 ((bif decide (a0<0) then
 some (IntKind.u64.wrap (-(IntKind.u64.wrap a0)))
 else
 some (IntKind.u64.wrap a0))).bind λjq =>
 (b5 (R:=ByteArray) (λ(dn:Int × ByteArray) =>
 ((bif decide (0<dn.1) then some true else some (decide (dn.2=⟨#[]⟩)))).bind λpW =>
 (bif pW then
 (pI dn.1 10).bind λdG =>
 (e' (strOfNums [rn (IntKind.u64.wrap (48+dG))]) dn.2).bind λbF =>
 (pH dn.1 10).bind λcB =>
 some (.inl (cB,bF))
 else
 some (.inr dn.2))) (jq,⟨#[]⟩)).bind λbR =>
 (bif decide (a0<0) then
 (e' (⟨#[45]⟩) bR).bind λeX =>
 some eX
 else
 some bR)
def v8 (a0:Int):Option (Bool) :=
 ((bif decide (48<=a0) then some (decide (a0<=57)) else some false)).bind λc2 =>
 some c2
def CC (a0:Int):Option (Bool) :=
 ((bif decide (97<=a0) then (bif decide (a0<=122) then some true else (bif decide (65<=a0) then (bif decide (a0<=90) then some true else some (decide (a0=95))) else some (decide (a0=95)))) else (bif decide (65<=a0) then (bif decide (a0<=90) then some true else some (decide (a0=95))) else some (decide (a0=95))))).bind λpW =>
 some pW
def v7 (a0:ByteArray) (aB:Int):Option (Int) :=
 (b5 (R:=Int) (λ(s1:Int) =>
 ((bif decide (aG (aB+s1)<(a0.size:Int)) then ((gN a0 (aG (aB+s1))).bind λbK=>((CC bK).bind λbC=>(bif bC then some true else (bif decide (0<s1) then ((gN a0 (aG (aB+s1))).bind λdG=>((v8 dG).bind λbF=>(bif bF then some true else ((gN a0 (aG (aB+s1))).bind λdJ=>some (decide (dJ=46)))))) else some false)))) else some false)).bind λj7 =>
 (bif j7 then
 some (.inl (aG (s1+1)))
 else
 some (.inr s1))) 0).bind λx2 =>
 some x2
def vQ (a0:ByteArray):Option (Bool) :=
 ((bif decide (1<=(a0.size:Int)) then (bif decide ((a0.size:Int)<=20) then ((v7 a0 0).bind λaX=>some (decide (aX=(a0.size:Int)))) else some false) else some false)).bind λc4 =>
 some c4
def zP (a0:Int):Option (Int × Bool) :=
 (bif decide (a0=10) then
 some (110,true)
 else
 (bif decide (a0=9) then
 some (116,true)
 else
 (bif decide (a0=13) then
 some (114,true)
 else
 ((bif decide (a0=92) then
 some (decide (a0=92))
 else
 some (decide (a0=39)))).bind λJl =>
 (bif Jl then
 some (a0,true)
 else
 ((bif decide (32<=a0) then some (0,decide (a0<=126)) else some (0,false))).bind λtJ =>
 some (tJ.1,tJ.2)))))
structure Sym where
 Name:ByteArray
 Lit:Bool
 bL:Int
 At:Int
 deriving DecidableEq,Inhabited
def d':bz Sym:=⟨4,λx=>[aw x.Name,bc x.Lit,ae x.bL,ae x.At],λ_=>rfl,λ_=>dh.bl⟩
instance:Flat d':=⟨λ_=>rfl⟩
instance:ll d':=⟨λx=>(inferInstance:jc [aw x.Name,bc x.Lit,ae x.bL,ae x.At])⟩
instance:gq d' d':=⟨rfl,λx=>(inferInstance:c8 [aw x.Name,bc x.Lit,ae x.bL,ae x.At] [aw x.Name,bc x.Lit,ae x.bL,ae x.At])⟩
instance {x:Sym}:c8 (d'.cells x) [aw x.Name,bc x.Lit,ae x.bL,ae x.At]:=(inferInstance:c8 [aw x.Name,bc x.Lit,ae x.bL,ae x.At] [aw x.Name,bc x.Lit,ae x.bL,ae x.At])
def uD (a0:Sym) (aB:Bool) (a2:Bool):Option (Bool) :=
 (bif a0.Lit then
 ((bif !a2 then some true else (bif !decide ((a0.Name.size:Int)=1) then some true else some (!decide (a0.bL=0))))).bind λc4 =>
 (bif c4 then
 some false
 else
 (gN a0.Name 0).bind λbC =>
 (zP bC).bind λbS =>
 some bS.2)
 else
 (((vQ a0.Name).bind λb3=>(bif b3 then (bif decide (a0.bL=0) then some true else (bif aB then (bif decide (1<=a0.bL) then some (decide (a0.bL<=50000)) else some false) else some false)) else some false))).bind λj7 =>
 some j7)
structure Decl where
 Kind:Int
 Tag:ByteArray
 eL:(List Sym)
 At:Int
 deriving DecidableEq,Inhabited
def dP:bz Decl:=⟨4,λx=>[ae x.Kind,aw x.Tag,ak d' x.eL,ae x.At],λ_=>rfl,λ_=>dh.bl⟩
instance:Flat dP:=⟨λ_=>rfl⟩
instance:gq dP dP:=⟨rfl,λx=>(inferInstance:c8 [ae x.Kind,aw x.Tag,ak d' x.eL,ae x.At] [ae x.Kind,aw x.Tag,ak d' x.eL,ae x.At])⟩
instance {x:Decl}:c8 (dP.cells x) [ae x.Kind,aw x.Tag,ak d' x.eL,ae x.At]:=(inferInstance:c8 [ae x.Kind,aw x.Tag,ak d' x.eL,ae x.At] [ae x.Kind,aw x.Tag,ak d' x.eL,ae x.At])
def xN (a0:Decl):Option (Bool) :=
 ((bif decide (a0.Kind<1) then some true else (bif decide (6<a0.Kind) then some true else (bif decide ((a0.eL.length:Int)=0) then some true else (bif decide (a0.Kind=6) then (bif !decide ((a0.eL.length:Int)=1) then some true else (bif !decide (a0.Tag=⟨#[]⟩) then some true else (bif decide (a0.Kind=5) then (bif decide (a0.Tag=⟨#[]⟩) then some true else some false) else some false))) else (bif decide (a0.Kind=5) then (bif decide (a0.Tag=⟨#[]⟩) then some true else (bif !decide (a0.Tag=⟨#[]⟩) then ((vQ a0.Tag).bind λdJ=>some (!dJ)) else some false)) else (bif !decide (a0.Tag=⟨#[]⟩) then ((vQ a0.Tag).bind λeP=>some (!eP)) else some false))))))).bind λov =>
 (bif ov then
 some false
 else
 (b5 (R:=(Unit) ⊕ (Bool)) (λ(f':Int) =>
 (bif decide (f'<(a0.eL.length:Int)) then
 (idx a0.eL f').bind λfM =>
 (uD fM (decide (a0.Kind=1)) (decide (a0.Kind<5))).bind λfl =>
 (bif !fl then
 some (.inr (.inr false))
 else
 some (.inl (aG (f'+1))))
 else
 some (.inr (.inl ())))) 0).bind λfq =>
 (match fq with
 | .inl fh =>
 some true
 | .inr fc =>
 some fc))
def xZ (a0:ByteArray) (aB:Int) (a2:ByteArray):Option (Bool) :=
 ((bif decide ((a2.size:Int)<=aG ((a0.size:Int) - aB)) then ((iU a0 aB (aG (aB+(a2.size:Int)))).bind λx2=>some (decide (x2=a2))) else some false)).bind λj8 =>
 some j8
def zW (a0:ByteArray) (aB:Int):Option (Int) :=
 (((gN a0 aB).bind λa6=>(bif decide (a6=34) then some true else ((gN a0 aB).bind λaX=>some (decide (aX=39)))))).bind λc4 =>
 (bif c4 then
 (b5 (R:=(Unit) ⊕ (Int)) (λ(db:Int) =>
 ((bif decide (db<(a0.size:Int)) then ((gN a0 db).bind λcB=>some (!decide (cB=10))) else some false)).bind λtF =>
 (bif tF then
 (gN a0 db).bind λeP =>
 (gN a0 aB).bind λcL =>
 (bif decide (eP=cL) then
 some (.inr (.inr (aG (db+1))))
 else
 (gN a0 db).bind λbD =>
 (bif decide (bD=92) then
 ((bif decide (aG (db+1)<(a0.size:Int)) then ((gN a0 (aG (db+1))).bind λfc=>some (decide (fc=10))) else some false)).bind λrD =>
 (bif rD then
 some (.inr (.inr (-1)))
 else
 some (.inl (aG ((aG (db+1))+1))))
 else
 some (.inl (aG (db+1)))))
 else
 some (.inr (.inl ())))) (aG (aB+1))).bind λbS =>
 (match bS with
 | .inl b3 =>
 some (-1)
 | .inr dG =>
 some dG)
 else
 (gN a0 aB).bind λfl =>
 (bif decide (fl=96) then
 (b5 (R:=(Unit) ⊕ (Int)) (λ(oa:Int) =>
 (bif decide (oa<(a0.size:Int)) then
 (gN a0 oa).bind λho =>
 (bif decide (ho=96) then
 some (.inr (.inr (aG (oa+1))))
 else
 some (.inl (aG (oa+1))))
 else
 some (.inr (.inl ())))) (aG (aB+1))).bind λhX =>
 (match hX with
 | .inl fv =>
 some (-1)
 | .inr cC =>
 some cC)
 else
 (xZ a0 aB (⟨#[47,47]⟩)).bind λe0 =>
 (bif e0 then
 (b5 (R:=Int) (λ(gk:Int) =>
 ((bif decide (gk<(a0.size:Int)) then ((gN a0 gk).bind λcT=>some (!decide (cT=10))) else some false)).bind λAS =>
 (bif AS then
 some (.inl (aG (gk+1)))
 else
 some (.inr gk))) aB).bind λgb =>
 some gb
 else
 (xZ a0 aB (⟨#[47,42]⟩)).bind λku =>
 (bif ku then
 (b5 (R:=(Unit) ⊕ (Int)) (λ(Ac:Int) =>
 (bif decide (Ac<(a0.size:Int)) then
 (xZ a0 Ac (⟨#[42,47]⟩)).bind λte =>
 (bif te then
 some (.inr (.inr (aG (Ac+2))))
 else
 some (.inl (aG (Ac+1))))
 else
 some (.inr (.inl ())))) (aG (aB+2))).bind λtd =>
 (match td with
 | .inl Dp =>
 some (-1)
 | .inr mT =>
 some mT)
 else
 some aB))))
def xV (a0:ByteArray) (aB:Int):Option (Int) :=
 ((bif decide (aB<0) then some true else (bif decide ((a0.size:Int)<=aB) then some true else ((gN a0 aB).bind λaX=>some (!decide (aX=123)))))).bind λc4 =>
 (bif c4 then
 some (-1)
 else
 (b5 (R:=(Unit) ⊕ (Int)) (λ(db:Int × Int) =>
 (bif decide (db.2<(a0.size:Int)) then
 (zW a0 db.2).bind λcB =>
 (bif decide (cB<0) then
 some (.inr (.inr (-1)))
 else
 (bif decide (db.2<cB) then
 some (.inl (db.1,cB))
 else
 (gN a0 db.2).bind λeP =>
 ((bif decide (eP=123) then
 some (aG (db.1+1))
 else
 some db.1)).bind λlB =>
 (gN a0 db.2).bind λbD =>
 ((bif decide (bD=125) then
 some (aG (lB - 1))
 else
 some lB)).bind λE2 =>
 (bif decide (E2=0) then
 some (.inr (.inr (aG (db.2+1))))
 else
 some (.inl (E2,aG (db.2+1))))))
 else
 some (.inr (.inl ())))) (0,aB)).bind λbS =>
 (match bS with
 | .inl b3 =>
 some (-1)
 | .inr dG =>
 some dG))
def uE (a0:Sym):Option (Bool) :=
 ((bif decide (a0.Name=⟨#[]⟩) then (bif !a0.Lit then some (decide (a0.bL=0)) else some false) else some false)).bind λj8 =>
 some j8
structure Part where
 Sym:Sym
 Code:ByteArray
 At:Int
 deriving DecidableEq,Inhabited
structure Alt where
 Parts:(List Part)
 Prec:Sym
 At:Int
 deriving DecidableEq,Inhabited
def fY:bz Part:=⟨6,λx=>[aw x.Sym.Name,bc x.Sym.Lit,ae x.Sym.bL,ae x.Sym.At,aw x.Code,ae x.At],λ_=>rfl,λ_=>dh.bl⟩
instance:Flat fY:=⟨λ_=>rfl⟩
instance:ll fY:=⟨λx=>(inferInstance:jc [aw x.Sym.Name,bc x.Sym.Lit,ae x.Sym.bL,ae x.Sym.At,aw x.Code,ae x.At])⟩
instance:gq fY fY:=⟨rfl,λx=>(inferInstance:c8 [aw x.Sym.Name,bc x.Sym.Lit,ae x.Sym.bL,ae x.Sym.At,aw x.Code,ae x.At] [aw x.Sym.Name,bc x.Sym.Lit,ae x.Sym.bL,ae x.Sym.At,aw x.Code,ae x.At])⟩
instance {x:Part}:c8 (fY.cells x) [aw x.Sym.Name,bc x.Sym.Lit,ae x.Sym.bL,ae x.Sym.At,aw x.Code,ae x.At]:=(inferInstance:c8 [aw x.Sym.Name,bc x.Sym.Lit,ae x.Sym.bL,ae x.Sym.At,aw x.Code,ae x.At] [aw x.Sym.Name,bc x.Sym.Lit,ae x.Sym.bL,ae x.Sym.At,aw x.Code,ae x.At])
def fO:bz Alt:=⟨6,λx=>[ak fY x.Parts,aw x.Prec.Name,bc x.Prec.Lit,ae x.Prec.bL,ae x.Prec.At,ae x.At],λ_=>rfl,λ_=>dh.bl⟩
instance:Flat fO:=⟨λ_=>rfl⟩
instance:gq fO fO:=⟨rfl,λx=>(inferInstance:c8 [ak fY x.Parts,aw x.Prec.Name,bc x.Prec.Lit,ae x.Prec.bL,ae x.Prec.At,ae x.At] [ak fY x.Parts,aw x.Prec.Name,bc x.Prec.Lit,ae x.Prec.bL,ae x.Prec.At,ae x.At])⟩
instance {x:Alt}:c8 (fO.cells x) [ak fY x.Parts,aw x.Prec.Name,bc x.Prec.Lit,ae x.Prec.bL,ae x.Prec.At,ae x.At]:=(inferInstance:c8 [ak fY x.Parts,aw x.Prec.Name,bc x.Prec.Lit,ae x.Prec.bL,ae x.Prec.At,ae x.At] [ak fY x.Parts,aw x.Prec.Name,bc x.Prec.Lit,ae x.Prec.bL,ae x.Prec.At,ae x.At])
def xO (a0:Alt):Option (Bool) :=
 (b5 (R:=(Unit) ⊕ (Bool)) (λ(s1:Int) =>
 (bif decide (s1<(a0.Parts.length:Int)) then
 (idx a0.Parts s1).bind λbC =>
 ((bif decide (bC.Code=⟨#[]⟩) then ((uD bC.Sym false true).bind λb3=>(bif !b3 then some true else (bif !decide (bC.Code=⟨#[]⟩) then ((uE bC.Sym).bind λcB=>(bif !cB then some true else ((xV bC.Code 0).bind λeX=>some (!decide (eX=(bC.Code.size:Int)))))) else some false))) else (bif !decide (bC.Code=⟨#[]⟩) then ((uE bC.Sym).bind λcL=>(bif !cL then some true else ((xV bC.Code 0).bind λbD=>some (!decide (bD=(bC.Code.size:Int)))))) else some false))).bind λna =>
 (bif na then
 some (.inr (.inr false))
 else
 some (.inl (aG (s1+1))))
 else
 some (.inr (.inl ())))) 0).bind λx2 =>
 (match x2 with
 | .inl aX =>
 (((uE a0.Prec).bind λfc=>(bif fc then some true else ((uD a0.Prec false true).bind λfM=>some fM)))).bind λtG =>
 some tG
 | .inr bR =>
 some bR)
structure fS where
 Left:ByteArray
 fr:(List Alt)
 At:Int
 deriving DecidableEq,Inhabited
structure Source where
 b8:ByteArray
 Decls:(List Decl)
 dH:(List fS)
 cf:ByteArray
 deriving DecidableEq,Inhabited
def ji:bz fS:=⟨3,λx=>[aw x.Left,ak fO x.fr,ae x.At],λ_=>rfl,λ_=>dh.bl⟩
instance:Flat ji:=⟨λ_=>rfl⟩
instance:gq ji ji:=⟨rfl,λx=>(inferInstance:c8 [aw x.Left,ak fO x.fr,ae x.At] [aw x.Left,ak fO x.fr,ae x.At])⟩
instance {x:fS}:c8 (ji.cells x) [aw x.Left,ak fO x.fr,ae x.At]:=(inferInstance:c8 [aw x.Left,ak fO x.fr,ae x.At] [aw x.Left,ak fO x.fr,ae x.At])
def gP:bz Source:=⟨4,λx=>[aw x.b8,ak dP x.Decls,ak ji x.dH,aw x.cf],λ_=>rfl,λ_=>dh.bl⟩
instance:Flat gP:=⟨λ_=>rfl⟩
instance:gq gP gP:=⟨rfl,λx=>(inferInstance:c8 [aw x.b8,ak dP x.Decls,ak ji x.dH,aw x.cf] [aw x.b8,ak dP x.Decls,ak ji x.dH,aw x.cf])⟩
instance {x:Source}:c8 (gP.cells x) [aw x.b8,ak dP x.Decls,ak ji x.dH,aw x.cf]:=(inferInstance:c8 [aw x.b8,ak dP x.Decls,ak ji x.dH,aw x.cf] [aw x.b8,ak dP x.Decls,ak ji x.dH,aw x.cf])
def pG (a0:Source):Option (Bool) :=
 (b5 (R:=(Unit) ⊕ (Bool)) (λ(s1:Int) =>
 (bif decide (aG (s1+1)<(a0.b8.size:Int)) then
 (iU a0.b8 s1 (aG (s1+2))).bind λbC =>
 (bif decide (bC=⟨#[37,125]⟩) then
 some (.inr (.inr false))
 else
 some (.inl (aG (s1+1))))
 else
 some (.inr (.inl ())))) 0).bind λx2 =>
 (match x2 with
 | .inl aX =>
 (b5 (R:=(Unit) ⊕ (Bool)) (λ(eO:Int) =>
 (bif decide (eO<(a0.Decls.length:Int)) then
 (idx a0.Decls eO).bind λeX =>
 (xN eX).bind λeP =>
 (bif !eP then
 some (.inr (.inr false))
 else
 some (.inl (aG (eO+1))))
 else
 some (.inr (.inl ())))) 0).bind λdG =>
 (match dG with
 | .inl bF =>
 (b5 (R:=(Unit) ⊕ (Bool)) (λ(C9:Int) =>
 (bif decide (C9<(a0.dH.length:Int)) then
 (idx a0.dH C9).bind λeG =>
 (((vQ eG.Left).bind λfM=>(bif !fM then some true else some (decide ((eG.fr.length:Int)=0))))).bind λG0 =>
 (bif G0 then
 some (.inr (.inr false))
 else
 (b5 (R:=(Unit) ⊕ (Bool)) (λ(ob:Int) =>
 (bif decide (ob<(eG.fr.length:Int)) then
 (idx eG.fr ob).bind λkP =>
 (xO kP).bind λe0 =>
 (bif !e0 then
 some (.inr (.inr false))
 else
 some (.inl (aG (ob+1))))
 else
 some (.inr (.inl ())))) 0).bind λfv =>
 (match fv with
 | .inl cC =>
 some (.inl (aG (C9+1)))
 | .inr eo =>
 some (.inr (.inr eo))))
 else
 some (.inr (.inl ())))) 0).bind λbD =>
 (match bD with
 | .inl fq =>
 some (decide (0<(a0.dH.length:Int)))
 | .inr fh =>
 some fh)
 | .inr cB =>
 some cB)
 | .inr bR =>
 some bR)
structure Tok where
 Name:ByteArray
 Lit:Bool
 bL:Int
 Level:Int
 e9:Int
 Tag:ByteArray
 deriving DecidableEq,Inhabited
structure e_ where
 Name:ByteArray
 Tag:ByteArray
 deriving DecidableEq,Inhabited
structure Prod where
 Left:Int
 e2:(List Int)
 Prec:Int
 Code:ByteArray
 rp:(List Int)
 At:Int
 deriving DecidableEq,Inhabited
structure bt where
 a1:(List Tok)
 bY:(List e_)
 bd:(List Prod)
 b8:ByteArray
 cf:ByteArray
 deriving DecidableEq,Inhabited
structure dd where
 aD:bt
 cd:(List Bool)
 cv:(List e_)
 b0:(List ByteArray)
 cN:Int
 c':Int
 c9:ByteArray
 ca:Int
 bV:Int
 deriving DecidableEq,Inhabited
def bU:bz Tok:=⟨6,λx=>[aw x.Name,bc x.Lit,ae x.bL,ae x.Level,ae x.e9,aw x.Tag],λ_=>rfl,λ_=>dh.bl⟩
instance:Flat bU:=⟨λ_=>rfl⟩
instance:ll bU:=⟨λx=>(inferInstance:jc [aw x.Name,bc x.Lit,ae x.bL,ae x.Level,ae x.e9,aw x.Tag])⟩
instance:gq bU bU:=⟨rfl,λx=>(inferInstance:c8 [aw x.Name,bc x.Lit,ae x.bL,ae x.Level,ae x.e9,aw x.Tag] [aw x.Name,bc x.Lit,ae x.bL,ae x.Level,ae x.e9,aw x.Tag])⟩
instance {x:Tok}:c8 (bU.cells x) [aw x.Name,bc x.Lit,ae x.bL,ae x.Level,ae x.e9,aw x.Tag]:=(inferInstance:c8 [aw x.Name,bc x.Lit,ae x.bL,ae x.Level,ae x.e9,aw x.Tag] [aw x.Name,bc x.Lit,ae x.bL,ae x.Level,ae x.e9,aw x.Tag])
def bA:bz e_:=⟨2,λx=>[aw x.Name,aw x.Tag],λ_=>rfl,λ_=>dh.bl⟩
instance:Flat bA:=⟨λ_=>rfl⟩
instance:ll bA:=⟨λx=>(inferInstance:jc [aw x.Name,aw x.Tag])⟩
instance:gq bA bA:=⟨rfl,λx=>(inferInstance:c8 [aw x.Name,aw x.Tag] [aw x.Name,aw x.Tag])⟩
def cy:bz Prod:=⟨6,λx=>[ae x.Left,ak az x.e2,ae x.Prec,aw x.Code,ak az x.rp,ae x.At],λ_=>rfl,λ_=>dh.bl⟩
instance:Flat cy:=⟨λ_=>rfl⟩
instance:gq cy cy:=⟨rfl,λx=>(inferInstance:c8 [ae x.Left,ak az x.e2,ae x.Prec,aw x.Code,ak az x.rp,ae x.At] [ae x.Left,ak az x.e2,ae x.Prec,aw x.Code,ak az x.rp,ae x.At])⟩
instance {x:Prod}:c8 (cy.cells x) [ae x.Left,ak az x.e2,ae x.Prec,aw x.Code,ak az x.rp,ae x.At]:=(inferInstance:c8 [ae x.Left,ak az x.e2,ae x.Prec,aw x.Code,ak az x.rp,ae x.At] [ae x.Left,ak az x.e2,ae x.Prec,aw x.Code,ak az x.rp,ae x.At])
def cM:bz bt:=⟨5,λx=>[ak bU x.a1,ak bA x.bY,ak cy x.bd,aw x.b8,aw x.cf],λ_=>rfl,λ_=>dh.bl⟩
instance:Flat cM:=⟨λ_=>rfl⟩
instance:gq cM cM:=⟨rfl,λx=>(inferInstance:c8 [ak bU x.a1,ak bA x.bY,ak cy x.bd,aw x.b8,aw x.cf] [ak bU x.a1,ak bA x.bY,ak cy x.bd,aw x.b8,aw x.cf])⟩
instance {x:bt}:c8 (cM.cells x) [ak bU x.a1,ak bA x.bY,ak cy x.bd,aw x.b8,aw x.cf]:=(inferInstance:c8 [ak bU x.a1,ak bA x.bY,ak cy x.bd,aw x.b8,aw x.cf] [ak bU x.a1,ak bA x.bY,ak cy x.bd,aw x.b8,aw x.cf])
def D_:bz dd:=⟨13,λx=>[ak bU x.aD.a1,ak bA x.aD.bY,ak cy x.aD.bd,aw x.aD.b8,aw x.aD.cf,ak cg x.cd,ak bA x.cv,ak cJ x.b0,ae x.cN,ae x.c',aw x.c9,ae x.ca,ae x.bV],λ_=>rfl,λ_=>dh.bl⟩
instance:Flat D_:=⟨λ_=>rfl⟩
instance:gq D_ D_:=⟨rfl,λx=>(inferInstance:c8 [ak bU x.aD.a1,ak bA x.aD.bY,ak cy x.aD.bd,aw x.aD.b8,aw x.aD.cf,ak cg x.cd,ak bA x.cv,ak cJ x.b0,ae x.cN,ae x.c',aw x.c9,ae x.ca,ae x.bV] [ak bU x.aD.a1,ak bA x.aD.bY,ak cy x.aD.bd,aw x.aD.b8,aw x.aD.cf,ak cg x.cd,ak bA x.cv,ak cJ x.b0,ae x.cN,ae x.c',aw x.c9,ae x.ca,ae x.bV])⟩
instance {x:dd}:c8 (D_.cells x) [ak bU x.aD.a1,ak bA x.aD.bY,ak cy x.aD.bd,aw x.aD.b8,aw x.aD.cf,ak cg x.cd,ak bA x.cv,ak cJ x.b0,ae x.cN,ae x.c',aw x.c9,ae x.ca,ae x.bV]:=(inferInstance:c8 [ak bU x.aD.a1,ak bA x.aD.bY,ak cy x.aD.bd,aw x.aD.b8,aw x.aD.cf,ak cg x.cd,ak bA x.cv,ak cJ x.b0,ae x.cN,ae x.c',aw x.c9,ae x.ca,ae x.bV] [ak bU x.aD.a1,ak bA x.aD.bY,ak cy x.aD.bd,aw x.aD.b8,aw x.aD.cf,ak cg x.cd,ak bA x.cv,ak cJ x.b0,ae x.cN,ae x.c',aw x.c9,ae x.ca,ae x.bV])
def Ms:bz bt:=⟨5,λx=>[ao bU x.a1,ao bA x.bY,ao cy x.bd,aw x.b8,aw x.cf],λ_=>rfl,λ_=>dh.bl⟩
instance:gq Ms cM:=⟨rfl,λx=>(inferInstance:c8 [ao bU x.a1,ao bA x.bY,ao cy x.bd,aw x.b8,aw x.cf] [ak bU x.a1,ak bA x.bY,ak cy x.bd,aw x.b8,aw x.cf])⟩
instance {x:bt}:c8 (Ms.cells x) [ak bU x.a1,ak bA x.bY,ak cy x.bd,aw x.b8,aw x.cf]:=(inferInstance:c8 [ao bU x.a1,ao bA x.bY,ao cy x.bd,aw x.b8,aw x.cf] [ak bU x.a1,ak bA x.bY,ak cy x.bd,aw x.b8,aw x.cf])
def dI:bz dd:=⟨13,λx=>[ao bU x.aD.a1,ao bA x.aD.bY,ao cy x.aD.bd,aw x.aD.b8,aw x.aD.cf,ao cg x.cd,ao bA x.cv,ao cJ x.b0,ae x.cN,ae x.c',aw x.c9,ae x.ca,ae x.bV],λ_=>rfl,λ_=>dh.bl⟩
instance {x:dd}:c8 (dI.cells x) [ak bU x.aD.a1,ak bA x.aD.bY,ak cy x.aD.bd,aw x.aD.b8,aw x.aD.cf,ak cg x.cd,ak bA x.cv,ak cJ x.b0,ae x.cN,ae x.c',aw x.c9,ae x.ca,ae x.bV]:=(inferInstance:c8 [ao bU x.aD.a1,ao bA x.aD.bY,ao cy x.aD.bd,aw x.aD.b8,aw x.aD.cf,ao cg x.cd,ao bA x.cv,ao cJ x.b0,ae x.cN,ae x.c',aw x.c9,ae x.ca,ae x.bV] [ak bU x.aD.a1,ak bA x.aD.bY,ak cy x.aD.bd,aw x.aD.b8,aw x.aD.cf,ak cg x.cd,ak bA x.cv,ak cJ x.b0,ae x.cN,ae x.c',aw x.c9,ae x.ca,ae x.bV])
def nG (a0:dd) (aB:Int) (a2:ByteArray):Option (dd) :=
 ((bif decide (a0.cN=0) then
 some (⟨a0.aD,a0.cd,a0.cv,a0.b0,3,aB,a2,a0.ca,a0.bV⟩:dd)
 else
 some a0)).bind λjq =>
 some jq
def zK (a0:dd) (aB:ByteArray):Option (Int) :=
 (b5 (R:=(Unit) ⊕ (Int)) (λ(s1:Int) =>
 (bif decide (s1<(a0.cv.length:Int)) then
 (idx a0.cv s1).bind λbC =>
 (bif decide (bC.Name=aB) then
 some (.inr (.inr s1))
 else
 some (.inl (aG (s1+1))))
 else
 some (.inr (.inl ())))) 0).bind λx2 =>
 (match x2 with
 | .inl aX =>
 some (-1)
 | .inr bR =>
 some bR)
def uC (a0:dd) (aB:Sym):Option (Int) :=
 (b5 (R:=(Unit) ⊕ (Int)) (λ(s1:Int) =>
 (bif decide (s1<(a0.aD.a1.length:Int)) then
 (((idx a0.aD.a1 s1).bind λbC=>(bif decide (bC.Name=aB.Name) then ((idx a0.aD.a1 s1).bind λb3=>(bif (b3.Lit == aB.Lit) then some (!decide (s1=2)) else some false)) else some false))).bind λhp =>
 (bif hp then
 some (.inr (.inr s1))
 else
 some (.inl (aG (s1+1))))
 else
 some (.inr (.inl ())))) 1).bind λx2 =>
 (match x2 with
 | .inl aX =>
 some (-1)
 | .inr bR =>
 some bR)
def vR (a0:dd) (aB:Int):Option (Int) :=
 (b5 (R:=(Unit) ⊕ (Int)) (λ(s1:Int) =>
 (bif decide (s1<(a0.aD.a1.length:Int)) then
 (idx a0.aD.a1 s1).bind λbC =>
 (bif decide (bC.bL=aB) then
 some (.inr (.inr s1))
 else
 some (.inl (aG (s1+1))))
 else
 some (.inr (.inl ())))) 3).bind λx2 =>
 (match x2 with
 | .inl aX =>
 some (-1)
 | .inr bR =>
 some bR)
def s4 (a0:dd) (aB:Sym):Option (Int × dd) :=
 (uC a0 aB).bind λa6 =>
 (bif decide (0<=a6) then
 some (a6,a0)
 else
 ((bif aB.Lit then
 (gN aB.Name 0).bind λbK =>
 (vR a0 (aG bK)).bind λbC =>
 ((bif decide (0<=bC) then
 (nG a0 aB.At aB.Name).bind λdG =>
 some dG
 else
 some a0)).bind λlC =>
 some (lC,aG bK)
 else
 some (a0,0))).bind λig =>
 (da ig.1.aD.a1 [(⟨aB.Name,aB.Lit,ig.2,0,0,⟨#[]⟩⟩:Tok)]).bind λbF =>
 (da ig.1.cd [aB.Lit]).bind λcB =>
 some (aG (((ig.1.aD.a1++[(⟨aB.Name,aB.Lit,ig.2,0,0,⟨#[]⟩⟩:Tok)]).length:Int) - 1),(⟨(⟨ig.1.aD.a1++[(⟨aB.Name,aB.Lit,ig.2,0,0,⟨#[]⟩⟩:Tok)],ig.1.aD.bY,ig.1.aD.bd,ig.1.aD.b8,ig.1.aD.cf⟩:bt),ig.1.cd++[aB.Lit],ig.1.cv,ig.1.b0,ig.1.cN,ig.1.c',ig.1.c9,ig.1.ca,ig.1.bV⟩:dd)))
def sZ (a0:dd) (aB:Decl) (a2:Sym):Option (dd) :=
 (bif decide (aB.Kind=5) then
 (zK a0 a2.Name).bind λx2 =>
 ((bif decide (x2<0) then
 (da a0.cv [(⟨a2.Name,aB.Tag⟩:e_)]).bind λbK =>
 some (⟨a0.aD,a0.cd,a0.cv++[(⟨a2.Name,aB.Tag⟩:e_)],a0.b0,a0.cN,a0.c',a0.c9,a0.ca,a0.bV⟩:dd)
 else
 (idx a0.cv x2).bind λbC =>
 ((bif !decide (bC.Tag=aB.Tag) then
 (nG a0 a2.At a2.Name).bind λdG =>
 some dG
 else
 some a0)).bind λlC =>
 some lC)).bind λig =>
 some ig
 else
 (s4 a0 a2).bind λbF =>
 (idx bF.2.aD.a1 bF.1).bind λcB =>
 ((bif !decide (aB.Kind=1) then
 ((bif decide (0<cB.Level) then
 (nG bF.2 a2.At a2.Name).bind λbX =>
 some (⟨(⟨bF.2.aD.a1,bX.aD.bY,bX.aD.bd,bX.aD.b8,bX.aD.cf⟩:bt),bX.cd,bX.cv,bX.b0,bX.cN,bX.c',bX.c9,bX.ca,bX.bV⟩:dd)
 else
 some bF.2)).bind λc0 =>
 (idx c0.aD.a1 bF.1).bind λbD =>
 some (⟨(⟨(c0.aD.a1.set bF.1.toNat (⟨bD.Name,bD.Lit,bD.bL,c0.ca,bD.e9,bD.Tag⟩:Tok)).set bF.1.toNat (⟨(⟨bD.Name,bD.Lit,bD.bL,c0.ca,bD.e9,bD.Tag⟩:Tok).Name,(⟨bD.Name,bD.Lit,bD.bL,c0.ca,bD.e9,bD.Tag⟩:Tok).Lit,(⟨bD.Name,bD.Lit,bD.bL,c0.ca,bD.e9,bD.Tag⟩:Tok).bL,(⟨bD.Name,bD.Lit,bD.bL,c0.ca,bD.e9,bD.Tag⟩:Tok).Level,aG (aB.Kind - 1),(⟨bD.Name,bD.Lit,bD.bL,c0.ca,bD.e9,bD.Tag⟩:Tok).Tag⟩:Tok),c0.aD.bY,c0.aD.bd,c0.aD.b8,c0.aD.cf⟩:bt),c0.cd,c0.cv,c0.b0,c0.cN,c0.c',c0.c9,c0.ca,c0.bV⟩:dd)
 else
 some bF.2)).bind λez =>
 (idx ez.aD.a1 bF.1).bind λfq =>
 ((bif decide (0<a2.bL) then
 ((bif decide (bF.1=1) then some true else ((idx ez.cd bF.1).bind λfM=>(bif fM then some true else ((vR ez a2.bL).bind λgl=>some (decide (0<=gl))))))).bind λwL =>
 ((bif wL then
 (nG ez a2.At a2.Name).bind λcC =>
 some (⟨(⟨ez.aD.a1,cC.aD.bY,cC.aD.bd,cC.aD.b8,cC.aD.cf⟩:bt),cC.cd,cC.cv,cC.b0,cC.cN,cC.c',cC.c9,cC.ca,cC.bV⟩:dd)
 else
 some ez)).bind λdN =>
 (idx dN.aD.a1 bF.1).bind λeo =>
 (idx dN.cd bF.1).bind λho =>
 some (⟨(⟨dN.aD.a1.set bF.1.toNat (⟨eo.Name,eo.Lit,a2.bL,eo.Level,eo.e9,eo.Tag⟩:Tok),dN.aD.bY,dN.aD.bd,dN.aD.b8,dN.aD.cf⟩:bt),dN.cd.set bF.1.toNat true,dN.cv,dN.b0,dN.cN,dN.c',dN.c9,dN.ca,dN.bV⟩:dd)
 else
 some ez)).bind λeN =>
 (idx eN.aD.a1 bF.1).bind λkP =>
 ((bif !decide (aB.Tag=⟨#[]⟩) then
 ((bif !decide (kP.Tag=⟨#[]⟩) then some (!decide (kP.Tag=aB.Tag)) else some false)).bind λwM =>
 ((bif wM then
 (nG eN a2.At a2.Name).bind λcT =>
 some (⟨(⟨eN.aD.a1,cT.aD.bY,cT.aD.bd,cT.aD.b8,cT.aD.cf⟩:bt),cT.cd,cT.cv,cT.b0,cT.cN,cT.c',cT.c9,cT.ca,cT.bV⟩:dd)
 else
 some eN)).bind λmu =>
 (idx mu.aD.a1 bF.1).bind λgm =>
 some (⟨(⟨mu.aD.a1.set bF.1.toNat (⟨gm.Name,gm.Lit,gm.bL,gm.Level,gm.e9,aB.Tag⟩:Tok),mu.aD.bY,mu.aD.bd,mu.aD.b8,mu.aD.cf⟩:bt),mu.cd,mu.cv,mu.b0,mu.cN,mu.c',mu.c9,mu.ca,mu.bV⟩:dd)
 else
 some eN)).bind λpx =>
 some px)
def s0 (a0:dd) (aB:ByteArray):Option (Int) :=
 (b5 (R:=(Unit) ⊕ (Int)) (λ(s1:Int) =>
 (bif decide (s1<(a0.b0.length:Int)) then
 (idx a0.b0 s1).bind λbC =>
 (bif decide (bC=aB) then
 some (.inr (.inr s1))
 else
 some (.inl (aG (s1+1))))
 else
 some (.inr (.inl ())))) 0).bind λx2 =>
 (match x2 with
 | .inl aX =>
 some (-1)
 | .inr bR =>
 some bR)
def q4 (a0:dd) (aB:Sym):Option (Int × dd) :=
 (bif aB.Lit then
 (s4 a0 aB).bind λx2 =>
 some (x2.1,x2.2)
 else
 (s0 a0 aB.Name).bind λaX =>
 (bif decide (0<=aX) then
 some (aG (1001+aX),a0)
 else
 (uC a0 aB).bind λbK =>
 (bif decide (bK<0) then
 (nG a0 aB.At aB.Name).bind λbS =>
 some (0,bS)
 else
 some (bK,a0))))
def s3 (a0:dd) (aB:ByteArray) (a2:Alt):Option (dd) :=
 (s0 a0 aB).bind λa6 =>
 (b5 (R:=dd × List Int × ByteArray × Int) (λ(s2:dd × List Int × ByteArray × Int × Int) =>
 (bif decide (s2.2.2.2.2<(a2.Parts.length:Int)) then
 ((idx a2.Parts s2.2.2.2.2).bind λbS =>
 (((bif decide (bS.Code=⟨#[]⟩) then
 (q4 s2.1 bS.Sym).bind λcB =>
 (da s2.2.1 [cB.1]).bind λdJ =>
 some (cB.2,s2.2.1++[cB.1],s2.2.2.1,s2.2.2.2.1)
 else
 ((bif decide (aG (s2.2.2.2.2+1)=(a2.Parts.length:Int)) then
 some (s2.1.aD.bd,s2.1.bV,s2.2.1,bS.Code,bS.At)
 else
 (da ([]:List Int) s2.2.1).bind λcL =>
 (da s2.1.aD.bd [(⟨aG ((s2.1.b0.length:Int)+(aG (s2.1.bV+1))),([]:List Int),(-1),bS.Code,([]:List Int)++s2.2.1,bS.At⟩:Prod)]).bind λbX =>
 (da s2.2.1 [aG ((aG (1000+(s2.1.b0.length:Int)))+(aG (s2.1.bV+1)))]).bind λbD =>
 some (s2.1.aD.bd++[(⟨aG ((s2.1.b0.length:Int)+(aG (s2.1.bV+1))),([]:List Int),(-1),bS.Code,([]:List Int)++s2.2.1,bS.At⟩:Prod)],aG (s2.1.bV+1),s2.2.1++[aG ((aG (1000+(s2.1.b0.length:Int)))+(aG (s2.1.bV+1)))],s2.2.2.1,s2.2.2.2.1))).bind λiz =>
 some ((⟨(⟨s2.1.aD.a1,s2.1.aD.bY,iz.1,s2.1.aD.b8,s2.1.aD.cf⟩:bt),s2.1.cd,s2.1.cv,s2.1.b0,s2.1.cN,s2.1.c',s2.1.c9,s2.1.ca,iz.2.1⟩:dd),iz.2.2.1,iz.2.2.2.1,iz.2.2.2.2))).bind λny =>
 some (ny.1,ny.2.1,ny.2.2.1,ny.2.2.2)).bind λfg =>
 some (fg.1,fg.2.1,fg.2.2.1,fg.2.2.2)).bind λkI =>
 some (.inl (kI.1,kI.2.1,kI.2.2.1,kI.2.2.2,aG (s2.2.2.2.2+1)))
 else
 some (.inr (s2.1,s2.2.1,s2.2.2.1,s2.2.2.2.1)))) (a0,([]:List Int),⟨#[]⟩,a2.At,0)).bind λaX =>
 (b5 (R:=Int) (λ(s9:Int × Int) =>
 (bif decide (s9.2<(aX.2.1.length:Int)) then
 ((idx aX.2.1 s9.2).bind λfl =>
 ((bif decide (fl<1000) then
 (idx aX.2.1 s9.2).bind λhX =>
 some hX
 else
 some s9.1)).bind λr6 =>
 some r6).bind λmr =>
 some (.inl (mr,aG (s9.2+1)))
 else
 some (.inr s9.1))) ((-1),0)).bind λfh =>
 ((bif !decide (a2.Prec.Name=⟨#[]⟩) then
 ((bif a2.Prec.Lit then some true else ((s0 aX.1 a2.Prec.Name).bind λho=>some (decide (ho<0))))).bind λtI =>
 ((bif tI then
 (q4 aX.1 a2.Prec).bind λiC =>
 some (iC.2,iC.1)
 else
 (nG aX.1 a2.Prec.At a2.Prec.Name).bind λgb =>
 some (gb,(-1)))).bind λpx =>
 some (px.1,px.2)
 else
 some (aX.1,fh))).bind λjR =>
 (da ([]:List Int) aX.2.1).bind λlg =>
 (da jR.1.aD.bd [(⟨aG (1+a6),aX.2.1,jR.2,aX.2.2.1,([]:List Int)++aX.2.1,aX.2.2.2⟩:Prod)]).bind λkg =>
 some (⟨(⟨jR.1.aD.a1,jR.1.aD.bY,jR.1.aD.bd++[(⟨aG (1+a6),aX.2.1,jR.2,aX.2.2.1,([]:List Int)++aX.2.1,aX.2.2.2⟩:Prod)],jR.1.aD.b8,jR.1.aD.cf⟩:bt),jR.1.cd,jR.1.cv,jR.1.b0,jR.1.cN,jR.1.c',jR.1.c9,jR.1.ca,jR.1.bV⟩:dd)
def qn (a0:Source):Option (bt × Int × Int × ByteArray) :=
 (pG a0).bind λa6 =>
 (bif !a6 then
 some ((⟨([]:List Tok),([]:List e_),([]:List Prod),⟨#[]⟩,⟨#[]⟩⟩:bt),1,0,⟨#[]⟩)
 else
 (nC 3 false).bind λaX =>
 (b5 (R:=dd × ByteArray) (λ(cW:dd × ByteArray × Int) =>
 (bif decide (cW.2.2<(a0.Decls.length:Int)) then
 (idx a0.Decls cW.2.2).bind λb3 =>
 ((bif decide (2<=b3.Kind) then some (decide (b3.Kind<=4)) else some false)).bind λhp =>
 ((bif hp then
 some (aG (cW.1.ca+1))
 else
 some cW.1.ca)).bind λi_ =>
 (b5 (R:=dd × ByteArray) (λ(jW:dd × ByteArray × Int) =>
 (bif decide (jW.2.2<(b3.eL.length:Int)) then
 ((bif !decide (b3.Kind=6) then
 (idx b3.eL jW.2.2).bind λfh =>
 (sZ jW.1 b3 fh).bind λfc =>
 some (fc,jW.2.1)
 else
 ((bif !decide (jW.2.1=⟨#[]⟩) then
 (idx b3.eL jW.2.2).bind λfl =>
 (idx b3.eL jW.2.2).bind λgl =>
 (nG jW.1 fl.At gl.Name).bind λhW =>
 some hW
 else
 some jW.1)).bind λk8 =>
 (idx b3.eL jW.2.2).bind λhX =>
 some (k8,hX.Name))).bind λxq =>
 some (.inl (xq.1,xq.2,aG (jW.2.2+1)))
 else
 some (.inr (jW.1,jW.2.1)))) ((⟨cW.1.aD,cW.1.cd,cW.1.cv,cW.1.b0,cW.1.cN,cW.1.c',cW.1.c9,i_,cW.1.bV⟩:dd),cW.2.1,0)).bind λeP =>
 some (.inl (eP.1,eP.2,aG (cW.2.2+1)))
 else
 some (.inr (cW.1,cW.2.1)))) ((⟨(⟨[(⟨⟨#[36,101,110,100]⟩,false,0,0,0,⟨#[]⟩⟩:Tok),(⟨⟨#[101,114,114,111,114]⟩,false,(-1),0,0,⟨#[]⟩⟩:Tok),(⟨⟨#[36,117,110,107]⟩,false,(-1),0,0,⟨#[]⟩⟩:Tok)],[],[],⟨#[]⟩,⟨#[]⟩⟩:bt),aX,[],[],0,0,⟨#[]⟩,0,0⟩:dd),⟨#[]⟩,0)).bind λbK =>
 (b5 (R:=dd) (λ(qs:dd × Int) =>
 (bif decide (qs.2<(a0.dH.length:Int)) then
 ((idx a0.dH qs.2).bind λe0 =>
 (uC qs.1 (⟨e0.Left,false,0,0⟩:Sym)).bind λlH =>
 ((bif decide (0<=lH) then
 (nG qs.1 e0.At e0.Left).bind λlg =>
 some lg
 else
 some qs.1)).bind λiA =>
 (s0 iA e0.Left).bind λkg =>
 ((bif decide (kg<0) then
 (da iA.b0 [e0.Left]).bind λo3 =>
 some (iA.b0++[e0.Left])
 else
 some iA.b0)).bind λvI =>
 some (⟨iA.aD,iA.cd,iA.cv,vI,iA.cN,iA.c',iA.c9,iA.ca,iA.bV⟩:dd)).bind λxu =>
 some (.inl (xu,aG (qs.2+1)))
 else
 some (.inr qs.1))) (bK.1,0)).bind λcC =>
 (b5 (R:=dd) (λ(qt:dd × Int) =>
 (bif decide (qt.2<(a0.Decls.length:Int)) then
 (b5 (R:=dd) (λ(qu:dd × Int) =>
 (idx a0.Decls qt.2).bind λte =>
 (bif decide (qu.2<(te.eL.length:Int)) then
 ((idx a0.Decls qt.2).bind λtg =>
 (idx tg.eL qu.2).bind λpO =>
 (((idx a0.Decls qt.2).bind λKO=>(bif decide (5<=KO.Kind) then ((s0 qu.1 pO.Name).bind λl4=>some (decide (l4<0))) else some false))).bind λAV =>
 ((bif AV then
 (nG qu.1 pO.At pO.Name).bind λKP =>
 some KP
 else
 some qu.1)).bind λJo =>
 some Jo).bind λJn =>
 some (.inl (Jn,aG (qu.2+1)))
 else
 some (.inr qu.1))) (qt.1,0)).bind λmT =>
 some (.inl (mT,aG (qt.2+1)))
 else
 some (.inr qt.1))) (cC,0)).bind λht =>
 ((bif decide (bK.2=⟨#[]⟩) then
 (idx a0.dH 0).bind λwo =>
 some wo.Left
 else
 some bK.2)).bind λvJ =>
 (s0 ht vJ).bind λl5 =>
 (b5 (R:=dd) (λ(pK:dd × Int) =>
 (bif decide (pK.2<(a0.dH.length:Int)) then
 (b5 (R:=dd) (λ(ra:dd × Int) =>
 (idx a0.dH pK.2).bind λDq =>
 (bif decide (ra.2<(Dq.fr.length:Int)) then
 (idx a0.dH pK.2).bind λDr =>
 (idx a0.dH pK.2).bind λKR =>
 (idx KR.fr ra.2).bind λDs =>
 (s3 ra.1 Dr.Left Ds).bind λGi =>
 some (.inl (Gi,aG (ra.2+1)))
 else
 some (.inr ra.1))) (pK.1,0)).bind λkv =>
 some (.inl (kv,aG (pK.2+1)))
 else
 some (.inr pK.1))) ((⟨(⟨ht.aD.a1,ht.aD.bY,[(⟨0,[aG (1001+l5)],(-1),⟨#[]⟩,([]:List Int),0⟩:Prod)],ht.aD.b8,ht.aD.cf⟩:bt),ht.cd,ht.cv,ht.b0,ht.cN,ht.c',ht.c9,ht.ca,ht.bV⟩:dd),0)).bind λbp =>
 (bif !decide (bp.cN=0) then
 some ((⟨([]:List Tok),([]:List e_),([]:List Prod),⟨#[]⟩,⟨#[]⟩⟩:bt),bp.cN,bp.c',bp.c9)
 else
 (b5 (R:=List e_) (λ(rb:List e_ × Int) =>
 (bif decide (rb.2<(bp.b0.length:Int)) then
 (idx bp.b0 rb.2).bind λqx =>
 (zK (⟨(⟨bp.aD.a1,rb.1,bp.aD.bd,bp.aD.b8,bp.aD.cf⟩:bt),bp.cd,bp.cv,bp.b0,bp.cN,bp.c',bp.c9,bp.ca,bp.bV⟩:dd) qx).bind λyl =>
 ((bif decide (0<=yl) then
 (idx bp.cv yl).bind λKS =>
 some KS.Tag
 else
 some (⟨#[]⟩))).bind λuz =>
 (da rb.1 [(⟨qx,uz⟩:e_)]).bind λQD =>
 some (.inl (rb.1++[(⟨qx,uz⟩:e_)],aG (rb.2+1)))
 else
 some (.inr rb.1))) ([(⟨⟨#[36,97,99,99,101,112,116]⟩,⟨#[]⟩⟩:e_)],0)).bind λth =>
 (b5 (R:=List e_) (λ(sd:List e_ × Int) =>
 (bif decide (sd.2<=bp.bV) then
 (qk sd.2).bind λGj =>
 (e' (⟨#[64]⟩) Gj).bind λwq =>
 (da sd.1 [(⟨wq,⟨#[]⟩⟩:e_)]).bind λQE =>
 some (.inl (sd.1++[(⟨wq,⟨#[]⟩⟩:e_)],aG (sd.2+1)))
 else
 some (.inr sd.1))) (th,1)).bind λky =>
 (b5 (R:=List Tok) (λ(l1:List Tok × Int × Int) =>
 (bif decide (l1.2.2<(l1.1.length:Int)) then
 ((idx bp.cd l1.2.2).bind λKL =>
 ((bif !KL then
 (idx l1.1 l1.2.2).bind λsi =>
 some (l1.1.set l1.2.2.toNat (⟨si.Name,si.Lit,l1.2.1,si.Level,si.e9,si.Tag⟩:Tok),aG (l1.2.1+1))
 else
 some (l1.1,l1.2.1))).bind λB9 =>
 some (B9.1,B9.2)).bind λB' =>
 some (.inl (B'.1,B'.2,aG (l1.2.2+1)))
 else
 some (.inr l1.1))) (bp.aD.a1,57346,3)).bind λlI =>
 ((bif decide (40<(lI.length:Int)) then some true else (bif decide (24<(ky.length:Int)) then some true else some (decide (60<(bp.aD.bd.length:Int)))))).bind λsu =>
 (b5 (R:=Bool) (λ(s8:Bool × Int) =>
 (bif decide (s8.2<(bp.aD.bd.length:Int)) then
 ((bif s8.1 then some true else ((idx bp.aD.bd s8.2).bind λKM=>some (decide (8<(KM.e2.length:Int)))))).bind λyZ =>
 some (.inl (yZ,aG (s8.2+1)))
 else
 some (.inr s8.1))) (su,0)).bind λAl =>
 (bif Al then
 some ((⟨([]:List Tok),([]:List e_),([]:List Prod),⟨#[]⟩,⟨#[]⟩⟩:bt),4,0,⟨#[]⟩)
 else
 some ((⟨lI,ky,bp.aD.bd,a0.b8,a0.cf⟩:bt),0,0,⟨#[]⟩))))
def q7 (a0:Source):Option (bt × Bool) :=
 (qn a0).bind λa6 =>
 some (a6.1,decide (a6.2.1=0))
def pF (a0:(List Int)) (aB:Int):Option ((List Int)) :=
 (b5 (R:=Int) (λ(s1:Int) =>
 ((bif decide (0<s1) then ((idx a0 (aG (s1 - 1))).bind λbK=>some (decide (aB<bK))) else some false)).bind λow =>
 (bif ow then
 some (.inl (aG (s1 - 1)))
 else
 some (.inr s1))) (a0.length:Int)).bind λx2 =>
 ((bif decide (0<x2) then ((idx a0 (aG (x2 - 1))).bind λdG=>some (decide (dG=aB))) else some false)).bind λhp =>
 (bif hp then
 some a0
 else
 (mS a0 0 x2).bind λdJ =>
 (da ([]:List Int) dJ).bind λeX =>
 (da (([]:List Int)++dJ) [aB]).bind λeP =>
 (mS a0 x2 a0.length).bind λcL =>
 (da ((([]:List Int)++dJ)++[aB]) cL).bind λbX =>
 some ((([]:List Int)++dJ)++[aB]++cL))
def uG (a0:(List Int)) (aB:Int):Option (Bool) :=
 (b5 (R:=(Unit) ⊕ (Bool)) (λ(s1:Int) =>
 (bif decide (s1<(a0.length:Int)) then
 (idx a0 s1).bind λbC =>
 (bif decide (bC=aB) then
 some (.inr (.inr true))
 else
 some (.inl (aG (s1+1))))
 else
 some (.inr (.inl ())))) 0).bind λx2 =>
 (match x2 with
 | .inl aX =>
 some false
 | .inr bR =>
 some bR)
def CR (a0:bt):Option ((List Int)) :=
 (b5 (R:=List Int) (λ(s1:List Int × Int) =>
 (bif decide (s1.2<(a0.a1.length:Int)) then
 (da s1.1 [s1.2]).bind λbK =>
 some (.inl (s1.1++[s1.2],aG (s1.2+1)))
 else
 some (.inr s1.1))) (([]:List Int),0)).bind λx2 =>
 (b5 (R:=List Int) (λ(db:List Int × Int) =>
 (bif decide (db.2<(a0.bY.length:Int)) then
 (da db.1 [aG (1000+db.2)]).bind λbF =>
 some (.inl (db.1++[aG (1000+db.2)],aG (db.2+1)))
 else
 some (.inr db.1))) (x2,0)).bind λbS =>
 some bS
structure Item where
 Prod:Int
 eY:Int
 deriving DecidableEq,Inhabited
def zL (a0:bt) (aB:Item):Option (Bool) :=
 ((bif decide (0<=aB.Prod) then (bif decide (aB.Prod<(a0.bd.length:Int)) then (bif decide (0<=aB.eY) then ((idx a0.bd aB.Prod).bind λbR=>some (decide (aB.eY<=(bR.e2.length:Int)))) else some false) else some false) else some false)).bind λnb =>
 some nb
def xY (a0:bt) (aB:Item):Option (Int) :=
 (((zL a0 aB).bind λa6=>(bif !a6 then some true else ((idx a0.bd aB.Prod).bind λaX=>some (decide (aB.eY=(aX.e2.length:Int))))))).bind λc4 =>
 (bif c4 then
 some (-1)
 else
 (idx a0.bd aB.Prod).bind λbC =>
 (idx bC.e2 aB.eY).bind λbS =>
 some bS)
def fx:bz Item:=⟨2,λx=>[ae x.Prod,ae x.eY],λ_=>rfl,λ_=>dh.bl⟩
instance:Flat fx:=⟨λ_=>rfl⟩
instance:ll fx:=⟨λx=>(inferInstance:jc [ae x.Prod,ae x.eY])⟩
instance:gq fx fx:=⟨rfl,λx=>(inferInstance:c8 [ae x.Prod,ae x.eY] [ae x.Prod,ae x.eY])⟩
def xM (a0:(List Item)) (aB:Item):Option ((List Item)) :=
 (b5 (R:=Int) (λ(s1:Int) =>
 ((bif decide (0<s1) then ((idx a0 (aG (s1 - 1))).bind λbK=>(bif decide (aB.Prod<bK.Prod) then some true else ((idx a0 (aG (s1 - 1))).bind λbS=>(bif decide (bS.Prod=aB.Prod) then ((idx a0 (aG (s1 - 1))).bind λdG=>some (decide (aB.eY<dG.eY))) else some false)))) else some false)).bind λhp =>
 (bif hp then
 some (.inl (aG (s1 - 1)))
 else
 some (.inr s1))) (a0.length:Int)).bind λx2 =>
 ((bif decide (0<x2) then ((idx a0 (aG (x2 - 1))).bind λeX=>some (decide (eX.Prod=aB.Prod)&&(decide (eX.eY=aB.eY)&&true))) else some false)).bind λrC =>
 (bif rC then
 some a0
 else
 (mS a0 0 x2).bind λbX =>
 (da ([]:List Item) bX).bind λbD =>
 (da (([]:List Item)++bX) [aB]).bind λfq =>
 (mS a0 x2 a0.length).bind λfh =>
 (da ((([]:List Item)++bX)++[aB]) fh).bind λfc =>
 some ((([]:List Item)++bX)++[aB]++fh))
def Cz (a0:bt) (aB:(List Item)):Option ((List Item)) :=
 (b5 (R:=List Item) (λ(s1:List Item × Int) =>
 (bif decide (s1.2<(aB.length:Int)) then
 ((idx aB s1.2).bind λbC =>
 (zL a0 bC).bind λbS =>
 ((bif bS then
 (idx aB s1.2).bind λbF =>
 (xM s1.1 bF).bind λcB =>
 some cB
 else
 some s1.1)).bind λfg =>
 some fg).bind λqe =>
 some (.inl (qe,aG (s1.2+1)))
 else
 some (.inr s1.1))) (([]:List Item),0)).bind λx2 =>
 some x2
def xX (a0:bt) (aB:(List Item)):Option ((List Item)) :=
 (Cz a0 aB).bind λa6 =>
 (b5 (R:=List Item) (λ(s2:List Item × Int) =>
 (bif !decide (s2.2=(s2.1.length:Int)) then
 (((b5 (R:=List Item) (λ(eO:List Item × Int) =>
 (bif decide (eO.2<(s2.1.length:Int)) then
 (idx eO.1 eO.2).bind λdJ =>
 (xY a0 dJ).bind λeX =>
 (b5 (R:=List Item) (λ(lF:List Item × Int) =>
 ((bif decide (lF.2<(a0.bd.length:Int)) then some (decide (1000<=eX)) else some false)).bind λna =>
 (bif na then
 ((idx a0.bd lF.2).bind λeG =>
 ((bif decide (eG.Left=aG (eX - 1000)) then
 (xM lF.1 (⟨lF.2,0⟩:Item)).bind λgl =>
 some gl
 else
 some lF.1)).bind λmr =>
 some mr).bind λxr =>
 some (.inl (xr,aG (lF.2+1)))
 else
 some (.inr lF.1))) (eO.1,0)).bind λcL =>
 (bif !decide ((cL.length:Int)=(s2.1.length:Int)) then
 some (.inr cL)
 else
 some (.inl (cL,aG (eO.2+1))))
 else
 some (.inr eO.1))) (s2.1,0)).bind λdG =>
 some dG).bind λlC =>
 some (lC,(s2.1.length:Int))).bind λkI =>
 some (.inl (kI.1,kI.2))
 else
 some (.inr s2.1))) (a6,(-1))).bind λaX =>
 some aX
def CS (a0:bt) (aB:(List Item)) (a2:Int):Option ((List Item)) :=
 (xX a0 aB).bind λa6 =>
 (b5 (R:=List Item) (λ(s2:List Item × Int) =>
 (bif decide (s2.2<(a6.length:Int)) then
 ((idx a6 s2.2).bind λbS =>
 (xY a0 bS).bind λb3 =>
 ((bif decide (0<=b3) then some (decide (b3=a2)) else some false)).bind λhp =>
 ((bif hp then
 (idx a6 s2.2).bind λeX =>
 (idx a6 s2.2).bind λeP =>
 (xM s2.1 (⟨eX.Prod,aG (eP.eY+1)⟩:Item)).bind λcL =>
 some cL
 else
 some s2.1)).bind λi_ =>
 some i_).bind λkI =>
 some (.inl (kI,aG (s2.2+1)))
 else
 some (.inr s2.1))) (([]:List Item),0)).bind λaX =>
 some aX
def CA (a0:(List Item)) (aB:(List Item)):Option (Bool) :=
 (bif !decide ((a0.length:Int)=(aB.length:Int)) then
 some false
 else
 (b5 (R:=(Unit) ⊕ (Bool)) (λ(s2:Int) =>
 (bif decide (s2<(a0.length:Int)) then
 (idx a0 s2).bind λbS =>
 (idx aB s2).bind λb3 =>
 (bif !(decide (bS.Prod=b3.Prod)&&(decide (bS.eY=b3.eY)&&true)) then
 some (.inr (.inr false))
 else
 some (.inl (aG (s2+1))))
 else
 some (.inr (.inl ())))) 0).bind λaX =>
 (match aX with
 | .inl bR =>
 some true
 | .inr bK =>
 some bK))
structure Move where
 Sym:Int
 jz:Int
 deriving DecidableEq,Inhabited
structure State where
 Kernel:(List Item)
 ey:(List Move)
 deriving DecidableEq,Inhabited
def lr:bz Move:=⟨2,λx=>[ae x.Sym,ae x.jz],λ_=>rfl,λ_=>dh.bl⟩
instance:Flat lr:=⟨λ_=>rfl⟩
instance:ll lr:=⟨λx=>(inferInstance:jc [ae x.Sym,ae x.jz])⟩
instance:gq lr lr:=⟨rfl,λx=>(inferInstance:c8 [ae x.Sym,ae x.jz] [ae x.Sym,ae x.jz])⟩
def gu:bz State:=⟨2,λx=>[ak fx x.Kernel,ak lr x.ey],λ_=>rfl,λ_=>dh.bl⟩
instance:Flat gu:=⟨λ_=>rfl⟩
instance:gq gu gu:=⟨rfl,λx=>(inferInstance:c8 [ak fx x.Kernel,ak lr x.ey] [ak fx x.Kernel,ak lr x.ey])⟩
def CT (a0:(List State)) (aB:(List Item)):Option (Int) :=
 (b5 (R:=(Unit) ⊕ (Int)) (λ(s1:Int) =>
 (bif decide (s1<(a0.length:Int)) then
 (idx a0 s1).bind λbC =>
 (CA bC.Kernel aB).bind λbS =>
 (bif bS then
 some (.inr (.inr s1))
 else
 some (.inl (aG (s1+1))))
 else
 some (.inr (.inl ())))) 0).bind λx2 =>
 (match x2 with
 | .inl aX =>
 some (-1)
 | .inr bR =>
 some bR)
def gQ:bz State:=⟨2,λx=>[ak fx x.Kernel,ao lr x.ey],λ_=>rfl,λ_=>dh.bl⟩
instance:gq gQ gu:=⟨rfl,λx=>(inferInstance:c8 [ak fx x.Kernel,ao lr x.ey] [ak fx x.Kernel,ak lr x.ey])⟩
def vZ (a0:bt):Option ((List State) × Int) :=
 (CR a0).bind λa6 =>
 (b5 (R:=(List State) ⊕ (List State × Int)) (λ(s2:List State × Int) =>
 (bif decide (s2.2<(s2.1.length:Int)) then
 (idx s2.1 s2.2).bind λbS =>
 (xX a0 bS.Kernel).bind λb3 =>
 (b5 (R:=List Int) (λ(fE:List Int × Int) =>
 (bif decide (fE.2<(b3.length:Int)) then
 ((idx b3 fE.2).bind λeP =>
 (xY a0 eP).bind λcL =>
 ((bif decide (0<=cL) then
 (pF fE.1 cL).bind λfq =>
 some fq
 else
 some fE.1)).bind λmq =>
 some mq).bind λiz =>
 some (.inl (iz,aG (fE.2+1)))
 else
 some (.inr fE.1))) (([]:List Int),0)).bind λbF =>
 (b5 (R:=(List State) ⊕ (List State × Int)) (λ(dO:List State × Int) =>
 (bif decide (dO.2<(a6.length:Int)) then
 (idx a6 dO.2).bind λgl =>
 (uG bF gl).bind λhW =>
 (bif !hW then
 some (.inl (dO.1,aG (dO.2+1)))
 else
 (idx dO.1 s2.2).bind λfv =>
 (idx a6 dO.2).bind λcC =>
 (CS a0 fv.Kernel cC).bind λeo =>
 (CT dO.1 eo).bind λho =>
 (bif decide (ho<0) then
 (bif decide ((dO.1.length:Int)=150) then
 some (.inr (.inr (([]:List State),4)))
 else
 (da dO.1 [(⟨eo,([]:List Move)⟩:State)]).bind λlH =>
 (idx (dO.1++[(⟨eo,([]:List Move)⟩:State)]) s2.2).bind λiC =>
 (idx a6 dO.2).bind λgb =>
 (da iC.ey [(⟨gb,(dO.1.length:Int)⟩:Move)]).bind λlg =>
 some (.inl ((dO.1++[(⟨eo,([]:List Move)⟩:State)]).set s2.2.toNat (⟨iC.Kernel,iC.ey++[(⟨gb,(dO.1.length:Int)⟩:Move)]⟩:State),aG (dO.2+1))))
 else
 (idx dO.1 s2.2).bind λkg =>
 (idx a6 dO.2).bind λcT =>
 (da kg.ey [(⟨cT,ho⟩:Move)]).bind λgm =>
 some (.inl (dO.1.set s2.2.toNat (⟨kg.Kernel,kg.ey++[(⟨cT,ho⟩:Move)]⟩:State),aG (dO.2+1)))))
 else
 some (.inr (.inl dO.1)))) (s2.1,0)).bind λfc =>
 (match fc with
 | .inl eG =>
 some (.inl (eG,aG (s2.2+1)))
 | .inr fM =>
 some (.inr (.inr (fM.1,fM.2))))
 else
 some (.inr (.inl s2.1)))) ([(⟨[(⟨0,0⟩:Item)],([]:List Move)⟩:State)],0)).bind λaX =>
 (match aX with
 | .inl bR =>
 some (bR,0)
 | .inr bK =>
 some (bK.1,bK.2))
def q5 (a0:Source):Option (bt × (List State) × Bool) :=
 (q7 a0).bind λa6 =>
 (bif !a6.2 then
 some (a6.1,([]:List State),false)
 else
 (vZ a6.1).bind λaX =>
 some (a6.1,aX.1,decide (aX.2=0)))
def q6 (a0:(List State)) (aB:Int) (a2:Int):Option (Int) :=
 (b5 (R:=(Unit) ⊕ (Int)) (λ(s1:Int) =>
 ((bif decide (0<=aB) then (bif decide (aB<(a0.length:Int)) then ((idx a0 aB).bind λbS=>some (decide (s1<(bS.ey.length:Int)))) else some false) else some false)).bind λtJ =>
 (bif tJ then
 (idx a0 aB).bind λbF =>
 (idx bF.ey s1).bind λcB =>
 (bif decide (cB.Sym=a2) then
 (idx a0 aB).bind λeX =>
 (idx eX.ey s1).bind λeP =>
 some (.inr (.inr eP.jz))
 else
 some (.inl (aG (s1+1))))
 else
 some (.inr (.inl ())))) 0).bind λx2 =>
 (match x2 with
 | .inl aX =>
 some (-1)
 | .inr bR =>
 some bR)
structure Cell where
 State:Int
 Tok:Int
 j2:Int
 lJ:Bool
 bd:(List Int)
 deriving DecidableEq,Inhabited
def iv:bz Cell:=⟨5,λx=>[ae x.State,ae x.Tok,ae x.j2,bc x.lJ,ak az x.bd],λ_=>rfl,λ_=>dh.bl⟩
instance:Flat iv:=⟨λ_=>rfl⟩
instance:gq iv iv:=⟨rfl,λx=>(inferInstance:c8 [ae x.State,ae x.Tok,ae x.j2,bc x.lJ,ak az x.bd] [ae x.State,ae x.Tok,ae x.j2,bc x.lJ,ak az x.bd])⟩
instance {x:Cell}:c8 (iv.cells x) [ae x.State,ae x.Tok,ae x.j2,bc x.lJ,ak az x.bd]:=(inferInstance:c8 [ae x.State,ae x.Tok,ae x.j2,bc x.lJ,ak az x.bd] [ae x.State,ae x.Tok,ae x.j2,bc x.lJ,ak az x.bd])
def zS (a0:Cell):Option (Int) :=
 ((bif decide (0<=a0.j2) then
 some (aG ((a0.bd.length:Int)+1))
 else
 some (a0.bd.length:Int))).bind λjq =>
 ((bif a0.lJ then
 some (aG (jq+1))
 else
 some jq)).bind λig =>
 some ig
structure kT where
 State:Int
 Prod:Int
 a1:(List Int)
 deriving DecidableEq,Inhabited
def rF:bz kT:=⟨3,λx=>[ae x.State,ae x.Prod,ak az x.a1],λ_=>rfl,λ_=>dh.bl⟩
instance:Flat rF:=⟨λ_=>rfl⟩
instance:gq rF rF:=⟨rfl,λx=>(inferInstance:c8 [ae x.State,ae x.Prod,ak az x.a1] [ae x.State,ae x.Prod,ak az x.a1])⟩
instance {x:kT}:c8 (rF.cells x) [ae x.State,ae x.Prod,ak az x.a1]:=(inferInstance:c8 [ae x.State,ae x.Prod,ak az x.a1] [ae x.State,ae x.Prod,ak az x.a1])
def xS (a0:bt) (aB:(List State)) (a2:(List kT)):Option ((List Cell)) :=
 (b5 (R:=List Cell) (λ(s1:List Cell × Int) =>
 (bif decide (s1.2<(aB.length:Int)) then
 (b5 (R:=List Cell) (λ(cw:List Cell × Int) =>
 (bif decide (cw.2<(a0.a1.length:Int)) then
 ((q6 aB s1.2 cw.2).bind λbF =>
 (b5 (R:=Bool) (λ(ju:Bool × Int) =>
 (idx aB s1.2).bind λeP =>
 (bif decide (ju.2<(eP.Kernel.length:Int)) then
 (idx aB s1.2).bind λbX =>
 (idx bX.Kernel ju.2).bind λbD =>
 ((bif ju.1 then some true else (bif decide (cw.2=0) then (bif decide (bD.Prod=0) then some (decide (bD.eY=1)) else some false) else some false))).bind λrD =>
 some (.inl (rD,aG (ju.2+1)))
 else
 some (.inr ju.1))) (false,0)).bind λdJ =>
 (b5 (R:=List Int) (λ(iB:List Int × Int) =>
 (bif decide (iB.2<(a2.length:Int)) then
 ((((idx a2 iB.2).bind λfv=>(bif decide (fv.State=s1.2) then ((idx a2 iB.2).bind λeo=>((uG eo.a1 cw.2).bind λho=>some ho)) else some false))).bind λtI =>
 ((bif tI then
 (idx a2 iB.2).bind λiC =>
 (pF iB.1 iC.Prod).bind λgb =>
 some gb
 else
 some iB.1)).bind λpx =>
 some px).bind λdN =>
 some (.inl (dN,aG (iB.2+1)))
 else
 some (.inr iB.1))) (([]:List Int),0)).bind λfl =>
 (zS (⟨s1.2,cw.2,bF,dJ,fl⟩:Cell)).bind λlg =>
 ((bif decide (0<lg) then
 (da cw.1 [(⟨s1.2,cw.2,bF,dJ,fl⟩:Cell)]).bind λgm =>
 some (cw.1++[(⟨s1.2,cw.2,bF,dJ,fl⟩:Cell)])
 else
 some cw.1)).bind λJj =>
 some Jj).bind λny =>
 some (.inl (ny,aG (cw.2+1)))
 else
 some (.inr cw.1))) (s1.1,0)).bind λbC =>
 some (.inl (bC,aG (s1.2+1)))
 else
 some (.inr s1.1))) (([]:List Cell),0)).bind λx2 =>
 some x2
def zX (a0:(List (List Int))) (aB:(List (List Int))):Option ((List (List Int))) :=
 (b5 (R:=List (List Int)) (λ(s1:List (List Int) × Bool) =>
 (bif s1.2 then
 (b5 (R:=List (List Int) × Bool) (λ(cw:List (List Int) × Bool × Int) =>
 (bif decide (cw.2.2<(cw.1.length:Int)) then
 (idx aB cw.2.2).bind λdG =>
 (idx cw.1 cw.2.2).bind λbF =>
 (b5 (R:=List (List Int)) (λ(ju:List (List Int) × Int) =>
 (bif decide (ju.2<(dG.length:Int)) then
 (b5 (R:=List (List Int)) (λ(hT:List (List Int) × Int) =>
 (idx dG ju.2).bind λfq =>
 (idx hT.1 fq).bind λfh =>
 (bif decide (hT.2<(fh.length:Int)) then
 (idx hT.1 cw.2.2).bind λeG =>
 (idx dG ju.2).bind λfM =>
 (idx hT.1 fM).bind λfl =>
 (idx fl hT.2).bind λgl =>
 (pF eG gl).bind λhW =>
 some (.inl (hT.1.set cw.2.2.toNat hW,aG (hT.2+1)))
 else
 some (.inr hT.1))) (ju.1,0)).bind λbX =>
 some (.inl (bX,aG (ju.2+1)))
 else
 some (.inr ju.1))) (cw.1,0)).bind λdJ =>
 ((bif cw.2.1 then some true else ((idx dJ cw.2.2).bind λfv=>some (!decide ((fv.length:Int)=(bF.length:Int)))))).bind λAQ =>
 some (.inl (dJ,AQ,aG (cw.2.2+1)))
 else
 some (.inr (cw.1,cw.2.1)))) (s1.1,false,0)).bind λbC =>
 some (.inl (bC.1,bC.2))
 else
 some (.inr s1.1))) (a0,true)).bind λx2 =>
 some x2
structure Trans where
 State:Int
 e_:Int
 deriving DecidableEq,Inhabited
def pZ:bz Trans:=⟨2,λx=>[ae x.State,ae x.e_],λ_=>rfl,λ_=>dh.bl⟩
instance:Flat pZ:=⟨λ_=>rfl⟩
instance:ll pZ:=⟨λx=>(inferInstance:jc [ae x.State,ae x.e_])⟩
instance:gq pZ pZ:=⟨rfl,λx=>(inferInstance:c8 [ae x.State,ae x.e_] [ae x.State,ae x.e_])⟩
def qo (a0:(List State)):Option ((List Trans)) :=
 (b5 (R:=List Trans) (λ(s1:List Trans × Int) =>
 (bif decide (s1.2<(a0.length:Int)) then
 (b5 (R:=List Trans) (λ(cw:List Trans × Int) =>
 (idx a0 s1.2).bind λb3 =>
 (bif decide (cw.2<(b3.ey.length:Int)) then
 ((idx a0 s1.2).bind λcB =>
 (idx cB.ey cw.2).bind λdJ =>
 ((bif decide (1000<=dJ.Sym) then
 (idx a0 s1.2).bind λcL =>
 (idx cL.ey cw.2).bind λbX =>
 (da cw.1 [(⟨s1.2,bX.Sym⟩:Trans)]).bind λbD =>
 some (cw.1++[(⟨s1.2,bX.Sym⟩:Trans)])
 else
 some cw.1)).bind λiz =>
 some iz).bind λmo =>
 some (.inl (mo,aG (cw.2+1)))
 else
 some (.inr cw.1))) (s1.1,0)).bind λbC =>
 some (.inl (bC,aG (s1.2+1)))
 else
 some (.inr s1.1))) (([]:List Trans),0)).bind λx2 =>
 some x2
def CB (a0:(List Item)):Option (Bool) :=
 (b5 (R:=(Unit) ⊕ (Bool)) (λ(s1:Int) =>
 (bif decide (s1<(a0.length:Int)) then
 (((idx a0 s1).bind λbC=>(bif decide (bC.Prod=0) then ((idx a0 s1).bind λb3=>some (decide (b3.eY=1))) else some false))).bind λnP =>
 (bif nP then
 some (.inr (.inr true))
 else
 some (.inl (aG (s1+1))))
 else
 some (.inr (.inl ())))) 0).bind λx2 =>
 (match x2 with
 | .inl aX =>
 some false
 | .inr bR =>
 some bR)
def CU (a0:(List State)):Option ((List (List Int))) :=
 (qo a0).bind λa6 =>
 (b5 (R:=List (List Int)) (λ(s2:List (List Int) × Int) =>
 (bif decide (s2.2<(a6.length:Int)) then
 (idx a6 s2.2).bind λbC =>
 (idx a6 s2.2).bind λbS =>
 (q6 a0 bC.State bS.e_).bind λb3 =>
 (idx a0 b3).bind λdG =>
 (CB dG.Kernel).bind λbF =>
 ((bif bF then
 (da ([]:List Int) [0]).bind λeX =>
 some [0]
 else
 some ([]:List Int))).bind λi_ =>
 (b5 (R:=List Int) (λ(lF:List Int × Int) =>
 (idx a0 b3).bind λbD =>
 (bif decide (lF.2<(bD.ey.length:Int)) then
 ((idx a0 b3).bind λfc =>
 (idx fc.ey lF.2).bind λeG =>
 ((bif decide (eG.Sym<1000) then
 (idx a0 b3).bind λgl =>
 (idx gl.ey lF.2).bind λhW =>
 (pF lF.1 hW.Sym).bind λhX =>
 some hX
 else
 some lF.1)).bind λmr =>
 some mr).bind λeN =>
 some (.inl (eN,aG (lF.2+1)))
 else
 some (.inr lF.1))) (i_,0)).bind λcL =>
 (da s2.1 [cL]).bind λfv =>
 some (.inl (s2.1++[cL],aG (s2.2+1)))
 else
 some (.inr s2.1))) (([]:List (List Int)),0)).bind λaX =>
 some aX
def zO (a0:(List Bool)) (aB:(List Int)):Option (Bool) :=
 (b5 (R:=(Unit) ⊕ (Bool)) (λ(s1:Int) =>
 (bif decide (s1<(aB.length:Int)) then
 (((idx aB s1).bind λbC=>(bif decide (bC<1000) then some true else ((idx aB s1).bind λb3=>((idx a0 (aG (b3 - 1000))).bind λdG=>some (!dG)))))).bind λhp =>
 (bif hp then
 some (.inr (.inr false))
 else
 some (.inl (aG (s1+1))))
 else
 some (.inr (.inl ())))) 0).bind λx2 =>
 (match x2 with
 | .inl aX =>
 some true
 | .inr bR =>
 some bR)
def zM (a0:bt):Option ((List Bool)) :=
 (nC (a0.bY.length:Int) false).bind λa6 =>
 (b5 (R:=List Bool) (λ(s2:List Bool × Bool) =>
 (bif s2.2 then
 (b5 (R:=List Bool × Bool) (λ(db:List Bool × Bool × Int) =>
 (bif decide (db.2.2<(a0.bd.length:Int)) then
 ((idx a0.bd db.2.2).bind λcB =>
 (((idx db.1 cB.Left).bind λdJ=>(bif !dJ then ((zO db.1 cB.e2).bind λeP=>some eP) else some false))).bind λov =>
 ((bif ov then
 (idx db.1 cB.Left).bind λfq =>
 some (db.1.set cB.Left.toNat true,true)
 else
 some (db.1,db.2.1))).bind λmq =>
 some (mq.1,mq.2)).bind λmo =>
 some (.inl (mo.1,mo.2,aG (db.2.2+1)))
 else
 some (.inr (db.1,db.2.1)))) (s2.1,false,0)).bind λbS =>
 some (.inl (bS.1,bS.2))
 else
 some (.inr s2.1))) (a6,true)).bind λaX =>
 some aX
def zN (a0:(List Trans)) (aB:Int) (a2:Int):Option (Int) :=
 (b5 (R:=(Unit) ⊕ (Int)) (λ(s1:Int) =>
 (bif decide (s1<(a0.length:Int)) then
 (((idx a0 s1).bind λbC=>(bif decide (bC.State=aB) then ((idx a0 s1).bind λb3=>some (decide (b3.e_=a2))) else some false))).bind λnP =>
 (bif nP then
 some (.inr (.inr s1))
 else
 some (.inl (aG (s1+1))))
 else
 some (.inr (.inl ())))) 0).bind λx2 =>
 (match x2 with
 | .inl aX =>
 some (-1)
 | .inr bR =>
 some bR)
def CV (a0:bt) (aB:(List State)):Option ((List (List Int))) :=
 (qo aB).bind λa6 =>
 (zM a0).bind λx2 =>
 (b5 (R:=List (List Int)) (λ(dn:List (List Int) × Int) =>
 (bif decide (dn.2<(a6.length:Int)) then
 (idx a6 dn.2).bind λbS =>
 (idx a6 dn.2).bind λb3 =>
 (q6 aB bS.State b3.e_).bind λdG =>
 (b5 (R:=List Int) (λ(fW:List Int × Int) =>
 (idx aB dG).bind λeX =>
 (bif decide (fW.2<(eX.ey.length:Int)) then
 ((idx aB dG).bind λbX =>
 (idx bX.ey fW.2).bind λbD =>
 ((bif decide (1000<=bD.Sym) then ((idx x2 (aG (bD.Sym - 1000))).bind λfh=>some fh) else some false)).bind λGY =>
 ((bif GY then
 (zN a6 dG bD.Sym).bind λfl =>
 (pF fW.1 fl).bind λgl =>
 some gl
 else
 some fW.1)).bind λk8 =>
 some k8).bind λlB =>
 some (.inl (lB,aG (fW.2+1)))
 else
 some (.inr fW.1))) (([]:List Int),0)).bind λcB =>
 (da dn.1 [cB]).bind λhW =>
 some (.inl (dn.1++[cB],aG (dn.2+1)))
 else
 some (.inr dn.1))) (([]:List (List Int)),0)).bind λbR =>
 some bR
def zY (a0:(List State)) (aB:Int) (a2:(List Int)):Option (Int) :=
 (b5 (R:=Int) (λ(s1:Int × Int) =>
 ((bif decide (s1.2<(a2.length:Int)) then some (decide (0<=s1.1)) else some false)).bind λnb =>
 (bif nb then
 (idx a2 s1.2).bind λbS =>
 (q6 a0 s1.1 bS).bind λb3 =>
 some (.inl (b3,aG (s1.2+1)))
 else
 some (.inr s1.1))) (aB,0)).bind λx2 =>
 some x2
def CW (a0:bt) (aB:(List State)):Option ((List (List Int))) :=
 (qo aB).bind λa6 =>
 (zM a0).bind λx2 =>
 (nC (a6.length:Int) ([]:List Int)).bind λaX =>
 (b5 (R:=List (List Int)) (λ(cW:List (List Int) × Int) =>
 (bif decide (cW.2<(a6.length:Int)) then
 (b5 (R:=List (List Int)) (λ(eO:List (List Int) × Int) =>
 (bif decide (eO.2<(a0.bd.length:Int)) then
 ((idx a0.bd eO.2).bind λeX =>
 (idx a0.bd eO.2).bind λeP =>
 (idx a6 cW.2).bind λcL =>
 (bif !decide (aG (1000+eP.Left)=cL.e_) then
 some eO.1
 else
 (b5 (R:=List (List Int)) (λ(f':List (List Int) × Int) =>
 (bif decide (f'.2<(eX.e2.length:Int)) then
 ((((idx eX.e2 f'.2).bind λfM=>(bif decide (fM<1000) then some true else ((mS eX.e2 (aG (f'.2+1)) eX.e2.length).bind λgl=>((zO x2 gl).bind λhW=>some (!hW)))))).bind λG3 =>
 (bif G3 then
 some f'.1
 else
 (idx a6 cW.2).bind λcC =>
 (mS eX.e2 0 f'.2).bind λeo =>
 (zY aB cC.State eo).bind λho =>
 ((bif decide (0<=ho) then
 (idx eX.e2 f'.2).bind λlH =>
 (zN a6 ho lH).bind λiC =>
 ((bif decide (0<=iC) then
 (idx f'.1 iC).bind λkg =>
 (pF kg cW.2).bind λcT =>
 some (f'.1.set iC.toNat cT)
 else
 some f'.1)).bind λJi =>
 some Ji
 else
 some f'.1)).bind λxu =>
 some xu)).bind λk8 =>
 some (.inl (k8,aG (f'.2+1)))
 else
 some (.inr f'.1))) (eO.1,0)).bind λfq =>
 some fq)).bind λez =>
 some (.inl (ez,aG (eO.2+1)))
 else
 some (.inr eO.1))) (cW.1,0)).bind λdG =>
 some (.inl (dG,aG (cW.2+1)))
 else
 some (.inr cW.1))) (aX,0)).bind λbK =>
 some bK
def zV (a0:bt) (aB:(List State)):Option ((List (List Int))) :=
 (CU aB).bind λa6 =>
 (CV a0 aB).bind λx2 =>
 (zX a6 x2).bind λaX =>
 (CW a0 aB).bind λbR =>
 (zX aX bR).bind λbK =>
 some bK
def CN (a0:bt) (aB:(List Item)):Option ((List Int)) :=
 (xX a0 aB).bind λa6 =>
 (b5 (R:=List Int) (λ(s2:List Int × Int) =>
 (bif decide (s2.2<(a6.length:Int)) then
 ((((idx a6 s2.2).bind λbS=>(bif decide (0<bS.Prod) then ((idx a6 s2.2).bind λdG=>((idx a6 s2.2).bind λbF=>((idx a0.bd bF.Prod).bind λcB=>some (decide (dG.eY=(cB.e2.length:Int)))))) else some false))).bind λtF =>
 ((bif tF then
 (idx a6 s2.2).bind λcL =>
 (da s2.1 [cL.Prod]).bind λbX =>
 some (s2.1++[cL.Prod])
 else
 some s2.1)).bind λiz =>
 some iz).bind λkI =>
 some (.inl (kI,aG (s2.2+1)))
 else
 some (.inr s2.1))) (([]:List Int),0)).bind λaX =>
 some aX
def CO (a0:bt) (aB:(List State)) (a2:Int) (a3:Int):Option ((List Int)) :=
 ((bif decide (a2<0) then some true else (bif decide ((aB.length:Int)<=a2) then some true else (bif decide (a3<1) then some true else some (decide ((a0.bd.length:Int)<=a3)))))).bind λc4 =>
 (bif c4 then
 some ([]:List Int)
 else
 (qo aB).bind λbC =>
 (b5 (R:=List Int) (λ(dc:List Int × Int) =>
 (bif decide (dc.2<(bC.length:Int)) then
 ((((idx bC dc.2).bind λdJ=>((idx a0.bd a3).bind λeX=>(bif decide (dJ.e_=aG (1000+eX.Left)) then ((idx bC dc.2).bind λcL=>((idx a0.bd a3).bind λbX=>((zY aB cL.State bX.e2).bind λbD=>some (decide (bD=a2))))) else some false)))).bind λna =>
 ((bif na then
 (da dc.1 [dc.2]).bind λeG =>
 some (dc.1++[dc.2])
 else
 some dc.1)).bind λeN =>
 some eN).bind λi_ =>
 some (.inl (i_,aG (dc.2+1)))
 else
 some (.inr dc.1))) (([]:List Int),0)).bind λb3 =>
 some b3)
def xT (a0:bt) (aB:(List State)):Option ((List kT)) :=
 (zV a0 aB).bind λa6 =>
 (b5 (R:=List kT) (λ(s2:List kT × Int) =>
 (bif decide (s2.2<(aB.length:Int)) then
 (idx aB s2.2).bind λbC =>
 (CN a0 bC.Kernel).bind λbS =>
 (b5 (R:=List kT) (λ(eO:List kT × Int) =>
 (bif decide (eO.2<(bS.length:Int)) then
 (idx bS eO.2).bind λdJ =>
 (idx bS eO.2).bind λeX =>
 (CO a0 aB s2.2 eX).bind λeP =>
 (b5 (R:=List Int) (λ(hT:List Int × Int) =>
 (bif decide (hT.2<(eP.length:Int)) then
 (b5 (R:=List Int) (λ(dO:List Int × Int) =>
 (idx eP hT.2).bind λfM =>
 (idx a6 fM).bind λfl =>
 (bif decide (dO.2<(fl.length:Int)) then
 (idx eP hT.2).bind λhW =>
 (idx a6 hW).bind λhX =>
 (idx hX dO.2).bind λfv =>
 (pF dO.1 fv).bind λcC =>
 some (.inl (cC,aG (dO.2+1)))
 else
 some (.inr dO.1))) (hT.1,0)).bind λfc =>
 some (.inl (fc,aG (hT.2+1)))
 else
 some (.inr hT.1))) (([]:List Int),0)).bind λbX =>
 (da eO.1 [(⟨s2.2,dJ,bX⟩:kT)]).bind λeo =>
 some (.inl (eO.1++[(⟨s2.2,dJ,bX⟩:kT)],aG (eO.2+1)))
 else
 some (.inr eO.1))) (s2.1,0)).bind λdG =>
 some (.inl (dG,aG (s2.2+1)))
 else
 some (.inr s2.1))) (([]:List kT),0)).bind λaX =>
 some aX
def qm (a0:Source):Option (bt × (List State) × (List Cell) × Bool) :=
 (q5 a0).bind λa6 =>
 (bif !a6.2.2 then
 some (a6.1,([]:List State),([]:List Cell),false)
 else
 (xT a6.1 a6.2.1).bind λaX =>
 (xS a6.1 a6.2.1 aX).bind λbR =>
 some (a6.1,a6.2.1,bR,true))
def CX (a0:bt) (aB:Int):Option (Int × Int) :=
 ((bif decide (aB<0) then some true else (bif decide ((a0.bd.length:Int)<=aB) then some true else ((idx a0.bd aB).bind λaX=>some (decide (aX.Prec<0)))))).bind λc4 =>
 (bif c4 then
 some (0,0)
 else
 (idx a0.bd aB).bind λbC =>
 (idx a0.a1 bC.Prec).bind λbS =>
 some (bS.Level,bS.e9))
def CP (a0:bt) (aB:Int) (a2:Int):Option (Int) :=
 (CX a0 aB).bind λa6 =>
 ((bif decide (a6.1=0) then some true else (bif decide (a2<0) then some true else (bif decide ((a0.a1.length:Int)<=a2) then some true else ((idx a0.a1 a2).bind λbK=>some (decide (bK.Level=0))))))).bind λow =>
 (bif ow then
 some 0
 else
 (idx a0.a1 a2).bind λb3 =>
 (bif decide (a6.1<b3.Level) then
 some 1
 else
 (bif decide (b3.Level<a6.1) then
 some 2
 else
 (bif decide (b3.e9=1) then
 some 2
 else
 (bif decide (b3.e9=2) then
 some 1
 else
 some 3)))))
structure e1 where
 State:Int
 Tok:Int
 hx:Int
 Drop:Int
 deriving DecidableEq,Inhabited
structure Act where
 Kind:Int
 N:Int
 deriving DecidableEq,Inhabited
def eH:bz e1:=⟨4,λx=>[ae x.State,ae x.Tok,ae x.hx,ae x.Drop],λ_=>rfl,λ_=>dh.bl⟩
instance:Flat eH:=⟨λ_=>rfl⟩
instance:ll eH:=⟨λx=>(inferInstance:jc [ae x.State,ae x.Tok,ae x.hx,ae x.Drop])⟩
instance:gq eH eH:=⟨rfl,λx=>(inferInstance:c8 [ae x.State,ae x.Tok,ae x.hx,ae x.Drop] [ae x.State,ae x.Tok,ae x.hx,ae x.Drop])⟩
instance {x:e1}:c8 (eH.cells x) [ae x.State,ae x.Tok,ae x.hx,ae x.Drop]:=(inferInstance:c8 [ae x.State,ae x.Tok,ae x.hx,ae x.Drop] [ae x.State,ae x.Tok,ae x.hx,ae x.Drop])
def xU (a0:bt) (aB:Cell):Option (Act × (List e1)) :=
 (b5 (R:=List e1) (λ(s1:List e1 × Int) =>
 (bif decide (s1.2<(aB.bd.length:Int)) then
 (idx aB.bd 0).bind λbK =>
 (idx aB.bd s1.2).bind λbC =>
 (da s1.1 [(⟨aB.State,aB.Tok,bK,bC⟩:e1)]).bind λbS =>
 some (.inl (s1.1++[(⟨aB.State,aB.Tok,bK,bC⟩:e1)],aG (s1.2+1)))
 else
 some (.inr s1.1))) (([]:List e1),1)).bind λx2 =>
 ((bif aB.lJ then
 some (3,0)
 else
 some (1,aB.j2))).bind λfg =>
 (bif decide ((aB.bd.length:Int)=0) then
 some ((⟨fg.1,fg.2⟩:Act),x2)
 else
 (idx aB.bd 0).bind λcB =>
 ((bif decide (aB.j2<0) then some (!aB.lJ) else some false)).bind λj7 =>
 (bif j7 then
 some ((⟨2,cB⟩:Act),x2)
 else
 (CP a0 cB aB.Tok).bind λcL =>
 ((bif aB.lJ then some true else some (decide (cL=0)))).bind λGW =>
 (bif GW then
 (da x2 [(⟨aB.State,aB.Tok,(-1),cB⟩:e1)]).bind λfh =>
 some ((⟨fg.1,fg.2⟩:Act),x2++[(⟨aB.State,aB.Tok,(-1),cB⟩:e1)])
 else
 (bif decide (cL=2) then
 some ((⟨2,cB⟩:Act),x2)
 else
 (bif decide (cL=3) then
 some ((⟨4,0⟩:Act),x2)
 else
 some ((⟨fg.1,fg.2⟩:Act),x2))))))
structure im where
 dx:(List (List Act))
 fR:(List (List Int))
 deriving DecidableEq,Inhabited
def eS:bz Act:=⟨2,λx=>[ae x.Kind,ae x.N],λ_=>rfl,λ_=>dh.bl⟩
instance:Flat eS:=⟨λ_=>rfl⟩
instance:ll eS:=⟨λx=>(inferInstance:jc [ae x.Kind,ae x.N])⟩
instance:gq eS eS:=⟨rfl,λx=>(inferInstance:c8 [ae x.Kind,ae x.N] [ae x.Kind,ae x.N])⟩
def vX (a0:bt) (aB:(List State)) (a2:(List Cell)):Option (im × (List e1)) :=
 (b5 (R:=List (List Act) × List (List Int) × List e1) (λ(s1:List (List Act) × List (List Int) × List e1 × Int) =>
 (bif decide (s1.2.2.2<(aB.length:Int)) then
 (nC (a0.a1.length:Int) (⟨0,0⟩:Act)).bind λbK =>
 (b5 (R:=List e1 × List Act) (λ(db:List e1 × List Act × Int) =>
 (bif decide (db.2.2<(a2.length:Int)) then
 ((idx a2 db.2.2).bind λcB =>
 ((bif decide (cB.State=s1.2.2.2) then
 (idx a2 db.2.2).bind λeP =>
 (xU a0 eP).bind λcL =>
 (idx a2 db.2.2).bind λbX =>
 (idx db.2.1 bX.Tok).bind λbD =>
 (da db.1 cL.2).bind λfq =>
 some (db.1++cL.2,db.2.1.set bX.Tok.toNat cL.1)
 else
 some (db.1,db.2.1))).bind λez =>
 some (ez.1,ez.2)).bind λmo =>
 some (.inl (mo.1,mo.2,aG (db.2.2+1)))
 else
 some (.inr (db.1,db.2.1)))) (s1.2.2.1,bK,0)).bind λbS =>
 (nC (a0.bY.length:Int) 0).bind λfh =>
 (b5 (R:=List Int) (λ(qq:List Int × Int) =>
 (bif decide (qq.2<(qq.1.length:Int)) then
 (q6 aB s1.2.2.2 (aG (1000+qq.2))).bind λgl =>
 (idx qq.1 qq.2).bind λhW =>
 some (.inl (qq.1.set qq.2.toNat gl,aG (qq.2+1)))
 else
 some (.inr qq.1))) (fh,0)).bind λeG =>
 (da s1.1 [bS.2]).bind λhX =>
 (da s1.2.1 [eG]).bind λfv =>
 some (.inl (s1.1++[bS.2],s1.2.1++[eG],bS.1,aG (s1.2.2.2+1)))
 else
 some (.inr (s1.1,s1.2.1,s1.2.2.1)))) (([]:List (List Act)),([]:List (List Int)),([]:List e1),0)).bind λx2 =>
 some ((⟨x2.1,x2.2.1⟩:im),x2.2.2)
def CF (a0:(List Cell)):Option (Int) :=
 (b5 (R:=Int) (λ(s1:Int × Int) =>
 (bif decide (s1.2<(a0.length:Int)) then
 ((idx a0 s1.2).bind λbC =>
 (zS bC).bind λbS =>
 ((bif decide (1<bS) then
 some (aG (s1.1+1))
 else
 some s1.1)).bind λfg =>
 some fg).bind λqe =>
 some (.inl (qe,aG (s1.2+1)))
 else
 some (.inr s1.1))) (0,0)).bind λx2 =>
 some x2
def ql (a0:Source):Option (bt × im × Int × Bool) :=
 (qm a0).bind λa6 =>
 (bif !a6.2.2.2 then
 some (a6.1,(⟨([]:List (List Act)),([]:List (List Int))⟩:im),0,false)
 else
 (vX a6.1 a6.2.1 a6.2.2.1).bind λaX =>
 (CF a6.2.2.1).bind λbR =>
 some (a6.1,aX.1,bR,true))
structure Piece where
 Kind:Int
 Text:ByteArray
 N:Int
 Tag:ByteArray
 deriving DecidableEq,Inhabited
def pY:bz Piece:=⟨4,λx=>[ae x.Kind,aw x.Text,ae x.N,aw x.Tag],λ_=>rfl,λ_=>dh.bl⟩
instance:Flat pY:=⟨λ_=>rfl⟩
instance:ll pY:=⟨λx=>(inferInstance:jc [ae x.Kind,aw x.Text,ae x.N,aw x.Tag])⟩
instance:gq pY pY:=⟨rfl,λx=>(inferInstance:c8 [ae x.Kind,aw x.Text,ae x.N,aw x.Tag] [ae x.Kind,aw x.Text,ae x.N,aw x.Tag])⟩
instance {x:Piece}:c8 (pY.cells x) [ae x.Kind,aw x.Text,ae x.N,aw x.Tag]:=(inferInstance:c8 [ae x.Kind,aw x.Text,ae x.N,aw x.Tag] [ae x.Kind,aw x.Text,ae x.N,aw x.Tag])
def CQ (a0:ByteArray) (aB:Int):Option (Piece × Int × Int) :=
 ((bif decide (aG (aB+1)<(a0.size:Int)) then ((gN a0 (aG (aB+1))).bind λx2=>some (decide (x2=60))) else some false)).bind λj8 =>
 (bif j8 then
 (v7 a0 (aG ((aG (aB+1))+1))).bind λbK =>
 ((bif decide (bK<1) then some true else (bif decide (20<bK) then some true else (bif decide ((a0.size:Int)<=aG ((aG ((aG (aB+1))+1))+bK)) then some true else ((gN a0 (aG ((aG ((aG (aB+1))+1))+bK))).bind λdG=>some (!decide (dG=62))))))).bind λhp =>
 (bif hp then
 some ((⟨0,⟨#[]⟩,0,⟨#[]⟩⟩:Piece),0,0)
 else
 (iU a0 (aG ((aG (aB+1))+1)) (aG ((aG ((aG (aB+1))+1))+bK))).bind λdJ =>
 ((bif decide (aG ((aG ((aG (aB+1))+bK))+2)<(a0.size:Int)) then ((gN a0 (aG ((aG ((aG (aB+1))+bK))+2))).bind λeP=>some (decide (eP=36))) else some false)).bind λov =>
 (bif ov then
 some ((⟨2,⟨#[]⟩,0,dJ⟩:Piece),aG ((aG ((aG ((aG ((aG (aB+1))+bK))+2))+1)) - aB),0)
 else
 (b5 (R:=Int × Int) (λ(f':Int × Int) =>
 ((bif decide (f'.2<(a0.size:Int)) then ((gN a0 f'.2).bind λeG=>((v8 eG).bind λfM=>some fM)) else some false)).bind λtG =>
 (bif tG then
 ((bif decide (aG (f'.2 - (aG ((aG ((aG (aB+1))+bK))+2)))<3) then
 (gN a0 f'.2).bind λfv =>
 some (aG ((aG (10 * f'.1))+(aG (rn (fv - 48)))))
 else
 some f'.1)).bind λuy =>
 some (.inl (uy,aG (f'.2+1)))
 else
 some (.inr (f'.1,f'.2)))) (0,aG ((aG ((aG (aB+1))+bK))+2))).bind λfq =>
 (bif decide (fq.2=aG ((aG ((aG (aB+1))+bK))+2)) then
 some ((⟨0,⟨#[]⟩,0,⟨#[]⟩⟩:Piece),0,0)
 else
 (bif decide (3<aG (fq.2 - (aG ((aG ((aG (aB+1))+bK))+2)))) then
 some ((⟨0,⟨#[]⟩,0,⟨#[]⟩⟩:Piece),0,6)
 else
 some ((⟨3,⟨#[]⟩,fq.1,dJ⟩:Piece),aG (fq.2 - aB),0)))))
 else
 ((bif decide (aG (aB+1)<(a0.size:Int)) then ((gN a0 (aG (aB+1))).bind λkP=>some (decide (kP=36))) else some false)).bind λDX =>
 (bif DX then
 some ((⟨2,⟨#[]⟩,0,⟨#[]⟩⟩:Piece),aG ((aG ((aG (aB+1))+1)) - aB),0)
 else
 (b5 (R:=Int × Int) (λ(gk:Int × Int) =>
 ((bif decide (gk.2<(a0.size:Int)) then ((gN a0 gk.2).bind λcT=>((v8 cT).bind λgm=>some gm)) else some false)).bind λAT =>
 (bif AT then
 ((bif decide (aG (gk.2 - (aG (aB+1)))<3) then
 (gN a0 gk.2).bind λtd =>
 some (aG ((aG (10 * gk.1))+(aG (rn (td - 48)))))
 else
 some gk.1)).bind λr7 =>
 some (.inl (r7,aG (gk.2+1)))
 else
 some (.inr (gk.1,gk.2)))) (0,aG (aB+1))).bind λgb =>
 (bif decide (gb.2=aG (aB+1)) then
 some ((⟨0,⟨#[]⟩,0,⟨#[]⟩⟩:Piece),0,0)
 else
 (bif decide (3<aG (gb.2 - (aG (aB+1)))) then
 some ((⟨0,⟨#[]⟩,0,⟨#[]⟩⟩:Piece),0,6)
 else
 some ((⟨3,⟨#[]⟩,gb.1,⟨#[]⟩⟩:Piece),aG (gb.2 - aB),0)))))
def CK (a0:ByteArray):Option ((List Piece) × Int) :=
 (xV a0 0).bind λa6 =>
 (bif !decide (a6=(a0.size:Int)) then
 some (([]:List Piece),1)
 else
 (b5 (R:=(List Piece × Int) ⊕ (List Piece × Int)) (λ(dn:List Piece × Int × Int) =>
 (bif decide (dn.2.2<(a0.size:Int)) then
 (zW a0 dn.2.2).bind λb3 =>
 (bif decide (dn.2.2<b3) then
 some (.inl (dn.1,dn.2.1,b3))
 else
 (gN a0 dn.2.2).bind λbF =>
 (bif !decide (bF=36) then
 some (.inl (dn.1,dn.2.1,aG (dn.2.2+1)))
 else
 (CQ a0 dn.2.2).bind λdJ =>
 (bif !decide (dJ.2.2=0) then
 some (.inr (.inr (([]:List Piece),dJ.2.2)))
 else
 (bif decide (dJ.2.1=0) then
 some (.inl (dn.1,dn.2.1,aG (dn.2.2+1)))
 else
 ((bif decide (dn.2.1<dn.2.2) then
 (iU a0 dn.2.1 dn.2.2).bind λbD =>
 (da dn.1 [(⟨1,bD,0,⟨#[]⟩⟩:Piece)]).bind λfq =>
 some (dn.1++[(⟨1,bD,0,⟨#[]⟩⟩:Piece)])
 else
 some dn.1)).bind λlB =>
 (da lB [dJ.1]).bind λfh =>
 some (.inl (lB++[dJ.1],aG (dn.2.2+dJ.2.1),aG (dn.2.2+dJ.2.1)))))))
 else
 some (.inr (.inl (dn.1,dn.2.1))))) (([]:List Piece),0,0)).bind λbR =>
 (match bR with
 | .inl bK =>
 ((bif decide (bK.2<(a0.size:Int)) then
 (iU a0 bK.2 a0.size).bind λfM =>
 (da bK.1 [(⟨1,fM,0,⟨#[]⟩⟩:Piece)]).bind λfl =>
 some (bK.1++[(⟨1,fM,0,⟨#[]⟩⟩:Piece)])
 else
 some bK.1)).bind λxr =>
 some (xr,0)
 | .inr bC =>
 some (bC.1,bC.2)))
def CL (a0:bt) (aB:Int):Option (ByteArray) :=
 (bif decide (1000<=aB) then
 (idx a0.bY (aG (aB - 1000))).bind λx2 =>
 some x2.Tag
 else
 (idx a0.a1 aB).bind λaX =>
 some aX.Tag)
def CG (a0:bt) (aB:Int):Option (ByteArray × Int × ByteArray) :=
 ((bif decide (aB<0) then some true else (bif decide ((a0.bd.length:Int)<=aB) then some true else ((idx a0.bd aB).bind λaX=>some (decide (aX.Code=⟨#[]⟩)))))).bind λc4 =>
 (bif c4 then
 some (⟨#[]⟩,0,⟨#[]⟩)
 else
 (idx a0.bd aB).bind λbC =>
 (CK bC.Code).bind λbS =>
 (bif !decide (bS.2=0) then
 some (⟨#[]⟩,bS.2,⟨#[]⟩)
 else
 (b5 (R:=(ByteArray) ⊕ (ByteArray × Int × ByteArray)) (λ(fE:ByteArray × Int) =>
 (bif decide (fE.2<(bS.1.length:Int)) then
 (idx bS.1 fE.2).bind λeP =>
 (idx bS.1 fE.2).bind λcL =>
 (bif decide (cL.Kind=1) then
 (idx bS.1 fE.2).bind λbD =>
 (e' fE.1 bD.Text).bind λfq =>
 some (.inl (fq,aG (fE.2+1)))
 else
 (bif decide (cL.Kind=2) then
 (e' fE.1 (⟨#[121,121,86,65,76]⟩)).bind λfc =>
 ((bif decide (eP.Tag=⟨#[]⟩) then
 (idx a0.bY bC.Left).bind λfl =>
 some fl.Tag
 else
 some eP.Tag)).bind λk8 =>
 ((bif !decide (k8=⟨#[]⟩) then
 (e' fc (⟨#[46]⟩)).bind λhX =>
 (e' hX k8).bind λfv =>
 some fv
 else
 some fc)).bind λr6 =>
 some (.inl (r6,aG (fE.2+1)))
 else
 (idx bS.1 fE.2).bind λcC =>
 ((bif decide (cC.N<1) then some true else some (decide ((bC.rp.length:Int)<cC.N)))).bind λAR =>
 (bif AR then
 (qk cC.N).bind λe0 =>
 (e' (⟨#[36]⟩) e0).bind λlH =>
 some (.inr (.inr (⟨#[]⟩,6,lH)))
 else
 (e' fE.1 (⟨#[121,121,68,111,108,108,97,114,91]⟩)).bind λiC =>
 (qk cC.N).bind λgb =>
 (e' iC gb).bind λlg =>
 (e' lg (⟨#[93]⟩)).bind λkg =>
 ((bif decide (eP.Tag=⟨#[]⟩) then
 (idx bC.rp (aG (cC.N - 1))).bind λo3 =>
 (CL a0 o3).bind λku =>
 some ku
 else
 some eP.Tag)).bind λvI =>
 ((bif !decide (vI=⟨#[]⟩) then
 (e' kg (⟨#[46]⟩)).bind λtd =>
 (e' td vI).bind λDp =>
 some Dp
 else
 some kg)).bind λr7 =>
 some (.inl (r7,aG (fE.2+1))))))
 else
 some (.inr (.inl fE.1)))) (⟨#[]⟩,0)).bind λbF =>
 (match bF with
 | .inl cB =>
 some (cB,0,⟨#[]⟩)
 | .inr dJ =>
 some (dJ.1,dJ.2.1,dJ.2.2))))
def xP (a0:bt):Option ((List ByteArray) × Int × Int × ByteArray) :=
 (b5 (R:=(List ByteArray) ⊕ (List ByteArray × Int × Int × ByteArray)) (λ(s1:List ByteArray × Int) =>
 (bif decide (s1.2<(a0.bd.length:Int)) then
 (CG a0 s1.2).bind λbC =>
 (bif !decide (bC.2.1=0) then
 (idx a0.bd s1.2).bind λb3 =>
 some (.inr (.inr (([]:List ByteArray),bC.2.1,b3.At,bC.2.2)))
 else
 (da s1.1 [bC.1]).bind λdG =>
 some (.inl (s1.1++[bC.1],aG (s1.2+1))))
 else
 some (.inr (.inl s1.1)))) (([]:List ByteArray),0)).bind λx2 =>
 (match x2 with
 | .inl aX =>
 some (aX,0,0,⟨#[]⟩)
 | .inr bR =>
 some (bR.1,bR.2.1,bR.2.2.1,bR.2.2.2))
structure dt where
 At:Int
 cG:Int
 deriving DecidableEq,Inhabited
structure Row where
 Def:Int
 h4:(List dt)
 deriving DecidableEq,Inhabited
def dE:bz dt:=⟨2,λx=>[ae x.At,ae x.cG],λ_=>rfl,λ_=>dh.bl⟩
instance:Flat dE:=⟨λ_=>rfl⟩
instance:ll dE:=⟨λx=>(inferInstance:jc [ae x.At,ae x.cG])⟩
instance:gq dE dE:=⟨rfl,λx=>(inferInstance:c8 [ae x.At,ae x.cG] [ae x.At,ae x.cG])⟩
def oy:bz Row:=⟨2,λx=>[ae x.Def,ak dE x.h4],λ_=>rfl,λ_=>dh.bl⟩
instance:Flat oy:=⟨λ_=>rfl⟩
instance:gq oy oy:=⟨rfl,λx=>(inferInstance:c8 [ae x.Def,ak dE x.h4] [ae x.Def,ak dE x.h4])⟩
def xR (a0:(List Row)):Option ((List Int) × (List (List dt))) :=
 (b5 (R:=List Int × List (List dt)) (λ(s1:List Int × List (List dt) × Int) =>
 (bif decide (s1.2.2<(a0.length:Int)) then
 (idx a0 s1.2.2).bind λbK =>
 (da s1.1 [bK.Def]).bind λbC =>
 (idx a0 s1.2.2).bind λbS =>
 (da s1.2.1 [bS.h4]).bind λb3 =>
 some (.inl (s1.1++[bK.Def],s1.2.1++[bS.h4],aG (s1.2.2+1)))
 else
 some (.inr (s1.1,s1.2.1)))) (([]:List Int),([]:List (List dt)),0)).bind λx2 =>
 some (x2.1,x2.2)
def uF (a0:(List Int)):Option (Int) :=
 (b5 (R:=List Int) (λ(s1:List Int × Int) =>
 (bif decide (s1.2<(a0.length:Int)) then
 (idx a0 s1.2).bind λbK =>
 (pF s1.1 bK).bind λbC =>
 some (.inl (bC,aG (s1.2+1)))
 else
 some (.inr s1.1))) (([]:List Int),0)).bind λx2 =>
 (b5 (R:=Int) (λ(dc:Int × Int × Int) =>
 (bif decide (dc.2.2<(x2.length:Int)) then
 ((b5 (R:=Int) (λ(uL:Int × Int) =>
 (bif decide (uL.2<(a0.length:Int)) then
 ((idx a0 uL.2).bind λbD =>
 (idx x2 dc.2.2).bind λfq =>
 ((bif decide (bD=fq) then
 some (aG (uL.1+1))
 else
 some uL.1)).bind λeN =>
 some eN).bind λmq =>
 some (.inl (mq,aG (uL.2+1)))
 else
 some (.inr uL.1))) (0,0)).bind λeX =>
 ((bif decide (dc.2.1<eX) then
 (idx x2 dc.2.2).bind λfl =>
 some (fl,eX)
 else
 some (dc.1,dc.2.1))).bind λk8 =>
 some (k8.1,k8.2)).bind λi_ =>
 some (.inl (i_.1,i_.2,aG (dc.2.2+1)))
 else
 some (.inr dc.1))) ((-1),0,0)).bind λb3 =>
 some b3
def s5 (a0:Act):Option (Int) :=
 ((bif decide (a0.Kind=1) then (bif decide (0<=a0.N) then some (decide (a0.N<=19999)) else some false) else some false)).bind λj8 =>
 (bif j8 then
 some (aG (a0.N+1))
 else
 ((bif decide (a0.Kind=2) then (bif decide (1<=a0.N) then some (decide (a0.N<=19999)) else some false) else some false)).bind λpW =>
 (bif pW then
 some (aG (-a0.N))
 else
 ((bif decide (a0.Kind=3) then some (decide (a0.N=0)) else some false)).bind λhp =>
 (bif hp then
 some 20001
 else
 ((bif decide (a0.Kind=4) then some (decide (a0.N=0)) else some false)).bind λj7 =>
 (bif j7 then
 some 20002
 else
 some 0))))
def CH (a0:im):Option ((List Row)) :=
 (b5 (R:=List Row) (λ(s1:List Row × Int) =>
 (bif decide (s1.2<(a0.dx.length:Int)) then
 (b5 (R:=List Int) (λ(cw:List Int × Int) =>
 (idx a0.dx s1.2).bind λb3 =>
 (bif decide (cw.2<(b3.length:Int)) then
 ((idx a0.dx s1.2).bind λcB =>
 (idx cB cw.2).bind λdJ =>
 ((bif decide (dJ.Kind=2) then
 (idx a0.dx s1.2).bind λcL =>
 (idx cL cw.2).bind λbX =>
 (da cw.1 [bX.N]).bind λbD =>
 some (cw.1++[bX.N])
 else
 some cw.1)).bind λiz =>
 some iz).bind λmo =>
 some (.inl (mo,aG (cw.2+1)))
 else
 some (.inr cw.1))) (([]:List Int),0)).bind λbC =>
 (uF bC).bind λfq =>
 (b5 (R:=List dt) (λ(dO:List dt × Int) =>
 (idx a0.dx s1.2).bind λfM =>
 (bif decide (dO.2<(fM.length:Int)) then
 ((idx a0.dx s1.2).bind λhW =>
 (idx hW dO.2).bind λhX =>
 ((bif !decide (hX.Kind=0) then (bif !decide (hX.Kind=2) then some true else some (!decide (hX.N=fq))) else some false)).bind λtH =>
 ((bif tH then
 (s5 hX).bind λe0 =>
 (da dO.1 [(⟨dO.2,e0⟩:dt)]).bind λlH =>
 some (dO.1++[(⟨dO.2,e0⟩:dt)])
 else
 some dO.1)).bind λxt =>
 some xt).bind λr6 =>
 some (.inl (r6,aG (dO.2+1)))
 else
 some (.inr dO.1))) (([]:List dt),0)).bind λfc =>
 (da s1.1 [(⟨fq,fc⟩:Row)]).bind λiC =>
 some (.inl (s1.1++[(⟨fq,fc⟩:Row)],aG (s1.2+1)))
 else
 some (.inr s1.1))) (([]:List Row),0)).bind λx2 =>
 some x2
def CM (a0:(List (List dt))):Option (Bool) :=
 (bif decide (400<(a0.length:Int)) then
 some false
 else
 (b5 (R:=(Unit) ⊕ (Bool)) (λ(s2:Int) =>
 (bif decide (s2<(a0.length:Int)) then
 (b5 (R:=(Unit) ⊕ (Bool)) (λ(dc:List Int × Int) =>
 (idx a0 s2).bind λcB =>
 (bif decide (dc.2<(cB.length:Int)) then
 (((idx a0 s2).bind λeX=>((idx eX dc.2).bind λeP=>(bif decide (eP.At<0) then some true else ((idx a0 s2).bind λbX=>((idx bX dc.2).bind λbD=>(bif decide (999<bD.At) then some true else ((idx a0 s2).bind λfh=>((idx fh dc.2).bind λfc=>((uG dc.1 fc.At).bind λeG=>some eG)))))))))).bind λGZ =>
 (bif GZ then
 some (.inr (.inr false))
 else
 (idx a0 s2).bind λgl =>
 (idx gl dc.2).bind λhW =>
 (da dc.1 [hW.At]).bind λhX =>
 some (.inl (dc.1++[hW.At],aG (dc.2+1))))
 else
 some (.inr (.inl ())))) (([]:List Int),0)).bind λb3 =>
 (match b3 with
 | .inl dG =>
 some (.inl (aG (s2+1)))
 | .inr bF =>
 some (.inr (.inr bF)))
 else
 some (.inr (.inl ())))) 0).bind λaX =>
 (match aX with
 | .inl bR =>
 some true
 | .inr bK =>
 some bK))
def zU (a0:(List Int)) (aB:(List dt)) (a2:Int):Option (Bool) :=
 (b5 (R:=(Unit) ⊕ (Bool)) (λ(s1:Int) =>
 (bif decide (s1<(aB.length:Int)) then
 (idx aB s1).bind λbC =>
 ((bif decide (aG (a2+bC.At)<(a0.length:Int)) then ((idx a0 (aG (a2+bC.At))).bind λb3=>some (!decide (b3=0))) else some false)).bind λnP =>
 (bif nP then
 some (.inr (.inr false))
 else
 some (.inl (aG (s1+1))))
 else
 some (.inr (.inl ())))) 0).bind λx2 =>
 (match x2 with
 | .inl aX =>
 some true
 | .inr bR =>
 some bR)
structure gX where
 dD:(List Int)
 cG:(List Int)
 cD:(List Int)
 deriving DecidableEq,Inhabited
def sx:bz gX:=⟨3,λx=>[ak az x.dD,ak az x.cG,ak az x.cD],λ_=>rfl,λ_=>dh.bl⟩
instance:Flat sx:=⟨λ_=>rfl⟩
instance:gq sx sx:=⟨rfl,λx=>(inferInstance:c8 [ak az x.dD,ak az x.cG,ak az x.cD] [ak az x.dD,ak az x.cG,ak az x.cD])⟩
instance {x:gX}:c8 (sx.cells x) [ak az x.dD,ak az x.cG,ak az x.cD]:=(inferInstance:c8 [ak az x.dD,ak az x.cG,ak az x.cD] [ak az x.dD,ak az x.cG,ak az x.cD])
def D5:bz gX:=⟨3,λx=>[ao az x.dD,ao az x.cG,ao az x.cD],λ_=>rfl,λ_=>dh.bl⟩
instance:ll D5:=⟨λx=>(inferInstance:jc [ao az x.dD,ao az x.cG,ao az x.cD])⟩
instance {x:gX}:c8 (D5.cells x) [ak az x.dD,ak az x.cG,ak az x.cD]:=(inferInstance:c8 [ao az x.dD,ao az x.cG,ao az x.cD] [ak az x.dD,ak az x.cG,ak az x.cD])
def vY (a0:(List (List dt))):Option (gX) :=
 (CM a0).bind λa6 =>
 (bif !a6 then
 some (⟨([]:List Int),([]:List Int),([]:List Int)⟩:gX)
 else
 (nC (a0.length:Int) 0).bind λaX =>
 (nC (a0.length:Int) false).bind λbR =>
 (b5 (R:=(Unit) ⊕ (gX)) (λ(cw:gX × List Bool) =>
 (b5 (R:=Int) (λ(fE:Int × Int) =>
 (bif decide (fE.2<(a0.length:Int)) then
 ((((idx cw.2 fE.2).bind λeP=>(bif !eP then ((idx a0 fE.2).bind λbX=>(bif decide (0<(bX.length:Int)) then (bif decide (fE.1<0) then some true else ((idx a0 fE.2).bind λfh=>((idx a0 fE.1).bind λfc=>some (decide ((fc.length:Int)<(fh.length:Int)))))) else some false)) else some false))).bind λrD =>
 ((bif rD then
 some fE.2
 else
 some fE.1)).bind λmr =>
 some mr).bind λiz =>
 some (.inl (iz,aG (fE.2+1)))
 else
 some (.inr fE.1))) ((-1),0)).bind λbF =>
 (bif decide (bF<0) then
 some (.inr (.inr cw.1))
 else
 (idx cw.2 bF).bind λhW =>
 (b5 (R:=List Int) (λ(ob:List Int) =>
 (idx a0 bF).bind λeo =>
 (idx ob bF).bind λho =>
 (zU cw.1.cD eo ho).bind λkP =>
 (bif !kP then
 (idx ob bF).bind λlH =>
 some (.inl (ob.set bF.toNat (aG (lH+1))))
 else
 some (.inr ob))) cw.1.dD).bind λfv =>
 (b5 (R:=List Int × List Int) (λ(gk:List Int × List Int × Int) =>
 (idx a0 bF).bind λkg =>
 (bif decide (gk.2.2<(kg.length:Int)) then
 (idx fv bF).bind λgm =>
 (idx a0 bF).bind λo3 =>
 (idx o3 gk.2.2).bind λku =>
 (b5 (R:=List Int × List Int) (λ(ke:List Int × List Int) =>
 (bif decide ((ke.2.length:Int)<=aG (gm+ku.At)) then
 (da ke.2 [0]).bind λmT =>
 (da ke.1 [0]).bind λyk =>
 some (.inl (ke.1++[0],ke.2++[0]))
 else
 some (.inr (ke.1,ke.2)))) (gk.1,gk.2.1)).bind λlh =>
 (idx a0 bF).bind λte =>
 (idx te gk.2.2).bind λtf =>
 (idx lh.2 (aG (gm+ku.At))).bind λKN =>
 (idx lh.1 (aG (gm+ku.At))).bind λtg =>
 some (.inl (lh.1.set (aG (gm+ku.At)).toNat tf.cG,lh.2.set (aG (gm+ku.At)).toNat (aG (bF+1)),aG (gk.2.2+1)))
 else
 some (.inr (gk.1,gk.2.1)))) (cw.1.cG,cw.1.cD,0)).bind λgb =>
 some (.inl ((⟨fv,gb.1,gb.2⟩:gX),cw.2.set bF.toNat true)))) ((⟨aX,([]:List Int),([]:List Int)⟩:gX),bR)).bind λbC =>
 (match bC with
 | .inl bS =>
 none
 | .inr b3 =>
 some b3))
def CI (a0:im):Option ((List Row)) :=
 (b5 (R:=List Row) (λ(s1:List Row × Int) =>
 ((bif decide (0<(a0.fR.length:Int)) then ((idx a0.fR 0).bind λbK=>some (decide (s1.2<(bK.length:Int)))) else some false)).bind λow =>
 (bif ow then
 (b5 (R:=List Int) (λ(eO:List Int × Int) =>
 (bif decide (eO.2<(a0.fR.length:Int)) then
 ((idx a0.fR eO.2).bind λeX =>
 (idx eX s1.2).bind λeP =>
 ((bif decide (0<=eP) then
 (idx a0.fR eO.2).bind λbD =>
 (idx bD s1.2).bind λfq =>
 (da eO.1 [fq]).bind λfh =>
 some (eO.1++[fq])
 else
 some eO.1)).bind λlB =>
 some lB).bind λez =>
 some (.inl (ez,aG (eO.2+1)))
 else
 some (.inr eO.1))) (([]:List Int),0)).bind λdG =>
 (uF dG).bind λfc =>
 (b5 (R:=List dt) (λ(q':List dt × Int) =>
 (bif decide (q'.2<(a0.fR.length:Int)) then
 ((idx a0.fR q'.2).bind λhX =>
 (idx hX s1.2).bind λfv =>
 ((bif decide (0<=fv) then some (!decide (fv=fc)) else some false)).bind λtH =>
 ((bif tH then
 (da q'.1 [(⟨q'.2,fv⟩:dt)]).bind λe0 =>
 some (q'.1++[(⟨q'.2,fv⟩:dt)])
 else
 some q'.1)).bind λxt =>
 some xt).bind λuy =>
 some (.inl (uy,aG (q'.2+1)))
 else
 some (.inr q'.1))) (([]:List dt),0)).bind λfM =>
 (da s1.1 [(⟨fc,fM⟩:Row)]).bind λlH =>
 some (.inl (s1.1++[(⟨fc,fM⟩:Row)],aG (s1.2+1)))
 else
 some (.inr s1.1))) (([]:List Row),0)).bind λx2 =>
 some x2
def CJ (a0:bt):Option ((List dt)) :=
 (b5 (R:=List Int) (λ(s1:List Int × Int) =>
 (bif decide (s1.2<(a0.a1.length:Int)) then
 ((idx a0.a1 s1.2).bind λbC =>
 ((bif decide (0<bC.bL) then
 (idx a0.a1 s1.2).bind λdG =>
 (pF s1.1 dG.bL).bind λbF =>
 some bF
 else
 some s1.1)).bind λlC =>
 some lC).bind λqe =>
 some (.inl (qe,aG (s1.2+1)))
 else
 some (.inr s1.1))) (([]:List Int),0)).bind λx2 =>
 (b5 (R:=List dt) (λ(ju:List dt × Int) =>
 (bif decide (ju.2<(x2.length:Int)) then
 (b5 (R:=List dt) (λ(hT:List dt × Int) =>
 (bif decide (hT.2<(a0.a1.length:Int)) then
 ((idx a0.a1 hT.2).bind λfc =>
 (idx x2 ju.2).bind λeG =>
 ((bif decide (fc.bL=eG) then
 (idx x2 ju.2).bind λgl =>
 (da hT.1 [(⟨gl,hT.2⟩:dt)]).bind λhW =>
 some (hT.1++[(⟨gl,hT.2⟩:dt)])
 else
 some hT.1)).bind λmr =>
 some mr).bind λeN =>
 some (.inl (eN,aG (hT.2+1)))
 else
 some (.inr hT.1))) (ju.1,0)).bind λbX =>
 some (.inl (bX,aG (ju.2+1)))
 else
 some (.inr ju.1))) (([]:List dt),0)).bind λdJ =>
 some dJ
structure Tables where
 Def:(List Int)
 dx:gX
 o9:(List Int)
 gJ:gX
 Left:(List Int)
 o_:(List Int)
 h3:(List dt)
 deriving DecidableEq,Inhabited
def iw:bz Tables:=⟨11,λx=>[ak az x.Def,ak az x.dx.dD,ak az x.dx.cG,ak az x.dx.cD,ak az x.o9,ak az x.gJ.dD,ak az x.gJ.cG,ak az x.gJ.cD,ak az x.Left,ak az x.o_,ak dE x.h3],λ_=>rfl,λ_=>dh.bl⟩
instance:Flat iw:=⟨λ_=>rfl⟩
instance:gq iw iw:=⟨rfl,λx=>(inferInstance:c8 [ak az x.Def,ak az x.dx.dD,ak az x.dx.cG,ak az x.dx.cD,ak az x.o9,ak az x.gJ.dD,ak az x.gJ.cG,ak az x.gJ.cD,ak az x.Left,ak az x.o_,ak dE x.h3] [ak az x.Def,ak az x.dx.dD,ak az x.dx.cG,ak az x.dx.cD,ak az x.o9,ak az x.gJ.dD,ak az x.gJ.cG,ak az x.gJ.cD,ak az x.Left,ak az x.o_,ak dE x.h3])⟩
instance {x:Tables}:c8 (iw.cells x) [ak az x.Def,ak az x.dx.dD,ak az x.dx.cG,ak az x.dx.cD,ak az x.o9,ak az x.gJ.dD,ak az x.gJ.cG,ak az x.gJ.cD,ak az x.Left,ak az x.o_,ak dE x.h3]:=(inferInstance:c8 [ak az x.Def,ak az x.dx.dD,ak az x.dx.cG,ak az x.dx.cD,ak az x.o9,ak az x.gJ.dD,ak az x.gJ.cG,ak az x.gJ.cD,ak az x.Left,ak az x.o_,ak dE x.h3] [ak az x.Def,ak az x.dx.dD,ak az x.dx.cG,ak az x.dx.cD,ak az x.o9,ak az x.gJ.dD,ak az x.gJ.cG,ak az x.gJ.cD,ak az x.Left,ak az x.o_,ak dE x.h3])
def vW (a0:bt) (aB:im):Option (Tables) :=
 (CH aB).bind λa6 =>
 (xR a6).bind λx2 =>
 (vY x2.2).bind λaX =>
 (CI aB).bind λbR =>
 (xR bR).bind λbK =>
 (vY bK.2).bind λbC =>
 (b5 (R:=List Int × List Int) (λ(dc:List Int × List Int × Int) =>
 (bif decide (dc.2.2<(a0.bd.length:Int)) then
 (idx a0.bd dc.2.2).bind λcB =>
 (da dc.1 [cB.Left]).bind λdJ =>
 (idx a0.bd dc.2.2).bind λeX =>
 (da dc.2.1 [(eX.e2.length:Int)]).bind λeP =>
 some (.inl (dc.1++[cB.Left],dc.2.1++[(eX.e2.length:Int)],aG (dc.2.2+1)))
 else
 some (.inr (dc.1,dc.2.1)))) (([]:List Int),([]:List Int),0)).bind λb3 =>
 (CJ a0).bind λcL =>
 some (⟨x2.1,aX,bK.1,bC,b3.1,b3.2,cL⟩:Tables)
def sb (a0:Source):Option (bt × Tables × (List ByteArray) × Bool) :=
 (ql a0).bind λa6 =>
 (bif !a6.2.2.2 then
 some (a6.1,(⟨([]:List Int),(⟨([]:List Int),([]:List Int),([]:List Int)⟩:gX),([]:List Int),(⟨([]:List Int),([]:List Int),([]:List Int)⟩:gX),([]:List Int),([]:List Int),([]:List dt)⟩:Tables),([]:List ByteArray),false)
 else
 (xP a6.1).bind λaX =>
 (vW a6.1 a6.2.1).bind λbR =>
 some (a6.1,bR,aX.1,decide (aX.2.1=0)))
def xQ (a0:Tables):Option ((List (List Int))) :=
 (b5 (R:=List Int × List Int) (λ(s1:List Int × List Int × Int) =>
 (bif decide (s1.2.2<(a0.h3.length:Int)) then
 (idx a0.h3 s1.2.2).bind λbK =>
 (da s1.1 [bK.At]).bind λbC =>
 (da s1.2.1 [bK.cG]).bind λbS =>
 some (.inl (s1.1++[bK.At],s1.2.1++[bK.cG],aG (s1.2.2+1)))
 else
 some (.inr (s1.1,s1.2.1)))) (([]:List Int),([]:List Int),0)).bind λx2 =>
 some [a0.Def,a0.dx.dD,a0.dx.cG,a0.dx.cD,a0.o9,a0.gJ.dD,a0.gJ.cG,a0.gJ.cD,a0.Left,a0.o_,x2.1,x2.2]
def CE :Option ((List ByteArray)) :=
 some [⟨#[121,121,68,101,102]⟩,⟨#[121,121,65,99,116,66,97,115,101]⟩,⟨#[121,121,65,99,116,86,97,108]⟩,⟨#[121,121,65,99,116,67,104,107]⟩,⟨#[121,121,71,111,68,101,102]⟩,⟨#[121,121,71,111,66,97,115,101]⟩,⟨#[121,121,71,111,86,97,108]⟩,⟨#[121,121,71,111,67,104,107]⟩,⟨#[121,121,76,101,102,116]⟩,⟨#[121,121,76,101,110]⟩,⟨#[121,121,78,117,109,65,116]⟩,⟨#[121,121,78,117,109,86,97,108]⟩]
def vT (a0:bt) (aB:Tables) (a2:(List ByteArray)):Option (ByteArray) :=
 (sR (a0.b8.size:Int)).bind λa6 =>
 (e' (⟨#[47,47,32,67,111,100,101,32,109,97,100,101,32,98,121,32,121,117,99,99,97,32]⟩) a6).bind λx2 =>
 (e' x2 (⟨#[10]⟩)).bind λaX =>
 (e' aX a0.b8).bind λbR =>
 (e' bR (⟨#[10]⟩)).bind λbK =>
 (m' (⟨#[]⟩) bK).bind λbC =>
 (b5 (R:=ByteArray) (λ(dc:ByteArray × Int) =>
 (bif decide (dc.2<(a0.a1.length:Int)) then
 ((idx a0.a1 dc.2).bind λdJ =>
 ((bif decide (2<dc.2) then some (!dJ.Lit) else some false)).bind λrC =>
 ((bif rC then
 (e' (⟨#[99,111,110,115,116,32]⟩) dJ.Name).bind λbD =>
 (e' bD (⟨#[32,61,32]⟩)).bind λfq =>
 (sR dJ.bL).bind λfh =>
 (e' fq fh).bind λfc =>
 (e' fc (⟨#[10]⟩)).bind λeG =>
 (m' dc.1 eG).bind λfM =>
 some fM
 else
 some dc.1)).bind λlB =>
 some lB).bind λi_ =>
 some (.inl (i_,aG (dc.2+1)))
 else
 some (.inr dc.1))) (bC,0)).bind λb3 =>
 (xQ aB).bind λfl =>
 (CE ).bind λgl =>
 (b5 (R:=ByteArray) (λ(oa:ByteArray × Int) =>
 (bif decide (oa.2<(gl.length:Int)) then
 (idx gl oa.2).bind λeo =>
 (idx fl oa.2).bind λho =>
 (sa eo ho).bind λkP =>
 (e' kP (⟨#[10]⟩)).bind λe0 =>
 (m' oa.1 e0).bind λlH =>
 some (.inl (lH,aG (oa.2+1)))
 else
 some (.inr oa.1))) (b3,0)).bind λhX =>
 (m' hX (⟨#[102,117,110,99,32,121,121,65,99,116,105,111,110,40,112,32,105,110,116,44,32,121,121,68,111,108,108,97,114,32,91,93,121,121,83,121,109,84,121,112,101,44,32,121,121,86,65,76,32,121,121,83,121,109,84,121,112,101,41,32,121,121,83,121,109,84,121,112,101,32,123,10,9,115,119,105,116,99,104,32,112,32,123,10]⟩)).bind λiC =>
 (b5 (R:=ByteArray) (λ(s_:ByteArray × Int) =>
 (bif decide (s_.2<(a2.length:Int)) then
 ((idx a2 s_.2).bind λo3 =>
 ((bif !decide (o3=⟨#[]⟩) then
 (sR s_.2).bind λlh =>
 (e' (⟨#[9,99,97,115,101,32]⟩) lh).bind λtd =>
 (e' td (⟨#[58,10,9,9]⟩)).bind λDp =>
 (e' Dp o3).bind λmT =>
 (e' mT (⟨#[10]⟩)).bind λyk =>
 (m' s_.1 yk).bind λte =>
 some te
 else
 some s_.1)).bind λJm =>
 some Jm).bind λJk =>
 some (.inl (Jk,aG (s_.2+1)))
 else
 some (.inr s_.1))) (iC,0)).bind λlg =>
 (e' (⟨#[9,125,10,9,114,101,116,117,114,110,32,121,121,86,65,76,10,125,10]⟩) a0.cf).bind λtf =>
 (m' lg tf).bind λKN =>
 (wJ KN).bind λtg =>
 some tg
def xW :Option (Bool) :=
 (sb (⟨⟨#[112]⟩,([]:List Decl),[(⟨⟨#[115]⟩,[(⟨[(⟨(⟨⟨#[120]⟩,true,0,0⟩:Sym),⟨#[]⟩,0⟩:Part),(⟨(⟨⟨#[]⟩,false,0,0⟩:Sym),⟨#[123,102,40,41,125]⟩,0⟩:Part)],(⟨⟨#[]⟩,false,0,0⟩:Sym),0⟩:Alt)],0⟩:fS)],⟨#[116]⟩⟩:Source)).bind λa6 =>
 (vT a6.1 a6.2.1 a6.2.2.1).bind λx2 =>
 ((bif a6.2.2.2 then ((sa (⟨#[121,121,68,101,102]⟩) [(-1),2]).bind λbR=>(bif decide (bR=⟨#[118,97,114,32,121,121,68,101,102,32,61,32,91,93,105,110,116,123,45,49,44,32,50,125]⟩) then some (decide (x2=⟨#[47,47,32,67,111,100,101,32,109,97,100,101,32,98,121,32,121,117,99,99,97,32,49,10,112,10,118,97,114,32,121,121,68,101,102,32,61,32,91,93,105,110,116,123,45,49,44,32,49,44,32,45,49,125,10,118,97,114,32,121,121,65,99,116,66,97,115,101,32,61,32,91,93,105,110,116,123,48,44,32,48,44,32,48,125,10,118,97,114,32,121,121,65,99,116,86,97,108,32,61,32,91,93,105,110,116,123,50,48,48,48,49,44,32,48,44,32,48,44,32,50,125,10,118,97,114,32,121,121,65,99,116,67,104,107,32,61,32,91,93,105,110,116,123,51,44,32,48,44,32,48,44,32,49,125,10,118,97,114,32,121,121,71,111,68,101,102,32,61,32,91,93,105,110,116,123,45,49,44,32,50,125,10,118,97,114,32,121,121,71,111,66,97,115,101,32,61,32,91,93,105,110,116,123,48,44,32,48,125,10,118,97,114,32,121,121,71,111,86,97,108,32,61,32,91,93,105,110,116,123,125,10,118,97,114,32,121,121,71,111,67,104,107,32,61,32,91,93,105,110,116,123,125,10,118,97,114,32,121,121,76,101,102,116,32,61,32,91,93,105,110,116,123,48,44,32,49,125,10,118,97,114,32,121,121,76,101,110,32,61,32,91,93,105,110,116,123,49,44,32,49,125,10,118,97,114,32,121,121,78,117,109,65,116,32,61,32,91,93,105,110,116,123,49,50,48,125,10,118,97,114,32,121,121,78,117,109,86,97,108,32,61,32,91,93,105,110,116,123,51,125,10,102,117,110,99,32,121,121,65,99,116,105,111,110,40,112,32,105,110,116,44,32,121,121,68,111,108,108,97,114,32,91,93,121,121,83,121,109,84,121,112,101,44,32,121,121,86,65,76,32,121,121,83,121,109,84,121,112,101,41,32,121,121,83,121,109,84,121,112,101,32,123,10,9,115,119,105,116,99,104,32,112,32,123,10,9,99,97,115,101,32,49,58,10,9,9,123,102,40,41,125,10,9,125,10,9,114,101,116,117,114,110,32,121,121,86,65,76,10,125,10,116]⟩)) else some false)) else some false)).bind λow =>
 some ow
def s6 (a0:ByteArray) (aB:Int):Option (ByteArray) :=
 (bif decide (aB<(a0.size:Int)) then
 (iU a0 0 aB).bind λx2 =>
 some x2
 else
 some a0)
def Cy (a0:(List Int)) (aB:Int):Option ((List Int)) :=
 (bif decide (aB<(a0.length:Int)) then
 (mS a0 0 aB).bind λx2 =>
 some x2
 else
 some a0)
def Fv (a0:ByteArray) (aB:(List Int)):Option (ByteArray) :=
 (e' (⟨#[118,97,114,32]⟩) a0).bind λa6 =>
 (e' a6 (⟨#[32,61,32,91,93,105,110,116,123]⟩)).bind λx2 =>
 (b5 (R:=ByteArray) (λ(dn:ByteArray × Int) =>
 (bif decide (dn.2<(aB.length:Int)) then
 ((bif decide (0<dn.2) then
 (e' dn.1 (⟨#[44,32]⟩)).bind λdG =>
 some dG
 else
 some dn.1)).bind λlC =>
 (idx aB dn.2).bind λbF =>
 (qk bF).bind λcB =>
 (e' lC cB).bind λdJ =>
 some (.inl (dJ,aG (dn.2+1)))
 else
 some (.inr dn.1))) (x2,0)).bind λbR =>
 (e' bR (⟨#[125]⟩)).bind λeX =>
 some eX
def J6 (a0:ByteArray) (aB:(List Int)):Option (Bool) :=
 (xW ).bind λa6 =>
 (bif !a6 then
 some false
 else
 (s6 a0 40).bind λaX =>
 (Cy aB 100).bind λbR =>
 (sa aX bR).bind λbK =>
 (Fv aX bR).bind λbC =>
 some (decide (bK=bC)))
def J8 (a0:ByteArray) (aB:(List Int)) (a2:(List Int)):Option (Bool) :=
 (xW ).bind λa6 =>
 (bif !a6 then
 some false
 else
 (s6 a0 40).bind λaX =>
 (Cy aB 60).bind λbR =>
 (Cy a2 60).bind λbK =>
 (sa aX bR).bind λbC =>
 (sa (⟨#[]⟩) bK).bind λbS =>
 ((bif decide ((bC.size:Int)=0) then some true else (bif decide ((bS.size:Int)<((⟨#[118,97,114,32,32,61,32,91,93,105,110,116,123]⟩:ByteArray).size:Int)) then some true else ((iU bS 0 ((⟨#[118,97,114,32,32,61,32,91,93,105,110,116,123]⟩:ByteArray).size:Int)).bind λbF=>(bif !decide (bF=⟨#[118,97,114,32,32,61,32,91,93,105,110,116,123]⟩) then some true else ((gN bC (aG ((bC.size:Int) - 1))).bind λdJ=>some (!decide (dJ=125)))))))).bind λj7 =>
 (bif j7 then
 some false
 else
 ((bif decide ((bR.length:Int)=0) then some true else some (decide ((bK.length:Int)=0)))).bind λL0 =>
 ((bif L0 then
 some (⟨#[]⟩)
 else
 some (⟨#[44,32]⟩))).bind λxq =>
 (da ([]:List Int) bR).bind λfh =>
 (da (([]:List Int)++bR) bK).bind λfc =>
 (sa aX (([]:List Int)++bR++bK)).bind λeG =>
 (iU bC 0 (aG ((bC.size:Int) - 1))).bind λfM =>
 (e' fM xq).bind λfl =>
 (iU bS ((⟨#[118,97,114,32,32,61,32,91,93,105,110,116,123]⟩:ByteArray).size:Int) bS.size).bind λgl =>
 (e' fl gl).bind λhW =>
 some (decide (eG=hW))))
def vU (a0:Int) (aB:Int):Option (Int) :=
 (q_ a0 aB).bind λa6 =>
 ((bif decide (a6<0) then
 some (aG (a6+aB))
 else
 some a6)).bind λJh =>
 some Jh
def J7 :Option (ByteArray) :=
 some (⟨#[112,113,114,115]⟩)
def vV (a0:Int):Option (Sym) :=
 (J7 ).bind λa6 =>
 (q_ a0 4).bind λx2 =>
 (q_ a0 4).bind λaX =>
 (iU a6 x2 (aG (aX+1))).bind λbR =>
 some (⟨bR,true,0,0⟩:Sym)
def mb:bz Decl:=⟨4,λx=>[ae x.Kind,aw x.Tag,ao d' x.eL,ae x.At],λ_=>rfl,λ_=>dh.bl⟩
instance:gq mb dP:=⟨rfl,λx=>(inferInstance:c8 [ae x.Kind,aw x.Tag,ao d' x.eL,ae x.At] [ae x.Kind,aw x.Tag,ak d' x.eL,ae x.At])⟩
instance {x:Decl}:c8 (mb.cells x) [ae x.Kind,aw x.Tag,ak d' x.eL,ae x.At]:=(inferInstance:c8 [ae x.Kind,aw x.Tag,ao d' x.eL,ae x.At] [ae x.Kind,aw x.Tag,ak d' x.eL,ae x.At])
def zQ (a0:(List Int)):Option ((List Decl)) :=
 (b5 (R:=List Decl) (λ(s1:List Decl × Int) =>
 ((bif decide (s1.2<(a0.length:Int)) then some (decide (s1.2<4)) else some false)).bind λnb =>
 (bif nb then
 ((idx a0 s1.2).bind λb3 =>
 (vU b3 8).bind λdG =>
 (q_ dG 4).bind λbF =>
 (bif decide (bF=0) then
 some s1.1
 else
 ((bif decide (4<dG) then some (decide (0<(s1.1.length:Int))) else some false)).bind λj7 =>
 (bif j7 then
 (idx s1.1 (aG ((s1.1.length:Int) - 1))).bind λcL =>
 (vV s1.2).bind λbX =>
 (da cL.eL [bX]).bind λbD =>
 some (s1.1.set (aG ((s1.1.length:Int) - 1)).toNat (⟨cL.Kind,cL.Tag,cL.eL++[bX],cL.At⟩:Decl))
 else
 (q_ dG 4).bind λfq =>
 (vV s1.2).bind λfh =>
 (da s1.1 [(⟨aG (1+fq),⟨#[]⟩,[fh],0⟩:Decl)]).bind λfc =>
 some (s1.1++[(⟨aG (1+fq),⟨#[]⟩,[fh],0⟩:Decl)])))).bind λlC =>
 some (.inl (lC,aG (s1.2+1)))
 else
 some (.inr s1.1))) (([]:List Decl),0)).bind λx2 =>
 some x2
def zR (a0:Int):Option (ByteArray) :=
 some (strOfNums [rn (aG (97+a0))])
def CD (a0:Int) (aB:Int):Option (Sym) :=
 (vU a0 14).bind λa6 =>
 (bif decide (a6<5) then
 (q_ a6 aB).bind λaX =>
 (zR aX).bind λbR =>
 some (⟨bR,false,0,0⟩:Sym)
 else
 (bif decide (a6=13) then
 some (⟨⟨#[101,114,114,111,114]⟩,false,0,0⟩:Sym)
 else
 (vV (aG (a6 - 5))).bind λbC =>
 some bC))
structure pQ where
 bY:Int
 dH:(List (List Int))
 qE:(List Int)
 mU:(List Int)
 sk:Bool
 deriving DecidableEq,Inhabited
def nf:bz pQ:=⟨5,λx=>[ae x.bY,ak (bM az) x.dH,ak az x.qE,ak az x.mU,bc x.sk],λ_=>rfl,λ_=>dh.bl⟩
instance:Flat nf:=⟨λ_=>rfl⟩
instance:gq nf nf:=⟨rfl,λx=>(inferInstance:c8 [ae x.bY,ak (bM az) x.dH,ak az x.qE,ak az x.mU,bc x.sk] [ae x.bY,ak (bM az) x.dH,ak az x.qE,ak az x.mU,bc x.sk])⟩
instance {x:pQ}:c8 (nf.cells x) [ae x.bY,ak (bM az) x.dH,ak az x.qE,ak az x.mU,bc x.sk]:=(inferInstance:c8 [ae x.bY,ak (bM az) x.dH,ak az x.qE,ak az x.mU,bc x.sk] [ae x.bY,ak (bM az) x.dH,ak az x.qE,ak az x.mU,bc x.sk])
def fm:bz fS:=⟨3,λx=>[aw x.Left,ao fO x.fr,ae x.At],λ_=>rfl,λ_=>dh.bl⟩
instance:gq fm ji:=⟨rfl,λx=>(inferInstance:c8 [aw x.Left,ao fO x.fr,ae x.At] [aw x.Left,ak fO x.fr,ae x.At])⟩
instance {x:fS}:c8 (fm.cells x) [aw x.Left,ak fO x.fr,ae x.At]:=(inferInstance:c8 [aw x.Left,ao fO x.fr,ae x.At] [aw x.Left,ak fO x.fr,ae x.At])
def vS (a0:pQ):Option (Source) :=
 (vU a0.bY 4).bind λa6 =>
 (zQ a0.qE).bind λx2 =>
 (nC (aG (1+a6)) false).bind λaX =>
 (b5 (R:=List fS) (λ(cW:List fS × Int) =>
 (bif decide (cW.2<aG (1+a6)) then
 (zR cW.2).bind λb3 =>
 (da cW.1 [(⟨b3,([]:List Alt),0⟩:fS)]).bind λdG =>
 some (.inl (cW.1++[(⟨b3,([]:List Alt),0⟩:fS)],aG (cW.2+1)))
 else
 some (.inr cW.1))) (([]:List fS),0)).bind λbK =>
 (b5 (R:=List fS × List Bool) (λ(fW:List fS × List Bool × Int) =>
 ((bif decide (fW.2.2<(a0.dH.length:Int)) then some (decide (fW.2.2<9)) else some false)).bind λrC =>
 (bif rC then
 ((idx a0.dH fW.2.2).bind λbD =>
 (bif decide ((bD.length:Int)=0) then
 some (fW.1,fW.2.1)
 else
 (idx a0.dH fW.2.2).bind λfh =>
 (idx fh 0).bind λfc =>
 (vU fc (aG (1+a6))).bind λeG =>
 (b5 (R:=List Part × Bool) (λ(iB:List Part × Bool × Int) =>
 (((idx a0.dH fW.2.2).bind λhW=>(bif decide (iB.2.2<(hW.length:Int)) then some (decide (iB.2.2<5)) else some false))).bind λG6 =>
 (bif G6 then
 ((idx a0.dH fW.2.2).bind λho =>
 (idx ho iB.2.2).bind λkP =>
 (CD kP (aG (1+a6))).bind λe0 =>
 ((bif iB.2.1 then (bif e0.Lit then some true else some (decide (e0.Name=⟨#[101,114,114,111,114]⟩))) else some false)).bind λwM =>
 (da iB.1 [(⟨e0,⟨#[]⟩,0⟩:Part)]).bind λlg =>
 ((bif decide (fW.2.2<(a0.mU.length:Int)) then (bif decide (iB.2.2=1) then ((idx a0.mU fW.2.2).bind λgm=>((q_ gm 3).bind λo3=>some (decide (o3=1)))) else some false) else some false)).bind λAU =>
 ((bif AU then
 (da (iB.1++[(⟨e0,⟨#[]⟩,0⟩:Part)]) [(⟨(⟨⟨#[]⟩,false,0,0⟩:Sym),⟨#[123,36,36,32,61,32,36,49,125]⟩,0⟩:Part)]).bind λtd =>
 some ((iB.1++[(⟨e0,⟨#[]⟩,0⟩:Part)])++[(⟨(⟨⟨#[]⟩,false,0,0⟩:Sym),⟨#[123,36,36,32,61,32,36,49,125]⟩,0⟩:Part)])
 else
 some (iB.1++[(⟨e0,⟨#[]⟩,0⟩:Part)]))).bind λr7 =>
 some (r7,wM)).bind λB_ =>
 some (.inl (B_.1,B_.2,aG (iB.2.2+1)))
 else
 some (.inr (iB.1,iB.2.1)))) (([]:List Part),true,1)).bind λfl =>
 ((bif decide (fW.2.2<(a0.mU.length:Int)) then ((idx a0.mU fW.2.2).bind λmT=>((q_ mT 2).bind λyk=>some (!decide (yk=0)))) else some false)).bind λG7 =>
 ((bif G7 then
 (da fl.1 [(⟨(⟨⟨#[]⟩,false,0,0⟩:Sym),⟨#[123,102,40,36,36,41,125]⟩,0⟩:Part)]).bind λtg =>
 some (fl.1++[(⟨(⟨⟨#[]⟩,false,0,0⟩:Sym),⟨#[123,102,40,36,36,41,125]⟩,0⟩:Part)])
 else
 some fl.1)).bind λoQ =>
 (((idx fW.2.1 eG).bind λpO=>(bif pO then some (fW.2.1.set eG.toNat true) else some (fW.2.1.set eG.toNat fl.2)))).bind λDZ =>
 (idx fW.1 eG).bind λl4 =>
 (da l4.fr [(⟨oQ,(⟨⟨#[]⟩,false,0,0⟩:Sym),0⟩:Alt)]).bind λQC =>
 some (fW.1.set eG.toNat (⟨l4.Left,l4.fr++[(⟨oQ,(⟨⟨#[]⟩,false,0,0⟩:Sym),0⟩:Alt)],l4.At⟩:fS),DZ))).bind λmq =>
 some (.inl (mq.1,mq.2,aG (fW.2.2+1)))
 else
 some (.inr (fW.1,fW.2.1)))) (bK,aX,0)).bind λcB =>
 (b5 (R:=List fS) (λ(i':List fS × Int) =>
 (bif decide (i'.2<aG (1+a6)) then
 ((((idx i'.1 i'.2).bind λwo=>(bif decide ((wo.fr.length:Int)=0) then some true else ((idx cB.2 i'.2).bind λKQ=>(bif !KQ then some (!a0.sk) else some false))))).bind λG8 =>
 ((bif G8 then
 (idx i'.1 i'.2).bind λkv =>
 (vV i'.2).bind λkx =>
 (da kv.fr [(⟨[(⟨kx,⟨#[]⟩,0⟩:Part)],(⟨⟨#[]⟩,false,0,0⟩:Sym),0⟩:Alt)]).bind λDq =>
 some (i'.1.set i'.2.toNat (⟨kv.Left,kv.fr++[(⟨[(⟨kx,⟨#[]⟩,0⟩:Part)],(⟨⟨#[]⟩,false,0,0⟩:Sym),0⟩:Alt)],kv.At⟩:fS))
 else
 some i'.1)).bind λJq =>
 some Jq).bind λJp =>
 some (.inl (Jp,aG (i'.2+1)))
 else
 some (.inr i'.1))) (cB.1,0)).bind λwm =>
 some (⟨⟨#[]⟩,x2,wm,⟨#[]⟩⟩:Source)
def zT (a0:pQ) (aB:ByteArray) (a2:ByteArray):Option (Bool) :=
 (xW ).bind λa6 =>
 (bif !a6 then
 some false
 else
 (s6 aB 60).bind λaX =>
 (s6 a2 60).bind λbR =>
 (b5 (R:=(Unit) ⊕ (Bool)) (λ(cw:Int) =>
 (bif decide (aG (cw+1)<(aX.size:Int)) then
 (((gN aX cw).bind λbF=>(bif decide (bF=37) then ((gN aX (aG (cw+1))).bind λdJ=>some (decide (dJ=125))) else some false))).bind λj7 =>
 (bif j7 then
 some (.inr (.inr true))
 else
 some (.inl (aG (cw+1))))
 else
 some (.inr (.inl ())))) 0).bind λbC =>
 (match bC with
 | .inl bS =>
 (vS a0).bind λcL =>
 (sb cL).bind λbX =>
 (sb (⟨aX,cL.Decls,cL.dH,bR⟩:Source)).bind λbD =>
 ((bif !bX.2.2.2 then some true else some (!bD.2.2.2))).bind λGX =>
 (bif GX then
 some (bX.2.2.2 == bD.2.2.2)
 else
 (vT bX.1 bX.2.1 bX.2.2.1).bind λeG =>
 (vT bD.1 bD.2.1 bD.2.2.1).bind λfM =>
 ((bif decide ((eG.size:Int)<((⟨#[47,47,32,67,111,100,101,32,109,97,100,101,32,98,121,32,121,117,99,99,97,32,48,10,10]⟩:ByteArray).size:Int)) then some true else ((iU eG 0 ((⟨#[47,47,32,67,111,100,101,32,109,97,100,101,32,98,121,32,121,117,99,99,97,32,48,10,10]⟩:ByteArray).size:Int)).bind λgl=>some (!decide (gl=⟨#[47,47,32,67,111,100,101,32,109,97,100,101,32,98,121,32,121,117,99,99,97,32,48,10,10]⟩))))).bind λwL =>
 (bif wL then
 some false
 else
 (qk (aX.size:Int)).bind λfv =>
 (e' (⟨#[47,47,32,67,111,100,101,32,109,97,100,101,32,98,121,32,121,117,99,99,97,32]⟩) fv).bind λcC =>
 (e' cC (⟨#[10]⟩)).bind λeo =>
 (e' eo aX).bind λho =>
 (e' ho (⟨#[10]⟩)).bind λkP =>
 (iU eG ((⟨#[47,47,32,67,111,100,101,32,109,97,100,101,32,98,121,32,121,117,99,99,97,32,48,10,10]⟩:ByteArray).size:Int) eG.size).bind λe0 =>
 (e' kP e0).bind λlH =>
 (e' lH bR).bind λiC =>
 some (decide (fM=iC))))
 | .inr b3 =>
 some b3))
end Go.Proofs
namespace Go.Own
open Go
variable {α β S R:Type}
abbrev gK (p:S->Prop) (q:R->Prop) (x:S ⊕ R):Prop:=Sum.elim p q x
def Tot (x:Option α) (Φ:α->Prop):Prop:=∃ a,x=some a/\Φ a
namespace Tot
variable {Φ Ψ:α->Prop}
theorem ag {a:α}(h:Φ a):Tot (some a) Φ:=⟨a,rfl,h⟩
theorem bi {x:Option β}{f:β->Option α}(h:Tot x λa=>Tot (f a) Φ):Tot (x.bind f) Φ:=by
 obtain ⟨a,rfl,b,av,nw⟩:=h;exact ⟨b,av,nw⟩
theorem sm {f:β->Option α}{a:β}(h:Tot (f a) Φ):Tot ((some a).bind f) Φ:=h
theorem use {x:Option α}(h:Tot x Ψ) (hi:∀ a,Ψ a->Φ a):Tot x Φ:=by
 obtain ⟨a,aR,I_⟩:=h;exact ⟨a,aR,hi a I_⟩
theorem ar {x:Option β}{f:β->Option α}{Ξ:β->Prop}(h:Tot x Ξ) (hk:∀ a,Ξ a->Tot (f a) Φ):Tot (x.bind f) Φ:=bi (h.use hk)
theorem bk {c:Bool}{a b:Option α}(aq:c=true->Tot a Φ) (aS:c=false->Tot b Φ):Tot (cond c a b) Φ:=by
 grind
theorem ba {p:Prop} [Decidable p] {a b:Option α}(aq:p->Tot a Φ) (aS:¬ p->Tot b Φ):Tot (cond (decide p) a b) Φ:=by grind
theorem kZ {p:Prop} [Decidable p] {a b:Option α}(aq:¬ p->Tot a Φ) (aS:p->Tot b Φ):Tot (cond (!decide p) a b) Φ:=by grind
theorem gh {l:List α}{i:Int}(aO:0<=i) (h1:i<l.length) (hk:∀ y,idx l i=some y->y∈l->Φ y):Tot (idx l i) Φ:=by
 have aT:i.toNat<l.length:=by omega
 have:idx l i=some l[i.toNat]:=by simp [idx,aO,aT]
 exact ⟨_,this,hk _ this (List.getElem_mem aT)⟩
theorem ap {Φ:List α->Prop}{l m:List α}(h:l.length+m.length<=lim) (hk:Φ (l++m)):Tot (da l m) Φ:=by
 refine ⟨l++m,?_,hk⟩
 grind [da]
theorem loop {f:S->Option (S ⊕ R)}{eF:S}{Ψ:R->Prop}(Inv:S->Prop) (uW:S->Nat) (aO:Inv eF) (Ja:uW eF<fuel)
  (ay:∀ s,Inv s->Tot (f s) (gK (λcp=>Inv cp/\uW cp<uW s) Ψ)):Tot (b5 f eF) Ψ:=by
 have key:∀ n s,Inv s->uW s<n->Tot (iter f n s) Ψ:=by
  intro n
  induction n with
  | zero=>intro s _ h; omega
  | succ n aM =>
   intro s bb hm;obtain ⟨x,j,cb⟩:=ay s bb;cases x with
   | inl cp =>
    grind [iter]
   | inr r =>
    simp only [iter,j];exact ⟨r,rfl,cb⟩
 exact key fuel eF aO Ja
theorem count {f:S->Option (S ⊕ R)}{eF:S}{Ψ:R->Prop}(i:S->Int) (n:Int) (Inv:S->Prop) (aO:Inv eF) (aA:n - i eF<1000000000000000000)
  (ay:∀ s,Inv s->Tot (f s) (gK (λcp=>Inv cp/\i s<i cp/\i cp<=n) Ψ)):Tot (b5 f eF) Ψ:=by
 refine loop Inv (λs=>(n - i s).toNat) aO (by show (n - i eF).toNat<1000000000000000000; omega) λs bb=>(ay s bb).use λx j=>?_
 grind
end Tot
theorem Ak {n:Int}(aO:-9223372036854775808<=n) (h1:n<=9223372036854775807):aG n=n:=by
 grind [IntKind.wrap_i64]
theorem cm (n:Int):aG n=(n+9223372036854775808) % 18446744073709551616 - 9223372036854775808:=IntKind.wrap_i64 n
namespace Tot
theorem cat {Φ:ByteArray->Prop}{s u:ByteArray}(h:s.size+u.size<=4611686018427387904) (hk:Φ (s++u)):Tot (e' s u) Φ:=by
 refine ⟨s++u,?_,hk⟩
 grind [e']
theorem cut {Φ:ByteArray->Prop}{s:ByteArray}{m n:Int}(h:0<=m/\m<=n/\n<=s.size) (hk:Φ (nc s m n)):Tot (iU s m n) Φ:=by
 refine ⟨_,?_,hk⟩
 grind [iU]
theorem jg {Φ:Int->Prop}{s:ByteArray}{m:Int}(h:0<=m/\m<s.size) (hk:Φ (iT s m)):Tot (gN s m) Φ:=by
 refine ⟨_,?_,hk⟩
 grind [gN]
theorem sub {Φ:List α->Prop}{l:List α}{m n:Int}(h:0<=m/\m<=n/\n<=l.length) (hk:Φ ((l.drop m.toNat).take (n - m).toNat)):Tot (mS l m n) Φ:=by
 refine ⟨_,?_,hk⟩
 grind [mS]
theorem rem {Φ:Int->Prop}{m n:Int}(h:n≠0) (hk:Φ (m.tmod n)):Tot (q_ m n) Φ:=by
 refine ⟨_,?_,hk⟩
 grind [q_]
theorem quo {Φ:Int->Prop}{m n:Int}(h:n≠0) (hk:Φ (aG (m.tdiv n))):Tot (FB m n) Φ:=by
 refine ⟨_,?_,hk⟩
 grind [FB]
theorem pI {Φ:Int->Prop}{m n:Int}(h:n≠0) (hk:Φ (m.tmod n)):Tot (Own.pI m n) Φ:=by
 refine ⟨_,?_,hk⟩
 grind [Own.pI]
theorem pH {Φ:Int->Prop}{m n:Int}(h:n≠0) (hk:Φ (IntKind.u64.wrap (m.tdiv n))):Tot (Own.pH m n) Φ:=by
 refine ⟨_,?_,hk⟩
 grind [Own.pH]
theorem mk {Φ:List α->Prop}{m:Int}{z:α}(h:0<=m/\m<=lim) (hk:Φ (List.replicate m.toNat z)):Tot (nC m z) Φ:=by
 refine ⟨_,?_,hk⟩
 grind [nC]
theorem eq {x:Option α}{Φ:α->Prop}{a:α}(h:Tot x Φ) (e:x=some a):Φ a:=by
 obtain ⟨b,av,nw⟩:=h
 grind
theorem ex {x:Option α}{Φ:α->Prop}(h:Tot x Φ):∃ a,x=some a/\Φ a:=h
end Tot
namespace Tot
theorem scan {f:Int->Option (Int ⊕ (Unit ⊕ R))}(l:List β) (P:β->Prop) (Q:R->Prop) (aj:l.length<=100000000000000000)
  (ay:∀ (s:Int) (y:β),0<=s->s<l.length->idx l s=some y->y∈l->Tot (f s) (gK (λcp=>cp=s+1/\P y) (gK (λ_=>False) Q)))
  (he:∀ s:Int,¬ s<l.length->f s=some (.inr (.inl ()))):Tot (b5 f 0) (gK (λ_=>∀ y∈l,P y) Q):=by
 refine count (λs=>s) l.length (λs=>0<=s/\s<=l.length/\∀ (J:Nat) (y:β),(J:Int)<s->l[J]?=some y->P y) ⟨by omega,by omega,λJ y h=>by omega⟩ (by show (l.length:Int) - 0<_; omega) λs bb=>?_;obtain ⟨aO,h1,af⟩:=bb;by_cases aT:s<l.length
 ·have k5:s.toNat<l.length:=by omega
  have hi:idx l s=some l[s.toNat]:=by simp [idx,aO,k5]
  refine (ay s _ aO aT hi (List.getElem_mem k5)).use λx j=>?_;rcases x with cp | ⟨⟨⟩⟩ | r
  ·obtain ⟨rfl,cb⟩:=j
   grind
  ·grind
  grind
 ·rw [he s aT];refine ag λy al=>?_;obtain ⟨J,ai,rfl⟩:=List.mem_iff_getElem.1 al;exact af J _ (by omega) (List.getElem?_eq_getElem ai)
end Tot
end Go.Own
namespace Go.Own
open Go
variable {α β S R:Type}
def Par (x:Option α) (Φ:α->Prop):Prop:=∀ a,x=some a->Φ a
set_option linter.unusedVariables false
namespace Par
variable {Φ Ψ:α->Prop}
theorem ag {a:α}(h:Φ a):Par (some a) Φ:=λb e=>by cases e; exact h
theorem no:Par (none:Option α) Φ:=λb e=>by cases e
theorem use {x:Option α}(h:Par x Ψ) (hi:∀ a,Ψ a->Φ a):Par x Φ:=λa e=>hi a (h a e)
theorem ar {x:Option β}{f:β->Option α}{Ξ:β->Prop}(h:Par x Ξ) (hk:∀ a,Ξ a->Par (f a) Φ):Par (x.bind f) Φ:=λa e=>by
 cases x with
 | none=>cases e
 | some b=>exact hk b (h b rfl) a e
theorem go {x:Option β}{f:β->Option α}(hk:∀ a,x=some a->Par (f a) Φ):Par (x.bind f) Φ:=λa e=>by
 cases x with
 | none=>cases e
 | some b=>exact hk b rfl a e
theorem bk {c:Bool}{a b:Option α}(aq:c=true->Par a Φ) (aS:c=false->Par b Φ):Par (cond c a b) Φ:=by
 cases c
 ·exact aS rfl
 ·exact aq rfl
theorem ba {p:Prop} [Decidable p] {a b:Option α}(aq:p->Par a Φ) (aS:¬ p->Par b Φ):Par (cond (decide p) a b) Φ :=
 bk (λh=>aq (of_decide_eq_true h)) (λh=>aS (of_decide_eq_false h))
theorem kZ {p:Prop} [Decidable p] {a b:Option α}(aq:¬ p->Par a Φ) (aS:p->Par b Φ):Par (cond (!decide p) a b) Φ :=
 bk (λh=>aq (of_decide_eq_false (by simpa using h))) (λh=>aS (of_decide_eq_true (by simpa using h)))
theorem ap {l m:List β}{f:List β->Option α}(hk:l.length+m.length<=lim->Par (f (l++m)) Φ):Par ((da l m).bind f) Φ:=by
 unfold da;split
 ·rename_i h; exact hk h
 ·exact no
theorem cat {s u:ByteArray}{f:ByteArray->Option α}(hk:Par (f (s++u)) Φ):Par ((e' s u).bind f) Φ:=by
 unfold e';split
 ·exact hk
 ·exact no
theorem loop {f:S->Option (S ⊕ R)}{eF:S}{Ψ:R->Prop}(Inv:S->Prop) (aO:Inv eF) (ay:∀ s,Inv s->Par (f s) (gK Inv Ψ)):Par (b5 f eF) Ψ:=by
 have key:∀ n s,Inv s->Par (iter f n s) Ψ:=by
  intro n
  induction n with
  | zero=>intro s _ a e; cases e
  | succ n aM =>
   intro s bb a e;simp only [iter] at e;cases j:f s with
   | none=>rw [j] at e; cases e
   | some x =>
    have cb:=ay s bb x j;rw [j] at e;cases x with
    | inl cp=>exact aM cp cb a e
    | inr r=>cases e; exact cb
 exact key fuel eF aO
theorem ja {x:Option α}(h:Tot x Φ) (aI:Par x Ψ):Tot x λa=>Φ a/\Ψ a:=by
 obtain ⟨a,aR,nw⟩:=h;exact ⟨a,aR,nw,aI a aR⟩
theorem of {x:Option α}(h:Tot x Φ):Par x Φ:=λa e=>h.eq e
theorem scan {f:Int->Option (Int ⊕ (Unit ⊕ R))}(l:List β) (aj:l.length<=100000000000000000) (P:β->Prop) (Q:R->Prop)
  (ay:∀ (s:Int) (y:β),0<=s->s<l.length->idx l s=some y->y∈l->Par (f s) (gK (λcp=>cp=s+1/\P y) (gK (λ_=>False) Q)))
  (he:∀ s:Int,¬ s<l.length->f s=some (.inr (.inl ()))):Par (b5 f 0) (gK (λ_=>∀ y∈l,P y) Q):=by
 refine loop (λs=>0<=s/\s<=l.length/\∀ (J:Nat) (y:β),(J:Int)<s->l[J]?=some y->P y) ⟨by omega,by omega,λJ y h=>by omega⟩ λs bb=>?_;obtain ⟨aO,h1,af⟩:=bb;by_cases aT:s<l.length
 ·have k5:s.toNat<l.length:=by omega
  have hi:idx l s=some l[s.toNat]:=by simp [idx,aO,k5]
  refine (ay s _ aO aT hi (List.getElem_mem k5)).use λx j=>?_;rcases x with cp | ⟨⟨⟩⟩ | r
  ·obtain ⟨rfl,cb⟩:=j;refine ⟨by omega,by omega,λJ y ai al=>?_⟩;by_cases zh:(J:Int)<s
   ·exact af J y zh al
   ·have:J=s.toNat:=by omega
    subst this;rw [List.getElem?_eq_getElem k5] at al;cases al; exact cb
  ·exact j.elim
  ·exact j
 ·rw [he s aT];refine ag λy al=>?_;obtain ⟨J,ai,rfl⟩:=List.mem_iff_getElem.1 al;exact af J _ (by omega) (List.getElem?_eq_getElem ai)
end Par
end Go.Own
namespace Go.Own
open Go
variable {α β S R:Type}
namespace Tot
theorem upto {f:S->Option (S ⊕ R)}{eF:S}{Ψ:R->Prop}(i:S->Int) (n:Nat) (Inv:Nat->S->Prop) (hi:i eF=0) (aA:n<=100000000000000000) (aO:Inv 0 eF)
  (ay:∀ (k:Nat) (s:S),k<=n->i s=(k:Int)->Inv k s->Tot (f s) (gK (λcp=>k<n/\i cp=((k+1:Nat):Int)/\Inv (k+1) cp) Ψ)):Tot (b5 f eF) Ψ:=by
 refine count i n (λs=>∃ k:Nat,k<=n/\i s=(k:Int)/\Inv k s) ⟨0,Nat.zero_le _,hi,aO⟩ (by rw [hi]; omega) λs ⟨k,hk,he,bb⟩=>(ay k s hk he bb).use λx j=>?_;rcases x with cp | r
 ·obtain ⟨h1,af,aJ⟩:=j;exact ⟨⟨k+1,by omega,af,aJ⟩,by omega,by omega⟩
 ·exact j
end Tot
namespace Par
theorem upto {f:S->Option (S ⊕ R)}{eF:S}{Ψ:R->Prop}(i:S->Int) (n:Nat) (Inv:Nat->S->Prop) (hi:i eF=0) (aO:Inv 0 eF)
  (ay:∀ (k:Nat) (s:S),k<=n->i s=(k:Int)->Inv k s->Par (f s) (gK (λcp=>k<n/\i cp=((k+1:Nat):Int)/\Inv (k+1) cp) Ψ)):Par (b5 f eF) Ψ:=by
 refine loop (λs=>∃ k:Nat,k<=n/\i s=(k:Int)/\Inv k s) ⟨0,Nat.zero_le _,hi,aO⟩ λs ⟨k,hk,he,bb⟩=>(ay k s hk he bb).use λx j=>?_;rcases x with cp | r
 ·obtain ⟨h1,af,aJ⟩:=j;exact ⟨k+1,by omega,af,aJ⟩
 ·exact j
end Par
theorem eA (k:Nat) (h:k<=1000000000000000000):aG ((k:Int)+1)=((k+1:Nat):Int):=by rw [cm]; omega
end Go.Own
namespace Go.Own
open Go
variable {α β qA ti S T R Q:Type}
def Rel (x:Option α) (y:Option β) (Φ:α->β->Prop):Prop:=∃ a b,x=some a/\y=some b/\Φ a b
abbrev Le (p:S->T->Prop) (q:R->Q->Prop):S ⊕ R->T ⊕ Q->Prop
 | .inl a,.inl b=>p a b
 | .inr a,.inr b=>q a b
 | _,_=>False
namespace Rel
variable {Φ Ψ:α->β->Prop}
theorem ag {a:α}{b:β}(h:Φ a b):Rel (some a) (some b) Φ:=⟨a,b,rfl,rfl,h⟩
theorem use {x:Option α}{y:Option β}(h:Rel x y Ψ) (hi:∀ a b,Ψ a b->Φ a b):Rel x y Φ:=by
 obtain ⟨a,b,aR,av,I_⟩:=h;exact ⟨a,b,aR,av,hi a b I_⟩
theorem ar {x:Option qA}{y:Option ti}{f:qA->Option α}{g:ti->Option β}{Ξ:qA->ti->Prop}(h:Rel x y Ξ) (hk:∀ a b,Ξ a b->Rel (f a) (g b) Φ):Rel (x.bind f) (y.bind g) Φ:=by
 obtain ⟨a,b,rfl,rfl,B7⟩:=h;exact hk a b B7
theorem l {x:Option qA}{y:Option β}{f:qA->Option α}{Ξ:qA->Prop}(h:Tot x Ξ) (hk:∀ a,Ξ a->Rel (f a) y Φ):Rel (x.bind f) y Φ:=by
 obtain ⟨a,rfl,B7⟩:=h;exact hk a B7
theorem r {x:Option α}{y:Option ti}{g:ti->Option β}{Ξ:ti->Prop}(h:Tot y Ξ) (hk:∀ a,Ξ a->Rel x (g a) Φ):Rel x (y.bind g) Φ:=by
 obtain ⟨a,rfl,B7⟩:=h;exact hk a B7
theorem bk {c d:Bool}{a b:Option α}{bZ dX:Option β}(aa:c=d) (aq:c=true->Rel a bZ Φ) (aS:c=false->Rel b dX Φ):Rel (cond c a b) (cond d bZ dX) Φ:=by
 subst aa;cases c
 ·exact aS rfl
 ·exact aq rfl
theorem cl {c:Bool}{a b:Option α}{y:Option β}(aq:c=true->Rel a y Φ) (aS:c=false->Rel b y Φ):Rel (cond c a b) y Φ:=by
 cases c
 ·exact aS rfl
 ·exact aq rfl
theorem ja {x:Option α}{y:Option β}{P:α->Prop}{Q:β->Prop}(h:Tot x P) (aI:Tot y Q) (hi:∀ a b,P a->Q b->Φ a b):Rel x y Φ:=by
 obtain ⟨a,aR,cb⟩:=h;obtain ⟨b,av,dA⟩:=aI;exact ⟨a,b,aR,av,hi a b cb dA⟩
theorem fst {x:Option α}{y:Option β}(h:Rel x y Φ):Tot x λa=>∃ b,y=some b/\Φ a b:=by
 obtain ⟨a,b,aR,av,nw⟩:=h;exact ⟨a,aR,b,av,nw⟩
theorem loop {f:S->Option (S ⊕ R)}{g:T->Option (T ⊕ Q)}{eF:S}{t0:T}{Ψ:R->Q->Prop}(Inv:S->T->Prop) (uW:S->Nat) (aO:Inv eF t0) (Ja:uW eF<fuel)
  (ay:∀ s t,Inv s t->Rel (f s) (g t) (Le (λcp t'=>Inv cp t'/\uW cp<uW s) Ψ)):Rel (b5 f eF) (b5 g t0) Ψ:=by
 have key:∀ n s t,Inv s t->uW s<n->Rel (iter f n s) (iter g n t) Ψ:=by
  intro n
  induction n with
  | zero=>intro s t _ h; omega
  | succ n aM =>
   intro s t bb hm;obtain ⟨x,y,j,al,cb⟩:=ay s t bb;rcases x with cp | r <;> rcases y with t' | q
   ·obtain ⟨h1,af⟩:=cb;simp only [iter,j,al];exact aM cp t' h1 (by omega)
   ·exact cb.elim
   ·exact cb.elim
   ·simp only [iter,j,al];exact ⟨r,q,rfl,rfl,cb⟩
 exact key fuel eF t0 aO Ja
theorem upto {f:S->Option (S ⊕ R)}{g:T->Option (T ⊕ Q)}{eF:S}{t0:T}{Ψ:R->Q->Prop}(i:S->Int) (n:Nat) (Inv:Nat->S->T->Prop) (hi:i eF=0) (aA:n<=100000000000000000) (aO:Inv 0 eF t0)
  (ay:∀ (k:Nat) (s:S) (t:T),k<=n->i s=(k:Int)->Inv k s t->Rel (f s) (g t) (Le (λcp t'=>k<n/\i cp=((k+1:Nat):Int)/\Inv (k+1) cp t') Ψ)):Rel (b5 f eF) (b5 g t0) Ψ:=by
 refine loop (λs t=>∃ k:Nat,k<=n/\i s=(k:Int)/\Inv k s t) (λs=>(n - (i s).toNat)) ⟨0,Nat.zero_le _,hi,aO⟩ (by rw [hi]; show n - 0<1000000000000000000; omega) λs t ⟨k,hk,he,bb⟩=>(ay k s t hk he bb).use λx y ET=>?_;rcases x with cp | r <;> rcases y with t' | q
 ·obtain ⟨h1,af,aJ⟩:=ET;refine ⟨⟨k+1,by omega,af,aJ⟩,?_⟩;show n - (i cp).toNat<n - (i s).toNat;rw [af,he]; omega
 ·exact ET
 ·exact ET
 ·exact ET
end Rel
end Go.Own

namespace Go.Proofs
open Go Go.Own
set_option maxRecDepth 100000
set_option linter.unusedVariables false
theorem t114 (c:Int):Tot (CC c) λ_=>True:=by
 unfold CC
 repeat' first | apply Tot.bi | refine Tot.bk (λ_=>?_) (λ_=>?_) | exact Tot.ag trivial | apply Tot.ag
theorem t96 (c:Int):Tot (v8 c) λ_=>True:=by
 unfold v8
 repeat' first | apply Tot.bi | refine Tot.bk (λ_=>?_) (λ_=>?_) | exact Tot.ag trivial | apply Tot.ag
theorem t123 (c:Int):Tot (zP c) λ_=>True:=by
 unfold zP
 repeat' first | apply Tot.bi | refine Tot.bk (λ_=>?_) (λ_=>?_) | exact Tot.ag trivial | apply Tot.ag
theorem t122 (x:Sym):Tot (uE x) λr=>r=true->x.Name=⟨#[]⟩/\x.Lit=false:=by
 unfold uE;apply Tot.bi;refine Tot.ba (λh=>Tot.bk (λaf=>?_) (λaf=>?_)) (λh=>?_) <;> apply Tot.ag <;> apply Tot.ag
 ·exact λ_=>⟨h,by simpa using af⟩
 ·exact λh=>by cases h
 ·exact λh=>by cases h
abbrev dp:Nat:=1000000000000
theorem t95 (s:ByteArray) (h:s.size<=dp):Tot (v7 s 0) λn=>0<=n/\n<=s.size:=by
 unfold v7;refine Tot.ar (Ξ:=λn=>0<=n/\n<=s.size) ?_ λa aR=>.ag aR;refine Tot.count (λi=>i) s.size (λi=>0<=i/\i<=s.size) ⟨by omega,by omega⟩ (by show (s.size:Int) - 0<_; simp only [dp] at h; omega) λi ⟨aO,h1⟩=>?_;simp only [dp] at h;have e:aG (0+i)=i:=by rw [cm]; omega
 rw [e];have go:∀ c:Bool,(c=true->i<s.size)->Tot (bif c then some (.inl (aG (i+1))) else some (.inr i)) (gK (λcp:Int=>(0<=cp/\cp<=s.size)/\i<cp/\cp<=s.size) (λr:Int=>0<=r/\r<=s.size)):=by
  intro c aa;refine Tot.bk (λaf=>.ag ?_) (λ_=>.ag ⟨aO,h1⟩);have:=aa af;have e:aG (i+1)=i+1:=by rw [cm]; omega
  show (0<=aG (i+1)/\aG (i+1)<=s.size)/\i<aG (i+1)/\aG (i+1)<=s.size;rw [e]; omega
 apply Tot.bi;refine Tot.ba (λaf=>?_) (λaf=>.ag (go false (by simp)));apply Tot.bi;refine Tot.jg ⟨aO,af⟩ (Tot.ar (t114 _) λc _=>?_);refine Tot.bk (λ_=>.ag (go _ λ_=>af)) (λ_=>Tot.bk (λ_=>?_) (λ_=>.ag (go _ λ_=>af)));apply Tot.bi;refine Tot.jg ⟨aO,af⟩ (Tot.ar (t96 _) λc _=>?_);refine Tot.bk (λ_=>.ag (go _ λ_=>af)) (λ_=>?_);apply Tot.bi;exact Tot.jg ⟨aO,af⟩ (.ag (go _ λ_=>af))
theorem t116 (s:ByteArray) (h:s.size<=dp):Tot (vQ s) λr=>r=true->1<=s.size/\s.size<=20:=by
 unfold vQ;apply Tot.bi;refine Tot.ba (λh1=>Tot.ba (λaf=>?_) (λaf=>?_)) (λh1=>?_)
 ·exact .ar (t95 s h) λn aA=>.ag (.ag λ_=>by omega)
 ·exact .ag (.ag λh=>by cases h)
 ·exact .ag (.ag λh=>by cases h)
theorem t94 (s:ByteArray) (i:Int) (t:ByteArray) (h:s.size<=dp) (aO:0<=i) (h1:i<=4 * dp) (aq:t.size<=dp):Tot (xZ s i t) λr=>r=true->i+t.size<=s.size:=by
 unfold xZ;simp only [dp] at *;apply Tot.bi;refine Tot.ba (λaf=>?_) (λaf=>.ag (.ag λh=>by cases h));apply Tot.bi;rw [cm] at af;have e:aG (i+t.size)=i+t.size:=by rw [cm]; omega
 refine Tot.cut (by rw [e]; omega) (.ag (.ag λ_=>by omega))
theorem t74 (s:ByteArray) (i:Int) (h:s.size<=dp) (aO:0<=i) (h1:i<s.size):Tot (zW s i) λr=>r<=s.size:=by
 unfold zW;have av:(s.size:Int)<=1000000000000:=by simp only [dp] at h; omega
 have cr:aG (i+1)=i+1:=by rw [cm]; omega
 have b9:aG (i+2)=i+2:=by rw [cm]; omega
 rw [cr,b9];have ud:=Tot.jg (Φ:=λ_=>True) (s:=s) (m:=i) ⟨aO,h1⟩ trivial;refine Tot.ar (Ξ:=λ_=>True) ?_ λc _=>Tot.bk (λ_=>?_) (λ_=>?_)
 ·refine Tot.ar ud λ_ _=>Tot.bk (λ_=>.ag trivial) (λ_=>Tot.ar ud λ_ _=>.ag trivial)
 ·refine Tot.ar (Ξ:=gK (λ_=>True) (λr=>r<=s.size)) ?_ λx j=>?_
  ·refine Tot.count (λJ=>J) (s.size+1) (λJ=>0<=J) (by show (0:Int)<=i+1; omega) (by show (s.size:Int)+1 - (i+1)<_; omega) λJ ai=>?_;refine Tot.ar (Ξ:=λc=>c=true->J<s.size) ?_ λc aa=>Tot.bk (λaf=>?_) (λ_=>.ag trivial)
   ·refine Tot.ba (λaf=>?_) (λ_=>.ag λh=>by cases h);exact .ar (Ξ:=λ_=>True) (Tot.jg ⟨ai,af⟩ trivial) λ_ _=>.ag λ_=>af
   ·have VM:=aa af;have Ib:=Tot.jg (Φ:=λ_=>True) (s:=s) (m:=J) ⟨ai,VM⟩ trivial;have fi:aG (J+1)=J+1:=by rw [cm]; omega
    have ph:aG (J+1+1)=J+1+1:=by rw [cm]; omega
    rw [fi,ph];refine .ar Ib λ_ _=>.ar ud λ_ _=>Tot.bk (λ_=>.ag ?_) (λ_=>.ar Ib λ_ _=>Tot.bk (λ_=>?_) (λ_=>.ag ?_))
    ·show J+1<=s.size; omega
    ·refine Tot.ar (Ξ:=λ_=>True) ?_ λc _=>Tot.bk (λ_=>.ag ?_) (λ_=>.ag ?_)
     ·refine Tot.ba (λaJ=>?_) (λ_=>.ag trivial);exact .ar (Ξ:=λ_=>True) (Tot.jg ⟨by omega,aJ⟩ trivial) λ_ _=>.ag trivial
     ·show (-1:Int)<=s.size; omega
     ·show (0:Int)<=J+1+1/\J<J+1+1/\J+1+1<=s.size+1; omega
    ·show (0:Int)<=J+1/\J<J+1/\J+1<=s.size+1; omega
  ·rcases x with _ | r
   ·exact .ag (by show (-1:Int)<=s.size; omega)
   ·exact .ag j
 ·refine .ar ud λ_ _=>Tot.bk (λ_=>?_) (λ_=>?_)
  ·refine Tot.ar (Ξ:=gK (λ_=>True) (λr=>r<=s.size)) ?_ λx j=>?_
   ·refine Tot.count (λJ=>J) (s.size+1) (λJ=>0<=J) (by show (0:Int)<=i+1; omega) (by show (s.size:Int)+1 - (i+1)<_; omega) λJ ai=>?_;refine Tot.ba (λaf=>?_) (λ_=>.ag trivial);have fi:aG (J+1)=J+1:=by rw [cm]; omega
    rw [fi];refine .ar (Ξ:=λ_=>True) (Tot.jg ⟨ai,af⟩ trivial) λ_ _=>Tot.bk (λ_=>.ag ?_) (λ_=>.ag ?_)
    ·show J+1<=s.size; omega
    ·show (0:Int)<=J+1/\J<J+1/\J+1<=s.size+1; omega
   ·rcases x with _ | r
    ·exact .ag (by show (-1:Int)<=s.size; omega)
    ·exact .ag j
  ·refine .ar (t94 s i _ h aO (by simp only [dp]; omega) (by decide)) λc _=>Tot.bk (λ_=>?_) (λ_=>?_)
   ·refine Tot.ar (Ξ:=λr=>r<=s.size) ?_ λx j=>.ag j;refine Tot.count (λJ=>J) s.size (λJ=>0<=J/\J<=s.size) ⟨aO,by omega⟩ (by show (s.size:Int) - i<_; omega) λJ ai=>?_;refine Tot.ar (Ξ:=λc=>c=true->J<s.size) ?_ λc aa=>Tot.bk (λaf=>?_) (λ_=>.ag ai.2)
    ·refine Tot.ba (λaf=>?_) (λ_=>.ag λh=>by cases h);exact .ar (Ξ:=λ_=>True) (Tot.jg ⟨ai.1,af⟩ trivial) λ_ _=>.ag λ_=>af
    ·have:=aa af;have fi:aG (J+1)=J+1:=by rw [cm]; omega
     rw [fi];exact .ag (by show ((0:Int)<=J+1/\J+1<=s.size)/\J<J+1/\J+1<=s.size; omega)
   ·refine .ar (t94 s i _ h aO (by simp only [dp]; omega) (by decide)) λc aa=>Tot.bk (λlR=>?_) (λ_=>.ag (by omega));refine Tot.ar (Ξ:=gK (λ_=>True) (λr=>r<=s.size)) ?_ λx j=>?_
    ·refine Tot.count (λJ=>J) (s.size+1) (λJ=>0<=J) (by show (0:Int)<=i+2; omega) (by show (s.size:Int)+1 - (i+2)<_; omega) λJ ai=>?_;refine Tot.ba (λaf=>?_) (λ_=>.ag trivial);have fi:aG (J+1)=J+1:=by rw [cm]; omega
     have ph:aG (J+2)=J+2:=by rw [cm]; omega
     rw [fi,ph];refine .ar (t94 s J _ h ai (by simp only [dp]; omega) (by decide)) λc aa=>Tot.bk (λw6=>.ag ?_) (λ_=>.ag ?_)
     ·have:=aa w6;have qO:(⟨#[42,47]⟩:ByteArray).size=2:=rfl;rw [qO] at this;show J+2<=s.size; omega
     ·show (0:Int)<=J+1/\J<J+1/\J+1<=s.size+1; omega
    ·rcases x with _ | r
     ·exact .ag (by show (-1:Int)<=s.size; omega)
     ·exact .ag j
theorem t73 (s:ByteArray) (h:s.size<=dp):Tot (xV s 0) λ_=>True:=by
 unfold xV;have av:(s.size:Int)<=1000000000000:=by simp only [dp] at h; omega
 refine Tot.ar (Ξ:=λ_=>True) ?_ λc _=>Tot.bk (λ_=>.ag trivial) (λ_=>?_)
 ·refine Tot.ba (λh=>.ag trivial) (λaO=>Tot.ba (λh=>.ag trivial) (λaf=>?_));exact .ar (Ξ:=λ_=>True) (Tot.jg (by omega) trivial) λ_ _=>.ag trivial
 ·refine Tot.ar (Ξ:=λ_=>True) ?_ λx _=>by rcases x with _ | r <;> exact .ag trivial
  refine Tot.count (λJ=>J.2) s.size (λJ=>0<=J.2/\J.2<=s.size) ⟨by show (0:Int)<=0; omega,by show (0:Int)<=s.size; omega⟩ (by show (s.size:Int) - 0<_; omega) λJ ai=>?_;refine Tot.ba (λaf=>?_) (λ_=>.ag trivial);refine .ar (t74 s J.2 h ai.1 af) λn aA=>Tot.ba (λ_=>.ag trivial) (λaJ=>Tot.ba (λbx=>.ag ?_) (λbx=>?_))
  ·show ((0:Int)<=n/\n<=s.size)/\J.2<n/\n<=s.size; omega
  ·have ud:=Tot.jg (Φ:=λ_=>True) (s:=s) (m:=J.2) ⟨ai.1,af⟩ trivial;have fi:aG (J.2+1)=J.2+1:=by rw [cm]; omega
   rw [fi];refine .ar ud λ_ _=>.ar (Ξ:=λ_=>True) (Tot.bk (λ_=>.ag trivial) (λ_=>.ag trivial)) λ_ _=>.ar ud λ_ _=>.ar (Ξ:=λ_=>True) (Tot.bk (λ_=>.ag trivial) (λ_=>.ag trivial)) λ_ _=>Tot.bk (λ_=>.ag trivial) (λ_=>.ag ?_);show ((0:Int)<=J.2+1/\J.2+1<=s.size)/\J.2<J.2+1/\J.2+1<=s.size; omega
def lL (x:Sym):Prop:=x.Lit=true->x.Name.size=1
structure K4 (d:Decl):Prop where
 tag:d.Tag.size<=1000
 n:d.eL.length<=1000
 syms:∀ x∈d.eL,x.Name.size<=dp
structure yp (a:Alt):Prop where
 n:a.Parts.length<=1000
 parts:∀ p∈a.Parts,p.Sym.Name.size<=dp/\p.Code.size<=1000
 prec:a.Prec.Name.size<=dp
structure Rf (r:fS):Prop where
 left:r.Left.size<=dp
 n:r.fr.length<=1000
 alts:∀ a∈r.fr,yp a
structure oo (s:Source):Prop where
 x0:s.b8.size<=dp
 wR:s.Decls.length<=1000
 decls:∀ d∈s.Decls,K4 d
 aL:s.dH.length<=1000
 rules:∀ r∈s.dH,Rf r
theorem t121 (x:Sym) (a b:Bool) (h:x.Name.size<=dp):Tot (uD x a b) λr=>r=true->lL x:=by
 unfold uD;refine Tot.bk (λaj=>?_) (λaj=>?_)
 ·refine Tot.ar (Ξ:=λc=>c=false->x.Name.size=1) ?_ λc aa=>Tot.bk (λ_=>.ag λh=>by cases h) (λaf=>?_)
  ·refine Tot.bk (λ_=>.ag λh=>by cases h) (λ_=>Tot.kZ (λ_=>.ag λh=>by cases h) (λh1=>.ag λ_=>by omega))
  ·have h1:=aa af;refine .ar (Ξ:=λ_=>True) (Tot.jg (by omega) trivial) λ_ _=>.ar (t123 _) λ_ _=>.ag λ_ _=>h1
 ·have cX:lL x:=λh=>by rw [aj] at h; cases h
  refine Tot.ar (Ξ:=λ_=>True) ?_ λc aa=>.ag λ_=>cX;refine .ar (t116 _ h) λc _=>?_
  repeat' first | refine Tot.bk (λ_=>?_) (λ_=>?_) | exact Tot.ag trivial
theorem t115 (d:Decl) (h:K4 d):Tot (xN d) λr=>r=true->∀ x∈d.eL,lL x:=by
 unfold xN;refine Tot.ar (Ξ:=λ_=>True) ?_ λc _=>Tot.bk (λ_=>.ag λh=>by cases h) (λ_=>?_)
 ·have aq:=(t116 _ (Nat.le_trans h.tag (by decide))).use (Φ:=λ_=>True) λ_ _=>trivial
  repeat' first | refine Tot.bk (λ_=>?_) (λ_=>?_) | exact Tot.ag trivial | refine .ar aq λ_ _=>?_
 ·refine Tot.ar (Tot.scan d.eL (λx=>lL x) (λr=>r=false) (by have:=h.n; omega) (λs y aO h1 hi hm=>?_) (λs ay=>by simp [ay])) λx j=>?_
  ·refine Tot.ba (λ_=>?_) (λh=>absurd h1 h);rw [hi];refine Tot.sm ?_;refine .ar (t121 _ _ _ (h.syms _ hm)) λc aa=>Tot.bk (λ_=>.ag rfl) (λaf=>.ag ⟨?_,aa (by simpa using af)⟩);have:=h.n;rw [cm]; omega
  ·rcases x with _ | r
   ·exact .ag λ_=>j
   ·exact .ag λh=>by have:r=false:=j; rw [this] at h; cases h
theorem t117 (a:Alt) (h:yp a):Tot (xO a) λr=>r=true->(∀ p∈a.Parts,lL p.Sym)/\lL a.Prec:=by
 unfold xO;refine Tot.ar (Tot.scan a.Parts (λp=>lL p.Sym) (λr=>r=false) (by have:=h.n; omega) (λs y aO h1 hi hm=>?_) (λs ay=>by simp [ay])) λx j=>?_
 ·refine Tot.ba (λ_=>?_) (λh=>absurd h1 h);rw [hi];refine Tot.sm ?_;have au:=h.parts _ hm;have t1:=t121 y.Sym false true au.1;have t2:=t122 y.Sym;have Qj:=t73 y.Code (Nat.le_trans au.2 (by decide));have hw:aG (s+1)=s+1:=by have:=h.n; rw [cm]; omega
  rw [hw];have n118:(y.Sym.Name=⟨#[]⟩/\y.Sym.Lit=false)->lL y.Sym:=λh aj=>by rw [h.2] at aj; cases aj
  refine Tot.ar (Ξ:=λc=>c=false->lL y.Sym) ?_ λc aa=>Tot.bk (λ_=>.ag rfl) (λaf=>.ag ⟨rfl,aa af⟩);refine Tot.ba (λ_=>?_) (λcA=>?_)
  ·refine .ar t1 λc aa=>Tot.bk (λ_=>.ag λh=>by cases h) (λaf=>?_);have cX:=aa (by simpa using af);refine Tot.bk (λ_=>?_) (λ_=>.ag λ_=>cX);refine .ar t2 λc _=>Tot.bk (λ_=>.ag λ_=>cX) (λ_=>?_);exact .ar Qj λ_ _=>.ag λ_=>cX
  ·refine Tot.kZ (λ_=>?_) (λh=>.ag λ_=>?_)
   ·refine .ar t2 λc aa=>Tot.bk (λ_=>.ag λh=>by cases h) (λaf=>?_);have cX:=n118 (aa (by simpa using af));exact .ar Qj λ_ _=>.ag λ_=>cX
   ·exact absurd h cA
 ·rcases x with _ | r
  ·have j:∀ p∈a.Parts,lL p.Sym:=j;refine Tot.ar (Ξ:=λc=>c=true->lL a.Prec) ?_ λc aa=>.ag λh=>⟨j,aa h⟩;refine .ar (t122 _) λc aa=>Tot.bk (λaf=>.ag λ_=>?_) (λ_=>.ar (t121 _ _ _ h.prec) λc aa=>.ag aa);intro aj; rw [(aa af).2] at aj; cases aj
  ·exact .ag λh=>by have:r=false:=j; rw [this] at h; cases h
structure Dy (a:Alt):Prop where
 parts:∀ p∈a.Parts,lL p.Sym
 prec:lL a.Prec
structure Lm (s:Source):Prop where
 decls:∀ d∈s.Decls,∀ x∈d.eL,lL x
 rules:∀ r∈s.dH,∀ a∈r.fr,Dy a
 pos:0<s.dH.length
theorem t99 (s:Source) (h:oo s):Tot (pG s) λr=>r=true->Lm s:=by
 unfold pG;refine Tot.ar (Ξ:=gK (λ_=>True) (λr=>r=false)) ?_ λx j=>?_
 ·have au:(s.b8.size:Int)<=1000000000000:=by have:=h.x0; simp only [dp] at this; omega
  refine Tot.count (λJ=>J) s.b8.size (λJ=>0<=J/\J<=s.b8.size) ⟨by omega,by omega⟩ (by show (s.b8.size:Int) - 0<_; omega) λJ ai=>?_;have cr:aG (J+1)=J+1:=by rw [cm]; omega
  have b9:aG (J+2)=J+2:=by rw [cm]; omega
  rw [cr,b9];refine Tot.ba (λaf=>?_) (λ_=>.ag trivial);refine .ar (Ξ:=λ_=>True) (Tot.cut (by omega) trivial) λ_ _=>Tot.bk (λ_=>.ag rfl) (λ_=>.ag ?_);show ((0:Int)<=J+1/\J+1<=s.b8.size)/\J<J+1/\J+1<=s.b8.size; omega
 ·rcases x with _ | r
  ·refine Tot.ar (Tot.scan s.Decls (λd=>∀ x∈d.eL,lL x) (λr=>r=false) (by have:=h.wR; omega) (λi y aO h1 hi hm=>?_) (λs ay=>by simp [ay])) λx j=>?_
   ·refine Tot.ba (λ_=>?_) (λh=>absurd h1 h);rw [hi];refine Tot.sm ?_;refine .ar (t115 _ (h.decls _ hm)) λc aa=>Tot.bk (λ_=>.ag rfl) (λaf=>.ag ⟨?_,aa (by simpa using af)⟩);have:=h.wR;rw [cm]; omega
   ·rcases x with _ | r
    ·have j:∀ d∈s.Decls,∀ x∈d.eL,lL x:=j;refine Tot.ar (Tot.scan s.dH (λr=>∀ a∈r.fr,Dy a) (λr=>r=false) (by have:=h.aL; omega) (λi y aO h1 hi hm=>?_) (λs ay=>by simp [ay])) λx kc=>?_
     ·refine Tot.ba (λ_=>?_) (λh=>absurd h1 h);rw [hi];refine Tot.sm ?_;have ah:=h.rules _ hm;have hw:aG (i+1)=i+1:=by have:=h.aL; rw [cm]; omega
      rw [hw];refine .ar (Ξ:=λ_=>True) (.ar (t116 _ ah.left) λc _=>Tot.bk (λ_=>.ag trivial) (λ_=>.ag trivial)) λc _=>Tot.bk (λ_=>.ag rfl) (λ_=>?_);refine Tot.ar (Tot.scan y.fr Dy (λr=>r=false) (by have:=ah.n; omega) (λk a aO h1 hi hm=>?_) (λs ay=>by simp [ay])) λx jP=>?_
      ·refine Tot.ba (λ_=>?_) (λh=>absurd h1 h);rw [hi];refine Tot.sm ?_;refine .ar (t117 _ (ah.alts _ hm)) λc aa=>Tot.bk (λ_=>.ag rfl) (λaf=>.ag ⟨?_,⟨(aa (by simpa using af)).1,(aa (by simpa using af)).2⟩⟩);have:=ah.n;rw [cm]; omega
      ·rcases x with _ | r
       ·exact .ag ⟨rfl,jP⟩
       ·exact .ag jP
     ·rcases x with _ | r
      ·exact .ag λh=>⟨j,kc,by have:=of_decide_eq_true h; omega⟩
      ·exact .ag λh=>by have:r=false:=kc; rw [this] at h; cases h
    ·exact .ag λh=>by have:r=false:=j; rw [this] at h; cases h
  ·exact .ag λh=>by have:r=false:=j; rw [this] at h; cases h
abbrev ei:=dd
structure qK (m bh:ei):Prop where
 g:bh.aD=m.aD
 gf:bh.cd=m.cd
 ty:bh.cv=m.cv
 fa:bh.b0=m.b0
 jU:bh.ca=m.ca
 hl:bh.bV=m.bV
theorem t101 (m:ei) (a:Int) (n:ByteArray):Tot (nG m a n) λbh=>qK m bh/\bh.cN≠0:=by
 unfold nG;apply Tot.bi;refine Tot.ba (λ_=>.ag (.ag ⟨⟨rfl,rfl,rfl,rfl,rfl,rfl⟩,?_⟩)) (λh=>.ag (.ag ⟨⟨rfl,rfl,rfl,rfl,rfl,rfl⟩,h⟩))
 grind
theorem t105 (m:ei) (n:ByteArray) (h:m.cv.length<=dp):Tot (zK m n) λr=>r=-1\/(0<=r/\r<m.cv.length):=by
 unfold zK;simp only [dp] at h;refine Tot.ar (Tot.scan m.cv (λ_=>True) (λr:Int=>0<=r/\r<m.cv.length) (by omega) (λs y aO h1 hi hm=>?_) (λs ay=>by simp [ay])) λx j=>?_
 ·refine Tot.ba (λ_=>?_) (λh=>absurd h1 h);rw [hi];refine Tot.sm ?_;refine Tot.bk (λ_=>.ag ⟨aO,h1⟩) (λ_=>.ag ⟨?_,trivial⟩)
  grind [cm]
 ·rcases x with _ | r
  ·exact .ag (.inl rfl)
  ·exact .ag (.inr j)
theorem t103 (m:ei) (n:ByteArray) (h:m.b0.length<=dp):Tot (s0 m n) λr=>(r=-1/\∀ x∈m.b0,x≠n)\/(0<=r/\r<m.b0.length/\m.b0[r.toNat]?=some n):=by
 unfold s0;simp only [dp] at h;refine Tot.ar (Tot.scan m.b0 (λx=>x≠n) (λr:Int=>0<=r/\r<m.b0.length/\m.b0[r.toNat]?=some n) (by omega) (λs y aO h1 hi hm=>?_) (λs ay=>by simp [ay])) λx j=>?_
 ·refine Tot.ba (λ_=>?_) (λh=>absurd h1 h);rw [hi];refine Tot.sm ?_;refine Tot.ba (λe=>.ag ⟨aO,h1,by rw [<- e]; exact (r4 hi).2.2⟩) (λe=>.ag ⟨?_,e⟩)
  grind [cm]
 ·rcases x with _ | r
  ·exact .ag (.inl ⟨rfl,j⟩)
  ·exact .ag (.inr j)
theorem t102 (m:ei) (x:Sym) (h:m.aD.a1.length<=dp):Tot (uC m x) λr=>r=-1\/(1<=r/\r<m.aD.a1.length):=by
 unfold uC;simp only [dp] at h;refine Tot.ar (Ξ:=gK (λ_=>True) (λr=>1<=r/\r<m.aD.a1.length)) ?_ λx j=>?_
 ·refine Tot.count (λJ=>J) m.aD.a1.length (λJ=>1<=J) (by omega) (by show (m.aD.a1.length:Int) - 1<_; omega) λJ ai=>?_;refine Tot.ba (λaf=>?_) (λ_=>.ag trivial);have e:aG (J+1)=J+1:=by rw [cm]; omega
  rw [e];refine .ar (Ξ:=λ_=>True) ?_ λc _=>Tot.bk (λ_=>.ag ⟨ai,af⟩) (λ_=>.ag ?_)
  ·refine .ar (Ξ:=λ_=>True) (Tot.gh (by omega) af λ_ _ _=>trivial) λ_ _=>Tot.bk (λ_=>?_) (λ_=>.ag trivial);exact .ar (Ξ:=λ_=>True) (Tot.gh (by omega) af λ_ _ _=>trivial) λ_ _=>Tot.bk (λ_=>.ag trivial) (λ_=>.ag trivial)
  grind
 ·rcases x with _ | r
  ·exact .ag (.inl rfl)
  ·exact .ag (.inr j)
theorem t119 (m:ei) (n:Int) (h:m.aD.a1.length<=dp):Tot (vR m n) λ_=>True:=by
 unfold vR;simp only [dp] at h;refine Tot.ar (Ξ:=λ_=>True) ?_ λx j=>?_
 ·refine Tot.count (λJ=>J) m.aD.a1.length (λJ=>1<=J) (by decide) (by show (m.aD.a1.length:Int) - 3<_; omega) λJ ai=>?_;refine Tot.ba (λaf=>?_) (λ_=>.ag trivial);have e:aG (J+1)=J+1:=by rw [cm]; omega
  rw [e];refine .ar (Ξ:=λ_=>True) (Tot.gh (by omega) af λ_ _ _=>trivial) λc _=>Tot.bk (λ_=>.ag trivial) (λ_=>.ag ?_)
  grind
 ·rcases x with _ | r <;> exact .ag trivial
structure Grow (m bh:ei) (k:Nat):Prop where
 gf:bh.cd.length=bh.aD.a1.length
 lo:m.aD.a1.length<=bh.aD.a1.length
 hi:bh.aD.a1.length<=m.aD.a1.length+k
 ty:bh.cv.length<=m.cv.length+k
 fa:bh.b0=m.b0
 gj:bh.aD.bd=m.aD.bd
 hl:bh.bV=m.bV
 lvl:bh.ca=m.ca
 jU:0<=m.ca->(∀ t∈m.aD.a1,0<=t.Level)->∀ t∈bh.aD.a1,0<=t.Level
theorem qK.grow {m bh:ei}(h:qK m bh) (aN:m.cd.length=m.aD.a1.length) (k:Nat):Grow m bh k:=by
 obtain ⟨h1,af,aJ,bx,cu,dL⟩:=h;exact ⟨by rw [h1,af]; exact aN,by rw [h1]; omega,by rw [h1]; omega,by rw [aJ]; omega,bx,by rw [h1],dL,cu,by rw [h1]; exact λ_ h=>h⟩
theorem t118 (m:ei) (x:Sym) (aN:m.cd.length=m.aD.a1.length) (h:m.aD.a1.length<=100000000000) (j:lL x) :
  Tot (s4 m x) λr=>Grow m r.2 1/\0<=r.1/\r.1<r.2.aD.a1.length:=by
 unfold s4;refine .ar (t102 m x (by simp only [dp]; omega)) λt aq=>Tot.ba (λaO=>.ag ⟨⟨aN,Nat.le_refl _,Nat.le_succ _,Nat.le_succ _,rfl,rfl,rfl,rfl,λ_ h=>h⟩,aO,?_⟩) (λ_=>?_)
 ·grind
 ·refine Tot.ar (Ξ:=λJ=>qK m J.1) ?_ λJ ai=>?_
  ·refine Tot.bk (λaj=>?_) (λ_=>.ag ⟨rfl,rfl,rfl,rfl,rfl,rfl⟩);have:=j aj;refine .ar (Ξ:=λ_=>True) (Tot.jg (by omega) trivial) λb _=>.ar (t119 m _ (by simp only [dp]; omega)) λo _=>?_;refine Tot.ar (Ξ:=λJ=>qK m J) ?_ λJ ai=>.ag ai;exact Tot.bk (λ_=>.ar (t101 m _ _) λbh hm=>.ag hm.1) (λ_=>.ag ⟨rfl,rfl,rfl,rfl,rfl,rfl⟩)
  ·obtain ⟨h1,af,aJ,bx,cu,dL⟩:=ai;have aT:J.1.aD.a1.length=m.aD.a1.length:=by rw [h1]
   have VW:J.1.cd.length=m.cd.length:=by rw [af]
   refine .ar (Ξ:=λ_=>True) (Tot.ap (by rw [aT]; simp [lim]; omega) trivial) λ_ _=>.ar (Ξ:=λ_=>True) (Tot.ap (by rw [VW]; simp [lim]; omega) trivial) λ_ _=>.ag ?_;refine ⟨⟨?_,?_,?_,?_,bx,by show J.1.aD.bd=_; rw [h1],dL,cu,?_⟩,?_,?_⟩
   all_goals grind [cm]
structure nN (m bh:ei):Prop where
 tk:bh.aD.a1.length=m.aD.a1.length
 gf:bh.cd.length=m.cd.length
 ty:bh.cv=m.cv
 fa:bh.b0=m.b0
 gj:bh.aD.bd=m.aD.bd
 hl:bh.bV=m.bV
 lvl:bh.ca=m.ca
 jU:0<=m.ca->(∀ t∈m.aD.a1,0<=t.Level)->∀ t∈bh.aD.a1,0<=t.Level
theorem nN.refl (m:ei):nN m m:=⟨rfl,rfl,rfl,rfl,rfl,rfl,rfl,λ_ h=>h⟩
theorem nN.trans {m bh Cm:ei}(h:nN m bh) (aI:nN bh Cm):nN m Cm:=⟨aI.tk.trans h.tk,aI.gf.trans h.gf,aI.ty.trans h.ty,aI.fa.trans h.fa,aI.gj.trans h.gj,aI.hl.trans h.hl,aI.lvl.trans h.lvl,λaO aj=>aI.jU (by rw [h.lvl]; exact aO) (h.jU aO aj)⟩
theorem qK.tk {m bh:ei}(h:qK m bh):nN m bh:=⟨by rw [h.g],by rw [h.gf],h.ty,h.fa,by rw [h.g],h.hl,h.jU,by rw [h.g]; exact λ_ h=>h⟩
theorem Grow.tk {m bh Cm:ei}{k:Nat}(h:Grow m bh k) (aI:nN bh Cm):Grow m Cm k :=
 ⟨by rw [aI.gf,aI.tk]; exact h.gf,by rw [aI.tk]; exact h.lo,by rw [aI.tk]; exact h.hi,by rw [aI.ty]; exact h.ty,aI.fa.trans h.fa,aI.gj.trans h.gj,aI.hl.trans h.hl,aI.lvl.trans h.lvl,λaO aj=>aI.jU (by rw [h.lvl]; exact aO) (h.jU aO aj)⟩
theorem OF {α:Type}{l:List α}{i:Nat}{x y:α}(h:y∈l.set i x):y∈l\/y=x:=List.mem_or_eq_of_mem_set h
theorem t100 (m:ei) (d:Decl) (x:Sym) (aN:m.cd.length=m.aD.a1.length) (h:m.aD.a1.length<=100000000000) (aq:m.cv.length<=100000000000) (j:lL x) :
  Tot (sZ m d x) λbh=>Grow m bh 1:=by
 unfold sZ;refine Tot.bk (λ_=>?_) (λ_=>?_)
 ·refine .ar (t105 m x.Name (by simp only [dp]; omega)) λk hk=>Tot.ar (Ξ:=λbh=>Grow m bh 1) ?_ λbh hm=>.ag hm;refine Tot.ba (λ_=>?_) (λaO=>?_)
  ·refine .ar (Ξ:=λ_=>True) (Tot.ap (by simp [lim]; omega) trivial) λ_ _=>.ag ⟨aN,Nat.le_refl _,Nat.le_succ _,?_,rfl,rfl,rfl,rfl,λ_ h=>h⟩
   grind
  ·refine .ar (Ξ:=λ_=>True) (Tot.gh (by omega) (by omega) λ_ _ _=>trivial) λ_ _=>Tot.ar (Ξ:=λbh=>Grow m bh 1) ?_ λbh hm=>.ag hm;exact Tot.bk (λ_=>.ar (t101 m _ _) λbh hm=>.ag (hm.1.grow aN 1)) (λ_=>.ag ⟨aN,Nat.le_refl _,Nat.le_succ _,Nat.le_succ _,rfl,rfl,rfl,rfl,λ_ h=>h⟩)
 ·refine .ar (t118 m x aN h j) λr ⟨ah,aO,h1⟩=>?_;have gh:∀ {bh:ei},nN r.2 bh->Tot (idx bh.aD.a1 r.1) λy=>y∈bh.aD.a1:=λhm=>Tot.gh aO (by rw [hm.tk]; exact h1) λ_ _ h=>h;have On:∀ {bh:ei},nN r.2 bh->Tot (idx bh.cd r.1) λ_=>True:=λhm=>Tot.gh aO (by rw [hm.gf,ah.gf]; exact h1) λ_ _ _=>trivial;refine .ar (gh (.refl _)) λy _=>?_;refine Tot.ar (Ξ:=λbh=>nN r.2 bh) ?_ λez jj=>?_
  ·refine Tot.bk (λ_=>?_) (λ_=>.ag (.refl _));refine Tot.ar (Ξ:=λbh=>nN r.2 bh) ?_ λc0 p2=>?_
   ·exact Tot.bk (λ_=>.ar (t101 r.2 _ _) λbh hm=>.ag ⟨rfl,hm.1.tk.gf,hm.1.tk.ty,hm.1.tk.fa,hm.1.tk.gj,hm.1.tk.hl,hm.1.tk.lvl,λ_ h=>h⟩) (λ_=>.ag (.refl _))
   ·refine .ar (gh p2) λ_ _=>.ag (p2.trans ⟨?_,rfl,rfl,rfl,rfl,rfl,rfl,λaj aq t bG=>?_⟩)
    ·grind
    grind
  ·refine .ar (gh jj) λ_ _=>?_;refine Tot.ar (Ξ:=λbh=>nN r.2 bh) ?_ λeN p3=>?_
   ·refine Tot.bk (λ_=>?_) (λ_=>.ag jj);refine .ar (Ξ:=λ_=>True) ?_ λc _=>?_
    ·refine Tot.bk (λ_=>.ag trivial) (λ_=>.ar (On jj) λ_ _=>Tot.bk (λ_=>.ag trivial) (λ_=>.ar (t119 ez _ ?_) λ_ _=>.ag trivial));have:=jj.tk;have:=ah.hi
     grind
    ·refine Tot.ar (Ξ:=λbh=>nN r.2 bh) ?_ λdN oz=>?_
     ·exact Tot.bk (λ_=>.ar (t101 ez _ _) λbh hm=>.ag (jj.trans ⟨rfl,hm.1.tk.gf,hm.1.tk.ty,hm.1.tk.fa,hm.1.tk.gj,hm.1.tk.hl,hm.1.tk.lvl,λ_ h=>h⟩)) (λ_=>.ag jj)
     ·refine .ar (gh oz) λy al=>.ar (On oz) λ_ _=>.ag (oz.trans ⟨?_,?_,rfl,rfl,rfl,rfl,rfl,λaj aq t bG=>?_⟩)
      all_goals grind
   ·refine .ar (gh p3) λ_ _=>?_;refine Tot.ar (Ξ:=λbh=>nN r.2 bh) ?_ λpx Bc=>.ag (ah.tk Bc);refine Tot.bk (λ_=>?_) (λ_=>.ag p3);refine .ar (Ξ:=λ_=>True) (Tot.bk (λ_=>.ag trivial) (λ_=>.ag trivial)) λc _=>?_;refine Tot.ar (Ξ:=λbh=>nN r.2 bh) ?_ λmu sA=>?_
    ·exact Tot.bk (λ_=>.ar (t101 eN _ _) λbh hm=>.ag (p3.trans ⟨rfl,hm.1.tk.gf,hm.1.tk.ty,hm.1.tk.fa,hm.1.tk.gj,hm.1.tk.hl,hm.1.tk.lvl,λ_ h=>h⟩)) (λ_=>.ag p3)
    ·refine .ar (gh sA) λy al=>.ag (sA.trans ⟨?_,rfl,rfl,rfl,rfl,rfl,rfl,λaj aq t bG=>?_⟩)
     ·grind
     grind
def nM (T:Nat) (N:Int) (s:Int):Prop:=(0<=s/\s<T)\/(1000<=s/\s<=1000+N)
theorem nM.mono {T T':Nat}{N iR s:Int}(h:nM T N s) (dk:T<=T') (a_:N<=iR):nM T' iR s:=by
 rcases h with h | h
 ·exact .inl (by omega)
 ·exact .inr (by omega)
theorem t120 (m:ei) (x:Sym) (aN:m.cd.length=m.aD.a1.length) (aJ:3<=m.aD.a1.length) (h:m.aD.a1.length<=100000000000) (aj:m.b0.length<=100000000000) (j:lL x) :
  Tot (q4 m x) λr=>Grow m r.2 1/\nM r.2.aD.a1.length m.b0.length r.1:=by
 unfold q4;have nX:Grow m m 1:=⟨aN,Nat.le_refl _,Nat.le_succ _,Nat.le_succ _,rfl,rfl,rfl,rfl,λ_ h=>h⟩;refine Tot.bk (λ_=>?_) (λ_=>?_)
 ·exact .ar (t118 m x aN h j) λr ⟨ah,aO,h1⟩=>.ag ⟨ah,.inl ⟨aO,h1⟩⟩
 ·refine .ar (t103 m x.Name (by simp only [dp]; omega)) λk hk=>Tot.ba (λaO=>.ag ⟨nX,.inr ?_⟩) (λ_=>?_)
  ·grind [cm]
  ·refine .ar (t102 m x (by simp only [dp]; omega)) λt aq=>Tot.ba (λ_=>?_) (λaO=>.ag ⟨nX,.inl ?_⟩)
   ·refine .ar (t101 m _ _) λbh hm=>.ag ⟨hm.1.grow aN 1,.inl ⟨Int.le_refl 0,?_⟩⟩;show (0:Int)<(bh.aD.a1.length:Int);rw [hm.1.g];omega
   grind
theorem ZK (m:ei) (x:Sym) (aN:m.cd.length=m.aD.a1.length) (aJ:3<=m.aD.a1.length) (h:m.aD.a1.length<=100000000000) (aj:m.b0.length<=100000000000) (j:lL x) (aq:x.Lit=true\/∀ y∈m.b0,y≠x.Name) :
  Tot (q4 m x) λr=>Grow m r.2 1/\0<=r.1/\r.1<r.2.aD.a1.length:=by
 unfold q4;have nX:Grow m m 1:=⟨aN,Nat.le_refl _,Nat.le_succ _,Nat.le_succ _,rfl,rfl,rfl,rfl,λ_ h=>h⟩;refine Tot.bk (λ_=>?_) (λnY=>?_)
 ·exact .ar (t118 m x aN h j) λr ⟨ah,aO,h1⟩=>.ag ⟨ah,aO,h1⟩
 ·have aq:∀ y∈m.b0,y≠x.Name:=aq.resolve_left (by rw [nY]; decide);refine .ar (t103 m x.Name (by simp only [dp]; omega)) λk hk=>Tot.ba (λaO=>?_) (λ_=>?_)
  ·rcases hk with ⟨rfl,_⟩ | ⟨h1,af,aJ⟩
   ·exact absurd aO (by decide)
   ·exact absurd rfl (aq _ (List.mem_of_getElem? aJ))
  ·refine .ar (t102 m x (by simp only [dp]; omega)) λt aq=>Tot.ba (λ_=>?_) (λaO=>.ag ⟨nX,?_⟩)
   ·refine .ar (t101 m _ _) λbh hm=>.ag ⟨hm.1.grow aN 1,Int.le_refl 0,?_⟩;show (0:Int)<(bh.aD.a1.length:Int);rw [hm.1.g]; omega
   ·show 0<=t/\t<(m.aD.a1.length:Int);rcases aq with aq | aq <;> omega
structure AD (T:Nat) (N:Int) (p:Prod):Prop where
 left:0<=p.Left/\p.Left<=N
 right:∀ s∈p.e2,nM T N s
 prec:-1<=p.Prec/\p.Prec<T
 args:∀ s∈p.rp,nM T N s
 code:p.Code.size<=1000
theorem AD.mono {T T':Nat}{N iR:Int}{p:Prod}(h:AD T N p) (dk:T<=T') (a_:N<=iR):AD T' iR p :=
 ⟨⟨h.left.1,by have:=h.left.2; omega⟩,λs ay=>(h.right s ay).mono dk a_,⟨h.prec.1,by have:=h.prec.2; omega⟩,λs ay=>(h.args s ay).mono dk a_,h.code⟩
structure kU (m:ei) (T L I Q:Nat):Prop where
 gf:m.cd.length=m.aD.a1.length
 lo:3<=m.aD.a1.length
 hi:m.aD.a1.length<=T
 ty:m.cv.length<=T
 fa:m.b0.length=L
 hl:0<=m.bV/\m.bV<=I
 z6:m.aD.bd.length<=Q
 gj:∀ p∈m.aD.bd,AD m.aD.a1.length (L+m.bV) p
 lvl:0<=m.ca
 jU:∀ t∈m.aD.a1,0<=t.Level
theorem kU.mono {m:ei}{T L I Q T' I' Lj:Nat}(h:kU m T L I Q) (dk:T<=T') (bb:I<=I') (dA:Q<=Lj):kU m T' L I' Lj :=
 ⟨h.gf,h.lo,by have:=h.hi; omega,by have:=h.ty; omega,h.fa,⟨h.hl.1,by have:=h.hl.2; omega⟩,by have:=h.z6; omega,h.gj,h.lvl,h.jU⟩
theorem kU.grow {m bh:ei}{T L I Q k:Nat}(h:kU m T L I Q) (g:Grow m bh k):kU bh (T+k) L I Q :=
 ⟨g.gf,by have:=h.lo; have:=g.lo; omega,by have:=h.hi; have:=g.hi; omega,by have:=h.ty; have:=g.ty; omega,by rw [g.fa]; exact h.fa,by rw [g.hl]; exact h.hl,by rw [g.gj]; exact h.z6,
  by rw [g.gj,g.hl]; exact λp au=>(h.gj p au).mono g.lo (by omega),by rw [g.lvl]; exact h.lvl,g.jU h.lvl h.jU⟩
theorem t104 (m:ei) (left:ByteArray) (a:Alt) {T L I Q:Nat}(hm:kU m T L I Q) (dk:T<=10000000000) (iy:L<=10000000000) (bb:I<=10000000000) (dA:Q<=10000000000) (av:yp a) (cX:Dy a) :
  Tot (s3 m left a) λbh=>kU bh (T+1001) L (I+1000) (Q+1001)/\1<=bh.aD.bd.length:=by
 unfold s3;have aA:=av.n;refine .ar (t103 m left (by rw [hm.fa]; simp only [dp]; omega)) λa6 jO=>?_;have adf:-1<=a6/\a6<L:=by rw [<- hm.fa]; rcases jO with h | h <;> omega
 refine Tot.ar (Ξ:=λaX=>kU aX.1 (T+1000) L (I+1000) (Q+1000)/\(∀ s∈aX.2.1,nM aX.1.aD.a1.length (L+aX.1.bV) s)/\aX.2.1.length<=1000/\aX.2.2.1.size<=1000) ?_ λaX jP=>?_
 ·refine Tot.count (λs=>s.2.2.2.2) a.Parts.length (λs=>0<=s.2.2.2.2/\s.2.2.2.2<=a.Parts.length/\kU s.1 (T+s.2.2.2.2.toNat) L (I+s.2.2.2.2.toNat) (Q+s.2.2.2.2.toNat)/\(∀ y∈s.2.1,nM s.1.aD.a1.length (L+s.1.bV) y)/\s.2.1.length<=s.2.2.2.2.toNat/\s.2.2.1.size<=1000) ⟨by show (0:Int)<=0; omega,by show (0:Int)<=_; omega,hm,by simp,Nat.le_refl 0,Nat.zero_le _⟩ (by show (a.Parts.length:Int) - 0<_; omega) λs ay=>?_;obtain ⟨m1,rt,bk,at_,i⟩:=s;obtain ⟨aO,h1,ai,ah,aj,zf⟩:=ay;simp only at aO h1 ai ah aj zf ⊢;have hw:aG (i+1)=i+1:=by rw [cm]; omega
  have cr:(i+1).toNat=i.toNat+1:=by omega
  refine Tot.ba (λaT=>?_) (λ_=>.ag ⟨ai.mono (by omega) (by omega) (by omega),ah,by show rt.length<=1000; omega,zf⟩);refine Tot.ar (Ξ:=λJ=>kU J.1 (T+(i.toNat+1)) L (I+(i.toNat+1)) (Q+(i.toNat+1))/\(∀ y∈J.2.1,nM J.1.aD.a1.length (L+J.1.bV) y)/\J.2.1.length<=i.toNat+1/\J.2.2.1.size<=1000) ?_ λJ Ey=>?_
  ·refine Tot.ar (Tot.gh (Φ:=λy=>y∈a.Parts) aO aT λy _ al=>al) λy al=>?_;refine Tot.ar (Ξ:=λJ=>kU J.1 (T+(i.toNat+1)) L (I+(i.toNat+1)) (Q+(i.toNat+1))/\(∀ y∈J.2.1,nM J.1.aD.a1.length (L+J.1.bV) y)/\J.2.1.length<=i.toNat+1/\J.2.2.1.size<=1000) ?_ λJ Iu=>.ag Iu;refine Tot.ar (Ξ:=λJ=>kU J.1 (T+(i.toNat+1)) L (I+(i.toNat+1)) (Q+(i.toNat+1))/\(∀ y∈J.2.1,nM J.1.aD.a1.length (L+J.1.bV) y)/\J.2.1.length<=i.toNat+1/\J.2.2.1.size<=1000) ?_ λJ Iu=>.ag Iu;refine Tot.bk (λ_=>?_) (λ_=>?_)
   ·have bG:=ai.hi;refine .ar (t120 m1 y.Sym ai.gf ai.lo (by omega) (by rw [ai.fa]; omega) (cX.parts y al)) λr ⟨aN,N0⟩=>?_;refine .ar (Ξ:=λ_=>True) (Tot.ap (by simp [lim]; omega) trivial) λ_ _=>.ag ⟨(ai.grow aN).mono (by omega) (by omega) (by omega),λz aW=>?_,by simp; omega,zf⟩;rcases List.mem_append.1 aW with aW | aW
    ·exact (ah z aW).mono aN.lo (by show (L:Int)+m1.bV<=L+r.2.bV; rw [aN.hl]; omega)
    ·rw [List.mem_singleton.1 aW];rw [ai.fa] at N0;exact N0.mono (Nat.le_refl _) (by show (L:Int)<=L+r.2.bV; rw [aN.hl]; have:=ai.hl.1; omega)
   ·refine Tot.ar (Ξ:=λJ=>kU (⟨(⟨m1.aD.a1,m1.aD.bY,J.1,m1.aD.b8,m1.aD.cf⟩:bt),m1.cd,m1.cv,m1.b0,m1.cN,m1.c',m1.c9,m1.ca,J.2.1⟩:dd) (T+(i.toNat+1)) L (I+(i.toNat+1)) (Q+(i.toNat+1))/\(∀ y∈J.2.2.1,nM m1.aD.a1.length (L+J.2.1) y)/\J.2.2.1.length<=i.toNat+1/\J.2.2.2.1.size<=1000) ?_ λJ VN=>.ag VN;refine Tot.bk (λ_=>.ag ⟨⟨ai.gf,ai.lo,by have:=ai.hi; show m1.aD.a1.length<=_; omega,by have:=ai.ty; show m1.cv.length<=_; omega,ai.fa,⟨ai.hl.1,by have:=ai.hl.2; show m1.bV<=_; omega⟩,by have:=ai.z6; show m1.aD.bd.length<=_; omega,ai.gj,ai.lvl,ai.jU⟩,ah,by show rt.length<=_; omega,(av.parts y al).2⟩) (λ_=>?_);have Ew:=ai.hl;have vm:=ai.fa;have xf:=ai.z6;have gH:aG (m1.bV+1)=m1.bV+1:=by rw [cm]; omega
    have fp:aG (((m1.b0.length:Int))+(m1.bV+1))=L+(m1.bV+1):=by rw [cm,vm]; omega
    have wj:aG (1000+(m1.b0.length:Int))=1000+L:=by rw [cm,vm]; omega
    have wk:aG (1000+(L:Int)+(m1.bV+1))=1000+(L:Int)+(m1.bV+1):=by rw [cm]; omega
    rw [gH,fp,wj,wk];refine .ar (Ξ:=λ_=>True) (Tot.ap (by simp [lim]; omega) trivial) λ_ _=>.ar (Ξ:=λ_=>True) (Tot.ap (by simp [lim]; omega) trivial) λ_ _=>.ar (Ξ:=λ_=>True) (Tot.ap (by simp [lim]; omega) trivial) λ_ _=>.ag ⟨⟨ai.gf,ai.lo,?_,?_,ai.fa,?_,?_,?_,ai.lvl,ai.jU⟩,?_,?_,zf⟩
    ·have:=ai.hi; show m1.aD.a1.length<=_; omega
    ·have:=ai.ty; show m1.cv.length<=_; omega
    ·show 0<=m1.bV+1/\m1.bV+1<=((I+(i.toNat+1):Nat):Int); omega
    ·show (m1.aD.bd++[_]).length<=_; simp; omega
    ·intro p au;rcases List.mem_append.1 au with au | au
     ·exact (ai.gj p au).mono (Nat.le_refl _) (by show (L:Int)+m1.bV<=L+(m1.bV+1); omega)
     ·rw [List.mem_singleton.1 au];refine ⟨?_,by simp,?_,λz aW=>(ah z (by simpa using aW)).mono (Nat.le_refl _) (by show (L:Int)+m1.bV<=L+(m1.bV+1); omega),(av.parts y al).2⟩
      ·show 0<=(L:Int)+(m1.bV+1)/\(L:Int)+(m1.bV+1)<=L+(m1.bV+1); omega
      ·have:=ai.lo; show (-1:Int)<=-1/\(-1:Int)<(m1.aD.a1.length:Int); omega
    ·intro z aW;rcases List.mem_append.1 aW with aW | aW
     ·exact (ah z aW).mono (Nat.le_refl _) (by show (L:Int)+m1.bV<=L+(m1.bV+1); omega)
     ·rw [List.mem_singleton.1 aW];exact .inr (by show 1000<=1000+(L:Int)+(m1.bV+1)/\1000+(L:Int)+(m1.bV+1)<=1000+((L:Int)+(m1.bV+1)); omega)
    ·show (rt++[_]).length<=_; simp; omega
  ·rw [hw];refine .ag ⟨⟨?_,?_,?_,Ey.2.1,?_,Ey.2.2.2⟩,?_,?_⟩
   ·show (0:Int)<=i+1; omega
   ·show i+1<=(a.Parts.length:Int); omega
   ·show kU J.1 (T+(i+1).toNat) L (I+(i+1).toNat) (Q+(i+1).toNat);rw [cr]; exact Ey.1
   ·show J.2.1.length<=(i+1).toNat;rw [cr]; exact Ey.2.2.1
   ·show i<i+1; omega
   ·show i+1<=(a.Parts.length:Int); omega
 ·obtain ⟨ai,ah,aj,zf⟩:=jP;have lz:=ai.lo;have Ew:=ai.hl;refine Tot.ar (Ξ:=λp=>-1<=p/\p<(aX.1.aD.a1.length:Int)) ?_ λgj zn=>?_
  ·refine Tot.count (λs=>s.2) aX.2.1.length (λs=>0<=s.2/\s.2<=aX.2.1.length/\-1<=s.1/\s.1<(aX.1.aD.a1.length:Int)) ⟨by show (0:Int)<=0; omega,by show (0:Int)<=_; omega,by show (-1:Int)<=-1; omega,by show (-1:Int)<_; omega⟩ (by show (aX.2.1.length:Int) - 0<_; omega) λs ay=>?_;obtain ⟨aO,h1,af,aJ⟩:=ay;have hw:aG (s.2+1)=s.2+1:=by rw [cm]; omega
   rw [hw];refine Tot.ba (λaT=>?_) (λ_=>.ag ⟨af,aJ⟩);refine Tot.ar (Ξ:=λp=>-1<=p/\p<(aX.1.aD.a1.length:Int)) ?_ λp au=>.ag ⟨⟨?_,?_,au.1,au.2⟩,?_,?_⟩
   ·refine .ar (Tot.gh (Φ:=λy=>idx aX.2.1 s.2=some y/\y∈aX.2.1) aO aT λy h1 af=>⟨h1,af⟩) λy al=>?_;refine .ar (Ξ:=λp=>-1<=p/\p<(aX.1.aD.a1.length:Int)) ?_ λp au=>.ag au;refine Tot.ba (λaT=>?_) (λ_=>.ag ⟨af,aJ⟩);rw [al.1];refine Tot.sm (.ag ?_);rcases ah y al.2 with h | h
    ·omega
    ·omega
   ·show (0:Int)<=s.2+1; omega
   ·show s.2+1<=(aX.2.1.length:Int); omega
   ·show s.2<s.2+1; omega
   ·show s.2+1<=(aX.2.1.length:Int); omega
  ·refine Tot.ar (Ξ:=λJ=>Grow aX.1 J.1 1/\-1<=J.2/\J.2<(J.1.aD.a1.length:Int)) ?_ λJ zg=>?_
   ·have nX:Grow aX.1 aX.1 1:=⟨ai.gf,Nat.le_refl _,Nat.le_succ _,Nat.le_succ _,rfl,rfl,rfl,rfl,λ_ h=>h⟩;refine Tot.bk (λ_=>?_) (λ_=>.ag ⟨nX,zn⟩);refine Tot.ar (Ξ:=λc=>c=true->a.Prec.Lit=true\/∀ y∈aX.1.b0,y≠a.Prec.Name) ?_ λc aa=>?_
    ·refine Tot.bk (λh=>.ag λ_=>.inl h) (λ_=>?_);refine .ar (t103 aX.1 a.Prec.Name (by rw [ai.fa]; simp only [dp]; omega)) λk hk=>.ag λaT=>?_;have aT:=of_decide_eq_true aT;rcases hk with ⟨_,h⟩ | h
     ·exact .inr h
     ·omega
    ·refine Tot.ar (Ξ:=λJ=>Grow aX.1 J.1 1/\-1<=J.2/\J.2<(J.1.aD.a1.length:Int)) ?_ λJ ai=>.ag ai;have bG:=ai.hi;refine Tot.bk (λh=>?_) (λ_=>?_)
     ·refine .ar (ZK aX.1 a.Prec ai.gf ai.lo (by omega) (by rw [ai.fa]; omega) cX.prec (aa h)) λr ah=>.ag ⟨ah.1,?_,ah.2.2⟩;have:=ah.2.1; show -1<=r.1; omega
     ·refine .ar (t101 aX.1 _ _) λbh gS=>.ag ⟨gS.1.grow ai.gf 1,by show (-1:Int)<=-1; omega,?_⟩;show (-1:Int)<(bh.aD.a1.length:Int); omega
   ·have gS:=ai.grow zg.1;have xf:=gS.z6;refine .ar (Ξ:=λ_=>True) (Tot.ap (by simp [lim]; omega) trivial) λ_ _=>.ar (Ξ:=λ_=>True) (Tot.ap (by simp [lim]; omega) trivial) λ_ _=>.ag ⟨⟨gS.gf,gS.lo,?_,?_,gS.fa,⟨gS.hl.1,?_⟩,?_,?_,gS.lvl,gS.jU⟩,by simp⟩
    ·have:=gS.hi; show J.1.aD.a1.length<=_; omega
    ·have:=gS.ty; show J.1.cv.length<=_; omega
    ·have:=gS.hl.2; show J.1.bV<=_; omega
    ·show (J.1.aD.bd++[_]).length<=_; simp; omega
    ·intro p au;rcases List.mem_append.1 au with au | au
     ·exact gS.gj p au
     ·rw [List.mem_singleton.1 au];have acT:=gS.hl;refine ⟨?_,λz aW=>?_,zg.2,λz aW=>(ah z (by simpa using aW)).mono zg.1.lo (by show (L:Int)+aX.1.bV<=L+J.1.bV; rw [zg.1.hl]; omega),zf⟩
      ·show 0<=aG (1+a6)/\aG (1+a6)<=(L:Int)+J.1.bV;rw [cm]; omega
      ·exact (ah z aW).mono zg.1.lo (by show (L:Int)+aX.1.bV<=L+J.1.bV; rw [zg.1.hl]; omega)
theorem Ks (l:List Int):(strOfNums l).size=l.length:=strOfNums_size ..
theorem t18 (n:Int) (aO:0<=n) (h1:n<=1000000000000):Tot (qk n) λs=>s.size<=2000000000000:=by
 unfold qk;have hu:IntKind.u64.wrap n=n:=by rw [IntKind.wrap_u64]; omega
 refine Tot.ar (Ξ:=λJ=>J=n) (Tot.ba (λh=>absurd h (by omega)) (λ_=>.ag hu)) λJ ai=>?_;subst ai;refine Tot.ar (Ξ:=λs=>s.size<=1000000000001) ?_ λs ay=>Tot.ba (λh=>absurd h (by omega)) (λ_=>.ag (by omega));refine Tot.loop (λs=>0<=s.1/\s.1+s.2.size<=1000000000000+1/\(s.2.size=0->s.1<=1000000000000)) (λs=>s.1.toNat+(if s.2.size=0 then 1 else 0)) ⟨aO,by show J+((0:Nat):Int)<=_; omega,λ_=>h1⟩ (by show J.toNat+(if (0:Nat)=0 then 1 else 0)<1000000000000000000; simp; omega) λs ay=>?_
 obtain ⟨m,t⟩:=s;obtain ⟨g0,g1,g2⟩:=ay;simp only at g0 g1 g2 ⊢;refine Tot.ar (Ξ:=λc=>c=true->0<m\/t.size=0) ?_ λc aa=>Tot.bk (λlR=>?_) (λ_=>.ag ?_)
 ·refine Tot.ba (λh=>.ag λ_=>.inl h) (λ_=>.ag λh=>.inr ?_);have:=of_decide_eq_true h;rw [this]; rfl
 ·have aa:=aa lR;refine .ar (Ξ:=λx=>x=m.tmod 10) (Tot.pI (by decide) rfl) λx j=>?_;refine .ar (Ξ:=λy=>y.size=t.size+1) (Tot.cat ?_ ?_) λy al=>.ar (Ξ:=λz=>z=m / 10) (Tot.pH (by decide) ?_) λz aW=>.ag ?_
  ·rw [Ks]; simp; omega
  ·rw [ByteArray.size_append,Ks]; simp; omega
  ·rw [Int.tdiv_eq_ediv_of_nonneg g0,IntKind.wrap_u64]; omega
  ·subst aW;refine ⟨⟨?_,?_,?_⟩,?_⟩
   ·show 0<=m / 10; omega
   ·show m / 10+(y.size:Int)<=_; rw [al]; omega
   ·intro h; have h:y.size=0:=h; omega
   ·show (m / 10).toNat+(if y.size=0 then 1 else 0)<m.toNat+(if t.size=0 then 1 else 0);rw [if_neg (by omega)]
    split <;> omega
 ·show t.size<=1000000000001; omega
structure fX (g:bt):Prop where
 kf:3<=g.a1.length/\g.a1.length<=40
 de:1<=g.bY.length/\g.bY.length<=24
 ih:1<=g.bd.length/\g.bd.length<=60
 gj:∀ p∈g.bd,AD g.a1.length (g.bY.length - 1) p
 aL:∀ p∈g.bd,p.e2.length<=8
 jU:∀ t∈g.a1,0<=t.Level
structure iF (m:ei) (T L:Nat):Prop where
 gf:m.cd.length=m.aD.a1.length
 lo:3<=m.aD.a1.length
 hi:m.aD.a1.length<=3+T
 ty:m.cv.length<=T
 fa:m.b0.length<=L
 gj:m.aD.bd=[]
 hl:m.bV=0
 lvl:0<=m.ca
 jU:∀ t∈m.aD.a1,0<=t.Level
theorem iF.mono {m:ei}{T L T' hL:Nat}(h:iF m T L) (dk:T<=T') (iy:L<=hL):iF m T' hL :=
 ⟨h.gf,h.lo,by have:=h.hi; omega,by have:=h.ty; omega,by have:=h.fa; omega,h.gj,h.hl,h.lvl,h.jU⟩
theorem iF.grow {m bh:ei}{T L k:Nat}(h:iF m T L) (g:Grow m bh k):iF bh (T+k) L :=
 ⟨g.gf,by have:=h.lo; have:=g.lo; omega,by have:=h.hi; have:=g.hi; omega,by have:=h.ty; have:=g.ty; omega,by rw [g.fa]; exact h.fa,g.gj.trans h.gj,g.hl.trans h.hl,by rw [g.lvl]; exact h.lvl,g.jU h.lvl h.jU⟩
theorem iF.same {m bh:ei}{T L:Nat}(h:iF m T L) (g:qK m bh):iF bh T L:=by
 have:=h.grow (g.grow h.gf 0);exact this
theorem iF.XN {m:ei}{T L:Nat}(h:iF m T L):kU m (3+T) m.b0.length 0 0 :=
 ⟨h.gf,h.lo,h.hi,by have:=h.ty; omega,rfl,by rw [h.hl]; decide,by rw [h.gj]; exact Nat.le_refl 0,by rw [h.gj]; exact λp au=>absurd au (by simp),h.lvl,h.jU⟩
theorem t81 (s:Source) (av:oo s):Tot (qn s) λr=>r.2.1=0->fX r.1:=by
 unfold qn;refine .ar (t99 s av) λc aa=>Tot.bk (λ_=>.ag λh=>absurd h (by decide)) (λlR=>?_);have ok:Lm s:=aa (by simpa using lR);refine .ar (Tot.mk (by decide) (rfl:List.replicate (3:Int).toNat false=List.replicate (3:Int).toNat false)) λaX jP=>?_;have Vy:=av.wR;have BO:=av.aL
 -- declarations
 refine Tot.ar (Ξ:=λr=>iF r.1 (1001 * 1000) 0) ?_ λbK cu=>?_
 ·refine Tot.count (λz=>z.2.2) s.Decls.length (λz=>0<=z.2.2/\z.2.2<=s.Decls.length/\iF z.1 (1001 * z.2.2.toNat) 0/\z.1.ca<=z.2.2) ⟨Int.le_refl 0,by show (0:Int)<=_; omega,⟨by show aX.length=3; rw [<- jP]; rfl,Nat.le_refl 3,Nat.le_refl 3,Nat.le_refl 0,Nat.le_refl 0,rfl,rfl,Int.le_refl 0,by show ∀ t∈[_,_,_],0<=Tok.Level t; simp⟩,Int.le_refl 0⟩ (by show (s.Decls.length:Int) - 0<_; omega) λz aW=>?_;obtain ⟨m,st,i⟩:=z;obtain ⟨aO,h1,hm,oH⟩:=aW;simp only at aO h1 hm oH ⊢;have hw:aG (i+1)=i+1:=by rw [cm]; omega
  rw [hw];have zj:=hm.lvl;refine Tot.ba (λaT=>?_) (λ_=>.ag (hm.mono (by omega) (Nat.le_refl _)));refine .ar (Tot.gh (Φ:=λy=>y∈s.Decls) aO aT λy _ al=>al) λd aP=>?_;have h6:=av.decls d aP;have Er:=h6.n;refine .ar (Ξ:=λ_=>True) (Tot.bk (λ_=>.ag trivial) (λ_=>.ag trivial)) λhp _=>.ar (Ξ:=λJ=>0<=J/\J<=i+1) (Tot.bk (λ_=>.ag (by rw [cm]; omega)) (λ_=>.ag (by omega))) λi_ Ba=>?_;refine Tot.ar (Ξ:=λr=>iF r.1 (1001 * i.toNat+1000) 0/\r.1.ca<=i+1) ?_ λeP p2=>.ag ⟨⟨?_,?_,?_,?_⟩,?_,?_⟩
  ·refine Tot.count (λz=>z.2.2) d.eL.length (λz=>0<=z.2.2/\z.2.2<=d.eL.length/\iF z.1 (1001 * i.toNat+z.2.2.toNat) 0/\z.1.ca<=i+1) ⟨Int.le_refl 0,by show (0:Int)<=_; omega,⟨hm.gf,hm.lo,hm.hi,hm.ty,hm.fa,hm.gj,hm.hl,Ba.1,hm.jU⟩,Ba.2⟩ (by show (d.eL.length:Int) - 0<_; omega) λz aW=>?_;obtain ⟨m,st,k⟩:=z;obtain ⟨g0,g1,hm,oH⟩:=aW;simp only at g0 g1 hm oH ⊢;have rW:aG (k+1)=k+1:=by rw [cm]; omega
   rw [rW];refine Tot.ba (λuh=>?_) (λ_=>.ag ⟨hm.mono (by omega) (Nat.le_refl _),oH⟩);have E1:Tot (idx d.eL k) λy=>y∈d.eL:=Tot.gh g0 uh λy _ al=>al;refine Tot.ar (Ξ:=λJ=>iF J.1 (1001 * i.toNat+k.toNat+1) 0/\J.1.ca<=i+1) ?_ λJ ai=>.ag ⟨⟨?_,?_,?_,ai.2⟩,?_,?_⟩
   ·refine Tot.bk (λ_=>?_) (λ_=>?_)
    ·refine .ar E1 λx j=>.ar (t100 m d x hm.gf (by have:=hm.hi; omega) (by have:=hm.ty; omega) (ok.decls d aP x j)) λbh aN=>.ag ⟨hm.grow aN,by show bh.ca<=_; rw [aN.lvl]; exact oH⟩
    ·refine Tot.ar (Ξ:=λJ=>iF J (1001 * i.toNat+k.toNat+1) 0/\J.ca<=i+1) ?_ λJ ai=>.ar E1 λ_ _=>.ag ai;refine Tot.bk (λ_=>?_) (λ_=>.ag ⟨hm.mono (by omega) (Nat.le_refl _),oH⟩);exact .ar E1 λ_ _=>.ar E1 λ_ _=>.ar (t101 m _ _) λbh gS=>.ag ⟨(hm.same gS.1).mono (by omega) (Nat.le_refl _),by rw [gS.1.jU]; exact oH⟩
   ·show 0<=k+1; omega
   ·show k+1<=(d.eL.length:Int); omega
   ·show iF J.1 (1001 * i.toNat+(k+1).toNat) 0;exact ai.1.mono (by omega) (Nat.le_refl _)
   ·show k<k+1; omega
   ·show k+1<=(d.eL.length:Int); omega
  ·show 0<=i+1; omega
  ·show i+1<=(s.Decls.length:Int); omega
  ·show iF eP.1 (1001 * (i+1).toNat) 0;exact p2.1.mono (by omega) (Nat.le_refl _)
  ·exact p2.2
  ·show i<i+1; omega
  ·show i+1<=(s.Decls.length:Int); omega
 -- what stands on the left
 refine Tot.ar (Ξ:=λr=>iF r (1001 * 1000) 1000) ?_ λcC Bb=>?_
 ·refine Tot.count (λz=>z.2) s.dH.length (λz=>0<=z.2/\z.2<=s.dH.length/\iF z.1 (1001 * 1000) z.2.toNat) ⟨Int.le_refl 0,by show (0:Int)<=_; omega,cu⟩ (by show (s.dH.length:Int) - 0<_; omega) λz aW=>?_;obtain ⟨m,i⟩:=z;obtain ⟨aO,h1,hm⟩:=aW;simp only at aO h1 hm ⊢;have hw:aG (i+1)=i+1:=by rw [cm]; omega
  rw [hw];refine Tot.ba (λaT=>?_) (λ_=>.ag (hm.mono (Nat.le_refl _) (by omega)));have vj:=hm.hi;have vm:=hm.fa;refine Tot.ar (Ξ:=λJ=>iF J (1001 * 1000) (i.toNat+1)) ?_ λJ ai=>.ag ⟨⟨?_,?_,?_⟩,?_,?_⟩
  ·refine .ar (Tot.gh (Φ:=λ_=>True) aO aT λy _ al=>trivial) λr ah=>.ar (t102 m _ (by simp only [dp]; omega)) λt _=>?_;refine Tot.ar (Ξ:=λJ=>iF J (1001 * 1000) i.toNat) ?_ λiA mc=>?_
   ·exact Tot.bk (λ_=>.ar (t101 m _ _) λbh gS=>.ag (hm.same gS.1)) (λ_=>.ag hm)
   ·have acZ:=mc.fa;refine .ar (t103 iA _ (by simp only [dp]; omega)) λk _=>?_;refine Tot.ar (Ξ:=λl=>l.length<=i.toNat+1) ?_ λl aj=>.ag ⟨mc.gf,mc.lo,mc.hi,mc.ty,aj,mc.gj,mc.hl,mc.lvl,mc.jU⟩;refine Tot.bk (λ_=>?_) (λ_=>.ag (by omega));exact .ar (Ξ:=λ_=>True) (Tot.ap (by simp [lim]; omega) trivial) λ_ _=>.ag (by simp; omega)
  ·show 0<=i+1; omega
  ·show i+1<=(s.dH.length:Int); omega
  ·show iF J (1001 * 1000) (i+1).toNat;exact ai.mono (Nat.le_refl _) (by omega)
  ·show i<i+1; omega
  ·show i+1<=(s.dH.length:Int); omega
 -- types and starts
 refine Tot.ar (Ξ:=λr=>iF r (1001 * 1000) 1000) ?_ λht qP=>?_
 ·refine Tot.count (λz=>z.2) s.Decls.length (λz=>0<=z.2/\z.2<=s.Decls.length/\iF z.1 (1001 * 1000) 1000) ⟨Int.le_refl 0,by show (0:Int)<=_; omega,Bb⟩ (by show (s.Decls.length:Int) - 0<_; omega) λz aW=>?_;obtain ⟨m,i⟩:=z;obtain ⟨aO,h1,hm⟩:=aW;simp only at aO h1 hm ⊢;have hw:aG (i+1)=i+1:=by rw [cm]; omega
  rw [hw];refine Tot.ba (λaT=>?_) (λ_=>.ag hm);refine Tot.ar (Ξ:=λr=>iF r (1001 * 1000) 1000) ?_ λmT TY=>.ag ⟨⟨?_,?_,TY⟩,?_,?_⟩
  ·have k5:i.toNat<s.Decls.length:=by omega
   have hi:idx s.Decls i=some s.Decls[i.toNat]:=by simp [idx,aO,k5]
   rw [hi];generalize aP:s.Decls[i.toNat]=d;have jn:d∈s.Decls:=by rw [<- aP]; exact List.getElem_mem k5
   have Er:=(av.decls d jn).n;refine Tot.count (λz=>z.2) d.eL.length (λz=>0<=z.2/\z.2<=d.eL.length/\iF z.1 (1001 * 1000) 1000) ⟨Int.le_refl 0,by show (0:Int)<=_; omega,hm⟩ (by show (d.eL.length:Int) - 0<_; omega) λz aW=>?_;obtain ⟨m,k⟩:=z;obtain ⟨g0,g1,hm⟩:=aW;simp only at g0 g1 hm ⊢;have rW:aG (k+1)=k+1:=by rw [cm]; omega
   rw [rW];refine Tot.sm (Tot.ba (λuh=>?_) (λ_=>.ag hm));have vm:=hm.fa;refine Tot.ar (Ξ:=λJ=>iF J (1001 * 1000) 1000) ?_ λJ ai=>.ag ⟨⟨?_,?_,ai⟩,?_,?_⟩
   ·refine Tot.sm (.ar (Tot.gh (Φ:=λ_=>True) g0 uh λ_ _ _=>trivial) λx _=>?_);refine .ar (Ξ:=λ_=>True) (Tot.sm (Tot.bk (λ_=>.ar (t103 m _ (by simp only [dp]; omega)) λ_ _=>.ag trivial) (λ_=>.ag trivial))) λc _=>?_;refine Tot.ar (Ξ:=λJ=>iF J (1001 * 1000) 1000) ?_ λJ ai=>.ag ai;exact Tot.bk (λ_=>.ar (t101 m _ _) λbh gS=>.ag (hm.same gS.1)) (λ_=>.ag hm)
   ·show 0<=k+1; omega
   ·show k+1<=(d.eL.length:Int); omega
   ·show k<k+1; omega
   ·show k+1<=(d.eL.length:Int); omega
  ·show 0<=i+1; omega
  ·show i+1<=(s.Decls.length:Int); omega
  ·show i<i+1; omega
  ·show i+1<=(s.Decls.length:Int); omega
 -- the start
 have sI:=ok.pos;refine Tot.ar (Ξ:=λ_=>True) (Tot.bk (λ_=>.ar (Ξ:=λ_=>True) (Tot.gh (by decide) (by omega) λ_ _ _=>trivial) λ_ _=>.ag trivial) (λ_=>.ag trivial)) λvJ _=>?_;have ac2:=qP.fa;refine .ar (t103 ht vJ (by simp only [dp]; omega)) λl5 nh=>?_;have T6:-1<=l5/\l5<ht.b0.length:=by rcases nh with h | h <;> omega
 -- the alternatives
 have iy:ht.b0.length<=1000:=qP.fa;generalize Uu:ht.b0.length=L at iy T6;refine Tot.ar (Ξ:=λr=>kU r (3+1001 * 1000+1001 * 1000000) L (1001 * 1000000) (1+1001 * 1000000)/\1<=r.aD.bd.length) ?_ λbp T7=>?_
 ·have ui:=qP.XN;rw [Uu] at ui;refine Tot.count (λz=>z.2) s.dH.length (λz=>0<=z.2/\z.2<=s.dH.length/\kU z.1 (3+1001 * 1000+1001 * (1000 * z.2.toNat)) L (1001 * (1000 * z.2.toNat)) (1+1001 * (1000 * z.2.toNat))/\1<=z.1.aD.bd.length) ⟨Int.le_refl 0,by show (0:Int)<=_; omega,⟨ui.gf,ui.lo,ui.hi,ui.ty,ui.fa,ui.hl,Nat.le_refl 1,λp au=>?_,ui.lvl,ui.jU⟩,Nat.le_refl 1⟩ (by show (s.dH.length:Int) - 0<_; omega) λz aW=>?_
  ·rw [List.mem_singleton.1 au];have acP:=qP.hl;have lz:=qP.lo;refine ⟨⟨Int.le_refl 0,by show (0:Int)<=L+ht.bV; omega⟩,λy al=>?_,⟨by show (-1:Int)<=-1; omega,by show (-1:Int)<_; omega⟩,λy al=>absurd al (by simp),Nat.zero_le _⟩;have al:y∈[aG (1001+l5)]:=al;rw [List.mem_singleton.1 al];have:aG (1001+l5)=1001+l5:=by rw [cm]; omega
   rw [this];exact .inr (by show 1000<=1001+l5/\1001+l5<=1000+((L:Int)+ht.bV); omega)
  ·obtain ⟨m,i⟩:=z;obtain ⟨aO,h1,hm,vq⟩:=aW;simp only at aO h1 hm vq ⊢;have hw:aG (i+1)=i+1:=by rw [cm]; omega
   rw [hw];refine Tot.ba (λaT=>?_) (λ_=>.ag ⟨hm.mono (by omega) (by omega) (by omega),vq⟩);refine Tot.ar (Ξ:=λr=>kU r (3+1001 * 1000+1001 * (1000 * (i.toNat+1))) L (1001 * (1000 * (i.toNat+1))) (1+1001 * (1000 * (i.toNat+1)))/\1<=r.aD.bd.length) ?_ λkv Eg=>.ag ⟨⟨?_,?_,?_,Eg.2⟩,?_,?_⟩
   ·have k5:i.toNat<s.dH.length:=by omega
    have hi:idx s.dH i=some s.dH[i.toNat]:=by simp [idx,aO,k5]
    rw [hi];generalize aP:s.dH[i.toNat]=d;have jn:d∈s.dH:=by rw [<- aP]; exact List.getElem_mem k5
    have Er:=(av.rules d jn).n;refine Tot.count (λz=>z.2) d.fr.length (λz=>0<=z.2/\z.2<=d.fr.length/\kU z.1 (3+1001 * 1000+1001 * (1000 * i.toNat+z.2.toNat)) L (1001 * (1000 * i.toNat+z.2.toNat)) (1+1001 * (1000 * i.toNat+z.2.toNat))/\1<=z.1.aD.bd.length) ⟨Int.le_refl 0,by show (0:Int)<=_; omega,hm,vq⟩ (by show (d.fr.length:Int) - 0<_; omega) λz aW=>?_;obtain ⟨m,k⟩:=z;obtain ⟨g0,g1,hm,vq⟩:=aW;simp only at g0 g1 hm vq ⊢;have rW:aG (k+1)=k+1:=by rw [cm]; omega
    rw [rW];refine Tot.sm (Tot.ba (λuh=>?_) (λ_=>.ag ⟨hm.mono (by omega) (by omega) (by omega),vq⟩));refine Tot.sm (Tot.sm (.ar (Tot.gh (Φ:=λy=>y∈d.fr) g0 uh λ_ _ h=>h) λa aR=>?_));refine .ar (t104 m d.Left a hm (by omega) (by omega) (by omega) (by omega) ((av.rules d jn).alts a aR) (ok.rules d jn a aR)) λbh gS=>.ag ⟨⟨?_,?_,?_,gS.2⟩,?_,?_⟩
    ·show 0<=k+1; omega
    ·show k+1<=(d.fr.length:Int); omega
    ·show kU bh (3+1001 * 1000+1001 * (1000 * i.toNat+(k+1).toNat)) L (1001 * (1000 * i.toNat+(k+1).toNat)) (1+1001 * (1000 * i.toNat+(k+1).toNat));exact gS.1.mono (by omega) (by omega) (by omega)
    ·show k<k+1; omega
    ·show k+1<=(d.fr.length:Int); omega
   ·show 0<=i+1; omega
   ·show i+1<=(s.dH.length:Int); omega
   ·show kU kv (3+1001 * 1000+1001 * (1000 * (i+1).toNat)) L (1001 * (1000 * (i+1).toNat)) (1+1001 * (1000 * (i+1).toNat));exact Eg.1.mono (by omega) (by omega) (by omega)
   ·show i<i+1; omega
   ·show i+1<=(s.dH.length:Int); omega
 obtain ⟨ni,T8⟩:=T7;refine Tot.kZ (λh=>.ag λaI=>absurd aI h) (λhe=>?_);have acj:=ni.fa;have ach:=ni.hi;have acm:=ni.ty;have aci:=ni.hl;have ack:=ni.z6
 -- nonterminals
 refine Tot.ar (Ξ:=λl=>l.length=1+L) ?_ λth Bd=>?_
 ·refine Tot.count (λz=>z.2) bp.b0.length (λz=>0<=z.2/\z.2<=bp.b0.length/\z.1.length=1+z.2.toNat) ⟨Int.le_refl 0,by show (0:Int)<=_; omega,rfl⟩ (by show (bp.b0.length:Int) - 0<_; omega) λz aW=>?_;obtain ⟨l,i⟩:=z;obtain ⟨aO,h1,aj⟩:=aW;simp only at aO h1 aj ⊢;have hw:aG (i+1)=i+1:=by rw [cm]; omega
  rw [hw];refine Tot.ba (λaT=>?_) (λ_=>.ag (by show l.length=1+L; omega));refine .ar (Tot.gh (Φ:=λ_=>True) aO aT λ_ _ _=>trivial) λqx _=>.ar (t105 _ _ (by show bp.cv.length<=_; simp only [dp]; omega)) λyl T9=>?_;have aco:yl=-1\/(0<=yl/\yl<bp.cv.length):=T9;refine .ar (Ξ:=λ_=>True) (Tot.ba (λh=>.ar (Ξ:=λ_=>True) (Tot.gh h (by omega) λ_ _ _=>trivial) λ_ _=>.ag trivial) (λ_=>.ag trivial)) λuz _=>?_;refine .ar (Ξ:=λ_=>True) (Tot.ap (by simp [lim]; omega) trivial) λ_ _=>.ag ⟨⟨?_,?_,?_⟩,?_,?_⟩
  ·show 0<=i+1; omega
  ·show i+1<=(bp.b0.length:Int); omega
  ·show (l++[_]).length=1+(i+1).toNat;simp; omega
  ·show i<i+1; omega
  ·show i+1<=(bp.b0.length:Int); omega
 refine Tot.ar (Ξ:=λl=>(l.length:Int)=1+L+bp.bV) ?_ λky Eh=>?_
 ·refine Tot.count (λz=>z.2) (bp.bV+1) (λz=>1<=z.2/\z.2<=bp.bV+1/\(z.1.length:Int)=1+L+(z.2 - 1)) ⟨Int.le_refl 1,by show (1:Int)<=_; omega,by show (th.length:Int)=1+L+(1 - 1); omega⟩ (by show bp.bV+1 - 1<_; omega) λz aW=>?_;obtain ⟨l,i⟩:=z;obtain ⟨aO,h1,aj⟩:=aW;simp only at aO h1 aj ⊢;have hw:aG (i+1)=i+1:=by rw [cm]; omega
  rw [hw];refine Tot.ba (λaT=>?_) (λ_=>.ag (by show (l.length:Int)=1+L+bp.bV; omega));refine .ar (t18 i (by omega) (by omega)) λGj acp=>.ar (Ξ:=λ_=>True) (Tot.cat (by show 1+Gj.size<=_; omega) trivial) λwq _=>?_;refine .ar (Ξ:=λ_=>True) (Tot.ap (by simp [lim]; omega) trivial) λ_ _=>.ag ⟨⟨?_,?_,?_⟩,?_,?_⟩
  ·show 1<=i+1; omega
  ·show i+1<=bp.bV+1; omega
  ·show ((l++[_]).length:Int)=1+L+(i+1 - 1);simp; omega
  ·show i<i+1; omega
  ·show i+1<=bp.bV+1; omega
 -- numbers
 have rN:=ni.gf;refine Tot.ar (Ξ:=λl=>l.length=bp.aD.a1.length/\∀ t∈l,0<=t.Level) ?_ λlI T_=>?_
 ·refine Tot.count (λz=>z.2.2) bp.aD.a1.length (λz=>3<=z.2.2/\z.2.2<=bp.aD.a1.length/\z.1.length=bp.aD.a1.length/\∀ t∈z.1,0<=t.Level) ⟨Int.le_refl 3,by have:=ni.lo; show (3:Int)<=_; omega,rfl,ni.jU⟩ (by show (bp.aD.a1.length:Int) - 3<_; omega) λz aW=>?_;obtain ⟨l,n,i⟩:=z;obtain ⟨aO,h1,aj,hv⟩:=aW;simp only at aO h1 aj hv ⊢;have hw:aG (i+1)=i+1:=by rw [cm]; omega
  rw [hw];refine Tot.ba (λaT=>?_) (λ_=>.ag ⟨aj,hv⟩);refine Tot.ar (Ξ:=λJ=>J.1.length=bp.aD.a1.length/\∀ t∈J.1,0<=t.Level) ?_ λJ ai=>.ag ⟨⟨?_,?_,ai⟩,?_,?_⟩
  ·refine .ar (Tot.gh (Φ:=λ_=>True) (by omega) (by rw [rN]; omega) λ_ _ _=>trivial) λ_ _=>?_;refine Tot.ar (Ξ:=λJ=>J.1.length=bp.aD.a1.length/\∀ t∈J.1,0<=t.Level) ?_ λJ ai=>.ag ai;refine Tot.bk (λ_=>?_) (λ_=>.ag ⟨aj,hv⟩);refine .ar (Tot.gh (Φ:=λy=>y∈l) (by omega) aT λ_ _ h=>h) λy al=>.ag ⟨by show (l.set _ _).length=_; simp [aj],λt aq=>?_⟩;rcases OF aq with aq | rfl
   ·exact hv t aq
   ·exact (hv y al:0<=y.Level)
  ·show 3<=i+1; omega
  ·show i+1<=(bp.aD.a1.length:Int); omega
  ·show i<i+1; omega
  ·show i+1<=(bp.aD.a1.length:Int); omega
 -- limits
 obtain ⟨Ei,Ua⟩:=T_;refine Tot.ar (Ξ:=λc=>c=false->lI.length<=40/\ky.length<=24/\bp.aD.bd.length<=60) ?_ λAP HC=>?_
 ·refine Tot.ba (λ_=>.ag λh=>by cases h) (λh1=>Tot.ba (λ_=>.ag λh=>by cases h) (λaf=>.ag λh=>?_));have aJ:=of_decide_eq_false h;omega
 refine Tot.ar (Ξ:=λc=>c=false->AP=false/\∀ p∈bp.aD.bd,p.e2.length<=8) ?_ λAl HD=>?_
 ·refine Tot.count (λz=>z.2) bp.aD.bd.length (λz=>0<=z.2/\z.2<=bp.aD.bd.length/\(z.1=false->AP=false/\∀ (J:Nat) (p:Prod),(J:Int)<z.2->bp.aD.bd[J]?=some p->p.e2.length<=8)) ⟨Int.le_refl 0,by show (0:Int)<=_; omega,λh=>⟨h,λJ p ai=>by have ai:(J:Int)<0:=ai; omega⟩⟩ (by show (bp.aD.bd.length:Int) - 0<_; omega) λz aW=>?_;obtain ⟨c,i⟩:=z;obtain ⟨aO,h1,aj⟩:=aW;simp only at aO h1 aj ⊢;have hw:aG (i+1)=i+1:=by rw [cm]; omega
  rw [hw];refine Tot.ba (λaT=>?_) (λdC=>.ag λh=>⟨(aj h).1,λp au=>?_⟩)
  ·refine Tot.ar (Ξ:=λj6=>j6=false->c=false/\∀ p,bp.aD.bd[i.toNat]?=some p->p.e2.length<=8) ?_ λj6 e5=>.ag ⟨⟨?_,?_,λh=>?_⟩,?_,?_⟩
   ·refine Tot.bk (λ_=>.ag λh=>by cases h) (λIh=>.ar (Tot.gh (Φ:=λy=>idx bp.aD.bd i=some y) aO aT λ_ h _=>h) λy al=>.ag λh=>⟨Ih,λp au=>?_⟩);have af:=(r4 al).2.2;rw [au] at af; cases af;have:=of_decide_eq_false h;omega
   ·show 0<=i+1; omega
   ·show i+1<=(bp.aD.bd.length:Int); omega
   ·obtain ⟨aB,a2⟩:=e5 h;obtain ⟨hg,h5⟩:=aj aB;refine ⟨hg,λJ p ai au=>?_⟩;have ai:(J:Int)<i+1:=ai;by_cases VO:(J:Int)<i
    ·exact h5 J p VO au
    ·have:J=i.toNat:=by omega
     subst this;exact a2 p au
   ·show i<i+1; omega
   ·show i+1<=(bp.aD.bd.length:Int); omega
  ·obtain ⟨J,ai,rfl⟩:=List.mem_iff_getElem.1 au;exact (aj h).2 J _ (by omega) (List.getElem?_eq_getElem ai)
 refine Tot.bk (λ_=>.ag λh=>absurd h (by decide)) (λaa=>.ag λ_=>?_);obtain ⟨aB,a2⟩:=HD aa;obtain ⟨hg,h5,kD⟩:=HC aB;have lz:=ni.lo;refine ⟨⟨?_,hg⟩,⟨?_,h5⟩,⟨T8,kD⟩,λp au=>?_,a2,Ua⟩
 ·show 3<=lI.length; omega
 ·show 1<=ky.length; omega
 ·have:=ni.gj p au;exact this.mono (by show _<=lI.length; omega) (by show (L:Int)+bp.bV<=((ky.length:Nat):Int) - 1; omega)
theorem Th (s:ByteArray) (m n:Int) (h:0<=m/\m<=n/\n<=s.size):(nc s m n).size<=(n - m).toNat:=by
 grind [nc,ByteArray.size_extract]
theorem t9 (s:ByteArray) (n:Int) (aO:0<=n):Tot (s6 s n) λt=>(t.size:Int)<=n:=by
 unfold s6;refine Tot.ba (λh=>?_) (λh=>.ag (by omega))
 grind [Tot.cut,Th]
theorem t23 (a n:Int) (h:0<n) (aA:n<=9223372036854775807):Tot (vU a n) λr=>0<=r/\r<n:=by
 unfold vU;have h1:-n<a.tmod n:=by
  by_cases aR:0<=a
  ·have:=Int.tmod_nonneg n aR; omega
  ·have af:(-a).tmod n<n:=Int.tmod_lt_of_pos _ h;rw [Int.neg_tmod] at af;omega
 have af:a.tmod n<n:=Int.tmod_lt_of_pos a h;refine .ar (Ξ:=λx=>x=a.tmod n) (Tot.rem (by omega) rfl) λx j=>?_;subst j;refine Tot.ar (Ξ:=λr=>0<=r/\r<n) (Tot.ba (λaJ=>.ag ?_) (λaJ=>.ag (by omega))) λr ah=>.ag ah;rw [cm]; omega
theorem t27 (k:Int) (h:0<=k):Tot (vV k) λx=>x.Name.size=1/\x.Lit=true/\x.bL=0:=by
 unfold vV;refine .ar (Ξ:=λx=>x.size=4) (.ag rfl) λa6 h1=>.ar (Ξ:=λr=>r=k.tmod 4) (Tot.rem (by decide) rfl) λx2 af=>.ar (Ξ:=λr=>r=k.tmod 4) (Tot.rem (by decide) rfl) λaX aJ=>?_;subst af aJ;have e:k.tmod 4=k % 4:=Int.tmod_eq_emod_of_nonneg h;rw [e];have hw:aG (k % 4+1)=k % 4+1:=by rw [cm]; omega
 rw [hw];refine .ar (Ξ:=λx=>x.size=1) (Tot.cut (by rw [h1]; omega) ?_) λbR bx=>.ag ⟨bx,rfl,rfl⟩
 grind [Ti]
theorem t25 (k:Int):Tot (zR k) λx=>x.size=1:=by
 unfold zR;exact .ag (by rw [Ks]; rfl)
theorem t26 (k n:Int) (h:0<n) (aA:n<=100):Tot (CD k n) λx=>x.Name.size<=5:=by
 unfold CD;refine .ar (t23 k 14 (by decide) (by decide)) λa6 h1=>Tot.ba (λcu=>?_) (λcu=>Tot.bk (λ_=>.ag ?_) (λ_=>?_))
 ·refine .ar (Ξ:=λ_=>True) (Tot.rem (by omega) trivial) λaX _=>.ar (t25 aX) λbR bx=>.ag ?_
  grind
 ·show (5:Nat)<=5;omega
 ·refine .ar (t27 _ ?_) λx j=>.ag (by omega)
  grind [cm]
structure Aq (n:Nat) (d:Decl):Prop where
 tag:d.Tag.size=0
 n:d.eL.length<=n
 syms:∀ x∈d.eL,x.Name.size<=dp
theorem t24 (l:List Int):Tot (zQ l) λr=>r.length<=4/\∀ d∈r,Aq 10 d:=by
 unfold zQ;refine Tot.ar (Ξ:=λr=>r.length<=4/\∀ d∈r,Aq 10 d) ?_ λr ah=>.ag ah;refine Tot.count (λs=>s.2) 4 (λs=>0<=s.2/\s.2<=4/\s.1.length<=s.2.toNat/\∀ d∈s.1,Aq (1+s.2.toNat) d) ⟨Int.le_refl 0,by decide,Nat.le_refl 0,λd aP=>absurd aP (by simp)⟩ (by decide) λs ay=>?_;obtain ⟨r,i⟩:=s;obtain ⟨aO,bx,aj,aP⟩:=ay;simp only at aO bx aj aP ⊢;have hw:aG (i+1)=i+1:=by rw [cm]; omega
 rw [hw];refine .ar (Ξ:=λc=>c=true->i<l.length/\i<4) (Tot.ba (λh=>.ag λaf=>⟨h,of_decide_eq_true af⟩) (λ_=>.ag λh=>by cases h)) λc aa=>Tot.bk (λlR=>?_) (λ_=>.ag ⟨by omega,λd jn=>⟨(aP d jn).tag,by have:=(aP d jn).n; omega,(aP d jn).syms⟩⟩);obtain ⟨hi,acQ⟩:=aa lR;refine Tot.ar (Ξ:=λJ=>J.length<=i.toNat+1/\∀ d∈J,Aq (1+(i.toNat+1)) d) ?_ λJ ai=>.ag ⟨⟨?_,?_,?_,?_⟩,?_,?_⟩
 ·refine .ar (Tot.gh (Φ:=λ_=>True) aO hi λ_ _ _=>trivial) λb3 _=>.ar (t23 b3 8 (by decide) (by decide)) λdG wZ=>.ar (Ξ:=λ_=>True) (Tot.rem (by decide) trivial) λbF _=>?_;have mi:∀ d∈r,Aq (1+(i.toNat+1)) d:=λd jn=>⟨(aP d jn).tag,by have:=(aP d jn).n; omega,(aP d jn).syms⟩;refine Tot.bk (λ_=>.ag ⟨by omega,mi⟩) (λ_=>?_);refine .ar (Ξ:=λc=>c=true->0<(r.length:Int)) (Tot.bk (λ_=>.ag λh=>of_decide_eq_true h) (λ_=>.ag λh=>by cases h)) λc aa=>Tot.bk (λw6=>?_) (λ_=>?_)
  ·have sI:=aa w6;have WK:aG ((r.length:Int) - 1)=(r.length:Int) - 1:=by rw [cm]; omega
   rw [WK];refine .ar (Tot.gh (Φ:=λy=>y∈r) (by omega) (by omega) λ_ _ h=>h) λd jn=>.ar (t27 i aO) λx j=>.ar (Ξ:=λ_=>True) (Tot.ap (by have:=(aP d jn).n; simp [lim]; omega) trivial) λ_ _=>.ag ⟨by simp; omega,λMj w9=>?_⟩;rcases OF w9 with h | rfl
   ·grind
   ·refine ⟨(aP d jn).tag,?_,λy al=>?_⟩
    ·have:=(aP d jn).n
     grind
    ·rcases List.mem_append.1 al with al | al
     ·exact (aP d jn).syms y al
     grind
  ·refine .ar (Ξ:=λ_=>True) (Tot.rem (by decide) trivial) λfq _=>.ar (t27 i aO) λx j=>.ar (Ξ:=λ_=>True) (Tot.ap (by simp [lim]; omega) trivial) λ_ _=>.ag ⟨by simp; omega,λMj w9=>?_⟩;rcases List.mem_append.1 w9 with h | h
   ·grind
   ·rw [List.mem_singleton.1 h];refine ⟨rfl,by show 1<=_; omega,λy al=>?_⟩
    grind
 all_goals grind
structure l_ (n:Nat) (r:fS):Prop where
 left:r.Left.size<=dp
 n:r.fr.length<=n
 alts:∀ a∈r.fr,yp a
theorem l_.mono {n m:Nat}{r:fS}(h:l_ n r) (hm:n<=m):l_ m r:=⟨h.left,Nat.le_trans h.n hm,h.alts⟩
theorem l_.add {n:Nat}{r:fS}{a:Alt}(h:l_ n r) (aR:yp a):l_ (n+1) (⟨r.Left,r.fr++[a],r.At⟩:fS):=by
 refine ⟨h.left,by have:=h.n; show (r.fr++[a]).length<=_; simp; omega,λb av=>?_⟩;rcases List.mem_append.1 av with av | av
 ·exact h.alts b av
 grind
theorem Lz {l:List fS}{i n:Nat}{r:fS}(h:∀ x∈l,l_ n x) (ah:l_ n r):∀ x∈l.set i r,l_ n x:=by grind
theorem t14 (x:pQ):Tot (vS x) oo:=by
 unfold vS;refine .ar (t23 x.bY 4 (by decide) (by decide)) λa6 h1=>.ar (t24 x.qE) λx2 af=>?_;have EO:aG (1+a6)=1+a6:=by rw [cm]; omega
 rw [EO];refine .ar (Ξ:=λl=>l=List.replicate (1+a6).toNat false) (Tot.mk (by simp [lim]; omega) rfl) λaX aJ=>?_;have acf:aX.length=(1+a6).toNat:=by rw [aJ]; simp
 refine Tot.ar (Ξ:=λl=>(l.length:Int)=1+a6/\∀ r∈l,l_ 0 r) ?_ λbK cu=>?_
 ·refine Tot.count (λs=>s.2) (1+a6) (λs=>0<=s.2/\s.2<=1+a6/\(s.1.length:Int)=s.2/\∀ r∈s.1,l_ 0 r) ⟨Int.le_refl 0,by show 0<=1+a6; omega,rfl,λd aP=>absurd aP (by simp)⟩ (by show 1+a6 - 0<_; omega) λs ay=>?_;obtain ⟨l,i⟩:=s;obtain ⟨g0,g1,aj,cb⟩:=ay;simp only at g0 g1 aj cb ⊢;have hw:aG (i+1)=i+1:=by rw [cm]; omega
  rw [hw];refine Tot.ba (λaT=>?_) (λ_=>.ag ⟨by omega,cb⟩);refine .ar (t25 i) λb3 nT=>.ar (Ξ:=λ_=>True) (Tot.ap (by simp [lim]; omega) trivial) λ_ _=>.ag ⟨⟨?_,?_,?_,λr ah=>?_⟩,?_,?_⟩
  ·grind
  ·grind
  ·grind
  ·rcases List.mem_append.1 ah with ah | ah
   ·grind
   ·rw [List.mem_singleton.1 ah];exact ⟨by show b3.size<=_; rw [nT]; decide,Nat.le_refl 0,λa aR=>absurd aR (by simp)⟩
  ·grind
  grind
 refine Tot.ar (Ξ:=λr=>(r.1.length:Int)=1+a6/\(r.2.length:Int)=1+a6/\∀ y∈r.1,l_ 9 y) ?_ λcB Ba=>?_
 ·refine Tot.count (λs=>s.2.2) 9 (λs=>0<=s.2.2/\s.2.2<=9/\(s.1.length:Int)=1+a6/\(s.2.1.length:Int)=1+a6/\∀ y∈s.1,l_ s.2.2.toNat y) ⟨Int.le_refl 0,by show (0:Int)<=9; decide,cu.1,by show (aX.length:Int)=_; omega,cu.2⟩ (by show (9:Int) - 0<_; decide) λs ay=>?_;obtain ⟨l,av,i⟩:=s;obtain ⟨g0,g1,aj,Ir,cb⟩:=ay;simp only at g0 g1 aj Ir cb ⊢;have hw:aG (i+1)=i+1:=by rw [cm]; omega
  rw [hw];refine .ar (Ξ:=λc=>c=true->i<x.dH.length/\i<9) (Tot.ba (λh=>.ag λaf=>⟨h,of_decide_eq_true af⟩) (λ_=>.ag λh=>by cases h)) λc aa=>Tot.bk (λlR=>?_) (λ_=>.ag ⟨aj,Ir,λy al=>(cb y al).mono (by omega)⟩);obtain ⟨hi,acR⟩:=aa lR;have k5:i.toNat<x.dH.length:=by omega
  have BA:idx x.dH i=some x.dH[i.toNat]:=by simp [idx,g0,k5]
  rw [BA];generalize x.dH[i.toNat]=d;have Nb:∀ y∈l,l_ (i.toNat+1) y:=λy al=>(cb y al).mono (by omega);refine Tot.ar (Ξ:=λJ=>(J.1.length:Int)=1+a6/\(J.2.length:Int)=1+a6/\∀ y∈J.1,l_ (i.toNat+1) y) ?_ λJ ai=>.ag ⟨⟨?_,?_,ai.1,ai.2.1,?_⟩,?_,?_⟩
  ·refine Tot.sm (Tot.ba (λ_=>.ag ⟨aj,Ir,Nb⟩) (λcA=>Tot.sm ?_));refine .ar (Tot.gh (Φ:=λ_=>True) (by decide) (by omega) λ_ _ _=>trivial) λfc _=>.ar (t23 fc (1+a6) (by omega) (by omega)) λeG Ef=>?_;have jg:∀ c:ByteArray,c.size<=1000->((⟨(⟨⟨#[]⟩,false,0,0⟩:Sym),c,0⟩:Part).Sym.Name.size<=dp/\(⟨(⟨⟨#[]⟩,false,0,0⟩:Sym),c,0⟩:Part).Code.size<=1000):=λc aa=>⟨by show 0<=_; exact Nat.zero_le _,aa⟩;refine Tot.ar (Ξ:=λr=>r.1.length<=10/\∀ p∈r.1,p.Sym.Name.size<=dp/\p.Code.size<=1000) ?_ λfl TV=>?_
   ·refine Tot.count (λs=>s.2.2) 5 (λs=>1<=s.2.2/\s.2.2<=5/\(s.1.length:Int)<=2 * (s.2.2 - 1)/\∀ p∈s.1,p.Sym.Name.size<=dp/\p.Code.size<=1000) ⟨Int.le_refl 1,by decide,by decide,λp au=>absurd au (by simp)⟩ (by decide) λs ay=>?_;obtain ⟨ps,pl,k⟩:=s;obtain ⟨k0,vK,Xv,Js⟩:=ay;simp only at k0 vK Xv Js ⊢;have rW:aG (k+1)=k+1:=by rw [cm]; omega
    rw [rW];refine .ar (Ξ:=λc=>c=true->k<d.length/\k<5) (Tot.sm (Tot.ba (λh=>.ag λaf=>⟨h,of_decide_eq_true af⟩) (λ_=>.ag λh=>by cases h))) λc aa=>Tot.bk (λlR=>?_) (λ_=>.ag ⟨by show ps.length<=10; omega,Js⟩);obtain ⟨hk,acV⟩:=aa lR;refine Tot.ar (Ξ:=λJ=>(J.1.length:Int)<=2 * k/\∀ p∈J.1,p.Sym.Name.size<=dp/\p.Code.size<=1000) ?_ λJ ai=>.ag ⟨⟨?_,?_,?_,ai.2⟩,?_,?_⟩
    ·refine Tot.sm (.ar (Tot.gh (Φ:=λ_=>True) (by omega) hk λ_ _ _=>trivial) λkP _=>.ar (t26 kP (1+a6) (by omega) (by omega)) λe0 Bc=>?_);refine .ar (Ξ:=λ_=>True) (Tot.bk (λ_=>Tot.bk (λ_=>.ag trivial) (λ_=>.ag trivial)) (λ_=>.ag trivial)) λ_ _=>.ar (Ξ:=λ_=>True) (Tot.ap (by simp [lim]; omega) trivial) λ_ _=>?_;have a7:∀ p∈ps++[(⟨e0,⟨#[]⟩,0⟩:Part)],p.Sym.Name.size<=dp/\p.Code.size<=1000:=λp au=>by
      rcases List.mem_append.1 au with h | h
      ·exact Js p h
      ·rw [List.mem_singleton.1 h]; exact ⟨by show e0.Name.size<=1000000000000; omega,Nat.zero_le _⟩
     refine .ar (Ξ:=λ_=>True) ?_ λL2 _=>?_
     ·refine Tot.ba (λh=>Tot.bk (λ_=>.ar (Tot.gh (Φ:=λ_=>True) g0 h λ_ _ _=>trivial) λ_ _=>.ar (Ξ:=λ_=>True) (Tot.rem (by decide) trivial) λ_ _=>.ag trivial) (λ_=>.ag trivial)) (λ_=>.ag trivial)
     ·refine Tot.ar (Ξ:=λl=>(l.length:Int)<=2 * k/\∀ p∈l,p.Sym.Name.size<=dp/\p.Code.size<=1000) ?_ λJ ai=>.ag ai;refine Tot.bk (λ_=>?_) (λ_=>.ag ⟨by simp; omega,a7⟩);refine .ar (Ξ:=λ_=>True) (Tot.ap (by simp [lim]; omega) trivial) λ_ _=>.ag ⟨by simp; omega,λp au=>?_⟩;rcases List.mem_append.1 au with au | au
      ·grind
      ·rw [List.mem_singleton.1 au];exact jg _ (by decide)
    all_goals grind
   ·refine .ar (Ξ:=λ_=>True) (Tot.ba (λh=>.ar (Tot.gh (Φ:=λ_=>True) g0 h λ_ _ _=>trivial) λ_ _=>.ar (Ξ:=λ_=>True) (Tot.rem (by decide) trivial) λ_ _=>.ag trivial) (λ_=>.ag trivial)) λaav _=>?_;refine Tot.ar (Ξ:=λl=>l.length<=20/\∀ p∈l,p.Sym.Name.size<=dp/\p.Code.size<=1000) ?_ λoQ TZ=>?_
    ·refine Tot.bk (λ_=>?_) (λ_=>.ag ⟨by omega,TV.2⟩);refine .ar (Ξ:=λ_=>True) (Tot.ap (by simp [lim]; omega) trivial) λ_ _=>.ag ⟨by simp; omega,λp au=>?_⟩;rcases List.mem_append.1 au with au | au
     ·grind
     ·rw [List.mem_singleton.1 au];exact jg _ (by decide)
    ·refine Tot.ar (Ξ:=λl=>(l.length:Int)=1+a6) ?_ λL4 T1=>?_
     ·refine .ar (Tot.gh (Φ:=λ_=>True) Ef.1 (by omega) λ_ _ _=>trivial) λ_ _=>Tot.bk (λ_=>.ag (by simp; omega)) (λ_=>.ag (by simp; omega))
     ·refine .ar (Tot.gh (Φ:=λy=>y∈l) Ef.1 (by omega) λ_ _ h=>h) λl4 T2=>?_;have qW:=cb l4 T2;refine .ar (Ξ:=λ_=>True) (Tot.ap (by have:=qW.n; simp [lim]; omega) trivial) λ_ _=>.ag ⟨by show ((l.set _ _).length:Int)=_; simp; omega,T1,Lz Nb (qW.add ⟨by show oQ.length<=_; omega,TZ.2,Nat.zero_le _⟩)⟩
  all_goals grind
 refine Tot.ar (Ξ:=λl=>(l.length:Int)=1+a6/\∀ y∈l,l_ 20 y) ?_ λwm T4=>.ag ⟨Nat.zero_le _,?_,λd aP=>?_,?_,λr ah=>?_⟩
 ·refine Tot.count (λs=>s.2) (1+a6) (λs=>0<=s.2/\s.2<=1+a6/\(s.1.length:Int)=1+a6/\∀ y∈s.1,l_ (9+s.2.toNat) y) ⟨Int.le_refl 0,by show 0<=1+a6; omega,Ba.1,Ba.2.2⟩ (by show 1+a6 - 0<_; omega) λs ay=>?_;obtain ⟨l,i⟩:=s;obtain ⟨g0,g1,aj,cb⟩:=ay;simp only at g0 g1 aj cb ⊢;have hw:aG (i+1)=i+1:=by rw [cm]; omega
  rw [hw];refine Tot.ba (λaT=>?_) (λ_=>.ag ⟨aj,λy al=>(cb y al).mono (by omega)⟩);refine Tot.ar (Ξ:=λl=>(l.length:Int)=1+a6/\∀ y∈l,l_ (9+i.toNat+1) y) ?_ λJ ai=>.ag ⟨⟨?_,?_,ai.1,?_⟩,?_,?_⟩
  ·refine .ar (Ξ:=λ_=>True) ?_ λaaw _=>?_
   ·refine .ar (Tot.gh (Φ:=λ_=>True) g0 (by omega) λ_ _ _=>trivial) λwo _=>Tot.bk (λ_=>.ag trivial) (λ_=>.ar (Tot.gh (Φ:=λ_=>True) g0 (by omega) λ_ _ _=>trivial) λ_ _=>Tot.bk (λ_=>.ag trivial) (λ_=>.ag trivial))
   ·refine Tot.ar (Ξ:=λl=>(l.length:Int)=1+a6/\∀ y∈l,l_ (9+i.toNat+1) y) ?_ λJ ai=>.ag ai;refine Tot.bk (λ_=>?_) (λ_=>.ag ⟨aj,λy al=>(cb y al).mono (by omega)⟩);refine .ar (Tot.gh (Φ:=λy=>y∈l) g0 (by omega) λ_ _ h=>h) λkv Eg=>.ar (t27 i g0) λkx acn=>?_;have j:=cb kv Eg;refine .ar (Ξ:=λ_=>True) (Tot.ap (by have:=j.n; simp [lim]; omega) trivial) λ_ _=>.ag ⟨by simp; omega,Lz (λy al=>(cb y al).mono (by omega)) (j.add ⟨by show 1<=_; omega,λp au=>?_,Nat.zero_le _⟩)⟩;have au:p∈[(⟨kx,⟨#[]⟩,0⟩:Part)]:=au;rw [List.mem_singleton.1 au];exact ⟨by show kx.Name.size<=1000000000000; omega,Nat.zero_le _⟩
  all_goals grind
 ·grind
 ·have:=af.2 d aP;exact ⟨by rw [this.tag]; exact Nat.zero_le _,by have:=this.n; omega,this.syms⟩
 ·grind
 ·have:=T4.2 r ah;exact ⟨this.left,by have:=this.n; omega,this.alts⟩
theorem t66 (s:Source) (av:oo s):Tot (q7 s) λr=>r.2=true->fX r.1:=by
 unfold q7;exact .ar (t81 s av) λr ah=>.ag λh=>ah (of_decide_eq_true h)
structure j3 (x:Sym):Prop where
 lit:x.Lit=true->x.Name.size=1/\0<iT x.Name 0/\iT x.Name 0<=255/\x.bL=0
 num:0<=x.bL/\x.bL<=50000
theorem J0 (x:Sym) (a b:Bool):Par (uD x a b) λr=>r=true->j3 x:=by
 unfold uD;refine Par.bk (λaj=>?_) (λaj=>?_)
 ·refine .ar (Ξ:=λc=>c=false->x.Name.size=1/\x.bL=0) ?_ λc aa=>Par.bk (λ_=>.ag λh=>by cases h) (λaf=>?_)
  ·refine Par.bk (λ_=>.ag λh=>by cases h) (λ_=>Par.kZ (λ_=>.ag λh=>by cases h) (λh1=>.ag λaf=>⟨by omega,?_⟩));simpa using af
  ·obtain ⟨h1,aJ⟩:=aa af;refine .ar (Ξ:=λc=>c=iT x.Name 0) (λc aa=>?_) λc aa=>?_
   ·unfold gN at aa
    split at aa
    ·exact (Option.some.inj aa).symm
    ·cases aa
   ·subst aa;refine .ar (Ξ:=λr=>r.2=true->0<iT x.Name 0/\iT x.Name 0<=255) ?_ λr ah=>.ag λh=>⟨λ_=>⟨h1,(ah h).1,(ah h).2,aJ⟩,by omega⟩;unfold zP;refine Par.ba (λh=>.ag λ_=>by omega) (λ_=>Par.ba (λh=>.ag λ_=>by omega) (λ_=>Par.ba (λh=>.ag λ_=>by omega) (λ_=>?_)));refine .ar (Ξ:=λc=>c=true->iT x.Name 0=92\/iT x.Name 0=39) (Par.ba (λh=>.ag λ_=>.inl h) (λ_=>.ag λh=>.inr (of_decide_eq_true h))) λc aa=>Par.bk (λh=>.ag λ_=>by rcases aa h with h | h <;> omega) (λ_=>?_);refine .ar (Ξ:=λr:Int × Bool=>r.2=true->0<iT x.Name 0/\iT x.Name 0<=255) (Par.ba (λh=>.ag λaI=>?_) (λ_=>.ag λh=>by cases h)) λr ah=>.ag ah;have:iT x.Name 0<=126:=of_decide_eq_true aI;omega
 ·refine .ar (Ξ:=λc=>c=true->0<=x.bL/\x.bL<=50000) ?_ λc aa=>.ag λh=>⟨λaI=>(by rw [aj] at aI; cases aI),aa h⟩;refine .ar (Ξ:=λ_=>True) (λ_ _=>trivial) λc _=>Par.bk (λ_=>Par.ba (λh=>.ag λ_=>by omega) (λ_=>Par.bk (λ_=>Par.ba (λh=>.ag λaI=>⟨by omega,of_decide_eq_true aI⟩) (λ_=>.ag λh=>by cases h)) (λ_=>.ag λh=>by cases h))) (λ_=>.ag λh=>by cases h)
theorem Pf (x:Sym):Par (uE x) λr=>r=true->j3 x:=by
 unfold uE;refine .ar (Ξ:=λr=>r=true->j3 x) ?_ λr ah=>.ag ah;refine Par.bk (λ_=>Par.bk (λh=>.ag λaI=>?_) (λ_=>.ag λh=>by cases h)) (λ_=>.ag λh=>by cases h);have h1:x.Lit=false:=by simpa using h
 have af:x.bL=0:=of_decide_eq_true aI;exact ⟨λh=>(by rw [h1] at h; cases h),by omega⟩
theorem Yf (d:Decl) (aA:d.eL.length<=1000000):Par (xN d) λr=>r=true->∀ x∈d.eL,j3 x:=by
 unfold xN;refine .ar (Ξ:=λ_=>True) (λ_ _=>trivial) λc _=>Par.bk (λ_=>.ag λh=>by cases h) (λ_=>?_);refine .ar (Par.scan d.eL (by omega) (λx=>j3 x) (λr=>r=false) (λs y aO h1 hi hm=>?_) (λs ay=>by simp [ay])) λx j=>?_
 ·refine Par.ba (λ_=>?_) (λh=>absurd h1 h);rw [hi];have hw:aG (s+1)=s+1:=by rw [cm]; omega
  rw [hw];exact .ar (Ξ:=λz=>z=y) (.ag rfl) λz aW=>by
   subst aW;exact .ar (J0 _ _ _) λc aa=>Par.bk (λ_=>.ag rfl) (λaf=>.ag ⟨rfl,aa (by simpa using af)⟩)
 ·rcases x with _ | r
  ·exact .ag λ_=>j
  ·exact .ag λh=>by have:r=false:=j; rw [this] at h; cases h
theorem Yg (a:Alt) (aA:a.Parts.length<=1000000):Par (xO a) λr=>r=true->(∀ p∈a.Parts,j3 p.Sym)/\j3 a.Prec:=by
 unfold xO;refine .ar (Par.scan a.Parts (by omega) (λp=>j3 p.Sym) (λr=>r=false) (λs y aO h1 hi hm=>?_) (λs ay=>by simp [ay])) λx j=>?_
 ·refine Par.ba (λ_=>?_) (λh=>absurd h1 h);rw [hi];have hw:aG (s+1)=s+1:=by rw [cm]; omega
  rw [hw];refine .ar (Ξ:=λz=>z=y) (.ag rfl) λz aW=>?_;subst aW;refine .ar (Ξ:=λc=>c=false->j3 z.Sym) ?_ λc aa=>Par.bk (λ_=>.ag rfl) (λaf=>.ag ⟨rfl,aa af⟩);refine Par.ba (λhe=>?_) (λcA=>?_)
  ·refine .ar (J0 _ _ _) λc aa=>Par.bk (λ_=>.ag λh=>by cases h) (λaf=>?_);have cX:=aa (by simpa using af);exact λ_ _ _=>cX
  ·refine Par.kZ (λ_=>?_) (λh=>absurd h cA);refine .ar (Pf _) λc aa=>Par.bk (λ_=>.ag λh=>by cases h) (λaf=>?_);have cX:=aa (by simpa using af);exact λ_ _ _=>cX
 ·rcases x with _ | r
  ·have j:∀ p∈a.Parts,j3 p.Sym:=j;refine .ar (Ξ:=λc=>c=true->j3 a.Prec) ?_ λc aa=>.ag λh=>⟨j,aa h⟩;refine .ar (Pf _) λc aa=>Par.bk (λaf=>.ag λ_=>aa af) (λ_=>.ar (J0 _ _ _) λc aa=>.ag aa)
  ·exact .ag λh=>by have:r=false:=j; rw [this] at h; cases h
structure Ll (s:Source):Prop where
 decls:∀ d∈s.Decls,∀ x∈d.eL,j3 x
 rules:∀ r∈s.dH,∀ a∈r.fr,(∀ p∈a.Parts,j3 p.Sym)/\j3 a.Prec
theorem Yi (s:Source) (av:oo s):Par (pG s) λr=>r=true->Ll s:=by
 unfold pG;refine .ar (Ξ:=gK (λ_=>True) (λr=>r=false)) ?_ λx j=>?_
 ·refine Par.loop (λ_=>True) trivial λJ _=>?_;refine Par.ba (λ_=>.ar (Ξ:=λ_=>True) (λ_ _=>trivial) λ_ _=>Par.bk (λ_=>.ag rfl) (λ_=>.ag trivial)) (λ_=>.ag trivial)
 ·rcases x with _ | r
  ·refine .ar (Par.scan s.Decls (by have:=av.wR; omega) (λd=>∀ x∈d.eL,j3 x) (λr=>r=false) (λi y aO h1 hi hm=>?_) (λs ay=>by simp [ay])) λx j=>?_
   ·refine Par.ba (λ_=>?_) (λh=>absurd h1 h);rw [hi];have hw:aG (i+1)=i+1:=by have:=av.wR; rw [cm]; omega
    rw [hw];refine .ar (Ξ:=λz=>z=y) (.ag rfl) λz aW=>?_;subst aW;exact .ar (Yf z (by have:=(av.decls z hm).n; omega)) λc aa=>Par.bk (λ_=>.ag rfl) (λaf=>.ag ⟨rfl,aa (by simpa using af)⟩)
   ·rcases x with _ | r
    ·have aP:∀ d∈s.Decls,∀ x∈d.eL,j3 x:=j;refine .ar (Par.scan s.dH (by have:=av.aL; omega) (λr=>∀ a∈r.fr,(∀ p∈a.Parts,j3 p.Sym)/\j3 a.Prec) (λr=>r=false) (λi y aO h1 hi hm=>?_) (λs ay=>by simp [ay])) λx j=>?_
     ·refine Par.ba (λ_=>?_) (λh=>absurd h1 h);rw [hi];have hw:aG (i+1)=i+1:=by have:=av.aL; rw [cm]; omega
      rw [hw];refine .ar (Ξ:=λz=>z=y) (.ag rfl) λz aW=>?_;subst aW;have nZ:=(av.rules z hm);refine .ar (Ξ:=λ_=>True) (λ_ _=>trivial) λc _=>Par.bk (λ_=>.ag rfl) (λ_=>?_);refine .ar (Par.scan z.fr (by have:=nZ.n; omega) (λa=>(∀ p∈a.Parts,j3 p.Sym)/\j3 a.Prec) (λr=>r=false) (λk y aO h1 hi hm=>?_) (λs ay=>by simp [ay])) λx j=>?_
      ·refine Par.ba (λ_=>?_) (λh=>absurd h1 h);rw [hi];have hw:aG (k+1)=k+1:=by have:=nZ.n; rw [cm]; omega
       rw [hw];refine .ar (Ξ:=λz=>z=y) (.ag rfl) λz aW=>?_;subst aW;exact .ar (Yg z (by have:=(nZ.alts z hm).n; omega)) λc aa=>Par.bk (λ_=>.ag rfl) (λaf=>.ag ⟨rfl,aa (by simpa using af)⟩)
      ·rcases x with _ | r
       ·exact .ag ⟨rfl,j⟩
       ·exact .ag j
     ·rcases x with _ | r
      ·exact .ag λ_=>⟨aP,j⟩
      ·exact .ag λh=>by have:r=false:=j; rw [this] at h; cases h
    ·exact .ag λh=>by have:r=false:=j; rw [this] at h; cases h
  ·exact .ag λh=>by have:r=false:=j; rw [this] at h; cases h
structure yN (T:List Tok) (G:List Bool):Prop where
 MV:G.length=T.length
 lo:3<=T.length
 hi:T.length<=lim
 nF:∀ t∈T,t.Name.size<=dp/\(t.Lit=true->t.Name.size=1)
 le:∀ t∈T,t.bL<=50000
structure tx (T:List Tok) (G:List Bool):Prop where
 aP:∀ (i:Nat) (t:Tok),i<3->T[i]?=some t->t.bL<=0
 un:∀ (i J:Nat) (s t:Tok),T[i]?=some s->T[J]?=some t->0<s.bL->s.bL=t.bL->i=J
 gf:∀ (i:Nat) (t:Tok),3<=i->T[i]?=some t->(G[i]?=some true->0<t.bL)/\(G[i]?=some false->t.bL=0)
structure fe (m:ei):Prop where
 a:yN m.aD.a1 m.cd
 b:m.cN=0->tx m.aD.a1 m.cd
 fa:∀ y∈m.b0,y.size<=dp
theorem vF {α:Type}{l:List α}{i:Int}{y:α}(h:idx l i=some y):0<=i/\i.toNat<l.length/\l[i.toNat]?=some y:=by
 unfold idx at h
 split at h
 ·rename_i aO;exact ⟨aO,(List.getElem?_eq_some_iff.1 h).1,h⟩
 ·cases h
theorem uN {α:Type}{l:List α}{k:Nat}{x:α}(hk:k<l.length) (i:Nat):(l.set k x)[i]?=if i=k then some x else l[i]?:=by
 rw [List.getElem?_set];by_cases e:k=i
 ·subst e; simp [hk]
 ·simp [e,Ne.symm e]
theorem yN.set {T:List Tok}{G:List Bool}(h:yN T G) {k:Nat}{t t':Tok}(hk:T[k]?=some t) (aA:t'.Name=t.Name) (aj:t'.Lit=t.Lit) (hu:t'.bL<=50000) {La:List Bool}(c_:La.length=G.length):yN (T.set k t') La:=by
 have hm:=List.mem_of_getElem? hk;have key:∀ {P:Tok->Prop},(∀ s∈T,P s)->P t'->∀ s∈T.set k t',P s:=λh1 af s ay=>by
  rcases List.mem_or_eq_of_mem_set ay with h | h
  ·exact h1 s h
  ·rw [h]; exact af
 exact ⟨by rw [c_,List.length_set]; exact h.MV,by rw [List.length_set]; exact h.lo,by rw [List.length_set]; exact h.hi,key h.nF (by rw [aA,aj]; exact h.nF t hm),key h.le hu⟩
theorem tx.FL {T:List Tok}{G:List Bool}(h:tx T G) {k:Nat}{t t':Tok}(hk:T[k]?=some t) (hu:t'.bL=t.bL):tx (T.set k t') G:=by
 have aT:=(List.getElem?_eq_some_iff.1 hk).1;have key:∀ (i:Nat) (s:Tok),(T.set k t')[i]?=some s->∃ cp,T[i]?=some cp/\cp.bL=s.bL:=by
  intro i s ay;rw [uN aT] at ay;by_cases e:i=k
  ·rw [if_pos e] at ay;cases ay;exact ⟨t,by rw [e]; exact hk,hu.symm⟩
  ·rw [if_neg e] at ay;exact ⟨s,ay,rfl⟩
 refine ⟨λi s hi ay=>?_,λi J s s2 ay kG aO he=>?_,λi s hi ay=>?_⟩
 ·obtain ⟨cp,h1,af⟩:=key i s ay;rw [<- af]; exact h.aP i cp hi h1
 ·obtain ⟨cp,h1,af⟩:=key i s ay;obtain ⟨Y',aJ,bx⟩:=key J s2 kG;exact h.un i J cp Y' h1 aJ (by omega) (by omega)
 ·obtain ⟨cp,h1,af⟩:=key i s ay;rw [<- af]; exact h.gf i cp hi h1
theorem tx.Zi {T:List Tok}{G:List Bool}(h:tx T G) {k:Nat}{t t':Tok}(hk:T[k]?=some t) (aJ:3<=k) (aN:k<G.length) (aO:0<t'.bL) (aA:∀ (i:Nat) (s:Tok),T[i]?=some s->s.bL≠t'.bL):tx (T.set k t') (G.set k true):=by
 have aT:=(List.getElem?_eq_some_iff.1 hk).1;refine ⟨λi s hi ay=>?_,λi J s s2 ay kG au he=>?_,λi s hi ay=>?_⟩
 ·rw [uN aT,if_neg (by omega)] at ay;exact h.aP i s hi ay
 ·rw [uN aT] at ay kG;by_cases cr:i=k
  ·rw [if_pos cr] at ay; cases ay;by_cases b9:J=k
   ·omega
   ·rw [if_neg b9] at kG;exact absurd he.symm (aA J s2 kG)
  ·rw [if_neg cr] at ay;by_cases b9:J=k
   ·rw [if_pos b9] at kG; cases kG;exact absurd he (aA i s ay)
   ·rw [if_neg b9] at kG;exact h.un i J s s2 ay kG au he
 ·rw [uN aT] at ay;rw [uN aN];by_cases cr:i=k
  ·rw [if_pos cr] at ay ⊢;cases ay;exact ⟨λ_=>aO,λh=>by cases h⟩
  ·rw [if_neg cr] at ay ⊢;exact h.gf i s hi ay
theorem l0 (m:ei) (a:Int) (n:ByteArray):Par (nG m a n) λbh=>qK m bh/\bh.cN≠0:=.of (t101 m a n)
theorem fe.fail {m bh:ei}(h:fe m) (ay:qK m bh/\bh.cN≠0):fe bh:=⟨by rw [ay.1.g,ay.1.gf]; exact h.a,λe=>absurd e ay.2,by rw [ay.1.fa]; exact h.fa⟩
theorem Yd (m:ei) (x:Sym) (aJ:3<=m.aD.a1.length) (h:m.aD.a1.length<=lim):Par (uC m x) λr=>r=-1\/(1<=r/\r≠2):=by
 have aj:lim=1000000000000\/lim<=1000000000000000:=by unfold lim; omega
 unfold uC;refine .ar (Ξ:=gK (λ_=>True) (λr:Int=>1<=r/\r≠2)) ?_ λr ah=>?_
 ·refine Par.loop (λs=>1<=s/\s<=m.aD.a1.length) ⟨by decide,by omega⟩ λs ay=>?_
  ·refine Par.ba (λaT=>?_) (λ_=>.ag trivial);refine .ar (Ξ:=λc=>c=true->s≠2) ?_ λc aa=>Par.bk (λaI=>.ag ⟨ay.1,aa aI⟩) (λ_=>.ag ⟨by rw [cm]; omega,by rw [cm]; omega⟩);refine .go λy _=>Par.bk (λ_=>.go λz _=>Par.bk (λ_=>.ag λaI=>by simpa using aI) (λ_=>.ag λh=>by cases h)) (λ_=>.ag λh=>by cases h)
 ·rcases r with _ | r
  ·exact .ag (.inl rfl)
  ·exact .ag (.inr ah)
theorem Pd (m:ei) (n:Int) (aJ:3<=m.aD.a1.length) (h:m.aD.a1.length<=lim):Par (vR m n) λr=>r<0->∀ (i:Nat) (t:Tok),3<=i->m.aD.a1[i]?=some t->t.bL≠n:=by
 have aj:lim=1000000000000\/lim<=1000000000000000:=by unfold lim; omega
 unfold vR;refine .ar (Ξ:=gK (λ_=>∀ (i:Nat) (t:Tok),3<=i->m.aD.a1[i]?=some t->t.bL≠n) (λr:Int=>0<=r)) ?_ λr ah=>?_
 ·refine Par.loop (λs=>3<=s/\s<=m.aD.a1.length/\∀ (i:Nat) (t:Tok),3<=i->(i:Int)<s->m.aD.a1[i]?=some t->t.bL≠n) ⟨by decide,by omega,λi t h1 af=>by omega⟩ λs ay=>?_;obtain ⟨h1,af,ay⟩:=ay;refine Par.ba (λaT=>?_) (λdC=>.ag λi t hi aq=>ay i t hi ?_ aq)
  ·refine .go λy al=>?_;obtain ⟨_,_,al⟩:=vF al;have hw:aG (s+1)=s+1:=by rw [cm]; omega
   rw [hw];refine Par.ba (λe=>.ag (show (0:Int)<=s by omega)) (λe=>.ag ⟨by omega,by omega,λi t hi p8 aq=>?_⟩);by_cases b9:i=s.toNat
   ·subst b9;rw [al] at aq; cases aq; exact e
   ·exact ay i t hi (by omega) aq
  ·have:=(List.getElem?_eq_some_iff.1 aq).1;omega
 ·rcases r with _ | r
  ·exact .ag λ_=>ah
  ·exact .ag λh=>by have:(0:Int)<=r:=ah; omega
theorem De {α:Type}{l:List α}{x:α}(i:Nat) {y:α}(h:(l++[x])[i]?=some y):(i<l.length/\l[i]?=some y)\/(i=l.length/\y=x):=by
 by_cases hi:i<l.length
 ·rw [List.getElem?_append_left hi] at h;exact .inl ⟨hi,h⟩
 ·rw [List.getElem?_append_right (by omega)] at h;by_cases e:i - l.length=0
  ·rw [e] at h;simp at h;exact .inr ⟨by omega,h.symm⟩
  ·have:([x]:List α)[i - l.length]?=none:=by rw [List.getElem?_eq_none]; simp; omega
   rw [this] at h; cases h
theorem Pc (m:ei) (x:Sym) (hm:fe m) (j:j3 x) (ay:x.Name.size<=dp):Par (s4 m x) λr=>fe r.2/\(r.1=1\/3<=r.1):=by
 unfold s4;have aj:lim<=1000000000000000:=by unfold lim; omega
 refine .ar (Yd m x hm.a.lo hm.a.hi) λr ah=>Par.ba (λh=>.ag ⟨hm,?_⟩) (λ_=>?_)
 ·show r=1\/3<=r;omega
 refine .ar (Ξ:=λJ:ei × Int=>J.1.aD=m.aD/\J.1.cd=m.cd/\J.1.b0=m.b0/\fe J.1/\J.2<=50000/\(J.1.cN=0->(x.Lit=true->0<J.2/\∀ (i:Nat) (t:Tok),m.aD.a1[i]?=some t->t.bL≠J.2)/\(x.Lit=false->J.2=0))) ?_ λJ ai=>?_
 ·refine Par.bk (λnY=>?_) (λnY=>.ag ⟨rfl,rfl,rfl,hm,by show (0:Int)<=_; decide,λ_=>⟨λh=>(by rw [nY] at h; cases h),λ_=>rfl⟩⟩);obtain ⟨_,h1,af,_⟩:=j.lit nY;refine .ar (Ξ:=λc=>c=iT x.Name 0) (λc aa=>?_) λc aa=>?_
  ·unfold gN at aa
   split at aa
   ·exact (Option.some.inj aa).symm
   ·cases aa
  subst aa;have hw:aG (iT x.Name 0)=iT x.Name 0:=by rw [cm]; omega
  rw [hw];refine .ar (Pd m (iT x.Name 0) hm.a.lo hm.a.hi) λo aU=>?_;refine .ar (Ξ:=λJ:ei=>J.aD=m.aD/\J.cd=m.cd/\J.b0=m.b0/\fe J/\(J.cN=0->m.cN=0/\o<0)) (Par.ba (λh=>.ar (l0 m x.At x.Name) λbh aI=>.ag ⟨aI.1.g,aI.1.gf,aI.1.fa,hm.fail aI,λe=>absurd e aI.2⟩) (λh=>.ag ⟨rfl,rfl,rfl,hm,λe=>⟨e,by omega⟩⟩)) λJ ai=>.ag ⟨ai.1,ai.2.1,ai.2.2.1,ai.2.2.2.1,by show iT x.Name 0<=_; omega,λe=>⟨λ_=>⟨h1,λi t aq=>?_⟩,λh=>(by rw [nY] at h; cases h)⟩⟩;obtain ⟨cr,b9⟩:=ai.2.2.2.2 e;by_cases aJ:3<=i
  ·exact aU b9 i t aJ aq
  ·have:=(hm.b cr).aP i t (by omega) aq;show t.bL≠iT x.Name 0;omega
 ·obtain ⟨aN,rN,vm,dk,hle,he⟩:=ai;have zc:J.1.cN=0->tx m.aD.a1 m.cd:=λe=>by have:=dk.b e; rwa [aN,rN] at this
  refine Par.ap λsH=>Par.ap λ_=>.ag ?_;rw [aN] at sH;rw [aN,rN,vm];simp only [List.length_cons,List.length_nil] at sH;have aJ:=hm.a.lo;have Nz:=hm.a.MV;refine ⟨⟨⟨by simp [Nz],by show 3<=(m.aD.a1++[_]).length; simp; omega,by show (m.aD.a1++[_]).length<=_; simp; omega,λt aq=>?_,λt aq=>?_⟩,λhC=>?_,hm.fa⟩,?_⟩
  ·rcases List.mem_append.1 aq with aq | aq
   ·exact hm.a.nF t aq
   ·rw [List.mem_singleton.1 aq];exact ⟨ay,λh=>(j.lit h).1⟩
  ·rcases List.mem_append.1 aq with aq | aq
   ·exact hm.a.le t aq
   ·rw [List.mem_singleton.1 aq]; exact hle
  ·have Mp:J.1.cN=0:=hC;have av:=zc Mp;obtain ⟨Im,By⟩:=he Mp;refine ⟨λi t hi aq=>?_,λi k s t ay aq aO heq=>?_,λi t hi aq=>?_⟩
   ·rcases De i aq with ⟨h1,af⟩ | ⟨h1,_⟩
    ·exact av.aP i t hi af
    ·omega
   ·rcases De i ay with ⟨h1,af⟩ | ⟨h1,af⟩
    ·rcases De k aq with ⟨bx,cu⟩ | ⟨bx,cu⟩
     ·exact av.un i k s t af cu aO heq
     ·subst cu;have heq:s.bL=J.2:=heq;cases nY:x.Lit with
      | true=>exact absurd heq ((Im nY).2 i s af)
      | false=>have:=By nY; omega
    ·subst af;rcases De k aq with ⟨bx,cu⟩ | ⟨bx,cu⟩
     ·have heq:J.2=t.bL:=heq;have aO:0<J.2:=aO;cases nY:x.Lit with
      | true=>exact absurd heq.symm ((Im nY).2 k t cu)
      | false=>have:=By nY; omega
     ·omega
   ·have Up:(m.cd++[x.Lit])[i]?=if i=m.aD.a1.length then some x.Lit else m.cd[i]?:=by
     by_cases e:i=m.aD.a1.length
     ·rw [if_pos e,e,<- Nz,List.getElem?_append_right (Nat.le_refl _)]; simp
     ·have:=(List.getElem?_eq_some_iff.1 aq).1;simp at this;rw [if_neg e,List.getElem?_append_left (by omega)]
    show ((m.cd++[x.Lit])[i]?=some true->0<t.bL)/\((m.cd++[x.Lit])[i]?=some false->t.bL=0);rw [Up];rcases De i aq with ⟨h1,af⟩ | ⟨h1,af⟩
    ·rw [if_neg (by omega)];exact av.gf i t hi af
    ·rw [if_pos h1];subst af;exact ⟨λh=>(Im (Option.some.inj h)).1,λh=>By (Option.some.inj h)⟩
  ·right;show 3<=aG (((m.aD.a1++[_]).length:Int) - 1);simp only [List.length_append,List.length_cons,List.length_nil];rw [cm]; omega
theorem qd {α:Type}{l:List α}{i:Int}{y:α}(h:idx l i=some y):y∈l:=List.mem_of_getElem? (vF h).2.2
theorem fe.FL {m:ei}(h:fe m) {k:Nat}{t t':Tok}(hk:m.aD.a1[k]?=some t) (aA:t'.Name=t.Name) (aj:t'.Lit=t.Lit) (hu:t'.bL=t.bL):yN (m.aD.a1.set k t') m.cd/\(m.cN=0->tx (m.aD.a1.set k t') m.cd) :=
 ⟨h.a.set hk aA aj (by rw [hu]; exact h.a.le t (List.mem_of_getElem? hk)) rfl,λe=>(h.b e).FL hk hu⟩
theorem fe.Hu {m bh:ei}(h:fe m) (ay:qK m bh/\bh.cN≠0):fe (⟨(⟨m.aD.a1,bh.aD.bY,bh.aD.bd,bh.aD.b8,bh.aD.cf⟩:bt),bh.cd,bh.cv,bh.b0,bh.cN,bh.c',bh.c9,bh.ca,bh.bV⟩:ei) :=
 ⟨by show yN m.aD.a1 bh.cd; rw [ay.1.gf]; exact h.a,λe=>absurd e ay.2,by show ∀ y∈bh.b0,_; rw [ay.1.fa]; exact h.fa⟩
theorem Yc (m:ei) (d:Decl) (x:Sym) (hm:fe m) (j:j3 x) (ay:x.Name.size<=dp):Par (sZ m d x) fe:=by
 unfold sZ;refine Par.bk (λ_=>?_) (λ_=>?_)
 ·refine .ar (Ξ:=λ_=>True) (λ_ _=>trivial) λk _=>.ar (Ξ:=fe) ?_ λbh hm=>.ag hm;refine Par.ba (λ_=>Par.ap λ_=>.ag ⟨hm.a,hm.b,hm.fa⟩) (λ_=>?_);refine .go λy _=>.ar (Ξ:=fe) (Par.bk (λ_=>.ar (l0 m _ _) λbh h=>.ag (hm.fail h)) (λ_=>.ag hm)) λbh hm=>.ag hm
 ·refine .ar (Pc m x hm j ay) λr ah=>?_;obtain ⟨ah,h9⟩:=ah;refine .go λy al=>?_;refine .ar (Ξ:=fe) ?_ λez jj=>?_
  ·refine Par.bk (λ_=>?_) (λ_=>.ag ah);refine .ar (Ξ:=fe) (Par.bk (λ_=>.ar (l0 r.2 _ _) λbh h=>.ag (ah.Hu h)) (λ_=>.ag ah)) λc0 p2=>?_;refine .go λz aW=>?_;obtain ⟨_,_,aW⟩:=vF aW;rw [List.set_set];obtain ⟨h1,af⟩:=p2.FL (t':=(⟨z.Name,z.Lit,z.bL,c0.ca,aG (d.Kind - 1),z.Tag⟩:Tok)) aW rfl rfl rfl;exact .ag ⟨h1,af,p2.fa⟩
  refine .go λy _=>?_;refine .ar (Ξ:=fe) ?_ λeN p3=>?_
  ·refine Par.ba (λsI=>?_) (λ_=>.ag jj);refine .ar (Ξ:=λc:Bool=>c=false->r.1≠1/\∀ (i:Nat) (t:Tok),3<=i->ez.aD.a1[i]?=some t->t.bL≠x.bL) ?_ λc aa=>?_
   ·refine Par.ba (λ_=>.ag λh=>by cases h) (λh1=>.go λgf _=>Par.bk (λ_=>.ag λh=>by cases h) (λ_=>.ar (Pd ez x.bL jj.a.lo jj.a.hi) λo aU=>.ag λh=>⟨h1,aU (by have:=of_decide_eq_false h; omega)⟩))
   refine .ar (Ξ:=λJ=>fe J/\(J.cN=0->r.1≠1/\∀ (i:Nat) (t:Tok),3<=i->J.aD.a1[i]?=some t->t.bL≠x.bL)) (Par.bk (λ_=>.ar (l0 ez _ _) λbh h=>.ag ⟨jj.Hu h,λe=>absurd e h.2⟩) (λh=>.ag ⟨jj,λ_=>aa h⟩)) λdN oz=>?_;obtain ⟨oz,aA⟩:=oz;refine .go λz aW=>.go λgf rN=>.ag ?_;obtain ⟨aO,aT,aW⟩:=vF aW;obtain ⟨_,VY,rN⟩:=vF rN;have hle:=j.num;refine ⟨oz.a.set (t':=(⟨z.Name,z.Lit,x.bL,z.Level,z.e9,z.Tag⟩:Tok)) aW rfl rfl hle.2 (by simp),λe=>?_,oz.fa⟩;obtain ⟨aJ,bx⟩:=aA e;have av:=oz.b e;refine av.Zi (t':=(⟨z.Name,z.Lit,x.bL,z.Level,z.e9,z.Tag⟩:Tok)) aW (by omega) VY sI λi t aq=>?_;by_cases ace:3<=i
   ·grind
   ·have:=av.aP i t (by omega) aq
    grind
  refine .go λy _=>.ar (Ξ:=fe) ?_ λJ ai=>.ag ai;refine Par.bk (λ_=>?_) (λ_=>.ag p3);refine .ar (Ξ:=λ_=>True) (λ_ _=>trivial) λc _=>?_;refine .ar (Ξ:=fe) (Par.bk (λ_=>.ar (l0 eN _ _) λbh h=>.ag (p3.Hu h)) (λ_=>.ag p3)) λmu sA=>?_;refine .go λz aW=>?_;obtain ⟨_,_,aW⟩:=vF aW;obtain ⟨h1,af⟩:=sA.FL (t':=(⟨z.Name,z.Lit,z.bL,z.Level,z.e9,d.Tag⟩:Tok)) aW rfl rfl rfl;exact .ag ⟨h1,af,sA.fa⟩
theorem Pe (m:ei) (x:Sym) (hm:fe m) (j:j3 x) (ay:x.Name.size<=dp):Par (q4 m x) λr=>fe r.2:=by
 unfold q4;refine Par.bk (λ_=>.ar (Pc m x hm j ay) λr ah=>.ag ah.1) (λ_=>.ar (Ξ:=λ_=>True) (λ_ _=>trivial) λk _=>Par.bk (λ_=>.ag hm) (λ_=>.ar (Ξ:=λ_=>True) (λ_ _=>trivial) λt _=>Par.bk (λ_=>.ar (l0 m _ _) λbh h=>.ag (hm.fail h)) (λ_=>.ag hm)))
theorem Ye (m:ei) (left:ByteArray) (a:Alt) (hm:fe m) (av:yp a) (aR:(∀ p∈a.Parts,j3 p.Sym)/\j3 a.Prec):Par (s3 m left a) fe:=by
 have aA:=av.n;unfold s3;refine .ar (Ξ:=λ_=>True) (λ_ _=>trivial) λa6 _=>?_;refine .ar (Ξ:=λr:ei × List Int × ByteArray × Int=>fe r.1) ?_ λaX aJ=>?_
 ·refine Par.loop (λs=>fe s.1/\0<=s.2.2.2.2) ⟨hm,Int.le_refl 0⟩ λs ay=>?_;obtain ⟨m1,rt,bk,at_,i⟩:=s;obtain ⟨ay,aO⟩:=ay;simp only at ay aO ⊢;refine Par.ba (λaT=>?_) (λ_=>.ag ay);refine .ar (Ξ:=λJ:ei × List Int × ByteArray × Int=>fe J.1) ?_ λJ ai=>.ag ⟨ai,by show 0<=aG (i+1); rw [cm]; omega⟩;refine .go λy al=>.ar (Ξ:=λJ:ei × List Int × ByteArray × Int=>fe J.1) ?_ λJ ai=>.ag ai;have EV:=(qd al);refine .ar (Ξ:=λJ:ei × List Int × ByteArray × Int=>fe J.1) ?_ λJ ai=>.ag ai;refine Par.bk (λ_=>?_) (λ_=>?_)
  ·exact .ar (Pe m1 y.Sym ay (aR.1 y EV) (av.parts y EV).1) λr ah=>Par.ap λ_=>.ag ah
  ·exact .ar (Ξ:=λ_=>True) (λ_ _=>trivial) λJ _=>.ag ⟨ay.a,ay.b,ay.fa⟩
 ·refine .ar (Ξ:=λ_=>True) (λ_ _=>trivial) λgj _=>?_;refine .ar (Ξ:=λJ:ei × Int=>fe J.1) ?_ λJ ai=>Par.ap λ_=>Par.ap λ_=>.ag ⟨ai.a,ai.b,ai.fa⟩;refine Par.bk (λ_=>?_) (λ_=>.ag aJ);refine .ar (Ξ:=λ_=>True) (λ_ _=>trivial) λc _=>.ar (Ξ:=λJ:ei × Int=>fe J.1) ?_ λJ ai=>.ag ai;exact Par.bk (λ_=>.ar (Pe aX.1 a.Prec aJ aR.2 av.prec) λr ah=>.ag ah) (λ_=>.ar (l0 aX.1 _ _) λbh h=>.ag (aJ.fail h))
structure tn (g:bt):Prop where
 aP:∀ (i:Nat) (t:Tok),i<3->g.a1[i]?=some t->t.bL<=0
 pos:∀ (i:Nat) (t:Tok),3<=i->g.a1[i]?=some t->0<t.bL/\t.bL<=100000
 un:∀ (i J:Nat) (s t:Tok),g.a1[i]?=some s->g.a1[J]?=some t->0<s.bL->s.bL=t.bL->i=J
 nF:∀ t∈g.a1,t.Name.size<=dp/\(t.Lit=true->t.Name.size=1)
 de:∀ x∈g.bY,x.Name.size<=4 * dp
theorem Yh (s:Source) (av:oo s):Par (qn s) λr=>r.2.1=0->tn r.1:=by
 have Vy:=av.wR;have BO:=av.aL;unfold qn;refine .ar (Yi s av) λc aa=>Par.bk (λ_=>.ag λh=>absurd h (by decide)) (λlR=>?_);have ok:Ll s:=aa (by simpa using lR);refine .ar (Ξ:=λl=>l=List.replicate 3 false) (λa e=>by unfold nC at e; split at e <;> cases e; rfl) λaX jP=>?_;subst jP
 -- declarations
 refine .ar (Ξ:=λr:ei × ByteArray=>fe r.1) ?_ λbK cu=>?_
 ·refine Par.loop (λz=>fe z.1/\0<=z.2.2) ⟨⟨⟨rfl,Nat.le_refl 3,by show 3<=lim; unfold lim; omega,λt aq=>?_,λt aq=>?_⟩,λ_=>⟨λi t hi aq=>?_,λi J a b aR av aO he=>?_,λi t hi aq=>?_⟩,λy al=>by cases al⟩,Int.le_refl 0⟩ λz aW=>?_
  ·have aq:t∈[_,_,_]:=aq;simp only [List.mem_cons,List.not_mem_nil,or_false] at aq;rcases aq with rfl | rfl | rfl <;> exact ⟨by decide,λh=>by cases h⟩
  ·have aq:t∈[_,_,_]:=aq;simp only [List.mem_cons,List.not_mem_nil,or_false] at aq;rcases aq with rfl | rfl | rfl <;> decide
  ·have aq:t∈[_,_,_]:=List.mem_of_getElem? aq;simp only [List.mem_cons,List.not_mem_nil,or_false] at aq;rcases aq with rfl | rfl | rfl <;> decide
  ·have aR:a∈[_,_,_]:=List.mem_of_getElem? aR;simp only [List.mem_cons,List.not_mem_nil,or_false] at aR;rcases aR with rfl | rfl | rfl <;> exact absurd aO (by decide)
  ·have:=(List.getElem?_eq_some_iff.1 aq).1;have:i<3:=this;omega
  ·obtain ⟨m,st,i⟩:=z;obtain ⟨hm,aO⟩:=aW;simp only at hm aO ⊢;refine Par.ba (λaT=>?_) (λ_=>.ag hm);refine .go λd aP=>?_;have jn:=qd aP;refine .ar (Ξ:=λ_=>True) (λ_ _=>trivial) λ_ _=>.ar (Ξ:=λ_=>True) (λ_ _=>trivial) λi_ _=>?_;refine .ar (Ξ:=λr:ei × ByteArray=>fe r.1) ?_ λr ah=>.ag ⟨ah,by show 0<=aG (i+1); rw [cm]; omega⟩;refine Par.loop (λz=>fe z.1/\0<=z.2.2) ⟨⟨hm.a,hm.b,hm.fa⟩,Int.le_refl 0⟩ λz aW=>?_;obtain ⟨m,st,k⟩:=z;obtain ⟨hm,HB⟩:=aW;simp only at hm HB ⊢;have Er:=(av.decls d jn).n;refine Par.ba (λuh=>?_) (λ_=>.ag hm);refine .ar (Ξ:=λr:ei × ByteArray=>fe r.1) ?_ λr ah=>.ag ⟨ah,by show 0<=aG (k+1); rw [cm]; omega⟩;refine Par.bk (λ_=>.go λx j=>?_) (λ_=>?_)
   ·have vD:=qd j;exact .ar (Yc m d x hm (ok.decls d jn x vD) ((av.decls d jn).syms x vD)) λbh gS=>.ag gS
   ·refine .ar (Ξ:=fe) (Par.bk (λ_=>.go λ_ _=>.go λ_ _=>.ar (l0 m _ _) λbh h=>.ag (hm.fail h)) (λ_=>.ag hm)) λbh gS=>.go λ_ _=>.ag gS
 -- what stands on the left
 refine .ar (Ξ:=fe) ?_ λcC Bb=>?_
 ·refine Par.loop (λz=>fe z.1/\0<=z.2) ⟨cu,Int.le_refl 0⟩ λz aW=>?_;obtain ⟨m,i⟩:=z;obtain ⟨hm,aO⟩:=aW;simp only at hm aO ⊢;refine Par.ba (λaT=>?_) (λ_=>.ag hm);refine .ar (Ξ:=fe) ?_ λr ah=>.ag ⟨ah,by show 0<=aG (i+1); rw [cm]; omega⟩;refine .go λr ah=>.ar (Ξ:=λ_=>True) (λ_ _=>trivial) λ_ _=>?_;refine .ar (Ξ:=fe) (Par.bk (λ_=>.ar (l0 m _ _) λbh h=>.ag (hm.fail h)) (λ_=>.ag hm)) λiA mc=>?_;refine .ar (Ξ:=λ_=>True) (λ_ _=>trivial) λ_ _=>?_;refine .ar (Ξ:=λl:List ByteArray=>∀ y∈l,y.size<=dp) (Par.bk (λ_=>Par.ap λ_=>.ag λy al=>?_) (λ_=>.ag mc.fa)) λl aj=>.ag ⟨mc.a,mc.b,aj⟩;rcases List.mem_append.1 al with al | al
  ·exact mc.fa y al
  ·rw [List.mem_singleton.1 al]; exact (av.rules r (qd ah)).left
 -- types and starts
 refine .ar (Ξ:=fe) ?_ λht qP=>?_
 ·refine Par.loop (λz=>fe z.1) Bb λz hm=>?_;obtain ⟨m,i⟩:=z;simp only at hm ⊢;refine Par.ba (λaT=>?_) (λ_=>.ag hm);refine .ar (Ξ:=fe) ?_ λr ah=>.ag ah;refine Par.loop (λz=>fe z.1) hm λz hm=>?_;obtain ⟨m,k⟩:=z;simp only at hm ⊢;refine .go λd _=>Par.ba (λaT=>?_) (λ_=>.ag hm);refine .ar (Ξ:=fe) ?_ λr ah=>.ag ah;refine .go λ_ _=>.go λ_ _=>.ar (Ξ:=λ_=>True) (λ_ _=>trivial) λ_ _=>?_;exact .ar (Ξ:=fe) (Par.bk (λ_=>.ar (l0 m _ _) λbh h=>.ag (hm.fail h)) (λ_=>.ag hm)) λbh gS=>.ag gS
 refine .ar (Ξ:=λ_=>True) (λ_ _=>trivial) λvJ _=>.ar (Ξ:=λ_=>True) (λ_ _=>trivial) λl5 _=>?_
 -- the alternatives
 refine .ar (Ξ:=fe) ?_ λbp ni=>?_
 ·refine Par.loop (λz=>fe z.1/\0<=z.2) ⟨⟨qP.a,qP.b,qP.fa⟩,Int.le_refl 0⟩ λz aW=>?_;obtain ⟨m,i⟩:=z;obtain ⟨hm,aO⟩:=aW;simp only at hm aO ⊢;refine Par.ba (λaT=>?_) (λ_=>.ag hm);refine .ar (Ξ:=fe) ?_ λr ah=>.ag ⟨ah,by show 0<=aG (i+1); rw [cm]; omega⟩;refine Par.loop (λz=>fe z.1/\0<=z.2) ⟨hm,Int.le_refl 0⟩ λz aW=>?_;obtain ⟨m,k⟩:=z;obtain ⟨hm,HB⟩:=aW;simp only at hm HB ⊢;refine .go λd aP=>Par.ba (λuh=>?_) (λ_=>.ag hm);have jn:=qd aP;have Er:=(av.rules d jn).n;refine .go λd1 Ik=>.go λd2 w9=>.go λa aR=>?_;rw [aP] at Ik w9;cases Ik; cases w9;have Ni:=qd aR;exact .ar (Ye m d.Left a hm ((av.rules d jn).alts a Ni) (ok.rules d jn a Ni)) λbh gS=>.ag ⟨gS,by show 0<=aG (k+1); rw [cm]; omega⟩
 refine Par.kZ (λh=>.ag λaI=>absurd aI h) (λhe=>?_);have IP:=ni.b he
 -- nonterminals
 refine .ar (Ξ:=λl:List e_=>1<=l.length/\∀ x∈l,x.Name.size<=4 * dp) ?_ λth Bd=>?_
 ·refine Par.loop (λz=>1<=z.1.length/\∀ x∈z.1,x.Name.size<=4 * dp) ⟨Nat.le_refl 1,λx j=>?_⟩ λz aW=>?_
  ·rw [List.mem_singleton.1 j]; decide
  ·refine Par.bk (λ_=>.go λy al=>.go λ_ _=>.ar (Ξ:=λ_=>True) (λ_ _=>trivial) λ_ _=>Par.ap λ_=>.ag ⟨by show 1<=(z.1++[_]).length; simp,λx j=>?_⟩) (λ_=>.ag aW);rcases List.mem_append.1 j with j | j
   ·exact aW.2 x j
   ·rw [List.mem_singleton.1 j];have:=ni.fa y (qd al);show y.size<=4 * dp;omega
 refine .ar (Ξ:=λl:List e_=>l.length<=24->∀ x∈l,x.Name.size<=4 * dp) ?_ λky Eh=>?_
 ·refine Par.loop (λz=>(z.1.length<=24->∀ x∈z.1,x.Name.size<=4 * dp)/\0<=z.2/\z.2<=z.1.length) ⟨λ_=>Bd.2,by show (0:Int)<=1; decide,by have:=Bd.1; show (1:Int)<=(th.length:Int); omega⟩ λz aW=>?_;obtain ⟨l,i⟩:=z;obtain ⟨aj,aO,hi⟩:=aW;simp only at aj aO hi ⊢;refine Par.ba (λhle=>.go λy al=>?_) (λ_=>.ag aj);refine Par.cat (Par.ap λsH=>.ag ⟨λhlen x j=>?_,by show 0<=aG (i+1); unfold lim at sH; simp only [List.length_cons,List.length_nil] at sH; rw [cm]; omega,by show aG (i+1)<=(((l++[_]).length:Nat):Int); unfold lim at sH; simp only [List.length_cons,List.length_nil,List.length_append] at sH ⊢; rw [cm]; omega⟩);have hlen:(l++[_]).length<=24:=hlen;simp only [List.length_append,List.length_cons,List.length_nil] at hlen;rcases List.mem_append.1 j with j | j
  ·exact aj (by omega) x j
  ·rw [List.mem_singleton.1 j];have eM:=(t18 i aO (by omega)).eq al;show (_++y).size<=4 * dp;rw [ByteArray.size_append];show 1+y.size<=4 * dp;simp only [dp]; omega
 -- numbers
 have dk:=ni.a;have sH:bp.aD.a1.length<=1000000000000000:=by have:=dk.hi; unfold lim at this; omega
 refine .ar (Ξ:=λl:List Tok=>∃ (i next:Int),l.length=bp.aD.a1.length/\(l.length:Int)<=i/\(∀ (J:Nat) (t:Tok),l[J]?=some t->∃ t0,bp.aD.a1[J]?=some t0/\t.Name=t0.Name/\t.Lit=t0.Lit/\((t.bL=t0.bL/\(¬ (3<=J/\(J:Int)<i)\/bp.cd[J]?=some true))\/(57346<=t.bL/\t.bL<next/\3<=J/\(J:Int)<i)))/\(∀ (J k:Nat) (s t:Tok),l[J]?=some s->l[k]?=some t->57346<=s.bL->s.bL=t.bL->J=k)/\57346<=next/\next<=57343+i/\i<=l.length) ?_ λlI Ei=>?_
 ·refine Par.loop (λz=>z.1.length=bp.aD.a1.length/\(∀ (J:Nat) (t:Tok),z.1[J]?=some t->∃ t0,bp.aD.a1[J]?=some t0/\t.Name=t0.Name/\t.Lit=t0.Lit/\((t.bL=t0.bL/\(¬ (3<=J/\(J:Int)<z.2.2)\/bp.cd[J]?=some true))\/(57346<=t.bL/\t.bL<z.2.1/\3<=J/\(J:Int)<z.2.2)))/\(∀ (J k:Nat) (s t:Tok),z.1[J]?=some s->z.1[k]?=some t->57346<=s.bL->s.bL=t.bL->J=k)/\57346<=z.2.1/\z.2.1<=57343+z.2.2/\3<=z.2.2/\z.2.2<=z.1.length) ⟨rfl,λJ t aq=>⟨t,aq,rfl,rfl,.inl ⟨rfl,.inl (by show ¬ (3<=J/\(J:Int)<3); omega)⟩⟩,λJ k s t ay aq aO he=>?_,by show (57346:Int)<=57346; decide,by show (57346:Int)<=57343+3; decide,Int.le_refl 3,by have:=dk.lo; show (3:Int)<=(bp.aD.a1.length:Nat); omega⟩ λz aW=>?_
  ·have:=dk.le s (List.mem_of_getElem? ay); omega
  obtain ⟨l,next,i⟩:=z;obtain ⟨aj,e4,pk,k6,vn,VL,oF⟩:=aW;simp only at aj e4 pk k6 vn VL oF ⊢;have hw:aG (i+1)=i+1:=by rw [cm]; omega
  have WL:aG (next+1)=next+1:=by rw [cm]; omega
  rw [hw,WL];refine Par.ba (λaT=>?_) (λdC=>.ag ⟨i,next,aj,by omega,e4,pk,k6,vn,oF⟩);have NC:i.toNat<l.length:=by omega
  refine .ar (Ξ:=λJ:List Tok × Int=>J.1.length=bp.aD.a1.length/\(∀ (k:Nat) (t:Tok),J.1[k]?=some t->∃ t0,bp.aD.a1[k]?=some t0/\t.Name=t0.Name/\t.Lit=t0.Lit/\((t.bL=t0.bL/\(¬ (3<=k/\(k:Int)<i+1)\/bp.cd[k]?=some true))\/(57346<=t.bL/\t.bL<J.2/\3<=k/\(k:Int)<i+1)))/\(∀ (a k:Nat) (s t:Tok),J.1[a]?=some s->J.1[k]?=some t->57346<=s.bL->s.bL=t.bL->a=k)/\57346<=J.2/\J.2<=57343+(i+1)) ?_ λJ ai=>.ag ⟨ai.1,ai.2.1,ai.2.2.1,ai.2.2.2.1,ai.2.2.2.2,by show 3<=i+1; omega,by show i+1<=(J.1.length:Nat); rw [ai.1,<- aj]; omega⟩;refine .go λgf rN=>.ar (Ξ:=λJ:List Tok × Int=>J.1.length=bp.aD.a1.length/\(∀ (k:Nat) (t:Tok),J.1[k]?=some t->∃ t0,bp.aD.a1[k]?=some t0/\t.Name=t0.Name/\t.Lit=t0.Lit/\((t.bL=t0.bL/\(¬ (3<=k/\(k:Int)<i+1)\/bp.cd[k]?=some true))\/(57346<=t.bL/\t.bL<J.2/\3<=k/\(k:Int)<i+1)))/\(∀ (a k:Nat) (s t:Tok),J.1[a]?=some s->J.1[k]?=some t->57346<=s.bL->s.bL=t.bL->a=k)/\57346<=J.2/\J.2<=57343+(i+1)) ?_ λJ ai=>.ag ai;obtain ⟨_,_,rN⟩:=vF rN;refine Par.bk (λaN=>.go λy al=>.ag ?_) (λaN=>.ag ⟨aj,λk t aq=>?_,pk,k6,by omega⟩)
  ·obtain ⟨_,_,al⟩:=vF al;obtain ⟨t0,hC,cr,b9,fi⟩:=e4 _ y al;have ac0:y.bL<next:=by
    rcases fi with ⟨fi,_⟩ | fi
    ·have:=dk.le t0 (List.mem_of_getElem? hC); omega
    ·exact fi.2.1
   have lz:∀ (k:Nat) (t:Tok),l[k]?=some t->t.bL<next:=λk t aq=>by
    obtain ⟨t1,f0,_,_,f3⟩:=e4 k t aq;rcases f3 with ⟨f3,_⟩ | f3
    ·have:=dk.le t1 (List.mem_of_getElem? f0); omega
    ·exact f3.2.1
   refine ⟨by show (l.set _ _).length=_; rw [List.length_set]; exact aj,λk t aq=>?_,λa k s t ay aq aO he=>?_,by show 57346<=next+1; omega,by show next+1<=_; omega⟩
   ·have aq:(l.set i.toNat _)[k]?=some t:=aq;rw [uN NC] at aq;by_cases e:k=i.toNat
    ·rw [if_pos e] at aq;cases aq;subst e;exact ⟨t0,hC,cr,b9,.inr ⟨k6,by show next<next+1; omega,by omega,by omega⟩⟩
    ·rw [if_neg e] at aq;obtain ⟨t1,f0,f1,f2,f3⟩:=e4 k t aq;refine ⟨t1,f0,f1,f2,?_⟩;rcases f3 with ⟨f3,f4⟩ | f3
     ·exact .inl ⟨f3,f4.imp (λh=>by omega) id⟩
     ·exact .inr ⟨f3.1,by show t.bL<next+1; omega,f3.2.2.1,by omega⟩
   ·have ay:(l.set i.toNat _)[a]?=some s:=ay;have aq:(l.set i.toNat _)[k]?=some t:=aq;rw [uN NC] at ay aq;by_cases e:a=i.toNat
    ·rw [if_pos e] at ay;cases ay;by_cases b_:k=i.toNat
     ·omega
     ·rw [if_neg b_] at aq;have h1:=lz k t aq;have he:next=t.bL:=he;omega
    ·rw [if_neg e] at ay;by_cases b_:k=i.toNat
     ·rw [if_pos b_] at aq;cases aq;have h1:=lz a s ay;have he:s.bL=next:=he;omega
     ·rw [if_neg b_] at aq;exact pk a k s t ay aq aO he
  ·obtain ⟨t1,f0,f1,f2,f3⟩:=e4 k t aq;refine ⟨t1,f0,f1,f2,?_⟩;rcases f3 with ⟨f3,f4⟩ | f3
   ·by_cases e:k=i.toNat
    ·refine .inl ⟨f3,.inr ?_⟩;rw [e,rN];simpa using aN
    ·exact .inl ⟨f3,f4.imp (λh=>by omega) id⟩
   ·exact .inr ⟨f3.1,f3.2.1,f3.2.2.1,by omega⟩
 -- limits
 refine .ar (Ξ:=λc=>c=false->lI.length<=40/\ky.length<=24) ?_ λsu HC=>?_
 ·exact Par.ba (λ_=>.ag λh=>by cases h) (λh1=>Par.ba (λ_=>.ag λh=>by cases h) (λaf=>.ag λh=>by omega))
 refine .ar (Ξ:=λc=>c=false->su=false) ?_ λAl HD=>?_
 ·refine Par.loop (λz=>z.1=false->su=false) id λz aW=>?_;refine Par.bk (λ_=>?_) (λ_=>.ag aW);exact .ar (Ξ:=λc=>c=false->su=false) (Par.bk (λ_=>.ag λh=>by cases h) (λh=>.go λ_ _=>.ag λ_=>aW h)) λc aa=>.ag aa
 refine Par.bk (λ_=>.ag λh=>absurd h (by decide)) (λaa=>.ag λ_=>?_);obtain ⟨jO,kc⟩:=HC (HD aa);obtain ⟨i,next,aj,dC,e4,pk,k6,vn,oF⟩:=Ei;refine ⟨λJ t ai aq=>?_,λJ t ai aq=>?_,λJ k s t ay aq aO By=>?_,λt aq=>?_,Eh kc⟩
 ·obtain ⟨t0,hC,_,_,fi⟩:=e4 J t aq;rcases fi with ⟨fi,_⟩ | fi
  ·rw [fi]; exact IP.aP J t0 ai hC
  ·omega
 ·have eU:J<lI.length:=(List.getElem?_eq_some_iff.1 aq).1;obtain ⟨t0,hC,_,_,fi⟩:=e4 J t aq;rcases fi with ⟨fi,ph⟩ | fi
  ·rcases ph with ph | ph
   ·omega
   ·have h1:=(IP.gf J t0 ai hC).1 ph;have af:=dk.le t0 (List.mem_of_getElem? hC);omega
  ·omega
 ·by_cases T3:57346<=s.bL
  ·exact pk J k s t ay aq T3 By
  ·obtain ⟨eF,hC,_,_,fi⟩:=e4 J s ay;obtain ⟨t0,f0,_,_,f3⟩:=e4 k t aq;rcases fi with ⟨fi,_⟩ | fi
   ·rcases f3 with ⟨f3,_⟩ | f3
    ·exact IP.un J k eF t0 hC f0 (by omega) (by omega)
    ·omega
   ·omega
 ·obtain ⟨J,ai,rfl⟩:=List.mem_iff_getElem.1 aq;obtain ⟨t0,hC,cr,b9,_⟩:=e4 J _ (List.getElem?_eq_getElem ai);have:=dk.nF t0 (List.mem_of_getElem? hC);rw [cr,b9]; exact this
theorem KK:xW=some true:=by kernel_rfl
open Go Go.Own Go.Lib
theorem wF {a b:ByteArray}(h:a.data.toList=b.data.toList):a=b:=by
 cases a; cases b; congr; exact Array.ext' h
theorem kk (a b:ByteArray):(a++b).data.toList=a.data.toList++b.data.toList:=by rw [ByteArray.data_append,Array.toList_append]
theorem kl (a:ByteArray):a.size=a.data.toList.length:=(Array.length_toList ..).symm
theorem R8 {a:ByteArray}(h:a.size=0):a=⟨#[]⟩:=wF (List.eq_nil_of_length_eq_zero (by rw [<- kl,h]))
theorem g_ (a b:ByteArray):(a++b).size=a.size+b.size:=ByteArray.size_append
theorem XR (u:Nat):1<=(decDigits u).length:=by rw [decDigits_length]; exact nDigits_pos u
theorem Cn {u:Nat}(h:u<18446744073709551616):(decDigits u).length<=20:=by
 rw [decDigits_length];rcases Nat.eq_zero_or_pos u with rfl | h1
 ·rw [nDigits_small (by omega)]; omega
 ·have:=numDigits_eq u h1 h
  split at this <;> omega
theorem Mn (u:Nat) (hu:u<18446744073709551616) (f:Int × ByteArray->Option ((Int × ByteArray) ⊕ ByteArray))
  (aS:f=λ(dn:Int × ByteArray) =>
((bif decide (0<dn.1) then some true else some (decide (dn.2=⟨#[]⟩)))).bind λpW =>
(bif pW then
(pI dn.1 10).bind λdG =>
(e' (strOfNums [rn (IntKind.u64.wrap (48+dG))]) dn.2).bind λbF =>
(pH dn.1 10).bind λcB =>
some (.inl (cB,bF))
else
some (.inr dn.2))):b5 (R:=ByteArray) f ((u:Int),⟨#[]⟩)=some ⟨(decDigits u).toArray⟩:=by
 suffices h:Tot (b5 (R:=ByteArray) f ((u:Int),⟨#[]⟩)) λr=>r=⟨(decDigits u).toArray⟩ by
  obtain ⟨r,ah,e⟩:=h; rw [ah,e]
 refine Tot.loop (λs=>∃ m:Nat,s.1=m/\m<18446744073709551616/\((s.2.size=0/\m=u)\/(0<s.2.size/\(if m=0 then [] else decDigits m)++s.2.data.toList=decDigits u)))
  (λs=>if s.1=0 then (if s.2.size=0 then 1 else 0) else (decDigits s.1.toNat).length+1) ⟨u,rfl,hu,.inl ⟨rfl,rfl⟩⟩ ?_ ?_
 ·show (if (u:Int)=0 then _ else _)<1000000000000000000
  have:=Cn hu;split
  ·split <;> omega
  ·simp only [Int.toNat_natCast]; omega
 ·rintro ⟨x,s⟩ ⟨m,j,hm,ay⟩;simp only at j ay;subst j;rw [aS];by_cases NA:0<m\/s.size=0
  ·have aa:(bif decide (0<((m:Int),s).1) then some true else some (decide (((m:Int),s).2=⟨#[]⟩)))=some true:=by
    simp only;by_cases aO:0<(m:Int)
    ·rw [decide_eq_true aO]; rfl
    ·rw [decide_eq_false aO];show some (decide (s=⟨#[]⟩))=some true;rw [decide_eq_true (R8 (by omega))]
   simp only [aa,Option.bind_some,cond_true];have EB:(m:Int).tmod 10=((m % 10:Nat):Int):=by
    rw [Int.tmod_eq_emod_of_nonneg (by omega)]; omega
   have hdiv:IntKind.u64.wrap ((m:Int).tdiv 10)=((m / 10:Nat):Int):=by
    rw [Int.tdiv_eq_ediv_of_nonneg (by omega),IntKind.wrap_u64]; omega
   have Vx:rn (IntKind.u64.wrap (48+(m:Int).tmod 10))=((48+m % 10:Nat):Int):=by
    show IntKind.u8.wrap _=_;rw [EB,IntKind.wrap_u64,IntKind.wrap_u8]; omega
   have gv:(strOfNums [((48+m % 10:Nat):Int)]).data.toList=[UInt8.ofNat (48+m % 10)]:=rfl;have eM:(strOfNums [((48+m % 10:Nat):Int)]).size=1:=strOfNums_size _
   -- what is there behind the step
   have h6:(if m / 10=0 then [] else decDigits (m / 10))++(UInt8.ofNat (48+m % 10)::s.data.toList)=decDigits u:=by
    have bG:(if m / 10=0 then [] else decDigits (m / 10))++[UInt8.ofNat (48+m % 10)]=decDigits m:=by
     by_cases rH:m<10
     ·rw [if_pos (by omega),decDigits,dif_pos rH,Nat.mod_eq_of_lt rH]; rfl
     ·rw [if_neg (by omega)]
      conv=>rhs; rw [decDigits,dif_neg rH]
    rw [show UInt8.ofNat (48+m % 10)::s.data.toList=[UInt8.ofNat (48+m % 10)]++s.data.toList from rfl,<- List.append_assoc,bG]
    rcases ay with ⟨aO,rfl⟩ | ⟨aO,h1⟩
    ·rw [List.eq_nil_of_length_eq_zero (l:=s.data.toList) (by rw [<- kl]; exact aO),List.append_nil]
    ·rw [if_neg (by omega)] at h1; exact h1
   have adb:s.size+1<=20:=by
    have h1:=congrArg List.length h6;have af:=Cn hu;rw [List.length_append,List.length_cons,<- kl] at h1;omega
   refine .bi (.pI (by omega) (.bi ?_));rw [Vx];refine .cat (by rw [eM]; omega) (.bi (.pH (by omega) (.ag ?_)));rw [hdiv];refine ⟨⟨m / 10,rfl,by omega,.inr ⟨by rw [g_,eM]; omega,?_⟩⟩,?_⟩
   ·show _++(strOfNums [((48+m % 10:Nat):Int)]++s).data.toList=_;rw [kk,gv]; exact h6
   ·show (if ((m / 10:Nat):Int)=0 then (if (strOfNums [((48+m % 10:Nat):Int)]++s).size=0 then 1 else 0) else (decDigits ((m / 10:Nat):Int).toNat).length+1)<(if (m:Int)=0 then (if s.size=0 then 1 else 0) else (decDigits (m:Int).toNat).length+1)
    rw [g_,eM];simp only [Int.toNat_natCast];by_cases aO:m=0
    ·have:s.size=0:=by omega
     subst aO;simp [this]
    ·have BD:¬ (m:Int)=0:=by omega
     rw [if_neg BD];by_cases rH:m<10
     ·rw [if_pos (show ((m / 10:Nat):Int)=0 by omega),if_neg (by omega)];have:=XR m; omega
     ·rw [if_neg (show ¬ ((m / 10:Nat):Int)=0 by omega)];have:decDigits m=decDigits (m / 10)++[UInt8.ofNat (48+m % 10)]:=by conv=>lhs; rw [decDigits,dif_neg rH]
      rw [this,List.length_append]; simp
  ·have aO:m=0:=by omega
   subst aO;have NZ:0<s.size:=by omega
   have cA:¬ s=⟨#[]⟩:=λe=>by rw [e] at NZ; exact absurd NZ (by decide)
   simp only [Int.natCast_zero,Int.lt_irrefl,decide_false,cond_false,Option.bind_some,decide_eq_false cA];refine .ag ?_;rcases ay with ⟨h,_⟩ | ⟨_,h⟩
   ·omega
   ·rw [if_pos rfl] at h;exact wF h
theorem na (n:Int) (h:-9223372036854775808<=n/\n<=9223372036854775807):qk n=some ⟨(mP n).toArray⟩:=by
 rw [Jg h];unfold qk Lib.itoa;by_cases aO:n<0
 ·have e:IntKind.u64.wrap (-(IntKind.u64.wrap n))=((n.natAbs:Nat):Int):=by
   rw [IntKind.wrap_u64,IntKind.wrap_u64]; omega
  simp only [decide_eq_true aO,cond_true,Option.bind_some,e,if_pos aO];rw [Mn n.natAbs (by omega) _ rfl,Option.bind_some];have eM:({ data:=(decDigits n.natAbs).toArray }:ByteArray).size<=20:=by rw [kl]; exact Cn (by omega)
  have:e' ⟨#[45]⟩ ⟨(decDigits n.natAbs).toArray⟩=some ⟨(45::decDigits n.natAbs).toArray⟩:=by
   unfold e';rw [if_pos (by have:(⟨#[45]⟩:ByteArray).size=1:=rfl; omega)];rfl
  rw [this]; rfl
 ·have e:IntKind.u64.wrap n=((n.toNat:Nat):Int):=by rw [IntKind.wrap_u64]; omega
  simp only [decide_eq_false aO,cond_false,Option.bind_some,e,if_neg aO];rw [Mn n.toNat (by omega) _ rfl]; rfl
theorem E0 (n:Int) (h:-9223372036854775808<=n/\n<=9223372036854775807):(mP n).length<=21:=by
 rw [Jg h];unfold Lib.itoa;split
 ·have:=Cn (u:=n.natAbs) (by omega); simp only [List.length_cons]; omega
 ·have:=Cn (u:=n.toNat) (by omega); omega
theorem D0 (n:Int) (h:-9223372036854775808<=n/\n<=9223372036854775807):sR n=some ⟨(mP n).toArray⟩:=by unfold sR; rw [if_pos h]
def i64 (n:Int):Prop:=-9223372036854775808<=n/\n<=9223372036854775807
def b6:Nat->List Int->List UInt8
 | _,[]=>[]
 | k,x::l=>(if 0<k then [44,32] else [])++(mP x++b6 (k+1) l)
def kK:List UInt8:=[118,97,114,32]
def kL:List UInt8:=[32,61,32,91,93,105,110,116,123]
def n4 (name:ByteArray) (l:List Int):List UInt8:=kK++name.data.toList++kL++b6 0 l++[125]
theorem E3:∀ (l:List Int) (k:Nat),(∀ x∈l,i64 x)->(b6 k l).length<=23 * l.length
 | [],k,_=>by simp [b6]
 | x::l,k,h=>by
  have h1:=E0 x (h x (by simp));have af:=E3 l (k+1) λy al=>h y (by simp [al]);simp only [b6,List.length_append,List.length_cons]
  split <;> simp <;> omega
theorem Oo (l:List Int):∀ k:Nat,0<k->b6 k l=b6 1 l:=by
 induction l with
 | nil=>intro k _; rfl
 | cons x l aM =>
  intro k hk;simp only [b6];rw [aM (k+1) (by omega),aM (1+1) (by omega),if_pos hk,if_pos (by omega)]
theorem Xt (a b:List Int):∀ k:Nat,b6 k (a++b)=b6 k a++b6 (k+a.length) b:=by
 induction a with
 | nil=>intro k; simp [b6]
 | cons x a aM =>
  intro k;simp only [List.cons_append,b6,aM (k+1),List.length_cons];rw [show k+1+a.length=k+(a.length+1) by omega];simp
theorem Sl {x s:ByteArray}(h:x.size+s.size<=140737488355328):m' x s=some (x++s):=by unfold m'; rw [if_pos h]
theorem _root_.Go.Own.Tot.mE {Φ:ByteArray->Prop}{s u:ByteArray}(h:s.size+u.size<=140737488355328) (hk:Φ (s++u)):Tot (m' s u) Φ:=⟨_,Sl h,hk⟩
theorem Cf:(⟨#[118,97,114,32]⟩:ByteArray).size=4:=rfl
theorem JA:(⟨#[32,61,32,91,93,105,110,116,123]⟩:ByteArray).size=9:=rfl
theorem E':(⟨#[44,32]⟩:ByteArray).size=2:=rfl
theorem Jz:(⟨#[125]⟩:ByteArray).size=1:=rfl
theorem Of {α:Type}{l:List α}{i:Nat}(h:i<l.length):idx l (i:Int)=some l[i]:=by
 simp [idx,h]
theorem Mo {l:List Int}{i:Nat}(h:i<l.length):l.drop i=l[i]::l.drop (i+1):=(List.getElem_cons_drop h).symm
theorem zx {n:Int}(h:i64 n):({ data:=(mP n).toArray }:ByteArray).size<=21:=by rw [kl]; exact E0 n h
theorem AO (name:ByteArray) (l:List Int) (aA:name.size<=1000000000) (aj:l.length<=1000000000) (ah:∀ x∈l,i64 x):sa name l=some ⟨(n4 name l).toArray⟩:=by
 suffices h:Tot (sa name l) λr=>r.data.toList=n4 name l by
  obtain ⟨r,ah,e⟩:=h; rw [ah]; exact congrArg some (wF e)
 unfold sa;refine .bi (.cat (by rw [Cf]; omega) (.bi (.cat (by rw [g_,Cf,JA]; omega) (.bi (.mE (by simp only [g_,Cf,JA]; have:(⟨#[]⟩:ByteArray).size=0:=rfl; omega) ?_)))));have pr:((⟨#[]⟩:ByteArray)++((⟨#[118,97,114,32]⟩:ByteArray)++name++⟨#[32,61,32,91,93,105,110,116,123]⟩)).data.toList=kK++name.data.toList++kL:=by
  rw [kk,kk,kk]; rfl
 refine .ar (Ξ:=λr=>r.data.toList=kK++name.data.toList++kL++b6 0 l/\r.size<=13+name.size+23 * l.length) (Tot.count (λs=>s.2) l.length
  (λs=>∃ i:Nat,s.2=i/\i<=l.length/\s.1.data.toList++b6 i (l.drop i)=kK++name.data.toList++kL++b6 0 l/\s.1.size<=13+name.size+23 * i) ⟨0,rfl,by omega,by rw [pr]; rfl,by rw [kl,pr,List.length_append,List.length_append,<- kl]; show 4+name.size+9<=_; omega⟩ (by simp only; omega) ?_) ?_
 ·rintro ⟨s,x⟩ ⟨i,j,hi,he,aW⟩;simp only at j he aW;subst j;refine Tot.ba (λaT=>?_) (λdC=>.ag ⟨by
   have:i=l.length:=by omega
   subst this;rw [List.drop_length] at he;simpa [b6] using he,by
    have:i=l.length:=by omega
    subst this;exact aW⟩)
  have k5:i<l.length:=by simpa using aT
  simp only [Of k5,Option.bind_some];have av:=ah l[i] (List.getElem_mem k5);rw [Mo k5] at he;have fin:∀ J:ByteArray,J.data.toList=s.data.toList++(if 0<i then [44,32] else [])->J.size<=s.size+2->Tot ((sR l[i]).bind λdJ=>(m' J dJ).bind λeX=>some (.inl (eX,aG ((i:Int)+1))))
    (gK (λ(cp:ByteArray × Int)=>(∃ lW:Nat,cp.2=lW/\lW<=l.length/\cp.1.data.toList++b6 lW (l.drop lW)=kK++name.data.toList++kL++b6 0 l/\cp.1.size<=13+name.size+23 * lW)/\(i:Int)<cp.2/\cp.2<=l.length) λ(r:ByteArray)=>r.data.toList=kK++name.data.toList++kL++b6 0 l/\r.size<=13+name.size+23 * l.length):=by
   intro J ai NF;rw [D0 _ av,Option.bind_some];have Ef:=zx av;refine .bi (.mE (by omega) (.ag ?_));have hw:aG ((i:Int)+1)=((i+1:Nat):Int):=by rw [Ak (by omega) (by omega)]; omega
   refine ⟨⟨i+1,hw,by omega,?_,by rw [g_]; omega⟩,by rw [hw]; omega,by rw [hw]; omega⟩;show (J++{ data:=(mP l[i]).toArray }).data.toList++_=_;rw [kk,ai,<- he];simp [b6]
  by_cases aO:0<i
  ·simp only [decide_eq_true (show (0:Int)<(i:Int) by omega),cond_true];refine .bi (.bi (.mE (by rw [E']; omega) (.ag ?_)));exact fin _ (by rw [kk,if_pos aO]) (by rw [g_,E']; omega)
  ·simp only [decide_eq_false (show ¬ (0:Int)<(i:Int) by omega),cond_false,Option.bind_some];exact fin s (by rw [if_neg aO,List.append_nil]) (by omega)
 ·rintro r ⟨h9,hN⟩;refine .bi (.mE (by rw [Jz]; omega) (.bi ?_));have cA:(r++(⟨#[125]⟩:ByteArray)).size≠0:=by rw [g_,Jz]; omega
  refine ⟨_,by unfold wJ; rw [if_neg cA],.ag ?_⟩;rw [kk,h9]; rfl
theorem tF (name:ByteArray) (l:List Int) (aA:name.size<=1000000000) (aj:l.length<=1000000000) (ah:∀ x∈l,i64 x):Fv name l=some ⟨(n4 name l).toArray⟩:=by
 suffices h:Tot (Fv name l) λr=>r.data.toList=n4 name l by
  obtain ⟨r,ah,e⟩:=h; rw [ah]; exact congrArg some (wF e)
 unfold Fv;refine .bi (.cat (by rw [Cf]; omega) (.bi (.cat (by rw [g_,Cf,JA]; omega) ?_)));have pr:(((⟨#[118,97,114,32]⟩:ByteArray)++name++⟨#[32,61,32,91,93,105,110,116,123]⟩)).data.toList=kK++name.data.toList++kL:=by
  rw [kk,kk]; rfl
 refine .ar (Ξ:=λr=>r.data.toList=kK++name.data.toList++kL++b6 0 l/\r.size<=13+name.size+23 * l.length) (Tot.count (λs=>s.2) l.length
  (λs=>∃ i:Nat,s.2=i/\i<=l.length/\s.1.data.toList++b6 i (l.drop i)=kK++name.data.toList++kL++b6 0 l/\s.1.size<=13+name.size+23 * i) ⟨0,rfl,by omega,by rw [pr]; rfl,by rw [kl,pr,List.length_append,List.length_append,<- kl]; show 4+name.size+9<=_; omega⟩ (by simp only; omega) ?_) ?_
 ·rintro ⟨s,x⟩ ⟨i,j,hi,he,aW⟩;simp only at j he aW;subst j;refine Tot.ba (λaT=>?_) (λdC=>.ag ⟨by
   have:i=l.length:=by omega
   subst this;rw [List.drop_length] at he;simpa [b6] using he,by
    have:i=l.length:=by omega
    subst this;exact aW⟩)
  have k5:i<l.length:=by simpa using aT
  have av:=ah l[i] (List.getElem_mem k5);rw [Mo k5] at he;have fin:∀ J:ByteArray,J.data.toList=s.data.toList++(if 0<i then [44,32] else [])->J.size<=s.size+2->Tot ((idx l (i:Int)).bind λbF=>(qk bF).bind λcB=>(e' J cB).bind λdJ=>some (.inl (dJ,aG ((i:Int)+1))))
    (gK (λ(cp:ByteArray × Int)=>(∃ lW:Nat,cp.2=lW/\lW<=l.length/\cp.1.data.toList++b6 lW (l.drop lW)=kK++name.data.toList++kL++b6 0 l/\cp.1.size<=13+name.size+23 * lW)/\(i:Int)<cp.2/\cp.2<=l.length) λ(r:ByteArray)=>r.data.toList=kK++name.data.toList++kL++b6 0 l/\r.size<=13+name.size+23 * l.length):=by
   intro J ai NF;rw [Of k5,Option.bind_some,na _ av,Option.bind_some];have Ef:=zx av;refine .bi (.cat (by omega) (.ag ?_));have hw:aG ((i:Int)+1)=((i+1:Nat):Int):=by rw [Ak (by omega) (by omega)]; omega
   refine ⟨⟨i+1,hw,by omega,?_,by rw [g_]; omega⟩,by rw [hw]; omega,by rw [hw]; omega⟩;show (J++{ data:=(mP l[i]).toArray }).data.toList++_=_;rw [kk,ai,<- he];simp [b6]
  by_cases aO:0<i
  ·simp only [decide_eq_true (show (0:Int)<(i:Int) by omega),cond_true];refine .bi (.bi (.cat (by rw [E']; omega) (.ag ?_)));exact fin _ (by rw [kk,if_pos aO]) (by rw [g_,E']; omega)
  ·simp only [decide_eq_false (show ¬ (0:Int)<(i:Int) by omega),cond_false,Option.bind_some];exact fin s (by rw [if_neg aO,List.append_nil]) (by omega)
 ·rintro r ⟨h9,hN⟩;refine .bi (.cat (by rw [Jz]; omega) (.ag ?_));rw [kk,h9]; rfl
theorem Jb (n:Int):i64 (aG n):=by unfold i64; rw [cm]; omega
theorem ZL (s:ByteArray) (k:Int) (h:s.size<=dp) (hk:0<=k/\k<=s.size):Tot (v7 s k) λn=>0<=n/\k+n<=s.size:=by
 unfold v7;refine Tot.ar (Ξ:=λn=>0<=n/\k+n<=s.size) ?_ λa aR=>.ag aR;refine Tot.count (λi=>i) (s.size - k) (λi=>0<=i/\k+i<=s.size) ⟨by omega,by omega⟩ (by show ((s.size:Int) - k) - 0<_; simp only [dp] at h; omega) λi ⟨aO,h1⟩=>?_;simp only [dp] at h;have e:aG (k+i)=k+i:=by rw [cm]; omega
 rw [e];have go:∀ c:Bool,(c=true->k+i<s.size)->Tot (bif c then some (.inl (aG (i+1))) else some (.inr i)) (gK (λcp:Int=>(0<=cp/\k+cp<=s.size)/\i<cp/\cp<=s.size - k) (λr:Int=>0<=r/\k+r<=s.size)):=by
  intro c aa;refine Tot.bk (λaf=>.ag ?_) (λ_=>.ag ⟨aO,h1⟩);have:=aa af;have e:aG (i+1)=i+1:=by rw [cm]; omega
  show (0<=aG (i+1)/\k+aG (i+1)<=s.size)/\i<aG (i+1)/\aG (i+1)<=s.size - k;rw [e]; omega
 apply Tot.bi;refine Tot.ba (λaf=>?_) (λaf=>.ag (go false (by simp)));apply Tot.bi;refine Tot.jg ⟨by omega,af⟩ (Tot.ar (t114 _) λc _=>?_);refine Tot.bk (λ_=>.ag (go _ λ_=>af)) (λ_=>Tot.bk (λ_=>?_) (λ_=>.ag (go _ λ_=>af)));apply Tot.bi;refine Tot.jg ⟨by omega,af⟩ (Tot.ar (t96 _) λc _=>?_);refine Tot.bk (λ_=>.ag (go _ λ_=>af)) (λ_=>?_);apply Tot.bi;exact Tot.jg ⟨by omega,af⟩ (.ag (go _ λ_=>af))
theorem Mm (s:ByteArray) (k:Int) (h:s.size<=dp) (hk:0<=k/\k<=s.size):Tot (b5 (R:=Int × Int) (λ(f':Int × Int) =>
((bif decide (f'.2<(s.size:Int)) then ((gN s f'.2).bind λeG=>((v8 eG).bind λfM=>some fM)) else some false)).bind λtG =>
(bif tG then
((bif decide (aG (f'.2 - k)<3) then
(gN s f'.2).bind λfv =>
some (aG ((aG (10 * f'.1))+(aG (rn (fv - 48)))))
else
some f'.1)).bind λuy =>
some (.inl (uy,aG (f'.2+1)))
else
some (.inr (f'.1,f'.2)))) (0,k)) λr=>i64 r.1/\k<=r.2/\r.2<=s.size:=by
 simp only [dp] at h;refine Tot.count (λz=>z.2) s.size (λz=>i64 z.1/\k<=z.2/\z.2<=s.size) ⟨(by unfold i64; decide:i64 0),Int.le_refl k,hk.2⟩ (by show (s.size:Int) - k<_; omega) λz aW=>?_;obtain ⟨v,i⟩:=z;obtain ⟨h1,af,aJ⟩:=aW;simp only at h1 af aJ ⊢;refine .ar (Ξ:=λc=>c=true->i<s.size) (Tot.ba (λaj=>.bi (.jg ⟨by omega,aj⟩ (.ar (t96 _) λ_ _=>.ag λ_=>aj))) (λ_=>.ag λh=>by cases h)) λc aa=>Tot.bk (λaq=>?_) (λ_=>.ag ⟨h1,af,aJ⟩);have aj:=aa aq;refine .ar (Ξ:=i64) (Tot.ba (λ_=>.bi (.jg ⟨by omega,aj⟩ (.ag (Jb _)))) (λ_=>.ag h1)) λef hv=>.ag ?_;have e:aG (i+1)=i+1:=by rw [cm]; omega
 show (i64 ef/\k<=aG (i+1)/\aG (i+1)<=s.size)/\i<aG (i+1)/\aG (i+1)<=s.size;rw [e];exact ⟨⟨hv,by omega,by omega⟩,by omega,by omega⟩
theorem Hi (s:ByteArray) (m n:Int) (h:0<=m/\m<=n/\n<=s.size):(nc s m n).size<=s.size:=by
 unfold nc;simp [ByteArray.size_extract];omega
theorem t75 (s:ByteArray) (i:Int) (h:s.size<=dp) (aO:0<=i) (h1:i<s.size):Tot (CQ s i) λr=>r.2.2=0->r.2.1=0\/(0<r.2.1/\i+r.2.1<=s.size/\r.1.Text.size=0/\r.1.Tag.size<=s.size/\i64 r.1.N):=by
 unfold CQ;have av:(s.size:Int)<=1000000000000:=by simp only [dp] at h; omega
 have z64:i64 0:=by unfold i64; decide
 have gH:aG (i+1)=i+1:=by rw [cm]; omega
 have fp:aG (i+1+1)=i+1+1:=by rw [cm]; omega
 simp only [gH,fp];refine .ar (Ξ:=λc=>c=true->i+1<s.size) (Tot.ba (λaj=>.bi (.jg ⟨by omega,aj⟩ (.ag λ_=>aj))) (λ_=>.ag λh=>by cases h)) λj8 Vl=>Tot.bk (λaJ=>?_) (λ_=>?_)
 ·have aj:=Vl aJ;refine .ar (ZL s (i+1+1) h ⟨by omega,by omega⟩) λn aA=>?_;have wj:aG (i+1+1+n)=i+1+1+n:=by rw [cm]; omega
  have wk:aG (i+1+n)=i+1+n:=by rw [cm]; omega
  have Ai:aG (i+1+n+2)=i+1+n+2:=by rw [cm]; omega
  have Aj:aG (i+1+n+2+1)=i+1+n+2+1:=by rw [cm]; omega
  simp only [wj,wk,Ai,Aj];refine .ar (Ξ:=λc=>c=false->1<=n/\i+1+1+n<s.size) ?_ λhp rH=>Tot.bk (λ_=>.ag λ_=>.inl rfl) (λaS=>?_)
  ·exact Tot.ba (λ_=>.ag λh=>by cases h) (λaB=>Tot.ba (λ_=>.ag λh=>by cases h) (λa2=>Tot.ba (λ_=>.ag λh=>by cases h) (λa3=>.bi (.jg ⟨by omega,by omega⟩ (.ag λ_=>⟨by omega,by omega⟩)))))
  ·obtain ⟨vn,oI⟩:=rH aS;refine .bi (.cut ⟨by omega,by omega,by omega⟩ ?_);have aa:=Hi s (i+1+1) (i+1+1+n) ⟨by omega,by omega,by omega⟩;refine .ar (Ξ:=λc=>c=true->i+1+n+2<s.size) (Tot.ba (λaj=>.bi (.jg ⟨by omega,aj⟩ (.ag λ_=>aj))) (λ_=>.ag λh=>by cases h)) λov Nl=>Tot.bk (λMW=>.ag λ_=>.inr ⟨?_,?_,rfl,aa,z64⟩) (λ_=>?_)
   ·have:=Nl MW; show 0<aG _; rw [cm]; omega
   ·have:=Nl MW; show i+aG _<=_; rw [cm]; omega
   ·refine .ar (Mm s (i+1+n+2) h ⟨by omega,by omega⟩) λr ah=>?_;obtain ⟨q9,jt⟩:=r;obtain ⟨g1,g2,g3⟩:=ah;simp only at g1 g2 g3 ⊢;refine Tot.ba (λ_=>.ag λ_=>.inl rfl) (λcA=>Tot.ba (λ_=>.ag λh=>by cases h) (λ_=>.ag λ_=>.inr ⟨?_,?_,rfl,aa,g1⟩))
    ·show 0<aG _; rw [cm]; omega
    ·show i+aG _<=_; rw [cm]; omega
 ·refine .ar (Ξ:=λc=>c=true->i+1<s.size) (Tot.ba (λaj=>.bi (.jg ⟨by omega,aj⟩ (.ag λ_=>aj))) (λ_=>.ag λh=>by cases h)) λDX Nn=>Tot.bk (λBc=>.ag λ_=>.inr ⟨?_,?_,rfl,by show 0<=_; omega,z64⟩) (λ_=>?_)
  ·have:=Nn Bc; show 0<aG _; rw [cm]; omega
  ·have:=Nn Bc; show i+aG _<=_; rw [cm]; omega
  ·refine .ar (Mm s (i+1) h ⟨by omega,by omega⟩) λr ah=>?_;obtain ⟨q9,jt⟩:=r;obtain ⟨g1,g2,g3⟩:=ah;simp only at g1 g2 g3 ⊢;refine Tot.ba (λ_=>.ag λ_=>.inl rfl) (λcA=>Tot.ba (λ_=>.ag λh=>by cases h) (λ_=>.ag λ_=>.inr ⟨?_,?_,rfl,by show 0<=_; omega,g1⟩))
   ·show 0<aG _; rw [cm]; omega
   ·show i+aG _<=_; rw [cm]; omega
structure tu (n:Nat) (p:Piece):Prop where
 x:p.Text.size<=n
 t:p.Tag.size<=n
 n:i64 p.N
theorem tu.Qs (n:Nat) (s:ByteArray) (h:s.size<=n):tu n ⟨1,s,0,⟨#[]⟩⟩:=⟨h,Nat.zero_le _,(by unfold i64; decide:i64 0)⟩
theorem Sz (s:ByteArray) (h:s.size<=1000):Tot (CK s) λr=>r.2=0->r.1.length<=2 * s.size+1/\∀ p∈r.1,tu s.size p:=by
 unfold CK;have aN:s.size<=dp:=by simp only [dp]; omega
 refine .ar (t73 s aN) λa6 _=>Tot.bk (λ_=>.ag λh=>by cases h) (λ_=>?_);refine .ar (Ξ:=gK (λr:List Piece × Int=>(r.1.length:Int)<=2 * s.size/\0<=r.2/\r.2<=s.size/\∀ p∈r.1,tu s.size p) (λr:List Piece × Int=>r.2≠0)) ?_ λx j=>?_
 ·refine Tot.count (λz=>z.2.2) s.size (λz=>(z.1.length:Int)<=2 * z.2.2/\0<=z.2.1/\z.2.1<=z.2.2/\z.2.2<=s.size/\∀ p∈z.1,tu s.size p) ⟨Int.le_refl 0,Int.le_refl 0,Int.le_refl 0,by show (0:Int)<=_; omega,λp au=>by cases au⟩ (by show (s.size:Int) - 0<_; omega) λz aW=>?_;obtain ⟨l,dF,i⟩:=z;obtain ⟨h1,af,aJ,bx,cu⟩:=aW;simp only at h1 af aJ bx cu ⊢;have e:aG (i+1)=i+1:=by rw [cm]; omega
  refine Tot.ba (λaT=>?_) (λdC=>.ag ⟨by show (l.length:Int)<=_; omega,af,by show dF<=_; omega,cu⟩);have next:gK (λz:List Piece × Int × Int=>((z.1.length:Int)<=2 * z.2.2/\0<=z.2.1/\z.2.1<=z.2.2/\z.2.2<=s.size/\∀ p∈z.1,tu s.size p)/\i<z.2.2/\z.2.2<=s.size) (gK (λr:List Piece × Int=>(r.1.length:Int)<=2 * s.size/\0<=r.2/\r.2<=s.size/\∀ p∈r.1,tu s.size p) (λr:List Piece × Int=>r.2≠0)) (.inl (l,dF,aG (i+1))):=by
   rw [e];exact ⟨⟨by show (l.length:Int)<=2 * (i+1); omega,af,by show dF<=i+1; omega,by show i+1<=_; omega,cu⟩,by show i<i+1; omega,by show i+1<=_; omega⟩
  refine .ar (t74 s i aN (by omega) aT) λb3 nT=>Tot.ba (λj=>.ag ⟨⟨by show (l.length:Int)<=2 * b3; omega,af,by show dF<=b3; omega,nT,cu⟩,j,nT⟩) (λ_=>?_);refine .bi (.jg ⟨by omega,aT⟩ (Tot.kZ (λ_=>.ag next) (λ_=>?_)));refine .ar (t75 s i aN (by omega) aT) λr ah=>?_;obtain ⟨p,n,acb⟩:=r;simp only at ah ⊢;refine Tot.kZ (λcA=>.ag cA) (λhe=>Tot.ba (λ_=>.ag next) (λaA=>?_));rcases ah he with aO | ⟨g1,g2,g3,g4,g5⟩
  ·exact absurd aO aA
  refine .ar (Ξ:=λL:List Piece=>(L.length:Int)<=2 * i+1/\∀ p∈L,tu s.size p) (Tot.ba (λp8=>.bi (.cut ⟨af,by omega,by omega⟩ (.bi (.ap (by simp [lim]; omega) (.ag ⟨by simp; omega,λq a7=>?_⟩))))) (λ_=>.ag ⟨by omega,cu⟩)) λL iy=>?_
  ·rcases List.mem_append.1 a7 with a7 | a7
   ·exact cu q a7
   ·rw [List.mem_singleton.1 a7];exact .Qs _ _ (Hi s _ _ ⟨af,by omega,by omega⟩)
  ·have b9:aG (i+n)=i+n:=by rw [cm]; omega
   rw [b9];have acy:=iy.1;refine .bi (.ap (by simp [lim]; omega) (.ag ⟨⟨?_,by show 0<=i+n; omega,Int.le_refl _,g2,λq a7=>?_⟩,by show i<i+n; omega,g2⟩))
   ·show (((L++[p]).length:Nat):Int)<=2 * (i+n);simp; omega
   ·rcases List.mem_append.1 a7 with a7 | a7
    ·exact iy.2 q a7
    ·rw [List.mem_singleton.1 a7];exact ⟨by omega,g4,g5⟩
 ·rcases x with x | x
  ·obtain ⟨g1,g2,g3,g4⟩:=j;refine .ar (Ξ:=λl:List Piece=>l.length<=2 * s.size+1/\∀ p∈l,tu s.size p) ?_ λl aj=>.ag λ_=>aj;refine Tot.ba (λaT=>.bi (.cut ⟨g2,by omega,by omega⟩ (.bi (.ap (by simp [lim]; omega) (.ag ⟨by simp; omega,λp au=>?_⟩))))) (λ_=>.ag ⟨by omega,g4⟩);rcases List.mem_append.1 au with au | au
   ·exact g4 p au
   ·rw [List.mem_singleton.1 au];exact .Qs _ _ (Hi s _ _ ⟨g2,by omega,by omega⟩)
  ·exact .ag λh=>absurd h j
end Go.Proofs
namespace Go.Own
open Go Go.Sort
set_option linter.unusedSectionVars false
variable [cI]
variable {α:Type} [DecidableEq α]
structure Ord (lt:α->α->Bool):Prop where
 swo:SWO lt
 ja:∀ x y,lt x y=false->lt y x=false->x=y
def eQ (lt:α->α->Bool) (l:List α):Prop:=l.Pairwise λa b=>lt a b=true
omit [DecidableEq α] in
theorem eQ.nd {lt:α->α->Bool}(h:Ord lt) {l:List α}(aj:eQ lt l):l.Nodup:=aj.imp λ{a b} Nf e=>by
 subst e;rw [h.swo.irrefl] at Nf; cases Nf
omit [DecidableEq α] in
theorem eQ.uniq {lt:α->α->Bool}(h:Ord lt) {l m:List α}(aj:eQ lt l) (hm:eQ lt m) (he:∀ x,x∈l↔x∈m):l=m :=
 List.Perm.eq_of_pairwise (le:=λa b=>lt a b=true) (λa b _ _ h1 af=>by have:=h.swo.trans _ _ _ h1 af; rw [h.swo.irrefl] at this; cases this) aj hm ((List.perm_ext_iff_of_nodup (aj.nd h) (hm.nd h)).2 he)
omit [DecidableEq α] in
theorem uA {l m:List α}(aP:l.Nodup) (hm:∀ x∈l,x∈m):l.length<=m.length:=by
 classical
 induction l generalizing m with
 | nil=>exact Nat.zero_le _
 | cons x l aM =>
  have j:=hm x (by simp);have mi:=List.nodup_cons.1 aP;have:=aM (m:=m.erase x) mi.2 λy al=>(List.mem_erase_of_ne (λe=>mi.1 (by rw [<- e]; exact al))).2 (hm y (by simp [al]));have aj:=List.length_erase_of_mem j;have au:=List.length_pos_of_mem j;simp only [List.length_cons];omega
end Go.Own
namespace Go.Proofs
open Go Go.Own Go.Sort
set_option maxRecDepth 100000
set_option linter.unusedVariables false
def gD (a b:Item):Bool:=decide (a.Prod<b.Prod\/(a.Prod=b.Prod/\a.eY<b.eY))
theorem JG {a b:Item}:gD a b=true↔(a.Prod<b.Prod\/(a.Prod=b.Prod/\a.eY<b.eY)):=by simp [gD]
theorem Cj {a b:Item}:gD a b=false↔¬ (a.Prod<b.Prod\/(a.Prod=b.Prod/\a.eY<b.eY)):=by simp [gD]
theorem vP:Ord gD where
 swo:=⟨λx=>by rw [Cj]; omega,λx y z h1 af=>by rw [JG] at *; omega,λx y z h1 af=>by rw [Cj] at *; omega⟩
 ja x y h1 af:=by
  rw [Cj] at h1 af;obtain ⟨a6,x2⟩:=x;obtain ⟨bN,y2⟩:=y;simp only at h1 af;have:a6=bN:=by omega
  have:x2=y2:=by omega
  subst_vars; rfl
def iZ (g:bt) (x:Item):Prop:=∃ q,idx g.bd x.Prod=some q/\0<=x.eY/\x.eY<=q.e2.length
def hI (g:bt) (x:Item):Int:=match idx g.bd x.Prod with
 | some q=>(idx q.e2 x.eY).getD (-1)
 | none=>-1
theorem n1 {α:Type}{l:List α}{i:Int}{y:α}(h:idx l i=some y):0<=i/\i<l.length/\y∈l:=by
 unfold idx at h
 split at h
 ·rename_i aO;obtain ⟨h1,af⟩:=List.getElem?_eq_some_iff.1 h;exact ⟨aO,by omega,List.mem_of_getElem? h⟩
 ·cases h
theorem Jf {α:Type}{l:List α}{i:Int}(h:i<0\/(l.length:Int)<=i):idx l i=none:=by
 unfold idx;split
 ·exact List.getElem?_eq_none (by omega)
 ·rfl
theorem n3 {α:Type}{l:List α}{i:Int}(aO:0<=i) (h1:i<l.length):∃ y,idx l i=some y/\y∈l:=by
 have aT:i.toNat<l.length:=by omega
 exact ⟨l[i.toNat],by simp [idx,aO,aT],List.getElem_mem aT⟩
theorem ea {α:Type}{l:List α}{k:Nat}(h:k<l.length):idx l (k:Int)=some l[k]:=by simp [idx,h]
theorem Mq (g:bt) (x:Item):∃ c,zL g x=some c/\(c=true↔iZ g x):=by
 unfold zL;by_cases aO:0<=x.Prod
 ·by_cases h1:x.Prod<g.bd.length
  ·obtain ⟨q,a7,_⟩:=n3 aO h1;by_cases af:0<=x.eY
   ·refine ⟨decide (x.eY<=(q.e2.length:Int)),by simp [aO,h1,af,a7],?_⟩;rw [decide_eq_true_eq];exact ⟨λh=>⟨q,a7,af,h⟩,λ⟨gy,EG,_,h⟩=>by rw [a7] at EG; cases EG; exact h⟩
   ·exact ⟨false,by simp [aO,h1,af],λh=>(by cases h),λ⟨_,_,h,_⟩=>absurd h af⟩
  ·exact ⟨false,by simp [aO,h1],λh=>(by cases h),λ⟨_,h,_⟩=>absurd (n1 h).2.1 h1⟩
 ·exact ⟨false,by simp [aO],λh=>(by cases h),λ⟨_,h,_⟩=>absurd (n1 h).1 aO⟩
theorem Hp (g:bt) (x:Item):xY g x=some (hI g x):=by
 unfold xY hI;obtain ⟨c,aa,hi⟩:=Mq g x;rw [aa];simp only [Option.bind_some];cases c with
 | false =>
  have aA:¬ iZ g x:=λh=>by have:=hi.2 h; cases this
  simp only [Bool.not_false,cond_true,Option.bind_some];cases a7:idx g.bd x.Prod with
  | none=>rfl
  | some q =>
   have:idx q.e2 x.eY=none:=Jf (by
    by_cases aO:0<=x.eY
    ·right;by_cases h1:x.eY<=q.e2.length
     ·exact absurd ⟨q,a7,aO,h1⟩ aA
     ·omega
    ·left; omega)
   simp [this]
 | true =>
  obtain ⟨q,a7,aO,h1⟩:=hi.1 rfl;simp only [Bool.not_true,cond_false,a7,Option.bind_some];by_cases he:x.eY=q.e2.length
  ·rw [Jf (.inr (by omega))];simp [he]
  ·obtain ⟨s,ay,_⟩:=n3 (l:=q.e2) (i:=x.eY) aO (by omega);simp [he,ay]
theorem OU {g:bt}(aN:fX g) {x:Item}(h:0<=hI g x):iZ g x/\nM g.a1.length (g.bY.length - 1) (hI g x)/\∃ q,idx g.bd x.Prod=some q/\idx q.e2 x.eY=some (hI g x):=by
 cases a7:idx g.bd x.Prod with
 | none =>
  have:hI g x=-1:=by unfold hI; rw [a7]
  rw [this] at h; exact absurd h (by decide)
 | some q =>
  cases ay:idx q.e2 x.eY with
  | none =>
   have:hI g x=-1:=by unfold hI; rw [a7]; simp [ay]
   rw [this] at h; exact absurd h (by decide)
  | some s =>
   have e:hI g x=s:=by unfold hI; rw [a7]; simp [ay]
   rw [e];obtain ⟨aO,h1,hm⟩:=n1 ay;exact ⟨⟨q,a7,aO,by omega⟩,(aN.gj q (n1 a7).2.2).right s hm,q,rfl,ay⟩
inductive nI (g:bt) (l:List Item):Item->Prop
 | base {x:Item}(h:x∈l) (hi:iZ g x):nI g l x
 | step {x:Item}{q:Prod}{p:Nat}(h:nI g l x) (au:g.bd[p]?=some q) (aA:hI g x=1000+q.Left) (aO:1000<=hI g x):nI g l ⟨p,0⟩
theorem Om {g:bt}{p:Nat}{q:Prod}(au:g.bd[p]?=some q):iZ g ⟨p,0⟩:=⟨q,by simp [idx,au],Int.le_refl _,by show (0:Int)<=_; omega⟩
theorem nI.iZ {g:bt}{l:List Item}{x:Item}(h:nI g l x):iZ g x:=by
 cases h with
 | base _ hi=>exact hi
 | step _ au _ _=>exact Om au
theorem XY {g:bt}(aN:fX g) (x:Item):-1<=hI g x/\hI g x<=1023:=by
 by_cases h:0<=hI g x
 ·obtain ⟨_,ay,_⟩:=OU aN h;have:=aN.de;have:=aN.kf;rcases ay with ay | ay <;> omega
 ·refine ⟨?_,by omega⟩;revert h;unfold hI;cases a7:idx g.bd x.Prod with
  | none=>intro _; exact Int.le_refl _
  | some q =>
   cases ay:idx q.e2 x.eY with
   | none=>intro _; simp [ay]
   | some s =>
    intro h;have hm:=(aN.gj q (n1 a7).2.2).right s (n1 ay).2.2;simp only [ay,Option.getD_some] at h ⊢;rcases hm with hm | hm <;> omega
def hq (m:List Bool):Nat:=(m.filter λb=>b).length
theorem wO:∀ (m:List Bool) (i:Nat),i<m.length->m.getD i false=false->hq (m.set i true)=hq m+1
 | [],i,h,_=>by simp at h
 | b::m,0,_,h=>by
  have:b=false:=by simpa using h
  subst this;simp [hq]
 | b::m,i+1,h,aO=>by
  have:=wO m i (by simpa using h) (by simpa using aO);unfold hq at this ⊢;simp only [List.set_cons_succ,List.filter_cons];cases b <;> simp [this]
theorem SQ (m:List Bool):hq m<=m.length:=List.length_filter_le _ _
theorem kr {α:Type}{r:List α}{k:Nat}(h:k<r.length):r.take (k+1)=r.take k++[r[k]]:=by
 simp_all
theorem F2 (k:Nat) (h:k<=1000000000000):aG ((k:Int)+1)=((k+1:Nat):Int):=by
 grind [cm]
def allI (g:bt):List Item:=(List.range g.bd.length).flatMap λp=>(List.range 9).map λd=>(⟨(p:Nat),(d:Nat)⟩:Item)
theorem RA (g:bt):(allI g).length=g.bd.length * 9:=by
 have:∀ l:List Nat,(l.map λ_=>9).sum=l.length * 9:=λl=>by
  induction l with
  | nil=>rfl
  | cons a l aM=>simp only [List.map_cons,List.sum_cons,aM,List.length_cons]; omega
 simp [allI,List.length_flatMap,this]
theorem XL {g:bt}(aN:fX g) {x:Item}(h:iZ g x):x∈allI g:=by
 obtain ⟨q,a7,aO,h1⟩:=h;obtain ⟨af,aJ,bx⟩:=n1 a7;have:=aN.aL q bx;refine List.mem_flatMap.2 ⟨x.Prod.toNat,by simp; omega,List.mem_map.2 ⟨x.eY.toNat,by simp; omega,?_⟩⟩;obtain ⟨a,b⟩:=x;simp only at aO af ⊢;congr 1 <;> omega
theorem tB {g:bt}(aN:fX g) {l:List Item}(aj:eQ gD l) (hi:∀ x∈l,iZ g x):l.length<=540:=by
 have:=uA (aj.nd vP) λx j=>XL aN (hi x j);rw [RA] at this;have:=aN.ih;omega
theorem RR {l:List Item}(aj:eQ gD l) {i J:Nat}(hi:i<l.length) (ai:J<l.length) (h:i<J):gD l[i] l[J]=true:=List.pairwise_iff_getElem.1 aj i J hi ai h
theorem GU (l:List Item) (x:Item) (aj:eQ gD l) (aA:l.length<=100000):Tot (xM l x) λr=>eQ gD r/\(∀ y,y∈r↔y∈l\/y=x):=by
 unfold xM;refine .ar (Ξ:=λz:Int=>∃ k:Nat,z=(k:Int)/\k<=l.length/\(∀ (i:Nat) (h:i<l.length),k<=i->gD x l[i]=true)/\∀ (h:0<k),gD x (l[k - 1]?.getD default)=false) ?_ λz aW=>?_
 ·refine Tot.count (λs=>-s) 1 (λs=>∃ k:Nat,s=(k:Int)/\k<=l.length/\∀ (i:Nat) (h:i<l.length),k<=i->gD x l[i]=true) ⟨l.length,rfl,Nat.le_refl _,λi h hk=>by omega⟩ (by show 1 - -(l.length:Int)<_; omega) λs ay=>?_;obtain ⟨k,rfl,hk,uq⟩:=ay;refine .ar (Ξ:=λc:Bool=>(c=true->0<k/\gD x (l[k - 1]?.getD default)=true)/\(c=false->∀ (h:0<k),gD x (l[k - 1]?.getD default)=false)) ?_ λc aa=>Tot.bk (λh=>?_) (λh=>.ag ⟨k,rfl,hk,uq,aa.2 h⟩)
  ·refine Tot.ba (λh=>?_) (λh=>.ag ⟨λaI=>(by cases aI),λ_ aI=>by omega⟩);have gg:k - 1<l.length:=by omega
   have hw:aG ((k:Int) - 1)=((k - 1:Nat):Int):=by rw [cm]; omega
   rw [hw,ea gg,List.getElem?_eq_getElem gg];simp only [Option.bind_some,Option.getD_some];generalize l[k - 1]=y;refine Tot.ba (λh1=>.ag ⟨λ_=>⟨by omega,JG.2 (.inl h1)⟩,λaI=>(by cases aI)⟩) (λh1=>Tot.ba (λaf=>.ag ⟨λaJ=>⟨by omega,JG.2 (.inr ⟨af.symm,of_decide_eq_true aJ⟩)⟩,λaJ _=>?_⟩) (λaf=>.ag ⟨λaI=>(by cases aI),λ_ _=>?_⟩))
   ·have:=of_decide_eq_false aJ;rw [Cj]; omega
   ·rw [Cj]; omega
  ·obtain ⟨aO,h1⟩:=aa.1 h;refine .ag ⟨⟨k - 1,by rw [cm]; omega,by omega,λi hi VS=>?_⟩,by show -(k:Int) < -aG _; rw [cm]; omega,by show -aG _<=1; rw [cm]; omega⟩;by_cases e:i=k - 1
   ·subst e;rw [List.getElem?_eq_getElem hi] at h1;exact h1
   ·exact uq i hi (by omega)
 ·obtain ⟨k,rfl,hk,uq,lz⟩:=aW;refine .ar (Ξ:=λc:Bool=>(c=true↔(0<k/\l[k - 1]?.getD default=x))) ?_ λc aa=>Tot.bk (λh=>?_) (λh=>?_)
  ·refine Tot.ba (λh=>?_) (λh=>.ag ⟨λaI=>(by cases aI),λaI=>by omega⟩);have gg:k - 1<l.length:=by omega
   have hw:aG ((k:Int) - 1)=((k - 1:Nat):Int):=by rw [cm]; omega
   rw [hw,ea gg,List.getElem?_eq_getElem gg];simp only [Option.bind_some,Option.getD_some];generalize l[k - 1]=y;refine .ag ?_;obtain ⟨bN,y2⟩:=y;obtain ⟨a6,x2⟩:=x;simp only [Bool.and_true,Bool.and_eq_true,decide_eq_true_eq,Item.mk.injEq];exact ⟨λaI=>⟨by omega,aI⟩,λaI=>aI.2⟩
  ·obtain ⟨aO,h1⟩:=aa.1 h;have gg:k - 1<l.length:=by omega
   rw [List.getElem?_eq_getElem gg] at h1;have j:x∈l:=by rw [<- h1]; exact List.getElem_mem gg
   exact .ag ⟨aj,λy=>⟨.inl,λh=>h.elim id λe=>e ▸ j⟩⟩
  ·have cA:∀ (i:Nat) (hi:i<l.length),i<k->gD l[i] x=true:=by
    intro i hi Ev;have gg:k - 1<l.length:=by omega
    have lz:=lz (by omega);have aA:l[k - 1]?.getD default≠x:=λe=>by rw [aa.2 ⟨by omega,e⟩] at h; cases h
    rw [List.getElem?_eq_getElem gg] at lz aA;simp only [Option.getD_some] at lz aA;have fK:gD l[k - 1] x=true:=by
     cases bG:gD l[k - 1] x with
     | true=>rfl
     | false=>exact absurd (vP.ja _ _ bG lz) aA
    by_cases e:i=k - 1
    ·subst e; exact fK
    ·exact vP.swo.trans _ _ _ (RR aj hi gg (by omega)) fK
   refine .ar (Ξ:=λz=>z=l.take k) (Tot.sub ⟨by omega,by omega,by omega⟩ (by simp)) λz aW=>?_;subst aW;refine .ar (Ξ:=λ_=>True) (Tot.ap (by simp [lim]; omega) trivial) λ_ _=>.ar (Ξ:=λ_=>True) (Tot.ap (by simp [lim]; omega) trivial) λ_ _=>?_;refine .ar (Ξ:=λz=>z=l.drop k) (Tot.sub ⟨by omega,by omega,by omega⟩ ?_) λz aW=>?_
   ·rw [List.take_of_length_le]
    ·congr 1
    ·rw [List.length_drop]; omega
   subst aW;refine .ar (Ξ:=λ_=>True) (Tot.ap (by simp [lim]; omega) trivial) λ_ _=>.ag ?_;rw [List.nil_append];constructor
   ·have h1:∀ a∈l.take k,gD a x=true:=by
     intro a aR;obtain ⟨i,hi,rfl⟩:=List.mem_iff_getElem.1 aR;rw [List.length_take] at hi;rw [List.getElem_take];exact cA i (by omega) (by omega)
    have af:∀ a∈l.drop k,gD x a=true:=by
     intro a aR;obtain ⟨i,hi,rfl⟩:=List.mem_iff_getElem.1 aR;rw [List.length_drop] at hi;rw [List.getElem_drop];exact uq (k+i) (by omega) (by omega)
    unfold eQ;rw [List.append_assoc,List.pairwise_append];refine ⟨List.Pairwise.sublist (List.take_sublist k l) aj,?_,λa aR b av=>?_⟩
    ·rw [List.singleton_append,List.pairwise_cons];exact ⟨af,List.Pairwise.sublist (List.drop_sublist k l) aj⟩
    ·rcases List.mem_append.1 av with av | av
     ·rw [List.mem_singleton.1 av]; exact h1 a aR
     ·exact vP.swo.trans _ _ _ (h1 a aR) (af b av)
   ·intro y;rw [List.append_assoc,List.mem_append,List.mem_append,List.mem_singleton];have hm:y∈l↔y∈l.take k\/y∈l.drop k:=by
     rw [<- List.mem_append,List.take_append_drop]
    rw [hm];constructor
    ·rintro (h | h | h)
     ·exact .inl (.inl h)
     ·exact .inr h
     ·exact .inl (.inr h)
    ·rintro ((h | h) | h)
     ·exact .inl h
     ·exact .inr (.inr h)
     ·exact .inr (.inl h)
theorem su (g:bt) (aN:fX g) (l:List Item) (aj:l.length<=1000000):Tot (Cz g l) λr=>eQ gD r/\∀ x,x∈r↔x∈l/\iZ g x:=by
 unfold Cz;refine .ar (Ξ:=λr=>eQ gD r/\∀ x,x∈r↔x∈l/\iZ g x) ?_ λr ah=>.ag ah;refine Tot.count (λs=>s.2) l.length (λs=>∃ k:Nat,k<=l.length/\s.2=(k:Int)/\eQ gD s.1/\∀ x,x∈s.1↔x∈l.take k/\iZ g x) ⟨0,Nat.zero_le _,rfl,List.Pairwise.nil,λx=>by simp⟩ (by show (l.length:Int) - 0<_; omega) λs ay=>?_;obtain ⟨out,kJ⟩:=s;obtain ⟨k,hk,rfl,aR,hm⟩:=ay;simp only at aR hm ⊢;rw [F2 k (by omega)];refine Tot.ba (λaT=>?_) (λdC=>.ag ?_)
 ·have aT:k<l.length:=by omega
  rw [ea aT];refine .ar (Ξ:=λo:List Item=>eQ gD o/\∀ x,x∈o↔x∈l.take (k+1)/\iZ g x) ?_ λo aU=>.ag ⟨⟨k+1,by omega,rfl,aU⟩,by show (k:Int)<((k+1:Nat):Int); omega,by show ((k+1:Nat):Int)<=_; omega⟩;obtain ⟨c,aa,hi⟩:=Mq g l[k];rw [kr aT];refine Tot.sm ?_;rw [aa];refine Tot.sm (.ar (Ξ:=λo:List Item=>eQ gD o/\∀ x,x∈o↔x∈l.take k++[l[k]]/\iZ g x) (Tot.bk (λh=>?_) (λh=>.ag ⟨aR,λx=>?_⟩)) λo aU=>.ag aU)
  ·have xd:=tB aN aR λx j=>((hm x).1 j).2;refine Tot.sm (.ar (GU out _ aR (by omega)) λo aU=>.ag ⟨aU.1,λx=>?_⟩);rw [aU.2 x,List.mem_append,List.mem_singleton,hm x];constructor
   ·rintro (⟨h1,af⟩ | rfl)
    ·exact ⟨.inl h1,af⟩
    ·exact ⟨.inr rfl,hi.1 h⟩
   ·rintro ⟨h1 | rfl,af⟩
    ·exact .inl ⟨h1,af⟩
    ·exact .inr rfl
  ·rw [List.mem_append,List.mem_singleton,hm x];constructor
   ·rintro ⟨h1,af⟩;exact ⟨.inl h1,af⟩
   ·rintro ⟨h1 | rfl,af⟩
    ·exact ⟨h1,af⟩
    ·rw [hi.2 af] at h; cases h
 ·have:k=l.length:=by omega
  subst this;rw [List.take_length] at hm;exact ⟨aR,hm⟩
end Go.Proofs
