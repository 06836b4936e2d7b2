/- Parts of the proof that the last text states. -/
import Derived.KernelRfl
import Derived.Test.YtejfkabkakfblaaGreatDoorRows
import Derived.Test.YtejfkabkakfblaaGreatDoorF3
namespace Go.Proofs
open Go Go.Own
set_option maxRecDepth 100000
set_option linter.unusedVariables false
def xx (a0:ByteArray) (aB:(List Int)):Option (ByteArray) :=
 (eS (⟨#[118,97,114,32]⟩) a0).bind λbc =>
 (eS bc (⟨#[32,61,32,91,93,105,110,116,123]⟩)).bind λx2 =>
 (mY (⟨#[]⟩) x2).bind λaZ =>
 (b6 (R:=ByteArray) (λ(dk:ByteArray × Int) =>
 (bif decide (dk.2<(aB.length:Int)) then
 (idx aB dk.2).bind λcm =>
 ((bif decide (0<dk.2) then
 (mY dk.1 (⟨#[44,32]⟩)).bind λcU =>
 some cU
 else
 some dk.1)).bind λiX =>
 (s5 cm).bind λdU =>
 (mY iX dU).bind λeQ =>
 some (.inl (eQ,aE (dk.2+1)))
 else
 some (.inr dk.1))) (aZ,0)).bind λbM =>
 (mY bM (⟨#[125]⟩)).bind λd' =>
 (wz d').bind λdC =>
 some dC
def k9 (a0:Int):Option (ByteArray) :=
 ((bif decide (a0<0) then
 some (IntKind.u64.wrap (-(IntKind.u64.wrap a0)))
 else
 some (IntKind.u64.wrap a0))).bind λiV =>
 (b6 (R:=ByteArray) (λ(cb:Int × ByteArray) =>
 ((bif decide (0<cb.1) then some true else some (decide (cb.2=⟨#[]⟩)))).bind λl9 =>
 (bif l9 then
 (pP cb.1 10).bind λed =>
 (eS (strOfNums [gE (IntKind.u64.wrap (48+ed))]) cb.2).bind λbG =>
 (pO cb.1 10).bind λcU =>
 some (.inl (cU,bG))
 else
 some (.inr cb.2))) (iV,⟨#[]⟩)).bind λbR =>
 (bif decide (a0<0) then
 (eS (⟨#[45]⟩) bR).bind λeQ =>
 some eQ
 else
 some bR)
def vV (a0:Int):Option (Bool) :=
 ((bif decide (48<=a0) then some (decide (a0<=57)) else some false)).bind λc2 =>
 some c2
def Cn (a0:Int):Option (Bool) :=
 ((bif decide (97<=a0) then (bif decide (a0<=122) then some true else (bif decide (65<=a0) then (bif decide (a0<=90) then some true else some (decide (a0=95))) else some (decide (a0=95)))) else (bif decide (65<=a0) then (bif decide (a0<=90) then some true else some (decide (a0=95))) else some (decide (a0=95))))).bind λl9 =>
 some l9
def vU (a0:ByteArray) (aB:Int):Option (Int) :=
 (b6 (R:=Int) (λ(s1:Int) =>
 ((bif decide (aE (aB+s1)<(a0.size:Int)) then ((gz a0 (aE (aB+s1))).bind λbM=>((Cn bM).bind λbN=>(bif bN then some true else (bif decide (0<s1) then ((gz a0 (aE (aB+s1))).bind λed=>((vV ed).bind λbG=>(bif bG then some true else ((gz a0 (aE (aB+s1))).bind λdU=>some (decide (dU=46)))))) else some false)))) else some false)).bind λoB =>
 (bif oB then
 some (.inl (aE (s1+1)))
 else
 some (.inr s1))) 0).bind λx2 =>
 some x2
def uG (a0:ByteArray):Option (Bool) :=
 ((bif decide (1<=(a0.size:Int)) then (bif decide ((a0.size:Int)<=20) then ((vU a0 0).bind λaZ=>some (decide (aZ=(a0.size:Int)))) else some false) else some false)).bind λc4 =>
 some c4
def zw (a0:Int):Option (Int × Bool) :=
 (bif decide (a0=10) then
 some (110,true)
 else
 (bif decide (a0=9) then
 some (116,true)
 else
 (bif decide (a0=13) then
 some (114,true)
 else
 ((bif decide (a0=92) then
 some (decide (a0=92))
 else
 some (decide (a0=39)))).bind λJb =>
 (bif Jb then
 some (a0,true)
 else
 ((bif decide (32<=a0) then some (0,decide (a0<=126)) else some (0,false))).bind λtR =>
 some (tR.1,tR.2)))))
structure Sym where
 Name:ByteArray
 Lit:Bool
 bF:Int
 At:Int
 deriving DecidableEq,Inhabited
def dQ:bA Sym:=⟨4,λx=>[ax x.Name,bf x.Lit,ae x.bF,ae x.At],λ_=>rfl,λ_=>dh.bg⟩
instance:Flat dQ:=⟨λ_=>rfl⟩
instance:lf dQ:=⟨λx=>(inferInstance:i' [ax x.Name,bf x.Lit,ae x.bF,ae x.At])⟩
instance:gn dQ dQ:=⟨rfl,λx=>(inferInstance:c6 [ax x.Name,bf x.Lit,ae x.bF,ae x.At] [ax x.Name,bf x.Lit,ae x.bF,ae x.At])⟩
instance {x:Sym}:c6 (dQ.cells x) [ax x.Name,bf x.Lit,ae x.bF,ae x.At]:=(inferInstance:c6 [ax x.Name,bf x.Lit,ae x.bF,ae x.At] [ax x.Name,bf x.Lit,ae x.bF,ae x.At])
def r' (a0:Sym) (aB:Bool) (a2:Bool):Option (Bool) :=
 (bif a0.Lit then
 ((bif !a2 then some true else (bif !decide ((a0.Name.size:Int)=1) then some true else some (!decide (a0.bF=0))))).bind λc4 =>
 (bif c4 then
 some false
 else
 (gz a0.Name 0).bind λbN =>
 (zw bN).bind λbW =>
 some bW.2)
 else
 (((uG a0.Name).bind λcm=>(bif cm then (bif decide (a0.bF=0) then some true else (bif aB then (bif decide (1<=a0.bF) then some (decide (a0.bF<=50000)) else some false) else some false)) else some false))).bind λoB =>
 some oB)
structure Decl where
 Kind:Int
 Tag:ByteArray
 ev:(List Sym)
 At:Int
 deriving DecidableEq,Inhabited
def ff:bA Decl:=⟨4,λx=>[ae x.Kind,ax x.Tag,ao dQ x.ev,ae x.At],λ_=>rfl,λ_=>dh.bg⟩
instance:Flat ff:=⟨λ_=>rfl⟩
instance:gn ff ff:=⟨rfl,λx=>(inferInstance:c6 [ae x.Kind,ax x.Tag,ao dQ x.ev,ae x.At] [ae x.Kind,ax x.Tag,ao dQ x.ev,ae x.At])⟩
instance {x:Decl}:c6 (ff.cells x) [ae x.Kind,ax x.Tag,ao dQ x.ev,ae x.At]:=(inferInstance:c6 [ae x.Kind,ax x.Tag,ao dQ x.ev,ae x.At] [ae x.Kind,ax x.Tag,ao dQ x.ev,ae x.At])
def r_ (a0:Decl):Option (Bool) :=
 ((bif decide (a0.Kind<1) then some true else (bif decide (6<a0.Kind) then some true else (bif decide ((a0.ev.length:Int)=0) then some true else (bif decide (a0.Kind=6) then (bif !decide ((a0.ev.length:Int)=1) then some true else (bif !decide (a0.Tag=⟨#[]⟩) then some true else (bif decide (a0.Kind=5) then (bif decide (a0.Tag=⟨#[]⟩) then some true else some false) else some false))) else (bif decide (a0.Kind=5) then (bif decide (a0.Tag=⟨#[]⟩) then some true else (bif !decide (a0.Tag=⟨#[]⟩) then ((uG a0.Tag).bind λdU=>some (!dU)) else some false)) else (bif !decide (a0.Tag=⟨#[]⟩) then ((uG a0.Tag).bind λd'=>some (!d')) else some false))))))).bind λph =>
 (bif ph then
 some false
 else
 (b6 (R:=(Unit) ⊕ (Bool)) (λ(gg:Int) =>
 (bif decide (gg<(a0.ev.length:Int)) then
 (idx a0.ev gg).bind λfS =>
 (r' fS (decide (a0.Kind=1)) (decide (a0.Kind<5))).bind λhp =>
 (bif !hp then
 some (.inr (.inr false))
 else
 some (.inl (aE (gg+1))))
 else
 some (.inr (.inl ())))) 0).bind λfY =>
 (match fY with
 | .inl f' =>
 some true
 | .inr fF =>
 some fF))
def xF (a0:ByteArray) (aB:Int) (a2:ByteArray):Option (Bool) :=
 ((bif decide ((a2.size:Int)<=aE ((a0.size:Int) - aB)) then ((lK a0 aB (aE (aB+(a2.size:Int)))).bind λx2=>some (decide (x2=a2))) else some false)).bind λjt =>
 some jt
def zE (a0:ByteArray) (aB:Int):Option (Int) :=
 (((gz a0 aB).bind λbc=>(bif decide (bc=34) then some true else ((gz a0 aB).bind λaZ=>some (decide (aZ=39)))))).bind λc4 =>
 (bif c4 then
 (b6 (R:=(Unit) ⊕ (Int)) (λ(da:Int) =>
 ((bif decide (da<(a0.size:Int)) then ((gz a0 da).bind λcU=>some (!decide (cU=10))) else some false)).bind λwA =>
 (bif wA then
 (gz a0 da).bind λd' =>
 (gz a0 aB).bind λdC =>
 (bif decide (d'=dC) then
 some (.inr (.inr (aE (da+1))))
 else
 (gz a0 da).bind λbK =>
 (bif decide (bK=92) then
 ((bif decide (aE (da+1)<(a0.size:Int)) then ((gz a0 (aE (da+1))).bind λfF=>some (decide (fF=10))) else some false)).bind λrE =>
 (bif rE then
 some (.inr (.inr (-1)))
 else
 some (.inl (aE ((aE (da+1))+1))))
 else
 some (.inl (aE (da+1)))))
 else
 some (.inr (.inl ())))) (aE (aB+1))).bind λbW =>
 (match bW with
 | .inl cm =>
 some (-1)
 | .inr ed =>
 some ed)
 else
 (gz a0 aB).bind λhp =>
 (bif decide (hp=96) then
 (b6 (R:=(Unit) ⊕ (Int)) (λ(oe:Int) =>
 (bif decide (oe<(a0.size:Int)) then
 (gz a0 oe).bind λir =>
 (bif decide (ir=96) then
 some (.inr (.inr (aE (oe+1))))
 else
 some (.inl (aE (oe+1))))
 else
 some (.inr (.inl ())))) (aE (aB+1))).bind λhM =>
 (match hM with
 | .inl fT =>
 some (-1)
 | .inr cD =>
 some cD)
 else
 (xF a0 aB (⟨#[47,47]⟩)).bind λhz =>
 (bif hz then
 (b6 (R:=Int) (λ(gk:Int) =>
 ((bif decide (gk<(a0.size:Int)) then ((gz a0 gk).bind λcQ=>some (!decide (cQ=10))) else some false)).bind λAG =>
 (bif AG then
 some (.inl (aE (gk+1)))
 else
 some (.inr gk))) aB).bind λfG =>
 some fG
 else
 (xF a0 aB (⟨#[47,42]⟩)).bind λkm =>
 (bif km then
 (b6 (R:=(Unit) ⊕ (Int)) (λ(zQ:Int) =>
 (bif decide (zQ<(a0.size:Int)) then
 (xF a0 zQ (⟨#[42,47]⟩)).bind λtp =>
 (bif tp then
 some (.inr (.inr (aE (zQ+2))))
 else
 some (.inl (aE (zQ+1))))
 else
 some (.inr (.inl ())))) (aE (aB+2))).bind λtn =>
 (match tn with
 | .inl nH =>
 some (-1)
 | .inr nI =>
 some nI)
 else
 some aB))))
def xD (a0:ByteArray) (aB:Int):Option (Int) :=
 ((bif decide (aB<0) then some true else (bif decide ((a0.size:Int)<=aB) then some true else ((gz a0 aB).bind λaZ=>some (!decide (aZ=123)))))).bind λc4 =>
 (bif c4 then
 some (-1)
 else
 (b6 (R:=(Unit) ⊕ (Int)) (λ(da:Int × Int) =>
 (bif decide (da.2<(a0.size:Int)) then
 (zE a0 da.2).bind λcU =>
 (bif decide (cU<0) then
 some (.inr (.inr (-1)))
 else
 (bif decide (da.2<cU) then
 some (.inl (da.1,cU))
 else
 (gz a0 da.2).bind λd' =>
 ((bif decide (d'=123) then
 some (aE (da.1+1))
 else
 some da.1)).bind λlA =>
 (gz a0 da.2).bind λbK =>
 ((bif decide (bK=125) then
 some (aE (lA - 1))
 else
 some lA)).bind λEJ =>
 (bif decide (EJ=0) then
 some (.inr (.inr (aE (da.2+1))))
 else
 some (.inl (EJ,aE (da.2+1))))))
 else
 some (.inr (.inl ())))) (0,aB)).bind λbW =>
 (match bW with
 | .inl cm =>
 some (-1)
 | .inr ed =>
 some ed))
def uH (a0:Sym):Option (Bool) :=
 ((bif decide (a0.Name=⟨#[]⟩) then (bif !a0.Lit then some (decide (a0.bF=0)) else some false) else some false)).bind λjt =>
 some jt
structure Part where
 Sym:Sym
 Code:ByteArray
 At:Int
 deriving DecidableEq,Inhabited
structure Alt where
 Parts:(List Part)
 Prec:Sym
 At:Int
 deriving DecidableEq,Inhabited
def hX:bA Part:=⟨6,λx=>[ax x.Sym.Name,bf x.Sym.Lit,ae x.Sym.bF,ae x.Sym.At,ax x.Code,ae x.At],λ_=>rfl,λ_=>dh.bg⟩
instance:Flat hX:=⟨λ_=>rfl⟩
instance:lf hX:=⟨λx=>(inferInstance:i' [ax x.Sym.Name,bf x.Sym.Lit,ae x.Sym.bF,ae x.Sym.At,ax x.Code,ae x.At])⟩
instance:gn hX hX:=⟨rfl,λx=>(inferInstance:c6 [ax x.Sym.Name,bf x.Sym.Lit,ae x.Sym.bF,ae x.Sym.At,ax x.Code,ae x.At] [ax x.Sym.Name,bf x.Sym.Lit,ae x.Sym.bF,ae x.Sym.At,ax x.Code,ae x.At])⟩
instance {x:Part}:c6 (hX.cells x) [ax x.Sym.Name,bf x.Sym.Lit,ae x.Sym.bF,ae x.Sym.At,ax x.Code,ae x.At]:=(inferInstance:c6 [ax x.Sym.Name,bf x.Sym.Lit,ae x.Sym.bF,ae x.Sym.At,ax x.Code,ae x.At] [ax x.Sym.Name,bf x.Sym.Lit,ae x.Sym.bF,ae x.Sym.At,ax x.Code,ae x.At])
def fK:bA Alt:=⟨6,λx=>[ao hX x.Parts,ax x.Prec.Name,bf x.Prec.Lit,ae x.Prec.bF,ae x.Prec.At,ae x.At],λ_=>rfl,λ_=>dh.bg⟩
instance:Flat fK:=⟨λ_=>rfl⟩
instance:gn fK fK:=⟨rfl,λx=>(inferInstance:c6 [ao hX x.Parts,ax x.Prec.Name,bf x.Prec.Lit,ae x.Prec.bF,ae x.Prec.At,ae x.At] [ao hX x.Parts,ax x.Prec.Name,bf x.Prec.Lit,ae x.Prec.bF,ae x.Prec.At,ae x.At])⟩
instance {x:Alt}:c6 (fK.cells x) [ao hX x.Parts,ax x.Prec.Name,bf x.Prec.Lit,ae x.Prec.bF,ae x.Prec.At,ae x.At]:=(inferInstance:c6 [ao hX x.Parts,ax x.Prec.Name,bf x.Prec.Lit,ae x.Prec.bF,ae x.Prec.At,ae x.At] [ao hX x.Parts,ax x.Prec.Name,bf x.Prec.Lit,ae x.Prec.bF,ae x.Prec.At,ae x.At])
def qw (a0:Alt):Option (Bool) :=
 (b6 (R:=(Unit) ⊕ (Bool)) (λ(s1:Int) =>
 (bif decide (s1<(a0.Parts.length:Int)) then
 (idx a0.Parts s1).bind λbN =>
 ((bif decide (bN.Code=⟨#[]⟩) then ((r' bN.Sym false true).bind λcm=>(bif !cm then some true else (bif !decide (bN.Code=⟨#[]⟩) then ((uH bN.Sym).bind λcU=>(bif !cU then some true else ((xD bN.Code 0).bind λeQ=>some (!decide (eQ=(bN.Code.size:Int)))))) else some false))) else (bif !decide (bN.Code=⟨#[]⟩) then ((uH bN.Sym).bind λdC=>(bif !dC then some true else ((xD bN.Code 0).bind λbK=>some (!decide (bK=(bN.Code.size:Int)))))) else some false))).bind λmZ =>
 (bif mZ then
 some (.inr (.inr false))
 else
 some (.inl (aE (s1+1))))
 else
 some (.inr (.inl ())))) 0).bind λx2 =>
 (match x2 with
 | .inl aZ =>
 (((uH a0.Prec).bind λfF=>(bif fF then some true else ((r' a0.Prec false true).bind λfS=>some fS)))).bind λtO =>
 some tO
 | .inr bR =>
 some bR)
structure hU where
 Left:ByteArray
 hg:(List Alt)
 At:Int
 deriving DecidableEq,Inhabited
structure Source where
 b9:ByteArray
 Decls:(List Decl)
 fu:(List hU)
 cg:ByteArray
 deriving DecidableEq,Inhabited
def je:bA hU:=⟨3,λx=>[ax x.Left,ao fK x.hg,ae x.At],λ_=>rfl,λ_=>dh.bg⟩
instance:Flat je:=⟨λ_=>rfl⟩
instance:gn je je:=⟨rfl,λx=>(inferInstance:c6 [ax x.Left,ao fK x.hg,ae x.At] [ax x.Left,ao fK x.hg,ae x.At])⟩
instance {x:hU}:c6 (je.cells x) [ax x.Left,ao fK x.hg,ae x.At]:=(inferInstance:c6 [ax x.Left,ao fK x.hg,ae x.At] [ax x.Left,ao fK x.hg,ae x.At])
def hj:bA Source:=⟨4,λx=>[ax x.b9,ao ff x.Decls,ao je x.fu,ax x.cg],λ_=>rfl,λ_=>dh.bg⟩
instance:Flat hj:=⟨λ_=>rfl⟩
instance:gn hj hj:=⟨rfl,λx=>(inferInstance:c6 [ax x.b9,ao ff x.Decls,ao je x.fu,ax x.cg] [ax x.b9,ao ff x.Decls,ao je x.fu,ax x.cg])⟩
instance {x:Source}:c6 (hj.cells x) [ax x.b9,ao ff x.Decls,ao je x.fu,ax x.cg]:=(inferInstance:c6 [ax x.b9,ao ff x.Decls,ao je x.fu,ax x.cg] [ax x.b9,ao ff x.Decls,ao je x.fu,ax x.cg])
def uM (a0:Source):Option (Bool) :=
 (b6 (R:=(Unit) ⊕ (Bool)) (λ(s1:Int) =>
 (bif decide (aE (s1+1)<(a0.b9.size:Int)) then
 (lK a0.b9 s1 (aE (s1+2))).bind λbN =>
 (bif decide (bN=⟨#[37,125]⟩) then
 some (.inr (.inr false))
 else
 some (.inl (aE (s1+1))))
 else
 some (.inr (.inl ())))) 0).bind λx2 =>
 (match x2 with
 | .inl aZ =>
 (b6 (R:=(Unit) ⊕ (Bool)) (λ(eV:Int) =>
 (bif decide (eV<(a0.Decls.length:Int)) then
 (idx a0.Decls eV).bind λeQ =>
 (r_ eQ).bind λd' =>
 (bif !d' then
 some (.inr (.inr false))
 else
 some (.inl (aE (eV+1))))
 else
 some (.inr (.inl ())))) 0).bind λed =>
 (match ed with
 | .inl bG =>
 (b6 (R:=(Unit) ⊕ (Bool)) (λ(CR:Int) =>
 (bif decide (CR<(a0.fu.length:Int)) then
 (idx a0.fu CR).bind λfZ =>
 (((uG fZ.Left).bind λfS=>(bif !fS then some true else some (decide ((fZ.hg.length:Int)=0))))).bind λGF =>
 (bif GF then
 some (.inr (.inr false))
 else
 (b6 (R:=(Unit) ⊕ (Bool)) (λ(og:Int) =>
 (bif decide (og<(fZ.hg.length:Int)) then
 (idx fZ.hg og).bind λpW =>
 (qw pW).bind λhz =>
 (bif !hz then
 some (.inr (.inr false))
 else
 some (.inl (aE (og+1))))
 else
 some (.inr (.inl ())))) 0).bind λfT =>
 (match fT with
 | .inl cD =>
 some (.inl (aE (CR+1)))
 | .inr er =>
 some (.inr (.inr er))))
 else
 some (.inr (.inl ())))) 0).bind λbK =>
 (match bK with
 | .inl fY =>
 some (decide (0<(a0.fu.length:Int)))
 | .inr f' =>
 some f')
 | .inr cU =>
 some cU)
 | .inr bR =>
 some bR)
structure Tok where
 Name:ByteArray
 Lit:Bool
 bF:Int
 Level:Int
 e9:Int
 Tag:ByteArray
 deriving DecidableEq,Inhabited
structure e4 where
 Name:ByteArray
 Tag:ByteArray
 deriving DecidableEq,Inhabited
structure Prod where
 Left:Int
 e1:(List Int)
 Prec:Int
 Code:ByteArray
 rq:(List Int)
 At:Int
 deriving DecidableEq,Inhabited
structure bq where
 aX:(List Tok)
 bO:(List e4)
 a1:(List Prod)
 b9:ByteArray
 cg:ByteArray
 deriving DecidableEq,Inhabited
structure dc where
 aD:bq
 b_:(List Bool)
 cp:(List e4)
 bX:(List ByteArray)
 cI:Int
 c_:Int
 c8:ByteArray
 b':Int
 bQ:Int
 deriving DecidableEq,Inhabited
def bP:bA Tok:=⟨6,λx=>[ax x.Name,bf x.Lit,ae x.bF,ae x.Level,ae x.e9,ax x.Tag],λ_=>rfl,λ_=>dh.bg⟩
instance:Flat bP:=⟨λ_=>rfl⟩
instance:lf bP:=⟨λx=>(inferInstance:i' [ax x.Name,bf x.Lit,ae x.bF,ae x.Level,ae x.e9,ax x.Tag])⟩
instance:gn bP bP:=⟨rfl,λx=>(inferInstance:c6 [ax x.Name,bf x.Lit,ae x.bF,ae x.Level,ae x.e9,ax x.Tag] [ax x.Name,bf x.Lit,ae x.bF,ae x.Level,ae x.e9,ax x.Tag])⟩
instance {x:Tok}:c6 (bP.cells x) [ax x.Name,bf x.Lit,ae x.bF,ae x.Level,ae x.e9,ax x.Tag]:=(inferInstance:c6 [ax x.Name,bf x.Lit,ae x.bF,ae x.Level,ae x.e9,ax x.Tag] [ax x.Name,bf x.Lit,ae x.bF,ae x.Level,ae x.e9,ax x.Tag])
def bz:bA e4:=⟨2,λx=>[ax x.Name,ax x.Tag],λ_=>rfl,λ_=>dh.bg⟩
instance:Flat bz:=⟨λ_=>rfl⟩
instance:lf bz:=⟨λx=>(inferInstance:i' [ax x.Name,ax x.Tag])⟩
instance:gn bz bz:=⟨rfl,λx=>(inferInstance:c6 [ax x.Name,ax x.Tag] [ax x.Name,ax x.Tag])⟩
def cw:bA Prod:=⟨6,λx=>[ae x.Left,ao az x.e1,ae x.Prec,ax x.Code,ao az x.rq,ae x.At],λ_=>rfl,λ_=>dh.bg⟩
instance:Flat cw:=⟨λ_=>rfl⟩
instance:gn cw cw:=⟨rfl,λx=>(inferInstance:c6 [ae x.Left,ao az x.e1,ae x.Prec,ax x.Code,ao az x.rq,ae x.At] [ae x.Left,ao az x.e1,ae x.Prec,ax x.Code,ao az x.rq,ae x.At])⟩
instance {x:Prod}:c6 (cw.cells x) [ae x.Left,ao az x.e1,ae x.Prec,ax x.Code,ao az x.rq,ae x.At]:=(inferInstance:c6 [ae x.Left,ao az x.e1,ae x.Prec,ax x.Code,ao az x.rq,ae x.At] [ae x.Left,ao az x.e1,ae x.Prec,ax x.Code,ao az x.rq,ae x.At])
def cS:bA bq:=⟨5,λx=>[ao bP x.aX,ao bz x.bO,ao cw x.a1,ax x.b9,ax x.cg],λ_=>rfl,λ_=>dh.bg⟩
instance:Flat cS:=⟨λ_=>rfl⟩
instance:gn cS cS:=⟨rfl,λx=>(inferInstance:c6 [ao bP x.aX,ao bz x.bO,ao cw x.a1,ax x.b9,ax x.cg] [ao bP x.aX,ao bz x.bO,ao cw x.a1,ax x.b9,ax x.cg])⟩
instance {x:bq}:c6 (cS.cells x) [ao bP x.aX,ao bz x.bO,ao cw x.a1,ax x.b9,ax x.cg]:=(inferInstance:c6 [ao bP x.aX,ao bz x.bO,ao cw x.a1,ax x.b9,ax x.cg] [ao bP x.aX,ao bz x.bO,ao cw x.a1,ax x.b9,ax x.cg])
def DR:bA dc:=⟨13,λx=>[ao bP x.aD.aX,ao bz x.aD.bO,ao cw x.aD.a1,ax x.aD.b9,ax x.aD.cg,ao cn x.b_,ao bz x.cp,ao cL x.bX,ae x.cI,ae x.c_,ax x.c8,ae x.b',ae x.bQ],λ_=>rfl,λ_=>dh.bg⟩
instance:Flat DR:=⟨λ_=>rfl⟩
instance:gn DR DR:=⟨rfl,λx=>(inferInstance:c6 [ao bP x.aD.aX,ao bz x.aD.bO,ao cw x.aD.a1,ax x.aD.b9,ax x.aD.cg,ao cn x.b_,ao bz x.cp,ao cL x.bX,ae x.cI,ae x.c_,ax x.c8,ae x.b',ae x.bQ] [ao bP x.aD.aX,ao bz x.aD.bO,ao cw x.aD.a1,ax x.aD.b9,ax x.aD.cg,ao cn x.b_,ao bz x.cp,ao cL x.bX,ae x.cI,ae x.c_,ax x.c8,ae x.b',ae x.bQ])⟩
instance {x:dc}:c6 (DR.cells x) [ao bP x.aD.aX,ao bz x.aD.bO,ao cw x.aD.a1,ax x.aD.b9,ax x.aD.cg,ao cn x.b_,ao bz x.cp,ao cL x.bX,ae x.cI,ae x.c_,ax x.c8,ae x.b',ae x.bQ]:=(inferInstance:c6 [ao bP x.aD.aX,ao bz x.aD.bO,ao cw x.aD.a1,ax x.aD.b9,ax x.aD.cg,ao cn x.b_,ao bz x.cp,ao cL x.bX,ae x.cI,ae x.c_,ax x.c8,ae x.b',ae x.bQ] [ao bP x.aD.aX,ao bz x.aD.bO,ao cw x.aD.a1,ax x.aD.b9,ax x.aD.cg,ao cn x.b_,ao bz x.cp,ao cL x.bX,ae x.cI,ae x.c_,ax x.c8,ae x.b',ae x.bQ])
def L4:bA bq:=⟨5,λx=>[aq bP x.aX,aq bz x.bO,aq cw x.a1,ax x.b9,ax x.cg],λ_=>rfl,λ_=>dh.bg⟩
instance:gn L4 cS:=⟨rfl,λx=>(inferInstance:c6 [aq bP x.aX,aq bz x.bO,aq cw x.a1,ax x.b9,ax x.cg] [ao bP x.aX,ao bz x.bO,ao cw x.a1,ax x.b9,ax x.cg])⟩
instance {x:bq}:c6 (L4.cells x) [ao bP x.aX,ao bz x.bO,ao cw x.a1,ax x.b9,ax x.cg]:=(inferInstance:c6 [aq bP x.aX,aq bz x.bO,aq cw x.a1,ax x.b9,ax x.cg] [ao bP x.aX,ao bz x.bO,ao cw x.a1,ax x.b9,ax x.cg])
def dH:bA dc:=⟨13,λx=>[aq bP x.aD.aX,aq bz x.aD.bO,aq cw x.aD.a1,ax x.aD.b9,ax x.aD.cg,aq cn x.b_,aq bz x.cp,aq cL x.bX,ae x.cI,ae x.c_,ax x.c8,ae x.b',ae x.bQ],λ_=>rfl,λ_=>dh.bg⟩
instance {x:dc}:c6 (dH.cells x) [ao bP x.aD.aX,ao bz x.aD.bO,ao cw x.aD.a1,ax x.aD.b9,ax x.aD.cg,ao cn x.b_,ao bz x.cp,ao cL x.bX,ae x.cI,ae x.c_,ax x.c8,ae x.b',ae x.bQ]:=(inferInstance:c6 [aq bP x.aD.aX,aq bz x.aD.bO,aq cw x.aD.a1,ax x.aD.b9,ax x.aD.cg,aq cn x.b_,aq bz x.cp,aq cL x.bX,ae x.cI,ae x.c_,ax x.c8,ae x.b',ae x.bQ] [ao bP x.aD.aX,ao bz x.aD.bO,ao cw x.aD.a1,ax x.aD.b9,ax x.aD.cg,ao cn x.b_,ao bz x.cp,ao cL x.bX,ae x.cI,ae x.c_,ax x.c8,ae x.b',ae x.bQ])
def nD (a0:dc) (aB:Int) (a2:ByteArray):Option (dc) :=
 ((bif decide (a0.cI=0) then
 some (⟨a0.aD,a0.b_,a0.cp,a0.bX,3,aB,a2,a0.b',a0.bQ⟩:dc)
 else
 some a0)).bind λiV =>
 some iV
def vR (a0:dc) (aB:ByteArray):Option (Int) :=
 (b6 (R:=(Unit) ⊕ (Int)) (λ(s1:Int) =>
 (bif decide (s1<(a0.cp.length:Int)) then
 (idx a0.cp s1).bind λbN =>
 (bif decide (bN.Name=aB) then
 some (.inr (.inr s1))
 else
 some (.inl (aE (s1+1))))
 else
 some (.inr (.inl ())))) 0).bind λx2 =>
 (match x2 with
 | .inl aZ =>
 some (-1)
 | .inr bR =>
 some bR)
def qv (a0:dc) (aB:Sym):Option (Int) :=
 (b6 (R:=(Unit) ⊕ (Int)) (λ(s1:Int) =>
 (bif decide (s1<(a0.aD.aX.length:Int)) then
 (((idx a0.aD.aX s1).bind λbN=>(bif decide (bN.Name=aB.Name) then ((idx a0.aD.aX s1).bind λcm=>(bif (cm.Lit == aB.Lit) then some (!decide (s1=2)) else some false)) else some false))).bind λhW =>
 (bif hW then
 some (.inr (.inr s1))
 else
 some (.inl (aE (s1+1))))
 else
 some (.inr (.inl ())))) 1).bind λx2 =>
 (match x2 with
 | .inl aZ =>
 some (-1)
 | .inr bR =>
 some bR)
def s' (a0:dc) (aB:Int):Option (Int) :=
 (b6 (R:=(Unit) ⊕ (Int)) (λ(s1:Int) =>
 (bif decide (s1<(a0.aD.aX.length:Int)) then
 (idx a0.aD.aX s1).bind λbN =>
 (bif decide (bN.bF=aB) then
 some (.inr (.inr s1))
 else
 some (.inl (aE (s1+1))))
 else
 some (.inr (.inl ())))) 3).bind λx2 =>
 (match x2 with
 | .inl aZ =>
 some (-1)
 | .inr bR =>
 some bR)
def q8 (a0:dc) (aB:Sym):Option (Int × dc) :=
 (qv a0 aB).bind λbc =>
 (bif decide (0<=bc) then
 some (bc,a0)
 else
 ((bif aB.Lit then
 (gz aB.Name 0).bind λbM =>
 (s' a0 (aE bM)).bind λbN =>
 ((bif decide (0<=bN) then
 (nD a0 aB.At aB.Name).bind λed =>
 some ed
 else
 some a0)).bind λoT =>
 some (oT,aE bM)
 else
 some (a0,0))).bind λh' =>
 (dj h'.1.aD.aX [(⟨aB.Name,aB.Lit,h'.2,0,0,⟨#[]⟩⟩:Tok)]).bind λbG =>
 (dj h'.1.b_ [aB.Lit]).bind λcU =>
 some (aE (((h'.1.aD.aX++[(⟨aB.Name,aB.Lit,h'.2,0,0,⟨#[]⟩⟩:Tok)]).length:Int) - 1),(⟨(⟨h'.1.aD.aX++[(⟨aB.Name,aB.Lit,h'.2,0,0,⟨#[]⟩⟩:Tok)],h'.1.aD.bO,h'.1.aD.a1,h'.1.aD.b9,h'.1.aD.cg⟩:bq),h'.1.b_++[aB.Lit],h'.1.cp,h'.1.bX,h'.1.cI,h'.1.c_,h'.1.c8,h'.1.b',h'.1.bQ⟩:dc)))
def pK (a0:dc) (aB:Decl) (a2:Sym):Option (dc) :=
 (bif decide (aB.Kind=5) then
 (vR a0 a2.Name).bind λx2 =>
 ((bif decide (x2<0) then
 (dj a0.cp [(⟨a2.Name,aB.Tag⟩:e4)]).bind λbM =>
 some (⟨a0.aD,a0.b_,a0.cp++[(⟨a2.Name,aB.Tag⟩:e4)],a0.bX,a0.cI,a0.c_,a0.c8,a0.b',a0.bQ⟩:dc)
 else
 (idx a0.cp x2).bind λbN =>
 ((bif !decide (bN.Tag=aB.Tag) then
 (nD a0 a2.At a2.Name).bind λed =>
 some ed
 else
 some a0)).bind λoT =>
 some oT)).bind λh' =>
 some h'
 else
 (q8 a0 a2).bind λbG =>
 (idx bG.2.aD.aX bG.1).bind λcU =>
 ((bif !decide (aB.Kind=1) then
 ((bif decide (0<cU.Level) then
 (nD bG.2 a2.At a2.Name).bind λcc =>
 some (⟨(⟨bG.2.aD.aX,cc.aD.bO,cc.aD.a1,cc.aD.b9,cc.aD.cg⟩:bq),cc.b_,cc.cp,cc.bX,cc.cI,cc.c_,cc.c8,cc.b',cc.bQ⟩:dc)
 else
 some bG.2)).bind λcZ =>
 (idx cZ.aD.aX bG.1).bind λbK =>
 some (⟨(⟨(cZ.aD.aX.set bG.1.toNat (⟨bK.Name,bK.Lit,bK.bF,cZ.b',bK.e9,bK.Tag⟩:Tok)).set bG.1.toNat (⟨(⟨bK.Name,bK.Lit,bK.bF,cZ.b',bK.e9,bK.Tag⟩:Tok).Name,(⟨bK.Name,bK.Lit,bK.bF,cZ.b',bK.e9,bK.Tag⟩:Tok).Lit,(⟨bK.Name,bK.Lit,bK.bF,cZ.b',bK.e9,bK.Tag⟩:Tok).bF,(⟨bK.Name,bK.Lit,bK.bF,cZ.b',bK.e9,bK.Tag⟩:Tok).Level,aE (aB.Kind - 1),(⟨bK.Name,bK.Lit,bK.bF,cZ.b',bK.e9,bK.Tag⟩:Tok).Tag⟩:Tok),cZ.aD.bO,cZ.aD.a1,cZ.aD.b9,cZ.aD.cg⟩:bq),cZ.b_,cZ.cp,cZ.bX,cZ.cI,cZ.c_,cZ.c8,cZ.b',cZ.bQ⟩:dc)
 else
 some bG.2)).bind λeG =>
 (idx eG.aD.aX bG.1).bind λfY =>
 ((bif decide (0<a2.bF) then
 ((bif decide (bG.1=1) then some true else ((idx eG.b_ bG.1).bind λfS=>(bif fS then some true else ((s' eG a2.bF).bind λfO=>some (decide (0<=fO))))))).bind λGG =>
 ((bif GG then
 (nD eG a2.At a2.Name).bind λcD =>
 some (⟨(⟨eG.aD.aX,cD.aD.bO,cD.aD.a1,cD.aD.b9,cD.aD.cg⟩:bq),cD.b_,cD.cp,cD.bX,cD.cI,cD.c_,cD.c8,cD.b',cD.bQ⟩:dc)
 else
 some eG)).bind λdL =>
 (idx dL.aD.aX bG.1).bind λer =>
 (idx dL.b_ bG.1).bind λir =>
 some (⟨(⟨dL.aD.aX.set bG.1.toNat (⟨er.Name,er.Lit,a2.bF,er.Level,er.e9,er.Tag⟩:Tok),dL.aD.bO,dL.aD.a1,dL.aD.b9,dL.aD.cg⟩:bq),dL.b_.set bG.1.toNat true,dL.cp,dL.bX,dL.cI,dL.c_,dL.c8,dL.b',dL.bQ⟩:dc)
 else
 some eG)).bind λeT =>
 (idx eT.aD.aX bG.1).bind λpW =>
 ((bif !decide (aB.Tag=⟨#[]⟩) then
 ((bif !decide (pW.Tag=⟨#[]⟩) then some (!decide (pW.Tag=aB.Tag)) else some false)).bind λGI =>
 ((bif GI then
 (nD eT a2.At a2.Name).bind λcQ =>
 some (⟨(⟨eT.aD.aX,cQ.aD.bO,cQ.aD.a1,cQ.aD.b9,cQ.aD.cg⟩:bq),cQ.b_,cQ.cp,cQ.bX,cQ.cI,cQ.c_,cQ.c8,cQ.b',cQ.bQ⟩:dc)
 else
 some eT)).bind λml =>
 (idx ml.aD.aX bG.1).bind λgW =>
 some (⟨(⟨ml.aD.aX.set bG.1.toNat (⟨gW.Name,gW.Lit,gW.bF,gW.Level,gW.e9,aB.Tag⟩:Tok),ml.aD.bO,ml.aD.a1,ml.aD.b9,ml.aD.cg⟩:bq),ml.b_,ml.cp,ml.bX,ml.cI,ml.c_,ml.c8,ml.b',ml.bQ⟩:dc)
 else
 some eT)).bind λpB =>
 some pB)
def pL (a0:dc) (aB:ByteArray):Option (Int) :=
 (b6 (R:=(Unit) ⊕ (Int)) (λ(s1:Int) =>
 (bif decide (s1<(a0.bX.length:Int)) then
 (idx a0.bX s1).bind λbN =>
 (bif decide (bN=aB) then
 some (.inr (.inr s1))
 else
 some (.inl (aE (s1+1))))
 else
 some (.inr (.inl ())))) 0).bind λx2 =>
 (match x2 with
 | .inl aZ =>
 some (-1)
 | .inr bR =>
 some bR)
def pM (a0:dc) (aB:Sym):Option (Int × dc) :=
 (bif aB.Lit then
 (q8 a0 aB).bind λx2 =>
 some (x2.1,x2.2)
 else
 (pL a0 aB.Name).bind λaZ =>
 (bif decide (0<=aZ) then
 some (aE (1001+aZ),a0)
 else
 (qv a0 aB).bind λbM =>
 (bif decide (bM<0) then
 (nD a0 aB.At aB.Name).bind λbW =>
 some (0,bW)
 else
 some (bM,a0))))
def ob (a0:dc) (aB:ByteArray) (a2:Alt):Option (dc) :=
 (pL a0 aB).bind λbc =>
 (b6 (R:=dc × List Int × ByteArray × Int) (λ(s2:dc × List Int × ByteArray × Int × Int) =>
 (bif decide (s2.2.2.2.2<(a2.Parts.length:Int)) then
 ((idx a2.Parts s2.2.2.2.2).bind λbW =>
 (((bif decide (bW.Code=⟨#[]⟩) then
 (pM s2.1 bW.Sym).bind λcU =>
 (dj s2.2.1 [cU.1]).bind λdU =>
 some (cU.2,s2.2.1++[cU.1],s2.2.2.1,s2.2.2.2.1)
 else
 ((bif decide (aE (s2.2.2.2.2+1)=(a2.Parts.length:Int)) then
 some (s2.1.aD.a1,s2.1.bQ,s2.2.1,bW.Code,bW.At)
 else
 (dj ([]:List Int) s2.2.1).bind λdC =>
 (dj s2.1.aD.a1 [(⟨aE ((s2.1.bX.length:Int)+(aE (s2.1.bQ+1))),([]:List Int),(-1),bW.Code,([]:List Int)++s2.2.1,bW.At⟩:Prod)]).bind λcc =>
 (dj s2.2.1 [aE ((aE (1000+(s2.1.bX.length:Int)))+(aE (s2.1.bQ+1)))]).bind λbK =>
 some (s2.1.aD.a1++[(⟨aE ((s2.1.bX.length:Int)+(aE (s2.1.bQ+1))),([]:List Int),(-1),bW.Code,([]:List Int)++s2.2.1,bW.At⟩:Prod)],aE (s2.1.bQ+1),s2.2.1++[aE ((aE (1000+(s2.1.bX.length:Int)))+(aE (s2.1.bQ+1)))],s2.2.2.1,s2.2.2.2.1))).bind λik =>
 some ((⟨(⟨s2.1.aD.aX,s2.1.aD.bO,ik.1,s2.1.aD.b9,s2.1.aD.cg⟩:bq),s2.1.b_,s2.1.cp,s2.1.bX,s2.1.cI,s2.1.c_,s2.1.c8,s2.1.b',ik.2.1⟩:dc),ik.2.2.1,ik.2.2.2.1,ik.2.2.2.2))).bind λiX =>
 some (iX.1,iX.2.1,iX.2.2.1,iX.2.2.2)).bind λfg =>
 some (fg.1,fg.2.1,fg.2.2.1,fg.2.2.2)).bind λkC =>
 some (.inl (kC.1,kC.2.1,kC.2.2.1,kC.2.2.2,aE (s2.2.2.2.2+1)))
 else
 some (.inr (s2.1,s2.2.1,s2.2.2.1,s2.2.2.2.1)))) (a0,([]:List Int),⟨#[]⟩,a2.At,0)).bind λaZ =>
 (b6 (R:=Int) (λ(tf:Int × Int) =>
 (bif decide (tf.2<(aZ.2.1.length:Int)) then
 ((idx aZ.2.1 tf.2).bind λhp =>
 ((bif decide (hp<1000) then
 (idx aZ.2.1 tf.2).bind λhM =>
 some hM
 else
 some tf.1)).bind λr4 =>
 some r4).bind λmj =>
 some (.inl (mj,aE (tf.2+1)))
 else
 some (.inr tf.1))) ((-1),0)).bind λf' =>
 ((bif !decide (a2.Prec.Name=⟨#[]⟩) then
 ((bif a2.Prec.Lit then some true else ((pL aZ.1 a2.Prec.Name).bind λir=>some (decide (ir<0))))).bind λtQ =>
 ((bif tQ then
 (pM aZ.1 a2.Prec).bind λh3 =>
 some (h3.2,h3.1)
 else
 (nD aZ.1 a2.Prec.At a2.Prec.Name).bind λfG =>
 some (fG,(-1)))).bind λpB =>
 some (pB.1,pB.2)
 else
 some (aZ.1,f'))).bind λjI =>
 (dj ([]:List Int) aZ.2.1).bind λkl =>
 (dj jI.1.aD.a1 [(⟨aE (1+bc),aZ.2.1,jI.2,aZ.2.2.1,([]:List Int)++aZ.2.1,aZ.2.2.2⟩:Prod)]).bind λiZ =>
 some (⟨(⟨jI.1.aD.aX,jI.1.aD.bO,jI.1.aD.a1++[(⟨aE (1+bc),aZ.2.1,jI.2,aZ.2.2.1,([]:List Int)++aZ.2.1,aZ.2.2.2⟩:Prod)],jI.1.aD.b9,jI.1.aD.cg⟩:bq),jI.1.b_,jI.1.cp,jI.1.bX,jI.1.cI,jI.1.c_,jI.1.c8,jI.1.b',jI.1.bQ⟩:dc)
def oc (a0:Source):Option (bq × Int × Int × ByteArray) :=
 (uM a0).bind λbc =>
 (bif !bc then
 some ((⟨([]:List Tok),([]:List e4),([]:List Prod),⟨#[]⟩,⟨#[]⟩⟩:bq),1,0,⟨#[]⟩)
 else
 (nB 3 false).bind λaZ =>
 (b6 (R:=dc × ByteArray) (λ(dk:dc × ByteArray × Int) =>
 (bif decide (dk.2.2<(a0.Decls.length:Int)) then
 (idx a0.Decls dk.2.2).bind λcm =>
 ((bif decide (2<=cm.Kind) then some (decide (cm.Kind<=4)) else some false)).bind λhW =>
 ((bif hW then
 some (aE (dk.1.b'+1))
 else
 some dk.1.b')).bind λiW =>
 (b6 (R:=dc × ByteArray) (λ(jM:dc × ByteArray × Int) =>
 (bif decide (jM.2.2<(cm.ev.length:Int)) then
 ((bif !decide (cm.Kind=6) then
 (idx cm.ev jM.2.2).bind λf' =>
 (pK jM.1 cm f').bind λfF =>
 some (fF,jM.2.1)
 else
 ((bif !decide (jM.2.1=⟨#[]⟩) then
 (idx cm.ev jM.2.2).bind λhp =>
 (idx cm.ev jM.2.2).bind λfO =>
 (nD jM.1 hp.At fO.Name).bind λjN =>
 some jN
 else
 some jM.1)).bind λk2 =>
 (idx cm.ev jM.2.2).bind λhM =>
 some (k2,hM.Name))).bind λBU =>
 some (.inl (BU.1,BU.2,aE (jM.2.2+1)))
 else
 some (.inr (jM.1,jM.2.1)))) ((⟨dk.1.aD,dk.1.b_,dk.1.cp,dk.1.bX,dk.1.cI,dk.1.c_,dk.1.c8,iW,dk.1.bQ⟩:dc),dk.2.1,0)).bind λd' =>
 some (.inl (d'.1,d'.2,aE (dk.2.2+1)))
 else
 some (.inr (dk.1,dk.2.1)))) ((⟨(⟨[(⟨⟨#[36,101,110,100]⟩,false,0,0,0,⟨#[]⟩⟩:Tok),(⟨⟨#[101,114,114,111,114]⟩,false,(-1),0,0,⟨#[]⟩⟩:Tok),(⟨⟨#[36,117,110,107]⟩,false,(-1),0,0,⟨#[]⟩⟩:Tok)],[],[],⟨#[]⟩,⟨#[]⟩⟩:bq),aZ,[],[],0,0,⟨#[]⟩,0,0⟩:dc),⟨#[]⟩,0)).bind λbM =>
 (b6 (R:=dc) (λ(qA:dc × Int) =>
 (bif decide (qA.2<(a0.fu.length:Int)) then
 ((idx a0.fu qA.2).bind λhz =>
 (qv qA.1 (⟨hz.Left,false,0,0⟩:Sym)).bind λkJ =>
 ((bif decide (0<=kJ) then
 (nD qA.1 hz.At hz.Left).bind λkl =>
 some kl
 else
 some qA.1)).bind λil =>
 (pL il hz.Left).bind λiZ =>
 ((bif decide (iZ<0) then
 (dj il.bX [hz.Left]).bind λrm =>
 some (il.bX++[hz.Left])
 else
 some il.bX)).bind λlB =>
 some (⟨il.aD,il.b_,il.cp,lB,il.cI,il.c_,il.c8,il.b',il.bQ⟩:dc)).bind λxc =>
 some (.inl (xc,aE (qA.2+1)))
 else
 some (.inr qA.1))) (bM.1,0)).bind λcD =>
 (b6 (R:=dc) (λ(qB:dc × Int) =>
 (bif decide (qB.2<(a0.Decls.length:Int)) then
 (b6 (R:=dc) (λ(pR:dc × Int) =>
 (idx a0.Decls qB.2).bind λtp =>
 (bif decide (pR.2<(tp.ev.length:Int)) then
 ((idx a0.Decls qB.2).bind λx0 =>
 (idx x0.ev pR.2).bind λqE =>
 (((idx a0.Decls qB.2).bind λKv=>(bif decide (5<=Kv.Kind) then ((pL pR.1 qE.Name).bind λQk=>some (decide (Qk<0))) else some false))).bind λAI =>
 ((bif AI then
 (nD pR.1 qE.At qE.Name).bind λKw =>
 some Kw
 else
 some pR.1)).bind λJe =>
 some Je).bind λJd =>
 some (.inl (Jd,aE (pR.2+1)))
 else
 some (.inr pR.1))) (qB.1,0)).bind λnI =>
 some (.inl (nI,aE (qB.2+1)))
 else
 some (.inr qB.1))) (cD,0)).bind λfq =>
 ((bif decide (bM.2=⟨#[]⟩) then
 (idx a0.fu 0).bind λKx =>
 some Kx.Left
 else
 some bM.2)).bind λvL =>
 (pL fq vL).bind λl2 =>
 (b6 (R:=dc) (λ(pS:dc × Int) =>
 (bif decide (pS.2<(a0.fu.length:Int)) then
 (b6 (R:=dc) (λ(rh:dc × Int) =>
 (idx a0.fu pS.2).bind λQl =>
 (bif decide (rh.2<(Ql.hg.length:Int)) then
 (idx a0.fu pS.2).bind λC9 =>
 (idx a0.fu pS.2).bind λKy =>
 (idx Ky.hg rh.2).bind λC_ =>
 (ob rh.1 C9.Left C_).bind λF1 =>
 some (.inl (F1,aE (rh.2+1)))
 else
 some (.inr rh.1))) (pS.1,0)).bind λz6 =>
 some (.inl (z6,aE (pS.2+1)))
 else
 some (.inr pS.1))) ((⟨(⟨fq.aD.aX,fq.aD.bO,[(⟨0,[aE (1001+l2)],(-1),⟨#[]⟩,([]:List Int),0⟩:Prod)],fq.aD.b9,fq.aD.cg⟩:bq),fq.b_,fq.cp,fq.bX,fq.cI,fq.c_,fq.c8,fq.b',fq.bQ⟩:dc),0)).bind λbo =>
 (bif !decide (bo.cI=0) then
 some ((⟨([]:List Tok),([]:List e4),([]:List Prod),⟨#[]⟩,⟨#[]⟩⟩:bq),bo.cI,bo.c_,bo.c8)
 else
 (b6 (R:=List e4) (λ(ri:List e4 × Int) =>
 (bif decide (ri.2<(bo.bX.length:Int)) then
 (idx bo.bX ri.2).bind λqF =>
 (vR (⟨(⟨bo.aD.aX,ri.1,bo.aD.a1,bo.aD.b9,bo.aD.cg⟩:bq),bo.b_,bo.cp,bo.bX,bo.cI,bo.c_,bo.c8,bo.b',bo.bQ⟩:dc) qF).bind λx1 =>
 ((bif decide (0<=x1) then
 (idx bo.cp x1).bind λKz =>
 some Kz.Tag
 else
 some (⟨#[]⟩))).bind λuD =>
 (dj ri.1 [(⟨qF,uD⟩:e4)]).bind λQm =>
 some (.inl (ri.1++[(⟨qF,uD⟩:e4)],aE (ri.2+1)))
 else
 some (.inr ri.1))) ([(⟨⟨#[36,97,99,99,101,112,116]⟩,⟨#[]⟩⟩:e4)],0)).bind λsr =>
 (b6 (R:=List e4) (λ(sg:List e4 × Int) =>
 (bif decide (sg.2<=bo.bQ) then
 (k9 sg.2).bind λF2 =>
 (eS (⟨#[64]⟩) F2).bind λwc =>
 (dj sg.1 [(⟨wc,⟨#[]⟩⟩:e4)]).bind λQn =>
 some (.inl (sg.1++[(⟨wc,⟨#[]⟩⟩:e4)],aE (sg.2+1)))
 else
 some (.inr sg.1))) (sr,1)).bind λj7 =>
 (b6 (R:=List Tok) (λ(lZ:List Tok × Int × Int) =>
 (bif decide (lZ.2.2<(lZ.1.length:Int)) then
 ((idx bo.b_ lZ.2.2).bind λKt =>
 ((bif !Kt then
 (idx lZ.1 lZ.2.2).bind λsq =>
 some (lZ.1.set lZ.2.2.toNat (⟨sq.Name,sq.Lit,lZ.2.1,sq.Level,sq.e9,sq.Tag⟩:Tok),aE (lZ.2.1+1))
 else
 some (lZ.1,lZ.2.1))).bind λBT =>
 some (BT.1,BT.2)).bind λBW =>
 some (.inl (BW.1,BW.2,aE (lZ.2.2+1)))
 else
 some (.inr lZ.1))) (bo.aD.aX,57346,3)).bind λk' =>
 ((bif decide (40<(k'.length:Int)) then some true else (bif decide (24<(j7.length:Int)) then some true else some (decide (60<(bo.aD.a1.length:Int)))))).bind λsC =>
 (b6 (R:=Bool) (λ(te:Bool × Int) =>
 (bif decide (te.2<(bo.aD.a1.length:Int)) then
 ((bif te.1 then some true else ((idx bo.aD.a1 te.2).bind λKu=>some (decide (8<(Ku.e1.length:Int)))))).bind λyH =>
 some (.inl (yH,aE (te.2+1)))
 else
 some (.inr te.1))) (sC,0)).bind λzZ =>
 (bif zZ then
 some ((⟨([]:List Tok),([]:List e4),([]:List Prod),⟨#[]⟩,⟨#[]⟩⟩:bq),4,0,⟨#[]⟩)
 else
 some ((⟨k',j7,bo.aD.a1,a0.b9,a0.cg⟩:bq),0,0,⟨#[]⟩))))
def sc (a0:Source):Option (bq × Bool) :=
 (oc a0).bind λbc =>
 some (bc.1,decide (bc.2.1=0))
def pN (a0:(List Int)) (aB:Int):Option ((List Int)) :=
 (b6 (R:=Int) (λ(s1:Int) =>
 ((bif decide (0<s1) then ((idx a0 (aE (s1 - 1))).bind λbM=>some (decide (aB<bM))) else some false)).bind λm_ =>
 (bif m_ then
 some (.inl (aE (s1 - 1)))
 else
 some (.inr s1))) (a0.length:Int)).bind λx2 =>
 ((bif decide (0<x2) then ((idx a0 (aE (x2 - 1))).bind λed=>some (decide (ed=aB))) else some false)).bind λhW =>
 (bif hW then
 some a0
 else
 (nE a0 0 x2).bind λdU =>
 (dj ([]:List Int) dU).bind λeQ =>
 (dj (([]:List Int)++dU) [aB]).bind λd' =>
 (nE a0 x2 a0.length).bind λdC =>
 (dj ((([]:List Int)++dU)++[aB]) dC).bind λcc =>
 some ((([]:List Int)++dU)++[aB]++dC))
def uJ (a0:(List Int)) (aB:Int):Option (Bool) :=
 (b6 (R:=(Unit) ⊕ (Bool)) (λ(s1:Int) =>
 (bif decide (s1<(a0.length:Int)) then
 (idx a0 s1).bind λbN =>
 (bif decide (bN=aB) then
 some (.inr (.inr true))
 else
 some (.inl (aE (s1+1))))
 else
 some (.inr (.inl ())))) 0).bind λx2 =>
 (match x2 with
 | .inl aZ =>
 some false
 | .inr bR =>
 some bR)
def vT (a0:bq):Option ((List Int)) :=
 (b6 (R:=List Int) (λ(s1:List Int × Int) =>
 (bif decide (s1.2<(a0.aX.length:Int)) then
 (dj s1.1 [s1.2]).bind λbM =>
 some (.inl (s1.1++[s1.2],aE (s1.2+1)))
 else
 some (.inr s1.1))) (([]:List Int),0)).bind λx2 =>
 (b6 (R:=List Int) (λ(da:List Int × Int) =>
 (bif decide (da.2<(a0.bO.length:Int)) then
 (dj da.1 [aE (1000+da.2)]).bind λbG =>
 some (.inl (da.1++[aE (1000+da.2)],aE (da.2+1)))
 else
 some (.inr da.1))) (x2,0)).bind λbW =>
 some bW
structure Item where
 Prod:Int
 e3:Int
 deriving DecidableEq,Inhabited
def zs (a0:bq) (aB:Item):Option (Bool) :=
 ((bif decide (0<=aB.Prod) then (bif decide (aB.Prod<(a0.a1.length:Int)) then (bif decide (0<=aB.e3) then ((idx a0.a1 aB.Prod).bind λbR=>some (decide (aB.e3<=(bR.e1.length:Int)))) else some false) else some false) else some false)).bind λoC =>
 some oC
def uL (a0:bq) (aB:Item):Option (Int) :=
 (((zs a0 aB).bind λbc=>(bif !bc then some true else ((idx a0.a1 aB.Prod).bind λaZ=>some (decide (aB.e3=(aZ.e1.length:Int))))))).bind λc4 =>
 (bif c4 then
 some (-1)
 else
 (idx a0.a1 aB.Prod).bind λbN =>
 (idx bN.e1 aB.e3).bind λbW =>
 some bW)
def fv:bA Item:=⟨2,λx=>[ae x.Prod,ae x.e3],λ_=>rfl,λ_=>dh.bg⟩
instance:Flat fv:=⟨λ_=>rfl⟩
instance:lf fv:=⟨λx=>(inferInstance:i' [ae x.Prod,ae x.e3])⟩
instance:gn fv fv:=⟨rfl,λx=>(inferInstance:c6 [ae x.Prod,ae x.e3] [ae x.Prod,ae x.e3])⟩
def xw (a0:(List Item)) (aB:Item):Option ((List Item)) :=
 (b6 (R:=Int) (λ(s1:Int) =>
 ((bif decide (0<s1) then ((idx a0 (aE (s1 - 1))).bind λbM=>(bif decide (aB.Prod<bM.Prod) then some true else ((idx a0 (aE (s1 - 1))).bind λbW=>(bif decide (bW.Prod=aB.Prod) then ((idx a0 (aE (s1 - 1))).bind λed=>some (decide (aB.e3<ed.e3))) else some false)))) else some false)).bind λhW =>
 (bif hW then
 some (.inl (aE (s1 - 1)))
 else
 some (.inr s1))) (a0.length:Int)).bind λx2 =>
 ((bif decide (0<x2) then ((idx a0 (aE (x2 - 1))).bind λeQ=>some (decide (eQ.Prod=aB.Prod)&&(decide (eQ.e3=aB.e3)&&true))) else some false)).bind λwB =>
 (bif wB then
 some a0
 else
 (nE a0 0 x2).bind λcc =>
 (dj ([]:List Item) cc).bind λbK =>
 (dj (([]:List Item)++cc) [aB]).bind λfY =>
 (nE a0 x2 a0.length).bind λf' =>
 (dj ((([]:List Item)++cc)++[aB]) f').bind λfF =>
 some ((([]:List Item)++cc)++[aB]++f'))
def Ck (a0:bq) (aB:(List Item)):Option ((List Item)) :=
 (b6 (R:=List Item) (λ(s1:List Item × Int) =>
 (bif decide (s1.2<(aB.length:Int)) then
 ((idx aB s1.2).bind λbN =>
 (zs a0 bN).bind λbW =>
 ((bif bW then
 (idx aB s1.2).bind λbG =>
 (xw s1.1 bG).bind λcU =>
 some cU
 else
 some s1.1)).bind λfg =>
 some fg).bind λqo =>
 some (.inl (qo,aE (s1.2+1)))
 else
 some (.inr s1.1))) (([]:List Item),0)).bind λx2 =>
 some x2
def uK (a0:bq) (aB:(List Item)):Option ((List Item)) :=
 (Ck a0 aB).bind λbc =>
 (b6 (R:=List Item) (λ(s2:List Item × Int) =>
 (bif !decide (s2.2=(s2.1.length:Int)) then
 (((b6 (R:=List Item) (λ(eV:List Item × Int) =>
 (bif decide (eV.2<(s2.1.length:Int)) then
 (idx eV.1 eV.2).bind λdU =>
 (uL a0 dU).bind λeQ =>
 (b6 (R:=List Item) (λ(lE:List Item × Int) =>
 ((bif decide (lE.2<(a0.a1.length:Int)) then some (decide (1000<=eQ)) else some false)).bind λmZ =>
 (bif mZ then
 ((idx a0.a1 lE.2).bind λfZ =>
 ((bif decide (fZ.Left=aE (eQ - 1000)) then
 (xw lE.1 (⟨lE.2,0⟩:Item)).bind λfO =>
 some fO
 else
 some lE.1)).bind λmj =>
 some mj).bind λxb =>
 some (.inl (xb,aE (lE.2+1)))
 else
 some (.inr lE.1))) (eV.1,0)).bind λdC =>
 (bif !decide ((dC.length:Int)=(s2.1.length:Int)) then
 some (.inr dC)
 else
 some (.inl (dC,aE (eV.2+1))))
 else
 some (.inr eV.1))) (s2.1,0)).bind λed =>
 some ed).bind λoT =>
 some (oT,(s2.1.length:Int))).bind λkC =>
 some (.inl (kC.1,kC.2))
 else
 some (.inr s2.1))) (bc,(-1))).bind λaZ =>
 some aZ
def xE (a0:bq) (aB:(List Item)) (a2:Int):Option ((List Item)) :=
 (uK a0 aB).bind λbc =>
 (b6 (R:=List Item) (λ(s2:List Item × Int) =>
 (bif decide (s2.2<(bc.length:Int)) then
 ((idx bc s2.2).bind λbW =>
 (uL a0 bW).bind λcm =>
 ((bif decide (0<=cm) then some (decide (cm=a2)) else some false)).bind λhW =>
 ((bif hW then
 (idx bc s2.2).bind λeQ =>
 (idx bc s2.2).bind λd' =>
 (xw s2.1 (⟨eQ.Prod,aE (d'.e3+1)⟩:Item)).bind λdC =>
 some dC
 else
 some s2.1)).bind λiW =>
 some iW).bind λkC =>
 some (.inl (kC,aE (s2.2+1)))
 else
 some (.inr s2.1))) (([]:List Item),0)).bind λaZ =>
 some aZ
def Cl (a0:(List Item)) (aB:(List Item)):Option (Bool) :=
 (bif !decide ((a0.length:Int)=(aB.length:Int)) then
 some false
 else
 (b6 (R:=(Unit) ⊕ (Bool)) (λ(s2:Int) =>
 (bif decide (s2<(a0.length:Int)) then
 (idx a0 s2).bind λbW =>
 (idx aB s2).bind λcm =>
 (bif !(decide (bW.Prod=cm.Prod)&&(decide (bW.e3=cm.e3)&&true)) then
 some (.inr (.inr false))
 else
 some (.inl (aE (s2+1))))
 else
 some (.inr (.inl ())))) 0).bind λaZ =>
 (match aZ with
 | .inl bR =>
 some true
 | .inr bM =>
 some bM))
structure Move where
 Sym:Int
 js:Int
 deriving DecidableEq,Inhabited
structure State where
 Kernel:(List Item)
 eD:(List Move)
 deriving DecidableEq,Inhabited
def ln:bA Move:=⟨2,λx=>[ae x.Sym,ae x.js],λ_=>rfl,λ_=>dh.bg⟩
instance:Flat ln:=⟨λ_=>rfl⟩
instance:lf ln:=⟨λx=>(inferInstance:i' [ae x.Sym,ae x.js])⟩
instance:gn ln ln:=⟨rfl,λx=>(inferInstance:c6 [ae x.Sym,ae x.js] [ae x.Sym,ae x.js])⟩
def gq:bA State:=⟨2,λx=>[ao fv x.Kernel,ao ln x.eD],λ_=>rfl,λ_=>dh.bg⟩
instance:Flat gq:=⟨λ_=>rfl⟩
instance:gn gq gq:=⟨rfl,λx=>(inferInstance:c6 [ao fv x.Kernel,ao ln x.eD] [ao fv x.Kernel,ao ln x.eD])⟩
def CD (a0:(List State)) (aB:(List Item)):Option (Int) :=
 (b6 (R:=(Unit) ⊕ (Int)) (λ(s1:Int) =>
 (bif decide (s1<(a0.length:Int)) then
 (idx a0 s1).bind λbN =>
 (Cl bN.Kernel aB).bind λbW =>
 (bif bW then
 some (.inr (.inr s1))
 else
 some (.inl (aE (s1+1))))
 else
 some (.inr (.inl ())))) 0).bind λx2 =>
 (match x2 with
 | .inl aZ =>
 some (-1)
 | .inr bR =>
 some bR)
def gI:bA State:=⟨2,λx=>[ao fv x.Kernel,aq ln x.eD],λ_=>rfl,λ_=>dh.bg⟩
instance:gn gI gq:=⟨rfl,λx=>(inferInstance:c6 [ao fv x.Kernel,aq ln x.eD] [ao fv x.Kernel,ao ln x.eD])⟩
def sd (a0:bq):Option ((List State) × Int) :=
 (vT a0).bind λbc =>
 (b6 (R:=(List State) ⊕ (List State × Int)) (λ(s2:List State × Int) =>
 (bif decide (s2.2<(s2.1.length:Int)) then
 (idx s2.1 s2.2).bind λbW =>
 (uK a0 bW.Kernel).bind λcm =>
 (b6 (R:=List Int) (λ(fE:List Int × Int) =>
 (bif decide (fE.2<(cm.length:Int)) then
 ((idx cm fE.2).bind λd' =>
 (uL a0 d').bind λdC =>
 ((bif decide (0<=dC) then
 (pN fE.1 dC).bind λfY =>
 some fY
 else
 some fE.1)).bind λqn =>
 some qn).bind λik =>
 some (.inl (ik,aE (fE.2+1)))
 else
 some (.inr fE.1))) (([]:List Int),0)).bind λbG =>
 (b6 (R:=(List State) ⊕ (List State × Int)) (λ(dM:List State × Int) =>
 (bif decide (dM.2<(bc.length:Int)) then
 (idx bc dM.2).bind λfO =>
 (uJ bG fO).bind λjN =>
 (bif !jN then
 some (.inl (dM.1,aE (dM.2+1)))
 else
 (idx dM.1 s2.2).bind λfT =>
 (idx bc dM.2).bind λcD =>
 (xE a0 fT.Kernel cD).bind λer =>
 (CD dM.1 er).bind λir =>
 (bif decide (ir<0) then
 (bif decide ((dM.1.length:Int)=150) then
 some (.inr (.inr (([]:List State),4)))
 else
 (dj dM.1 [(⟨er,([]:List Move)⟩:State)]).bind λkJ =>
 (idx (dM.1++[(⟨er,([]:List Move)⟩:State)]) s2.2).bind λh3 =>
 (idx bc dM.2).bind λfG =>
 (dj h3.eD [(⟨fG,(dM.1.length:Int)⟩:Move)]).bind λkl =>
 some (.inl ((dM.1++[(⟨er,([]:List Move)⟩:State)]).set s2.2.toNat (⟨h3.Kernel,h3.eD++[(⟨fG,(dM.1.length:Int)⟩:Move)]⟩:State),aE (dM.2+1))))
 else
 (idx dM.1 s2.2).bind λiZ =>
 (idx bc dM.2).bind λcQ =>
 (dj iZ.eD [(⟨cQ,ir⟩:Move)]).bind λgW =>
 some (.inl (dM.1.set s2.2.toNat (⟨iZ.Kernel,iZ.eD++[(⟨cQ,ir⟩:Move)]⟩:State),aE (dM.2+1)))))
 else
 some (.inr (.inl dM.1)))) (s2.1,0)).bind λfF =>
 (match fF with
 | .inl fZ =>
 some (.inl (fZ,aE (s2.2+1)))
 | .inr fS =>
 some (.inr (.inr (fS.1,fS.2))))
 else
 some (.inr (.inl s2.1)))) ([(⟨[(⟨0,0⟩:Item)],([]:List Move)⟩:State)],0)).bind λaZ =>
 (match aZ with
 | .inl bR =>
 some (bR,0)
 | .inr bM =>
 some (bM.1,bM.2))
def sb (a0:Source):Option (bq × (List State) × Bool) :=
 (sc a0).bind λbc =>
 (bif !bc.2 then
 some (bc.1,([]:List State),false)
 else
 (sd bc.1).bind λaZ =>
 some (bc.1,aZ.1,decide (aZ.2=0)))
def q' (a0:(List State)) (aB:Int) (a2:Int):Option (Int) :=
 (b6 (R:=(Unit) ⊕ (Int)) (λ(s1:Int) =>
 ((bif decide (0<=aB) then (bif decide (aB<(a0.length:Int)) then ((idx a0 aB).bind λbW=>some (decide (s1<(bW.eD.length:Int)))) else some false) else some false)).bind λtR =>
 (bif tR then
 (idx a0 aB).bind λbG =>
 (idx bG.eD s1).bind λcU =>
 (bif decide (cU.Sym=a2) then
 (idx a0 aB).bind λeQ =>
 (idx eQ.eD s1).bind λd' =>
 some (.inr (.inr d'.js))
 else
 some (.inl (aE (s1+1))))
 else
 some (.inr (.inl ())))) 0).bind λx2 =>
 (match x2 with
 | .inl aZ =>
 some (-1)
 | .inr bR =>
 some bR)
structure Cell where
 State:Int
 Tok:Int
 jS:Int
 lG:Bool
 a1:(List Int)
 deriving DecidableEq,Inhabited
def ig:bA Cell:=⟨5,λx=>[ae x.State,ae x.Tok,ae x.jS,bf x.lG,ao az x.a1],λ_=>rfl,λ_=>dh.bg⟩
instance:Flat ig:=⟨λ_=>rfl⟩
instance:gn ig ig:=⟨rfl,λx=>(inferInstance:c6 [ae x.State,ae x.Tok,ae x.jS,bf x.lG,ao az x.a1] [ae x.State,ae x.Tok,ae x.jS,bf x.lG,ao az x.a1])⟩
instance {x:Cell}:c6 (ig.cells x) [ae x.State,ae x.Tok,ae x.jS,bf x.lG,ao az x.a1]:=(inferInstance:c6 [ae x.State,ae x.Tok,ae x.jS,bf x.lG,ao az x.a1] [ae x.State,ae x.Tok,ae x.jS,bf x.lG,ao az x.a1])
def zA (a0:Cell):Option (Int) :=
 ((bif decide (0<=a0.jS) then
 some (aE ((a0.a1.length:Int)+1))
 else
 some (a0.a1.length:Int))).bind λiV =>
 ((bif a0.lG then
 some (aE (iV+1))
 else
 some iV)).bind λh' =>
 some h'
structure kN where
 State:Int
 Prod:Int
 aX:(List Int)
 deriving DecidableEq,Inhabited
def rJ:bA kN:=⟨3,λx=>[ae x.State,ae x.Prod,ao az x.aX],λ_=>rfl,λ_=>dh.bg⟩
instance:Flat rJ:=⟨λ_=>rfl⟩
instance:gn rJ rJ:=⟨rfl,λx=>(inferInstance:c6 [ae x.State,ae x.Prod,ao az x.aX] [ae x.State,ae x.Prod,ao az x.aX])⟩
instance {x:kN}:c6 (rJ.cells x) [ae x.State,ae x.Prod,ao az x.aX]:=(inferInstance:c6 [ae x.State,ae x.Prod,ao az x.aX] [ae x.State,ae x.Prod,ao az x.aX])
def Ct (a0:bq) (aB:(List State)) (a2:(List kN)):Option ((List Cell)) :=
 (b6 (R:=List Cell) (λ(s1:List Cell × Int) =>
 (bif decide (s1.2<(aB.length:Int)) then
 (b6 (R:=List Cell) (λ(cG:List Cell × Int) =>
 (bif decide (cG.2<(a0.aX.length:Int)) then
 ((q' aB s1.2 cG.2).bind λbG =>
 (b6 (R:=Bool) (λ(jm:Bool × Int) =>
 (idx aB s1.2).bind λd' =>
 (bif decide (jm.2<(d'.Kernel.length:Int)) then
 (idx aB s1.2).bind λcc =>
 (idx cc.Kernel jm.2).bind λbK =>
 ((bif jm.1 then some true else (bif decide (cG.2=0) then (bif decide (bK.Prod=0) then some (decide (bK.e3=1)) else some false) else some false))).bind λrE =>
 some (.inl (rE,aE (jm.2+1)))
 else
 some (.inr jm.1))) (false,0)).bind λdU =>
 (b6 (R:=List Int) (λ(sf:List Int × Int) =>
 (bif decide (sf.2<(a2.length:Int)) then
 ((((idx a2 sf.2).bind λfT=>(bif decide (fT.State=s1.2) then ((idx a2 sf.2).bind λer=>((uJ er.aX cG.2).bind λir=>some ir)) else some false))).bind λtQ =>
 ((bif tQ then
 (idx a2 sf.2).bind λh3 =>
 (pN sf.1 h3.Prod).bind λfG =>
 some fG
 else
 some sf.1)).bind λpB =>
 some pB).bind λdL =>
 some (.inl (dL,aE (sf.2+1)))
 else
 some (.inr sf.1))) (([]:List Int),0)).bind λhp =>
 (zA (⟨s1.2,cG.2,bG,dU,hp⟩:Cell)).bind λkl =>
 ((bif decide (0<kl) then
 (dj cG.1 [(⟨s1.2,cG.2,bG,dU,hp⟩:Cell)]).bind λgW =>
 some (cG.1++[(⟨s1.2,cG.2,bG,dU,hp⟩:Cell)])
 else
 some cG.1)).bind λI_ =>
 some I_).bind λiX =>
 some (.inl (iX,aE (cG.2+1)))
 else
 some (.inr cG.1))) (s1.1,0)).bind λbN =>
 some (.inl (bN,aE (s1.2+1)))
 else
 some (.inr s1.1))) (([]:List Cell),0)).bind λx2 =>
 some x2
def zF (a0:(List (List Int))) (aB:(List (List Int))):Option ((List (List Int))) :=
 (b6 (R:=List (List Int)) (λ(s1:List (List Int) × Bool) =>
 (bif s1.2 then
 (b6 (R:=List (List Int) × Bool) (λ(cG:List (List Int) × Bool × Int) =>
 (bif decide (cG.2.2<(cG.1.length:Int)) then
 (idx aB cG.2.2).bind λed =>
 (idx cG.1 cG.2.2).bind λbG =>
 (b6 (R:=List (List Int)) (λ(jm:List (List Int) × Int) =>
 (bif decide (jm.2<(ed.length:Int)) then
 (b6 (R:=List (List Int)) (λ(hK:List (List Int) × Int) =>
 (idx ed jm.2).bind λfY =>
 (idx hK.1 fY).bind λf' =>
 (bif decide (hK.2<(f'.length:Int)) then
 (idx hK.1 cG.2.2).bind λfZ =>
 (idx ed jm.2).bind λfS =>
 (idx hK.1 fS).bind λhp =>
 (idx hp hK.2).bind λfO =>
 (pN fZ fO).bind λjN =>
 some (.inl (hK.1.set cG.2.2.toNat jN,aE (hK.2+1)))
 else
 some (.inr hK.1))) (jm.1,0)).bind λcc =>
 some (.inl (cc,aE (jm.2+1)))
 else
 some (.inr jm.1))) (cG.1,0)).bind λdU =>
 ((bif cG.2.1 then some true else ((idx dU cG.2.2).bind λfT=>some (!decide ((fT.length:Int)=(bG.length:Int)))))).bind λAE =>
 some (.inl (dU,AE,aE (cG.2.2+1)))
 else
 some (.inr (cG.1,cG.2.1)))) (s1.1,false,0)).bind λbN =>
 some (.inl (bN.1,bN.2))
 else
 some (.inr s1.1))) (a0,true)).bind λx2 =>
 some x2
structure Trans where
 State:Int
 e4:Int
 deriving DecidableEq,Inhabited
def p8:bA Trans:=⟨2,λx=>[ae x.State,ae x.e4],λ_=>rfl,λ_=>dh.bg⟩
instance:Flat p8:=⟨λ_=>rfl⟩
instance:lf p8:=⟨λx=>(inferInstance:i' [ae x.State,ae x.e4])⟩
instance:gn p8 p8:=⟨rfl,λx=>(inferInstance:c6 [ae x.State,ae x.e4] [ae x.State,ae x.e4])⟩
def qx (a0:(List State)):Option ((List Trans)) :=
 (b6 (R:=List Trans) (λ(s1:List Trans × Int) =>
 (bif decide (s1.2<(a0.length:Int)) then
 (b6 (R:=List Trans) (λ(cG:List Trans × Int) =>
 (idx a0 s1.2).bind λcm =>
 (bif decide (cG.2<(cm.eD.length:Int)) then
 ((idx a0 s1.2).bind λcU =>
 (idx cU.eD cG.2).bind λdU =>
 ((bif decide (1000<=dU.Sym) then
 (idx a0 s1.2).bind λdC =>
 (idx dC.eD cG.2).bind λcc =>
 (dj cG.1 [(⟨s1.2,cc.Sym⟩:Trans)]).bind λbK =>
 some (cG.1++[(⟨s1.2,cc.Sym⟩:Trans)])
 else
 some cG.1)).bind λik =>
 some ik).bind λmi =>
 some (.inl (mi,aE (cG.2+1)))
 else
 some (.inr cG.1))) (s1.1,0)).bind λbN =>
 some (.inl (bN,aE (s1.2+1)))
 else
 some (.inr s1.1))) (([]:List Trans),0)).bind λx2 =>
 some x2
def Cm (a0:(List Item)):Option (Bool) :=
 (b6 (R:=(Unit) ⊕ (Bool)) (λ(s1:Int) =>
 (bif decide (s1<(a0.length:Int)) then
 (((idx a0 s1).bind λbN=>(bif decide (bN.Prod=0) then ((idx a0 s1).bind λcm=>some (decide (cm.e3=1))) else some false))).bind λrF =>
 (bif rF then
 some (.inr (.inr true))
 else
 some (.inl (aE (s1+1))))
 else
 some (.inr (.inl ())))) 0).bind λx2 =>
 (match x2 with
 | .inl aZ =>
 some false
 | .inr bR =>
 some bR)
def CE (a0:(List State)):Option ((List (List Int))) :=
 (qx a0).bind λbc =>
 (b6 (R:=List (List Int)) (λ(s2:List (List Int) × Int) =>
 (bif decide (s2.2<(bc.length:Int)) then
 (idx bc s2.2).bind λbN =>
 (idx bc s2.2).bind λbW =>
 (q' a0 bN.State bW.e4).bind λcm =>
 (idx a0 cm).bind λed =>
 (Cm ed.Kernel).bind λbG =>
 ((bif bG then
 (dj ([]:List Int) [0]).bind λeQ =>
 some [0]
 else
 some ([]:List Int))).bind λiW =>
 (b6 (R:=List Int) (λ(lE:List Int × Int) =>
 (idx a0 cm).bind λbK =>
 (bif decide (lE.2<(bK.eD.length:Int)) then
 ((idx a0 cm).bind λfF =>
 (idx fF.eD lE.2).bind λfZ =>
 ((bif decide (fZ.Sym<1000) then
 (idx a0 cm).bind λfO =>
 (idx fO.eD lE.2).bind λjN =>
 (pN lE.1 jN.Sym).bind λhM =>
 some hM
 else
 some lE.1)).bind λmj =>
 some mj).bind λeT =>
 some (.inl (eT,aE (lE.2+1)))
 else
 some (.inr lE.1))) (iW,0)).bind λdC =>
 (dj s2.1 [dC]).bind λfT =>
 some (.inl (s2.1++[dC],aE (s2.2+1)))
 else
 some (.inr s2.1))) (([]:List (List Int)),0)).bind λaZ =>
 some aZ
def zv (a0:(List Bool)) (aB:(List Int)):Option (Bool) :=
 (b6 (R:=(Unit) ⊕ (Bool)) (λ(s1:Int) =>
 (bif decide (s1<(aB.length:Int)) then
 (((idx aB s1).bind λbN=>(bif decide (bN<1000) then some true else ((idx aB s1).bind λcm=>((idx a0 (aE (cm - 1000))).bind λed=>some (!ed)))))).bind λhW =>
 (bif hW then
 some (.inr (.inr false))
 else
 some (.inl (aE (s1+1))))
 else
 some (.inr (.inl ())))) 0).bind λx2 =>
 (match x2 with
 | .inl aZ =>
 some true
 | .inr bR =>
 some bR)
def zt (a0:bq):Option ((List Bool)) :=
 (nB (a0.bO.length:Int) false).bind λbc =>
 (b6 (R:=List Bool) (λ(s2:List Bool × Bool) =>
 (bif s2.2 then
 (b6 (R:=List Bool × Bool) (λ(da:List Bool × Bool × Int) =>
 (bif decide (da.2.2<(a0.a1.length:Int)) then
 ((idx a0.a1 da.2.2).bind λcU =>
 (((idx da.1 cU.Left).bind λdU=>(bif !dU then ((zv da.1 cU.e1).bind λd'=>some d') else some false))).bind λph =>
 ((bif ph then
 (idx da.1 cU.Left).bind λfY =>
 some (da.1.set cU.Left.toNat true,true)
 else
 some (da.1,da.2.1))).bind λqn =>
 some (qn.1,qn.2)).bind λmi =>
 some (.inl (mi.1,mi.2,aE (da.2.2+1)))
 else
 some (.inr (da.1,da.2.1)))) (s2.1,false,0)).bind λbW =>
 some (.inl (bW.1,bW.2))
 else
 some (.inr s2.1))) (bc,true)).bind λaZ =>
 some aZ
def zu (a0:(List Trans)) (aB:Int) (a2:Int):Option (Int) :=
 (b6 (R:=(Unit) ⊕ (Int)) (λ(s1:Int) =>
 (bif decide (s1<(a0.length:Int)) then
 (((idx a0 s1).bind λbN=>(bif decide (bN.State=aB) then ((idx a0 s1).bind λcm=>some (decide (cm.e4=a2))) else some false))).bind λrF =>
 (bif rF then
 some (.inr (.inr s1))
 else
 some (.inl (aE (s1+1))))
 else
 some (.inr (.inl ())))) 0).bind λx2 =>
 (match x2 with
 | .inl aZ =>
 some (-1)
 | .inr bR =>
 some bR)
def CF (a0:bq) (aB:(List State)):Option ((List (List Int))) :=
 (qx aB).bind λbc =>
 (zt a0).bind λx2 =>
 (b6 (R:=List (List Int)) (λ(cb:List (List Int) × Int) =>
 (bif decide (cb.2<(bc.length:Int)) then
 (idx bc cb.2).bind λbW =>
 (idx bc cb.2).bind λcm =>
 (q' aB bW.State cm.e4).bind λed =>
 (b6 (R:=List Int) (λ(re:List Int × Int) =>
 (idx aB ed).bind λeQ =>
 (bif decide (re.2<(eQ.eD.length:Int)) then
 ((idx aB ed).bind λcc =>
 (idx cc.eD re.2).bind λbK =>
 ((bif decide (1000<=bK.Sym) then ((idx x2 (aE (bK.Sym - 1000))).bind λf'=>some f') else some false)).bind λGC =>
 ((bif GC then
 (zu bc ed bK.Sym).bind λhp =>
 (pN re.1 hp).bind λfO =>
 some fO
 else
 some re.1)).bind λk2 =>
 some k2).bind λlA =>
 some (.inl (lA,aE (re.2+1)))
 else
 some (.inr re.1))) (([]:List Int),0)).bind λcU =>
 (dj cb.1 [cU]).bind λjN =>
 some (.inl (cb.1++[cU],aE (cb.2+1)))
 else
 some (.inr cb.1))) (([]:List (List Int)),0)).bind λbR =>
 some bR
def zG (a0:(List State)) (aB:Int) (a2:(List Int)):Option (Int) :=
 (b6 (R:=Int) (λ(s1:Int × Int) =>
 ((bif decide (s1.2<(a2.length:Int)) then some (decide (0<=s1.1)) else some false)).bind λoC =>
 (bif oC then
 (idx a2 s1.2).bind λbW =>
 (q' a0 s1.1 bW).bind λcm =>
 some (.inl (cm,aE (s1.2+1)))
 else
 some (.inr s1.1))) (aB,0)).bind λx2 =>
 some x2
def CG (a0:bq) (aB:(List State)):Option ((List (List Int))) :=
 (qx aB).bind λbc =>
 (zt a0).bind λx2 =>
 (nB (bc.length:Int) ([]:List Int)).bind λaZ =>
 (b6 (R:=List (List Int)) (λ(dk:List (List Int) × Int) =>
 (bif decide (dk.2<(bc.length:Int)) then
 (b6 (R:=List (List Int)) (λ(eV:List (List Int) × Int) =>
 (bif decide (eV.2<(a0.a1.length:Int)) then
 ((idx a0.a1 eV.2).bind λeQ =>
 (idx a0.a1 eV.2).bind λd' =>
 (idx bc dk.2).bind λdC =>
 (bif !decide (aE (1000+d'.Left)=dC.e4) then
 some eV.1
 else
 (b6 (R:=List (List Int)) (λ(gg:List (List Int) × Int) =>
 (bif decide (gg.2<(eQ.e1.length:Int)) then
 ((((idx eQ.e1 gg.2).bind λfS=>(bif decide (fS<1000) then some true else ((nE eQ.e1 (aE (gg.2+1)) eQ.e1.length).bind λfO=>((zv x2 fO).bind λjN=>some (!jN)))))).bind λGH =>
 (bif GH then
 some gg.1
 else
 (idx bc dk.2).bind λcD =>
 (nE eQ.e1 0 gg.2).bind λer =>
 (zG aB cD.State er).bind λir =>
 ((bif decide (0<=ir) then
 (idx eQ.e1 gg.2).bind λkJ =>
 (zu bc ir kJ).bind λh3 =>
 ((bif decide (0<=h3) then
 (idx gg.1 h3).bind λiZ =>
 (pN iZ dk.2).bind λcQ =>
 some (gg.1.set h3.toNat cQ)
 else
 some gg.1)).bind λI9 =>
 some I9
 else
 some gg.1)).bind λxc =>
 some xc)).bind λk2 =>
 some (.inl (k2,aE (gg.2+1)))
 else
 some (.inr gg.1))) (eV.1,0)).bind λfY =>
 some fY)).bind λeG =>
 some (.inl (eG,aE (eV.2+1)))
 else
 some (.inr eV.1))) (dk.1,0)).bind λed =>
 some (.inl (ed,aE (dk.2+1)))
 else
 some (.inr dk.1))) (aZ,0)).bind λbM =>
 some bM
def zC (a0:bq) (aB:(List State)):Option ((List (List Int))) :=
 (CE aB).bind λbc =>
 (CF a0 aB).bind λx2 =>
 (zF bc x2).bind λaZ =>
 (CG a0 aB).bind λbR =>
 (zF aZ bR).bind λbM =>
 some bM
def Cy (a0:bq) (aB:(List Item)):Option ((List Int)) :=
 (uK a0 aB).bind λbc =>
 (b6 (R:=List Int) (λ(s2:List Int × Int) =>
 (bif decide (s2.2<(bc.length:Int)) then
 ((((idx bc s2.2).bind λbW=>(bif decide (0<bW.Prod) then ((idx bc s2.2).bind λed=>((idx bc s2.2).bind λbG=>((idx a0.a1 bG.Prod).bind λcU=>some (decide (ed.e3=(cU.e1.length:Int)))))) else some false))).bind λwA =>
 ((bif wA then
 (idx bc s2.2).bind λdC =>
 (dj s2.1 [dC.Prod]).bind λcc =>
 some (s2.1++[dC.Prod])
 else
 some s2.1)).bind λik =>
 some ik).bind λkC =>
 some (.inl (kC,aE (s2.2+1)))
 else
 some (.inr s2.1))) (([]:List Int),0)).bind λaZ =>
 some aZ
def Cz (a0:bq) (aB:(List State)) (a2:Int) (a3:Int):Option ((List Int)) :=
 ((bif decide (a2<0) then some true else (bif decide ((aB.length:Int)<=a2) then some true else (bif decide (a3<1) then some true else some (decide ((a0.a1.length:Int)<=a3)))))).bind λc4 =>
 (bif c4 then
 some ([]:List Int)
 else
 (qx aB).bind λbN =>
 (b6 (R:=List Int) (λ(db:List Int × Int) =>
 (bif decide (db.2<(bN.length:Int)) then
 ((((idx bN db.2).bind λdU=>((idx a0.a1 a3).bind λeQ=>(bif decide (dU.e4=aE (1000+eQ.Left)) then ((idx bN db.2).bind λdC=>((idx a0.a1 a3).bind λcc=>((zG aB dC.State cc.e1).bind λbK=>some (decide (bK=a2))))) else some false)))).bind λmZ =>
 ((bif mZ then
 (dj db.1 [db.2]).bind λfZ =>
 some (db.1++[db.2])
 else
 some db.1)).bind λeT =>
 some eT).bind λiW =>
 some (.inl (iW,aE (db.2+1)))
 else
 some (.inr db.1))) (([]:List Int),0)).bind λcm =>
 some cm)
def Cu (a0:bq) (aB:(List State)):Option ((List kN)) :=
 (zC a0 aB).bind λbc =>
 (b6 (R:=List kN) (λ(s2:List kN × Int) =>
 (bif decide (s2.2<(aB.length:Int)) then
 (idx aB s2.2).bind λbN =>
 (Cy a0 bN.Kernel).bind λbW =>
 (b6 (R:=List kN) (λ(eV:List kN × Int) =>
 (bif decide (eV.2<(bW.length:Int)) then
 (idx bW eV.2).bind λdU =>
 (idx bW eV.2).bind λeQ =>
 (Cz a0 aB s2.2 eQ).bind λd' =>
 (b6 (R:=List Int) (λ(hK:List Int × Int) =>
 (bif decide (hK.2<(d'.length:Int)) then
 (b6 (R:=List Int) (λ(dM:List Int × Int) =>
 (idx d' hK.2).bind λfS =>
 (idx bc fS).bind λhp =>
 (bif decide (dM.2<(hp.length:Int)) then
 (idx d' hK.2).bind λjN =>
 (idx bc jN).bind λhM =>
 (idx hM dM.2).bind λfT =>
 (pN dM.1 fT).bind λcD =>
 some (.inl (cD,aE (dM.2+1)))
 else
 some (.inr dM.1))) (hK.1,0)).bind λfF =>
 some (.inl (fF,aE (hK.2+1)))
 else
 some (.inr hK.1))) (([]:List Int),0)).bind λcc =>
 (dj eV.1 [(⟨s2.2,dU,cc⟩:kN)]).bind λer =>
 some (.inl (eV.1++[(⟨s2.2,dU,cc⟩:kN)],aE (eV.2+1)))
 else
 some (.inr eV.1))) (s2.1,0)).bind λed =>
 some (.inl (ed,aE (s2.2+1)))
 else
 some (.inr s2.1))) (([]:List kN),0)).bind λaZ =>
 some aZ
def q_ (a0:Source):Option (bq × (List State) × (List Cell) × Bool) :=
 (sb a0).bind λbc =>
 (bif !bc.2.2 then
 some (bc.1,([]:List State),([]:List Cell),false)
 else
 (Cu bc.1 bc.2.1).bind λaZ =>
 (Ct bc.1 bc.2.1 aZ).bind λbR =>
 some (bc.1,bc.2.1,bR,true))
def CH (a0:bq) (aB:Int):Option (Int × Int) :=
 ((bif decide (aB<0) then some true else (bif decide ((a0.a1.length:Int)<=aB) then some true else ((idx a0.a1 aB).bind λaZ=>some (decide (aZ.Prec<0)))))).bind λc4 =>
 (bif c4 then
 some (0,0)
 else
 (idx a0.a1 aB).bind λbN =>
 (idx a0.aX bN.Prec).bind λbW =>
 some (bW.Level,bW.e9))
def CA (a0:bq) (aB:Int) (a2:Int):Option (Int) :=
 (CH a0 aB).bind λbc =>
 ((bif decide (bc.1=0) then some true else (bif decide (a2<0) then some true else (bif decide ((a0.aX.length:Int)<=a2) then some true else ((idx a0.aX a2).bind λbM=>some (decide (bM.Level=0))))))).bind λm_ =>
 (bif m_ then
 some 0
 else
 (idx a0.aX a2).bind λcm =>
 (bif decide (bc.1<cm.Level) then
 some 1
 else
 (bif decide (cm.Level<bc.1) then
 some 2
 else
 (bif decide (cm.e9=1) then
 some 2
 else
 (bif decide (cm.e9=2) then
 some 1
 else
 some 3)))))
structure e5 where
 State:Int
 Tok:Int
 hh:Int
 Drop:Int
 deriving DecidableEq,Inhabited
structure Act where
 Kind:Int
 N:Int
 deriving DecidableEq,Inhabited
def eM:bA e5:=⟨4,λx=>[ae x.State,ae x.Tok,ae x.hh,ae x.Drop],λ_=>rfl,λ_=>dh.bg⟩
instance:Flat eM:=⟨λ_=>rfl⟩
instance:lf eM:=⟨λx=>(inferInstance:i' [ae x.State,ae x.Tok,ae x.hh,ae x.Drop])⟩
instance:gn eM eM:=⟨rfl,λx=>(inferInstance:c6 [ae x.State,ae x.Tok,ae x.hh,ae x.Drop] [ae x.State,ae x.Tok,ae x.hh,ae x.Drop])⟩
instance {x:e5}:c6 (eM.cells x) [ae x.State,ae x.Tok,ae x.hh,ae x.Drop]:=(inferInstance:c6 [ae x.State,ae x.Tok,ae x.hh,ae x.Drop] [ae x.State,ae x.Tok,ae x.hh,ae x.Drop])
def xC (a0:bq) (aB:Cell):Option (Act × (List e5)) :=
 (b6 (R:=List e5) (λ(s1:List e5 × Int) =>
 (bif decide (s1.2<(aB.a1.length:Int)) then
 (idx aB.a1 0).bind λbM =>
 (idx aB.a1 s1.2).bind λbN =>
 (dj s1.1 [(⟨aB.State,aB.Tok,bM,bN⟩:e5)]).bind λbW =>
 some (.inl (s1.1++[(⟨aB.State,aB.Tok,bM,bN⟩:e5)],aE (s1.2+1)))
 else
 some (.inr s1.1))) (([]:List e5),1)).bind λx2 =>
 ((bif aB.lG then
 some (3,0)
 else
 some (1,aB.jS))).bind λfg =>
 (bif decide ((aB.a1.length:Int)=0) then
 some ((⟨fg.1,fg.2⟩:Act),x2)
 else
 (idx aB.a1 0).bind λcU =>
 ((bif decide (aB.jS<0) then some (!aB.lG) else some false)).bind λoB =>
 (bif oB then
 some ((⟨2,cU⟩:Act),x2)
 else
 (CA a0 cU aB.Tok).bind λdC =>
 ((bif aB.lG then some true else some (decide (dC=0)))).bind λGB =>
 (bif GB then
 (dj x2 [(⟨aB.State,aB.Tok,(-1),cU⟩:e5)]).bind λf' =>
 some ((⟨fg.1,fg.2⟩:Act),x2++[(⟨aB.State,aB.Tok,(-1),cU⟩:e5)])
 else
 (bif decide (dC=2) then
 some ((⟨2,cU⟩:Act),x2)
 else
 (bif decide (dC=3) then
 some ((⟨4,0⟩:Act),x2)
 else
 some ((⟨fg.1,fg.2⟩:Act),x2))))))
structure iu where
 dw:(List (List Act))
 fU:(List (List Int))
 deriving DecidableEq,Inhabited
def eZ:bA Act:=⟨2,λx=>[ae x.Kind,ae x.N],λ_=>rfl,λ_=>dh.bg⟩
instance:Flat eZ:=⟨λ_=>rfl⟩
instance:lf eZ:=⟨λx=>(inferInstance:i' [ae x.Kind,ae x.N])⟩
instance:gn eZ eZ:=⟨rfl,λx=>(inferInstance:c6 [ae x.Kind,ae x.N] [ae x.Kind,ae x.N])⟩
def zz (a0:bq) (aB:(List State)) (a2:(List Cell)):Option (iu × (List e5)) :=
 (b6 (R:=List (List Act) × List (List Int) × List e5) (λ(s1:List (List Act) × List (List Int) × List e5 × Int) =>
 (bif decide (s1.2.2.2<(aB.length:Int)) then
 (nB (a0.aX.length:Int) (⟨0,0⟩:Act)).bind λbM =>
 (b6 (R:=List e5 × List Act) (λ(da:List e5 × List Act × Int) =>
 (bif decide (da.2.2<(a2.length:Int)) then
 ((idx a2 da.2.2).bind λcU =>
 ((bif decide (cU.State=s1.2.2.2) then
 (idx a2 da.2.2).bind λd' =>
 (xC a0 d').bind λdC =>
 (idx a2 da.2.2).bind λcc =>
 (idx da.2.1 cc.Tok).bind λbK =>
 (dj da.1 dC.2).bind λfY =>
 some (da.1++dC.2,da.2.1.set cc.Tok.toNat dC.1)
 else
 some (da.1,da.2.1))).bind λeG =>
 some (eG.1,eG.2)).bind λmi =>
 some (.inl (mi.1,mi.2,aE (da.2.2+1)))
 else
 some (.inr (da.1,da.2.1)))) (s1.2.2.1,bM,0)).bind λbW =>
 (nB (a0.bO.length:Int) 0).bind λf' =>
 (b6 (R:=List Int) (λ(qz:List Int × Int) =>
 (bif decide (qz.2<(qz.1.length:Int)) then
 (q' aB s1.2.2.2 (aE (1000+qz.2))).bind λfO =>
 (idx qz.1 qz.2).bind λjN =>
 some (.inl (qz.1.set qz.2.toNat fO,aE (qz.2+1)))
 else
 some (.inr qz.1))) (f',0)).bind λfZ =>
 (dj s1.1 [bW.2]).bind λhM =>
 (dj s1.2.1 [fZ]).bind λfT =>
 some (.inl (s1.1++[bW.2],s1.2.1++[fZ],bW.1,aE (s1.2.2.2+1)))
 else
 some (.inr (s1.1,s1.2.1,s1.2.2.1)))) (([]:List (List Act)),([]:List (List Int)),([]:List e5),0)).bind λx2 =>
 some ((⟨x2.1,x2.2.1⟩:iu),x2.2.2)
def Cp (a0:(List Cell)):Option (Int) :=
 (b6 (R:=Int) (λ(s1:Int × Int) =>
 (bif decide (s1.2<(a0.length:Int)) then
 ((idx a0 s1.2).bind λbN =>
 (zA bN).bind λbW =>
 ((bif decide (1<bW) then
 some (aE (s1.1+1))
 else
 some s1.1)).bind λfg =>
 some fg).bind λqo =>
 some (.inl (qo,aE (s1.2+1)))
 else
 some (.inr s1.1))) (0,0)).bind λx2 =>
 some x2
def q9 (a0:Source):Option (bq × iu × Int × Bool) :=
 (q_ a0).bind λbc =>
 (bif !bc.2.2.2 then
 some (bc.1,(⟨([]:List (List Act)),([]:List (List Int))⟩:iu),0,false)
 else
 (zz bc.1 bc.2.1 bc.2.2.1).bind λaZ =>
 (Cp bc.2.2.1).bind λbR =>
 some (bc.1,aZ.1,bR,true))
structure Piece where
 Kind:Int
 Text:ByteArray
 N:Int
 Tag:ByteArray
 deriving DecidableEq,Inhabited
def p7:bA Piece:=⟨4,λx=>[ae x.Kind,ax x.Text,ae x.N,ax x.Tag],λ_=>rfl,λ_=>dh.bg⟩
instance:Flat p7:=⟨λ_=>rfl⟩
instance:lf p7:=⟨λx=>(inferInstance:i' [ae x.Kind,ax x.Text,ae x.N,ax x.Tag])⟩
instance:gn p7 p7:=⟨rfl,λx=>(inferInstance:c6 [ae x.Kind,ax x.Text,ae x.N,ax x.Tag] [ae x.Kind,ax x.Text,ae x.N,ax x.Tag])⟩
instance {x:Piece}:c6 (p7.cells x) [ae x.Kind,ax x.Text,ae x.N,ax x.Tag]:=(inferInstance:c6 [ae x.Kind,ax x.Text,ae x.N,ax x.Tag] [ae x.Kind,ax x.Text,ae x.N,ax x.Tag])
def CB (a0:ByteArray) (aB:Int):Option (Piece × Int × Int) :=
 ((bif decide (aE (aB+1)<(a0.size:Int)) then ((gz a0 (aE (aB+1))).bind λx2=>some (decide (x2=60))) else some false)).bind λjt =>
 (bif jt then
 (vU a0 (aE ((aE (aB+1))+1))).bind λbM =>
 ((bif decide (bM<1) then some true else (bif decide (20<bM) then some true else (bif decide ((a0.size:Int)<=aE ((aE ((aE (aB+1))+1))+bM)) then some true else ((gz a0 (aE ((aE ((aE (aB+1))+1))+bM))).bind λed=>some (!decide (ed=62))))))).bind λhW =>
 (bif hW then
 some ((⟨0,⟨#[]⟩,0,⟨#[]⟩⟩:Piece),0,0)
 else
 (lK a0 (aE ((aE (aB+1))+1)) (aE ((aE ((aE (aB+1))+1))+bM))).bind λdU =>
 ((bif decide (aE ((aE ((aE (aB+1))+bM))+2)<(a0.size:Int)) then ((gz a0 (aE ((aE ((aE (aB+1))+bM))+2))).bind λd'=>some (decide (d'=36))) else some false)).bind λph =>
 (bif ph then
 some ((⟨2,⟨#[]⟩,0,dU⟩:Piece),aE ((aE ((aE ((aE ((aE (aB+1))+bM))+2))+1)) - aB),0)
 else
 (b6 (R:=Int × Int) (λ(gg:Int × Int) =>
 ((bif decide (gg.2<(a0.size:Int)) then ((gz a0 gg.2).bind λfZ=>((vV fZ).bind λfS=>some fS)) else some false)).bind λtO =>
 (bif tO then
 ((bif decide (aE (gg.2 - (aE ((aE ((aE (aB+1))+bM))+2)))<3) then
 (gz a0 gg.2).bind λfT =>
 some (aE ((aE (10 * gg.1))+(aE (gE (fT - 48)))))
 else
 some gg.1)).bind λuC =>
 some (.inl (uC,aE (gg.2+1)))
 else
 some (.inr (gg.1,gg.2)))) (0,aE ((aE ((aE (aB+1))+bM))+2))).bind λfY =>
 (bif decide (fY.2=aE ((aE ((aE (aB+1))+bM))+2)) then
 some ((⟨0,⟨#[]⟩,0,⟨#[]⟩⟩:Piece),0,0)
 else
 (bif decide (3<aE (fY.2 - (aE ((aE ((aE (aB+1))+bM))+2)))) then
 some ((⟨0,⟨#[]⟩,0,⟨#[]⟩⟩:Piece),0,6)
 else
 some ((⟨3,⟨#[]⟩,fY.1,dU⟩:Piece),aE (fY.2 - aB),0)))))
 else
 ((bif decide (aE (aB+1)<(a0.size:Int)) then ((gz a0 (aE (aB+1))).bind λpW=>some (decide (pW=36))) else some false)).bind λDE =>
 (bif DE then
 some ((⟨2,⟨#[]⟩,0,⟨#[]⟩⟩:Piece),aE ((aE ((aE (aB+1))+1)) - aB),0)
 else
 (b6 (R:=Int × Int) (λ(gk:Int × Int) =>
 ((bif decide (gk.2<(a0.size:Int)) then ((gz a0 gk.2).bind λcQ=>((vV cQ).bind λgW=>some gW)) else some false)).bind λAH =>
 (bif AH then
 ((bif decide (aE (gk.2 - (aE (aB+1)))<3) then
 (gz a0 gk.2).bind λtn =>
 some (aE ((aE (10 * gk.1))+(aE (gE (tn - 48)))))
 else
 some gk.1)).bind λxd =>
 some (.inl (xd,aE (gk.2+1)))
 else
 some (.inr (gk.1,gk.2)))) (0,aE (aB+1))).bind λfG =>
 (bif decide (fG.2=aE (aB+1)) then
 some ((⟨0,⟨#[]⟩,0,⟨#[]⟩⟩:Piece),0,0)
 else
 (bif decide (3<aE (fG.2 - (aE (aB+1)))) then
 some ((⟨0,⟨#[]⟩,0,⟨#[]⟩⟩:Piece),0,6)
 else
 some ((⟨3,⟨#[]⟩,fG.1,⟨#[]⟩⟩:Piece),aE (fG.2 - aB),0)))))
def Cv (a0:ByteArray):Option ((List Piece) × Int) :=
 (xD a0 0).bind λbc =>
 (bif !decide (bc=(a0.size:Int)) then
 some (([]:List Piece),1)
 else
 (b6 (R:=(List Piece × Int) ⊕ (List Piece × Int)) (λ(cb:List Piece × Int × Int) =>
 (bif decide (cb.2.2<(a0.size:Int)) then
 (zE a0 cb.2.2).bind λcm =>
 (bif decide (cb.2.2<cm) then
 some (.inl (cb.1,cb.2.1,cm))
 else
 (gz a0 cb.2.2).bind λbG =>
 (bif !decide (bG=36) then
 some (.inl (cb.1,cb.2.1,aE (cb.2.2+1)))
 else
 (CB a0 cb.2.2).bind λdU =>
 (bif !decide (dU.2.2=0) then
 some (.inr (.inr (([]:List Piece),dU.2.2)))
 else
 (bif decide (dU.2.1=0) then
 some (.inl (cb.1,cb.2.1,aE (cb.2.2+1)))
 else
 ((bif decide (cb.2.1<cb.2.2) then
 (lK a0 cb.2.1 cb.2.2).bind λbK =>
 (dj cb.1 [(⟨1,bK,0,⟨#[]⟩⟩:Piece)]).bind λfY =>
 some (cb.1++[(⟨1,bK,0,⟨#[]⟩⟩:Piece)])
 else
 some cb.1)).bind λlA =>
 (dj lA [dU.1]).bind λf' =>
 some (.inl (lA++[dU.1],aE (cb.2.2+dU.2.1),aE (cb.2.2+dU.2.1)))))))
 else
 some (.inr (.inl (cb.1,cb.2.1))))) (([]:List Piece),0,0)).bind λbR =>
 (match bR with
 | .inl bM =>
 ((bif decide (bM.2<(a0.size:Int)) then
 (lK a0 bM.2 a0.size).bind λfS =>
 (dj bM.1 [(⟨1,fS,0,⟨#[]⟩⟩:Piece)]).bind λhp =>
 some (bM.1++[(⟨1,fS,0,⟨#[]⟩⟩:Piece)])
 else
 some bM.1)).bind λxb =>
 some (xb,0)
 | .inr bN =>
 some (bN.1,bN.2)))
def Cw (a0:bq) (aB:Int):Option (ByteArray) :=
 (bif decide (1000<=aB) then
 (idx a0.bO (aE (aB - 1000))).bind λx2 =>
 some x2.Tag
 else
 (idx a0.aX aB).bind λaZ =>
 some aZ.Tag)
def xA (a0:bq) (aB:Int):Option (ByteArray × Int × ByteArray) :=
 ((bif decide (aB<0) then some true else (bif decide ((a0.a1.length:Int)<=aB) then some true else ((idx a0.a1 aB).bind λaZ=>some (decide (aZ.Code=⟨#[]⟩)))))).bind λc4 =>
 (bif c4 then
 some (⟨#[]⟩,0,⟨#[]⟩)
 else
 (idx a0.a1 aB).bind λbN =>
 (Cv bN.Code).bind λbW =>
 (bif !decide (bW.2=0) then
 some (⟨#[]⟩,bW.2,⟨#[]⟩)
 else
 (b6 (R:=(ByteArray) ⊕ (ByteArray × Int × ByteArray)) (λ(fE:ByteArray × Int) =>
 (bif decide (fE.2<(bW.1.length:Int)) then
 (idx bW.1 fE.2).bind λd' =>
 (idx bW.1 fE.2).bind λdC =>
 (bif decide (dC.Kind=1) then
 (idx bW.1 fE.2).bind λbK =>
 (eS fE.1 bK.Text).bind λfY =>
 some (.inl (fY,aE (fE.2+1)))
 else
 (bif decide (dC.Kind=2) then
 (eS fE.1 (⟨#[121,121,86,65,76]⟩)).bind λfF =>
 ((bif decide (d'.Tag=⟨#[]⟩) then
 (idx a0.bO bN.Left).bind λhp =>
 some hp.Tag
 else
 some d'.Tag)).bind λk2 =>
 ((bif !decide (k2=⟨#[]⟩) then
 (eS fF (⟨#[46]⟩)).bind λhM =>
 (eS hM k2).bind λfT =>
 some fT
 else
 some fF)).bind λr4 =>
 some (.inl (r4,aE (fE.2+1)))
 else
 (idx bW.1 fE.2).bind λcD =>
 ((bif decide (cD.N<1) then some true else some (decide ((bN.rq.length:Int)<cD.N)))).bind λAF =>
 (bif AF then
 (k9 cD.N).bind λhz =>
 (eS (⟨#[36]⟩) hz).bind λkJ =>
 some (.inr (.inr (⟨#[]⟩,6,kJ)))
 else
 (eS fE.1 (⟨#[121,121,68,111,108,108,97,114,91]⟩)).bind λh3 =>
 (k9 cD.N).bind λfG =>
 (eS h3 fG).bind λkl =>
 (eS kl (⟨#[93]⟩)).bind λiZ =>
 ((bif decide (d'.Tag=⟨#[]⟩) then
 (idx bN.rq (aE (cD.N - 1))).bind λrm =>
 (Cw a0 rm).bind λkm =>
 some km
 else
 some d'.Tag)).bind λlB =>
 ((bif !decide (lB=⟨#[]⟩) then
 (eS iZ (⟨#[46]⟩)).bind λtn =>
 (eS tn lB).bind λnH =>
 some nH
 else
 some iZ)).bind λxd =>
 some (.inl (xd,aE (fE.2+1))))))
 else
 some (.inr (.inl fE.1)))) (⟨#[]⟩,0)).bind λbG =>
 (match bG with
 | .inl cU =>
 some (cU,0,⟨#[]⟩)
 | .inr dU =>
 some (dU.1,dU.2.1,dU.2.2))))
def xy (a0:bq):Option ((List ByteArray) × Int × Int × ByteArray) :=
 (b6 (R:=(List ByteArray) ⊕ (List ByteArray × Int × Int × ByteArray)) (λ(s1:List ByteArray × Int) =>
 (bif decide (s1.2<(a0.a1.length:Int)) then
 (xA a0 s1.2).bind λbN =>
 (bif !decide (bN.2.1=0) then
 (idx a0.a1 s1.2).bind λcm =>
 some (.inr (.inr (([]:List ByteArray),bN.2.1,cm.At,bN.2.2)))
 else
 (dj s1.1 [bN.1]).bind λed =>
 some (.inl (s1.1++[bN.1],aE (s1.2+1))))
 else
 some (.inr (.inl s1.1)))) (([]:List ByteArray),0)).bind λx2 =>
 (match x2 with
 | .inl aZ =>
 some (aZ,0,0,⟨#[]⟩)
 | .inr bR =>
 some (bR.1,bR.2.1,bR.2.2.1,bR.2.2.2))
structure dr where
 At:Int
 cC:Int
 deriving DecidableEq,Inhabited
structure Row where
 Def:Int
 hT:(List dr)
 deriving DecidableEq,Inhabited
def dD:bA dr:=⟨2,λx=>[ae x.At,ae x.cC],λ_=>rfl,λ_=>dh.bg⟩
instance:Flat dD:=⟨λ_=>rfl⟩
instance:lf dD:=⟨λx=>(inferInstance:i' [ae x.At,ae x.cC])⟩
instance:gn dD dD:=⟨rfl,λx=>(inferInstance:c6 [ae x.At,ae x.cC] [ae x.At,ae x.cC])⟩
def oE:bA Row:=⟨2,λx=>[ae x.Def,ao dD x.hT],λ_=>rfl,λ_=>dh.bg⟩
instance:Flat oE:=⟨λ_=>rfl⟩
instance:gn oE oE:=⟨rfl,λx=>(inferInstance:c6 [ae x.Def,ao dD x.hT] [ae x.Def,ao dD x.hT])⟩
def xB (a0:(List Row)):Option ((List Int) × (List (List dr))) :=
 (b6 (R:=List Int × List (List dr)) (λ(s1:List Int × List (List dr) × Int) =>
 (bif decide (s1.2.2<(a0.length:Int)) then
 (idx a0 s1.2.2).bind λbM =>
 (dj s1.1 [bM.Def]).bind λbN =>
 (idx a0 s1.2.2).bind λbW =>
 (dj s1.2.1 [bW.hT]).bind λcm =>
 some (.inl (s1.1++[bM.Def],s1.2.1++[bW.hT],aE (s1.2.2+1)))
 else
 some (.inr (s1.1,s1.2.1)))) (([]:List Int),([]:List (List dr)),0)).bind λx2 =>
 some (x2.1,x2.2)
def uI (a0:(List Int)):Option (Int) :=
 (b6 (R:=List Int) (λ(s1:List Int × Int) =>
 (bif decide (s1.2<(a0.length:Int)) then
 (idx a0 s1.2).bind λbM =>
 (pN s1.1 bM).bind λbN =>
 some (.inl (bN,aE (s1.2+1)))
 else
 some (.inr s1.1))) (([]:List Int),0)).bind λx2 =>
 (b6 (R:=Int) (λ(db:Int × Int × Int) =>
 (bif decide (db.2.2<(x2.length:Int)) then
 ((b6 (R:=Int) (λ(uR:Int × Int) =>
 (bif decide (uR.2<(a0.length:Int)) then
 ((idx a0 uR.2).bind λbK =>
 (idx x2 db.2.2).bind λfY =>
 ((bif decide (bK=fY) then
 some (aE (uR.1+1))
 else
 some uR.1)).bind λeT =>
 some eT).bind λqn =>
 some (.inl (qn,aE (uR.2+1)))
 else
 some (.inr uR.1))) (0,0)).bind λeQ =>
 ((bif decide (db.2.1<eQ) then
 (idx x2 db.2.2).bind λhp =>
 some (hp,eQ)
 else
 some (db.1,db.2.1))).bind λk2 =>
 some (k2.1,k2.2)).bind λiW =>
 some (.inl (iW.1,iW.2,aE (db.2.2+1)))
 else
 some (.inr db.1))) ((-1),0,0)).bind λcm =>
 some cm
def ta (a0:Act):Option (Int) :=
 ((bif decide (a0.Kind=1) then (bif decide (0<=a0.N) then some (decide (a0.N<=19999)) else some false) else some false)).bind λjt =>
 (bif jt then
 some (aE (a0.N+1))
 else
 ((bif decide (a0.Kind=2) then (bif decide (1<=a0.N) then some (decide (a0.N<=19999)) else some false) else some false)).bind λl9 =>
 (bif l9 then
 some (aE (-a0.N))
 else
 ((bif decide (a0.Kind=3) then some (decide (a0.N=0)) else some false)).bind λhW =>
 (bif hW then
 some 20001
 else
 ((bif decide (a0.Kind=4) then some (decide (a0.N=0)) else some false)).bind λoB =>
 (bif oB then
 some 20002
 else
 some 0))))
def Cq (a0:iu):Option ((List Row)) :=
 (b6 (R:=List Row) (λ(s1:List Row × Int) =>
 (bif decide (s1.2<(a0.dw.length:Int)) then
 (b6 (R:=List Int) (λ(cG:List Int × Int) =>
 (idx a0.dw s1.2).bind λcm =>
 (bif decide (cG.2<(cm.length:Int)) then
 ((idx a0.dw s1.2).bind λcU =>
 (idx cU cG.2).bind λdU =>
 ((bif decide (dU.Kind=2) then
 (idx a0.dw s1.2).bind λdC =>
 (idx dC cG.2).bind λcc =>
 (dj cG.1 [cc.N]).bind λbK =>
 some (cG.1++[cc.N])
 else
 some cG.1)).bind λik =>
 some ik).bind λmi =>
 some (.inl (mi,aE (cG.2+1)))
 else
 some (.inr cG.1))) (([]:List Int),0)).bind λbN =>
 (uI bN).bind λfY =>
 (b6 (R:=List dr) (λ(dM:List dr × Int) =>
 (idx a0.dw s1.2).bind λfS =>
 (bif decide (dM.2<(fS.length:Int)) then
 ((idx a0.dw s1.2).bind λjN =>
 (idx jN dM.2).bind λhM =>
 ((bif !decide (hM.Kind=0) then (bif !decide (hM.Kind=2) then some true else some (!decide (hM.N=fY))) else some false)).bind λtP =>
 ((bif tP then
 (ta hM).bind λhz =>
 (dj dM.1 [(⟨dM.2,hz⟩:dr)]).bind λkJ =>
 some (dM.1++[(⟨dM.2,hz⟩:dr)])
 else
 some dM.1)).bind λkB =>
 some kB).bind λr4 =>
 some (.inl (r4,aE (dM.2+1)))
 else
 some (.inr dM.1))) (([]:List dr),0)).bind λfF =>
 (dj s1.1 [(⟨fY,fF⟩:Row)]).bind λh3 =>
 some (.inl (s1.1++[(⟨fY,fF⟩:Row)],aE (s1.2+1)))
 else
 some (.inr s1.1))) (([]:List Row),0)).bind λx2 =>
 some x2
def Cx (a0:(List (List dr))):Option (Bool) :=
 (bif decide (400<(a0.length:Int)) then
 some false
 else
 (b6 (R:=(Unit) ⊕ (Bool)) (λ(s2:Int) =>
 (bif decide (s2<(a0.length:Int)) then
 (b6 (R:=(Unit) ⊕ (Bool)) (λ(db:List Int × Int) =>
 (idx a0 s2).bind λcU =>
 (bif decide (db.2<(cU.length:Int)) then
 (((idx a0 s2).bind λeQ=>((idx eQ db.2).bind λd'=>(bif decide (d'.At<0) then some true else ((idx a0 s2).bind λcc=>((idx cc db.2).bind λbK=>(bif decide (999<bK.At) then some true else ((idx a0 s2).bind λf'=>((idx f' db.2).bind λfF=>((uJ db.1 fF.At).bind λfZ=>some fZ)))))))))).bind λGD =>
 (bif GD then
 some (.inr (.inr false))
 else
 (idx a0 s2).bind λfO =>
 (idx fO db.2).bind λjN =>
 (dj db.1 [jN.At]).bind λhM =>
 some (.inl (db.1++[jN.At],aE (db.2+1))))
 else
 some (.inr (.inl ())))) (([]:List Int),0)).bind λcm =>
 (match cm with
 | .inl ed =>
 some (.inl (aE (s2+1)))
 | .inr bG =>
 some (.inr (.inr bG)))
 else
 some (.inr (.inl ())))) 0).bind λaZ =>
 (match aZ with
 | .inl bR =>
 some true
 | .inr bM =>
 some bM))
def zB (a0:(List Int)) (aB:(List dr)) (a2:Int):Option (Bool) :=
 (b6 (R:=(Unit) ⊕ (Bool)) (λ(s1:Int) =>
 (bif decide (s1<(aB.length:Int)) then
 (idx aB s1).bind λbN =>
 ((bif decide (aE (a2+bN.At)<(a0.length:Int)) then ((idx a0 (aE (a2+bN.At))).bind λcm=>some (!decide (cm=0))) else some false)).bind λrF =>
 (bif rF then
 some (.inr (.inr false))
 else
 some (.inl (aE (s1+1))))
 else
 some (.inr (.inl ())))) 0).bind λx2 =>
 (match x2 with
 | .inl aZ =>
 some true
 | .inr bR =>
 some bR)
structure gN where
 dA:(List Int)
 cC:(List Int)
 cz:(List Int)
 deriving DecidableEq,Inhabited
def sG:bA gN:=⟨3,λx=>[ao az x.dA,ao az x.cC,ao az x.cz],λ_=>rfl,λ_=>dh.bg⟩
instance:Flat sG:=⟨λ_=>rfl⟩
instance:gn sG sG:=⟨rfl,λx=>(inferInstance:c6 [ao az x.dA,ao az x.cC,ao az x.cz] [ao az x.dA,ao az x.cC,ao az x.cz])⟩
instance {x:gN}:c6 (sG.cells x) [ao az x.dA,ao az x.cC,ao az x.cz]:=(inferInstance:c6 [ao az x.dA,ao az x.cC,ao az x.cz] [ao az x.dA,ao az x.cC,ao az x.cz])
def DL:bA gN:=⟨3,λx=>[aq az x.dA,aq az x.cC,aq az x.cz],λ_=>rfl,λ_=>dh.bg⟩
instance:lf DL:=⟨λx=>(inferInstance:i' [aq az x.dA,aq az x.cC,aq az x.cz])⟩
instance {x:gN}:c6 (DL.cells x) [ao az x.dA,ao az x.cC,ao az x.cz]:=(inferInstance:c6 [aq az x.dA,aq az x.cC,aq az x.cz] [ao az x.dA,ao az x.cC,ao az x.cz])
def vS (a0:(List (List dr))):Option (gN) :=
 (Cx a0).bind λbc =>
 (bif !bc then
 some (⟨([]:List Int),([]:List Int),([]:List Int)⟩:gN)
 else
 (nB (a0.length:Int) 0).bind λaZ =>
 (nB (a0.length:Int) false).bind λbR =>
 (b6 (R:=(Unit) ⊕ (gN)) (λ(cG:gN × List Bool) =>
 (b6 (R:=Int) (λ(fE:Int × Int) =>
 (bif decide (fE.2<(a0.length:Int)) then
 ((((idx cG.2 fE.2).bind λd'=>(bif !d' then ((idx a0 fE.2).bind λcc=>(bif decide (0<(cc.length:Int)) then (bif decide (fE.1<0) then some true else ((idx a0 fE.2).bind λf'=>((idx a0 fE.1).bind λfF=>some (decide ((fF.length:Int)<(f'.length:Int)))))) else some false)) else some false))).bind λrE =>
 ((bif rE then
 some fE.2
 else
 some fE.1)).bind λmj =>
 some mj).bind λik =>
 some (.inl (ik,aE (fE.2+1)))
 else
 some (.inr fE.1))) ((-1),0)).bind λbG =>
 (bif decide (bG<0) then
 some (.inr (.inr cG.1))
 else
 (idx cG.2 bG).bind λjN =>
 (b6 (R:=List Int) (λ(og:List Int) =>
 (idx a0 bG).bind λer =>
 (idx og bG).bind λir =>
 (zB cG.1.cz er ir).bind λpW =>
 (bif !pW then
 (idx og bG).bind λkJ =>
 some (.inl (og.set bG.toNat (aE (kJ+1))))
 else
 some (.inr og))) cG.1.dA).bind λfT =>
 (b6 (R:=List Int × List Int) (λ(gk:List Int × List Int × Int) =>
 (idx a0 bG).bind λiZ =>
 (bif decide (gk.2.2<(iZ.length:Int)) then
 (idx fT bG).bind λgW =>
 (idx a0 bG).bind λrm =>
 (idx rm gk.2.2).bind λkm =>
 (b6 (R:=List Int × List Int) (λ(j3:List Int × List Int) =>
 (bif decide ((j3.2.length:Int)<=aE (gW+km.At)) then
 (dj j3.2 [0]).bind λnI =>
 (dj j3.1 [0]).bind λmQ =>
 some (.inl (j3.1++[0],j3.2++[0]))
 else
 some (.inr (j3.1,j3.2)))) (gk.1,gk.2.1)).bind λhq =>
 (idx a0 bG).bind λtp =>
 (idx tp gk.2.2).bind λtq =>
 (idx hq.2 (aE (gW+km.At))).bind λz1 =>
 (idx hq.1 (aE (gW+km.At))).bind λx0 =>
 some (.inl (hq.1.set (aE (gW+km.At)).toNat tq.cC,hq.2.set (aE (gW+km.At)).toNat (aE (bG+1)),aE (gk.2.2+1)))
 else
 some (.inr (gk.1,gk.2.1)))) (cG.1.cC,cG.1.cz,0)).bind λfG =>
 some (.inl ((⟨fT,fG.1,fG.2⟩:gN),cG.2.set bG.toNat true)))) ((⟨aZ,([]:List Int),([]:List Int)⟩:gN),bR)).bind λbN =>
 (match bN with
 | .inl bW =>
 none
 | .inr cm =>
 some cm))
def Cr (a0:iu):Option ((List Row)) :=
 (b6 (R:=List Row) (λ(s1:List Row × Int) =>
 ((bif decide (0<(a0.fU.length:Int)) then ((idx a0.fU 0).bind λbM=>some (decide (s1.2<(bM.length:Int)))) else some false)).bind λm_ =>
 (bif m_ then
 (b6 (R:=List Int) (λ(eV:List Int × Int) =>
 (bif decide (eV.2<(a0.fU.length:Int)) then
 ((idx a0.fU eV.2).bind λeQ =>
 (idx eQ s1.2).bind λd' =>
 ((bif decide (0<=d') then
 (idx a0.fU eV.2).bind λbK =>
 (idx bK s1.2).bind λfY =>
 (dj eV.1 [fY]).bind λf' =>
 some (eV.1++[fY])
 else
 some eV.1)).bind λlA =>
 some lA).bind λeG =>
 some (.inl (eG,aE (eV.2+1)))
 else
 some (.inr eV.1))) (([]:List Int),0)).bind λed =>
 (uI ed).bind λfF =>
 (b6 (R:=List dr) (λ(rf:List dr × Int) =>
 (bif decide (rf.2<(a0.fU.length:Int)) then
 ((idx a0.fU rf.2).bind λhM =>
 (idx hM s1.2).bind λfT =>
 ((bif decide (0<=fT) then some (!decide (fT=fF)) else some false)).bind λtP =>
 ((bif tP then
 (dj rf.1 [(⟨rf.2,fT⟩:dr)]).bind λhz =>
 some (rf.1++[(⟨rf.2,fT⟩:dr)])
 else
 some rf.1)).bind λkB =>
 some kB).bind λuC =>
 some (.inl (uC,aE (rf.2+1)))
 else
 some (.inr rf.1))) (([]:List dr),0)).bind λfS =>
 (dj s1.1 [(⟨fF,fS⟩:Row)]).bind λkJ =>
 some (.inl (s1.1++[(⟨fF,fS⟩:Row)],aE (s1.2+1)))
 else
 some (.inr s1.1))) (([]:List Row),0)).bind λx2 =>
 some x2
def Cs (a0:bq):Option ((List dr)) :=
 (b6 (R:=List Int) (λ(s1:List Int × Int) =>
 (bif decide (s1.2<(a0.aX.length:Int)) then
 ((idx a0.aX s1.2).bind λbN =>
 ((bif decide (0<bN.bF) then
 (idx a0.aX s1.2).bind λed =>
 (pN s1.1 ed.bF).bind λbG =>
 some bG
 else
 some s1.1)).bind λoT =>
 some oT).bind λqo =>
 some (.inl (qo,aE (s1.2+1)))
 else
 some (.inr s1.1))) (([]:List Int),0)).bind λx2 =>
 (b6 (R:=List dr) (λ(jm:List dr × Int) =>
 (bif decide (jm.2<(x2.length:Int)) then
 (b6 (R:=List dr) (λ(hK:List dr × Int) =>
 (bif decide (hK.2<(a0.aX.length:Int)) then
 ((idx a0.aX hK.2).bind λfF =>
 (idx x2 jm.2).bind λfZ =>
 ((bif decide (fF.bF=fZ) then
 (idx x2 jm.2).bind λfO =>
 (dj hK.1 [(⟨fO,hK.2⟩:dr)]).bind λjN =>
 some (hK.1++[(⟨fO,hK.2⟩:dr)])
 else
 some hK.1)).bind λmj =>
 some mj).bind λeT =>
 some (.inl (eT,aE (hK.2+1)))
 else
 some (.inr hK.1))) (jm.1,0)).bind λcc =>
 some (.inl (cc,aE (jm.2+1)))
 else
 some (.inr jm.1))) (([]:List dr),0)).bind λdU =>
 some dU
structure Tables where
 Def:(List Int)
 dw:gN
 o8:(List Int)
 gF:gN
 Left:(List Int)
 o9:(List Int)
 hS:(List dr)
 deriving DecidableEq,Inhabited
def jW:bA Tables:=⟨11,λx=>[ao az x.Def,ao az x.dw.dA,ao az x.dw.cC,ao az x.dw.cz,ao az x.o8,ao az x.gF.dA,ao az x.gF.cC,ao az x.gF.cz,ao az x.Left,ao az x.o9,ao dD x.hS],λ_=>rfl,λ_=>dh.bg⟩
instance:Flat jW:=⟨λ_=>rfl⟩
instance:gn jW jW:=⟨rfl,λx=>(inferInstance:c6 [ao az x.Def,ao az x.dw.dA,ao az x.dw.cC,ao az x.dw.cz,ao az x.o8,ao az x.gF.dA,ao az x.gF.cC,ao az x.gF.cz,ao az x.Left,ao az x.o9,ao dD x.hS] [ao az x.Def,ao az x.dw.dA,ao az x.dw.cC,ao az x.dw.cz,ao az x.o8,ao az x.gF.dA,ao az x.gF.cC,ao az x.gF.cz,ao az x.Left,ao az x.o9,ao dD x.hS])⟩
instance {x:Tables}:c6 (jW.cells x) [ao az x.Def,ao az x.dw.dA,ao az x.dw.cC,ao az x.dw.cz,ao az x.o8,ao az x.gF.dA,ao az x.gF.cC,ao az x.gF.cz,ao az x.Left,ao az x.o9,ao dD x.hS]:=(inferInstance:c6 [ao az x.Def,ao az x.dw.dA,ao az x.dw.cC,ao az x.dw.cz,ao az x.o8,ao az x.gF.dA,ao az x.gF.cC,ao az x.gF.cz,ao az x.Left,ao az x.o9,ao dD x.hS] [ao az x.Def,ao az x.dw.dA,ao az x.dw.cC,ao az x.dw.cz,ao az x.o8,ao az x.gF.dA,ao az x.gF.cC,ao az x.gF.cz,ao az x.Left,ao az x.o9,ao dD x.hS])
def zy (a0:bq) (aB:iu):Option (Tables) :=
 (Cq aB).bind λbc =>
 (xB bc).bind λx2 =>
 (vS x2.2).bind λaZ =>
 (Cr aB).bind λbR =>
 (xB bR).bind λbM =>
 (vS bM.2).bind λbN =>
 (b6 (R:=List Int × List Int) (λ(db:List Int × List Int × Int) =>
 (bif decide (db.2.2<(a0.a1.length:Int)) then
 (idx a0.a1 db.2.2).bind λcU =>
 (dj db.1 [cU.Left]).bind λdU =>
 (idx a0.a1 db.2.2).bind λeQ =>
 (dj db.2.1 [(eQ.e1.length:Int)]).bind λd' =>
 some (.inl (db.1++[cU.Left],db.2.1++[(eQ.e1.length:Int)],aE (db.2.2+1)))
 else
 some (.inr (db.1,db.2.1)))) (([]:List Int),([]:List Int),0)).bind λcm =>
 (Cs a0).bind λdC =>
 some (⟨x2.1,aZ,bM.1,bN,cm.1,cm.2,dC⟩:Tables)
def sa (a0:Source):Option (bq × Tables × (List ByteArray) × Bool) :=
 (q9 a0).bind λbc =>
 (bif !bc.2.2.2 then
 some (bc.1,(⟨([]:List Int),(⟨([]:List Int),([]:List Int),([]:List Int)⟩:gN),([]:List Int),(⟨([]:List Int),([]:List Int),([]:List Int)⟩:gN),([]:List Int),([]:List Int),([]:List dr)⟩:Tables),([]:List ByteArray),false)
 else
 (xy bc.1).bind λaZ =>
 (zy bc.1 bc.2.1).bind λbR =>
 some (bc.1,bR,aZ.1,decide (aZ.2.1=0)))
def xz (a0:Tables):Option ((List (List Int))) :=
 (b6 (R:=List Int × List Int) (λ(s1:List Int × List Int × Int) =>
 (bif decide (s1.2.2<(a0.hS.length:Int)) then
 (idx a0.hS s1.2.2).bind λbM =>
 (dj s1.1 [bM.At]).bind λbN =>
 (dj s1.2.1 [bM.cC]).bind λbW =>
 some (.inl (s1.1++[bM.At],s1.2.1++[bM.cC],aE (s1.2.2+1)))
 else
 some (.inr (s1.1,s1.2.1)))) (([]:List Int),([]:List Int),0)).bind λx2 =>
 some [a0.Def,a0.dw.dA,a0.dw.cC,a0.dw.cz,a0.o8,a0.gF.dA,a0.gF.cC,a0.gF.cz,a0.Left,a0.o9,x2.1,x2.2]
def Co :Option ((List ByteArray)) :=
 some [⟨#[121,121,68,101,102]⟩,⟨#[121,121,65,99,116,66,97,115,101]⟩,⟨#[121,121,65,99,116,86,97,108]⟩,⟨#[121,121,65,99,116,67,104,107]⟩,⟨#[121,121,71,111,68,101,102]⟩,⟨#[121,121,71,111,66,97,115,101]⟩,⟨#[121,121,71,111,86,97,108]⟩,⟨#[121,121,71,111,67,104,107]⟩,⟨#[121,121,76,101,102,116]⟩,⟨#[121,121,76,101,110]⟩,⟨#[121,121,78,117,109,65,116]⟩,⟨#[121,121,78,117,109,86,97,108]⟩]
def zx (a0:bq) (aB:Tables) (a2:(List ByteArray)):Option (ByteArray) :=
 (s5 (a0.b9.size:Int)).bind λbc =>
 (eS (⟨#[47,47,32,67,111,100,101,32,109,97,100,101,32,98,121,32,121,117,99,99,97,32]⟩) bc).bind λx2 =>
 (eS x2 (⟨#[10]⟩)).bind λaZ =>
 (eS aZ a0.b9).bind λbR =>
 (eS bR (⟨#[10]⟩)).bind λbM =>
 (mY (⟨#[]⟩) bM).bind λbN =>
 (b6 (R:=ByteArray) (λ(db:ByteArray × Int) =>
 (bif decide (db.2<(a0.aX.length:Int)) then
 ((idx a0.aX db.2).bind λdU =>
 ((bif decide (2<db.2) then some (!dU.Lit) else some false)).bind λwB =>
 ((bif wB then
 (eS (⟨#[99,111,110,115,116,32]⟩) dU.Name).bind λbK =>
 (eS bK (⟨#[32,61,32]⟩)).bind λfY =>
 (s5 dU.bF).bind λf' =>
 (eS fY f').bind λfF =>
 (eS fF (⟨#[10]⟩)).bind λfZ =>
 (mY db.1 fZ).bind λfS =>
 some fS
 else
 some db.1)).bind λlA =>
 some lA).bind λiW =>
 some (.inl (iW,aE (db.2+1)))
 else
 some (.inr db.1))) (bN,0)).bind λcm =>
 (xz aB).bind λhp =>
 (Co ).bind λfO =>
 (b6 (R:=ByteArray) (λ(oe:ByteArray × Int) =>
 (bif decide (oe.2<(fO.length:Int)) then
 (idx fO oe.2).bind λer =>
 (idx hp oe.2).bind λir =>
 (xx er ir).bind λpW =>
 (eS pW (⟨#[10]⟩)).bind λhz =>
 (mY oe.1 hz).bind λkJ =>
 some (.inl (kJ,aE (oe.2+1)))
 else
 some (.inr oe.1))) (cm,0)).bind λhM =>
 (mY hM (⟨#[102,117,110,99,32,121,121,65,99,116,105,111,110,40,112,32,105,110,116,44,32,121,121,68,111,108,108,97,114,32,91,93,121,121,83,121,109,84,121,112,101,44,32,121,121,86,65,76,32,121,121,83,121,109,84,121,112,101,41,32,121,121,83,121,109,84,121,112,101,32,123,10,9,115,119,105,116,99,104,32,112,32,123,10]⟩)).bind λh3 =>
 (b6 (R:=ByteArray) (λ(tg:ByteArray × Int) =>
 (bif decide (tg.2<(a2.length:Int)) then
 ((idx a2 tg.2).bind λrm =>
 ((bif !decide (rm=⟨#[]⟩) then
 (s5 tg.2).bind λhq =>
 (eS (⟨#[9,99,97,115,101,32]⟩) hq).bind λtn =>
 (eS tn (⟨#[58,10,9,9]⟩)).bind λnH =>
 (eS nH rm).bind λnI =>
 (eS nI (⟨#[10]⟩)).bind λmQ =>
 (mY tg.1 mQ).bind λtp =>
 some tp
 else
 some tg.1)).bind λJc =>
 some Jc).bind λJa =>
 some (.inl (Ja,aE (tg.2+1)))
 else
 some (.inr tg.1))) (h3,0)).bind λkl =>
 (eS (⟨#[9,125,10,9,114,101,116,117,114,110,32,121,121,86,65,76,10,125,10]⟩) a0.cg).bind λtq =>
 (mY kl tq).bind λz1 =>
 (wz z1).bind λx0 =>
 some x0
def CC :Option (Bool) :=
 (sa (⟨⟨#[112]⟩,([]:List Decl),[(⟨⟨#[115]⟩,[(⟨[(⟨(⟨⟨#[120]⟩,true,0,0⟩:Sym),⟨#[]⟩,0⟩:Part),(⟨(⟨⟨#[]⟩,false,0,0⟩:Sym),⟨#[123,102,40,41,125]⟩,0⟩:Part)],(⟨⟨#[]⟩,false,0,0⟩:Sym),0⟩:Alt)],0⟩:hU)],⟨#[116]⟩⟩:Source)).bind λbc =>
 (zx bc.1 bc.2.1 bc.2.2.1).bind λx2 =>
 ((bif bc.2.2.2 then ((xx (⟨#[121,121,68,101,102]⟩) [(-1),2]).bind λbR=>(bif decide (bR=⟨#[118,97,114,32,121,121,68,101,102,32,61,32,91,93,105,110,116,123,45,49,44,32,50,125]⟩) then some (decide (x2=⟨#[47,47,32,67,111,100,101,32,109,97,100,101,32,98,121,32,121,117,99,99,97,32,49,10,112,10,118,97,114,32,121,121,68,101,102,32,61,32,91,93,105,110,116,123,45,49,44,32,49,44,32,45,49,125,10,118,97,114,32,121,121,65,99,116,66,97,115,101,32,61,32,91,93,105,110,116,123,48,44,32,48,44,32,48,125,10,118,97,114,32,121,121,65,99,116,86,97,108,32,61,32,91,93,105,110,116,123,50,48,48,48,49,44,32,48,44,32,48,44,32,50,125,10,118,97,114,32,121,121,65,99,116,67,104,107,32,61,32,91,93,105,110,116,123,51,44,32,48,44,32,48,44,32,49,125,10,118,97,114,32,121,121,71,111,68,101,102,32,61,32,91,93,105,110,116,123,45,49,44,32,50,125,10,118,97,114,32,121,121,71,111,66,97,115,101,32,61,32,91,93,105,110,116,123,48,44,32,48,125,10,118,97,114,32,121,121,71,111,86,97,108,32,61,32,91,93,105,110,116,123,125,10,118,97,114,32,121,121,71,111,67,104,107,32,61,32,91,93,105,110,116,123,125,10,118,97,114,32,121,121,76,101,102,116,32,61,32,91,93,105,110,116,123,48,44,32,49,125,10,118,97,114,32,121,121,76,101,110,32,61,32,91,93,105,110,116,123,49,44,32,49,125,10,118,97,114,32,121,121,78,117,109,65,116,32,61,32,91,93,105,110,116,123,49,50,48,125,10,118,97,114,32,121,121,78,117,109,86,97,108,32,61,32,91,93,105,110,116,123,51,125,10,102,117,110,99,32,121,121,65,99,116,105,111,110,40,112,32,105,110,116,44,32,121,121,68,111,108,108,97,114,32,91,93,121,121,83,121,109,84,121,112,101,44,32,121,121,86,65,76,32,121,121,83,121,109,84,121,112,101,41,32,121,121,83,121,109,84,121,112,101,32,123,10,9,115,119,105,116,99,104,32,112,32,123,10,9,99,97,115,101,32,49,58,10,9,9,123,102,40,41,125,10,9,125,10,9,114,101,116,117,114,110,32,121,121,86,65,76,10,125,10,116]⟩)) else some false)) else some false)).bind λm_ =>
 some m_
def OT (a0:ByteArray) (aB:Int):Option (ByteArray) :=
 (bif decide (aB<(a0.size:Int)) then
 (lK a0 0 aB).bind λx2 =>
 some x2
 else
 some a0)
def L3:bA Decl:=⟨4,λx=>[ae x.Kind,ax x.Tag,aq dQ x.ev,ae x.At],λ_=>rfl,λ_=>dh.bg⟩
instance:gn L3 ff:=⟨rfl,λx=>(inferInstance:c6 [ae x.Kind,ax x.Tag,aq dQ x.ev,ae x.At] [ae x.Kind,ax x.Tag,ao dQ x.ev,ae x.At])⟩
instance {x:Decl}:c6 (L3.cells x) [ae x.Kind,ax x.Tag,ao dQ x.ev,ae x.At]:=(inferInstance:c6 [ae x.Kind,ax x.Tag,aq dQ x.ev,ae x.At] [ae x.Kind,ax x.Tag,ao dQ x.ev,ae x.At])
structure Qo where
 bO:Int
 fu:(List (List Int))
 yj:(List Int)
 yf:(List Int)
 x5:Bool
 deriving DecidableEq,Inhabited
def DQ:bA Qo:=⟨5,λx=>[ae x.bO,ao (bI az) x.fu,ao az x.yj,ao az x.yf,bf x.x5],λ_=>rfl,λ_=>dh.bg⟩
instance:Flat DQ:=⟨λ_=>rfl⟩
instance:gn DQ DQ:=⟨rfl,λx=>(inferInstance:c6 [ae x.bO,ao (bI az) x.fu,ao az x.yj,ao az x.yf,bf x.x5] [ae x.bO,ao (bI az) x.fu,ao az x.yj,ao az x.yf,bf x.x5])⟩
instance {x:Qo}:c6 (DQ.cells x) [ae x.bO,ao (bI az) x.fu,ao az x.yj,ao az x.yf,bf x.x5]:=(inferInstance:c6 [ae x.bO,ao (bI az) x.fu,ao az x.yj,ao az x.yf,bf x.x5] [ae x.bO,ao (bI az) x.fu,ao az x.yj,ao az x.yf,bf x.x5])
def L6:bA hU:=⟨3,λx=>[ax x.Left,aq fK x.hg,ae x.At],λ_=>rfl,λ_=>dh.bg⟩
instance:gn L6 je:=⟨rfl,λx=>(inferInstance:c6 [ax x.Left,aq fK x.hg,ae x.At] [ax x.Left,ao fK x.hg,ae x.At])⟩
instance {x:hU}:c6 (L6.cells x) [ax x.Left,ao fK x.hg,ae x.At]:=(inferInstance:c6 [ax x.Left,aq fK x.hg,ae x.At] [ax x.Left,ao fK x.hg,ae x.At])
def zD (a0:(List Bool)) (aB:(List Bool)):Option (Bool) :=
 (CC ).bind λbc =>
 (bif !bc then
 some false
 else
 (b6 (R:=List Sym × ByteArray) (λ(cb:List Sym × ByteArray × Int × Int) =>
 ((bif decide (cb.2.2.2<(a0.length:Int)) then some (decide (cb.2.2.2<20)) else some false)).bind λl9 =>
 (bif l9 then
 ((idx a0 cb.2.2.2).bind λbG =>
 (bif bG then
 (dj cb.1 [(⟨strOfNums [gE (aE (97+cb.2.2.2))],true,0,0⟩:Sym)]).bind λdU =>
 some (cb.1++[(⟨strOfNums [gE (aE (97+cb.2.2.2))],true,0,0⟩:Sym)],cb.2.1,cb.2.2.1)
 else
 (k9 cb.2.2.2).bind λeQ =>
 (eS (⟨#[116]⟩) eQ).bind λd' =>
 (dj cb.1 [(⟨d',false,0,0⟩:Sym)]).bind λdC =>
 (eS cb.2.1 (⟨#[99,111,110,115,116,32,116]⟩)).bind λcc =>
 (k9 cb.2.2.2).bind λbK =>
 (eS cc bK).bind λfY =>
 (eS fY (⟨#[32,61,32]⟩)).bind λf' =>
 (k9 cb.2.2.1).bind λfF =>
 (eS f' fF).bind λfZ =>
 (eS fZ (⟨#[10]⟩)).bind λfS =>
 some (cb.1++[(⟨d',false,0,0⟩:Sym)],fS,aE (cb.2.2.1+1)))).bind λiX =>
 some (.inl (iX.1,iX.2.1,iX.2.2,aE (cb.2.2.2+1)))
 else
 some (.inr (cb.1,cb.2.1)))) (([]:List Sym),⟨#[]⟩,57346,0)).bind λbR =>
 (b6 (R:=List Alt × ByteArray) (λ(fD:List Alt × ByteArray × Int) =>
 ((bif decide (fD.2.2<(aB.length:Int)) then some (decide (fD.2.2<9)) else some false)).bind λAD =>
 (bif AD then
 (idx aB fD.2.2).bind λer =>
 ((bif er then
 (dj [(⟨(⟨strOfNums [gE (aE (65+fD.2.2))],true,0,0⟩:Sym),⟨#[]⟩,0⟩:Part)] [(⟨(⟨⟨#[]⟩,false,0,0⟩:Sym),⟨#[123,36,36,125]⟩,0⟩:Part)]).bind λhz =>
 (eS fD.2.1 (⟨#[9,99,97,115,101,32]⟩)).bind λkJ =>
 (k9 (aE (fD.2.2+1))).bind λh3 =>
 (eS kJ h3).bind λfG =>
 (eS fG (⟨#[58,10,9,9,123,121,121,86,65,76,125,10]⟩)).bind λkl =>
 some (kl,[(⟨(⟨strOfNums [gE (aE (65+fD.2.2))],true,0,0⟩:Sym),⟨#[]⟩,0⟩:Part)]++[(⟨(⟨⟨#[]⟩,false,0,0⟩:Sym),⟨#[123,36,36,125]⟩,0⟩:Part)])
 else
 some (fD.2.1,[(⟨(⟨strOfNums [gE (aE (65+fD.2.2))],true,0,0⟩:Sym),⟨#[]⟩,0⟩:Part)]))).bind λkB =>
 (dj fD.1 [(⟨kB.2,(⟨⟨#[]⟩,false,0,0⟩:Sym),0⟩:Alt)]).bind λiZ =>
 some (.inl (fD.1++[(⟨kB.2,(⟨⟨#[]⟩,false,0,0⟩:Sym),0⟩:Alt)],kB.1,aE (fD.2.2+1)))
 else
 some (.inr (fD.1,fD.2.1)))) (([]:List Alt),⟨#[]⟩,0)).bind λfO =>
 ((bif decide ((fO.1.length:Int)=0) then
 some [(⟨([]:List Part),(⟨⟨#[]⟩,false,0,0⟩:Sym),0⟩:Alt)]
 else
 some fO.1)).bind λlB =>
 ((bif decide (0<(bR.1.length:Int)) then
 some [(⟨1,⟨#[]⟩,bR.1,0⟩:Decl)]
 else
 some ([]:List Decl))).bind λBV =>
 (sa (⟨⟨#[]⟩,BV,[(⟨⟨#[115]⟩,lB,0⟩:hU)],⟨#[]⟩⟩:Source)).bind λfq =>
 (zx fq.1 fq.2.1 fq.2.2.1).bind λhq =>
 (eS (⟨#[47,47,32,67,111,100,101,32,109,97,100,101,32,98,121,32,121,117,99,99,97,32,48,10,10]⟩) bR.2).bind λtn =>
 (eS tn (⟨#[118,97,114,32,121,121,68,101,102,32,61,32]⟩)).bind λnH =>
 (eS (⟨#[121,121,83,121,109,84,121,112,101,32,123,10,9,115,119,105,116,99,104,32,112,32,123,10]⟩) fO.2).bind λnI =>
 (eS nI (⟨#[9,125,10,9,114,101,116,117,114,110,32,121,121,86,65,76,10,125,10]⟩)).bind λmQ =>
 ((bif fq.2.2.2 then (bif decide (aE ((nH.size:Int)+(mQ.size:Int))<(hq.size:Int)) then ((lK hq 0 (nH.size:Int)).bind λz1=>(bif decide (z1=nH) then ((lK hq (aE ((hq.size:Int) - (mQ.size:Int))) hq.size).bind λqE=>some (decide (qE=mQ))) else some false)) else some false) else some false)).bind λva =>
 some va)
end Go.Proofs
namespace Go.Own
open Go
variable {α β S R:Type}
abbrev ft (p:S->Prop) (q:R->Prop) (x:S ⊕ R):Prop:=Sum.elim p q x
def Tot (x:Option α) (Φ:α->Prop):Prop:=∃ a,x=some a/\Φ a
namespace Tot
variable {Φ Ψ:α->Prop}
theorem ag {a:α}(h:Φ a):Tot (some a) Φ:=⟨a,rfl,h⟩
theorem bi {x:Option β}{f:β->Option α}(h:Tot x λa=>Tot (f a) Φ):Tot (x.bind f) Φ:=by
 obtain ⟨a,rfl,b,av,nx⟩:=h;exact ⟨b,av,nx⟩
theorem sm {f:β->Option α}{a:β}(h:Tot (f a) Φ):Tot ((some a).bind f) Φ:=h
theorem use {x:Option α}(h:Tot x Ψ) (hi:∀ a,Ψ a->Φ a):Tot x Φ:=by
 obtain ⟨a,aQ,I1⟩:=h;exact ⟨a,aQ,hi a I1⟩
theorem au {x:Option β}{f:β->Option α}{Ξ:β->Prop}(h:Tot x Ξ) (hk:∀ a,Ξ a->Tot (f a) Φ):Tot (x.bind f) Φ:=bi (h.use hk)
theorem bj {c:Bool}{a b:Option α}(al:c=true->Tot a Φ) (aS:c=false->Tot b Φ):Tot (cond c a b) Φ:=by
 grind
theorem bb {p:Prop} [Decidable p] {a b:Option α}(al:p->Tot a Φ) (aS:¬ p->Tot b Φ):Tot (cond (decide p) a b) Φ:=by grind
theorem iz {p:Prop} [Decidable p] {a b:Option α}(al:¬ p->Tot a Φ) (aS:p->Tot b Φ):Tot (cond (!decide p) a b) Φ:=by grind
theorem hI {l:List α}{i:Int}(aO:0<=i) (h1:i<l.length) (hk:∀ y,idx l i=some y->y∈l->Φ y):Tot (idx l i) Φ:=by
 have aR:i.toNat<l.length:=by omega
 have:idx l i=some l[i.toNat]:=by simp [idx,aO,aR]
 exact ⟨_,this,hk _ this (List.getElem_mem aR)⟩
theorem ap {Φ:List α->Prop}{l m:List α}(h:l.length+m.length<=lim) (hk:Φ (l++m)):Tot (dj l m) Φ:=by
 refine ⟨l++m,?_,hk⟩
 grind [dj]
theorem loop {f:S->Option (S ⊕ R)}{eL:S}{Ψ:R->Prop}(Inv:S->Prop) (u0:S->Nat) (aO:Inv eL) (I2:u0 eL<fuel)
  (aw:∀ s,Inv s->Tot (f s) (ft (λcu=>Inv cu/\u0 cu<u0 s) Ψ)):Tot (b6 f eL) Ψ:=by
 have key:∀ n s,Inv s->u0 s<n->Tot (iter f n s) Ψ:=by
  intro n
  induction n with
  | zero=>intro s _ h; omega
  | succ n aL =>
   intro s ba hm;obtain ⟨x,j,ck⟩:=aw s ba;cases x with
   | inl cu =>
    grind [iter]
   | inr r =>
    simp only [iter,j];exact ⟨r,rfl,ck⟩
 exact key fuel eL aO I2
theorem count {f:S->Option (S ⊕ R)}{eL:S}{Ψ:R->Prop}(i:S->Int) (n:Int) (Inv:S->Prop) (aO:Inv eL) (aA:n - i eL<1000000000000000000)
  (aw:∀ s,Inv s->Tot (f s) (ft (λcu=>Inv cu/\i s<i cu/\i cu<=n) Ψ)):Tot (b6 f eL) Ψ:=by
 refine loop Inv (λs=>(n - i s).toNat) aO (by show (n - i eL).toNat<1000000000000000000; omega) λs ba=>(aw s ba).use λx j=>?_
 grind
end Tot
theorem FH {n:Int}(aO:-9223372036854775808<=n) (h1:n<=9223372036854775807):aE n=n:=by
 grind [IntKind.wrap_i64]
theorem cq (n:Int):aE n=(n+9223372036854775808) % 18446744073709551616 - 9223372036854775808:=IntKind.wrap_i64 n
namespace Tot
theorem cat {Φ:ByteArray->Prop}{s u:ByteArray}(h:s.size+u.size<=4611686018427387904) (hk:Φ (s++u)):Tot (eS s u) Φ:=by
 refine ⟨s++u,?_,hk⟩
 grind [eS]
theorem cut {Φ:ByteArray->Prop}{s:ByteArray}{m n:Int}(h:0<=m/\m<=n/\n<=s.size) (hk:Φ (p6 s m n)):Tot (lK s m n) Φ:=by
 refine ⟨_,?_,hk⟩
 grind [lK]
theorem kr {Φ:Int->Prop}{s:ByteArray}{m:Int}(h:0<=m/\m<s.size) (hk:Φ (ll s m)):Tot (gz s m) Φ:=by
 refine ⟨_,?_,hk⟩
 grind [gz]
theorem sub {Φ:List α->Prop}{l:List α}{m n:Int}(h:0<=m/\m<=n/\n<=l.length) (hk:Φ ((l.drop m.toNat).take (n - m).toNat)):Tot (nE l m n) Φ:=by
 refine ⟨_,?_,hk⟩
 grind [nE]
theorem rem {Φ:Int->Prop}{m n:Int}(h:n≠0) (hk:Φ (m.tmod n)):Tot (Fp m n) Φ:=by
 refine ⟨_,?_,hk⟩
 grind [Fp]
theorem quo {Φ:Int->Prop}{m n:Int}(h:n≠0) (hk:Φ (aE (m.tdiv n))):Tot (Fh m n) Φ:=by
 refine ⟨_,?_,hk⟩
 grind [Fh]
theorem pP {Φ:Int->Prop}{m n:Int}(h:n≠0) (hk:Φ (m.tmod n)):Tot (Own.pP m n) Φ:=by
 refine ⟨_,?_,hk⟩
 grind [Own.pP]
theorem pO {Φ:Int->Prop}{m n:Int}(h:n≠0) (hk:Φ (IntKind.u64.wrap (m.tdiv n))):Tot (Own.pO m n) Φ:=by
 refine ⟨_,?_,hk⟩
 grind [Own.pO]
theorem mk {Φ:List α->Prop}{m:Int}{z:α}(h:0<=m/\m<=lim) (hk:Φ (List.replicate m.toNat z)):Tot (nB m z) Φ:=by
 refine ⟨_,?_,hk⟩
 grind [nB]
theorem eq {x:Option α}{Φ:α->Prop}{a:α}(h:Tot x Φ) (e:x=some a):Φ a:=by
 obtain ⟨b,av,nx⟩:=h
 grind
theorem ex {x:Option α}{Φ:α->Prop}(h:Tot x Φ):∃ a,x=some a/\Φ a:=h
end Tot
namespace Tot
theorem scan {f:Int->Option (Int ⊕ (Unit ⊕ R))}(l:List β) (P:β->Prop) (Q:R->Prop) (ai:l.length<=100000000000000000)
  (aw:∀ (s:Int) (y:β),0<=s->s<l.length->idx l s=some y->y∈l->Tot (f s) (ft (λcu=>cu=s+1/\P y) (ft (λ_=>False) Q)))
  (he:∀ s:Int,¬ s<l.length->f s=some (.inr (.inl ()))):Tot (b6 f 0) (ft (λ_=>∀ y∈l,P y) Q):=by
 refine count (λs=>s) l.length (λs=>0<=s/\s<=l.length/\∀ (J:Nat) (y:β),(J:Int)<s->l[J]?=some y->P y) ⟨by omega,by omega,λJ y h=>by omega⟩ (by show (l.length:Int) - 0<_; omega) λs ba=>?_;obtain ⟨aO,h1,af⟩:=ba;by_cases aR:s<l.length
 ·have n1:s.toNat<l.length:=by omega
  have hi:idx l s=some l[s.toNat]:=by simp [idx,aO,n1]
  refine (aw s _ aO aR hi (List.getElem_mem n1)).use λx j=>?_;rcases x with cu | ⟨⟨⟩⟩ | r
  ·obtain ⟨rfl,ck⟩:=j
   grind
  ·grind
  grind
 ·rw [he s aR];refine ag λy ak=>?_;obtain ⟨J,aj,rfl⟩:=List.mem_iff_getElem.1 ak;exact af J _ (by omega) (List.getElem?_eq_getElem aj)
end Tot
end Go.Own
namespace Go.Own
open Go
variable {α β S R:Type}
def Par (x:Option α) (Φ:α->Prop):Prop:=∀ a,x=some a->Φ a
set_option linter.unusedVariables false
namespace Par
variable {Φ Ψ:α->Prop}
theorem ag {a:α}(h:Φ a):Par (some a) Φ:=λb e=>by cases e; exact h
theorem no:Par (none:Option α) Φ:=λb e=>by cases e
theorem use {x:Option α}(h:Par x Ψ) (hi:∀ a,Ψ a->Φ a):Par x Φ:=λa e=>hi a (h a e)
theorem au {x:Option β}{f:β->Option α}{Ξ:β->Prop}(h:Par x Ξ) (hk:∀ a,Ξ a->Par (f a) Φ):Par (x.bind f) Φ:=λa e=>by
 cases x with
 | none=>cases e
 | some b=>exact hk b (h b rfl) a e
theorem go {x:Option β}{f:β->Option α}(hk:∀ a,x=some a->Par (f a) Φ):Par (x.bind f) Φ:=λa e=>by
 cases x with
 | none=>cases e
 | some b=>exact hk b rfl a e
theorem bj {c:Bool}{a b:Option α}(al:c=true->Par a Φ) (aS:c=false->Par b Φ):Par (cond c a b) Φ:=by
 cases c
 ·exact aS rfl
 ·exact al rfl
theorem bb {p:Prop} [Decidable p] {a b:Option α}(al:p->Par a Φ) (aS:¬ p->Par b Φ):Par (cond (decide p) a b) Φ :=
 bj (λh=>al (of_decide_eq_true h)) (λh=>aS (of_decide_eq_false h))
theorem iz {p:Prop} [Decidable p] {a b:Option α}(al:¬ p->Par a Φ) (aS:p->Par b Φ):Par (cond (!decide p) a b) Φ :=
 bj (λh=>al (of_decide_eq_false (by simpa using h))) (λh=>aS (of_decide_eq_true (by simpa using h)))
theorem ap {l m:List β}{f:List β->Option α}(hk:l.length+m.length<=lim->Par (f (l++m)) Φ):Par ((dj l m).bind f) Φ:=by
 unfold dj;split
 ·rename_i h; exact hk h
 ·exact no
theorem cat {s u:ByteArray}{f:ByteArray->Option α}(hk:Par (f (s++u)) Φ):Par ((eS s u).bind f) Φ:=by
 unfold eS;split
 ·exact hk
 ·exact no
theorem loop {f:S->Option (S ⊕ R)}{eL:S}{Ψ:R->Prop}(Inv:S->Prop) (aO:Inv eL) (aw:∀ s,Inv s->Par (f s) (ft Inv Ψ)):Par (b6 f eL) Ψ:=by
 have key:∀ n s,Inv s->Par (iter f n s) Ψ:=by
  intro n
  induction n with
  | zero=>intro s _ a e; cases e
  | succ n aL =>
   intro s ba a e;simp only [iter] at e;cases j:f s with
   | none=>rw [j] at e; cases e
   | some x =>
    have ck:=aw s ba x j;rw [j] at e;cases x with
    | inl cu=>exact aL cu ck a e
    | inr r=>cases e; exact ck
 exact key fuel eL aO
theorem iY {x:Option α}(h:Tot x Φ) (aH:Par x Ψ):Tot x λa=>Φ a/\Ψ a:=by
 obtain ⟨a,aQ,nx⟩:=h;exact ⟨a,aQ,nx,aH a aQ⟩
theorem of {x:Option α}(h:Tot x Φ):Par x Φ:=λa e=>h.eq e
theorem scan {f:Int->Option (Int ⊕ (Unit ⊕ R))}(l:List β) (ai:l.length<=100000000000000000) (P:β->Prop) (Q:R->Prop)
  (aw:∀ (s:Int) (y:β),0<=s->s<l.length->idx l s=some y->y∈l->Par (f s) (ft (λcu=>cu=s+1/\P y) (ft (λ_=>False) Q)))
  (he:∀ s:Int,¬ s<l.length->f s=some (.inr (.inl ()))):Par (b6 f 0) (ft (λ_=>∀ y∈l,P y) Q):=by
 refine loop (λs=>0<=s/\s<=l.length/\∀ (J:Nat) (y:β),(J:Int)<s->l[J]?=some y->P y) ⟨by omega,by omega,λJ y h=>by omega⟩ λs ba=>?_;obtain ⟨aO,h1,af⟩:=ba;by_cases aR:s<l.length
 ·have n1:s.toNat<l.length:=by omega
  have hi:idx l s=some l[s.toNat]:=by simp [idx,aO,n1]
  refine (aw s _ aO aR hi (List.getElem_mem n1)).use λx j=>?_;rcases x with cu | ⟨⟨⟩⟩ | r
  ·obtain ⟨rfl,ck⟩:=j;refine ⟨by omega,by omega,λJ y aj ak=>?_⟩;by_cases yY:(J:Int)<s
   ·exact af J y yY ak
   ·have:J=s.toNat:=by omega
    subst this;rw [List.getElem?_eq_getElem n1] at ak;cases ak; exact ck
  ·exact j.elim
  ·exact j
 ·rw [he s aR];refine ag λy ak=>?_;obtain ⟨J,aj,rfl⟩:=List.mem_iff_getElem.1 ak;exact af J _ (by omega) (List.getElem?_eq_getElem aj)
end Par
end Go.Own
namespace Go.Own
open Go
variable {α β S R:Type}
namespace Tot
theorem upto {f:S->Option (S ⊕ R)}{eL:S}{Ψ:R->Prop}(i:S->Int) (n:Nat) (Inv:Nat->S->Prop) (hi:i eL=0) (aA:n<=100000000000000000) (aO:Inv 0 eL)
  (aw:∀ (k:Nat) (s:S),k<=n->i s=(k:Int)->Inv k s->Tot (f s) (ft (λcu=>k<n/\i cu=((k+1:Nat):Int)/\Inv (k+1) cu) Ψ)):Tot (b6 f eL) Ψ:=by
 refine count i n (λs=>∃ k:Nat,k<=n/\i s=(k:Int)/\Inv k s) ⟨0,Nat.zero_le _,hi,aO⟩ (by rw [hi]; omega) λs ⟨k,hk,he,ba⟩=>(aw k s hk he ba).use λx j=>?_;rcases x with cu | r
 ·obtain ⟨h1,af,aF⟩:=j;exact ⟨⟨k+1,by omega,af,aF⟩,by omega,by omega⟩
 ·exact j
end Tot
namespace Par
theorem upto {f:S->Option (S ⊕ R)}{eL:S}{Ψ:R->Prop}(i:S->Int) (n:Nat) (Inv:Nat->S->Prop) (hi:i eL=0) (aO:Inv 0 eL)
  (aw:∀ (k:Nat) (s:S),k<=n->i s=(k:Int)->Inv k s->Par (f s) (ft (λcu=>k<n/\i cu=((k+1:Nat):Int)/\Inv (k+1) cu) Ψ)):Par (b6 f eL) Ψ:=by
 refine loop (λs=>∃ k:Nat,k<=n/\i s=(k:Int)/\Inv k s) ⟨0,Nat.zero_le _,hi,aO⟩ λs ⟨k,hk,he,ba⟩=>(aw k s hk he ba).use λx j=>?_;rcases x with cu | r
 ·obtain ⟨h1,af,aF⟩:=j;exact ⟨k+1,by omega,af,aF⟩
 ·exact j
end Par
theorem ep (k:Nat) (h:k<=1000000000000000000):aE ((k:Int)+1)=((k+1:Nat):Int):=by rw [cq]; omega
end Go.Own
namespace Go.Own
open Go
variable {α β qH tt S T R Q:Type}
def Rel (x:Option α) (y:Option β) (Φ:α->β->Prop):Prop:=∃ a b,x=some a/\y=some b/\Φ a b
abbrev KX (p:S->T->Prop) (q:R->Q->Prop):S ⊕ R->T ⊕ Q->Prop
 | .inl a,.inl b=>p a b
 | .inr a,.inr b=>q a b
 | _,_=>False
namespace Rel
variable {Φ Ψ:α->β->Prop}
theorem ag {a:α}{b:β}(h:Φ a b):Rel (some a) (some b) Φ:=⟨a,b,rfl,rfl,h⟩
theorem use {x:Option α}{y:Option β}(h:Rel x y Ψ) (hi:∀ a b,Ψ a b->Φ a b):Rel x y Φ:=by
 obtain ⟨a,b,aQ,av,I1⟩:=h;exact ⟨a,b,aQ,av,hi a b I1⟩
theorem au {x:Option qH}{y:Option tt}{f:qH->Option α}{g:tt->Option β}{Ξ:qH->tt->Prop}(h:Rel x y Ξ) (hk:∀ a b,Ξ a b->Rel (f a) (g b) Φ):Rel (x.bind f) (y.bind g) Φ:=by
 obtain ⟨a,b,rfl,rfl,BR⟩:=h;exact hk a b BR
theorem l {x:Option qH}{y:Option β}{f:qH->Option α}{Ξ:qH->Prop}(h:Tot x Ξ) (hk:∀ a,Ξ a->Rel (f a) y Φ):Rel (x.bind f) y Φ:=by
 obtain ⟨a,rfl,BR⟩:=h;exact hk a BR
theorem r {x:Option α}{y:Option tt}{g:tt->Option β}{Ξ:tt->Prop}(h:Tot y Ξ) (hk:∀ a,Ξ a->Rel x (g a) Φ):Rel x (y.bind g) Φ:=by
 obtain ⟨a,rfl,BR⟩:=h;exact hk a BR
theorem bj {c d:Bool}{a b:Option α}{b0 dV:Option β}(aa:c=d) (al:c=true->Rel a b0 Φ) (aS:c=false->Rel b dV Φ):Rel (cond c a b) (cond d b0 dV) Φ:=by
 subst aa;cases c
 ·exact aS rfl
 ·exact al rfl
theorem cl {c:Bool}{a b:Option α}{y:Option β}(al:c=true->Rel a y Φ) (aS:c=false->Rel b y Φ):Rel (cond c a b) y Φ:=by
 cases c
 ·exact aS rfl
 ·exact al rfl
theorem iY {x:Option α}{y:Option β}{P:α->Prop}{Q:β->Prop}(h:Tot x P) (aH:Tot y Q) (hi:∀ a b,P a->Q b->Φ a b):Rel x y Φ:=by
 obtain ⟨a,aQ,ck⟩:=h;obtain ⟨b,av,dy⟩:=aH;exact ⟨a,b,aQ,av,hi a b ck dy⟩
theorem fst {x:Option α}{y:Option β}(h:Rel x y Φ):Tot x λa=>∃ b,y=some b/\Φ a b:=by
 obtain ⟨a,b,aQ,av,nx⟩:=h;exact ⟨a,aQ,b,av,nx⟩
theorem loop {f:S->Option (S ⊕ R)}{g:T->Option (T ⊕ Q)}{eL:S}{t0:T}{Ψ:R->Q->Prop}(Inv:S->T->Prop) (u0:S->Nat) (aO:Inv eL t0) (I2:u0 eL<fuel)
  (aw:∀ s t,Inv s t->Rel (f s) (g t) (KX (λcu t'=>Inv cu t'/\u0 cu<u0 s) Ψ)):Rel (b6 f eL) (b6 g t0) Ψ:=by
 have key:∀ n s t,Inv s t->u0 s<n->Rel (iter f n s) (iter g n t) Ψ:=by
  intro n
  induction n with
  | zero=>intro s t _ h; omega
  | succ n aL =>
   intro s t ba hm;obtain ⟨x,y,j,ak,ck⟩:=aw s t ba;rcases x with cu | r <;> rcases y with t' | q
   ·obtain ⟨h1,af⟩:=ck;simp only [iter,j,ak];exact aL cu t' h1 (by omega)
   ·exact ck.elim
   ·exact ck.elim
   ·simp only [iter,j,ak];exact ⟨r,q,rfl,rfl,ck⟩
 exact key fuel eL t0 aO I2
theorem upto {f:S->Option (S ⊕ R)}{g:T->Option (T ⊕ Q)}{eL:S}{t0:T}{Ψ:R->Q->Prop}(i:S->Int) (n:Nat) (Inv:Nat->S->T->Prop) (hi:i eL=0) (aA:n<=100000000000000000) (aO:Inv 0 eL t0)
  (aw:∀ (k:Nat) (s:S) (t:T),k<=n->i s=(k:Int)->Inv k s t->Rel (f s) (g t) (KX (λcu t'=>k<n/\i cu=((k+1:Nat):Int)/\Inv (k+1) cu t') Ψ)):Rel (b6 f eL) (b6 g t0) Ψ:=by
 refine loop (λs t=>∃ k:Nat,k<=n/\i s=(k:Int)/\Inv k s t) (λs=>(n - (i s).toNat)) ⟨0,Nat.zero_le _,hi,aO⟩ (by rw [hi]; show n - 0<1000000000000000000; omega) λs t ⟨k,hk,he,ba⟩=>(aw k s t hk he ba).use λx y EA=>?_;rcases x with cu | r <;> rcases y with t' | q
 ·obtain ⟨h1,af,aF⟩:=EA;refine ⟨⟨k+1,by omega,af,aF⟩,?_⟩;show n - (i cu).toNat<n - (i s).toNat;rw [af,he]; omega
 ·exact EA
 ·exact EA
 ·exact EA
end Rel
end Go.Own

namespace Go.Proofs
open Go Go.Own
set_option maxRecDepth 100000
set_option linter.unusedVariables false
theorem t114 (c:Int):Tot (Cn c) λ_=>True:=by
 unfold Cn
 repeat' first | apply Tot.bi | refine Tot.bj (λ_=>?_) (λ_=>?_) | exact Tot.ag trivial | apply Tot.ag
theorem t96 (c:Int):Tot (vV c) λ_=>True:=by
 unfold vV
 repeat' first | apply Tot.bi | refine Tot.bj (λ_=>?_) (λ_=>?_) | exact Tot.ag trivial | apply Tot.ag
theorem t123 (c:Int):Tot (zw c) λ_=>True:=by
 unfold zw
 repeat' first | apply Tot.bi | refine Tot.bj (λ_=>?_) (λ_=>?_) | exact Tot.ag trivial | apply Tot.ag
theorem t122 (x:Sym):Tot (uH x) λr=>r=true->x.Name=⟨#[]⟩/\x.Lit=false:=by
 unfold uH;apply Tot.bi;refine Tot.bb (λh=>Tot.bj (λaf=>?_) (λaf=>?_)) (λh=>?_) <;> apply Tot.ag <;> apply Tot.ag
 ·exact λ_=>⟨h,by simpa using af⟩
 ·exact λh=>by cases h
 ·exact λh=>by cases h
abbrev dn:Nat:=1000000000000
theorem t95 (s:ByteArray) (h:s.size<=dn):Tot (vU s 0) λn=>0<=n/\n<=s.size:=by
 unfold vU;refine Tot.au (Ξ:=λn=>0<=n/\n<=s.size) ?_ λa aQ=>.ag aQ;refine Tot.count (λi=>i) s.size (λi=>0<=i/\i<=s.size) ⟨by omega,by omega⟩ (by show (s.size:Int) - 0<_; simp only [dn] at h; omega) λi ⟨aO,h1⟩=>?_;simp only [dn] at h;have e:aE (0+i)=i:=by rw [cq]; omega
 rw [e];have go:∀ c:Bool,(c=true->i<s.size)->Tot (bif c then some (.inl (aE (i+1))) else some (.inr i)) (ft (λcu:Int=>(0<=cu/\cu<=s.size)/\i<cu/\cu<=s.size) (λr:Int=>0<=r/\r<=s.size)):=by
  intro c aa;refine Tot.bj (λaf=>.ag ?_) (λ_=>.ag ⟨aO,h1⟩);have:=aa af;have e:aE (i+1)=i+1:=by rw [cq]; omega
  show (0<=aE (i+1)/\aE (i+1)<=s.size)/\i<aE (i+1)/\aE (i+1)<=s.size;rw [e]; omega
 apply Tot.bi;refine Tot.bb (λaf=>?_) (λaf=>.ag (go false (by simp)));apply Tot.bi;refine Tot.kr ⟨aO,af⟩ (Tot.au (t114 _) λc _=>?_);refine Tot.bj (λ_=>.ag (go _ λ_=>af)) (λ_=>Tot.bj (λ_=>?_) (λ_=>.ag (go _ λ_=>af)));apply Tot.bi;refine Tot.kr ⟨aO,af⟩ (Tot.au (t96 _) λc _=>?_);refine Tot.bj (λ_=>.ag (go _ λ_=>af)) (λ_=>?_);apply Tot.bi;exact Tot.kr ⟨aO,af⟩ (.ag (go _ λ_=>af))
theorem t116 (s:ByteArray) (h:s.size<=dn):Tot (uG s) λr=>r=true->1<=s.size/\s.size<=20:=by
 unfold uG;apply Tot.bi;refine Tot.bb (λh1=>Tot.bb (λaf=>?_) (λaf=>?_)) (λh1=>?_)
 ·exact .au (t95 s h) λn aA=>.ag (.ag λ_=>by omega)
 ·exact .ag (.ag λh=>by cases h)
 ·exact .ag (.ag λh=>by cases h)
theorem t94 (s:ByteArray) (i:Int) (t:ByteArray) (h:s.size<=dn) (aO:0<=i) (h1:i<=4 * dn) (al:t.size<=dn):Tot (xF s i t) λr=>r=true->i+t.size<=s.size:=by
 unfold xF;simp only [dn] at *;apply Tot.bi;refine Tot.bb (λaf=>?_) (λaf=>.ag (.ag λh=>by cases h));apply Tot.bi;rw [cq] at af;have e:aE (i+t.size)=i+t.size:=by rw [cq]; omega
 refine Tot.cut (by rw [e]; omega) (.ag (.ag λ_=>by omega))
theorem t74 (s:ByteArray) (i:Int) (h:s.size<=dn) (aO:0<=i) (h1:i<s.size):Tot (zE s i) λr=>r<=s.size:=by
 unfold zE;have av:(s.size:Int)<=1000000000000:=by simp only [dn] at h; omega
 have b2:aE (i+1)=i+1:=by rw [cq]; omega
 have bZ:aE (i+2)=i+2:=by rw [cq]; omega
 rw [b2,bZ];have wV:=Tot.kr (Φ:=λ_=>True) (s:=s) (m:=i) ⟨aO,h1⟩ trivial;refine Tot.au (Ξ:=λ_=>True) ?_ λc _=>Tot.bj (λ_=>?_) (λ_=>?_)
 ·refine Tot.au wV λ_ _=>Tot.bj (λ_=>.ag trivial) (λ_=>Tot.au wV λ_ _=>.ag trivial)
 ·refine Tot.au (Ξ:=ft (λ_=>True) (λr=>r<=s.size)) ?_ λx j=>?_
  ·refine Tot.count (λJ=>J) (s.size+1) (λJ=>0<=J) (by show (0:Int)<=i+1; omega) (by show (s.size:Int)+1 - (i+1)<_; omega) λJ aj=>?_;refine Tot.au (Ξ:=λc=>c=true->J<s.size) ?_ λc aa=>Tot.bj (λaf=>?_) (λ_=>.ag trivial)
   ·refine Tot.bb (λaf=>?_) (λ_=>.ag λh=>by cases h);exact .au (Ξ:=λ_=>True) (Tot.kr ⟨aj,af⟩ trivial) λ_ _=>.ag λ_=>af
   ·have VH:=aa af;have HZ:=Tot.kr (Φ:=λ_=>True) (s:=s) (m:=J) ⟨aj,VH⟩ trivial;have e':aE (J+1)=J+1:=by rw [cq]; omega
    have mB:aE (J+1+1)=J+1+1:=by rw [cq]; omega
    rw [e',mB];refine .au HZ λ_ _=>.au wV λ_ _=>Tot.bj (λ_=>.ag ?_) (λ_=>.au HZ λ_ _=>Tot.bj (λ_=>?_) (λ_=>.ag ?_))
    ·show J+1<=s.size; omega
    ·refine Tot.au (Ξ:=λ_=>True) ?_ λc _=>Tot.bj (λ_=>.ag ?_) (λ_=>.ag ?_)
     ·refine Tot.bb (λaF=>?_) (λ_=>.ag trivial);exact .au (Ξ:=λ_=>True) (Tot.kr ⟨by omega,aF⟩ trivial) λ_ _=>.ag trivial
     ·show (-1:Int)<=s.size; omega
     ·show (0:Int)<=J+1+1/\J<J+1+1/\J+1+1<=s.size+1; omega
    ·show (0:Int)<=J+1/\J<J+1/\J+1<=s.size+1; omega
  ·rcases x with _ | r
   ·exact .ag (by show (-1:Int)<=s.size; omega)
   ·exact .ag j
 ·refine .au wV λ_ _=>Tot.bj (λ_=>?_) (λ_=>?_)
  ·refine Tot.au (Ξ:=ft (λ_=>True) (λr=>r<=s.size)) ?_ λx j=>?_
   ·refine Tot.count (λJ=>J) (s.size+1) (λJ=>0<=J) (by show (0:Int)<=i+1; omega) (by show (s.size:Int)+1 - (i+1)<_; omega) λJ aj=>?_;refine Tot.bb (λaf=>?_) (λ_=>.ag trivial);have e':aE (J+1)=J+1:=by rw [cq]; omega
    rw [e'];refine .au (Ξ:=λ_=>True) (Tot.kr ⟨aj,af⟩ trivial) λ_ _=>Tot.bj (λ_=>.ag ?_) (λ_=>.ag ?_)
    ·show J+1<=s.size; omega
    ·show (0:Int)<=J+1/\J<J+1/\J+1<=s.size+1; omega
   ·rcases x with _ | r
    ·exact .ag (by show (-1:Int)<=s.size; omega)
    ·exact .ag j
  ·refine .au (t94 s i _ h aO (by simp only [dn]; omega) (by decide)) λc _=>Tot.bj (λ_=>?_) (λ_=>?_)
   ·refine Tot.au (Ξ:=λr=>r<=s.size) ?_ λx j=>.ag j;refine Tot.count (λJ=>J) s.size (λJ=>0<=J/\J<=s.size) ⟨aO,by omega⟩ (by show (s.size:Int) - i<_; omega) λJ aj=>?_;refine Tot.au (Ξ:=λc=>c=true->J<s.size) ?_ λc aa=>Tot.bj (λaf=>?_) (λ_=>.ag aj.2)
    ·refine Tot.bb (λaf=>?_) (λ_=>.ag λh=>by cases h);exact .au (Ξ:=λ_=>True) (Tot.kr ⟨aj.1,af⟩ trivial) λ_ _=>.ag λ_=>af
    ·have:=aa af;have e':aE (J+1)=J+1:=by rw [cq]; omega
     rw [e'];exact .ag (by show ((0:Int)<=J+1/\J+1<=s.size)/\J<J+1/\J+1<=s.size; omega)
   ·refine .au (t94 s i _ h aO (by simp only [dn]; omega) (by decide)) λc aa=>Tot.bj (λpq=>?_) (λ_=>.ag (by omega));refine Tot.au (Ξ:=ft (λ_=>True) (λr=>r<=s.size)) ?_ λx j=>?_
    ·refine Tot.count (λJ=>J) (s.size+1) (λJ=>0<=J) (by show (0:Int)<=i+2; omega) (by show (s.size:Int)+1 - (i+2)<_; omega) λJ aj=>?_;refine Tot.bb (λaf=>?_) (λ_=>.ag trivial);have e':aE (J+1)=J+1:=by rw [cq]; omega
     have mB:aE (J+2)=J+2:=by rw [cq]; omega
     rw [e',mB];refine .au (t94 s J _ h aj (by simp only [dn]; omega) (by decide)) λc aa=>Tot.bj (λBe=>.ag ?_) (λ_=>.ag ?_)
     ·have:=aa Be;have mC:(⟨#[42,47]⟩:ByteArray).size=2:=rfl;rw [mC] at this;show J+2<=s.size; omega
     ·show (0:Int)<=J+1/\J<J+1/\J+1<=s.size+1; omega
    ·rcases x with _ | r
     ·exact .ag (by show (-1:Int)<=s.size; omega)
     ·exact .ag j
theorem t73 (s:ByteArray) (h:s.size<=dn):Tot (xD s 0) λ_=>True:=by
 unfold xD;have av:(s.size:Int)<=1000000000000:=by simp only [dn] at h; omega
 refine Tot.au (Ξ:=λ_=>True) ?_ λc _=>Tot.bj (λ_=>.ag trivial) (λ_=>?_)
 ·refine Tot.bb (λh=>.ag trivial) (λaO=>Tot.bb (λh=>.ag trivial) (λaf=>?_));exact .au (Ξ:=λ_=>True) (Tot.kr (by omega) trivial) λ_ _=>.ag trivial
 ·refine Tot.au (Ξ:=λ_=>True) ?_ λx _=>by rcases x with _ | r <;> exact .ag trivial
  refine Tot.count (λJ=>J.2) s.size (λJ=>0<=J.2/\J.2<=s.size) ⟨by show (0:Int)<=0; omega,by show (0:Int)<=s.size; omega⟩ (by show (s.size:Int) - 0<_; omega) λJ aj=>?_;refine Tot.bb (λaf=>?_) (λ_=>.ag trivial);refine .au (t74 s J.2 h aj.1 af) λn aA=>Tot.bb (λ_=>.ag trivial) (λaF=>Tot.bb (λbu=>.ag ?_) (λbu=>?_))
  ·show ((0:Int)<=n/\n<=s.size)/\J.2<n/\n<=s.size; omega
  ·have wV:=Tot.kr (Φ:=λ_=>True) (s:=s) (m:=J.2) ⟨aj.1,af⟩ trivial;have e':aE (J.2+1)=J.2+1:=by rw [cq]; omega
   rw [e'];refine .au wV λ_ _=>.au (Ξ:=λ_=>True) (Tot.bj (λ_=>.ag trivial) (λ_=>.ag trivial)) λ_ _=>.au wV λ_ _=>.au (Ξ:=λ_=>True) (Tot.bj (λ_=>.ag trivial) (λ_=>.ag trivial)) λ_ _=>Tot.bj (λ_=>.ag trivial) (λ_=>.ag ?_);show ((0:Int)<=J.2+1/\J.2+1<=s.size)/\J.2<J.2+1/\J.2+1<=s.size; omega
def lH (x:Sym):Prop:=x.Lit=true->x.Name.size=1
structure KL (d:Decl):Prop where
 tag:d.Tag.size<=1000
 n:d.ev.length<=1000
 syms:∀ x∈d.ev,x.Name.size<=dn
structure we (a:Alt):Prop where
 n:a.Parts.length<=1000
 parts:∀ p∈a.Parts,p.Sym.Name.size<=dn/\p.Code.size<=1000
 prec:a.Prec.Name.size<=dn
structure Q2 (r:hU):Prop where
 left:r.Left.size<=dn
 n:r.hg.length<=1000
 alts:∀ a∈r.hg,we a
structure pb (s:Source):Prop where
 xG:s.b9.size<=dn
 yL:s.Decls.length<=1000
 decls:∀ d∈s.Decls,KL d
 aN:s.fu.length<=1000
 rules:∀ r∈s.fu,Q2 r
theorem t121 (x:Sym) (a b:Bool) (h:x.Name.size<=dn):Tot (r' x a b) λr=>r=true->lH x:=by
 unfold r';refine Tot.bj (λai=>?_) (λai=>?_)
 ·refine Tot.au (Ξ:=λc=>c=false->x.Name.size=1) ?_ λc aa=>Tot.bj (λ_=>.ag λh=>by cases h) (λaf=>?_)
  ·refine Tot.bj (λ_=>.ag λh=>by cases h) (λ_=>Tot.iz (λ_=>.ag λh=>by cases h) (λh1=>.ag λ_=>by omega))
  ·have h1:=aa af;refine .au (Ξ:=λ_=>True) (Tot.kr (by omega) trivial) λ_ _=>.au (t123 _) λ_ _=>.ag λ_ _=>h1
 ·have cY:lH x:=λh=>by rw [ai] at h; cases h
  refine Tot.au (Ξ:=λ_=>True) ?_ λc aa=>.ag λ_=>cY;refine .au (t116 _ h) λc _=>?_
  repeat' first | refine Tot.bj (λ_=>?_) (λ_=>?_) | exact Tot.ag trivial
theorem t115 (d:Decl) (h:KL d):Tot (r_ d) λr=>r=true->∀ x∈d.ev,lH x:=by
 unfold r_;refine Tot.au (Ξ:=λ_=>True) ?_ λc _=>Tot.bj (λ_=>.ag λh=>by cases h) (λ_=>?_)
 ·have al:=(t116 _ (Nat.le_trans h.tag (by decide))).use (Φ:=λ_=>True) λ_ _=>trivial
  repeat' first | refine Tot.bj (λ_=>?_) (λ_=>?_) | exact Tot.ag trivial | refine .au al λ_ _=>?_
 ·refine Tot.au (Tot.scan d.ev (λx=>lH x) (λr=>r=false) (by have:=h.n; omega) (λs y aO h1 hi hm=>?_) (λs aw=>by simp [aw])) λx j=>?_
  ·refine Tot.bb (λ_=>?_) (λh=>absurd h1 h);rw [hi];refine Tot.sm ?_;refine .au (t121 _ _ _ (h.syms _ hm)) λc aa=>Tot.bj (λ_=>.ag rfl) (λaf=>.ag ⟨?_,aa (by simpa using af)⟩);have:=h.n;rw [cq]; omega
  ·rcases x with _ | r
   ·exact .ag λ_=>j
   ·exact .ag λh=>by have:r=false:=j; rw [this] at h; cases h
theorem t117 (a:Alt) (h:we a):Tot (qw a) λr=>r=true->(∀ p∈a.Parts,lH p.Sym)/\lH a.Prec:=by
 unfold qw;refine Tot.au (Tot.scan a.Parts (λp=>lH p.Sym) (λr=>r=false) (by have:=h.n; omega) (λs y aO h1 hi hm=>?_) (λs aw=>by simp [aw])) λx j=>?_
 ·refine Tot.bb (λ_=>?_) (λh=>absurd h1 h);rw [hi];refine Tot.sm ?_;have ar:=h.parts _ hm;have t1:=t121 y.Sym false true ar.1;have t2:=t122 y.Sym;have PY:=t73 y.Code (Nat.le_trans ar.2 (by decide));have hw:aE (s+1)=s+1:=by have:=h.n; rw [cq]; omega
  rw [hw];have n118:(y.Sym.Name=⟨#[]⟩/\y.Sym.Lit=false)->lH y.Sym:=λh ai=>by rw [h.2] at ai; cases ai
  refine Tot.au (Ξ:=λc=>c=false->lH y.Sym) ?_ λc aa=>Tot.bj (λ_=>.ag rfl) (λaf=>.ag ⟨rfl,aa af⟩);refine Tot.bb (λ_=>?_) (λcy=>?_)
  ·refine .au t1 λc aa=>Tot.bj (λ_=>.ag λh=>by cases h) (λaf=>?_);have cY:=aa (by simpa using af);refine Tot.bj (λ_=>?_) (λ_=>.ag λ_=>cY);refine .au t2 λc _=>Tot.bj (λ_=>.ag λ_=>cY) (λ_=>?_);exact .au PY λ_ _=>.ag λ_=>cY
  ·refine Tot.iz (λ_=>?_) (λh=>.ag λ_=>?_)
   ·refine .au t2 λc aa=>Tot.bj (λ_=>.ag λh=>by cases h) (λaf=>?_);have cY:=n118 (aa (by simpa using af));exact .au PY λ_ _=>.ag λ_=>cY
   ·exact absurd h cy
 ·rcases x with _ | r
  ·have j:∀ p∈a.Parts,lH p.Sym:=j;refine Tot.au (Ξ:=λc=>c=true->lH a.Prec) ?_ λc aa=>.ag λh=>⟨j,aa h⟩;refine .au (t122 _) λc aa=>Tot.bj (λaf=>.ag λ_=>?_) (λ_=>.au (t121 _ _ _ h.prec) λc aa=>.ag aa);intro ai; rw [(aa af).2] at ai; cases ai
  ·exact .ag λh=>by have:r=false:=j; rw [this] at h; cases h
structure Dd (a:Alt):Prop where
 parts:∀ p∈a.Parts,lH p.Sym
 prec:lH a.Prec
structure K5 (s:Source):Prop where
 decls:∀ d∈s.Decls,∀ x∈d.ev,lH x
 rules:∀ r∈s.fu,∀ a∈r.hg,Dd a
 pos:0<s.fu.length
theorem t99 (s:Source) (h:pb s):Tot (uM s) λr=>r=true->K5 s:=by
 unfold uM;refine Tot.au (Ξ:=ft (λ_=>True) (λr=>r=false)) ?_ λx j=>?_
 ·have ar:(s.b9.size:Int)<=1000000000000:=by have:=h.xG; simp only [dn] at this; omega
  refine Tot.count (λJ=>J) s.b9.size (λJ=>0<=J/\J<=s.b9.size) ⟨by omega,by omega⟩ (by show (s.b9.size:Int) - 0<_; omega) λJ aj=>?_;have b2:aE (J+1)=J+1:=by rw [cq]; omega
  have bZ:aE (J+2)=J+2:=by rw [cq]; omega
  rw [b2,bZ];refine Tot.bb (λaf=>?_) (λ_=>.ag trivial);refine .au (Ξ:=λ_=>True) (Tot.cut (by omega) trivial) λ_ _=>Tot.bj (λ_=>.ag rfl) (λ_=>.ag ?_);show ((0:Int)<=J+1/\J+1<=s.b9.size)/\J<J+1/\J+1<=s.b9.size; omega
 ·rcases x with _ | r
  ·refine Tot.au (Tot.scan s.Decls (λd=>∀ x∈d.ev,lH x) (λr=>r=false) (by have:=h.yL; omega) (λi y aO h1 hi hm=>?_) (λs aw=>by simp [aw])) λx j=>?_
   ·refine Tot.bb (λ_=>?_) (λh=>absurd h1 h);rw [hi];refine Tot.sm ?_;refine .au (t115 _ (h.decls _ hm)) λc aa=>Tot.bj (λ_=>.ag rfl) (λaf=>.ag ⟨?_,aa (by simpa using af)⟩);have:=h.yL;rw [cq]; omega
   ·rcases x with _ | r
    ·have j:∀ d∈s.Decls,∀ x∈d.ev,lH x:=j;refine Tot.au (Tot.scan s.fu (λr=>∀ a∈r.hg,Dd a) (λr=>r=false) (by have:=h.aN; omega) (λi y aO h1 hi hm=>?_) (λs aw=>by simp [aw])) λx kA=>?_
     ·refine Tot.bb (λ_=>?_) (λh=>absurd h1 h);rw [hi];refine Tot.sm ?_;have ah:=h.rules _ hm;have hw:aE (i+1)=i+1:=by have:=h.aN; rw [cq]; omega
      rw [hw];refine .au (Ξ:=λ_=>True) (.au (t116 _ ah.left) λc _=>Tot.bj (λ_=>.ag trivial) (λ_=>.ag trivial)) λc _=>Tot.bj (λ_=>.ag rfl) (λ_=>?_);refine Tot.au (Tot.scan y.hg Dd (λr=>r=false) (by have:=ah.n; omega) (λk a aO h1 hi hm=>?_) (λs aw=>by simp [aw])) λx kh=>?_
      ·refine Tot.bb (λ_=>?_) (λh=>absurd h1 h);rw [hi];refine Tot.sm ?_;refine .au (t117 _ (ah.alts _ hm)) λc aa=>Tot.bj (λ_=>.ag rfl) (λaf=>.ag ⟨?_,⟨(aa (by simpa using af)).1,(aa (by simpa using af)).2⟩⟩);have:=ah.n;rw [cq]; omega
      ·rcases x with _ | r
       ·exact .ag ⟨rfl,kh⟩
       ·exact .ag kh
     ·rcases x with _ | r
      ·exact .ag λh=>⟨j,kA,by have:=of_decide_eq_true h; omega⟩
      ·exact .ag λh=>by have:r=false:=kA; rw [this] at h; cases h
    ·exact .ag λh=>by have:r=false:=j; rw [this] at h; cases h
  ·exact .ag λh=>by have:r=false:=j; rw [this] at h; cases h
abbrev c3:=dc
structure qQ (m bd:c3):Prop where
 g:bd.aD=m.aD
 gi:bd.b_=m.b_
 ty:bd.cp=m.cp
 dT:bd.bX=m.bX
 jK:bd.b'=m.b'
 fN:bd.bQ=m.bQ
theorem t101 (m:c3) (a:Int) (n:ByteArray):Tot (nD m a n) λbd=>qQ m bd/\bd.cI≠0:=by
 unfold nD;apply Tot.bi;refine Tot.bb (λ_=>.ag (.ag ⟨⟨rfl,rfl,rfl,rfl,rfl,rfl⟩,?_⟩)) (λh=>.ag (.ag ⟨⟨rfl,rfl,rfl,rfl,rfl,rfl⟩,h⟩))
 grind
theorem t105 (m:c3) (n:ByteArray) (h:m.cp.length<=dn):Tot (vR m n) λr=>r=-1\/(0<=r/\r<m.cp.length):=by
 unfold vR;simp only [dn] at h;refine Tot.au (Tot.scan m.cp (λ_=>True) (λr:Int=>0<=r/\r<m.cp.length) (by omega) (λs y aO h1 hi hm=>?_) (λs aw=>by simp [aw])) λx j=>?_
 ·refine Tot.bb (λ_=>?_) (λh=>absurd h1 h);rw [hi];refine Tot.sm ?_;refine Tot.bj (λ_=>.ag ⟨aO,h1⟩) (λ_=>.ag ⟨?_,trivial⟩)
  grind [cq]
 ·rcases x with _ | r
  ·exact .ag (.inl rfl)
  ·exact .ag (.inr j)
theorem t103 (m:c3) (n:ByteArray) (h:m.bX.length<=dn):Tot (pL m n) λr=>(r=-1/\∀ x∈m.bX,x≠n)\/(0<=r/\r<m.bX.length/\m.bX[r.toNat]?=some n):=by
 unfold pL;simp only [dn] at h;refine Tot.au (Tot.scan m.bX (λx=>x≠n) (λr:Int=>0<=r/\r<m.bX.length/\m.bX[r.toNat]?=some n) (by omega) (λs y aO h1 hi hm=>?_) (λs aw=>by simp [aw])) λx j=>?_
 ·refine Tot.bb (λ_=>?_) (λh=>absurd h1 h);rw [hi];refine Tot.sm ?_;refine Tot.bb (λe=>.ag ⟨aO,h1,by rw [<- e]; exact (r1 hi).2.2⟩) (λe=>.ag ⟨?_,e⟩)
  grind [cq]
 ·rcases x with _ | r
  ·exact .ag (.inl ⟨rfl,j⟩)
  ·exact .ag (.inr j)
theorem t102 (m:c3) (x:Sym) (h:m.aD.aX.length<=dn):Tot (qv m x) λr=>r=-1\/(1<=r/\r<m.aD.aX.length):=by
 unfold qv;simp only [dn] at h;refine Tot.au (Ξ:=ft (λ_=>True) (λr=>1<=r/\r<m.aD.aX.length)) ?_ λx j=>?_
 ·refine Tot.count (λJ=>J) m.aD.aX.length (λJ=>1<=J) (by omega) (by show (m.aD.aX.length:Int) - 1<_; omega) λJ aj=>?_;refine Tot.bb (λaf=>?_) (λ_=>.ag trivial);have e:aE (J+1)=J+1:=by rw [cq]; omega
  rw [e];refine .au (Ξ:=λ_=>True) ?_ λc _=>Tot.bj (λ_=>.ag ⟨aj,af⟩) (λ_=>.ag ?_)
  ·refine .au (Ξ:=λ_=>True) (Tot.hI (by omega) af λ_ _ _=>trivial) λ_ _=>Tot.bj (λ_=>?_) (λ_=>.ag trivial);exact .au (Ξ:=λ_=>True) (Tot.hI (by omega) af λ_ _ _=>trivial) λ_ _=>Tot.bj (λ_=>.ag trivial) (λ_=>.ag trivial)
  grind
 ·rcases x with _ | r
  ·exact .ag (.inl rfl)
  ·exact .ag (.inr j)
theorem t119 (m:c3) (n:Int) (h:m.aD.aX.length<=dn):Tot (s' m n) λ_=>True:=by
 unfold s';simp only [dn] at h;refine Tot.au (Ξ:=λ_=>True) ?_ λx j=>?_
 ·refine Tot.count (λJ=>J) m.aD.aX.length (λJ=>1<=J) (by decide) (by show (m.aD.aX.length:Int) - 3<_; omega) λJ aj=>?_;refine Tot.bb (λaf=>?_) (λ_=>.ag trivial);have e:aE (J+1)=J+1:=by rw [cq]; omega
  rw [e];refine .au (Ξ:=λ_=>True) (Tot.hI (by omega) af λ_ _ _=>trivial) λc _=>Tot.bj (λ_=>.ag trivial) (λ_=>.ag ?_)
  grind
 ·rcases x with _ | r <;> exact .ag trivial
structure Grow (m bd:c3) (k:Nat):Prop where
 gi:bd.b_.length=bd.aD.aX.length
 lo:m.aD.aX.length<=bd.aD.aX.length
 hi:bd.aD.aX.length<=m.aD.aX.length+k
 ty:bd.cp.length<=m.cp.length+k
 dT:bd.bX=m.bX
 fl:bd.aD.a1=m.aD.a1
 fN:bd.bQ=m.bQ
 lvl:bd.b'=m.b'
 jK:0<=m.b'->(∀ t∈m.aD.aX,0<=t.Level)->∀ t∈bd.aD.aX,0<=t.Level
theorem qQ.grow {m bd:c3}(h:qQ m bd) (aK:m.b_.length=m.aD.aX.length) (k:Nat):Grow m bd k:=by
 obtain ⟨h1,af,aF,bu,ct,dJ⟩:=h;exact ⟨by rw [h1,af]; exact aK,by rw [h1]; omega,by rw [h1]; omega,by rw [aF]; omega,bu,by rw [h1],dJ,ct,by rw [h1]; exact λ_ h=>h⟩
theorem t118 (m:c3) (x:Sym) (aK:m.b_.length=m.aD.aX.length) (h:m.aD.aX.length<=100000000000) (j:lH x) :
  Tot (q8 m x) λr=>Grow m r.2 1/\0<=r.1/\r.1<r.2.aD.aX.length:=by
 unfold q8;refine .au (t102 m x (by simp only [dn]; omega)) λt al=>Tot.bb (λaO=>.ag ⟨⟨aK,Nat.le_refl _,Nat.le_succ _,Nat.le_succ _,rfl,rfl,rfl,rfl,λ_ h=>h⟩,aO,?_⟩) (λ_=>?_)
 ·grind
 ·refine Tot.au (Ξ:=λJ=>qQ m J.1) ?_ λJ aj=>?_
  ·refine Tot.bj (λai=>?_) (λ_=>.ag ⟨rfl,rfl,rfl,rfl,rfl,rfl⟩);have:=j ai;refine .au (Ξ:=λ_=>True) (Tot.kr (by omega) trivial) λb _=>.au (t119 m _ (by simp only [dn]; omega)) λo _=>?_;refine Tot.au (Ξ:=λJ=>qQ m J) ?_ λJ aj=>.ag aj;exact Tot.bj (λ_=>.au (t101 m _ _) λbd hm=>.ag hm.1) (λ_=>.ag ⟨rfl,rfl,rfl,rfl,rfl,rfl⟩)
  ·obtain ⟨h1,af,aF,bu,ct,dJ⟩:=aj;have aR:J.1.aD.aX.length=m.aD.aX.length:=by rw [h1]
   have VS:J.1.b_.length=m.b_.length:=by rw [af]
   refine .au (Ξ:=λ_=>True) (Tot.ap (by rw [aR]; simp [lim]; omega) trivial) λ_ _=>.au (Ξ:=λ_=>True) (Tot.ap (by rw [VS]; simp [lim]; omega) trivial) λ_ _=>.ag ?_;refine ⟨⟨?_,?_,?_,?_,bu,by show J.1.aD.a1=_; rw [h1],dJ,ct,?_⟩,?_,?_⟩
   all_goals grind [cq]
structure nP (m bd:c3):Prop where
 tk:bd.aD.aX.length=m.aD.aX.length
 gi:bd.b_.length=m.b_.length
 ty:bd.cp=m.cp
 dT:bd.bX=m.bX
 fl:bd.aD.a1=m.aD.a1
 fN:bd.bQ=m.bQ
 lvl:bd.b'=m.b'
 jK:0<=m.b'->(∀ t∈m.aD.aX,0<=t.Level)->∀ t∈bd.aD.aX,0<=t.Level
theorem nP.refl (m:c3):nP m m:=⟨rfl,rfl,rfl,rfl,rfl,rfl,rfl,λ_ h=>h⟩
theorem nP.trans {m bd B9:c3}(h:nP m bd) (aH:nP bd B9):nP m B9:=⟨aH.tk.trans h.tk,aH.gi.trans h.gi,aH.ty.trans h.ty,aH.dT.trans h.dT,aH.fl.trans h.fl,aH.fN.trans h.fN,aH.lvl.trans h.lvl,λaO ai=>aH.jK (by rw [h.lvl]; exact aO) (h.jK aO ai)⟩
theorem qQ.tk {m bd:c3}(h:qQ m bd):nP m bd:=⟨by rw [h.g],by rw [h.gi],h.ty,h.dT,by rw [h.g],h.fN,h.jK,by rw [h.g]; exact λ_ h=>h⟩
theorem Grow.tk {m bd B9:c3}{k:Nat}(h:Grow m bd k) (aH:nP bd B9):Grow m B9 k :=
 ⟨by rw [aH.gi,aH.tk]; exact h.gi,by rw [aH.tk]; exact h.lo,by rw [aH.tk]; exact h.hi,by rw [aH.ty]; exact h.ty,aH.dT.trans h.dT,aH.fl.trans h.fl,aH.fN.trans h.fN,aH.lvl.trans h.lvl,λaO ai=>aH.jK (by rw [h.lvl]; exact aO) (h.jK aO ai)⟩
theorem XN {α:Type}{l:List α}{i:Nat}{x y:α}(h:y∈l.set i x):y∈l\/y=x:=List.mem_or_eq_of_mem_set h
theorem t100 (m:c3) (d:Decl) (x:Sym) (aK:m.b_.length=m.aD.aX.length) (h:m.aD.aX.length<=100000000000) (al:m.cp.length<=100000000000) (j:lH x) :
  Tot (pK m d x) λbd=>Grow m bd 1:=by
 unfold pK;refine Tot.bj (λ_=>?_) (λ_=>?_)
 ·refine .au (t105 m x.Name (by simp only [dn]; omega)) λk hk=>Tot.au (Ξ:=λbd=>Grow m bd 1) ?_ λbd hm=>.ag hm;refine Tot.bb (λ_=>?_) (λaO=>?_)
  ·refine .au (Ξ:=λ_=>True) (Tot.ap (by simp [lim]; omega) trivial) λ_ _=>.ag ⟨aK,Nat.le_refl _,Nat.le_succ _,?_,rfl,rfl,rfl,rfl,λ_ h=>h⟩
   grind
  ·refine .au (Ξ:=λ_=>True) (Tot.hI (by omega) (by omega) λ_ _ _=>trivial) λ_ _=>Tot.au (Ξ:=λbd=>Grow m bd 1) ?_ λbd hm=>.ag hm;exact Tot.bj (λ_=>.au (t101 m _ _) λbd hm=>.ag (hm.1.grow aK 1)) (λ_=>.ag ⟨aK,Nat.le_refl _,Nat.le_succ _,Nat.le_succ _,rfl,rfl,rfl,rfl,λ_ h=>h⟩)
 ·refine .au (t118 m x aK h j) λr ⟨ah,aO,h1⟩=>?_;have hI:∀ {bd:c3},nP r.2 bd->Tot (idx bd.aD.aX r.1) λy=>y∈bd.aD.aX:=λhm=>Tot.hI aO (by rw [hm.tk]; exact h1) λ_ _ h=>h;have NU:∀ {bd:c3},nP r.2 bd->Tot (idx bd.b_ r.1) λ_=>True:=λhm=>Tot.hI aO (by rw [hm.gi,ah.gi]; exact h1) λ_ _ _=>trivial;refine .au (hI (.refl _)) λy _=>?_;refine Tot.au (Ξ:=λbd=>nP r.2 bd) ?_ λeG jf=>?_
  ·refine Tot.bj (λ_=>?_) (λ_=>.ag (.refl _));refine Tot.au (Ξ:=λbd=>nP r.2 bd) ?_ λcZ p'=>?_
   ·exact Tot.bj (λ_=>.au (t101 r.2 _ _) λbd hm=>.ag ⟨rfl,hm.1.tk.gi,hm.1.tk.ty,hm.1.tk.dT,hm.1.tk.fl,hm.1.tk.fN,hm.1.tk.lvl,λ_ h=>h⟩) (λ_=>.ag (.refl _))
   ·refine .au (hI p') λ_ _=>.ag (p'.trans ⟨?_,rfl,rfl,rfl,rfl,rfl,rfl,λai al t bD=>?_⟩)
    ·grind
    grind
  ·refine .au (hI jf) λ_ _=>?_;refine Tot.au (Ξ:=λbd=>nP r.2 bd) ?_ λeT qa=>?_
   ·refine Tot.bj (λ_=>?_) (λ_=>.ag jf);refine .au (Ξ:=λ_=>True) ?_ λc _=>?_
    ·refine Tot.bj (λ_=>.ag trivial) (λ_=>.au (NU jf) λ_ _=>Tot.bj (λ_=>.ag trivial) (λ_=>.au (t119 eG _ ?_) λ_ _=>.ag trivial));have:=jf.tk;have:=ah.hi
     grind
    ·refine Tot.au (Ξ:=λbd=>nP r.2 bd) ?_ λdL oF=>?_
     ·exact Tot.bj (λ_=>.au (t101 eG _ _) λbd hm=>.ag (jf.trans ⟨rfl,hm.1.tk.gi,hm.1.tk.ty,hm.1.tk.dT,hm.1.tk.fl,hm.1.tk.fN,hm.1.tk.lvl,λ_ h=>h⟩)) (λ_=>.ag jf)
     ·refine .au (hI oF) λy ak=>.au (NU oF) λ_ _=>.ag (oF.trans ⟨?_,?_,rfl,rfl,rfl,rfl,rfl,λai al t bD=>?_⟩)
      all_goals grind
   ·refine .au (hI qa) λ_ _=>?_;refine Tot.au (Ξ:=λbd=>nP r.2 bd) ?_ λpB D0=>.ag (ah.tk D0);refine Tot.bj (λ_=>?_) (λ_=>.ag qa);refine .au (Ξ:=λ_=>True) (Tot.bj (λ_=>.ag trivial) (λ_=>.ag trivial)) λc _=>?_;refine Tot.au (Ξ:=λbd=>nP r.2 bd) ?_ λml sJ=>?_
    ·exact Tot.bj (λ_=>.au (t101 eT _ _) λbd hm=>.ag (qa.trans ⟨rfl,hm.1.tk.gi,hm.1.tk.ty,hm.1.tk.dT,hm.1.tk.fl,hm.1.tk.fN,hm.1.tk.lvl,λ_ h=>h⟩)) (λ_=>.ag qa)
    ·refine .au (hI sJ) λy ak=>.ag (sJ.trans ⟨?_,rfl,rfl,rfl,rfl,rfl,rfl,λai al t bD=>?_⟩)
     ·grind
     grind
def nO (T:Nat) (N:Int) (s:Int):Prop:=(0<=s/\s<T)\/(1000<=s/\s<=1000+N)
theorem nO.mono {T T':Nat}{N iK s:Int}(h:nO T N s) (cX:T<=T') (a7:N<=iK):nO T' iK s:=by
 rcases h with h | h
 ·exact .inl (by omega)
 ·exact .inr (by omega)
theorem t120 (m:c3) (x:Sym) (aK:m.b_.length=m.aD.aX.length) (aF:3<=m.aD.aX.length) (h:m.aD.aX.length<=100000000000) (ai:m.bX.length<=100000000000) (j:lH x) :
  Tot (pM m x) λr=>Grow m r.2 1/\nO r.2.aD.aX.length m.bX.length r.1:=by
 unfold pM;have nZ:Grow m m 1:=⟨aK,Nat.le_refl _,Nat.le_succ _,Nat.le_succ _,rfl,rfl,rfl,rfl,λ_ h=>h⟩;refine Tot.bj (λ_=>?_) (λ_=>?_)
 ·exact .au (t118 m x aK h j) λr ⟨ah,aO,h1⟩=>.ag ⟨ah,.inl ⟨aO,h1⟩⟩
 ·refine .au (t103 m x.Name (by simp only [dn]; omega)) λk hk=>Tot.bb (λaO=>.ag ⟨nZ,.inr ?_⟩) (λ_=>?_)
  ·grind [cq]
  ·refine .au (t102 m x (by simp only [dn]; omega)) λt al=>Tot.bb (λ_=>?_) (λaO=>.ag ⟨nZ,.inl ?_⟩)
   ·refine .au (t101 m _ _) λbd hm=>.ag ⟨hm.1.grow aK 1,.inl ⟨Int.le_refl 0,?_⟩⟩;show (0:Int)<(bd.aD.aX.length:Int);rw [hm.1.g];omega
   grind
theorem ZQ (m:c3) (x:Sym) (aK:m.b_.length=m.aD.aX.length) (aF:3<=m.aD.aX.length) (h:m.aD.aX.length<=100000000000) (ai:m.bX.length<=100000000000) (j:lH x) (al:x.Lit=true\/∀ y∈m.bX,y≠x.Name) :
  Tot (pM m x) λr=>Grow m r.2 1/\0<=r.1/\r.1<r.2.aD.aX.length:=by
 unfold pM;have nZ:Grow m m 1:=⟨aK,Nat.le_refl _,Nat.le_succ _,Nat.le_succ _,rfl,rfl,rfl,rfl,λ_ h=>h⟩;refine Tot.bj (λ_=>?_) (λn0=>?_)
 ·exact .au (t118 m x aK h j) λr ⟨ah,aO,h1⟩=>.ag ⟨ah,aO,h1⟩
 ·have al:∀ y∈m.bX,y≠x.Name:=al.resolve_left (by rw [n0]; decide);refine .au (t103 m x.Name (by simp only [dn]; omega)) λk hk=>Tot.bb (λaO=>?_) (λ_=>?_)
  ·rcases hk with ⟨rfl,_⟩ | ⟨h1,af,aF⟩
   ·exact absurd aO (by decide)
   ·exact absurd rfl (al _ (List.mem_of_getElem? aF))
  ·refine .au (t102 m x (by simp only [dn]; omega)) λt al=>Tot.bb (λ_=>?_) (λaO=>.ag ⟨nZ,?_⟩)
   ·refine .au (t101 m _ _) λbd hm=>.ag ⟨hm.1.grow aK 1,Int.le_refl 0,?_⟩;show (0:Int)<(bd.aD.aX.length:Int);rw [hm.1.g]; omega
   ·show 0<=t/\t<(m.aD.aX.length:Int);rcases al with al | al <;> omega
structure Al (T:Nat) (N:Int) (p:Prod):Prop where
 left:0<=p.Left/\p.Left<=N
 right:∀ s∈p.e1,nO T N s
 prec:-1<=p.Prec/\p.Prec<T
 args:∀ s∈p.rq,nO T N s
 code:p.Code.size<=1000
theorem Al.mono {T T':Nat}{N iK:Int}{p:Prod}(h:Al T N p) (cX:T<=T') (a7:N<=iK):Al T' iK p :=
 ⟨⟨h.left.1,by have:=h.left.2; omega⟩,λs aw=>(h.right s aw).mono cX a7,⟨h.prec.1,by have:=h.prec.2; omega⟩,λs aw=>(h.args s aw).mono cX a7,h.code⟩
structure kO (m:c3) (T L I Q:Nat):Prop where
 gi:m.b_.length=m.aD.aX.length
 lo:3<=m.aD.aX.length
 hi:m.aD.aX.length<=T
 ty:m.cp.length<=T
 dT:m.bX.length=L
 fN:0<=m.bQ/\m.bQ<=I
 zJ:m.aD.a1.length<=Q
 fl:∀ p∈m.aD.a1,Al m.aD.aX.length (L+m.bQ) p
 lvl:0<=m.b'
 jK:∀ t∈m.aD.aX,0<=t.Level
theorem kO.mono {m:c3}{T L I Q T' I' K2:Nat}(h:kO m T L I Q) (cX:T<=T') (ba:I<=I') (dy:Q<=K2):kO m T' L I' K2 :=
 ⟨h.gi,h.lo,by have:=h.hi; omega,by have:=h.ty; omega,h.dT,⟨h.fN.1,by have:=h.fN.2; omega⟩,by have:=h.zJ; omega,h.fl,h.lvl,h.jK⟩
theorem kO.grow {m bd:c3}{T L I Q k:Nat}(h:kO m T L I Q) (g:Grow m bd k):kO bd (T+k) L I Q :=
 ⟨g.gi,by have:=h.lo; have:=g.lo; omega,by have:=h.hi; have:=g.hi; omega,by have:=h.ty; have:=g.ty; omega,by rw [g.dT]; exact h.dT,by rw [g.fN]; exact h.fN,by rw [g.fl]; exact h.zJ,
  by rw [g.fl,g.fN]; exact λp ar=>(h.fl p ar).mono g.lo (by omega),by rw [g.lvl]; exact h.lvl,g.jK h.lvl h.jK⟩
theorem t104 (m:c3) (left:ByteArray) (a:Alt) {T L I Q:Nat}(hm:kO m T L I Q) (cX:T<=10000000000) (gR:L<=10000000000) (ba:I<=10000000000) (dy:Q<=10000000000) (av:we a) (cY:Dd a) :
  Tot (ob m left a) λbd=>kO bd (T+1001) L (I+1000) (Q+1001)/\1<=bd.aD.a1.length:=by
 unfold ob;have aA:=av.n;refine .au (t103 m left (by rw [hm.dT]; simp only [dn]; omega)) λbc kg=>?_;have adj:-1<=bc/\bc<L:=by rw [<- hm.dT]; rcases kg with h | h <;> omega
 refine Tot.au (Ξ:=λaZ=>kO aZ.1 (T+1000) L (I+1000) (Q+1000)/\(∀ s∈aZ.2.1,nO aZ.1.aD.aX.length (L+aZ.1.bQ) s)/\aZ.2.1.length<=1000/\aZ.2.2.1.size<=1000) ?_ λaZ kh=>?_
 ·refine Tot.count (λs=>s.2.2.2.2) a.Parts.length (λs=>0<=s.2.2.2.2/\s.2.2.2.2<=a.Parts.length/\kO s.1 (T+s.2.2.2.2.toNat) L (I+s.2.2.2.2.toNat) (Q+s.2.2.2.2.toNat)/\(∀ y∈s.2.1,nO s.1.aD.aX.length (L+s.1.bQ) y)/\s.2.1.length<=s.2.2.2.2.toNat/\s.2.2.1.size<=1000) ⟨by show (0:Int)<=0; omega,by show (0:Int)<=_; omega,hm,by simp,Nat.le_refl 0,Nat.zero_le _⟩ (by show (a.Parts.length:Int) - 0<_; omega) λs aw=>?_;obtain ⟨m1,rt,bj,at_,i⟩:=s;obtain ⟨aO,h1,aj,ah,ai,yW⟩:=aw;simp only at aO h1 aj ah ai yW ⊢;have hw:aE (i+1)=i+1:=by rw [cq]; omega
  have b2:(i+1).toNat=i.toNat+1:=by omega
  refine Tot.bb (λaR=>?_) (λ_=>.ag ⟨aj.mono (by omega) (by omega) (by omega),ah,by show rt.length<=1000; omega,yW⟩);refine Tot.au (Ξ:=λJ=>kO J.1 (T+(i.toNat+1)) L (I+(i.toNat+1)) (Q+(i.toNat+1))/\(∀ y∈J.2.1,nO J.1.aD.aX.length (L+J.1.bQ) y)/\J.2.1.length<=i.toNat+1/\J.2.2.1.size<=1000) ?_ λJ Ee=>?_
  ·refine Tot.au (Tot.hI (Φ:=λy=>y∈a.Parts) aO aR λy _ ak=>ak) λy ak=>?_;refine Tot.au (Ξ:=λJ=>kO J.1 (T+(i.toNat+1)) L (I+(i.toNat+1)) (Q+(i.toNat+1))/\(∀ y∈J.2.1,nO J.1.aD.aX.length (L+J.1.bQ) y)/\J.2.1.length<=i.toNat+1/\J.2.2.1.size<=1000) ?_ λJ Ii=>.ag Ii;refine Tot.au (Ξ:=λJ=>kO J.1 (T+(i.toNat+1)) L (I+(i.toNat+1)) (Q+(i.toNat+1))/\(∀ y∈J.2.1,nO J.1.aD.aX.length (L+J.1.bQ) y)/\J.2.1.length<=i.toNat+1/\J.2.2.1.size<=1000) ?_ λJ Ii=>.ag Ii;refine Tot.bj (λ_=>?_) (λ_=>?_)
   ·have bD:=aj.hi;refine .au (t120 m1 y.Sym aj.gi aj.lo (by omega) (by rw [aj.dT]; omega) (cY.parts y ak)) λr ⟨aK,Et⟩=>?_;refine .au (Ξ:=λ_=>True) (Tot.ap (by simp [lim]; omega) trivial) λ_ _=>.ag ⟨(aj.grow aK).mono (by omega) (by omega) (by omega),λz aT=>?_,by simp; omega,yW⟩;rcases List.mem_append.1 aT with aT | aT
    ·exact (ah z aT).mono aK.lo (by show (L:Int)+m1.bQ<=L+r.2.bQ; rw [aK.fN]; omega)
    ·rw [List.mem_singleton.1 aT];rw [aj.dT] at Et;exact Et.mono (Nat.le_refl _) (by show (L:Int)<=L+r.2.bQ; rw [aK.fN]; have:=aj.fN.1; omega)
   ·refine Tot.au (Ξ:=λJ=>kO (⟨(⟨m1.aD.aX,m1.aD.bO,J.1,m1.aD.b9,m1.aD.cg⟩:bq),m1.b_,m1.cp,m1.bX,m1.cI,m1.c_,m1.c8,m1.b',J.2.1⟩:dc) (T+(i.toNat+1)) L (I+(i.toNat+1)) (Q+(i.toNat+1))/\(∀ y∈J.2.2.1,nO m1.aD.aX.length (L+J.2.1) y)/\J.2.2.1.length<=i.toNat+1/\J.2.2.2.1.size<=1000) ?_ λJ VI=>.ag VI;refine Tot.bj (λ_=>.ag ⟨⟨aj.gi,aj.lo,by have:=aj.hi; show m1.aD.aX.length<=_; omega,by have:=aj.ty; show m1.cp.length<=_; omega,aj.dT,⟨aj.fN.1,by have:=aj.fN.2; show m1.bQ<=_; omega⟩,by have:=aj.zJ; show m1.aD.a1.length<=_; omega,aj.fl,aj.lvl,aj.jK⟩,ah,by show rt.length<=_; omega,(av.parts y ak).2⟩) (λ_=>?_);have Ec:=aj.fN;have vt:=aj.dT;have w4:=aj.zJ;have gm:aE (m1.bQ+1)=m1.bQ+1:=by rw [cq]; omega
    have fi:aE (((m1.bX.length:Int))+(m1.bQ+1))=L+(m1.bQ+1):=by rw [cq,vt]; omega
    have wa:aE (1000+(m1.bX.length:Int))=1000+L:=by rw [cq,vt]; omega
    have wb:aE (1000+(L:Int)+(m1.bQ+1))=1000+(L:Int)+(m1.bQ+1):=by rw [cq]; omega
    rw [gm,fi,wa,wb];refine .au (Ξ:=λ_=>True) (Tot.ap (by simp [lim]; omega) trivial) λ_ _=>.au (Ξ:=λ_=>True) (Tot.ap (by simp [lim]; omega) trivial) λ_ _=>.au (Ξ:=λ_=>True) (Tot.ap (by simp [lim]; omega) trivial) λ_ _=>.ag ⟨⟨aj.gi,aj.lo,?_,?_,aj.dT,?_,?_,?_,aj.lvl,aj.jK⟩,?_,?_,yW⟩
    ·have:=aj.hi; show m1.aD.aX.length<=_; omega
    ·have:=aj.ty; show m1.cp.length<=_; omega
    ·show 0<=m1.bQ+1/\m1.bQ+1<=((I+(i.toNat+1):Nat):Int); omega
    ·show (m1.aD.a1++[_]).length<=_; simp; omega
    ·intro p ar;rcases List.mem_append.1 ar with ar | ar
     ·exact (aj.fl p ar).mono (Nat.le_refl _) (by show (L:Int)+m1.bQ<=L+(m1.bQ+1); omega)
     ·rw [List.mem_singleton.1 ar];refine ⟨?_,by simp,?_,λz aT=>(ah z (by simpa using aT)).mono (Nat.le_refl _) (by show (L:Int)+m1.bQ<=L+(m1.bQ+1); omega),(av.parts y ak).2⟩
      ·show 0<=(L:Int)+(m1.bQ+1)/\(L:Int)+(m1.bQ+1)<=L+(m1.bQ+1); omega
      ·have:=aj.lo; show (-1:Int)<=-1/\(-1:Int)<(m1.aD.aX.length:Int); omega
    ·intro z aT;rcases List.mem_append.1 aT with aT | aT
     ·exact (ah z aT).mono (Nat.le_refl _) (by show (L:Int)+m1.bQ<=L+(m1.bQ+1); omega)
     ·rw [List.mem_singleton.1 aT];exact .inr (by show 1000<=1000+(L:Int)+(m1.bQ+1)/\1000+(L:Int)+(m1.bQ+1)<=1000+((L:Int)+(m1.bQ+1)); omega)
    ·show (rt++[_]).length<=_; simp; omega
  ·rw [hw];refine .ag ⟨⟨?_,?_,?_,Ee.2.1,?_,Ee.2.2.2⟩,?_,?_⟩
   ·show (0:Int)<=i+1; omega
   ·show i+1<=(a.Parts.length:Int); omega
   ·show kO J.1 (T+(i+1).toNat) L (I+(i+1).toNat) (Q+(i+1).toNat);rw [b2]; exact Ee.1
   ·show J.2.1.length<=(i+1).toNat;rw [b2]; exact Ee.2.2.1
   ·show i<i+1; omega
   ·show i+1<=(a.Parts.length:Int); omega
 ·obtain ⟨aj,ah,ai,yW⟩:=kh;have ly:=aj.lo;have Ec:=aj.fN;refine Tot.au (Ξ:=λp=>-1<=p/\p<(aZ.1.aD.aX.length:Int)) ?_ λfl y5=>?_
  ·refine Tot.count (λs=>s.2) aZ.2.1.length (λs=>0<=s.2/\s.2<=aZ.2.1.length/\-1<=s.1/\s.1<(aZ.1.aD.aX.length:Int)) ⟨by show (0:Int)<=0; omega,by show (0:Int)<=_; omega,by show (-1:Int)<=-1; omega,by show (-1:Int)<_; omega⟩ (by show (aZ.2.1.length:Int) - 0<_; omega) λs aw=>?_;obtain ⟨aO,h1,af,aF⟩:=aw;have hw:aE (s.2+1)=s.2+1:=by rw [cq]; omega
   rw [hw];refine Tot.bb (λaR=>?_) (λ_=>.ag ⟨af,aF⟩);refine Tot.au (Ξ:=λp=>-1<=p/\p<(aZ.1.aD.aX.length:Int)) ?_ λp ar=>.ag ⟨⟨?_,?_,ar.1,ar.2⟩,?_,?_⟩
   ·refine .au (Tot.hI (Φ:=λy=>idx aZ.2.1 s.2=some y/\y∈aZ.2.1) aO aR λy h1 af=>⟨h1,af⟩) λy ak=>?_;refine .au (Ξ:=λp=>-1<=p/\p<(aZ.1.aD.aX.length:Int)) ?_ λp ar=>.ag ar;refine Tot.bb (λaR=>?_) (λ_=>.ag ⟨af,aF⟩);rw [ak.1];refine Tot.sm (.ag ?_);rcases ah y ak.2 with h | h
    ·omega
    ·omega
   ·show (0:Int)<=s.2+1; omega
   ·show s.2+1<=(aZ.2.1.length:Int); omega
   ·show s.2<s.2+1; omega
   ·show s.2+1<=(aZ.2.1.length:Int); omega
  ·refine Tot.au (Ξ:=λJ=>Grow aZ.1 J.1 1/\-1<=J.2/\J.2<(J.1.aD.aX.length:Int)) ?_ λJ yX=>?_
   ·have nZ:Grow aZ.1 aZ.1 1:=⟨aj.gi,Nat.le_refl _,Nat.le_succ _,Nat.le_succ _,rfl,rfl,rfl,rfl,λ_ h=>h⟩;refine Tot.bj (λ_=>?_) (λ_=>.ag ⟨nZ,y5⟩);refine Tot.au (Ξ:=λc=>c=true->a.Prec.Lit=true\/∀ y∈aZ.1.bX,y≠a.Prec.Name) ?_ λc aa=>?_
    ·refine Tot.bj (λh=>.ag λ_=>.inl h) (λ_=>?_);refine .au (t103 aZ.1 a.Prec.Name (by rw [aj.dT]; simp only [dn]; omega)) λk hk=>.ag λaR=>?_;have aR:=of_decide_eq_true aR;rcases hk with ⟨_,h⟩ | h
     ·exact .inr h
     ·omega
    ·refine Tot.au (Ξ:=λJ=>Grow aZ.1 J.1 1/\-1<=J.2/\J.2<(J.1.aD.aX.length:Int)) ?_ λJ aj=>.ag aj;have bD:=aj.hi;refine Tot.bj (λh=>?_) (λ_=>?_)
     ·refine .au (ZQ aZ.1 a.Prec aj.gi aj.lo (by omega) (by rw [aj.dT]; omega) cY.prec (aa h)) λr ah=>.ag ⟨ah.1,?_,ah.2.2⟩;have:=ah.2.1; show -1<=r.1; omega
     ·refine .au (t101 aZ.1 _ _) λbd gJ=>.ag ⟨gJ.1.grow aj.gi 1,by show (-1:Int)<=-1; omega,?_⟩;show (-1:Int)<(bd.aD.aX.length:Int); omega
   ·have gJ:=aj.grow yX.1;have w4:=gJ.zJ;refine .au (Ξ:=λ_=>True) (Tot.ap (by simp [lim]; omega) trivial) λ_ _=>.au (Ξ:=λ_=>True) (Tot.ap (by simp [lim]; omega) trivial) λ_ _=>.ag ⟨⟨gJ.gi,gJ.lo,?_,?_,gJ.dT,⟨gJ.fN.1,?_⟩,?_,?_,gJ.lvl,gJ.jK⟩,by simp⟩
    ·have:=gJ.hi; show J.1.aD.aX.length<=_; omega
    ·have:=gJ.ty; show J.1.cp.length<=_; omega
    ·have:=gJ.fN.2; show J.1.bQ<=_; omega
    ·show (J.1.aD.a1++[_]).length<=_; simp; omega
    ·intro p ar;rcases List.mem_append.1 ar with ar | ar
     ·exact gJ.fl p ar
     ·rw [List.mem_singleton.1 ar];have acW:=gJ.fN;refine ⟨?_,λz aT=>?_,yX.2,λz aT=>(ah z (by simpa using aT)).mono yX.1.lo (by show (L:Int)+aZ.1.bQ<=L+J.1.bQ; rw [yX.1.fN]; omega),yW⟩
      ·show 0<=aE (1+bc)/\aE (1+bc)<=(L:Int)+J.1.bQ;rw [cq]; omega
      ·exact (ah z aT).mono yX.1.lo (by show (L:Int)+aZ.1.bQ<=L+J.1.bQ; rw [yX.1.fN]; omega)
theorem PD (l:List Int):(strOfNums l).size=l.length:=strOfNums_size ..
theorem t18 (n:Int) (aO:0<=n) (h1:n<=1000000000000):Tot (k9 n) λs=>s.size<=2000000000000:=by
 unfold k9;have hu:IntKind.u64.wrap n=n:=by rw [IntKind.wrap_u64]; omega
 refine Tot.au (Ξ:=λJ=>J=n) (Tot.bb (λh=>absurd h (by omega)) (λ_=>.ag hu)) λJ aj=>?_;subst aj;refine Tot.au (Ξ:=λs=>s.size<=1000000000001) ?_ λs aw=>Tot.bb (λh=>absurd h (by omega)) (λ_=>.ag (by omega));refine Tot.loop (λs=>0<=s.1/\s.1+s.2.size<=1000000000000+1/\(s.2.size=0->s.1<=1000000000000)) (λs=>s.1.toNat+(if s.2.size=0 then 1 else 0)) ⟨aO,by show J+((0:Nat):Int)<=_; omega,λ_=>h1⟩ (by show J.toNat+(if (0:Nat)=0 then 1 else 0)<1000000000000000000; simp; omega) λs aw=>?_
 obtain ⟨m,t⟩:=s;obtain ⟨g0,g1,g2⟩:=aw;simp only at g0 g1 g2 ⊢;refine Tot.au (Ξ:=λc=>c=true->0<m\/t.size=0) ?_ λc aa=>Tot.bj (λpq=>?_) (λ_=>.ag ?_)
 ·refine Tot.bb (λh=>.ag λ_=>.inl h) (λ_=>.ag λh=>.inr ?_);have:=of_decide_eq_true h;rw [this]; rfl
 ·have aa:=aa pq;refine .au (Ξ:=λx=>x=m.tmod 10) (Tot.pP (by decide) rfl) λx j=>?_;refine .au (Ξ:=λy=>y.size=t.size+1) (Tot.cat ?_ ?_) λy ak=>.au (Ξ:=λz=>z=m / 10) (Tot.pO (by decide) ?_) λz aT=>.ag ?_
  ·rw [PD]; simp; omega
  ·rw [ByteArray.size_append,PD]; simp; omega
  ·rw [Int.tdiv_eq_ediv_of_nonneg g0,IntKind.wrap_u64]; omega
  ·subst aT;refine ⟨⟨?_,?_,?_⟩,?_⟩
   ·show 0<=m / 10; omega
   ·show m / 10+(y.size:Int)<=_; rw [ak]; omega
   ·intro h; have h:y.size=0:=h; omega
   ·show (m / 10).toNat+(if y.size=0 then 1 else 0)<m.toNat+(if t.size=0 then 1 else 0);rw [if_neg (by omega)]
    split <;> omega
 ·show t.size<=1000000000001; omega
structure ga (g:bq):Prop where
 j6:3<=g.aX.length/\g.aX.length<=40
 de:1<=g.bO.length/\g.bO.length<=24
 hb:1<=g.a1.length/\g.a1.length<=60
 fl:∀ p∈g.a1,Al g.aX.length (g.bO.length - 1) p
 aN:∀ p∈g.a1,p.e1.length<=8
 jK:∀ t∈g.aX,0<=t.Level
structure iw (m:c3) (T L:Nat):Prop where
 gi:m.b_.length=m.aD.aX.length
 lo:3<=m.aD.aX.length
 hi:m.aD.aX.length<=3+T
 ty:m.cp.length<=T
 dT:m.bX.length<=L
 fl:m.aD.a1=[]
 fN:m.bQ=0
 lvl:0<=m.b'
 jK:∀ t∈m.aD.aX,0<=t.Level
theorem iw.mono {m:c3}{T L T' hC:Nat}(h:iw m T L) (cX:T<=T') (gR:L<=hC):iw m T' hC :=
 ⟨h.gi,h.lo,by have:=h.hi; omega,by have:=h.ty; omega,by have:=h.dT; omega,h.fl,h.fN,h.lvl,h.jK⟩
theorem iw.grow {m bd:c3}{T L k:Nat}(h:iw m T L) (g:Grow m bd k):iw bd (T+k) L :=
 ⟨g.gi,by have:=h.lo; have:=g.lo; omega,by have:=h.hi; have:=g.hi; omega,by have:=h.ty; have:=g.ty; omega,by rw [g.dT]; exact h.dT,g.fl.trans h.fl,g.fN.trans h.fN,by rw [g.lvl]; exact h.lvl,g.jK h.lvl h.jK⟩
theorem iw.same {m bd:c3}{T L:Nat}(h:iw m T L) (g:qQ m bd):iw bd T L:=by
 have:=h.grow (g.grow h.gi 0);exact this
theorem iw.XP {m:c3}{T L:Nat}(h:iw m T L):kO m (3+T) m.bX.length 0 0 :=
 ⟨h.gi,h.lo,h.hi,by have:=h.ty; omega,rfl,by rw [h.fN]; decide,by rw [h.fl]; exact Nat.le_refl 0,by rw [h.fl]; exact λp ar=>absurd ar (by simp),h.lvl,h.jK⟩
theorem t81 (s:Source) (av:pb s):Tot (oc s) λr=>r.2.1=0->ga r.1:=by
 unfold oc;refine .au (t99 s av) λc aa=>Tot.bj (λ_=>.ag λh=>absurd h (by decide)) (λpq=>?_);have ok:K5 s:=aa (by simpa using pq);refine .au (Tot.mk (by decide) (rfl:List.replicate (3:Int).toNat false=List.replicate (3:Int).toNat false)) λaZ kh=>?_;have Vs:=av.yL;have Bz:=av.aN
 -- declarations
 refine Tot.au (Ξ:=λr=>iw r.1 (1001 * 1000) 0) ?_ λbM ct=>?_
 ·refine Tot.count (λz=>z.2.2) s.Decls.length (λz=>0<=z.2.2/\z.2.2<=s.Decls.length/\iw z.1 (1001 * z.2.2.toNat) 0/\z.1.b'<=z.2.2) ⟨Int.le_refl 0,by show (0:Int)<=_; omega,⟨by show aZ.length=3; rw [<- kh]; rfl,Nat.le_refl 3,Nat.le_refl 3,Nat.le_refl 0,Nat.le_refl 0,rfl,rfl,Int.le_refl 0,by show ∀ t∈[_,_,_],0<=Tok.Level t; simp⟩,Int.le_refl 0⟩ (by show (s.Decls.length:Int) - 0<_; omega) λz aT=>?_;obtain ⟨m,st,i⟩:=z;obtain ⟨aO,h1,hm,oM⟩:=aT;simp only at aO h1 hm oM ⊢;have hw:aE (i+1)=i+1:=by rw [cq]; omega
  rw [hw];have y1:=hm.lvl;refine Tot.bb (λaR=>?_) (λ_=>.ag (hm.mono (by omega) (Nat.le_refl _)));refine .au (Tot.hI (Φ:=λy=>y∈s.Decls) aO aR λy _ ak=>ak) λd aP=>?_;have hd:=av.decls d aP;have D9:=hd.n;refine .au (Ξ:=λ_=>True) (Tot.bj (λ_=>.ag trivial) (λ_=>.ag trivial)) λhW _=>.au (Ξ:=λJ=>0<=J/\J<=i+1) (Tot.bj (λ_=>.ag (by rw [cq]; omega)) (λ_=>.ag (by omega))) λiW Mu=>?_;refine Tot.au (Ξ:=λr=>iw r.1 (1001 * i.toNat+1000) 0/\r.1.b'<=i+1) ?_ λd' p'=>.ag ⟨⟨?_,?_,?_,?_⟩,?_,?_⟩
  ·refine Tot.count (λz=>z.2.2) d.ev.length (λz=>0<=z.2.2/\z.2.2<=d.ev.length/\iw z.1 (1001 * i.toNat+z.2.2.toNat) 0/\z.1.b'<=i+1) ⟨Int.le_refl 0,by show (0:Int)<=_; omega,⟨hm.gi,hm.lo,hm.hi,hm.ty,hm.dT,hm.fl,hm.fN,Mu.1,hm.jK⟩,Mu.2⟩ (by show (d.ev.length:Int) - 0<_; omega) λz aT=>?_;obtain ⟨m,st,k⟩:=z;obtain ⟨g0,g1,hm,oM⟩:=aT;simp only at g0 g1 hm oM ⊢;have uu:aE (k+1)=k+1:=by rw [cq]; omega
   rw [uu];refine Tot.bb (λuh=>?_) (λ_=>.ag ⟨hm.mono (by omega) (Nat.le_refl _),oM⟩);have EI:Tot (idx d.ev k) λy=>y∈d.ev:=Tot.hI g0 uh λy _ ak=>ak;refine Tot.au (Ξ:=λJ=>iw J.1 (1001 * i.toNat+k.toNat+1) 0/\J.1.b'<=i+1) ?_ λJ aj=>.ag ⟨⟨?_,?_,?_,aj.2⟩,?_,?_⟩
   ·refine Tot.bj (λ_=>?_) (λ_=>?_)
    ·refine .au EI λx j=>.au (t100 m d x hm.gi (by have:=hm.hi; omega) (by have:=hm.ty; omega) (ok.decls d aP x j)) λbd aK=>.ag ⟨hm.grow aK,by show bd.b'<=_; rw [aK.lvl]; exact oM⟩
    ·refine Tot.au (Ξ:=λJ=>iw J (1001 * i.toNat+k.toNat+1) 0/\J.b'<=i+1) ?_ λJ aj=>.au EI λ_ _=>.ag aj;refine Tot.bj (λ_=>?_) (λ_=>.ag ⟨hm.mono (by omega) (Nat.le_refl _),oM⟩);exact .au EI λ_ _=>.au EI λ_ _=>.au (t101 m _ _) λbd gJ=>.ag ⟨(hm.same gJ.1).mono (by omega) (Nat.le_refl _),by rw [gJ.1.jK]; exact oM⟩
   ·show 0<=k+1; omega
   ·show k+1<=(d.ev.length:Int); omega
   ·show iw J.1 (1001 * i.toNat+(k+1).toNat) 0;exact aj.1.mono (by omega) (Nat.le_refl _)
   ·show k<k+1; omega
   ·show k+1<=(d.ev.length:Int); omega
  ·show 0<=i+1; omega
  ·show i+1<=(s.Decls.length:Int); omega
  ·show iw d'.1 (1001 * (i+1).toNat) 0;exact p'.1.mono (by omega) (Nat.le_refl _)
  ·exact p'.2
  ·show i<i+1; omega
  ·show i+1<=(s.Decls.length:Int); omega
 -- what stands on the left
 refine Tot.au (Ξ:=λr=>iw r (1001 * 1000) 1000) ?_ λcD wP=>?_
 ·refine Tot.count (λz=>z.2) s.fu.length (λz=>0<=z.2/\z.2<=s.fu.length/\iw z.1 (1001 * 1000) z.2.toNat) ⟨Int.le_refl 0,by show (0:Int)<=_; omega,ct⟩ (by show (s.fu.length:Int) - 0<_; omega) λz aT=>?_;obtain ⟨m,i⟩:=z;obtain ⟨aO,h1,hm⟩:=aT;simp only at aO h1 hm ⊢;have hw:aE (i+1)=i+1:=by rw [cq]; omega
  rw [hw];refine Tot.bb (λaR=>?_) (λ_=>.ag (hm.mono (Nat.le_refl _) (by omega)));have vo:=hm.hi;have vt:=hm.dT;refine Tot.au (Ξ:=λJ=>iw J (1001 * 1000) (i.toNat+1)) ?_ λJ aj=>.ag ⟨⟨?_,?_,?_⟩,?_,?_⟩
  ·refine .au (Tot.hI (Φ:=λ_=>True) aO aR λy _ ak=>trivial) λr ah=>.au (t102 m _ (by simp only [dn]; omega)) λt _=>?_;refine Tot.au (Ξ:=λJ=>iw J (1001 * 1000) i.toNat) ?_ λil l_=>?_
   ·exact Tot.bj (λ_=>.au (t101 m _ _) λbd gJ=>.ag (hm.same gJ.1)) (λ_=>.ag hm)
   ·have ac3:=l_.dT;refine .au (t103 il _ (by simp only [dn]; omega)) λk _=>?_;refine Tot.au (Ξ:=λl=>l.length<=i.toNat+1) ?_ λl ai=>.ag ⟨l_.gi,l_.lo,l_.hi,l_.ty,ai,l_.fl,l_.fN,l_.lvl,l_.jK⟩;refine Tot.bj (λ_=>?_) (λ_=>.ag (by omega));exact .au (Ξ:=λ_=>True) (Tot.ap (by simp [lim]; omega) trivial) λ_ _=>.ag (by simp; omega)
  ·show 0<=i+1; omega
  ·show i+1<=(s.fu.length:Int); omega
  ·show iw J (1001 * 1000) (i+1).toNat;exact aj.mono (Nat.le_refl _) (by omega)
  ·show i<i+1; omega
  ·show i+1<=(s.fu.length:Int); omega
 -- types and starts
 refine Tot.au (Ξ:=λr=>iw r (1001 * 1000) 1000) ?_ λfq lM=>?_
 ·refine Tot.count (λz=>z.2) s.Decls.length (λz=>0<=z.2/\z.2<=s.Decls.length/\iw z.1 (1001 * 1000) 1000) ⟨Int.le_refl 0,by show (0:Int)<=_; omega,wP⟩ (by show (s.Decls.length:Int) - 0<_; omega) λz aT=>?_;obtain ⟨m,i⟩:=z;obtain ⟨aO,h1,hm⟩:=aT;simp only at aO h1 hm ⊢;have hw:aE (i+1)=i+1:=by rw [cq]; omega
  rw [hw];refine Tot.bb (λaR=>?_) (λ_=>.ag hm);refine Tot.au (Ξ:=λr=>iw r (1001 * 1000) 1000) ?_ λnI TU=>.ag ⟨⟨?_,?_,TU⟩,?_,?_⟩
  ·have n1:i.toNat<s.Decls.length:=by omega
   have hi:idx s.Decls i=some s.Decls[i.toNat]:=by simp [idx,aO,n1]
   rw [hi];generalize aP:s.Decls[i.toNat]=d;have oK:d∈s.Decls:=by rw [<- aP]; exact List.getElem_mem n1
   have D9:=(av.decls d oK).n;refine Tot.count (λz=>z.2) d.ev.length (λz=>0<=z.2/\z.2<=d.ev.length/\iw z.1 (1001 * 1000) 1000) ⟨Int.le_refl 0,by show (0:Int)<=_; omega,hm⟩ (by show (d.ev.length:Int) - 0<_; omega) λz aT=>?_;obtain ⟨m,k⟩:=z;obtain ⟨g0,g1,hm⟩:=aT;simp only at g0 g1 hm ⊢;have uu:aE (k+1)=k+1:=by rw [cq]; omega
   rw [uu];refine Tot.sm (Tot.bb (λuh=>?_) (λ_=>.ag hm));have vt:=hm.dT;refine Tot.au (Ξ:=λJ=>iw J (1001 * 1000) 1000) ?_ λJ aj=>.ag ⟨⟨?_,?_,aj⟩,?_,?_⟩
   ·refine Tot.sm (.au (Tot.hI (Φ:=λ_=>True) g0 uh λ_ _ _=>trivial) λx _=>?_);refine .au (Ξ:=λ_=>True) (Tot.sm (Tot.bj (λ_=>.au (t103 m _ (by simp only [dn]; omega)) λ_ _=>.ag trivial) (λ_=>.ag trivial))) λc _=>?_;refine Tot.au (Ξ:=λJ=>iw J (1001 * 1000) 1000) ?_ λJ aj=>.ag aj;exact Tot.bj (λ_=>.au (t101 m _ _) λbd gJ=>.ag (hm.same gJ.1)) (λ_=>.ag hm)
   ·show 0<=k+1; omega
   ·show k+1<=(d.ev.length:Int); omega
   ·show k<k+1; omega
   ·show k+1<=(d.ev.length:Int); omega
  ·show 0<=i+1; omega
  ·show i+1<=(s.Decls.length:Int); omega
  ·show i<i+1; omega
  ·show i+1<=(s.Decls.length:Int); omega
 -- the start
 have uk:=ok.pos;refine Tot.au (Ξ:=λ_=>True) (Tot.bj (λ_=>.au (Ξ:=λ_=>True) (Tot.hI (by decide) (by omega) λ_ _ _=>trivial) λ_ _=>.ag trivial) (λ_=>.ag trivial)) λvL _=>?_;have ac6:=lM.dT;refine .au (t103 fq vL (by simp only [dn]; omega)) λl2 nc=>?_;have TZ:-1<=l2/\l2<fq.bX.length:=by rcases nc with h | h <;> omega
 -- the alternatives
 have gR:fq.bX.length<=1000:=lM.dT;generalize Uq:fq.bX.length=L at gR TZ;refine Tot.au (Ξ:=λr=>kO r (3+1001 * 1000+1001 * 1000000) L (1001 * 1000000) (1+1001 * 1000000)/\1<=r.aD.a1.length) ?_ λbo T0=>?_
 ·have ui:=lM.XP;rw [Uq] at ui;refine Tot.count (λz=>z.2) s.fu.length (λz=>0<=z.2/\z.2<=s.fu.length/\kO z.1 (3+1001 * 1000+1001 * (1000 * z.2.toNat)) L (1001 * (1000 * z.2.toNat)) (1+1001 * (1000 * z.2.toNat))/\1<=z.1.aD.a1.length) ⟨Int.le_refl 0,by show (0:Int)<=_; omega,⟨ui.gi,ui.lo,ui.hi,ui.ty,ui.dT,ui.fN,Nat.le_refl 1,λp ar=>?_,ui.lvl,ui.jK⟩,Nat.le_refl 1⟩ (by show (s.fu.length:Int) - 0<_; omega) λz aT=>?_
  ·rw [List.mem_singleton.1 ar];have acU:=lM.fN;have ly:=lM.lo;refine ⟨⟨Int.le_refl 0,by show (0:Int)<=L+fq.bQ; omega⟩,λy ak=>?_,⟨by show (-1:Int)<=-1; omega,by show (-1:Int)<_; omega⟩,λy ak=>absurd ak (by simp),Nat.zero_le _⟩;have ak:y∈[aE (1001+l2)]:=ak;rw [List.mem_singleton.1 ak];have:aE (1001+l2)=1001+l2:=by rw [cq]; omega
   rw [this];exact .inr (by show 1000<=1001+l2/\1001+l2<=1000+((L:Int)+fq.bQ); omega)
  ·obtain ⟨m,i⟩:=z;obtain ⟨aO,h1,hm,vx⟩:=aT;simp only at aO h1 hm vx ⊢;have hw:aE (i+1)=i+1:=by rw [cq]; omega
   rw [hw];refine Tot.bb (λaR=>?_) (λ_=>.ag ⟨hm.mono (by omega) (by omega) (by omega),vx⟩);refine Tot.au (Ξ:=λr=>kO r (3+1001 * 1000+1001 * (1000 * (i.toNat+1))) L (1001 * (1000 * (i.toNat+1))) (1+1001 * (1000 * (i.toNat+1)))/\1<=r.aD.a1.length) ?_ λz6 Mz=>.ag ⟨⟨?_,?_,?_,Mz.2⟩,?_,?_⟩
   ·have n1:i.toNat<s.fu.length:=by omega
    have hi:idx s.fu i=some s.fu[i.toNat]:=by simp [idx,aO,n1]
    rw [hi];generalize aP:s.fu[i.toNat]=d;have oK:d∈s.fu:=by rw [<- aP]; exact List.getElem_mem n1
    have D9:=(av.rules d oK).n;refine Tot.count (λz=>z.2) d.hg.length (λz=>0<=z.2/\z.2<=d.hg.length/\kO z.1 (3+1001 * 1000+1001 * (1000 * i.toNat+z.2.toNat)) L (1001 * (1000 * i.toNat+z.2.toNat)) (1+1001 * (1000 * i.toNat+z.2.toNat))/\1<=z.1.aD.a1.length) ⟨Int.le_refl 0,by show (0:Int)<=_; omega,hm,vx⟩ (by show (d.hg.length:Int) - 0<_; omega) λz aT=>?_;obtain ⟨m,k⟩:=z;obtain ⟨g0,g1,hm,vx⟩:=aT;simp only at g0 g1 hm vx ⊢;have uu:aE (k+1)=k+1:=by rw [cq]; omega
    rw [uu];refine Tot.sm (Tot.bb (λuh=>?_) (λ_=>.ag ⟨hm.mono (by omega) (by omega) (by omega),vx⟩));refine Tot.sm (Tot.sm (.au (Tot.hI (Φ:=λy=>y∈d.hg) g0 uh λ_ _ h=>h) λa aQ=>?_));refine .au (t104 m d.Left a hm (by omega) (by omega) (by omega) (by omega) ((av.rules d oK).alts a aQ) (ok.rules d oK a aQ)) λbd gJ=>.ag ⟨⟨?_,?_,?_,gJ.2⟩,?_,?_⟩
    ·show 0<=k+1; omega
    ·show k+1<=(d.hg.length:Int); omega
    ·show kO bd (3+1001 * 1000+1001 * (1000 * i.toNat+(k+1).toNat)) L (1001 * (1000 * i.toNat+(k+1).toNat)) (1+1001 * (1000 * i.toNat+(k+1).toNat));exact gJ.1.mono (by omega) (by omega) (by omega)
    ·show k<k+1; omega
    ·show k+1<=(d.hg.length:Int); omega
   ·show 0<=i+1; omega
   ·show i+1<=(s.fu.length:Int); omega
   ·show kO z6 (3+1001 * 1000+1001 * (1000 * (i+1).toNat)) L (1001 * (1000 * (i+1).toNat)) (1+1001 * (1000 * (i+1).toNat));exact Mz.1.mono (by omega) (by omega) (by omega)
   ·show i<i+1; omega
   ·show i+1<=(s.fu.length:Int); omega
 obtain ⟨jX,T1⟩:=T0;refine Tot.iz (λh=>.ag λaH=>absurd aH h) (λhe=>?_);have acp:=jX.dT;have acn:=jX.hi;have acr:=jX.ty;have aco:=jX.fN;have acq:=jX.zJ
 -- nonterminals
 refine Tot.au (Ξ:=λl=>l.length=1+L) ?_ λsr wQ=>?_
 ·refine Tot.count (λz=>z.2) bo.bX.length (λz=>0<=z.2/\z.2<=bo.bX.length/\z.1.length=1+z.2.toNat) ⟨Int.le_refl 0,by show (0:Int)<=_; omega,rfl⟩ (by show (bo.bX.length:Int) - 0<_; omega) λz aT=>?_;obtain ⟨l,i⟩:=z;obtain ⟨aO,h1,ai⟩:=aT;simp only at aO h1 ai ⊢;have hw:aE (i+1)=i+1:=by rw [cq]; omega
  rw [hw];refine Tot.bb (λaR=>?_) (λ_=>.ag (by show l.length=1+L; omega));refine .au (Tot.hI (Φ:=λ_=>True) aO aR λ_ _ _=>trivial) λqF _=>.au (t105 _ _ (by show bo.cp.length<=_; simp only [dn]; omega)) λx1 Ho=>?_;have acs:x1=-1\/(0<=x1/\x1<bo.cp.length):=Ho;refine .au (Ξ:=λ_=>True) (Tot.bb (λh=>.au (Ξ:=λ_=>True) (Tot.hI h (by omega) λ_ _ _=>trivial) λ_ _=>.ag trivial) (λ_=>.ag trivial)) λuD _=>?_;refine .au (Ξ:=λ_=>True) (Tot.ap (by simp [lim]; omega) trivial) λ_ _=>.ag ⟨⟨?_,?_,?_⟩,?_,?_⟩
  ·show 0<=i+1; omega
  ·show i+1<=(bo.bX.length:Int); omega
  ·show (l++[_]).length=1+(i+1).toNat;simp; omega
  ·show i<i+1; omega
  ·show i+1<=(bo.bX.length:Int); omega
 refine Tot.au (Ξ:=λl=>(l.length:Int)=1+L+bo.bQ) ?_ λj7 yP=>?_
 ·refine Tot.count (λz=>z.2) (bo.bQ+1) (λz=>1<=z.2/\z.2<=bo.bQ+1/\(z.1.length:Int)=1+L+(z.2 - 1)) ⟨Int.le_refl 1,by show (1:Int)<=_; omega,by show (sr.length:Int)=1+L+(1 - 1); omega⟩ (by show bo.bQ+1 - 1<_; omega) λz aT=>?_;obtain ⟨l,i⟩:=z;obtain ⟨aO,h1,ai⟩:=aT;simp only at aO h1 ai ⊢;have hw:aE (i+1)=i+1:=by rw [cq]; omega
  rw [hw];refine Tot.bb (λaR=>?_) (λ_=>.ag (by show (l.length:Int)=1+L+bo.bQ; omega));refine .au (t18 i (by omega) (by omega)) λF2 acu=>.au (Ξ:=λ_=>True) (Tot.cat (by show 1+F2.size<=_; omega) trivial) λwc _=>?_;refine .au (Ξ:=λ_=>True) (Tot.ap (by simp [lim]; omega) trivial) λ_ _=>.ag ⟨⟨?_,?_,?_⟩,?_,?_⟩
  ·show 1<=i+1; omega
  ·show i+1<=bo.bQ+1; omega
  ·show ((l++[_]).length:Int)=1+L+(i+1 - 1);simp; omega
  ·show i<i+1; omega
  ·show i+1<=bo.bQ+1; omega
 -- numbers
 have rQ:=jX.gi;refine Tot.au (Ξ:=λl=>l.length=bo.aD.aX.length/\∀ t∈l,0<=t.Level) ?_ λk' T6=>?_
 ·refine Tot.count (λz=>z.2.2) bo.aD.aX.length (λz=>3<=z.2.2/\z.2.2<=bo.aD.aX.length/\z.1.length=bo.aD.aX.length/\∀ t∈z.1,0<=t.Level) ⟨Int.le_refl 3,by have:=jX.lo; show (3:Int)<=_; omega,rfl,jX.jK⟩ (by show (bo.aD.aX.length:Int) - 3<_; omega) λz aT=>?_;obtain ⟨l,n,i⟩:=z;obtain ⟨aO,h1,ai,hv⟩:=aT;simp only at aO h1 ai hv ⊢;have hw:aE (i+1)=i+1:=by rw [cq]; omega
  rw [hw];refine Tot.bb (λaR=>?_) (λ_=>.ag ⟨ai,hv⟩);refine Tot.au (Ξ:=λJ=>J.1.length=bo.aD.aX.length/\∀ t∈J.1,0<=t.Level) ?_ λJ aj=>.ag ⟨⟨?_,?_,aj⟩,?_,?_⟩
  ·refine .au (Tot.hI (Φ:=λ_=>True) (by omega) (by rw [rQ]; omega) λ_ _ _=>trivial) λ_ _=>?_;refine Tot.au (Ξ:=λJ=>J.1.length=bo.aD.aX.length/\∀ t∈J.1,0<=t.Level) ?_ λJ aj=>.ag aj;refine Tot.bj (λ_=>?_) (λ_=>.ag ⟨ai,hv⟩);refine .au (Tot.hI (Φ:=λy=>y∈l) (by omega) aR λ_ _ h=>h) λy ak=>.ag ⟨by show (l.set _ _).length=_; simp [ai],λt al=>?_⟩;rcases XN al with al | rfl
   ·exact hv t al
   ·exact (hv y ak:0<=y.Level)
  ·show 3<=i+1; omega
  ·show i+1<=(bo.aD.aX.length:Int); omega
  ·show i<i+1; omega
  ·show i+1<=(bo.aD.aX.length:Int); omega
 -- limits
 obtain ⟨yR,T7⟩:=T6;refine Tot.au (Ξ:=λc=>c=false->k'.length<=40/\j7.length<=24/\bo.aD.a1.length<=60) ?_ λAB wO=>?_
 ·refine Tot.bb (λ_=>.ag λh=>by cases h) (λh1=>Tot.bb (λ_=>.ag λh=>by cases h) (λaf=>.ag λh=>?_));have aF:=of_decide_eq_false h;omega
 refine Tot.au (Ξ:=λc=>c=false->AB=false/\∀ p∈bo.aD.a1,p.e1.length<=8) ?_ λzZ Hk=>?_
 ·refine Tot.count (λz=>z.2) bo.aD.a1.length (λz=>0<=z.2/\z.2<=bo.aD.a1.length/\(z.1=false->AB=false/\∀ (J:Nat) (p:Prod),(J:Int)<z.2->bo.aD.a1[J]?=some p->p.e1.length<=8)) ⟨Int.le_refl 0,by show (0:Int)<=_; omega,λh=>⟨h,λJ p aj=>by have aj:(J:Int)<0:=aj; omega⟩⟩ (by show (bo.aD.a1.length:Int) - 0<_; omega) λz aT=>?_;obtain ⟨c,i⟩:=z;obtain ⟨aO,h1,ai⟩:=aT;simp only at aO h1 ai ⊢;have hw:aE (i+1)=i+1:=by rw [cq]; omega
  rw [hw];refine Tot.bb (λaR=>?_) (λdq=>.ag λh=>⟨(ai h).1,λp ar=>?_⟩)
  ·refine Tot.au (Ξ:=λjV=>jV=false->c=false/\∀ p,bo.aD.a1[i.toNat]?=some p->p.e1.length<=8) ?_ λjV e7=>.ag ⟨⟨?_,?_,λh=>?_⟩,?_,?_⟩
   ·refine Tot.bj (λ_=>.ag λh=>by cases h) (λH5=>.au (Tot.hI (Φ:=λy=>idx bo.aD.a1 i=some y) aO aR λ_ h _=>h) λy ak=>.ag λh=>⟨H5,λp ar=>?_⟩);have af:=(r1 ak).2.2;rw [ar] at af; cases af;have:=of_decide_eq_false h;omega
   ·show 0<=i+1; omega
   ·show i+1<=(bo.aD.a1.length:Int); omega
   ·obtain ⟨aB,a2⟩:=e7 h;obtain ⟨gZ,hV⟩:=ai aB;refine ⟨gZ,λJ p aj ar=>?_⟩;have aj:(J:Int)<i+1:=aj;by_cases VJ:(J:Int)<i
    ·exact hV J p VJ ar
    ·have:J=i.toNat:=by omega
     subst this;exact a2 p ar
   ·show i<i+1; omega
   ·show i+1<=(bo.aD.a1.length:Int); omega
  ·obtain ⟨J,aj,rfl⟩:=List.mem_iff_getElem.1 ar;exact (ai h).2 J _ (by omega) (List.getElem?_eq_getElem aj)
 refine Tot.bj (λ_=>.ag λh=>absurd h (by decide)) (λaa=>.ag λ_=>?_);obtain ⟨aB,a2⟩:=Hk aa;obtain ⟨gZ,hV,kq⟩:=wO aB;have ly:=jX.lo;refine ⟨⟨?_,gZ⟩,⟨?_,hV⟩,⟨T1,kq⟩,λp ar=>?_,a2,T7⟩
 ·show 3<=k'.length; omega
 ·show 1<=j7.length; omega
 ·have:=jX.fl p ar;exact this.mono (by show _<=k'.length; omega) (by show (L:Int)+bo.bQ<=((j7.length:Nat):Int) - 1; omega)
theorem S6 (s:ByteArray) (m n:Int) (h:0<=m/\m<=n/\n<=s.size):(p6 s m n).size<=(n - m).toNat:=by
 grind [p6,ByteArray.size_extract]
theorem t9 (s:ByteArray) (n:Int) (aO:0<=n):Tot (OT s n) λt=>(t.size:Int)<=n:=by
 unfold OT;refine Tot.bb (λh=>?_) (λh=>.ag (by omega))
 grind [Tot.cut,S6]
structure aaF (n:Nat) (d:Decl):Prop where
 tag:d.Tag.size=0
 n:d.ev.length<=n
 syms:∀ x∈d.ev,x.Name.size<=dn
structure yt (n:Nat) (r:hU):Prop where
 left:r.Left.size<=dn
 n:r.hg.length<=n
 alts:∀ a∈r.hg,we a
theorem yt.mono {n m:Nat}{r:hU}(h:yt n r) (hm:n<=m):yt m r:=⟨h.left,Nat.le_trans h.n hm,h.alts⟩
theorem yt.add {n:Nat}{r:hU}{a:Alt}(h:yt n r) (aQ:we a):yt (n+1) (⟨r.Left,r.hg++[a],r.At⟩:hU):=by
 refine ⟨h.left,by have:=h.n; show (r.hg++[a]).length<=_; simp; omega,λb av=>?_⟩;rcases List.mem_append.1 av with av | av
 ·exact h.alts b av
 grind
theorem t66 (s:Source) (av:pb s):Tot (sc s) λr=>r.2=true->ga r.1:=by
 unfold sc;exact .au (t81 s av) λr ah=>.ag λh=>ah (of_decide_eq_true h)
structure jT (x:Sym):Prop where
 lit:x.Lit=true->x.Name.size=1/\0<ll x.Name 0/\ll x.Name 0<=255/\x.bF=0
 num:0<=x.bF/\x.bF<=50000
theorem JK (x:Sym) (a b:Bool):Par (r' x a b) λr=>r=true->jT x:=by
 unfold r';refine Par.bj (λai=>?_) (λai=>?_)
 ·refine .au (Ξ:=λc=>c=false->x.Name.size=1/\x.bF=0) ?_ λc aa=>Par.bj (λ_=>.ag λh=>by cases h) (λaf=>?_)
  ·refine Par.bj (λ_=>.ag λh=>by cases h) (λ_=>Par.iz (λ_=>.ag λh=>by cases h) (λh1=>.ag λaf=>⟨by omega,?_⟩));simpa using af
  ·obtain ⟨h1,aF⟩:=aa af;refine .au (Ξ:=λc=>c=ll x.Name 0) (λc aa=>?_) λc aa=>?_
   ·unfold gz at aa
    split at aa
    ·exact (Option.some.inj aa).symm
    ·cases aa
   ·subst aa;refine .au (Ξ:=λr=>r.2=true->0<ll x.Name 0/\ll x.Name 0<=255) ?_ λr ah=>.ag λh=>⟨λ_=>⟨h1,(ah h).1,(ah h).2,aF⟩,by omega⟩;unfold zw;refine Par.bb (λh=>.ag λ_=>by omega) (λ_=>Par.bb (λh=>.ag λ_=>by omega) (λ_=>Par.bb (λh=>.ag λ_=>by omega) (λ_=>?_)));refine .au (Ξ:=λc=>c=true->ll x.Name 0=92\/ll x.Name 0=39) (Par.bb (λh=>.ag λ_=>.inl h) (λ_=>.ag λh=>.inr (of_decide_eq_true h))) λc aa=>Par.bj (λh=>.ag λ_=>by rcases aa h with h | h <;> omega) (λ_=>?_);refine .au (Ξ:=λr:Int × Bool=>r.2=true->0<ll x.Name 0/\ll x.Name 0<=255) (Par.bb (λh=>.ag λaH=>?_) (λ_=>.ag λh=>by cases h)) λr ah=>.ag ah;have:ll x.Name 0<=126:=of_decide_eq_true aH;omega
 ·refine .au (Ξ:=λc=>c=true->0<=x.bF/\x.bF<=50000) ?_ λc aa=>.ag λh=>⟨λaH=>(by rw [ai] at aH; cases aH),aa h⟩;refine .au (Ξ:=λ_=>True) (λ_ _=>trivial) λc _=>Par.bj (λ_=>Par.bb (λh=>.ag λ_=>by omega) (λ_=>Par.bj (λ_=>Par.bb (λh=>.ag λaH=>⟨by omega,of_decide_eq_true aH⟩) (λ_=>.ag λh=>by cases h)) (λ_=>.ag λh=>by cases h))) (λ_=>.ag λh=>by cases h)
theorem OO (x:Sym):Par (uH x) λr=>r=true->jT x:=by
 unfold uH;refine .au (Ξ:=λr=>r=true->jT x) ?_ λr ah=>.ag ah;refine Par.bj (λ_=>Par.bj (λh=>.ag λaH=>?_) (λ_=>.ag λh=>by cases h)) (λ_=>.ag λh=>by cases h);have h1:x.Lit=false:=by simpa using h
 have af:x.bF=0:=of_decide_eq_true aH;exact ⟨λh=>(by rw [h1] at h; cases h),by omega⟩
theorem Yi (d:Decl) (aA:d.ev.length<=1000000):Par (r_ d) λr=>r=true->∀ x∈d.ev,jT x:=by
 unfold r_;refine .au (Ξ:=λ_=>True) (λ_ _=>trivial) λc _=>Par.bj (λ_=>.ag λh=>by cases h) (λ_=>?_);refine .au (Par.scan d.ev (by omega) (λx=>jT x) (λr=>r=false) (λs y aO h1 hi hm=>?_) (λs aw=>by simp [aw])) λx j=>?_
 ·refine Par.bb (λ_=>?_) (λh=>absurd h1 h);rw [hi];have hw:aE (s+1)=s+1:=by rw [cq]; omega
  rw [hw];exact .au (Ξ:=λz=>z=y) (.ag rfl) λz aT=>by
   subst aT;exact .au (JK _ _ _) λc aa=>Par.bj (λ_=>.ag rfl) (λaf=>.ag ⟨rfl,aa (by simpa using af)⟩)
 ·rcases x with _ | r
  ·exact .ag λ_=>j
  ·exact .ag λh=>by have:r=false:=j; rw [this] at h; cases h
theorem Yj (a:Alt) (aA:a.Parts.length<=1000000):Par (qw a) λr=>r=true->(∀ p∈a.Parts,jT p.Sym)/\jT a.Prec:=by
 unfold qw;refine .au (Par.scan a.Parts (by omega) (λp=>jT p.Sym) (λr=>r=false) (λs y aO h1 hi hm=>?_) (λs aw=>by simp [aw])) λx j=>?_
 ·refine Par.bb (λ_=>?_) (λh=>absurd h1 h);rw [hi];have hw:aE (s+1)=s+1:=by rw [cq]; omega
  rw [hw];refine .au (Ξ:=λz=>z=y) (.ag rfl) λz aT=>?_;subst aT;refine .au (Ξ:=λc=>c=false->jT z.Sym) ?_ λc aa=>Par.bj (λ_=>.ag rfl) (λaf=>.ag ⟨rfl,aa af⟩);refine Par.bb (λhe=>?_) (λcy=>?_)
  ·refine .au (JK _ _ _) λc aa=>Par.bj (λ_=>.ag λh=>by cases h) (λaf=>?_);have cY:=aa (by simpa using af);exact λ_ _ _=>cY
  ·refine Par.iz (λ_=>?_) (λh=>absurd h cy);refine .au (OO _) λc aa=>Par.bj (λ_=>.ag λh=>by cases h) (λaf=>?_);have cY:=aa (by simpa using af);exact λ_ _ _=>cY
 ·rcases x with _ | r
  ·have j:∀ p∈a.Parts,jT p.Sym:=j;refine .au (Ξ:=λc=>c=true->jT a.Prec) ?_ λc aa=>.ag λh=>⟨j,aa h⟩;refine .au (OO _) λc aa=>Par.bj (λaf=>.ag λ_=>aa af) (λ_=>.au (JK _ _ _) λc aa=>.ag aa)
  ·exact .ag λh=>by have:r=false:=j; rw [this] at h; cases h
structure K4 (s:Source):Prop where
 decls:∀ d∈s.Decls,∀ x∈d.ev,jT x
 rules:∀ r∈s.fu,∀ a∈r.hg,(∀ p∈a.Parts,jT p.Sym)/\jT a.Prec
theorem Yt (s:Source) (av:pb s):Par (uM s) λr=>r=true->K4 s:=by
 unfold uM;refine .au (Ξ:=ft (λ_=>True) (λr=>r=false)) ?_ λx j=>?_
 ·refine Par.loop (λ_=>True) trivial λJ _=>?_;refine Par.bb (λ_=>.au (Ξ:=λ_=>True) (λ_ _=>trivial) λ_ _=>Par.bj (λ_=>.ag rfl) (λ_=>.ag trivial)) (λ_=>.ag trivial)
 ·rcases x with _ | r
  ·refine .au (Par.scan s.Decls (by have:=av.yL; omega) (λd=>∀ x∈d.ev,jT x) (λr=>r=false) (λi y aO h1 hi hm=>?_) (λs aw=>by simp [aw])) λx j=>?_
   ·refine Par.bb (λ_=>?_) (λh=>absurd h1 h);rw [hi];have hw:aE (i+1)=i+1:=by have:=av.yL; rw [cq]; omega
    rw [hw];refine .au (Ξ:=λz=>z=y) (.ag rfl) λz aT=>?_;subst aT;exact .au (Yi z (by have:=(av.decls z hm).n; omega)) λc aa=>Par.bj (λ_=>.ag rfl) (λaf=>.ag ⟨rfl,aa (by simpa using af)⟩)
   ·rcases x with _ | r
    ·have aP:∀ d∈s.Decls,∀ x∈d.ev,jT x:=j;refine .au (Par.scan s.fu (by have:=av.aN; omega) (λr=>∀ a∈r.hg,(∀ p∈a.Parts,jT p.Sym)/\jT a.Prec) (λr=>r=false) (λi y aO h1 hi hm=>?_) (λs aw=>by simp [aw])) λx j=>?_
     ·refine Par.bb (λ_=>?_) (λh=>absurd h1 h);rw [hi];have hw:aE (i+1)=i+1:=by have:=av.aN; rw [cq]; omega
      rw [hw];refine .au (Ξ:=λz=>z=y) (.ag rfl) λz aT=>?_;subst aT;have n2:=(av.rules z hm);refine .au (Ξ:=λ_=>True) (λ_ _=>trivial) λc _=>Par.bj (λ_=>.ag rfl) (λ_=>?_);refine .au (Par.scan z.hg (by have:=n2.n; omega) (λa=>(∀ p∈a.Parts,jT p.Sym)/\jT a.Prec) (λr=>r=false) (λk y aO h1 hi hm=>?_) (λs aw=>by simp [aw])) λx j=>?_
      ·refine Par.bb (λ_=>?_) (λh=>absurd h1 h);rw [hi];have hw:aE (k+1)=k+1:=by have:=n2.n; rw [cq]; omega
       rw [hw];refine .au (Ξ:=λz=>z=y) (.ag rfl) λz aT=>?_;subst aT;exact .au (Yj z (by have:=(n2.alts z hm).n; omega)) λc aa=>Par.bj (λ_=>.ag rfl) (λaf=>.ag ⟨rfl,aa (by simpa using af)⟩)
      ·rcases x with _ | r
       ·exact .ag ⟨rfl,j⟩
       ·exact .ag j
     ·rcases x with _ | r
      ·exact .ag λ_=>⟨aP,j⟩
      ·exact .ag λh=>by have:r=false:=j; rw [this] at h; cases h
    ·exact .ag λh=>by have:r=false:=j; rw [this] at h; cases h
  ·exact .ag λh=>by have:r=false:=j; rw [this] at h; cases h
structure yu (T:List Tok) (G:List Bool):Prop where
 Mt:G.length=T.length
 lo:3<=T.length
 hi:T.length<=lim
 mm:∀ t∈T,t.Name.size<=dn/\(t.Lit=true->t.Name.size=1)
 le:∀ t∈T,t.bF<=50000
structure tG (T:List Tok) (G:List Bool):Prop where
 aP:∀ (i:Nat) (t:Tok),i<3->T[i]?=some t->t.bF<=0
 un:∀ (i J:Nat) (s t:Tok),T[i]?=some s->T[J]?=some t->0<s.bF->s.bF=t.bF->i=J
 gi:∀ (i:Nat) (t:Tok),3<=i->T[i]?=some t->(G[i]?=some true->0<t.bF)/\(G[i]?=some false->t.bF=0)
structure fe (m:c3):Prop where
 a:yu m.aD.aX m.b_
 b:m.cI=0->tG m.aD.aX m.b_
 dT:∀ y∈m.bX,y.size<=dn
theorem s4 {α:Type}{l:List α}{i:Int}{y:α}(h:idx l i=some y):0<=i/\i.toNat<l.length/\l[i.toNat]?=some y:=by
 unfold idx at h
 split at h
 ·rename_i aO;exact ⟨aO,(List.getElem?_eq_some_iff.1 h).1,h⟩
 ·cases h
theorem uT {α:Type}{l:List α}{k:Nat}{x:α}(hk:k<l.length) (i:Nat):(l.set k x)[i]?=if i=k then some x else l[i]?:=by
 rw [List.getElem?_set];by_cases e:k=i
 ·subst e; simp [hk]
 ·simp [e,Ne.symm e]
theorem yu.set {T:List Tok}{G:List Bool}(h:yu T G) {k:Nat}{t t':Tok}(hk:T[k]?=some t) (aA:t'.Name=t.Name) (ai:t'.Lit=t.Lit) (hu:t'.bF<=50000) {KT:List Bool}(c9:KT.length=G.length):yu (T.set k t') KT:=by
 have hm:=List.mem_of_getElem? hk;have key:∀ {P:Tok->Prop},(∀ s∈T,P s)->P t'->∀ s∈T.set k t',P s:=λh1 af s aw=>by
  rcases List.mem_or_eq_of_mem_set aw with h | h
  ·exact h1 s h
  ·rw [h]; exact af
 exact ⟨by rw [c9,List.length_set]; exact h.Mt,by rw [List.length_set]; exact h.lo,by rw [List.length_set]; exact h.hi,key h.mm (by rw [aA,ai]; exact h.mm t hm),key h.le hu⟩
theorem tG.Fw {T:List Tok}{G:List Bool}(h:tG T G) {k:Nat}{t t':Tok}(hk:T[k]?=some t) (hu:t'.bF=t.bF):tG (T.set k t') G:=by
 have aR:=(List.getElem?_eq_some_iff.1 hk).1;have key:∀ (i:Nat) (s:Tok),(T.set k t')[i]?=some s->∃ cu,T[i]?=some cu/\cu.bF=s.bF:=by
  intro i s aw;rw [uT aR] at aw;by_cases e:i=k
  ·rw [if_pos e] at aw;cases aw;exact ⟨t,by rw [e]; exact hk,hu.symm⟩
  ·rw [if_neg e] at aw;exact ⟨s,aw,rfl⟩
 refine ⟨λi s hi aw=>?_,λi J s s2 aw ky aO he=>?_,λi s hi aw=>?_⟩
 ·obtain ⟨cu,h1,af⟩:=key i s aw;rw [<- af]; exact h.aP i cu hi h1
 ·obtain ⟨cu,h1,af⟩:=key i s aw;obtain ⟨Zf,aF,bu⟩:=key J s2 ky;exact h.un i J cu Zf h1 aF (by omega) (by omega)
 ·obtain ⟨cu,h1,af⟩:=key i s aw;rw [<- af]; exact h.gi i cu hi h1
theorem tG.Zo {T:List Tok}{G:List Bool}(h:tG T G) {k:Nat}{t t':Tok}(hk:T[k]?=some t) (aF:3<=k) (aK:k<G.length) (aO:0<t'.bF) (aA:∀ (i:Nat) (s:Tok),T[i]?=some s->s.bF≠t'.bF):tG (T.set k t') (G.set k true):=by
 have aR:=(List.getElem?_eq_some_iff.1 hk).1;refine ⟨λi s hi aw=>?_,λi J s s2 aw ky ar he=>?_,λi s hi aw=>?_⟩
 ·rw [uT aR,if_neg (by omega)] at aw;exact h.aP i s hi aw
 ·rw [uT aR] at aw ky;by_cases b2:i=k
  ·rw [if_pos b2] at aw; cases aw;by_cases bZ:J=k
   ·omega
   ·rw [if_neg bZ] at ky;exact absurd he.symm (aA J s2 ky)
  ·rw [if_neg b2] at aw;by_cases bZ:J=k
   ·rw [if_pos bZ] at ky; cases ky;exact absurd he (aA i s aw)
   ·rw [if_neg bZ] at ky;exact h.un i J s s2 aw ky ar he
 ·rw [uT aR] at aw;rw [uT aK];by_cases b2:i=k
  ·rw [if_pos b2] at aw ⊢;cases aw;exact ⟨λ_=>aO,λh=>by cases h⟩
  ·rw [if_neg b2] at aw ⊢;exact h.gi i s hi aw
theorem lY (m:c3) (a:Int) (n:ByteArray):Par (nD m a n) λbd=>qQ m bd/\bd.cI≠0:=.of (t101 m a n)
theorem fe.fail {m bd:c3}(h:fe m) (aw:qQ m bd/\bd.cI≠0):fe bd:=⟨by rw [aw.1.g,aw.1.gi]; exact h.a,λe=>absurd e aw.2,by rw [aw.1.dT]; exact h.dT⟩
theorem Yf (m:c3) (x:Sym) (aF:3<=m.aD.aX.length) (h:m.aD.aX.length<=lim):Par (qv m x) λr=>r=-1\/(1<=r/\r≠2):=by
 have ai:lim=1000000000000\/lim<=1000000000000000:=by unfold lim; omega
 unfold qv;refine .au (Ξ:=ft (λ_=>True) (λr:Int=>1<=r/\r≠2)) ?_ λr ah=>?_
 ·refine Par.loop (λs=>1<=s/\s<=m.aD.aX.length) ⟨by decide,by omega⟩ λs aw=>?_
  ·refine Par.bb (λaR=>?_) (λ_=>.ag trivial);refine .au (Ξ:=λc=>c=true->s≠2) ?_ λc aa=>Par.bj (λaH=>.ag ⟨aw.1,aa aH⟩) (λ_=>.ag ⟨by rw [cq]; omega,by rw [cq]; omega⟩);refine .go λy _=>Par.bj (λ_=>.go λz _=>Par.bj (λ_=>.ag λaH=>by simpa using aH) (λ_=>.ag λh=>by cases h)) (λ_=>.ag λh=>by cases h)
 ·rcases r with _ | r
  ·exact .ag (.inl rfl)
  ·exact .ag (.inr ah)
theorem OL (m:c3) (n:Int) (aF:3<=m.aD.aX.length) (h:m.aD.aX.length<=lim):Par (s' m n) λr=>r<0->∀ (i:Nat) (t:Tok),3<=i->m.aD.aX[i]?=some t->t.bF≠n:=by
 have ai:lim=1000000000000\/lim<=1000000000000000:=by unfold lim; omega
 unfold s';refine .au (Ξ:=ft (λ_=>∀ (i:Nat) (t:Tok),3<=i->m.aD.aX[i]?=some t->t.bF≠n) (λr:Int=>0<=r)) ?_ λr ah=>?_
 ·refine Par.loop (λs=>3<=s/\s<=m.aD.aX.length/\∀ (i:Nat) (t:Tok),3<=i->(i:Int)<s->m.aD.aX[i]?=some t->t.bF≠n) ⟨by decide,by omega,λi t h1 af=>by omega⟩ λs aw=>?_;obtain ⟨h1,af,aw⟩:=aw;refine Par.bb (λaR=>?_) (λdq=>.ag λi t hi al=>aw i t hi ?_ al)
  ·refine .go λy ak=>?_;obtain ⟨_,_,ak⟩:=s4 ak;have hw:aE (s+1)=s+1:=by rw [cq]; omega
   rw [hw];refine Par.bb (λe=>.ag (show (0:Int)<=s by omega)) (λe=>.ag ⟨by omega,by omega,λi t hi qf al=>?_⟩);by_cases bZ:i=s.toNat
   ·subst bZ;rw [ak] at al; cases al; exact e
   ·exact aw i t hi (by omega) al
  ·have:=(List.getElem?_eq_some_iff.1 al).1;omega
 ·rcases r with _ | r
  ·exact .ag λ_=>ah
  ·exact .ag λh=>by have:(0:Int)<=r:=ah; omega
theorem CZ {α:Type}{l:List α}{x:α}(i:Nat) {y:α}(h:(l++[x])[i]?=some y):(i<l.length/\l[i]?=some y)\/(i=l.length/\y=x):=by
 by_cases hi:i<l.length
 ·rw [List.getElem?_append_left hi] at h;exact .inl ⟨hi,h⟩
 ·rw [List.getElem?_append_right (by omega)] at h;by_cases e:i - l.length=0
  ·rw [e] at h;simp at h;exact .inr ⟨by omega,h.symm⟩
  ·have:([x]:List α)[i - l.length]?=none:=by rw [List.getElem?_eq_none]; simp; omega
   rw [this] at h; cases h
theorem OK (m:c3) (x:Sym) (hm:fe m) (j:jT x) (aw:x.Name.size<=dn):Par (q8 m x) λr=>fe r.2/\(r.1=1\/3<=r.1):=by
 unfold q8;have ai:lim<=1000000000000000:=by unfold lim; omega
 refine .au (Yf m x hm.a.lo hm.a.hi) λr ah=>Par.bb (λh=>.ag ⟨hm,?_⟩) (λ_=>?_)
 ·show r=1\/3<=r;omega
 refine .au (Ξ:=λJ:c3 × Int=>J.1.aD=m.aD/\J.1.b_=m.b_/\J.1.bX=m.bX/\fe J.1/\J.2<=50000/\(J.1.cI=0->(x.Lit=true->0<J.2/\∀ (i:Nat) (t:Tok),m.aD.aX[i]?=some t->t.bF≠J.2)/\(x.Lit=false->J.2=0))) ?_ λJ aj=>?_
 ·refine Par.bj (λn0=>?_) (λn0=>.ag ⟨rfl,rfl,rfl,hm,by show (0:Int)<=_; decide,λ_=>⟨λh=>(by rw [n0] at h; cases h),λ_=>rfl⟩⟩);obtain ⟨_,h1,af,_⟩:=j.lit n0;refine .au (Ξ:=λc=>c=ll x.Name 0) (λc aa=>?_) λc aa=>?_
  ·unfold gz at aa
   split at aa
   ·exact (Option.some.inj aa).symm
   ·cases aa
  subst aa;have hw:aE (ll x.Name 0)=ll x.Name 0:=by rw [cq]; omega
  rw [hw];refine .au (OL m (ll x.Name 0) hm.a.lo hm.a.hi) λo aV=>?_;refine .au (Ξ:=λJ:c3=>J.aD=m.aD/\J.b_=m.b_/\J.bX=m.bX/\fe J/\(J.cI=0->m.cI=0/\o<0)) (Par.bb (λh=>.au (lY m x.At x.Name) λbd aH=>.ag ⟨aH.1.g,aH.1.gi,aH.1.dT,hm.fail aH,λe=>absurd e aH.2⟩) (λh=>.ag ⟨rfl,rfl,rfl,hm,λe=>⟨e,by omega⟩⟩)) λJ aj=>.ag ⟨aj.1,aj.2.1,aj.2.2.1,aj.2.2.2.1,by show ll x.Name 0<=_; omega,λe=>⟨λ_=>⟨h1,λi t al=>?_⟩,λh=>(by rw [n0] at h; cases h)⟩⟩;obtain ⟨b2,bZ⟩:=aj.2.2.2.2 e;by_cases aF:3<=i
  ·exact aV bZ i t aF al
  ·have:=(hm.b b2).aP i t (by omega) al;show t.bF≠ll x.Name 0;omega
 ·obtain ⟨aK,rQ,vt,cX,hle,he⟩:=aj;have A':J.1.cI=0->tG m.aD.aX m.b_:=λe=>by have:=cX.b e; rwa [aK,rQ] at this
  refine Par.ap λqW=>Par.ap λ_=>.ag ?_;rw [aK] at qW;rw [aK,rQ,vt];simp only [List.length_cons,List.length_nil] at qW;have aF:=hm.a.lo;have Bj:=hm.a.Mt;refine ⟨⟨⟨by simp [Bj],by show 3<=(m.aD.aX++[_]).length; simp; omega,by show (m.aD.aX++[_]).length<=_; simp; omega,λt al=>?_,λt al=>?_⟩,λgQ=>?_,hm.dT⟩,?_⟩
  ·rcases List.mem_append.1 al with al | al
   ·exact hm.a.mm t al
   ·rw [List.mem_singleton.1 al];exact ⟨aw,λh=>(j.lit h).1⟩
  ·rcases List.mem_append.1 al with al | al
   ·exact hm.a.le t al
   ·rw [List.mem_singleton.1 al]; exact hle
  ·have L0:J.1.cI=0:=gQ;have av:=A' L0;obtain ⟨H_,Bi⟩:=he L0;refine ⟨λi t hi al=>?_,λi k s t aw al aO heq=>?_,λi t hi al=>?_⟩
   ·rcases CZ i al with ⟨h1,af⟩ | ⟨h1,_⟩
    ·exact av.aP i t hi af
    ·omega
   ·rcases CZ i aw with ⟨h1,af⟩ | ⟨h1,af⟩
    ·rcases CZ k al with ⟨bu,ct⟩ | ⟨bu,ct⟩
     ·exact av.un i k s t af ct aO heq
     ·subst ct;have heq:s.bF=J.2:=heq;cases n0:x.Lit with
      | true=>exact absurd heq ((H_ n0).2 i s af)
      | false=>have:=Bi n0; omega
    ·subst af;rcases CZ k al with ⟨bu,ct⟩ | ⟨bu,ct⟩
     ·have heq:J.2=t.bF:=heq;have aO:0<J.2:=aO;cases n0:x.Lit with
      | true=>exact absurd heq.symm ((H_ n0).2 k t ct)
      | false=>have:=Bi n0; omega
     ·omega
   ·have Ul:(m.b_++[x.Lit])[i]?=if i=m.aD.aX.length then some x.Lit else m.b_[i]?:=by
     by_cases e:i=m.aD.aX.length
     ·rw [if_pos e,e,<- Bj,List.getElem?_append_right (Nat.le_refl _)]; simp
     ·have:=(List.getElem?_eq_some_iff.1 al).1;simp at this;rw [if_neg e,List.getElem?_append_left (by omega)]
    show ((m.b_++[x.Lit])[i]?=some true->0<t.bF)/\((m.b_++[x.Lit])[i]?=some false->t.bF=0);rw [Ul];rcases CZ i al with ⟨h1,af⟩ | ⟨h1,af⟩
    ·rw [if_neg (by omega)];exact av.gi i t hi af
    ·rw [if_pos h1];subst af;exact ⟨λh=>(H_ (Option.some.inj h)).1,λh=>Bi (Option.some.inj h)⟩
  ·right;show 3<=aE (((m.aD.aX++[_]).length:Int) - 1);simp only [List.length_append,List.length_cons,List.length_nil];rw [cq]; omega
theorem jH {α:Type}{l:List α}{i:Int}{y:α}(h:idx l i=some y):y∈l:=List.mem_of_getElem? (s4 h).2.2
theorem fe.Fw {m:c3}(h:fe m) {k:Nat}{t t':Tok}(hk:m.aD.aX[k]?=some t) (aA:t'.Name=t.Name) (ai:t'.Lit=t.Lit) (hu:t'.bF=t.bF):yu (m.aD.aX.set k t') m.b_/\(m.cI=0->tG (m.aD.aX.set k t') m.b_) :=
 ⟨h.a.set hk aA ai (by rw [hu]; exact h.a.le t (List.mem_of_getElem? hk)) rfl,λe=>(h.b e).Fw hk hu⟩
theorem fe.Hc {m bd:c3}(h:fe m) (aw:qQ m bd/\bd.cI≠0):fe (⟨(⟨m.aD.aX,bd.aD.bO,bd.aD.a1,bd.aD.b9,bd.aD.cg⟩:bq),bd.b_,bd.cp,bd.bX,bd.cI,bd.c_,bd.c8,bd.b',bd.bQ⟩:c3) :=
 ⟨by show yu m.aD.aX bd.b_; rw [aw.1.gi]; exact h.a,λe=>absurd e aw.2,by show ∀ y∈bd.bX,_; rw [aw.1.dT]; exact h.dT⟩
theorem Yd (m:c3) (d:Decl) (x:Sym) (hm:fe m) (j:jT x) (aw:x.Name.size<=dn):Par (pK m d x) fe:=by
 unfold pK;refine Par.bj (λ_=>?_) (λ_=>?_)
 ·refine .au (Ξ:=λ_=>True) (λ_ _=>trivial) λk _=>.au (Ξ:=fe) ?_ λbd hm=>.ag hm;refine Par.bb (λ_=>Par.ap λ_=>.ag ⟨hm.a,hm.b,hm.dT⟩) (λ_=>?_);refine .go λy _=>.au (Ξ:=fe) (Par.bj (λ_=>.au (lY m _ _) λbd h=>.ag (hm.fail h)) (λ_=>.ag hm)) λbd hm=>.ag hm
 ·refine .au (OK m x hm j aw) λr ah=>?_;obtain ⟨ah,iR⟩:=ah;refine .go λy ak=>?_;refine .au (Ξ:=fe) ?_ λeG jf=>?_
  ·refine Par.bj (λ_=>?_) (λ_=>.ag ah);refine .au (Ξ:=fe) (Par.bj (λ_=>.au (lY r.2 _ _) λbd h=>.ag (ah.Hc h)) (λ_=>.ag ah)) λcZ p'=>?_;refine .go λz aT=>?_;obtain ⟨_,_,aT⟩:=s4 aT;rw [List.set_set];obtain ⟨h1,af⟩:=p'.Fw (t':=(⟨z.Name,z.Lit,z.bF,cZ.b',aE (d.Kind - 1),z.Tag⟩:Tok)) aT rfl rfl rfl;exact .ag ⟨h1,af,p'.dT⟩
  refine .go λy _=>?_;refine .au (Ξ:=fe) ?_ λeT qa=>?_
  ·refine Par.bb (λuk=>?_) (λ_=>.ag jf);refine .au (Ξ:=λc:Bool=>c=false->r.1≠1/\∀ (i:Nat) (t:Tok),3<=i->eG.aD.aX[i]?=some t->t.bF≠x.bF) ?_ λc aa=>?_
   ·refine Par.bb (λ_=>.ag λh=>by cases h) (λh1=>.go λgi _=>Par.bj (λ_=>.ag λh=>by cases h) (λ_=>.au (OL eG x.bF jf.a.lo jf.a.hi) λo aV=>.ag λh=>⟨h1,aV (by have:=of_decide_eq_false h; omega)⟩))
   refine .au (Ξ:=λJ=>fe J/\(J.cI=0->r.1≠1/\∀ (i:Nat) (t:Tok),3<=i->J.aD.aX[i]?=some t->t.bF≠x.bF)) (Par.bj (λ_=>.au (lY eG _ _) λbd h=>.ag ⟨jf.Hc h,λe=>absurd e h.2⟩) (λh=>.ag ⟨jf,λ_=>aa h⟩)) λdL oF=>?_;obtain ⟨oF,aA⟩:=oF;refine .go λz aT=>.go λgi rQ=>.ag ?_;obtain ⟨aO,aR,aT⟩:=s4 aT;obtain ⟨_,VU,rQ⟩:=s4 rQ;have hle:=j.num;refine ⟨oF.a.set (t':=(⟨z.Name,z.Lit,x.bF,z.Level,z.e9,z.Tag⟩:Tok)) aT rfl rfl hle.2 (by simp),λe=>?_,oF.dT⟩;obtain ⟨aF,bu⟩:=aA e;have av:=oF.b e;refine av.Zo (t':=(⟨z.Name,z.Lit,x.bF,z.Level,z.e9,z.Tag⟩:Tok)) aT (by omega) VU uk λi t al=>?_;by_cases ack:3<=i
   ·grind
   ·have:=av.aP i t (by omega) al
    grind
  refine .go λy _=>.au (Ξ:=fe) ?_ λJ aj=>.ag aj;refine Par.bj (λ_=>?_) (λ_=>.ag qa);refine .au (Ξ:=λ_=>True) (λ_ _=>trivial) λc _=>?_;refine .au (Ξ:=fe) (Par.bj (λ_=>.au (lY eT _ _) λbd h=>.ag (qa.Hc h)) (λ_=>.ag qa)) λml sJ=>?_;refine .go λz aT=>?_;obtain ⟨_,_,aT⟩:=s4 aT;obtain ⟨h1,af⟩:=sJ.Fw (t':=(⟨z.Name,z.Lit,z.bF,z.Level,z.e9,d.Tag⟩:Tok)) aT rfl rfl rfl;exact .ag ⟨h1,af,sJ.dT⟩
theorem ON (m:c3) (x:Sym) (hm:fe m) (j:jT x) (aw:x.Name.size<=dn):Par (pM m x) λr=>fe r.2:=by
 unfold pM;refine Par.bj (λ_=>.au (OK m x hm j aw) λr ah=>.ag ah.1) (λ_=>.au (Ξ:=λ_=>True) (λ_ _=>trivial) λk _=>Par.bj (λ_=>.ag hm) (λ_=>.au (Ξ:=λ_=>True) (λ_ _=>trivial) λt _=>Par.bj (λ_=>.au (lY m _ _) λbd h=>.ag (hm.fail h)) (λ_=>.ag hm)))
theorem Yh (m:c3) (left:ByteArray) (a:Alt) (hm:fe m) (av:we a) (aQ:(∀ p∈a.Parts,jT p.Sym)/\jT a.Prec):Par (ob m left a) fe:=by
 have aA:=av.n;unfold ob;refine .au (Ξ:=λ_=>True) (λ_ _=>trivial) λbc _=>?_;refine .au (Ξ:=λr:c3 × List Int × ByteArray × Int=>fe r.1) ?_ λaZ aF=>?_
 ·refine Par.loop (λs=>fe s.1/\0<=s.2.2.2.2) ⟨hm,Int.le_refl 0⟩ λs aw=>?_;obtain ⟨m1,rt,bj,at_,i⟩:=s;obtain ⟨aw,aO⟩:=aw;simp only at aw aO ⊢;refine Par.bb (λaR=>?_) (λ_=>.ag aw);refine .au (Ξ:=λJ:c3 × List Int × ByteArray × Int=>fe J.1) ?_ λJ aj=>.ag ⟨aj,by show 0<=aE (i+1); rw [cq]; omega⟩;refine .go λy ak=>.au (Ξ:=λJ:c3 × List Int × ByteArray × Int=>fe J.1) ?_ λJ aj=>.ag aj;have EC:=(jH ak);refine .au (Ξ:=λJ:c3 × List Int × ByteArray × Int=>fe J.1) ?_ λJ aj=>.ag aj;refine Par.bj (λ_=>?_) (λ_=>?_)
  ·exact .au (ON m1 y.Sym aw (aQ.1 y EC) (av.parts y EC).1) λr ah=>Par.ap λ_=>.ag ah
  ·exact .au (Ξ:=λ_=>True) (λ_ _=>trivial) λJ _=>.ag ⟨aw.a,aw.b,aw.dT⟩
 ·refine .au (Ξ:=λ_=>True) (λ_ _=>trivial) λfl _=>?_;refine .au (Ξ:=λJ:c3 × Int=>fe J.1) ?_ λJ aj=>Par.ap λ_=>Par.ap λ_=>.ag ⟨aj.a,aj.b,aj.dT⟩;refine Par.bj (λ_=>?_) (λ_=>.ag aF);refine .au (Ξ:=λ_=>True) (λ_ _=>trivial) λc _=>.au (Ξ:=λJ:c3 × Int=>fe J.1) ?_ λJ aj=>.ag aj;exact Par.bj (λ_=>.au (ON aZ.1 a.Prec aF aQ.2 av.prec) λr ah=>.ag ah) (λ_=>.au (lY aZ.1 _ _) λbd h=>.ag (aF.fail h))
structure tx (g:bq):Prop where
 aP:∀ (i:Nat) (t:Tok),i<3->g.aX[i]?=some t->t.bF<=0
 pos:∀ (i:Nat) (t:Tok),3<=i->g.aX[i]?=some t->0<t.bF/\t.bF<=100000
 un:∀ (i J:Nat) (s t:Tok),g.aX[i]?=some s->g.aX[J]?=some t->0<s.bF->s.bF=t.bF->i=J
 mm:∀ t∈g.aX,t.Name.size<=dn/\(t.Lit=true->t.Name.size=1)
 de:∀ x∈g.bO,x.Name.size<=4 * dn
theorem Yp (s:Source) (av:pb s):Par (oc s) λr=>r.2.1=0->tx r.1:=by
 have Vs:=av.yL;have Bz:=av.aN;unfold oc;refine .au (Yt s av) λc aa=>Par.bj (λ_=>.ag λh=>absurd h (by decide)) (λpq=>?_);have ok:K4 s:=aa (by simpa using pq);refine .au (Ξ:=λl=>l=List.replicate 3 false) (λa e=>by unfold nB at e; split at e <;> cases e; rfl) λaZ kh=>?_;subst kh
 -- declarations
 refine .au (Ξ:=λr:c3 × ByteArray=>fe r.1) ?_ λbM ct=>?_
 ·refine Par.loop (λz=>fe z.1/\0<=z.2.2) ⟨⟨⟨rfl,Nat.le_refl 3,by show 3<=lim; unfold lim; omega,λt al=>?_,λt al=>?_⟩,λ_=>⟨λi t hi al=>?_,λi J a b aQ av aO he=>?_,λi t hi al=>?_⟩,λy ak=>by cases ak⟩,Int.le_refl 0⟩ λz aT=>?_
  ·have al:t∈[_,_,_]:=al;simp only [List.mem_cons,List.not_mem_nil,or_false] at al;rcases al with rfl | rfl | rfl <;> exact ⟨by decide,λh=>by cases h⟩
  ·have al:t∈[_,_,_]:=al;simp only [List.mem_cons,List.not_mem_nil,or_false] at al;rcases al with rfl | rfl | rfl <;> decide
  ·have al:t∈[_,_,_]:=List.mem_of_getElem? al;simp only [List.mem_cons,List.not_mem_nil,or_false] at al;rcases al with rfl | rfl | rfl <;> decide
  ·have aQ:a∈[_,_,_]:=List.mem_of_getElem? aQ;simp only [List.mem_cons,List.not_mem_nil,or_false] at aQ;rcases aQ with rfl | rfl | rfl <;> exact absurd aO (by decide)
  ·have:=(List.getElem?_eq_some_iff.1 al).1;have:i<3:=this;omega
  ·obtain ⟨m,st,i⟩:=z;obtain ⟨hm,aO⟩:=aT;simp only at hm aO ⊢;refine Par.bb (λaR=>?_) (λ_=>.ag hm);refine .go λd aP=>?_;have oK:=jH aP;refine .au (Ξ:=λ_=>True) (λ_ _=>trivial) λ_ _=>.au (Ξ:=λ_=>True) (λ_ _=>trivial) λiW _=>?_;refine .au (Ξ:=λr:c3 × ByteArray=>fe r.1) ?_ λr ah=>.ag ⟨ah,by show 0<=aE (i+1); rw [cq]; omega⟩;refine Par.loop (λz=>fe z.1/\0<=z.2.2) ⟨⟨hm.a,hm.b,hm.dT⟩,Int.le_refl 0⟩ λz aT=>?_;obtain ⟨m,st,k⟩:=z;obtain ⟨hm,Hj⟩:=aT;simp only at hm Hj ⊢;have D9:=(av.decls d oK).n;refine Par.bb (λuh=>?_) (λ_=>.ag hm);refine .au (Ξ:=λr:c3 × ByteArray=>fe r.1) ?_ λr ah=>.ag ⟨ah,by show 0<=aE (k+1); rw [cq]; omega⟩;refine Par.bj (λ_=>.go λx j=>?_) (λ_=>?_)
   ·have vH:=jH j;exact .au (Yd m d x hm (ok.decls d oK x vH) ((av.decls d oK).syms x vH)) λbd gJ=>.ag gJ
   ·refine .au (Ξ:=fe) (Par.bj (λ_=>.go λ_ _=>.go λ_ _=>.au (lY m _ _) λbd h=>.ag (hm.fail h)) (λ_=>.ag hm)) λbd gJ=>.go λ_ _=>.ag gJ
 -- what stands on the left
 refine .au (Ξ:=fe) ?_ λcD wP=>?_
 ·refine Par.loop (λz=>fe z.1/\0<=z.2) ⟨ct,Int.le_refl 0⟩ λz aT=>?_;obtain ⟨m,i⟩:=z;obtain ⟨hm,aO⟩:=aT;simp only at hm aO ⊢;refine Par.bb (λaR=>?_) (λ_=>.ag hm);refine .au (Ξ:=fe) ?_ λr ah=>.ag ⟨ah,by show 0<=aE (i+1); rw [cq]; omega⟩;refine .go λr ah=>.au (Ξ:=λ_=>True) (λ_ _=>trivial) λ_ _=>?_;refine .au (Ξ:=fe) (Par.bj (λ_=>.au (lY m _ _) λbd h=>.ag (hm.fail h)) (λ_=>.ag hm)) λil l_=>?_;refine .au (Ξ:=λ_=>True) (λ_ _=>trivial) λ_ _=>?_;refine .au (Ξ:=λl:List ByteArray=>∀ y∈l,y.size<=dn) (Par.bj (λ_=>Par.ap λ_=>.ag λy ak=>?_) (λ_=>.ag l_.dT)) λl ai=>.ag ⟨l_.a,l_.b,ai⟩;rcases List.mem_append.1 ak with ak | ak
  ·exact l_.dT y ak
  ·rw [List.mem_singleton.1 ak]; exact (av.rules r (jH ah)).left
 -- types and starts
 refine .au (Ξ:=fe) ?_ λfq lM=>?_
 ·refine Par.loop (λz=>fe z.1) wP λz hm=>?_;obtain ⟨m,i⟩:=z;simp only at hm ⊢;refine Par.bb (λaR=>?_) (λ_=>.ag hm);refine .au (Ξ:=fe) ?_ λr ah=>.ag ah;refine Par.loop (λz=>fe z.1) hm λz hm=>?_;obtain ⟨m,k⟩:=z;simp only at hm ⊢;refine .go λd _=>Par.bb (λaR=>?_) (λ_=>.ag hm);refine .au (Ξ:=fe) ?_ λr ah=>.ag ah;refine .go λ_ _=>.go λ_ _=>.au (Ξ:=λ_=>True) (λ_ _=>trivial) λ_ _=>?_;exact .au (Ξ:=fe) (Par.bj (λ_=>.au (lY m _ _) λbd h=>.ag (hm.fail h)) (λ_=>.ag hm)) λbd gJ=>.ag gJ
 refine .au (Ξ:=λ_=>True) (λ_ _=>trivial) λvL _=>.au (Ξ:=λ_=>True) (λ_ _=>trivial) λl2 _=>?_
 -- the alternatives
 refine .au (Ξ:=fe) ?_ λbo jX=>?_
 ·refine Par.loop (λz=>fe z.1/\0<=z.2) ⟨⟨lM.a,lM.b,lM.dT⟩,Int.le_refl 0⟩ λz aT=>?_;obtain ⟨m,i⟩:=z;obtain ⟨hm,aO⟩:=aT;simp only at hm aO ⊢;refine Par.bb (λaR=>?_) (λ_=>.ag hm);refine .au (Ξ:=fe) ?_ λr ah=>.ag ⟨ah,by show 0<=aE (i+1); rw [cq]; omega⟩;refine Par.loop (λz=>fe z.1/\0<=z.2) ⟨hm,Int.le_refl 0⟩ λz aT=>?_;obtain ⟨m,k⟩:=z;obtain ⟨hm,Hj⟩:=aT;simp only at hm Hj ⊢;refine .go λd aP=>Par.bb (λuh=>?_) (λ_=>.ag hm);have oK:=jH aP;have D9:=(av.rules d oK).n;refine .go λd1 Bg=>.go λd2 H8=>.go λa aQ=>?_;rw [aP] at Bg H8;cases Bg; cases H8;have MR:=jH aQ;exact .au (Yh m d.Left a hm ((av.rules d oK).alts a MR) (ok.rules d oK a MR)) λbd gJ=>.ag ⟨gJ,by show 0<=aE (k+1); rw [cq]; omega⟩
 refine Par.iz (λh=>.ag λaH=>absurd aH h) (λhe=>?_);have ID:=jX.b he
 -- nonterminals
 refine .au (Ξ:=λl:List e4=>1<=l.length/\∀ x∈l,x.Name.size<=4 * dn) ?_ λsr wQ=>?_
 ·refine Par.loop (λz=>1<=z.1.length/\∀ x∈z.1,x.Name.size<=4 * dn) ⟨Nat.le_refl 1,λx j=>?_⟩ λz aT=>?_
  ·rw [List.mem_singleton.1 j]; decide
  ·refine Par.bj (λ_=>.go λy ak=>.go λ_ _=>.au (Ξ:=λ_=>True) (λ_ _=>trivial) λ_ _=>Par.ap λ_=>.ag ⟨by show 1<=(z.1++[_]).length; simp,λx j=>?_⟩) (λ_=>.ag aT);rcases List.mem_append.1 j with j | j
   ·exact aT.2 x j
   ·rw [List.mem_singleton.1 j];have:=jX.dT y (jH ak);show y.size<=4 * dn;omega
 refine .au (Ξ:=λl:List e4=>l.length<=24->∀ x∈l,x.Name.size<=4 * dn) ?_ λj7 yP=>?_
 ·refine Par.loop (λz=>(z.1.length<=24->∀ x∈z.1,x.Name.size<=4 * dn)/\0<=z.2/\z.2<=z.1.length) ⟨λ_=>wQ.2,by show (0:Int)<=1; decide,by have:=wQ.1; show (1:Int)<=(sr.length:Int); omega⟩ λz aT=>?_;obtain ⟨l,i⟩:=z;obtain ⟨ai,aO,hi⟩:=aT;simp only at ai aO hi ⊢;refine Par.bb (λhle=>.go λy ak=>?_) (λ_=>.ag ai);refine Par.cat (Par.ap λqW=>.ag ⟨λhlen x j=>?_,by show 0<=aE (i+1); unfold lim at qW; simp only [List.length_cons,List.length_nil] at qW; rw [cq]; omega,by show aE (i+1)<=(((l++[_]).length:Nat):Int); unfold lim at qW; simp only [List.length_cons,List.length_nil,List.length_append] at qW ⊢; rw [cq]; omega⟩);have hlen:(l++[_]).length<=24:=hlen;simp only [List.length_append,List.length_cons,List.length_nil] at hlen;rcases List.mem_append.1 j with j | j
  ·exact ai (by omega) x j
  ·rw [List.mem_singleton.1 j];have eF:=(t18 i aO (by omega)).eq ak;show (_++y).size<=4 * dn;rw [ByteArray.size_append];show 1+y.size<=4 * dn;simp only [dn]; omega
 -- numbers
 have cX:=jX.a;have qW:bo.aD.aX.length<=1000000000000000:=by have:=cX.hi; unfold lim at this; omega
 refine .au (Ξ:=λl:List Tok=>∃ (i next:Int),l.length=bo.aD.aX.length/\(l.length:Int)<=i/\(∀ (J:Nat) (t:Tok),l[J]?=some t->∃ t0,bo.aD.aX[J]?=some t0/\t.Name=t0.Name/\t.Lit=t0.Lit/\((t.bF=t0.bF/\(¬ (3<=J/\(J:Int)<i)\/bo.b_[J]?=some true))\/(57346<=t.bF/\t.bF<next/\3<=J/\(J:Int)<i)))/\(∀ (J k:Nat) (s t:Tok),l[J]?=some s->l[k]?=some t->57346<=s.bF->s.bF=t.bF->J=k)/\57346<=next/\next<=57343+i/\i<=l.length) ?_ λk' yR=>?_
 ·refine Par.loop (λz=>z.1.length=bo.aD.aX.length/\(∀ (J:Nat) (t:Tok),z.1[J]?=some t->∃ t0,bo.aD.aX[J]?=some t0/\t.Name=t0.Name/\t.Lit=t0.Lit/\((t.bF=t0.bF/\(¬ (3<=J/\(J:Int)<z.2.2)\/bo.b_[J]?=some true))\/(57346<=t.bF/\t.bF<z.2.1/\3<=J/\(J:Int)<z.2.2)))/\(∀ (J k:Nat) (s t:Tok),z.1[J]?=some s->z.1[k]?=some t->57346<=s.bF->s.bF=t.bF->J=k)/\57346<=z.2.1/\z.2.1<=57343+z.2.2/\3<=z.2.2/\z.2.2<=z.1.length) ⟨rfl,λJ t al=>⟨t,al,rfl,rfl,.inl ⟨rfl,.inl (by show ¬ (3<=J/\(J:Int)<3); omega)⟩⟩,λJ k s t aw al aO he=>?_,by show (57346:Int)<=57346; decide,by show (57346:Int)<=57343+3; decide,Int.le_refl 3,by have:=cX.lo; show (3:Int)<=(bo.aD.aX.length:Nat); omega⟩ λz aT=>?_
  ·have:=cX.le s (List.mem_of_getElem? aw); omega
  obtain ⟨l,next,i⟩:=z;obtain ⟨ai,fc,qU,ji,qX,VF,nn⟩:=aT;simp only at ai fc qU ji qX VF nn ⊢;have hw:aE (i+1)=i+1:=by rw [cq]; omega
  have WI:aE (next+1)=next+1:=by rw [cq]; omega
  rw [hw,WI];refine Par.bb (λaR=>?_) (λdq=>.ag ⟨i,next,ai,by omega,fc,qU,ji,qX,nn⟩);have M9:i.toNat<l.length:=by omega
  refine .au (Ξ:=λJ:List Tok × Int=>J.1.length=bo.aD.aX.length/\(∀ (k:Nat) (t:Tok),J.1[k]?=some t->∃ t0,bo.aD.aX[k]?=some t0/\t.Name=t0.Name/\t.Lit=t0.Lit/\((t.bF=t0.bF/\(¬ (3<=k/\(k:Int)<i+1)\/bo.b_[k]?=some true))\/(57346<=t.bF/\t.bF<J.2/\3<=k/\(k:Int)<i+1)))/\(∀ (a k:Nat) (s t:Tok),J.1[a]?=some s->J.1[k]?=some t->57346<=s.bF->s.bF=t.bF->a=k)/\57346<=J.2/\J.2<=57343+(i+1)) ?_ λJ aj=>.ag ⟨aj.1,aj.2.1,aj.2.2.1,aj.2.2.2.1,aj.2.2.2.2,by show 3<=i+1; omega,by show i+1<=(J.1.length:Nat); rw [aj.1,<- ai]; omega⟩;refine .go λgi rQ=>.au (Ξ:=λJ:List Tok × Int=>J.1.length=bo.aD.aX.length/\(∀ (k:Nat) (t:Tok),J.1[k]?=some t->∃ t0,bo.aD.aX[k]?=some t0/\t.Name=t0.Name/\t.Lit=t0.Lit/\((t.bF=t0.bF/\(¬ (3<=k/\(k:Int)<i+1)\/bo.b_[k]?=some true))\/(57346<=t.bF/\t.bF<J.2/\3<=k/\(k:Int)<i+1)))/\(∀ (a k:Nat) (s t:Tok),J.1[a]?=some s->J.1[k]?=some t->57346<=s.bF->s.bF=t.bF->a=k)/\57346<=J.2/\J.2<=57343+(i+1)) ?_ λJ aj=>.ag aj;obtain ⟨_,_,rQ⟩:=s4 rQ;refine Par.bj (λaK=>.go λy ak=>.ag ?_) (λaK=>.ag ⟨ai,λk t al=>?_,qU,ji,by omega⟩)
  ·obtain ⟨_,_,ak⟩:=s4 ak;obtain ⟨t0,gQ,b2,bZ,e'⟩:=fc _ y ak;have ac4:y.bF<next:=by
    rcases e' with ⟨e',_⟩ | e'
    ·have:=cX.le t0 (List.mem_of_getElem? gQ); omega
    ·exact e'.2.1
   have ly:∀ (k:Nat) (t:Tok),l[k]?=some t->t.bF<next:=λk t al=>by
    obtain ⟨t1,f0,_,_,f3⟩:=fc k t al;rcases f3 with ⟨f3,_⟩ | f3
    ·have:=cX.le t1 (List.mem_of_getElem? f0); omega
    ·exact f3.2.1
   refine ⟨by show (l.set _ _).length=_; rw [List.length_set]; exact ai,λk t al=>?_,λa k s t aw al aO he=>?_,by show 57346<=next+1; omega,by show next+1<=_; omega⟩
   ·have al:(l.set i.toNat _)[k]?=some t:=al;rw [uT M9] at al;by_cases e:k=i.toNat
    ·rw [if_pos e] at al;cases al;subst e;exact ⟨t0,gQ,b2,bZ,.inr ⟨ji,by show next<next+1; omega,by omega,by omega⟩⟩
    ·rw [if_neg e] at al;obtain ⟨t1,f0,f1,f2,f3⟩:=fc k t al;refine ⟨t1,f0,f1,f2,?_⟩;rcases f3 with ⟨f3,f4⟩ | f3
     ·exact .inl ⟨f3,f4.imp (λh=>by omega) id⟩
     ·exact .inr ⟨f3.1,by show t.bF<next+1; omega,f3.2.2.1,by omega⟩
   ·have aw:(l.set i.toNat _)[a]?=some s:=aw;have al:(l.set i.toNat _)[k]?=some t:=al;rw [uT M9] at aw al;by_cases e:a=i.toNat
    ·rw [if_pos e] at aw;cases aw;by_cases b8:k=i.toNat
     ·omega
     ·rw [if_neg b8] at al;have h1:=ly k t al;have he:next=t.bF:=he;omega
    ·rw [if_neg e] at aw;by_cases b8:k=i.toNat
     ·rw [if_pos b8] at al;cases al;have h1:=ly a s aw;have he:s.bF=next:=he;omega
     ·rw [if_neg b8] at al;exact qU a k s t aw al aO he
  ·obtain ⟨t1,f0,f1,f2,f3⟩:=fc k t al;refine ⟨t1,f0,f1,f2,?_⟩;rcases f3 with ⟨f3,f4⟩ | f3
   ·by_cases e:k=i.toNat
    ·refine .inl ⟨f3,.inr ?_⟩;rw [e,rQ];simpa using aK
    ·exact .inl ⟨f3,f4.imp (λh=>by omega) id⟩
   ·exact .inr ⟨f3.1,f3.2.1,f3.2.2.1,by omega⟩
 -- limits
 refine .au (Ξ:=λc=>c=false->k'.length<=40/\j7.length<=24) ?_ λsC wO=>?_
 ·exact Par.bb (λ_=>.ag λh=>by cases h) (λh1=>Par.bb (λ_=>.ag λh=>by cases h) (λaf=>.ag λh=>by omega))
 refine .au (Ξ:=λc=>c=false->sC=false) ?_ λzZ Hk=>?_
 ·refine Par.loop (λz=>z.1=false->sC=false) id λz aT=>?_;refine Par.bj (λ_=>?_) (λ_=>.ag aT);exact .au (Ξ:=λc=>c=false->sC=false) (Par.bj (λ_=>.ag λh=>by cases h) (λh=>.go λ_ _=>.ag λ_=>aT h)) λc aa=>.ag aa
 refine Par.bj (λ_=>.ag λh=>absurd h (by decide)) (λaa=>.ag λ_=>?_);obtain ⟨kg,kA⟩:=wO (Hk aa);obtain ⟨i,next,ai,dq,fc,qU,ji,qX,nn⟩:=yR;refine ⟨λJ t aj al=>?_,λJ t aj al=>?_,λJ k s t aw al aO Bi=>?_,λt al=>?_,yP kA⟩
 ·obtain ⟨t0,gQ,_,_,e'⟩:=fc J t al;rcases e' with ⟨e',_⟩ | e'
  ·rw [e']; exact ID.aP J t0 aj gQ
  ·omega
 ·have eN:J<k'.length:=(List.getElem?_eq_some_iff.1 al).1;obtain ⟨t0,gQ,_,_,e'⟩:=fc J t al;rcases e' with ⟨e',mB⟩ | e'
  ·rcases mB with mB | mB
   ·omega
   ·have h1:=(ID.gi J t0 aj gQ).1 mB;have af:=cX.le t0 (List.mem_of_getElem? gQ);omega
  ·omega
 ·by_cases TX:57346<=s.bF
  ·exact qU J k s t aw al TX Bi
  ·obtain ⟨eL,gQ,_,_,e'⟩:=fc J s aw;obtain ⟨t0,f0,_,_,f3⟩:=fc k t al;rcases e' with ⟨e',_⟩ | e'
   ·rcases f3 with ⟨f3,_⟩ | f3
    ·exact ID.un J k eL t0 gQ f0 (by omega) (by omega)
    ·omega
   ·omega
 ·obtain ⟨J,aj,rfl⟩:=List.mem_iff_getElem.1 al;obtain ⟨t0,gQ,b2,bZ,_⟩:=fc J _ (List.getElem?_eq_getElem aj);have:=cX.mm t0 (List.mem_of_getElem? gQ);rw [b2,bZ]; exact this
theorem aar:CC=some true:=by kernel_rfl
open Go Go.Own Go.Lib
theorem DB {a b:ByteArray}(h:a.data.toList=b.data.toList):a=b:=by
 cases a; cases b; congr; exact Array.ext' h
theorem kT (a b:ByteArray):(a++b).data.toList=a.data.toList++b.data.toList:=by rw [ByteArray.data_append,Array.toList_append]
theorem lI (a:ByteArray):a.size=a.data.toList.length:=(Array.length_toList ..).symm
theorem RT {a:ByteArray}(h:a.size=0):a=⟨#[]⟩:=DB (List.eq_nil_of_length_eq_zero (by rw [<- lI,h]))
theorem f_ (a b:ByteArray):(a++b).size=a.size+b.size:=ByteArray.size_append
theorem XT (u:Nat):1<=(decDigits u).length:=by rw [decDigits_length]; exact nDigits_pos u
theorem B_ {u:Nat}(h:u<18446744073709551616):(decDigits u).length<=20:=by
 rw [decDigits_length];rcases Nat.eq_zero_or_pos u with rfl | h1
 ·rw [nDigits_small (by omega)]; omega
 ·have:=numDigits_eq u h1 h
  split at this <;> omega
theorem LY (u:Nat) (hu:u<18446744073709551616) (f:Int × ByteArray->Option ((Int × ByteArray) ⊕ ByteArray))
  (aS:f=λ(cb:Int × ByteArray) =>
((bif decide (0<cb.1) then some true else some (decide (cb.2=⟨#[]⟩)))).bind λl9 =>
(bif l9 then
(pP cb.1 10).bind λed =>
(eS (strOfNums [gE (IntKind.u64.wrap (48+ed))]) cb.2).bind λbG =>
(pO cb.1 10).bind λcU =>
some (.inl (cU,bG))
else
some (.inr cb.2))):b6 (R:=ByteArray) f ((u:Int),⟨#[]⟩)=some ⟨(decDigits u).toArray⟩:=by
 suffices h:Tot (b6 (R:=ByteArray) f ((u:Int),⟨#[]⟩)) λr=>r=⟨(decDigits u).toArray⟩ by
  obtain ⟨r,ah,e⟩:=h; rw [ah,e]
 refine Tot.loop (λs=>∃ m:Nat,s.1=m/\m<18446744073709551616/\((s.2.size=0/\m=u)\/(0<s.2.size/\(if m=0 then [] else decDigits m)++s.2.data.toList=decDigits u)))
  (λs=>if s.1=0 then (if s.2.size=0 then 1 else 0) else (decDigits s.1.toNat).length+1) ⟨u,rfl,hu,.inl ⟨rfl,rfl⟩⟩ ?_ ?_
 ·show (if (u:Int)=0 then _ else _)<1000000000000000000
  have:=B_ hu;split
  ·split <;> omega
  ·simp only [Int.toNat_natCast]; omega
 ·rintro ⟨x,s⟩ ⟨m,j,hm,aw⟩;simp only at j aw;subst j;rw [aS];by_cases M7:0<m\/s.size=0
  ·have aa:(bif decide (0<((m:Int),s).1) then some true else some (decide (((m:Int),s).2=⟨#[]⟩)))=some true:=by
    simp only;by_cases aO:0<(m:Int)
    ·rw [decide_eq_true aO]; rfl
    ·rw [decide_eq_false aO];show some (decide (s=⟨#[]⟩))=some true;rw [decide_eq_true (RT (by omega))]
   simp only [aa,Option.bind_some,cond_true];have Ei:(m:Int).tmod 10=((m % 10:Nat):Int):=by
    rw [Int.tmod_eq_emod_of_nonneg (by omega)]; omega
   have hdiv:IntKind.u64.wrap ((m:Int).tdiv 10)=((m / 10:Nat):Int):=by
    rw [Int.tdiv_eq_ediv_of_nonneg (by omega),IntKind.wrap_u64]; omega
   have Vr:gE (IntKind.u64.wrap (48+(m:Int).tmod 10))=((48+m % 10:Nat):Int):=by
    show IntKind.u8.wrap _=_;rw [Ei,IntKind.wrap_u64,IntKind.wrap_u8]; omega
   have gu:(strOfNums [((48+m % 10:Nat):Int)]).data.toList=[UInt8.ofNat (48+m % 10)]:=rfl;have eF:(strOfNums [((48+m % 10:Nat):Int)]).size=1:=strOfNums_size _
   -- what is there behind the step
   have hd:(if m / 10=0 then [] else decDigits (m / 10))++(UInt8.ofNat (48+m % 10)::s.data.toList)=decDigits u:=by
    have bD:(if m / 10=0 then [] else decDigits (m / 10))++[UInt8.ofNat (48+m % 10)]=decDigits m:=by
     by_cases rL:m<10
     ·rw [if_pos (by omega),decDigits,dif_pos rL,Nat.mod_eq_of_lt rL]; rfl
     ·rw [if_neg (by omega)]
      conv=>rhs; rw [decDigits,dif_neg rL]
    rw [show UInt8.ofNat (48+m % 10)::s.data.toList=[UInt8.ofNat (48+m % 10)]++s.data.toList from rfl,<- List.append_assoc,bD]
    rcases aw with ⟨aO,rfl⟩ | ⟨aO,h1⟩
    ·rw [List.eq_nil_of_length_eq_zero (l:=s.data.toList) (by rw [<- lI]; exact aO),List.append_nil]
    ·rw [if_neg (by omega)] at h1; exact h1
   have adh:s.size+1<=20:=by
    have h1:=congrArg List.length hd;have af:=B_ hu;rw [List.length_append,List.length_cons,<- lI] at h1;omega
   refine .bi (.pP (by omega) (.bi ?_));rw [Vr];refine .cat (by rw [eF]; omega) (.bi (.pO (by omega) (.ag ?_)));rw [hdiv];refine ⟨⟨m / 10,rfl,by omega,.inr ⟨by rw [f_,eF]; omega,?_⟩⟩,?_⟩
   ·show _++(strOfNums [((48+m % 10:Nat):Int)]++s).data.toList=_;rw [kT,gu]; exact hd
   ·show (if ((m / 10:Nat):Int)=0 then (if (strOfNums [((48+m % 10:Nat):Int)]++s).size=0 then 1 else 0) else (decDigits ((m / 10:Nat):Int).toNat).length+1)<(if (m:Int)=0 then (if s.size=0 then 1 else 0) else (decDigits (m:Int).toNat).length+1)
    rw [f_,eF];simp only [Int.toNat_natCast];by_cases aO:m=0
    ·have:s.size=0:=by omega
     subst aO;simp [this]
    ·have Bm:¬ (m:Int)=0:=by omega
     rw [if_neg Bm];by_cases rL:m<10
     ·rw [if_pos (show ((m / 10:Nat):Int)=0 by omega),if_neg (by omega)];have:=XT m; omega
     ·rw [if_neg (show ¬ ((m / 10:Nat):Int)=0 by omega)];have:decDigits m=decDigits (m / 10)++[UInt8.ofNat (48+m % 10)]:=by conv=>lhs; rw [decDigits,dif_neg rL]
      rw [this,List.length_append]; simp
  ·have aO:m=0:=by omega
   subst aO;have Nv:0<s.size:=by omega
   have cy:¬ s=⟨#[]⟩:=λe=>by rw [e] at Nv; exact absurd Nv (by decide)
   simp only [Int.natCast_zero,Int.lt_irrefl,decide_false,cond_false,Option.bind_some,decide_eq_false cy];refine .ag ?_;rcases aw with ⟨h,_⟩ | ⟨_,h⟩
   ·omega
   ·rw [if_pos rfl] at h;exact DB h
theorem mZ (n:Int) (h:-9223372036854775808<=n/\n<=9223372036854775807):k9 n=some ⟨(k1 n).toArray⟩:=by
 rw [I8 h];unfold k9 Lib.itoa;by_cases aO:n<0
 ·have e:IntKind.u64.wrap (-(IntKind.u64.wrap n))=((n.natAbs:Nat):Int):=by
   rw [IntKind.wrap_u64,IntKind.wrap_u64]; omega
  simp only [decide_eq_true aO,cond_true,Option.bind_some,e,if_pos aO];rw [LY n.natAbs (by omega) _ rfl,Option.bind_some];have eF:({ data:=(decDigits n.natAbs).toArray }:ByteArray).size<=20:=by rw [lI]; exact B_ (by omega)
  have:eS ⟨#[45]⟩ ⟨(decDigits n.natAbs).toArray⟩=some ⟨(45::decDigits n.natAbs).toArray⟩:=by
   unfold eS;rw [if_pos (by have:(⟨#[45]⟩:ByteArray).size=1:=rfl; omega)];rfl
  rw [this]; rfl
 ·have e:IntKind.u64.wrap n=((n.toNat:Nat):Int):=by rw [IntKind.wrap_u64]; omega
  simp only [decide_eq_false aO,cond_false,Option.bind_some,e,if_neg aO];rw [LY n.toNat (by omega) _ rfl]; rfl
theorem EH (n:Int) (h:-9223372036854775808<=n/\n<=9223372036854775807):(k1 n).length<=21:=by
 rw [I8 h];unfold Lib.itoa;split
 ·have:=B_ (u:=n.natAbs) (by omega); simp only [List.length_cons]; omega
 ·have:=B_ (u:=n.toNat) (by omega); omega
theorem DF (n:Int) (h:-9223372036854775808<=n/\n<=9223372036854775807):s5 n=some ⟨(k1 n).toArray⟩:=by unfold s5; rw [if_pos h]
def i64 (n:Int):Prop:=-9223372036854775808<=n/\n<=9223372036854775807
def cN:Nat->List Int->List UInt8
 | _,[]=>[]
 | k,x::l=>(if 0<k then [44,32] else [])++(k1 x++cN (k+1) l)
def xg:List UInt8:=[118,97,114,32]
def xh:List UInt8:=[32,61,32,91,93,105,110,116,123]
def zk (name:ByteArray) (l:List Int):List UInt8:=xg++name.data.toList++xh++cN 0 l++[125]
theorem NV:∀ (l:List Int) (k:Nat),(∀ x∈l,i64 x)->(cN k l).length<=23 * l.length
 | [],k,_=>by simp [cN]
 | x::l,k,h=>by
  have h1:=EH x (h x (by simp));have af:=NV l (k+1) λy ak=>h y (by simp [ak]);simp only [cN,List.length_append,List.length_cons]
  split <;> simp <;> omega
theorem R6 {x s:ByteArray}(h:x.size+s.size<=140737488355328):mY x s=some (x++s):=by unfold mY; rw [if_pos h]
theorem _root_.Go.Own.Tot.mz {Φ:ByteArray->Prop}{s u:ByteArray}(h:s.size+u.size<=140737488355328) (hk:Φ (s++u)):Tot (mY s u) Φ:=⟨_,R6 h,hk⟩
theorem Jm:(⟨#[118,97,114,32]⟩:ByteArray).size=4:=rfl
theorem N6:(⟨#[32,61,32,91,93,105,110,116,123]⟩:ByteArray).size=9:=rfl
theorem N5:(⟨#[44,32]⟩:ByteArray).size=2:=rfl
theorem N4:(⟨#[125]⟩:ByteArray).size=1:=rfl
theorem Xd {α:Type}{l:List α}{i:Nat}(h:i<l.length):idx l (i:Int)=some l[i]:=by
 simp [idx,h]
theorem Tf {l:List Int}{i:Nat}(h:i<l.length):l.drop i=l[i]::l.drop (i+1):=(List.getElem_cons_drop h).symm
theorem zd {n:Int}(h:i64 n):({ data:=(k1 n).toArray }:ByteArray).size<=21:=by rw [lI]; exact EH n h
theorem R9 (name:ByteArray) (l:List Int) (aA:name.size<=1000000000) (ai:l.length<=1000000000) (ah:∀ x∈l,i64 x):xx name l=some ⟨(zk name l).toArray⟩:=by
 suffices h:Tot (xx name l) λr=>r.data.toList=zk name l by
  obtain ⟨r,ah,e⟩:=h; rw [ah]; exact congrArg some (DB e)
 unfold xx;refine .bi (.cat (by rw [Jm]; omega) (.bi (.cat (by rw [f_,Jm,N6]; omega) (.bi (.mz (by simp only [f_,Jm,N6]; have:(⟨#[]⟩:ByteArray).size=0:=rfl; omega) ?_)))));have rP:((⟨#[]⟩:ByteArray)++((⟨#[118,97,114,32]⟩:ByteArray)++name++⟨#[32,61,32,91,93,105,110,116,123]⟩)).data.toList=xg++name.data.toList++xh:=by
  rw [kT,kT,kT]; rfl
 refine .au (Ξ:=λr=>r.data.toList=xg++name.data.toList++xh++cN 0 l/\r.size<=13+name.size+23 * l.length) (Tot.count (λs=>s.2) l.length
  (λs=>∃ i:Nat,s.2=i/\i<=l.length/\s.1.data.toList++cN i (l.drop i)=xg++name.data.toList++xh++cN 0 l/\s.1.size<=13+name.size+23 * i) ⟨0,rfl,by omega,by rw [rP]; rfl,by rw [lI,rP,List.length_append,List.length_append,<- lI]; show 4+name.size+9<=_; omega⟩ (by simp only; omega) ?_) ?_
 ·rintro ⟨s,x⟩ ⟨i,j,hi,he,aT⟩;simp only at j he aT;subst j;refine Tot.bb (λaR=>?_) (λdq=>.ag ⟨by
   have:i=l.length:=by omega
   subst this;rw [List.drop_length] at he;simpa [cN] using he,by
    have:i=l.length:=by omega
    subst this;exact aT⟩)
  have n1:i<l.length:=by simpa using aR
  simp only [Xd n1,Option.bind_some];have av:=ah l[i] (List.getElem_mem n1);rw [Tf n1] at he;have fin:∀ J:ByteArray,J.data.toList=s.data.toList++(if 0<i then [44,32] else [])->J.size<=s.size+2->Tot ((s5 l[i]).bind λdU=>(mY J dU).bind λeQ=>some (.inl (eQ,aE ((i:Int)+1))))
    (ft (λ(cu:ByteArray × Int)=>(∃ pA:Nat,cu.2=pA/\pA<=l.length/\cu.1.data.toList++cN pA (l.drop pA)=xg++name.data.toList++xh++cN 0 l/\cu.1.size<=13+name.size+23 * pA)/\(i:Int)<cu.2/\cu.2<=l.length) λ(r:ByteArray)=>r.data.toList=xg++name.data.toList++xh++cN 0 l/\r.size<=13+name.size+23 * l.length):=by
   intro J aj acX;rw [DF _ av,Option.bind_some];have acj:=zd av;refine .bi (.mz (by omega) (.ag ?_));have hw:aE ((i:Int)+1)=((i+1:Nat):Int):=by rw [FH (by omega) (by omega)]; omega
   refine ⟨⟨i+1,hw,by omega,?_,by rw [f_]; omega⟩,by rw [hw]; omega,by rw [hw]; omega⟩;show (J++{ data:=(k1 l[i]).toArray }).data.toList++_=_;rw [kT,aj,<- he];simp [cN]
  by_cases aO:0<i
  ·simp only [decide_eq_true (show (0:Int)<(i:Int) by omega),cond_true];refine .bi (.bi (.mz (by rw [N5]; omega) (.ag ?_)));exact fin _ (by rw [kT,if_pos aO]) (by rw [f_,N5]; omega)
  ·simp only [decide_eq_false (show ¬ (0:Int)<(i:Int) by omega),cond_false,Option.bind_some];exact fin s (by rw [if_neg aO,List.append_nil]) (by omega)
 ·rintro r ⟨iR,ij⟩;refine .bi (.mz (by rw [N4]; omega) (.bi ?_));have cy:(r++(⟨#[125]⟩:ByteArray)).size≠0:=by rw [f_,N4]; omega
  refine ⟨_,by unfold wz; rw [if_neg cy],.ag ?_⟩;rw [kT,iR]; rfl
/-- The reference's line. -/
theorem S5 (s:ByteArray) (m n:Int):(p6 s m n).data.toList=(s.data.toList.drop m.toNat).take (n.toNat - m.toNat):=by
 unfold p6;rw [ByteArray.data_extract,Array.toList_extract]
theorem LW {s:ByteArray}{m n:Int}{l:List UInt8}(h:0<=m/\m<=n/\n<=s.size) (ai:(s.data.toList.drop m.toNat).take (n.toNat - m.toNat)=l):lK s m n=some ⟨l.toArray⟩:=by
 unfold lK;rw [if_pos h];exact congrArg some (DB (by rw [S5,ai]))
abbrev dE:ByteArray:=⟨#[]⟩
def iy:List Tok:=[⟨⟨#[36,101,110,100]⟩,false,0,0,0,dE⟩,⟨⟨#[101,114,114,111,114]⟩,false,(-1),0,0,dE⟩,⟨⟨#[36,117,110,107]⟩,false,(-1),0,0,dE⟩]
abbrev dY:ByteArray:=⟨#[115]⟩
abbrev sx:Prod:=⟨0,[1001],-1,dE,[],0⟩
def k5:Int->List Tok->List Bool->List Tok
 | n,t::ts,b::bn=>(bif b then t else ⟨t.Name,t.Lit,n,t.Level,t.e9,t.Tag⟩)::k5 (bif b then n else n+1) ts bn
 | _,ts,_=>ts
theorem E7:∀ (ts:List Tok) (bn:List Bool) (n:Int),(k5 n ts bn).length=ts.length
 | [],_,_=>by simp [k5]
 | _::_,[],_=>by simp [k5]
 | _::ts,_::bn,n=>by simp [k5,E7 ts bn]
abbrev l6:List e4:=[⟨⟨#[36,97,99,99,101,112,116]⟩,dE⟩,⟨dY,dE⟩]
structure fV (m:c3) (T:List Tok) (G:List Bool) (dT:List ByteArray) (P:List Prod):Prop where
 e:m.cI=0
 t:m.aD.aX=T
 g:m.b_=G
 ty:m.cp=[]
 dT:m.bX=dT
 fN:m.bQ=0
 fl:m.aD.a1=P
theorem OJ {m:c3}{x:Sym}(h:∀ t∈m.aD.aX,t.Name≠x.Name):Par (qv m x) λr=>r=-1:=by
 unfold qv;refine .au (Ξ:=ft (λ_=>True) (λ_:Int=>False)) ?_ λr ah=>?_
 ·refine Par.loop (λ_=>True) trivial λs _=>Par.bj (λ_=>?_) (λ_=>.ag trivial);refine .au (Ξ:=λc=>c=false) (.go λy ak=>Par.bb (λe=>absurd e (h y (jH ak))) (λ_=>.ag rfl)) λc aa=>?_;subst aa;exact .ag trivial
 ·rcases r with r | r
  ·exact .ag rfl
  ·exact ah.elim
theorem Yg {m:c3}{n:ByteArray}(h:∀ t∈m.aD.aX,t.Name=n->t.Lit=true):Par (qv m ⟨n,false,0,0⟩) λr=>r=-1:=by
 unfold qv;refine .au (Ξ:=ft (λ_=>True) (λ_:Int=>False)) ?_ λr ah=>?_
 ·refine Par.loop (λ_=>True) trivial λs _=>Par.bj (λ_=>?_) (λ_=>.ag trivial);refine .au (Ξ:=λc=>c=false) (.go λy ak=>Par.bb (λe=>?_) (λ_=>.ag rfl)) λc aa=>?_
  ·rw [ak];have:=h y (jH ak) e;simp only [Option.bind_some,this];exact .ag rfl
  subst aa;exact .ag trivial
 ·rcases r with r | r
  ·exact .ag rfl
  ·exact ah.elim
theorem OM {m:c3}{n:Int}(h:∀ t∈m.aD.aX,t.bF≠n):Par (s' m n) λr=>r=-1:=by
 unfold s';refine .au (Ξ:=ft (λ_=>True) (λ_:Int=>False)) ?_ λr ah=>?_
 ·refine Par.loop (λ_=>True) trivial λs _=>Par.bj (λ_=>?_) (λ_=>.ag trivial);exact .go λy ak=>Par.bb (λe=>absurd e (h y (jH ak))) (λ_=>.ag trivial)
 ·rcases r with r | r
  ·exact .ag rfl
  ·exact ah.elim
theorem Ye {m:c3}{d:Decl}{x:Sym}{T:List Tok}{G:List Bool}{dT:List ByteArray}{P:List Prod}{b:Int}(hm:fV m T G dT P) (hk:d.Kind=1) (al:d.Tag=dE) (aA:x.bF=0) (cX:3<=T.length/\T.length<=1000)
  (av:x.Lit=true->gz x.Name 0=some b/\0<=b/\b<=255/\∀ t∈T,t.bF≠b) (h1:∀ t∈T,t.Name≠x.Name):Par (pK m d x) λbd=>fV bd (T++[⟨x.Name,x.Lit,bif x.Lit then b else 0,0,0,dE⟩]) (G++[x.Lit]) dT P:=by
 unfold pK;rw [hk,al,aA];have Xw:decide ((1:Int)=5)=false:=rfl;have vM:decide ((1:Int)=1)=true:=rfl;have Xx:decide (dE=(⟨#[]⟩:ByteArray))=true:=decide_eq_true rfl;have k0:decide ((0:Int)<0)=false:=rfl;rw [Xw,vM,Xx,k0];simp only [cond_false,Bool.not_true];refine .au (Ξ:=λr:Int × c3=>r.1=(T.length:Int)/\fV r.2 (T++[⟨x.Name,x.Lit,bif x.Lit then b else 0,0,0,dE⟩]) (G++[x.Lit]) dT P) ?_ λr ah=>?_
 ·unfold q8;refine .au (OJ (by rw [hm.t]; exact h1)) λi hi=>?_;subst hi;have qT:decide (0<=(-1:Int))=false:=rfl;rw [qT];simp only [cond_false];refine .au (Ξ:=λr:c3 × Int=>r=(m,bif x.Lit then b else 0)) ?_ λr ah=>?_
  ·refine Par.bj (λe=>?_) (λe=>.ag (by rw [e]; rfl));obtain ⟨av,A',nW,af⟩:=av e;have hw:aE b=b:=by rw [cq]; omega
   rw [av,e];simp only [Option.bind_some,hw,cond_true];refine .au (OM (n:=b) (by rw [hm.t]; exact af)) λi hi=>?_;subst hi;rw [qT];exact .ag rfl
  ·subst ah;refine Par.ap λ_=>Par.ap λ_=>.ag ⟨?_,hm.e,by show m.aD.aX++_=_; rw [hm.t],by show m.b_++_=_; rw [hm.g],hm.ty,hm.dT,hm.fN,hm.fl⟩;show aE (((m.aD.aX++[_]).length:Int) - 1)=_;rw [hm.t,List.length_append,List.length_singleton,cq]; omega
 ·obtain ⟨i,m1⟩:=r;obtain ⟨hi,h⟩:=ah;simp only at hi h ⊢;subst hi;simp only [Option.bind_some];exact .go λ_ _=>.go λ_ _=>.go λ_ _=>.ag h
theorem Yu {ds:List Decl}{A:List Alt}(aP:∀ d∈ds,Par (r_ d) λr=>r=true) (vg:A≠[]) (dp:∀ a∈A,Par (qw a) λr=>r=true):Par (uM ⟨dE,ds,[⟨dY,A,0⟩],dE⟩) λr=>r=true:=by
 unfold uM;refine .au (Ξ:=ft (λ_=>True) (λ_:Bool=>False)) ?_ λx j=>?_
 ·refine Par.loop (λs=>s=0) rfl λs aw=>?_;subst aw;have:decide (aE (0+1)<((dE.size:Nat):Int))=false:=rfl;rw [this];exact .ag trivial
 ·rcases x with _ | r
  ·refine .au (Ξ:=ft (λ_=>True) (λ_:Bool=>False)) ?_ λx j=>?_
   ·refine Par.loop (λ_=>True) trivial λs _=>Par.bj (λ_=>.go λy ak=>.au (aP y (jH ak)) λc aa=>?_) (λ_=>.ag trivial);subst aa;exact .ag trivial
   ·rcases x with _ | r
    ·refine .au (Ξ:=ft (λ_=>True) (λ_:Bool=>False)) ?_ λx j=>?_
     ·refine Par.loop (λ_=>True) trivial λs _=>Par.bj (λ_=>.go λy ak=>?_) (λ_=>.ag trivial);have:=List.mem_singleton.1 (jH ak);subst this;have b2:uG dY=some true:=by kernel_rfl
      have bZ:decide ((A.length:Int)=0)=false:=decide_eq_false λe=>vg (List.eq_nil_of_length_eq_zero (by omega));rw [b2];simp only [Option.bind_some,Bool.not_true,cond_false,bZ];refine .au (Ξ:=ft (λ_=>True) (λ_:Bool=>False)) ?_ λx j=>?_
      ·refine Par.loop (λ_=>True) trivial λs _=>Par.bj (λ_=>.go λy ak=>.au (dp y (jH ak)) λc aa=>?_) (λ_=>.ag trivial);subst aa;exact .ag trivial
      ·rcases x with _ | r
       ·exact .ag trivial
       ·exact j.elim
     ·rcases x with _ | r
      ·exact .ag rfl
      ·exact j.elim
    ·exact j.elim
  ·exact j.elim
theorem Yr {m:c3}(h:m.bX=[]) (n:ByteArray):Par (pL m n) λr=>r=-1:=by
 unfold pL;refine .au (Ξ:=ft (λ_=>True) (λ_:Int=>False)) ?_ λr ah=>?_
 ·refine Par.loop (λ_=>True) trivial λs _=>Par.bj (λ_=>.go λy ak=>?_) (λ_=>.ag trivial);have:=jH ak;rw [h] at this; cases this
 ·rcases r with r | r
  ·exact .ag rfl
  ·exact ah.elim
theorem JO {m:c3}(h:m.bX=[dY]):Par (pL m dY) λr=>r=0:=by
 unfold pL;refine .au (Ξ:=ft (λ_=>False) (λr:Int=>r=0)) ?_ λr ah=>?_
 ·refine Par.loop (λs=>s=0) rfl λs aw=>?_;subst aw;rw [h];have b2:decide ((0:Int)<(([dY]:List ByteArray).length:Int))=true:=rfl;have bZ:idx [dY] 0=some dY:=rfl;rw [b2,bZ];simp only [cond_true,Option.bind_some,decide_true];exact .ag rfl
 ·rcases r with r | r
  ·exact ah.elim
  ·exact .ag ah
theorem Ys {m:c3}(h:m.cp=[]) (n:ByteArray):Par (vR m n) λr=>r=-1:=by
 unfold vR;refine .au (Ξ:=ft (λ_=>True) (λ_:Int=>False)) ?_ λr ah=>?_
 ·refine Par.loop (λ_=>True) trivial λs _=>Par.bj (λ_=>.go λy ak=>?_) (λ_=>.ag trivial);have:=jH ak;rw [h] at this; cases this
 ·rcases r with r | r
  ·exact .ag rfl
  ·exact ah.elim
theorem Yq {ds:List Decl}{A:List Alt}{Td Ta:Nat->List Tok}{Gd Ga:Nat->List Bool}{Pa:Nat->List Prod}(Bh:ds=[]\/∃ d,ds=[d]) (hk:∀ d∈ds,d.Kind=1) (TN:∀ d∈ds,Par (r_ d) λr=>r=true) (vg:A≠[]) (Hp:A.length<=1000) (MB:∀ d∈ds,d.ev.length<=1000) (wO:∀ a∈A,Par (qw a) λr=>r=true)
  (D6:Td 0=iy) (AZ:Gd 0=[false,false,false]) (Et:∀ d∈ds,∀ (J:Nat) (x:Sym),d.ev[J]?=some x->∀ m,fV m (Td J) (Gd J) [] []->Par (pK m d x) λbd=>fV bd (Td (J+1)) (Gd (J+1)) [] [])
  (UJ:Ta 0=Td (ds.flatMap (·.ev)).length) (Uk:Ga 0=Gd (ds.flatMap (·.ev)).length) (Uy:Pa 0=[sx]) (aw:∀ t∈Ta 0,t.Name=dY->t.Lit=true)
  (oG:∀ (J:Nat) (a:Alt),A[J]?=some a->∀ m,fV m (Ta J) (Ga J) [dY] (Pa J)->Par (ob m dY a) λbd=>fV bd (Ta (J+1)) (Ga (J+1)) [dY] (Pa (J+1)))
  (Bj:(Ga A.length).length=(Ta A.length).length) (TR:3<=(Ta A.length).length/\(Ta A.length).length<=40) (My:(Pa A.length).length<=60) (mG:∀ p∈Pa A.length,p.e1.length<=8) :
  Par (oc ⟨dE,ds,[⟨dY,A,0⟩],dE⟩) λr=>r.2.1=0/\r.1.aX=(Ta A.length).take 3++k5 57346 ((Ta A.length).drop 3) ((Ga A.length).drop 3)/\r.1.a1=Pa A.length/\r.1.bO=l6:=by
 unfold oc;refine .au (Yu TN vg wO) λc aa=>?_;subst aa;simp only [Bool.not_true,cond_false];refine .au (Ξ:=λl=>l=List.replicate 3 false) (λa e=>by unfold nB at e; split at e <;> cases e; rfl) λaZ kh=>?_;subst kh
 -- declarations
 refine .au (Ξ:=λr:c3 × ByteArray=>fV r.1 (Ta 0) (Ga 0) [] []/\r.2=dE) ?_ λbM ct=>?_
 ·refine Par.loop (λz=>z.2.1=dE/\∃ k:Nat,z.2.2=(k:Int)/\k<=ds.length/\fV z.1 (Td ((ds.take k).flatMap (·.ev)).length) (Gd ((ds.take k).flatMap (·.ev)).length) [] []) ⟨rfl,0,rfl,Nat.zero_le _,rfl,D6.symm,AZ.symm,rfl,rfl,rfl,rfl⟩ λz aT=>?_;obtain ⟨m,mm,i⟩:=z;obtain ⟨w1,k,hi,ac0,hm⟩:=aT;simp only at w1 hi hm ⊢;subst w1 hi;refine Par.bb (λaR=>?_) (λdq=>.ag ?_)
  ·refine .go λd aP=>?_;have Bg:ds=[d]/\k=0:=by
    rcases Bh with rfl | ⟨S9,rfl⟩
    ·exact absurd (jH aP) (by simp)
    ·have:=List.mem_singleton.1 (jH aP);subst this;refine ⟨rfl,?_⟩;have aR:(k:Int)<((([d]:List Decl).length:Nat):Int):=aR;simp only [List.length_cons,List.length_nil] at aR;omega
   obtain ⟨rfl,rfl⟩:=Bg;have vr:=hk d (by simp);have c1:decide (2<=d.Kind)=false:=by rw [vr]; rfl
   have m_:decide (d.Kind=6)=false:=by rw [vr]; rfl
   rw [c1,m_];simp only [cond_false,Option.bind_some,Bool.not_false,cond_true];refine .au (Ξ:=λr:c3 × ByteArray=>fV r.1 (Td d.ev.length) (Gd d.ev.length) [] []/\r.2=dE) ?_ λr ah=>.ag ⟨ah.2,1,rfl,by simp,?_⟩
   ·refine Par.loop (λz=>z.2.1=dE/\∃ J:Nat,z.2.2=(J:Int)/\J<=d.ev.length/\fV z.1 (Td J) (Gd J) [] []) ⟨rfl,0,rfl,Nat.zero_le _,?_⟩ λz aT=>?_
    ·have hm:fV m (Td 0) (Gd 0) [] []:=hm;exact ⟨hm.e,hm.t,hm.g,hm.ty,hm.dT,hm.fN,hm.fl⟩
    ·obtain ⟨m2,mm,i⟩:=z;obtain ⟨w1,J,hi,aj,w0⟩:=aT;simp only at w1 hi w0 ⊢;subst w1 hi;refine Par.bb (λaR=>?_) (λdq=>.ag ⟨?_,rfl⟩)
     ·refine .au (Ξ:=λr:c3 × ByteArray=>fV r.1 (Td (J+1)) (Gd (J+1)) [] []/\r.2=dE) (.go λx j=>?_) λr ah=>.ag ⟨ah.2,J+1,?_,by omega,ah.1⟩
      ·obtain ⟨_,_,j⟩:=s4 j;exact .au (Et d (by simp) J x j m2 w0) λm3 aF=>.ag ⟨aF,rfl⟩
      ·show aE ((J:Int)+1)=_;have:=MB d (by simp);exact ep J (by omega)
     ·have:J=d.ev.length:=by omega
      subst this; exact w0
   ·show fV r.1 _ _ _ _;simpa using ah.1
  ·have dq:k=ds.length:=by omega
   subst dq;rw [List.take_length,<- UJ,<- Uk] at hm;exact ⟨hm,rfl⟩
 obtain ⟨ct,bL⟩:=ct
 -- left sides
 refine .au (Ξ:=λm:c3=>fV m (Ta 0) (Ga 0) [dY] []) ?_ λcD wP=>?_
 ·refine Par.loop (λz=>(z.2=0/\fV z.1 (Ta 0) (Ga 0) [] [])\/(z.2=1/\fV z.1 (Ta 0) (Ga 0) [dY] [])) (.inl ⟨rfl,ct⟩) λz aT=>?_;obtain ⟨m,i⟩:=z;rcases aT with ⟨hi,hm⟩ | ⟨hi,hm⟩
  ·simp only at hi hm ⊢;subst hi;have b2:decide ((0:Int)<(([(⟨dY,A,0⟩:hU)]:List hU).length:Int))=true:=rfl;have bZ:idx [(⟨dY,A,0⟩:hU)] 0=some ⟨dY,A,0⟩:=rfl;rw [b2,bZ];simp only [cond_true,Option.bind_some];refine .au (Ξ:=λm:c3=>fV m (Ta 0) (Ga 0) [dY] []) ?_ λm2 af=>.ag (.inr ⟨rfl,af⟩);refine .au (Yg (n:=dY) (by rw [hm.t]; exact aw)) λr ah=>?_;subst ah;have qT:decide (0<=(-1:Int))=false:=rfl;rw [qT];simp only [cond_false,Option.bind_some];refine .au (Yr hm.dT dY) λr ah=>?_;subst ah;have c1:decide ((-1:Int)<0)=true:=rfl;rw [c1];simp only [cond_true];refine .au (Ξ:=λl:List ByteArray=>l=[dY]) (Par.ap λ_=>.ag (by rw [hm.dT]; rfl)) λl ai=>.ag ⟨hm.e,hm.t,hm.g,hm.ty,ai,hm.fN,hm.fl⟩
  ·simp only at hi hm ⊢;subst hi;have b2:decide ((1:Int)<(([(⟨dY,A,0⟩:hU)]:List hU).length:Int))=false:=rfl;rw [b2];exact .ag hm
 refine .au (Ξ:=λm:c3=>fV m (Ta 0) (Ga 0) [dY] []) ?_ λfq lM=>?_
 ·refine Par.loop (λz=>fV z.1 (Ta 0) (Ga 0) [dY] []) wP λz aT=>?_;refine Par.bj (λ_=>?_) (λ_=>.ag aT);refine .au (Ξ:=λm:c3=>fV m (Ta 0) (Ga 0) [dY] []) ?_ λm2 af=>.ag af;refine Par.loop (λz=>fV z.1 (Ta 0) (Ga 0) [dY] []) aT λz aT=>?_;refine .go λd aP=>Par.bj (λ_=>?_) (λ_=>.ag aT);refine .au (Ξ:=λm:c3=>fV m (Ta 0) (Ga 0) [dY] []) (.go λ_ _=>.go λx _=>?_) λm2 af=>.ag af;rw [aP];have oC:decide (5<=d.Kind)=false:=by rw [hk d (jH aP)]; rfl
  simp only [Option.bind_some,oC,cond_false];exact .ag aT
 have b2:decide (bM.2=(⟨#[]⟩:ByteArray))=true:=decide_eq_true bL;rw [b2];have bZ:idx [(⟨dY,A,0⟩:hU)] 0=some ⟨dY,A,0⟩:=rfl;rw [bZ];simp only [cond_true,Option.bind_some];refine .au (JO lM.dT) λr ah=>?_;subst ah
 -- alternatives
 refine .au (Ξ:=λm:c3=>fV m (Ta A.length) (Ga A.length) [dY] (Pa A.length)) ?_ λbo jX=>?_
 ·refine Par.loop (λz=>(z.2=0/\fV z.1 (Ta 0) (Ga 0) [dY] (Pa 0))\/(z.2=1/\fV z.1 (Ta A.length) (Ga A.length) [dY] (Pa A.length))) (.inl ⟨rfl,lM.e,lM.t,lM.g,lM.ty,lM.dT,lM.fN,Uy.symm⟩) λz aT=>?_;obtain ⟨m,i⟩:=z;rcases aT with ⟨hi,hm⟩ | ⟨hi,hm⟩
  ·simp only at hi hm ⊢;subst hi;have b2:decide ((0:Int)<(([(⟨dY,A,0⟩:hU)]:List hU).length:Int))=true:=rfl;rw [b2];simp only [cond_true];refine .au (Ξ:=λm:c3=>fV m (Ta A.length) (Ga A.length) [dY] (Pa A.length)) ?_ λm2 af=>.ag (.inr ⟨rfl,af⟩);refine Par.loop (λz=>∃ J:Nat,z.2=(J:Int)/\J<=A.length/\fV z.1 (Ta J) (Ga J) [dY] (Pa J)) ⟨0,rfl,Nat.zero_le _,hm⟩ λz aT=>?_;obtain ⟨m2,i⟩:=z;obtain ⟨J,hi,aj,w0⟩:=aT;simp only at hi w0 ⊢;subst hi;rw [bZ];simp only [Option.bind_some];refine Par.bb (λaR=>.go λa aQ=>?_) (λdq=>.ag ?_)
   ·obtain ⟨_,_,aQ⟩:=s4 aQ;refine .au (oG J a aQ m2 w0) λm3 aF=>.ag ⟨J+1,?_,by omega,aF⟩;show aE ((J:Int)+1)=_;exact ep J (by omega)
   ·have:J=A.length:=by omega
    subst this; exact w0
  ·simp only at hi hm ⊢;subst hi;have b2:decide ((1:Int)<(([(⟨dY,A,0⟩:hU)]:List hU).length:Int))=false:=rfl;rw [b2];exact .ag hm
 have e':decide (bo.cI=0)=true:=decide_eq_true jX.e;have Wv:=jX.ty;rw [e',jX.dT,jX.fN,jX.g,jX.t,jX.fl,Wv];simp only [Bool.not_true,cond_false]
 -- nonterminals
 refine .au (Ξ:=λl:List e4=>l=l6) ?_ λsr wQ=>?_
 ·refine Par.loop (λz=>(z.2=0/\z.1=[⟨⟨#[36,97,99,99,101,112,116]⟩,dE⟩])\/(z.2=1/\z.1=l6)) (.inl ⟨rfl,rfl⟩) λz aT=>?_;obtain ⟨l,i⟩:=z;rcases aT with ⟨hi,ai⟩ | ⟨hi,ai⟩
  ·simp only at hi ai ⊢;subst hi ai;have b2:decide ((0:Int)<(([dY]:List ByteArray).length:Int))=true:=rfl;have bZ:idx [dY] 0=some dY:=rfl;rw [b2,bZ];simp only [cond_true,Option.bind_some];refine .au (Ys (by rfl) dY) λr ah=>?_;subst ah;have qT:decide (0<=(-1:Int))=false:=rfl;rw [qT];simp only [cond_false,Option.bind_some];exact Par.ap λ_=>.ag (.inr ⟨rfl,rfl⟩)
  ·simp only at hi ai ⊢;subst hi ai;have b2:decide ((1:Int)<(([dY]:List ByteArray).length:Int))=false:=rfl;rw [b2];exact .ag rfl
 refine .au (Ξ:=λl:List e4=>l=l6) ?_ λj7 yP=>?_
 ·refine Par.loop (λz=>z.2=1/\z.1=l6) ⟨rfl,wQ⟩ λz aT=>?_;obtain ⟨l,i⟩:=z;obtain ⟨hi,ai⟩:=aT;simp only at hi ai ⊢;subst hi;have b2:decide ((1:Int)<=0)=false:=rfl;rw [b2];exact .ag ai
 subst yP;generalize Ta A.length=T at *;generalize Ga A.length=G at *
 -- numbers
 refine .au (Ξ:=λl:List Tok=>l=T.take 3++k5 57346 (T.drop 3) (G.drop 3)) ?_ λk' yR=>?_
 ·refine Par.loop (λz=>∃ (D R:List Tok) (B:List Bool),z.1=T.take 3++D++R/\z.2.2=((3+D.length:Nat):Int)/\G.drop (3+D.length)=B/\D.length+R.length+3=T.length/\57346<=z.2.1/\z.2.1<=57346+D.length/\D++k5 z.2.1 R B=k5 57346 (T.drop 3) (G.drop 3)) ⟨[],T.drop 3,G.drop 3,by simp,rfl,rfl,by simp; omega,Int.le_refl _,Int.le_refl _,rfl⟩ λz aT=>?_;obtain ⟨l,eu,i⟩:=z;obtain ⟨D,R,B,ai,hi,fc,hlen,ji,qX,hd⟩:=aT;simp only at ai hi ji qX hd ⊢;subst hi;have aF:(T.take 3).length=3:=by simp; omega
  have Eg:l.length=T.length:=by rw [ai]; simp only [List.length_append,aF]; omega
  have hw:aE (((3+D.length:Nat):Int)+1)=((3+(D.length+1):Nat):Int):=by rw [cq]; omega
  have Ix:aE (eu+1)=eu+1:=by rw [cq]; omega
  rw [hw];rcases R with _ | ⟨t,R⟩
  ·have aa:decide (((3+D.length:Nat):Int)<(l.length:Int))=false:=decide_eq_false (by simp at hlen; omega);rw [aa];refine .ag ?_;rw [ai,List.append_nil,<- hd]; simp [k5]
  ·rw [List.length_cons] at hlen;have aa:decide (((3+D.length:Nat):Int)<(l.length:Int))=true:=decide_eq_true (by omega);rw [aa];have VD:∃ b Aa,B=b::Aa/\G[3+D.length]?=some b/\G.drop (3+(D.length+1))=Aa:=by
    have aR:3+D.length<G.length:=by omega
    refine ⟨G[3+D.length],G.drop (3+(D.length+1)),?_,List.getElem?_eq_getElem aR,rfl⟩;rw [<- fc,List.drop_eq_getElem_cons aR]; rfl
   obtain ⟨b,Aa,rfl,av,MA⟩:=VD;have VG:idx G ((3+D.length:Nat):Int)=some b:=by unfold idx; rw [if_pos (by omega),Int.toNat_natCast]; exact av
   have VV:l[3+D.length]?=some t:=by
    rw [ai,List.getElem?_append_right (by simp only [List.length_append,aF]; omega)];simp only [List.length_append,aF,Nat.sub_self]; rfl
   have nn:idx l ((3+D.length:Nat):Int)=some t:=by unfold idx; rw [if_pos (by omega),Int.toNat_natCast]; exact VV
   have vz:∀ y:Tok,l.set (3+D.length) y=T.take 3++(D++[y])++R:=by
    intro y;rw [ai,List.set_append_right _ _ (by simp only [List.length_append,aF]; omega)];simp only [List.length_append,aF,Nat.sub_self,List.set_cons_zero,List.append_assoc]; rfl
   rw [VG];simp only [Option.bind_some,cond_true];cases b with
   | true =>
    simp only [Bool.not_true,cond_false,Option.bind_some];refine .ag ⟨D++[t],R,Aa,by rw [ai]; simp,by simp,by simpa using MA,by simp; omega,ji,by simp; omega,?_⟩;rw [<- hd]; simp [k5]
   | false =>
    simp only [Bool.not_false,cond_true,nn,Option.bind_some,Int.toNat_natCast,vz,Ix];refine .ag ⟨D++[_],R,Aa,rfl,by simp,by simpa using MA,by simp; omega,by show 57346<=eu+1; omega,by show eu+1<=_; simp; omega,?_⟩;rw [<- hd]; simp [k5]
 subst yR;refine .au (Ξ:=λc=>c=false) ?_ λc aa=>?_
 ·have c1:decide (40<(((T.take 3++k5 57346 (T.drop 3) (G.drop 3)).length:Nat):Int))=false:=decide_eq_false (by rw [List.length_append,E7]; simp; omega);have c2:decide (24<(l6.length:Int))=false:=rfl;have jt:decide (60<((Pa A.length).length:Int))=false:=decide_eq_false (by omega);rw [c1,c2,jt];exact .ag rfl
 subst aa;refine .au (Ξ:=λc=>c=false) ?_ λc aa=>?_
 ·refine Par.loop (λz=>z.1=false) rfl λz aT=>?_;obtain ⟨b,i⟩:=z;have aT:b=false:=aT;subst aT;refine Par.bj (λ_=>?_) (λ_=>.ag rfl);refine .au (Ξ:=λc=>c=false) (.go λp ar=>.ag ?_) λc aa=>.ag aa;have:=mG p (jH ar);exact decide_eq_false (by omega)
 subst aa;exact .ag ⟨rfl,rfl,rfl,rfl⟩
theorem Yk {m:c3}{x:Sym}{T:List Tok}{G:List Bool}{P:List Prod}{b:Int}(hm:fV m T G [dY] P) (j:x.Lit=true) (av:gz x.Name 0=some b) (aO:0<=b/\b<=255) (cX:T.length<=1000) (h1:∀ t∈T,t.Name≠x.Name) (af:∀ t∈T,t.bF≠b) :
  Par (pM m x) λr=>r.1=(T.length:Int)/\fV r.2 (T++[⟨x.Name,true,b,0,0,dE⟩]) (G++[true]) [dY] P:=by
 have hw:aE b=b:=by rw [cq]; omega
 unfold pM;rw [j];simp only [cond_true];refine .au (Ξ:=λr:Int × c3=>r.1=(T.length:Int)/\fV r.2 (T++[⟨x.Name,true,b,0,0,dE⟩]) (G++[true]) [dY] P) ?_ λr ah=>.ag ah;unfold q8;refine .au (OJ (by rw [hm.t]; exact h1)) λi hi=>?_;subst hi;have qT:decide (0<=(-1:Int))=false:=rfl;rw [qT,j];simp only [cond_false,cond_true];refine .au (Ξ:=λr:c3 × Int=>r=(m,b)) ?_ λr ah=>?_
 ·rw [av];simp only [Option.bind_some,hw];refine .au (OM (n:=b) (by rw [hm.t]; exact af)) λi hi=>?_;subst hi;rw [qT];exact .ag rfl
 ·subst ah;refine Par.ap λ_=>Par.ap λ_=>.ag ⟨?_,hm.e,by show m.aD.aX++_=_; rw [hm.t],by show m.b_++_=_; rw [hm.g],hm.ty,hm.dT,hm.fN,hm.fl⟩;show aE (((m.aD.aX++[_]).length:Int) - 1)=_;rw [hm.t,List.length_append];have:aE (((T.length+[(⟨x.Name,true,b,0,0,dE⟩:Tok)].length:Nat):Int) - 1)=(T.length:Int):=by
   simp only [List.length_cons,List.length_nil];rw [cq]; omega
  exact this
def zh (i:Nat):ByteArray:=strOfNums [gE (aE (97+(i:Int)))]
def dg (i:Nat):ByteArray:=(k9 (i:Int)).getD dE
def gl (i:Nat):ByteArray:=⟨#[116]⟩++dg i
def kS (i:Nat):ByteArray:=strOfNums [gE (aE (65+(i:Int)))]
def kI (i:Nat) (b:Bool):Sym:=bif b then ⟨zh i,true,0,0⟩ else ⟨gl i,false,0,0⟩
def tk (i:Nat) (b:Bool):Tok:=bif b then ⟨zh i,true,97+i,0,0,dE⟩ else ⟨gl i,false,0,0,0,dE⟩
def my (i:Nat) (_:Bool):Tok:=⟨kS i,true,65+i,0,0,dE⟩
abbrev sD:ByteArray:=⟨#[123,36,36,125]⟩
abbrev CS:Sym:=⟨dE,false,0,0⟩
def alt (i:Nat) (c:Bool):Alt:=⟨bif c then [⟨⟨kS i,true,0,0⟩,dE,0⟩]++[⟨CS,sD,0⟩] else [⟨⟨kS i,true,0,0⟩,dE,0⟩],CS,0⟩
abbrev tI:Alt:=⟨[],CS,0⟩
def tb (n i:Nat) (c:Bool):Prod:=⟨1,[((3+n+i:Nat):Int)],((3+n+i:Nat):Int),bif c then sD else dE,[((3+n+i:Nat):Int)],0⟩
def dB {α:Type}(f:Nat->Bool->α):Nat->List Bool->List α
 | _,[]=>[]
 | i,b::bn=>f i b::dB f (i+1) bn
section
variable {α:Type}(f:Nat->Bool->α)
theorem lq:∀ (bn:List Bool) (i:Nat),(dB f i bn).length=bn.length
 | [],_=>rfl
 | _::bn,i=>by simp [dB,lq bn]
theorem DT:∀ (bn:List Bool) (i k:Nat),(dB f i bn)[k]?=(bn[k]?).map (f (i+k))
 | [],_,_=>rfl
 | _::bn,i,0=>rfl
 | _::bn,i,k+1=>by
  simp only [dB,List.getElem?_cons_succ,DT bn (i+1) k];rw [show i+1+k=i+(k+1) by omega]
theorem DS:∀ (bn:List Bool) (i:Nat) (b:Bool),dB f i (bn++[b])=dB f i bn++[f (i+bn.length) b]
 | [],_,_=>rfl
 | _::bn,i,b=>by
  simp only [List.cons_append,dB,DS bn,List.length_cons];rw [show i+1+bn.length=i+(bn.length+1) by omega]
variable {f}
theorem p_ {bn:List Bool}{i:Nat}{x:α}(h:x∈dB f i bn):∃ k b,k<bn.length/\bn[k]?=some b/\x=f (i+k) b:=by
 obtain ⟨k,hk⟩:=List.getElem?_of_mem h;rw [DT] at hk;cases av:bn[k]? with
 | none=>rw [av] at hk; cases hk
 | some b =>
  rw [av] at hk;exact ⟨k,b,(List.getElem?_eq_some_iff.1 av).1,av,by simpa using hk.symm⟩
end
theorem P0 {bn:List Bool}{k:Nat}{b:Bool}(h:bn[k]?=some b):bn.take (k+1)=bn.take k++[b]:=by
 rw [List.take_add_one,h]; rfl
def DH (p:Nat->Bool->Bool):Bool:=(List.range 20).all λi=>p i true&&p i false
theorem rI {p:Nat->Bool->Bool}(h:DH p=true) {i:Nat}(hi:i<20) (b:Bool):p i b=true:=by
 have:=List.all_eq_true.1 h i (List.mem_range.2 hi);rw [Bool.and_eq_true] at this;cases b
 ·exact this.2
 ·exact this.1
theorem lU {i J:Nat}(hi:i<20) (aj:J<20) (b c:Bool) (h:i≠J):(tk i b).Name≠(tk J c).Name:=by
 have:=rI (p:=λi b=>DH λJ c=>decide (i=J)||!decide ((tk i b).Name=(tk J c).Name)) (by kernel_rfl) hi b;have:=rI this aj c;simpa [h] using this
theorem pD {i:Nat}(hi:i<20) (b:Bool):∀ t∈iy,t.Name≠(tk i b).Name:=by
 have:=rI (p:=λi b=>iy.all λt=>!decide (t.Name=(tk i b).Name)) (by kernel_rfl) hi b;intro t al;simpa using List.all_eq_true.1 this t al
theorem Jy {i:Nat}(hi:i<20) (b:Bool) (h:(tk i b).Name=dY):(tk i b).Lit=true:=by
 have:=rI (p:=λi b=>!decide ((tk i b).Name=dY)||(tk i b).Lit) (by kernel_rfl) hi b;simpa [h] using this
theorem Ob {i J:Nat}(hi:i<20) (aj:J<20) (b:Bool):(tk i b).Name≠kS J:=by
 have:=rI (p:=λi b=>DH λJ _=>!decide ((tk i b).Name=kS J)) (by kernel_rfl) hi b;simpa using rI this aj true
theorem XR {i J:Nat}(hi:i<20) (aj:J<20) (h:i≠J):kS i≠kS J:=by
 have:=rI (p:=λi _=>DH λJ _=>decide (i=J)||!decide (kS i=kS J)) (by kernel_rfl) hi true;simpa [h] using rI this aj true
theorem n6 {i:Nat}(hi:i<20):(∀ t∈iy,t.Name≠kS i)/\kS i≠dY:=by
 have:=rI (p:=λi _=>(iy.all λt=>!decide (t.Name=kS i))&&!decide (kS i=dY)) (by kernel_rfl) hi true;rw [Bool.and_eq_true] at this;exact ⟨λt al=>by simpa using List.all_eq_true.1 this.1 t al,by simpa using this.2⟩
theorem n7 {i:Nat}(hi:i<20):gz (zh i) 0=some (97+(i:Int))/\gz (kS i) 0=some (65+(i:Int))/\k9 (i:Int)=some (dg i):=by
 have:=rI (p:=λi _=>decide (gz (zh i) 0=some (97+(i:Int)))&&(decide (gz (kS i) 0=some (65+(i:Int)))&&decide (k9 (i:Int)=some (dg i)))) (by kernel_rfl) hi true;simpa using this
theorem n8 {i:Nat}(hi:i<20) (b:Bool):r' (kI i b) true true=some true/\qw (alt i b)=some true/\(kI i b).Name.size<=5/\(kS i).size<=5:=by
 have:=rI (p:=λi b=>decide (r' (kI i b) true true=some true)&&(decide (qw (alt i b)=some true)&&(decide ((kI i b).Name.size<=5)&&decide ((kS i).size<=5)))) (by kernel_rfl) hi b;simpa using this
theorem ZH (i:Nat) (b:Bool):(kI i b).Name=(tk i b).Name/\(kI i b).bF=0/\(kI i b).Lit=b:=by cases b <;> exact ⟨rfl,rfl,rfl⟩
theorem K8:∀ t∈iy,t.bF<65:=by
 intro t al;simp only [iy,List.mem_cons,List.not_mem_nil,or_false] at al;rcases al with rfl | rfl | rfl <;> decide
theorem P2 (i:Nat) (b:Bool):(tk i b).bF=0\/(b=true/\(tk i b).bF=97+i):=by
 cases b
 ·exact .inl rfl
 ·exact .inr ⟨rfl,rfl⟩
abbrev AL (bn:List Bool):Decl:=⟨1,dE,dB kI 0 bn,0⟩
theorem Z9 {bn:List Bool}(aO:bn≠[]) (ai:bn.length<=20):Par (r_ (AL bn)) λr=>r=true:=by
 unfold r_;have gQ:decide (((dB kI 0 bn).length:Int)=0)=false:=decide_eq_false λe=>aO (List.eq_nil_of_length_eq_zero (by rw [lq] at e; omega));refine .au (Ξ:=λc=>c=false) ?_ λc aa=>?_
 ·have b2:decide ((1:Int)<1)=false:=rfl;have bZ:decide ((6:Int)<1)=false:=rfl;have e':decide ((1:Int)=6)=false:=rfl;have mB:decide ((1:Int)=5)=false:=rfl;simp only [gQ,b2,bZ,e',mB,cond_false];exact .ag rfl
 subst aa;simp only [cond_false];refine .au (Ξ:=ft (λ_=>True) (λ_:Bool=>False)) ?_ λx j=>?_
 ·refine Par.loop (λ_=>True) trivial λs _=>Par.bj (λ_=>.go λy ak=>?_) (λ_=>.ag trivial);obtain ⟨k,b,hk,_,rfl⟩:=p_ (jH ak);rw [Nat.zero_add] at *;have:=(n8 (i:=k) (by omega) b).1;have b2:(decide True)=true:=rfl;have bZ:(decide ((1:Int)<5))=true:=rfl;rw [b2,bZ,this];exact .ag trivial
 ·rcases x with _ | r
  ·exact .ag rfl
  ·exact j.elim
theorem Z6 {bn:List Bool}(ai:bn.length<=20) {J:Nat}{b:Bool}(aj:bn[J]?=some b) (m:c3) (hm:fV m (iy++dB tk 0 (bn.take J)) ([false,false,false]++bn.take J) [] []) :
  Par (pK m (AL bn) (kI J b)) λbd=>fV bd (iy++dB tk 0 (bn.take (J+1))) ([false,false,false]++bn.take (J+1)) [] []:=by
 have eN:=(List.getElem?_eq_some_iff.1 aj).1;obtain ⟨s1,s2,cb⟩:=ZH J b;have cX:(iy++dB tk 0 (bn.take J)).length=3+J:=by rw [List.length_append,lq,List.length_take]; show 3+_=_; omega
 refine (Ye (b:=97+(J:Int)) hm rfl rfl s2 (by omega) (λe=>?_) (λt al=>?_)).use λbd h=>?_
 ·rw [cb] at e;subst e;refine ⟨(n7 (by omega)).1,by omega,by omega,λt al=>?_⟩;rcases List.mem_append.1 al with al | al
  ·have:=K8 t al; omega
  ·obtain ⟨k,c,hk,_,rfl⟩:=p_ al;rw [List.length_take] at hk;rcases P2 (0+k) c with e | ⟨_,e⟩ <;> omega
 ·rw [s1];rcases List.mem_append.1 al with al | al
  ·exact pD (by omega) b t al
  ·obtain ⟨k,c,hk,_,rfl⟩:=p_ al;rw [List.length_take] at hk;exact lU (by omega) (by omega) c b (by omega)
 ·rw [P0 aj,DS,<- List.append_assoc,<- List.append_assoc];have e:0+(bn.take J).length=J:=by rw [List.length_take]; omega
  rw [e];have bZ:(⟨(kI J b).Name,(kI J b).Lit,bif (kI J b).Lit then 97+(J:Int) else 0,0,0,dE⟩:Tok)=tk J b:=by cases b <;> rfl
  rw [bZ,cb] at h;exact h
theorem Z7 {m:c3}{T:List Tok}{G:List Bool}{P:List Prod}(i:Nat) (c:Bool) (hm:fV m T G [dY] P) (hi:i<20) (cX:T.length<=900) (h1:∀ t∈T,t.Name≠kS i) (af:∀ t∈T,t.bF≠65+(i:Int)) :
  Par (ob m dY (alt i c)) λbd=>fV bd (T++[my i c]) (G++[true]) [dY] (P++[⟨1,[(T.length:Int)],(T.length:Int),bif c then sD else dE,[(T.length:Int)],0⟩]):=by
 unfold ob;refine .au (JO hm.dT) λr ah=>?_;subst ah;have i0:idx (alt i c).Parts 0=some ⟨⟨kS i,true,0,0⟩,dE,0⟩:=by cases c <;> rfl
 have b2:decide (dE=(⟨#[]⟩:ByteArray))=true:=decide_eq_true rfl;refine .au (Ξ:=λr:c3 × List Int × ByteArray × Int=>fV r.1 (T++[my i c]) (G++[true]) [dY] P/\r.2.1=[(T.length:Int)]/\r.2.2.1=(bif c then sD else dE)/\r.2.2.2=0) ?_ λr ah=>?_
 ·refine Par.loop (λs=>(s.2.2.2.2=0/\fV s.1 T G [dY] P/\s.2.1=[]/\s.2.2.1=dE/\s.2.2.2.1=0)\/(s.2.2.2.2=1/\fV s.1 (T++[my i c]) (G++[true]) [dY] P/\s.2.1=[(T.length:Int)]/\s.2.2.1=dE/\s.2.2.2.1=0)\/(s.2.2.2.2=2/\c=true/\fV s.1 (T++[my i c]) (G++[true]) [dY] P/\s.2.1=[(T.length:Int)]/\s.2.2.1=sD/\s.2.2.2.1=0)) (.inl ⟨rfl,hm,rfl,rfl,rfl⟩) λs aw=>?_;obtain ⟨m1,rt,bj,at_,hI⟩:=s;simp only at aw ⊢;rcases aw with ⟨rfl,jF,rfl,rfl,rfl⟩ | ⟨rfl,jF,rfl,rfl,rfl⟩ | ⟨rfl,rfl,jF,rfl,rfl,rfl⟩
  ·have ai:decide ((0:Int)<((alt i c).Parts.length:Int))=true:=by cases c <;> rfl
   rw [ai,i0];simp only [cond_true,Option.bind_some];refine .au (Ξ:=λr:c3 × List Int × ByteArray × Int=>fV r.1 (T++[my i c]) (G++[true]) [dY] P/\r.2.1=[(T.length:Int)]/\r.2.2.1=dE/\r.2.2.2=0) ?_ λr ah=>.ag (.inr (.inl ⟨rfl,ah⟩));refine .au (Ξ:=λr:c3 × List Int × ByteArray × Int=>fV r.1 (T++[my i c]) (G++[true]) [dY] P/\r.2.1=[(T.length:Int)]/\r.2.2.1=dE/\r.2.2.2=0) ?_ λr ah=>.ag ah;refine .au (Ξ:=λr:c3 × List Int × ByteArray × Int=>fV r.1 (T++[my i c]) (G++[true]) [dY] P/\r.2.1=[(T.length:Int)]/\r.2.2.1=dE/\r.2.2.2=0) ?_ λr ah=>.ag ah;exact .au (Yk (x:=⟨kS i,true,0,0⟩) jF rfl (n7 hi).2.1 ⟨by omega,by omega⟩ (by omega) h1 af) λr ah=>Par.ap λ_=>.ag ⟨ah.2,by show []++[r.1]=_; rw [ah.1]; rfl,rfl,rfl⟩
  ·cases c with
   | false=>exact .ag ⟨jF,rfl,rfl,rfl⟩
   | true =>
    have ai:decide ((1:Int)<((alt i true).Parts.length:Int))=true:=rfl;have i1:idx (alt i true).Parts 1=some ⟨CS,sD,0⟩:=rfl;have bZ:decide (sD=(⟨#[]⟩:ByteArray))=false:=decide_eq_false (by decide);have e':decide (aE (1+1)=((alt i true).Parts.length:Int))=true:=rfl;rw [ai,i1];simp only [cond_true,cond_false,Option.bind_some,bZ,e'];exact .ag (.inr (.inr ⟨rfl,trivial,⟨jF.e,jF.t,jF.g,jF.ty,jF.dT,jF.fN,jF.fl⟩,rfl,rfl,rfl⟩))
  ·exact .ag ⟨jF,rfl,rfl,rfl⟩
 ·obtain ⟨m1,rt,bj,at_⟩:=r;obtain ⟨jF,rfl,rfl,rfl⟩:=ah;refine .au (Ξ:=λr:Int=>r=(T.length:Int)) ?_ λr ah=>?_
  ·refine Par.loop (λs=>(s.2=0/\s.1=-1)\/(s.2=1/\s.1=(T.length:Int))) (.inl ⟨rfl,rfl⟩) λs aw=>?_;obtain ⟨p,hI⟩:=s;have bw:idx [(T.length:Int)] 0=some (T.length:Int):=rfl;have mB:decide ((T.length:Int)<1000)=true:=decide_eq_true (by omega);rcases aw with ⟨hi,ar⟩ | ⟨hi,ar⟩
   ·simp only at hi ar ⊢;subst hi ar;have ai:decide ((0:Int)<(([(T.length:Int)]:List Int).length:Int))=true:=rfl;rw [ai,bw];simp only [cond_true,Option.bind_some,mB];exact .ag (.inr ⟨rfl,rfl⟩)
   ·simp only at hi ar ⊢;subst hi;have ai:decide ((1:Int)<(([(T.length:Int)]:List Int).length:Int))=false:=rfl;rw [ai];exact .ag ar
  subst ah;have mC:decide ((alt i c).Prec.Name=(⟨#[]⟩:ByteArray))=true:=decide_eq_true rfl;rw [mC];simp only [Bool.not_true,cond_false,Option.bind_some];refine Par.ap λ_=>Par.ap λ_=>.ag ⟨jF.e,jF.t,jF.g,jF.ty,jF.dT,jF.fN,?_⟩;show m1.aD.a1++_=_;rw [jF.fl]; rfl
theorem Z8 {m:c3}{T:List Tok}{G:List Bool}{P:List Prod}(hm:fV m T G [dY] P):Par (ob m dY tI) λbd=>fV bd T G [dY] (P++[⟨1,[],-1,dE,[],0⟩]):=by
 unfold ob;refine .au (JO hm.dT) λr ah=>?_;subst ah;refine .au (Ξ:=λr:c3 × List Int × ByteArray × Int=>r=(m,[],dE,0)) (Par.loop (λs=>s=(m,[],dE,0,0)) rfl λs aw=>by subst aw; exact .ag rfl) λr ah=>?_;subst ah;refine .au (Ξ:=λr:Int=>r=-1) (Par.loop (λs=>s=(-1,0)) rfl λs aw=>by subst aw; exact .ag rfl) λr ah=>?_;subst ah;have mC:decide (tI.Prec.Name=(⟨#[]⟩:ByteArray))=true:=decide_eq_true rfl;rw [mC];simp only [Bool.not_true,cond_false,Option.bind_some];refine Par.ap λ_=>Par.ap λ_=>.ag ⟨hm.e,hm.t,hm.g,hm.ty,hm.dT,hm.fN,?_⟩;show m.aD.a1++_=_;rw [hm.fl]; rfl
theorem I3 (n:Int):i64 (aE n):=by unfold i64; rw [cq]; omega
theorem ZR (s:ByteArray) (k:Int) (h:s.size<=dn) (hk:0<=k/\k<=s.size):Tot (vU s k) λn=>0<=n/\k+n<=s.size:=by
 unfold vU;refine Tot.au (Ξ:=λn=>0<=n/\k+n<=s.size) ?_ λa aQ=>.ag aQ;refine Tot.count (λi=>i) (s.size - k) (λi=>0<=i/\k+i<=s.size) ⟨by omega,by omega⟩ (by show ((s.size:Int) - k) - 0<_; simp only [dn] at h; omega) λi ⟨aO,h1⟩=>?_;simp only [dn] at h;have e:aE (k+i)=k+i:=by rw [cq]; omega
 rw [e];have go:∀ c:Bool,(c=true->k+i<s.size)->Tot (bif c then some (.inl (aE (i+1))) else some (.inr i)) (ft (λcu:Int=>(0<=cu/\k+cu<=s.size)/\i<cu/\cu<=s.size - k) (λr:Int=>0<=r/\k+r<=s.size)):=by
  intro c aa;refine Tot.bj (λaf=>.ag ?_) (λ_=>.ag ⟨aO,h1⟩);have:=aa af;have e:aE (i+1)=i+1:=by rw [cq]; omega
  show (0<=aE (i+1)/\k+aE (i+1)<=s.size)/\i<aE (i+1)/\aE (i+1)<=s.size - k;rw [e]; omega
 apply Tot.bi;refine Tot.bb (λaf=>?_) (λaf=>.ag (go false (by simp)));apply Tot.bi;refine Tot.kr ⟨by omega,af⟩ (Tot.au (t114 _) λc _=>?_);refine Tot.bj (λ_=>.ag (go _ λ_=>af)) (λ_=>Tot.bj (λ_=>?_) (λ_=>.ag (go _ λ_=>af)));apply Tot.bi;refine Tot.kr ⟨by omega,af⟩ (Tot.au (t96 _) λc _=>?_);refine Tot.bj (λ_=>.ag (go _ λ_=>af)) (λ_=>?_);apply Tot.bi;exact Tot.kr ⟨by omega,af⟩ (.ag (go _ λ_=>af))
theorem LX (s:ByteArray) (k:Int) (h:s.size<=dn) (hk:0<=k/\k<=s.size):Tot (b6 (R:=Int × Int) (λ(gg:Int × Int) =>
((bif decide (gg.2<(s.size:Int)) then ((gz s gg.2).bind λfZ=>((vV fZ).bind λfS=>some fS)) else some false)).bind λtO =>
(bif tO then
((bif decide (aE (gg.2 - k)<3) then
(gz s gg.2).bind λfT =>
some (aE ((aE (10 * gg.1))+(aE (gE (fT - 48)))))
else
some gg.1)).bind λuC =>
some (.inl (uC,aE (gg.2+1)))
else
some (.inr (gg.1,gg.2)))) (0,k)) λr=>i64 r.1/\k<=r.2/\r.2<=s.size:=by
 simp only [dn] at h;refine Tot.count (λz=>z.2) s.size (λz=>i64 z.1/\k<=z.2/\z.2<=s.size) ⟨(by unfold i64; decide:i64 0),Int.le_refl k,hk.2⟩ (by show (s.size:Int) - k<_; omega) λz aT=>?_;obtain ⟨v,i⟩:=z;obtain ⟨h1,af,aF⟩:=aT;simp only at h1 af aF ⊢;refine .au (Ξ:=λc=>c=true->i<s.size) (Tot.bb (λai=>.bi (.kr ⟨by omega,ai⟩ (.au (t96 _) λ_ _=>.ag λ_=>ai))) (λ_=>.ag λh=>by cases h)) λc aa=>Tot.bj (λal=>?_) (λ_=>.ag ⟨h1,af,aF⟩);have ai:=aa al;refine .au (Ξ:=i64) (Tot.bb (λ_=>.bi (.kr ⟨by omega,ai⟩ (.ag (I3 _)))) (λ_=>.ag h1)) λeg hv=>.ag ?_;have e:aE (i+1)=i+1:=by rw [cq]; omega
 show (i64 eg/\k<=aE (i+1)/\aE (i+1)<=s.size)/\i<aE (i+1)/\aE (i+1)<=s.size;rw [e];exact ⟨⟨hv,by omega,by omega⟩,by omega,by omega⟩
theorem GV (s:ByteArray) (m n:Int) (h:0<=m/\m<=n/\n<=s.size):(p6 s m n).size<=s.size:=by
 unfold p6;simp [ByteArray.size_extract];omega
theorem t75 (s:ByteArray) (i:Int) (h:s.size<=dn) (aO:0<=i) (h1:i<s.size):Tot (CB s i) λr=>r.2.2=0->r.2.1=0\/(0<r.2.1/\i+r.2.1<=s.size/\r.1.Text.size=0/\r.1.Tag.size<=s.size/\i64 r.1.N):=by
 unfold CB;have av:(s.size:Int)<=1000000000000:=by simp only [dn] at h; omega
 have z64:i64 0:=by unfold i64; decide
 have gm:aE (i+1)=i+1:=by rw [cq]; omega
 have fi:aE (i+1+1)=i+1+1:=by rw [cq]; omega
 simp only [gm,fi];refine .au (Ξ:=λc=>c=true->i+1<s.size) (Tot.bb (λai=>.bi (.kr ⟨by omega,ai⟩ (.ag λ_=>ai))) (λ_=>.ag λh=>by cases h)) λjt Vh=>Tot.bj (λaF=>?_) (λ_=>?_)
 ·have ai:=Vh aF;refine .au (ZR s (i+1+1) h ⟨by omega,by omega⟩) λn aA=>?_;have wa:aE (i+1+1+n)=i+1+1+n:=by rw [cq]; omega
  have wb:aE (i+1+n)=i+1+n:=by rw [cq]; omega
  have zX:aE (i+1+n+2)=i+1+n+2:=by rw [cq]; omega
  have zY:aE (i+1+n+2+1)=i+1+n+2+1:=by rw [cq]; omega
  simp only [wa,wb,zX,zY];refine .au (Ξ:=λc=>c=false->1<=n/\i+1+1+n<s.size) ?_ λhW rL=>Tot.bj (λ_=>.ag λ_=>.inl rfl) (λaS=>?_)
  ·exact Tot.bb (λ_=>.ag λh=>by cases h) (λaB=>Tot.bb (λ_=>.ag λh=>by cases h) (λa2=>Tot.bb (λ_=>.ag λh=>by cases h) (λa3=>.bi (.kr ⟨by omega,by omega⟩ (.ag λ_=>⟨by omega,by omega⟩)))))
  ·obtain ⟨qX,oN⟩:=rL aS;refine .bi (.cut ⟨by omega,by omega,by omega⟩ ?_);have aa:=GV s (i+1+1) (i+1+1+n) ⟨by omega,by omega,by omega⟩;refine .au (Ξ:=λc=>c=true->i+1+n+2<s.size) (Tot.bb (λai=>.bi (.kr ⟨by omega,ai⟩ (.ag λ_=>ai))) (λ_=>.ag λh=>by cases h)) λph MU=>Tot.bj (λMv=>.ag λ_=>.inr ⟨?_,?_,rfl,aa,z64⟩) (λ_=>?_)
   ·have:=MU Mv; show 0<aE _; rw [cq]; omega
   ·have:=MU Mv; show i+aE _<=_; rw [cq]; omega
   ·refine .au (LX s (i+1+n+2) h ⟨by omega,by omega⟩) λr ah=>?_;obtain ⟨rb,j2⟩:=r;obtain ⟨g1,g2,g3⟩:=ah;simp only at g1 g2 g3 ⊢;refine Tot.bb (λ_=>.ag λ_=>.inl rfl) (λcy=>Tot.bb (λ_=>.ag λh=>by cases h) (λ_=>.ag λ_=>.inr ⟨?_,?_,rfl,aa,g1⟩))
    ·show 0<aE _; rw [cq]; omega
    ·show i+aE _<=_; rw [cq]; omega
 ·refine .au (Ξ:=λc=>c=true->i+1<s.size) (Tot.bb (λai=>.bi (.kr ⟨by omega,ai⟩ (.ag λ_=>ai))) (λ_=>.ag λh=>by cases h)) λDE MV=>Tot.bj (λD0=>.ag λ_=>.inr ⟨?_,?_,rfl,by show 0<=_; omega,z64⟩) (λ_=>?_)
  ·have:=MV D0; show 0<aE _; rw [cq]; omega
  ·have:=MV D0; show i+aE _<=_; rw [cq]; omega
  ·refine .au (LX s (i+1) h ⟨by omega,by omega⟩) λr ah=>?_;obtain ⟨rb,j2⟩:=r;obtain ⟨g1,g2,g3⟩:=ah;simp only at g1 g2 g3 ⊢;refine Tot.bb (λ_=>.ag λ_=>.inl rfl) (λcy=>Tot.bb (λ_=>.ag λh=>by cases h) (λ_=>.ag λ_=>.inr ⟨?_,?_,rfl,by show 0<=_; omega,g1⟩))
   ·show 0<aE _; rw [cq]; omega
   ·show i+aE _<=_; rw [cq]; omega
structure tD (n:Nat) (p:Piece):Prop where
 x:p.Text.size<=n
 t:p.Tag.size<=n
 n:i64 p.N
theorem tD.P9 (n:Nat) (s:ByteArray) (h:s.size<=n):tD n ⟨1,s,0,⟨#[]⟩⟩:=⟨h,Nat.zero_le _,(by unfold i64; decide:i64 0)⟩
theorem Sl (s:ByteArray) (h:s.size<=1000):Tot (Cv s) λr=>r.2=0->r.1.length<=2 * s.size+1/\∀ p∈r.1,tD s.size p:=by
 unfold Cv;have aK:s.size<=dn:=by simp only [dn]; omega
 refine .au (t73 s aK) λbc _=>Tot.bj (λ_=>.ag λh=>by cases h) (λ_=>?_);refine .au (Ξ:=ft (λr:List Piece × Int=>(r.1.length:Int)<=2 * s.size/\0<=r.2/\r.2<=s.size/\∀ p∈r.1,tD s.size p) (λr:List Piece × Int=>r.2≠0)) ?_ λx j=>?_
 ·refine Tot.count (λz=>z.2.2) s.size (λz=>(z.1.length:Int)<=2 * z.2.2/\0<=z.2.1/\z.2.1<=z.2.2/\z.2.2<=s.size/\∀ p∈z.1,tD s.size p) ⟨Int.le_refl 0,Int.le_refl 0,Int.le_refl 0,by show (0:Int)<=_; omega,λp ar=>by cases ar⟩ (by show (s.size:Int) - 0<_; omega) λz aT=>?_;obtain ⟨l,ek,i⟩:=z;obtain ⟨h1,af,aF,bu,ct⟩:=aT;simp only at h1 af aF bu ct ⊢;have e:aE (i+1)=i+1:=by rw [cq]; omega
  refine Tot.bb (λaR=>?_) (λdq=>.ag ⟨by show (l.length:Int)<=_; omega,af,by show ek<=_; omega,ct⟩);have next:ft (λz:List Piece × Int × Int=>((z.1.length:Int)<=2 * z.2.2/\0<=z.2.1/\z.2.1<=z.2.2/\z.2.2<=s.size/\∀ p∈z.1,tD s.size p)/\i<z.2.2/\z.2.2<=s.size) (ft (λr:List Piece × Int=>(r.1.length:Int)<=2 * s.size/\0<=r.2/\r.2<=s.size/\∀ p∈r.1,tD s.size p) (λr:List Piece × Int=>r.2≠0)) (.inl (l,ek,aE (i+1))):=by
   rw [e];exact ⟨⟨by show (l.length:Int)<=2 * (i+1); omega,af,by show ek<=i+1; omega,by show i+1<=_; omega,ct⟩,by show i<i+1; omega,by show i+1<=_; omega⟩
  refine .au (t74 s i aK (by omega) aR) λcm mG=>Tot.bb (λj=>.ag ⟨⟨by show (l.length:Int)<=2 * cm; omega,af,by show ek<=cm; omega,mG,ct⟩,j,mG⟩) (λ_=>?_);refine .bi (.kr ⟨by omega,aR⟩ (Tot.iz (λ_=>.ag next) (λ_=>?_)));refine .au (t75 s i aK (by omega) aR) λr ah=>?_;obtain ⟨p,n,ach⟩:=r;simp only at ah ⊢;refine Tot.iz (λcy=>.ag cy) (λhe=>Tot.bb (λ_=>.ag next) (λaA=>?_));rcases ah he with aO | ⟨g1,g2,g3,g4,g5⟩
  ·exact absurd aO aA
  refine .au (Ξ:=λL:List Piece=>(L.length:Int)<=2 * i+1/\∀ p∈L,tD s.size p) (Tot.bb (λqf=>.bi (.cut ⟨af,by omega,by omega⟩ (.bi (.ap (by simp [lim]; omega) (.ag ⟨by simp; omega,λq a6=>?_⟩))))) (λ_=>.ag ⟨by omega,ct⟩)) λL gR=>?_
  ·rcases List.mem_append.1 a6 with a6 | a6
   ·exact ct q a6
   ·rw [List.mem_singleton.1 a6];exact .P9 _ _ (GV s _ _ ⟨af,by omega,by omega⟩)
  ·have bZ:aE (i+n)=i+n:=by rw [cq]; omega
   rw [bZ];have acB:=gR.1;refine .bi (.ap (by simp [lim]; omega) (.ag ⟨⟨?_,by show 0<=i+n; omega,Int.le_refl _,g2,λq a6=>?_⟩,by show i<i+n; omega,g2⟩))
   ·show (((L++[p]).length:Nat):Int)<=2 * (i+n);simp; omega
   ·rcases List.mem_append.1 a6 with a6 | a6
    ·exact gR.2 q a6
    ·rw [List.mem_singleton.1 a6];exact ⟨by omega,g4,g5⟩
 ·rcases x with x | x
  ·obtain ⟨g1,g2,g3,g4⟩:=j;refine .au (Ξ:=λl:List Piece=>l.length<=2 * s.size+1/\∀ p∈l,tD s.size p) ?_ λl ai=>.ag λ_=>ai;refine Tot.bb (λaR=>.bi (.cut ⟨g2,by omega,by omega⟩ (.bi (.ap (by simp [lim]; omega) (.ag ⟨by simp; omega,λp ar=>?_⟩))))) (λ_=>.ag ⟨by omega,g4⟩);rcases List.mem_append.1 ar with ar | ar
   ·exact g4 p ar
   ·rw [List.mem_singleton.1 ar];exact .P9 _ _ (GV s _ _ ⟨g2,by omega,by omega⟩)
  ·exact .ag λh=>absurd h j
end Go.Proofs
namespace Go.Own
open Go Go.Sort
set_option linter.unusedSectionVars false
variable [cE]
variable {α:Type} [DecidableEq α]
structure Ord (lt:α->α->Bool):Prop where
 swo:SWO lt
 iY:∀ x y,lt x y=false->lt y x=false->x=y
def eX (lt:α->α->Bool) (l:List α):Prop:=l.Pairwise λa b=>lt a b=true
omit [DecidableEq α] in
theorem eX.nd {lt:α->α->Bool}(h:Ord lt) {l:List α}(ai:eX lt l):l.Nodup:=ai.imp λ{a b} MO e=>by
 subst e;rw [h.swo.irrefl] at MO; cases MO
omit [DecidableEq α] in
theorem eX.uniq {lt:α->α->Bool}(h:Ord lt) {l m:List α}(ai:eX lt l) (hm:eX lt m) (he:∀ x,x∈l↔x∈m):l=m :=
 List.Perm.eq_of_pairwise (le:=λa b=>lt a b=true) (λa b _ _ h1 af=>by have:=h.swo.trans _ _ _ h1 af; rw [h.swo.irrefl] at this; cases this) ai hm ((List.perm_ext_iff_of_nodup (ai.nd h) (hm.nd h)).2 he)
omit [DecidableEq α] in
theorem uE {l m:List α}(aP:l.Nodup) (hm:∀ x∈l,x∈m):l.length<=m.length:=by
 classical
 induction l generalizing m with
 | nil=>exact Nat.zero_le _
 | cons x l aL =>
  have j:=hm x (by simp);have nj:=List.nodup_cons.1 aP;have:=aL (m:=m.erase x) nj.2 λy ak=>(List.mem_erase_of_ne (λe=>nj.1 (by rw [<- e]; exact ak))).2 (hm y (by simp [ak]));have ai:=List.length_erase_of_mem j;have ar:=List.length_pos_of_mem j;simp only [List.length_cons];omega
end Go.Own
namespace Go.Proofs
open Go Go.Own Go.Sort
set_option maxRecDepth 100000
set_option linter.unusedVariables false
def gB (a b:Item):Bool:=decide (a.Prod<b.Prod\/(a.Prod=b.Prod/\a.e3<b.e3))
theorem Jq {a b:Item}:gB a b=true↔(a.Prod<b.Prod\/(a.Prod=b.Prod/\a.e3<b.e3)):=by simp [gB]
theorem B6 {a b:Item}:gB a b=false↔¬ (a.Prod<b.Prod\/(a.Prod=b.Prod/\a.e3<b.e3)):=by simp [gB]
theorem vQ:Ord gB where
 swo:=⟨λx=>by rw [B6]; omega,λx y z h1 af=>by rw [Jq] at *; omega,λx y z h1 af=>by rw [B6] at *; omega⟩
 iY x y h1 af:=by
  rw [B6] at h1 af;obtain ⟨bc,x2⟩:=x;obtain ⟨bT,y2⟩:=y;simp only at h1 af;have:bc=bT:=by omega
  have:x2=y2:=by omega
  subst_vars; rfl
def iT (g:bq) (x:Item):Prop:=∃ q,idx g.a1 x.Prod=some q/\0<=x.e3/\x.e3<=q.e1.length
def eu (g:bq) (x:Item):Int:=match idx g.a1 x.Prod with
 | some q=>(idx q.e1 x.e3).getD (-1)
 | none=>-1
theorem n4 {α:Type}{l:List α}{i:Int}{y:α}(h:idx l i=some y):0<=i/\i<l.length/\y∈l:=by
 unfold idx at h
 split at h
 ·rename_i aO;obtain ⟨h1,af⟩:=List.getElem?_eq_some_iff.1 h;exact ⟨aO,by omega,List.mem_of_getElem? h⟩
 ·cases h
theorem I7 {α:Type}{l:List α}{i:Int}(h:i<0\/(l.length:Int)<=i):idx l i=none:=by
 unfold idx;split
 ·exact List.getElem?_eq_none (by omega)
 ·rfl
theorem n9 {α:Type}{l:List α}{i:Int}(aO:0<=i) (h1:i<l.length):∃ y,idx l i=some y/\y∈l:=by
 have aR:i.toNat<l.length:=by omega
 exact ⟨l[i.toNat],by simp [idx,aO,aR],List.getElem_mem aR⟩
theorem d_ {α:Type}{l:List α}{k:Nat}(h:k<l.length):idx l (k:Int)=some l[k]:=by simp [idx,h]
theorem L1 (g:bq) (x:Item):∃ c,zs g x=some c/\(c=true↔iT g x):=by
 unfold zs;by_cases aO:0<=x.Prod
 ·by_cases h1:x.Prod<g.a1.length
  ·obtain ⟨q,a6,_⟩:=n9 aO h1;by_cases af:0<=x.e3
   ·refine ⟨decide (x.e3<=(q.e1.length:Int)),by simp [aO,h1,af,a6],?_⟩;rw [decide_eq_true_eq];exact ⟨λh=>⟨q,a6,af,h⟩,λ⟨gx,En,_,h⟩=>by rw [a6] at En; cases En; exact h⟩
   ·exact ⟨false,by simp [aO,h1,af],λh=>(by cases h),λ⟨_,_,h,_⟩=>absurd h af⟩
  ·exact ⟨false,by simp [aO,h1],λh=>(by cases h),λ⟨_,h,_⟩=>absurd (n4 h).2.1 h1⟩
 ·exact ⟨false,by simp [aO],λh=>(by cases h),λ⟨_,h,_⟩=>absurd (n4 h).1 aO⟩
theorem G8 (g:bq) (x:Item):uL g x=some (eu g x):=by
 unfold uL eu;obtain ⟨c,aa,hi⟩:=L1 g x;rw [aa];simp only [Option.bind_some];cases c with
 | false =>
  have aA:¬ iT g x:=λh=>by have:=hi.2 h; cases this
  simp only [Bool.not_false,cond_true,Option.bind_some];cases a6:idx g.a1 x.Prod with
  | none=>rfl
  | some q =>
   have:idx q.e1 x.e3=none:=I7 (by
    by_cases aO:0<=x.e3
    ·right;by_cases h1:x.e3<=q.e1.length
     ·exact absurd ⟨q,a6,aO,h1⟩ aA
     ·omega
    ·left; omega)
   simp [this]
 | true =>
  obtain ⟨q,a6,aO,h1⟩:=hi.1 rfl;simp only [Bool.not_true,cond_false,a6,Option.bind_some];by_cases he:x.e3=q.e1.length
  ·rw [I7 (.inr (by omega))];simp [he]
  ·obtain ⟨s,aw,_⟩:=n9 (l:=q.e1) (i:=x.e3) aO (by omega);simp [he,aw]
theorem Om {g:bq}(aK:ga g) {x:Item}(h:0<=eu g x):iT g x/\nO g.aX.length (g.bO.length - 1) (eu g x)/\∃ q,idx g.a1 x.Prod=some q/\idx q.e1 x.e3=some (eu g x):=by
 cases a6:idx g.a1 x.Prod with
 | none =>
  have:eu g x=-1:=by unfold eu; rw [a6]
  rw [this] at h; exact absurd h (by decide)
 | some q =>
  cases aw:idx q.e1 x.e3 with
  | none =>
   have:eu g x=-1:=by unfold eu; rw [a6]; simp [aw]
   rw [this] at h; exact absurd h (by decide)
  | some s =>
   have e:eu g x=s:=by unfold eu; rw [a6]; simp [aw]
   rw [e];obtain ⟨aO,h1,hm⟩:=n4 aw;exact ⟨⟨q,a6,aO,by omega⟩,(aK.fl q (n4 a6).2.2).right s hm,q,rfl,aw⟩
inductive nK (g:bq) (l:List Item):Item->Prop
 | base {x:Item}(h:x∈l) (hi:iT g x):nK g l x
 | step {x:Item}{q:Prod}{p:Nat}(h:nK g l x) (ar:g.a1[p]?=some q) (aA:eu g x=1000+q.Left) (aO:1000<=eu g x):nK g l ⟨p,0⟩
theorem NR {g:bq}{p:Nat}{q:Prod}(ar:g.a1[p]?=some q):iT g ⟨p,0⟩:=⟨q,by simp [idx,ar],Int.le_refl _,by show (0:Int)<=_; omega⟩
theorem nK.iT {g:bq}{l:List Item}{x:Item}(h:nK g l x):iT g x:=by
 cases h with
 | base _ hi=>exact hi
 | step _ ar _ _=>exact NR ar
theorem X0 {g:bq}(aK:ga g) (x:Item):-1<=eu g x/\eu g x<=1023:=by
 by_cases h:0<=eu g x
 ·obtain ⟨_,aw,_⟩:=Om aK h;have:=aK.de;have:=aK.j6;rcases aw with aw | aw <;> omega
 ·refine ⟨?_,by omega⟩;revert h;unfold eu;cases a6:idx g.a1 x.Prod with
  | none=>intro _; exact Int.le_refl _
  | some q =>
   cases aw:idx q.e1 x.e3 with
   | none=>intro _; simp [aw]
   | some s =>
    intro h;have hm:=(aK.fl q (n4 a6).2.2).right s (n4 aw).2.2;simp only [aw,Option.getD_some] at h ⊢;rcases hm with hm | hm <;> omega
def hc (m:List Bool):Nat:=(m.filter λb=>b).length
theorem wD:∀ (m:List Bool) (i:Nat),i<m.length->m.getD i false=false->hc (m.set i true)=hc m+1
 | [],i,h,_=>by simp at h
 | b::m,0,_,h=>by
  have:b=false:=by simpa using h
  subst this;simp [hc]
 | b::m,i+1,h,aO=>by
  have:=wD m i (by simpa using h) (by simpa using aO);unfold hc at this ⊢;simp only [List.set_cons_succ,List.filter_cons];cases b <;> simp [this]
theorem SH (m:List Bool):hc m<=m.length:=List.length_filter_le _ _
theorem kk {α:Type}{r:List α}{k:Nat}(h:k<r.length):r.take (k+1)=r.take k++[r[k]]:=by
 simp_all
theorem FI (k:Nat) (h:k<=1000000000000):aE ((k:Int)+1)=((k+1:Nat):Int):=by
 grind [cq]
end Go.Proofs
