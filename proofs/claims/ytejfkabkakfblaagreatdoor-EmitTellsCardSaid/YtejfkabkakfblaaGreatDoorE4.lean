/- Parts of the proof that the last text states. -/
import Derived.KernelRfl
import Derived.Test.YtejfkabkakfblaaGreatDoorRows
import Derived.Test.YtejfkabkakfblaaGreatDoorE3
namespace Go.Proofs
open Go Go.Own
set_option maxRecDepth 100000
set_option linter.unusedVariables false
def vO (a0:ByteArray) (aB:(List Int)):Option (ByteArray) :=
 (eG (⟨#[118,97,114,32]⟩) a0).bind λaX =>
 (eG aX (⟨#[32,61,32,91,93,105,110,116,123]⟩)).bind λx2 =>
 (ni (⟨#[]⟩) x2).bind λaY =>
 (b0 (R:=ByteArray) (λ(cX:ByteArray × Int) =>
 (bif decide (cX.2<(aB.length:Int)) then
 (idx aB cX.2).bind λb2 =>
 ((bif decide (0<cX.2) then
 (ni cX.1 (⟨#[44,32]⟩)).bind λcb =>
 some cb
 else
 some cX.1)).bind λnD =>
 (sO b2).bind λdS =>
 (ni nD dS).bind λeQ =>
 some (.inl (eQ,aH (cX.2+1)))
 else
 some (.inr cX.1))) (aY,0)).bind λbF =>
 (ni bF (⟨#[125]⟩)).bind λec =>
 (wE ec).bind λc0 =>
 some c0
def pG (a0:Int):Option (ByteArray) :=
 ((bif decide (a0<0) then
 some (IntKind.u64.wrap (-(IntKind.u64.wrap a0)))
 else
 some (IntKind.u64.wrap a0))).bind λjr =>
 (b0 (R:=ByteArray) (λ(cS:Int × ByteArray) =>
 ((bif decide (0<cS.1) then some true else some (decide (cS.2=⟨#[]⟩)))).bind λnk =>
 (bif nk then
 (pJ cS.1 10).bind λdD =>
 (eG (strOfNums [rn (IntKind.u64.wrap (48+dD))]) cS.2).bind λbE =>
 (pI cS.1 10).bind λcb =>
 some (.inl (cb,bE))
 else
 some (.inr cS.2))) (jr,⟨#[]⟩)).bind λbP =>
 (bif decide (a0<0) then
 (eG (⟨#[45]⟩) bP).bind λeQ =>
 some eQ
 else
 some bP)
def vW (a0:Int):Option (Bool) :=
 ((bif decide (48<=a0) then some (decide (a0<=57)) else some false)).bind λc2 =>
 some c2
def Cz (a0:Int):Option (Bool) :=
 ((bif decide (97<=a0) then (bif decide (a0<=122) then some true else (bif decide (65<=a0) then (bif decide (a0<=90) then some true else some (decide (a0=95))) else some (decide (a0=95)))) else (bif decide (65<=a0) then (bif decide (a0<=90) then some true else some (decide (a0=95))) else some (decide (a0=95))))).bind λnk =>
 some nk
def vV (a0:ByteArray) (aB:Int):Option (Int) :=
 (b0 (R:=Int) (λ(s1:Int) =>
 ((bif decide (aH (aB+s1)<(a0.size:Int)) then ((hG a0 (aH (aB+s1))).bind λbF=>((Cz bF).bind λbN=>(bif bN then some true else (bif decide (0<s1) then ((hG a0 (aH (aB+s1))).bind λdD=>((vW dD).bind λbE=>(bif bE then some true else ((hG a0 (aH (aB+s1))).bind λdS=>some (decide (dS=46)))))) else some false)))) else some false)).bind λmh =>
 (bif mh then
 some (.inl (aH (s1+1)))
 else
 some (.inr s1))) 0).bind λx2 =>
 some x2
def vP (a0:ByteArray):Option (Bool) :=
 ((bif decide (1<=(a0.size:Int)) then (bif decide ((a0.size:Int)<=20) then ((vV a0 0).bind λaY=>some (decide (aY=(a0.size:Int)))) else some false) else some false)).bind λc4 =>
 some c4
def zM (a0:Int):Option (Int × Bool) :=
 (bif decide (a0=10) then
 some (110,true)
 else
 (bif decide (a0=9) then
 some (116,true)
 else
 (bif decide (a0=13) then
 some (114,true)
 else
 ((bif decide (a0=92) then
 some (decide (a0=92))
 else
 some (decide (a0=39)))).bind λJs =>
 (bif Js then
 some (a0,true)
 else
 ((bif decide (32<=a0) then some (0,decide (a0<=126)) else some (0,false))).bind λtJ =>
 some (tJ.1,tJ.2)))))
structure Sym where
 Name:ByteArray
 Lit:Bool
 bK:Int
 At:Int
 deriving DecidableEq,Inhabited
def dN:bz Sym:=⟨4,λx=>[aw x.Name,bc x.Lit,ae x.bK,ae x.At],λ_=>rfl,λ_=>dj.bj⟩
instance:Flat dN:=⟨λ_=>rfl⟩
instance:lr dN:=⟨λx=>(inferInstance:jf [aw x.Name,bc x.Lit,ae x.bK,ae x.At])⟩
instance:gu dN dN:=⟨rfl,λx=>(inferInstance:c8 [aw x.Name,bc x.Lit,ae x.bK,ae x.At] [aw x.Name,bc x.Lit,ae x.bK,ae x.At])⟩
instance {x:Sym}:c8 (dN.cells x) [aw x.Name,bc x.Lit,ae x.bK,ae x.At]:=(inferInstance:c8 [aw x.Name,bc x.Lit,ae x.bK,ae x.At] [aw x.Name,bc x.Lit,ae x.bK,ae x.At])
def uB (a0:Sym) (aB:Bool) (a2:Bool):Option (Bool) :=
 (bif a0.Lit then
 ((bif !a2 then some true else (bif !decide ((a0.Name.size:Int)=1) then some true else some (!decide (a0.bK=0))))).bind λc4 =>
 (bif c4 then
 some false
 else
 (hG a0.Name 0).bind λbN =>
 (zM bN).bind λbM =>
 some bM.2)
 else
 (((vP a0.Name).bind λb2=>(bif b2 then (bif decide (a0.bK=0) then some true else (bif aB then (bif decide (1<=a0.bK) then some (decide (a0.bK<=50000)) else some false) else some false)) else some false))).bind λmh =>
 some mh)
structure Decl where
 Kind:Int
 Tag:ByteArray
 ey:(List Sym)
 At:Int
 deriving DecidableEq,Inhabited
def dJ:bz Decl:=⟨4,λx=>[ae x.Kind,aw x.Tag,ak dN x.ey,ae x.At],λ_=>rfl,λ_=>dj.bj⟩
instance:Flat dJ:=⟨λ_=>rfl⟩
instance:gu dJ dJ:=⟨rfl,λx=>(inferInstance:c8 [ae x.Kind,aw x.Tag,ak dN x.ey,ae x.At] [ae x.Kind,aw x.Tag,ak dN x.ey,ae x.At])⟩
instance {x:Decl}:c8 (dJ.cells x) [ae x.Kind,aw x.Tag,ak dN x.ey,ae x.At]:=(inferInstance:c8 [ae x.Kind,aw x.Tag,ak dN x.ey,ae x.At] [ae x.Kind,aw x.Tag,ak dN x.ey,ae x.At])
def xE (a0:Decl):Option (Bool) :=
 ((bif decide (a0.Kind<1) then some true else (bif decide (6<a0.Kind) then some true else (bif decide ((a0.ey.length:Int)=0) then some true else (bif decide (a0.Kind=6) then (bif !decide ((a0.ey.length:Int)=1) then some true else (bif !decide (a0.Tag=⟨#[]⟩) then some true else (bif decide (a0.Kind=5) then (bif decide (a0.Tag=⟨#[]⟩) then some true else some false) else some false))) else (bif decide (a0.Kind=5) then (bif decide (a0.Tag=⟨#[]⟩) then some true else (bif !decide (a0.Tag=⟨#[]⟩) then ((vP a0.Tag).bind λdS=>some (!dS)) else some false)) else (bif !decide (a0.Tag=⟨#[]⟩) then ((vP a0.Tag).bind λec=>some (!ec)) else some false))))))).bind λmL =>
 (bif mL then
 some false
 else
 (b0 (R:=(Unit) ⊕ (Bool)) (λ(gk:Int) =>
 (bif decide (gk<(a0.ey.length:Int)) then
 (idx a0.ey gk).bind λfN =>
 (uB fN (decide (a0.Kind=1)) (decide (a0.Kind<5))).bind λfx =>
 (bif !fx then
 some (.inr (.inr false))
 else
 some (.inl (aH (gk+1))))
 else
 some (.inr (.inl ())))) 0).bind λfo =>
 (match fo with
 | .inl fj =>
 some true
 | .inr e5 =>
 some e5))
def xS (a0:ByteArray) (aB:Int) (a2:ByteArray):Option (Bool) :=
 ((bif decide ((a2.size:Int)<=aH ((a0.size:Int) - aB)) then ((oy a0 aB (aH (aB+(a2.size:Int)))).bind λx2=>some (decide (x2=a2))) else some false)).bind λj_ =>
 some j_
def zX (a0:ByteArray) (aB:Int):Option (Int) :=
 (((hG a0 aB).bind λaX=>(bif decide (aX=34) then some true else ((hG a0 aB).bind λaY=>some (decide (aY=39)))))).bind λc4 =>
 (bif c4 then
 (b0 (R:=(Unit) ⊕ (Int)) (λ(cP:Int) =>
 ((bif decide (cP<(a0.size:Int)) then ((hG a0 cP).bind λcb=>some (!decide (cb=10))) else some false)).bind λsq =>
 (bif sq then
 (hG a0 cP).bind λec =>
 (hG a0 aB).bind λc0 =>
 (bif decide (ec=c0) then
 some (.inr (.inr (aH (cP+1))))
 else
 (hG a0 cP).bind λbO =>
 (bif decide (bO=92) then
 ((bif decide (aH (cP+1)<(a0.size:Int)) then ((hG a0 (aH (cP+1))).bind λe5=>some (decide (e5=10))) else some false)).bind λrG =>
 (bif rG then
 some (.inr (.inr (-1)))
 else
 some (.inl (aH ((aH (cP+1))+1))))
 else
 some (.inl (aH (cP+1)))))
 else
 some (.inr (.inl ())))) (aH (aB+1))).bind λbM =>
 (match bM with
 | .inl b2 =>
 some (-1)
 | .inr dD =>
 some dD)
 else
 (hG a0 aB).bind λfx =>
 (bif decide (fx=96) then
 (b0 (R:=(Unit) ⊕ (Int)) (λ(h':Int) =>
 (bif decide (h'<(a0.size:Int)) then
 (hG a0 h').bind λhs =>
 (bif decide (hs=96) then
 some (.inr (.inr (aH (h'+1))))
 else
 some (.inl (aH (h'+1))))
 else
 some (.inr (.inl ())))) (aH (aB+1))).bind λgW =>
 (match gW with
 | .inl fZ =>
 some (-1)
 | .inr cE =>
 some cE)
 else
 (xS a0 aB (⟨#[47,47]⟩)).bind λe0 =>
 (bif e0 then
 (b0 (R:=Int) (λ(eb:Int) =>
 ((bif decide (eb<(a0.size:Int)) then ((hG a0 eb).bind λcT=>some (!decide (cT=10))) else some false)).bind λtI =>
 (bif tI then
 some (.inl (aH (eb+1)))
 else
 some (.inr eb))) aB).bind λfk =>
 some fk
 else
 (xS a0 aB (⟨#[47,42]⟩)).bind λj0 =>
 (bif j0 then
 (b0 (R:=(Unit) ⊕ (Int)) (λ(Ae:Int) =>
 (bif decide (Ae<(a0.size:Int)) then
 (xS a0 Ae (⟨#[42,47]⟩)).bind λrp =>
 (bif rp then
 some (.inr (.inr (aH (Ae+2))))
 else
 some (.inl (aH (Ae+1))))
 else
 some (.inr (.inl ())))) (aH (aB+2))).bind λpO =>
 (match pO with
 | .inl te =>
 some (-1)
 | .inr l7 =>
 some l7)
 else
 some aB))))
def xP (a0:ByteArray) (aB:Int):Option (Int) :=
 ((bif decide (aB<0) then some true else (bif decide ((a0.size:Int)<=aB) then some true else ((hG a0 aB).bind λaY=>some (!decide (aY=123)))))).bind λc4 =>
 (bif c4 then
 some (-1)
 else
 (b0 (R:=(Unit) ⊕ (Int)) (λ(cP:Int × Int) =>
 (bif decide (cP.2<(a0.size:Int)) then
 (zX a0 cP.2).bind λcb =>
 (bif decide (cb<0) then
 some (.inr (.inr (-1)))
 else
 (bif decide (cP.2<cb) then
 some (.inl (cP.1,cb))
 else
 (hG a0 cP.2).bind λec =>
 ((bif decide (ec=123) then
 some (aH (cP.1+1))
 else
 some cP.1)).bind λlH =>
 (hG a0 cP.2).bind λbO =>
 ((bif decide (bO=125) then
 some (aH (lH - 1))
 else
 some lH)).bind λER =>
 (bif decide (ER=0) then
 some (.inr (.inr (aH (cP.2+1))))
 else
 some (.inl (ER,aH (cP.2+1))))))
 else
 some (.inr (.inl ())))) (0,aB)).bind λbM =>
 (match bM with
 | .inl b2 =>
 some (-1)
 | .inr dD =>
 some dD))
def uC (a0:Sym):Option (Bool) :=
 ((bif decide (a0.Name=⟨#[]⟩) then (bif !a0.Lit then some (decide (a0.bK=0)) else some false) else some false)).bind λj_ =>
 some j_
structure Part where
 Sym:Sym
 Code:ByteArray
 At:Int
 deriving DecidableEq,Inhabited
structure Alt where
 Parts:(List Part)
 Prec:Sym
 At:Int
 deriving DecidableEq,Inhabited
def fE:bz Part:=⟨6,λx=>[aw x.Sym.Name,bc x.Sym.Lit,ae x.Sym.bK,ae x.Sym.At,aw x.Code,ae x.At],λ_=>rfl,λ_=>dj.bj⟩
instance:Flat fE:=⟨λ_=>rfl⟩
instance:lr fE:=⟨λx=>(inferInstance:jf [aw x.Sym.Name,bc x.Sym.Lit,ae x.Sym.bK,ae x.Sym.At,aw x.Code,ae x.At])⟩
instance:gu fE fE:=⟨rfl,λx=>(inferInstance:c8 [aw x.Sym.Name,bc x.Sym.Lit,ae x.Sym.bK,ae x.Sym.At,aw x.Code,ae x.At] [aw x.Sym.Name,bc x.Sym.Lit,ae x.Sym.bK,ae x.Sym.At,aw x.Code,ae x.At])⟩
instance {x:Part}:c8 (fE.cells x) [aw x.Sym.Name,bc x.Sym.Lit,ae x.Sym.bK,ae x.Sym.At,aw x.Code,ae x.At]:=(inferInstance:c8 [aw x.Sym.Name,bc x.Sym.Lit,ae x.Sym.bK,ae x.Sym.At,aw x.Code,ae x.At] [aw x.Sym.Name,bc x.Sym.Lit,ae x.Sym.bK,ae x.Sym.At,aw x.Code,ae x.At])
def fp:bz Alt:=⟨6,λx=>[ak fE x.Parts,aw x.Prec.Name,bc x.Prec.Lit,ae x.Prec.bK,ae x.Prec.At,ae x.At],λ_=>rfl,λ_=>dj.bj⟩
instance:Flat fp:=⟨λ_=>rfl⟩
instance:gu fp fp:=⟨rfl,λx=>(inferInstance:c8 [ak fE x.Parts,aw x.Prec.Name,bc x.Prec.Lit,ae x.Prec.bK,ae x.Prec.At,ae x.At] [ak fE x.Parts,aw x.Prec.Name,bc x.Prec.Lit,ae x.Prec.bK,ae x.Prec.At,ae x.At])⟩
instance {x:Alt}:c8 (fp.cells x) [ak fE x.Parts,aw x.Prec.Name,bc x.Prec.Lit,ae x.Prec.bK,ae x.Prec.At,ae x.At]:=(inferInstance:c8 [ak fE x.Parts,aw x.Prec.Name,bc x.Prec.Lit,ae x.Prec.bK,ae x.Prec.At,ae x.At] [ak fE x.Parts,aw x.Prec.Name,bc x.Prec.Lit,ae x.Prec.bK,ae x.Prec.At,ae x.At])
def xF (a0:Alt):Option (Bool) :=
 (b0 (R:=(Unit) ⊕ (Bool)) (λ(s1:Int) =>
 (bif decide (s1<(a0.Parts.length:Int)) then
 (idx a0.Parts s1).bind λbN =>
 ((bif decide (bN.Code=⟨#[]⟩) then ((uB bN.Sym false true).bind λb2=>(bif !b2 then some true else (bif !decide (bN.Code=⟨#[]⟩) then ((uC bN.Sym).bind λcb=>(bif !cb then some true else ((xP bN.Code 0).bind λeQ=>some (!decide (eQ=(bN.Code.size:Int)))))) else some false))) else (bif !decide (bN.Code=⟨#[]⟩) then ((uC bN.Sym).bind λc0=>(bif !c0 then some true else ((xP bN.Code 0).bind λbO=>some (!decide (bO=(bN.Code.size:Int)))))) else some false))).bind λk2 =>
 (bif k2 then
 some (.inr (.inr false))
 else
 some (.inl (aH (s1+1))))
 else
 some (.inr (.inl ())))) 0).bind λx2 =>
 (match x2 with
 | .inl aY =>
 (((uC a0.Prec).bind λe5=>(bif e5 then some true else ((uB a0.Prec false true).bind λfN=>some fN)))).bind λtG =>
 some tG
 | .inr bP =>
 some bP)
structure fc where
 Left:ByteArray
 eJ:(List Alt)
 At:Int
 deriving DecidableEq,Inhabited
structure Source where
 b5:ByteArray
 Decls:(List Decl)
 dF:(List fc)
 b':ByteArray
 deriving DecidableEq,Inhabited
def iv:bz fc:=⟨3,λx=>[aw x.Left,ak fp x.eJ,ae x.At],λ_=>rfl,λ_=>dj.bj⟩
instance:Flat iv:=⟨λ_=>rfl⟩
instance:gu iv iv:=⟨rfl,λx=>(inferInstance:c8 [aw x.Left,ak fp x.eJ,ae x.At] [aw x.Left,ak fp x.eJ,ae x.At])⟩
instance {x:fc}:c8 (iv.cells x) [aw x.Left,ak fp x.eJ,ae x.At]:=(inferInstance:c8 [aw x.Left,ak fp x.eJ,ae x.At] [aw x.Left,ak fp x.eJ,ae x.At])
def fv:bz Source:=⟨4,λx=>[aw x.b5,ak dJ x.Decls,ak iv x.dF,aw x.b'],λ_=>rfl,λ_=>dj.bj⟩
instance:Flat fv:=⟨λ_=>rfl⟩
instance:gu fv fv:=⟨rfl,λx=>(inferInstance:c8 [aw x.b5,ak dJ x.Decls,ak iv x.dF,aw x.b'] [aw x.b5,ak dJ x.Decls,ak iv x.dF,aw x.b'])⟩
instance {x:Source}:c8 (fv.cells x) [aw x.b5,ak dJ x.Decls,ak iv x.dF,aw x.b']:=(inferInstance:c8 [aw x.b5,ak dJ x.Decls,ak iv x.dF,aw x.b'] [aw x.b5,ak dJ x.Decls,ak iv x.dF,aw x.b'])
def xT (a0:Source):Option (Bool) :=
 (b0 (R:=(Unit) ⊕ (Bool)) (λ(s1:Int) =>
 (bif decide (aH (s1+1)<(a0.b5.size:Int)) then
 (oy a0.b5 s1 (aH (s1+2))).bind λbN =>
 (bif decide (bN=⟨#[37,125]⟩) then
 some (.inr (.inr false))
 else
 some (.inl (aH (s1+1))))
 else
 some (.inr (.inl ())))) 0).bind λx2 =>
 (match x2 with
 | .inl aY =>
 (b0 (R:=(Unit) ⊕ (Bool)) (λ(eM:Int) =>
 (bif decide (eM<(a0.Decls.length:Int)) then
 (idx a0.Decls eM).bind λeQ =>
 (xE eQ).bind λec =>
 (bif !ec then
 some (.inr (.inr false))
 else
 some (.inl (aH (eM+1))))
 else
 some (.inr (.inl ())))) 0).bind λdD =>
 (match dD with
 | .inl bE =>
 (b0 (R:=(Unit) ⊕ (Bool)) (λ(C7:Int) =>
 (bif decide (C7<(a0.dF.length:Int)) then
 (idx a0.dF C7).bind λeZ =>
 (((vP eZ.Left).bind λfN=>(bif !fN then some true else some (decide ((eZ.eJ.length:Int)=0))))).bind λGO =>
 (bif GO then
 some (.inr (.inr false))
 else
 (b0 (R:=(Unit) ⊕ (Bool)) (λ(nO:Int) =>
 (bif decide (nO<(eZ.eJ.length:Int)) then
 (idx eZ.eJ nO).bind λku =>
 (xF ku).bind λe0 =>
 (bif !e0 then
 some (.inr (.inr false))
 else
 some (.inl (aH (nO+1))))
 else
 some (.inr (.inl ())))) 0).bind λfZ =>
 (match fZ with
 | .inl cE =>
 some (.inl (aH (C7+1)))
 | .inr eA =>
 some (.inr (.inr eA))))
 else
 some (.inr (.inl ())))) 0).bind λbO =>
 (match bO with
 | .inl fo =>
 some (decide (0<(a0.dF.length:Int)))
 | .inr fj =>
 some fj)
 | .inr cb =>
 some cb)
 | .inr bP =>
 some bP)
structure Tok where
 Name:ByteArray
 Lit:Bool
 bK:Int
 Level:Int
 ff:Int
 Tag:ByteArray
 deriving DecidableEq,Inhabited
structure fg where
 Name:ByteArray
 Tag:ByteArray
 deriving DecidableEq,Inhabited
structure Prod where
 Left:Int
 e7:(List Int)
 Prec:Int
 Code:ByteArray
 rv:(List Int)
 At:Int
 deriving DecidableEq,Inhabited
structure bs where
 aZ:(List Tok)
 bX:(List fg)
 bd:(List Prod)
 b5:ByteArray
 b':ByteArray
 deriving DecidableEq,Inhabited
structure dh where
 aC:bs
 cf:(List Bool)
 cv:(List fg)
 bZ:(List ByteArray)
 cL:Int
 dc:Int
 c_:ByteArray
 cc:Int
 bU:Int
 deriving DecidableEq,Inhabited
def bT:bz Tok:=⟨6,λx=>[aw x.Name,bc x.Lit,ae x.bK,ae x.Level,ae x.ff,aw x.Tag],λ_=>rfl,λ_=>dj.bj⟩
instance:Flat bT:=⟨λ_=>rfl⟩
instance:lr bT:=⟨λx=>(inferInstance:jf [aw x.Name,bc x.Lit,ae x.bK,ae x.Level,ae x.ff,aw x.Tag])⟩
instance:gu bT bT:=⟨rfl,λx=>(inferInstance:c8 [aw x.Name,bc x.Lit,ae x.bK,ae x.Level,ae x.ff,aw x.Tag] [aw x.Name,bc x.Lit,ae x.bK,ae x.Level,ae x.ff,aw x.Tag])⟩
instance {x:Tok}:c8 (bT.cells x) [aw x.Name,bc x.Lit,ae x.bK,ae x.Level,ae x.ff,aw x.Tag]:=(inferInstance:c8 [aw x.Name,bc x.Lit,ae x.bK,ae x.Level,ae x.ff,aw x.Tag] [aw x.Name,bc x.Lit,ae x.bK,ae x.Level,ae x.ff,aw x.Tag])
def bx:bz fg:=⟨2,λx=>[aw x.Name,aw x.Tag],λ_=>rfl,λ_=>dj.bj⟩
instance:Flat bx:=⟨λ_=>rfl⟩
instance:lr bx:=⟨λx=>(inferInstance:jf [aw x.Name,aw x.Tag])⟩
instance:gu bx bx:=⟨rfl,λx=>(inferInstance:c8 [aw x.Name,aw x.Tag] [aw x.Name,aw x.Tag])⟩
def cx:bz Prod:=⟨6,λx=>[ae x.Left,ak ax x.e7,ae x.Prec,aw x.Code,ak ax x.rv,ae x.At],λ_=>rfl,λ_=>dj.bj⟩
instance:Flat cx:=⟨λ_=>rfl⟩
instance:gu cx cx:=⟨rfl,λx=>(inferInstance:c8 [ae x.Left,ak ax x.e7,ae x.Prec,aw x.Code,ak ax x.rv,ae x.At] [ae x.Left,ak ax x.e7,ae x.Prec,aw x.Code,ak ax x.rv,ae x.At])⟩
instance {x:Prod}:c8 (cx.cells x) [ae x.Left,ak ax x.e7,ae x.Prec,aw x.Code,ak ax x.rv,ae x.At]:=(inferInstance:c8 [ae x.Left,ak ax x.e7,ae x.Prec,aw x.Code,ak ax x.rv,ae x.At] [ae x.Left,ak ax x.e7,ae x.Prec,aw x.Code,ak ax x.rv,ae x.At])
def cV:bz bs:=⟨5,λx=>[ak bT x.aZ,ak bx x.bX,ak cx x.bd,aw x.b5,aw x.b'],λ_=>rfl,λ_=>dj.bj⟩
instance:Flat cV:=⟨λ_=>rfl⟩
instance:gu cV cV:=⟨rfl,λx=>(inferInstance:c8 [ak bT x.aZ,ak bx x.bX,ak cx x.bd,aw x.b5,aw x.b'] [ak bT x.aZ,ak bx x.bX,ak cx x.bd,aw x.b5,aw x.b'])⟩
instance {x:bs}:c8 (cV.cells x) [ak bT x.aZ,ak bx x.bX,ak cx x.bd,aw x.b5,aw x.b']:=(inferInstance:c8 [ak bT x.aZ,ak bx x.bX,ak cx x.bd,aw x.b5,aw x.b'] [ak bT x.aZ,ak bx x.bX,ak cx x.bd,aw x.b5,aw x.b'])
def D3:bz dh:=⟨13,λx=>[ak bT x.aC.aZ,ak bx x.aC.bX,ak cx x.aC.bd,aw x.aC.b5,aw x.aC.b',ak cj x.cf,ak bx x.cv,ak cI x.bZ,ae x.cL,ae x.dc,aw x.c_,ae x.cc,ae x.bU],λ_=>rfl,λ_=>dj.bj⟩
instance:Flat D3:=⟨λ_=>rfl⟩
instance:gu D3 D3:=⟨rfl,λx=>(inferInstance:c8 [ak bT x.aC.aZ,ak bx x.aC.bX,ak cx x.aC.bd,aw x.aC.b5,aw x.aC.b',ak cj x.cf,ak bx x.cv,ak cI x.bZ,ae x.cL,ae x.dc,aw x.c_,ae x.cc,ae x.bU] [ak bT x.aC.aZ,ak bx x.aC.bX,ak cx x.aC.bd,aw x.aC.b5,aw x.aC.b',ak cj x.cf,ak bx x.cv,ak cI x.bZ,ae x.cL,ae x.dc,aw x.c_,ae x.cc,ae x.bU])⟩
instance {x:dh}:c8 (D3.cells x) [ak bT x.aC.aZ,ak bx x.aC.bX,ak cx x.aC.bd,aw x.aC.b5,aw x.aC.b',ak cj x.cf,ak bx x.cv,ak cI x.bZ,ae x.cL,ae x.dc,aw x.c_,ae x.cc,ae x.bU]:=(inferInstance:c8 [ak bT x.aC.aZ,ak bx x.aC.bX,ak cx x.aC.bd,aw x.aC.b5,aw x.aC.b',ak cj x.cf,ak bx x.cv,ak cI x.bZ,ae x.cL,ae x.dc,aw x.c_,ae x.cc,ae x.bU] [ak bT x.aC.aZ,ak bx x.aC.bX,ak cx x.aC.bd,aw x.aC.b5,aw x.aC.b',ak cj x.cf,ak bx x.cv,ak cI x.bZ,ae x.cL,ae x.dc,aw x.c_,ae x.cc,ae x.bU])
def Mr:bz bs:=⟨5,λx=>[ao bT x.aZ,ao bx x.bX,ao cx x.bd,aw x.b5,aw x.b'],λ_=>rfl,λ_=>dj.bj⟩
instance:gu Mr cV:=⟨rfl,λx=>(inferInstance:c8 [ao bT x.aZ,ao bx x.bX,ao cx x.bd,aw x.b5,aw x.b'] [ak bT x.aZ,ak bx x.bX,ak cx x.bd,aw x.b5,aw x.b'])⟩
instance {x:bs}:c8 (Mr.cells x) [ak bT x.aZ,ak bx x.bX,ak cx x.bd,aw x.b5,aw x.b']:=(inferInstance:c8 [ao bT x.aZ,ao bx x.bX,ao cx x.bd,aw x.b5,aw x.b'] [ak bT x.aZ,ak bx x.bX,ak cx x.bd,aw x.b5,aw x.b'])
def dK:bz dh:=⟨13,λx=>[ao bT x.aC.aZ,ao bx x.aC.bX,ao cx x.aC.bd,aw x.aC.b5,aw x.aC.b',ao cj x.cf,ao bx x.cv,ao cI x.bZ,ae x.cL,ae x.dc,aw x.c_,ae x.cc,ae x.bU],λ_=>rfl,λ_=>dj.bj⟩
instance {x:dh}:c8 (dK.cells x) [ak bT x.aC.aZ,ak bx x.aC.bX,ak cx x.aC.bd,aw x.aC.b5,aw x.aC.b',ak cj x.cf,ak bx x.cv,ak cI x.bZ,ae x.cL,ae x.dc,aw x.c_,ae x.cc,ae x.bU]:=(inferInstance:c8 [ao bT x.aC.aZ,ao bx x.aC.bX,ao cx x.aC.bd,aw x.aC.b5,aw x.aC.b',ao cj x.cf,ao bx x.cv,ao cI x.bZ,ae x.cL,ae x.dc,aw x.c_,ae x.cc,ae x.bU] [ak bT x.aC.aZ,ak bx x.aC.bX,ak cx x.aC.bd,aw x.aC.b5,aw x.aC.b',ak cj x.cf,ak bx x.cv,ak cI x.bZ,ae x.cL,ae x.dc,aw x.c_,ae x.cc,ae x.bU])
def nN (a0:dh) (aB:Int) (a2:ByteArray):Option (dh) :=
 ((bif decide (a0.cL=0) then
 some (⟨a0.aC,a0.cf,a0.cv,a0.bZ,3,aB,a2,a0.cc,a0.bU⟩:dh)
 else
 some a0)).bind λjr =>
 some jr
def zH (a0:dh) (aB:ByteArray):Option (Int) :=
 (b0 (R:=(Unit) ⊕ (Int)) (λ(s1:Int) =>
 (bif decide (s1<(a0.cv.length:Int)) then
 (idx a0.cv s1).bind λbN =>
 (bif decide (bN.Name=aB) then
 some (.inr (.inr s1))
 else
 some (.inl (aH (s1+1))))
 else
 some (.inr (.inl ())))) 0).bind λx2 =>
 (match x2 with
 | .inl aY =>
 some (-1)
 | .inr bP =>
 some bP)
def uA (a0:dh) (aB:Sym):Option (Int) :=
 (b0 (R:=(Unit) ⊕ (Int)) (λ(s1:Int) =>
 (bif decide (s1<(a0.aC.aZ.length:Int)) then
 (((idx a0.aC.aZ s1).bind λbN=>(bif decide (bN.Name=aB.Name) then ((idx a0.aC.aZ s1).bind λb2=>(bif (b2.Lit == aB.Lit) then some (!decide (s1=2)) else some false)) else some false))).bind λhI =>
 (bif hI then
 some (.inr (.inr s1))
 else
 some (.inl (aH (s1+1))))
 else
 some (.inr (.inl ())))) 1).bind λx2 =>
 (match x2 with
 | .inl aY =>
 some (-1)
 | .inr bP =>
 some bP)
def vQ (a0:dh) (aB:Int):Option (Int) :=
 (b0 (R:=(Unit) ⊕ (Int)) (λ(s1:Int) =>
 (bif decide (s1<(a0.aC.aZ.length:Int)) then
 (idx a0.aC.aZ s1).bind λbN =>
 (bif decide (bN.bK=aB) then
 some (.inr (.inr s1))
 else
 some (.inl (aH (s1+1))))
 else
 some (.inr (.inl ())))) 3).bind λx2 =>
 (match x2 with
 | .inl aY =>
 some (-1)
 | .inr bP =>
 some bP)
def sZ (a0:dh) (aB:Sym):Option (Int × dh) :=
 (uA a0 aB).bind λaX =>
 (bif decide (0<=aX) then
 some (aX,a0)
 else
 ((bif aB.Lit then
 (hG aB.Name 0).bind λbF =>
 (vQ a0 (aH bF)).bind λbN =>
 ((bif decide (0<=bN) then
 (nN a0 aB.At aB.Name).bind λdD =>
 some dD
 else
 some a0)).bind λkK =>
 some (kK,aH bF)
 else
 some (a0,0))).bind λih =>
 (db ih.1.aC.aZ [(⟨aB.Name,aB.Lit,ih.2,0,0,⟨#[]⟩⟩:Tok)]).bind λbE =>
 (db ih.1.cf [aB.Lit]).bind λcb =>
 some (aH (((ih.1.aC.aZ++[(⟨aB.Name,aB.Lit,ih.2,0,0,⟨#[]⟩⟩:Tok)]).length:Int) - 1),(⟨(⟨ih.1.aC.aZ++[(⟨aB.Name,aB.Lit,ih.2,0,0,⟨#[]⟩⟩:Tok)],ih.1.aC.bX,ih.1.aC.bd,ih.1.aC.b5,ih.1.aC.b'⟩:bs),ih.1.cf++[aB.Lit],ih.1.cv,ih.1.bZ,ih.1.cL,ih.1.dc,ih.1.c_,ih.1.cc,ih.1.bU⟩:dh)))
def sW (a0:dh) (aB:Decl) (a2:Sym):Option (dh) :=
 (bif decide (aB.Kind=5) then
 (zH a0 a2.Name).bind λx2 =>
 ((bif decide (x2<0) then
 (db a0.cv [(⟨a2.Name,aB.Tag⟩:fg)]).bind λbF =>
 some (⟨a0.aC,a0.cf,a0.cv++[(⟨a2.Name,aB.Tag⟩:fg)],a0.bZ,a0.cL,a0.dc,a0.c_,a0.cc,a0.bU⟩:dh)
 else
 (idx a0.cv x2).bind λbN =>
 ((bif !decide (bN.Tag=aB.Tag) then
 (nN a0 a2.At a2.Name).bind λdD =>
 some dD
 else
 some a0)).bind λkK =>
 some kK)).bind λih =>
 some ih
 else
 (sZ a0 a2).bind λbE =>
 (idx bE.2.aC.aZ bE.1).bind λcb =>
 ((bif !decide (aB.Kind=1) then
 ((bif decide (0<cb.Level) then
 (nN bE.2 a2.At a2.Name).bind λb7 =>
 some (⟨(⟨bE.2.aC.aZ,b7.aC.bX,b7.aC.bd,b7.aC.b5,b7.aC.b'⟩:bs),b7.cf,b7.cv,b7.bZ,b7.cL,b7.dc,b7.c_,b7.cc,b7.bU⟩:dh)
 else
 some bE.2)).bind λc3 =>
 (idx c3.aC.aZ bE.1).bind λbO =>
 some (⟨(⟨(c3.aC.aZ.set bE.1.toNat (⟨bO.Name,bO.Lit,bO.bK,c3.cc,bO.ff,bO.Tag⟩:Tok)).set bE.1.toNat (⟨(⟨bO.Name,bO.Lit,bO.bK,c3.cc,bO.ff,bO.Tag⟩:Tok).Name,(⟨bO.Name,bO.Lit,bO.bK,c3.cc,bO.ff,bO.Tag⟩:Tok).Lit,(⟨bO.Name,bO.Lit,bO.bK,c3.cc,bO.ff,bO.Tag⟩:Tok).bK,(⟨bO.Name,bO.Lit,bO.bK,c3.cc,bO.ff,bO.Tag⟩:Tok).Level,aH (aB.Kind - 1),(⟨bO.Name,bO.Lit,bO.bK,c3.cc,bO.ff,bO.Tag⟩:Tok).Tag⟩:Tok),c3.aC.bX,c3.aC.bd,c3.aC.b5,c3.aC.b'⟩:bs),c3.cf,c3.cv,c3.bZ,c3.cL,c3.dc,c3.c_,c3.cc,c3.bU⟩:dh)
 else
 some bE.2)).bind λet =>
 (idx et.aC.aZ bE.1).bind λfo =>
 ((bif decide (0<a2.bK) then
 ((bif decide (bE.1=1) then some true else ((idx et.cf bE.1).bind λfN=>(bif fN then some true else ((vQ et a2.bK).bind λhc=>some (decide (0<=hc))))))).bind λGP =>
 ((bif GP then
 (nN et a2.At a2.Name).bind λcE =>
 some (⟨(⟨et.aC.aZ,cE.aC.bX,cE.aC.bd,cE.aC.b5,cE.aC.b'⟩:bs),cE.cf,cE.cv,cE.bZ,cE.cL,cE.dc,cE.c_,cE.cc,cE.bU⟩:dh)
 else
 some et)).bind λdQ =>
 (idx dQ.aC.aZ bE.1).bind λeA =>
 (idx dQ.cf bE.1).bind λhs =>
 some (⟨(⟨dQ.aC.aZ.set bE.1.toNat (⟨eA.Name,eA.Lit,a2.bK,eA.Level,eA.ff,eA.Tag⟩:Tok),dQ.aC.bX,dQ.aC.bd,dQ.aC.b5,dQ.aC.b'⟩:bs),dQ.cf.set bE.1.toNat true,dQ.cv,dQ.bZ,dQ.cL,dQ.dc,dQ.c_,dQ.cc,dQ.bU⟩:dh)
 else
 some et)).bind λeS =>
 (idx eS.aC.aZ bE.1).bind λku =>
 ((bif !decide (aB.Tag=⟨#[]⟩) then
 ((bif !decide (ku.Tag=⟨#[]⟩) then some (!decide (ku.Tag=aB.Tag)) else some false)).bind λwG =>
 ((bif wG then
 (nN eS a2.At a2.Name).bind λcT =>
 some (⟨(⟨eS.aC.aZ,cT.aC.bX,cT.aC.bd,cT.aC.b5,cT.aC.b'⟩:bs),cT.cf,cT.cv,cT.bZ,cT.cL,cT.dc,cT.c_,cT.cc,cT.bU⟩:dh)
 else
 some eS)).bind λmA =>
 (idx mA.aC.aZ bE.1).bind λgh =>
 some (⟨(⟨mA.aC.aZ.set bE.1.toNat (⟨gh.Name,gh.Lit,gh.bK,gh.Level,gh.ff,aB.Tag⟩:Tok),mA.aC.bX,mA.aC.bd,mA.aC.b5,mA.aC.b'⟩:bs),mA.cf,mA.cv,mA.bZ,mA.cL,mA.dc,mA.c_,mA.cc,mA.bU⟩:dh)
 else
 some eS)).bind λpz =>
 some pz)
def sX (a0:dh) (aB:ByteArray):Option (Int) :=
 (b0 (R:=(Unit) ⊕ (Int)) (λ(s1:Int) =>
 (bif decide (s1<(a0.bZ.length:Int)) then
 (idx a0.bZ s1).bind λbN =>
 (bif decide (bN=aB) then
 some (.inr (.inr s1))
 else
 some (.inl (aH (s1+1))))
 else
 some (.inr (.inl ())))) 0).bind λx2 =>
 (match x2 with
 | .inl aY =>
 some (-1)
 | .inr bP =>
 some bP)
def q6 (a0:dh) (aB:Sym):Option (Int × dh) :=
 (bif aB.Lit then
 (sZ a0 aB).bind λx2 =>
 some (x2.1,x2.2)
 else
 (sX a0 aB.Name).bind λaY =>
 (bif decide (0<=aY) then
 some (aH (1001+aY),a0)
 else
 (uA a0 aB).bind λbF =>
 (bif decide (bF<0) then
 (nN a0 aB.At aB.Name).bind λbM =>
 some (0,bM)
 else
 some (bF,a0))))
def sY (a0:dh) (aB:ByteArray) (a2:Alt):Option (dh) :=
 (sX a0 aB).bind λaX =>
 (b0 (R:=dh × List Int × ByteArray × Int) (λ(s2:dh × List Int × ByteArray × Int × Int) =>
 (bif decide (s2.2.2.2.2<(a2.Parts.length:Int)) then
 ((idx a2.Parts s2.2.2.2.2).bind λbM =>
 (((bif decide (bM.Code=⟨#[]⟩) then
 (q6 s2.1 bM.Sym).bind λcb =>
 (db s2.2.1 [cb.1]).bind λdS =>
 some (cb.2,s2.2.1++[cb.1],s2.2.2.1,s2.2.2.2.1)
 else
 ((bif decide (aH (s2.2.2.2.2+1)=(a2.Parts.length:Int)) then
 some (s2.1.aC.bd,s2.1.bU,s2.2.1,bM.Code,bM.At)
 else
 (db ([]:List Int) s2.2.1).bind λc0 =>
 (db s2.1.aC.bd [(⟨aH ((s2.1.bZ.length:Int)+(aH (s2.1.bU+1))),([]:List Int),(-1),bM.Code,([]:List Int)++s2.2.1,bM.At⟩:Prod)]).bind λb7 =>
 (db s2.2.1 [aH ((aH (1000+(s2.1.bZ.length:Int)))+(aH (s2.1.bU+1)))]).bind λbO =>
 some (s2.1.aC.bd++[(⟨aH ((s2.1.bZ.length:Int)+(aH (s2.1.bU+1))),([]:List Int),(-1),bM.Code,([]:List Int)++s2.2.1,bM.At⟩:Prod)],aH (s2.1.bU+1),s2.2.1++[aH ((aH (1000+(s2.1.bZ.length:Int)))+(aH (s2.1.bU+1)))],s2.2.2.1,s2.2.2.2.1))).bind λiB =>
 some ((⟨(⟨s2.1.aC.aZ,s2.1.aC.bX,iB.1,s2.1.aC.b5,s2.1.aC.b'⟩:bs),s2.1.cf,s2.1.cv,s2.1.bZ,s2.1.cL,s2.1.dc,s2.1.c_,s2.1.cc,iB.2.1⟩:dh),iB.2.2.1,iB.2.2.2.1,iB.2.2.2.2))).bind λnD =>
 some (nD.1,nD.2.1,nD.2.2.1,nD.2.2.2)).bind λfm =>
 some (fm.1,fm.2.1,fm.2.2.1,fm.2.2.2)).bind λkJ =>
 some (.inl (kJ.1,kJ.2.1,kJ.2.2.1,kJ.2.2.2,aH (s2.2.2.2.2+1)))
 else
 some (.inr (s2.1,s2.2.1,s2.2.2.1,s2.2.2.2.1)))) (a0,([]:List Int),⟨#[]⟩,a2.At,0)).bind λaY =>
 (b0 (R:=Int) (λ(s8:Int × Int) =>
 (bif decide (s8.2<(aY.2.1.length:Int)) then
 ((idx aY.2.1 s8.2).bind λfx =>
 ((bif decide (fx<1000) then
 (idx aY.2.1 s8.2).bind λgW =>
 some gW
 else
 some s8.1)).bind λr5 =>
 some r5).bind λmz =>
 some (.inl (mz,aH (s8.2+1)))
 else
 some (.inr s8.1))) ((-1),0)).bind λfj =>
 ((bif !decide (a2.Prec.Name=⟨#[]⟩) then
 ((bif a2.Prec.Lit then some true else ((sX aY.1 a2.Prec.Name).bind λhs=>some (decide (hs<0))))).bind λtH =>
 ((bif tH then
 (q6 aY.1 a2.Prec).bind λjd =>
 some (jd.2,jd.1)
 else
 (nN aY.1 a2.Prec.At a2.Prec.Name).bind λfk =>
 some (fk,(-1)))).bind λpz =>
 some (pz.1,pz.2)
 else
 some (aY.1,fj))).bind λjS =>
 (db ([]:List Int) aY.2.1).bind λkQ =>
 (db jS.1.aC.bd [(⟨aH (1+aX),aY.2.1,jS.2,aY.2.2.1,([]:List Int)++aY.2.1,aY.2.2.2⟩:Prod)]).bind λjI =>
 some (⟨(⟨jS.1.aC.aZ,jS.1.aC.bX,jS.1.aC.bd++[(⟨aH (1+aX),aY.2.1,jS.2,aY.2.2.1,([]:List Int)++aY.2.1,aY.2.2.2⟩:Prod)],jS.1.aC.b5,jS.1.aC.b'⟩:bs),jS.1.cf,jS.1.cv,jS.1.bZ,jS.1.cL,jS.1.dc,jS.1.c_,jS.1.cc,jS.1.bU⟩:dh)
def s5 (a0:Source):Option (bs × Int × Int × ByteArray) :=
 (xT a0).bind λaX =>
 (bif !aX then
 some ((⟨([]:List Tok),([]:List fg),([]:List Prod),⟨#[]⟩,⟨#[]⟩⟩:bs),1,0,⟨#[]⟩)
 else
 (nH 3 false).bind λaY =>
 (b0 (R:=dh × ByteArray) (λ(cX:dh × ByteArray × Int) =>
 (bif decide (cX.2.2<(a0.Decls.length:Int)) then
 (idx a0.Decls cX.2.2).bind λb2 =>
 ((bif decide (2<=b2.Kind) then some (decide (b2.Kind<=4)) else some false)).bind λhI =>
 ((bif hI then
 some (aH (cX.1.cc+1))
 else
 some cX.1.cc)).bind λja =>
 (b0 (R:=dh × ByteArray) (λ(hr:dh × ByteArray × Int) =>
 (bif decide (hr.2.2<(b2.ey.length:Int)) then
 ((bif !decide (b2.Kind=6) then
 (idx b2.ey hr.2.2).bind λfj =>
 (sW hr.1 b2 fj).bind λe5 =>
 some (e5,hr.2.1)
 else
 ((bif !decide (hr.2.1=⟨#[]⟩) then
 (idx b2.ey hr.2.2).bind λfx =>
 (idx b2.ey hr.2.2).bind λhc =>
 (nN hr.1 fx.At hc.Name).bind λhY =>
 some hY
 else
 some hr.1)).bind λk' =>
 (idx b2.ey hr.2.2).bind λgW =>
 some (k',gW.Name))).bind λB5 =>
 some (.inl (B5.1,B5.2,aH (hr.2.2+1)))
 else
 some (.inr (hr.1,hr.2.1)))) ((⟨cX.1.aC,cX.1.cf,cX.1.cv,cX.1.bZ,cX.1.cL,cX.1.dc,cX.1.c_,ja,cX.1.bU⟩:dh),cX.2.1,0)).bind λec =>
 some (.inl (ec.1,ec.2,aH (cX.2.2+1)))
 else
 some (.inr (cX.1,cX.2.1)))) ((⟨(⟨[(⟨⟨#[36,101,110,100]⟩,false,0,0,0,⟨#[]⟩⟩:Tok),(⟨⟨#[101,114,114,111,114]⟩,false,(-1),0,0,⟨#[]⟩⟩:Tok),(⟨⟨#[36,117,110,107]⟩,false,(-1),0,0,⟨#[]⟩⟩:Tok)],[],[],⟨#[]⟩,⟨#[]⟩⟩:bs),aY,[],[],0,0,⟨#[]⟩,0,0⟩:dh),⟨#[]⟩,0)).bind λbF =>
 (b0 (R:=dh) (λ(qt:dh × Int) =>
 (bif decide (qt.2<(a0.dF.length:Int)) then
 ((idx a0.dF qt.2).bind λe0 =>
 (uA qt.1 (⟨e0.Left,false,0,0⟩:Sym)).bind λkP =>
 ((bif decide (0<=kP) then
 (nN qt.1 e0.At e0.Left).bind λkQ =>
 some kQ
 else
 some qt.1)).bind λiC =>
 (sX iC e0.Left).bind λjI =>
 ((bif decide (jI<0) then
 (db iC.bZ [e0.Left]).bind λo3 =>
 some (iC.bZ++[e0.Left])
 else
 some iC.bZ)).bind λqW =>
 some (⟨iC.aC,iC.cf,iC.cv,qW,iC.cL,iC.dc,iC.c_,iC.cc,iC.bU⟩:dh)).bind λxl =>
 some (.inl (xl,aH (qt.2+1)))
 else
 some (.inr qt.1))) (bF.1,0)).bind λcE =>
 (b0 (R:=dh) (λ(qu:dh × Int) =>
 (bif decide (qu.2<(a0.Decls.length:Int)) then
 (b0 (R:=dh) (λ(qv:dh × Int) =>
 (idx a0.Decls qu.2).bind λrp =>
 (bif decide (qv.2<(rp.ey.length:Int)) then
 ((idx a0.Decls qu.2).bind λtf =>
 (idx tf.ey qv.2).bind λpQ =>
 (((idx a0.Decls qu.2).bind λKS=>(bif decide (5<=KS.Kind) then ((sX qv.1 pQ.Name).bind λll=>some (decide (ll<0))) else some false))).bind λAV =>
 ((bif AV then
 (nN qv.1 pQ.At pQ.Name).bind λF8 =>
 some F8
 else
 some qv.1)).bind λJw =>
 some Jw).bind λJv =>
 some (.inl (Jv,aH (qv.2+1)))
 else
 some (.inr qv.1))) (qu.1,0)).bind λl7 =>
 some (.inl (l7,aH (qu.2+1)))
 else
 some (.inr qu.1))) (cE,0)).bind λgM =>
 ((bif decide (bF.2=⟨#[]⟩) then
 (idx a0.dF 0).bind λwg =>
 some wg.Left
 else
 some bF.2)).bind λvG =>
 (sX gM vG).bind λl8 =>
 (b0 (R:=dh) (λ(pL:dh × Int) =>
 (bif decide (pL.2<(a0.dF.length:Int)) then
 (b0 (R:=dh) (λ(ra:dh × Int) =>
 (idx a0.dF pL.2).bind λDk =>
 (bif decide (ra.2<(Dk.eJ.length:Int)) then
 (idx a0.dF pL.2).bind λDl =>
 (idx a0.dF pL.2).bind λKV =>
 (idx KV.eJ ra.2).bind λDm =>
 (sY ra.1 Dl.Left Dm).bind λF9 =>
 some (.inl (F9,aH (ra.2+1)))
 else
 some (.inr ra.1))) (pL.1,0)).bind λkv =>
 some (.inl (kv,aH (pL.2+1)))
 else
 some (.inr pL.1))) ((⟨(⟨gM.aC.aZ,gM.aC.bX,[(⟨0,[aH (1001+l8)],(-1),⟨#[]⟩,([]:List Int),0⟩:Prod)],gM.aC.b5,gM.aC.b'⟩:bs),gM.cf,gM.cv,gM.bZ,gM.cL,gM.dc,gM.c_,gM.cc,gM.bU⟩:dh),0)).bind λbo =>
 (bif !decide (bo.cL=0) then
 some ((⟨([]:List Tok),([]:List fg),([]:List Prod),⟨#[]⟩,⟨#[]⟩⟩:bs),bo.cL,bo.dc,bo.c_)
 else
 (b0 (R:=List fg) (λ(rb:List fg × Int) =>
 (bif decide (rb.2<(bo.bZ.length:Int)) then
 (idx bo.bZ rb.2).bind λqy =>
 (zH (⟨(⟨bo.aC.aZ,rb.1,bo.aC.bd,bo.aC.b5,bo.aC.b'⟩:bs),bo.cf,bo.cv,bo.bZ,bo.cL,bo.dc,bo.c_,bo.cc,bo.bU⟩:dh) qy).bind λye =>
 ((bif decide (0<=ye) then
 (idx bo.cv ye).bind λKW =>
 some KW.Tag
 else
 some (⟨#[]⟩))).bind λuw =>
 (db rb.1 [(⟨qy,uw⟩:fg)]).bind λQA =>
 some (.inl (rb.1++[(⟨qy,uw⟩:fg)],aH (rb.2+1)))
 else
 some (.inr rb.1))) ([(⟨⟨#[36,97,99,99,101,112,116]⟩,⟨#[]⟩⟩:fg)],0)).bind λth =>
 (b0 (R:=List fg) (λ(sa:List fg × Int) =>
 (bif decide (sa.2<=bo.bU) then
 (pG sa.2).bind λF_ =>
 (eG (⟨#[64]⟩) F_).bind λwh =>
 (db sa.1 [(⟨wh,⟨#[]⟩⟩:fg)]).bind λQB =>
 some (.inl (sa.1++[(⟨wh,⟨#[]⟩⟩:fg)],aH (sa.2+1)))
 else
 some (.inr sa.1))) (th,1)).bind λky =>
 (b0 (R:=List Tok) (λ(l4:List Tok × Int × Int) =>
 (bif decide (l4.2.2<(l4.1.length:Int)) then
 ((idx bo.cf l4.2.2).bind λKQ =>
 ((bif !KQ then
 (idx l4.1 l4.2.2).bind λsg =>
 some (l4.1.set l4.2.2.toNat (⟨sg.Name,sg.Lit,l4.2.1,sg.Level,sg.ff,sg.Tag⟩:Tok),aH (l4.2.1+1))
 else
 some (l4.1,l4.2.1))).bind λB4 =>
 some (B4.1,B4.2)).bind λB7 =>
 some (.inl (B7.1,B7.2,aH (l4.2.2+1)))
 else
 some (.inr l4.1))) (bo.aC.aZ,57346,3)).bind λlM =>
 ((bif decide (40<(lM.length:Int)) then some true else (bif decide (24<(ky.length:Int)) then some true else some (decide (60<(bo.aC.bd.length:Int)))))).bind λso =>
 (b0 (R:=Bool) (λ(s7:Bool × Int) =>
 (bif decide (s7.2<(bo.aC.bd.length:Int)) then
 ((bif s7.1 then some true else ((idx bo.aC.bd s7.2).bind λKR=>some (decide (8<(KR.e7.length:Int)))))).bind λyW =>
 some (.inl (yW,aH (s7.2+1)))
 else
 some (.inr s7.1))) (so,0)).bind λAo =>
 (bif Ao then
 some ((⟨([]:List Tok),([]:List fg),([]:List Prod),⟨#[]⟩,⟨#[]⟩⟩:bs),4,0,⟨#[]⟩)
 else
 some ((⟨lM,ky,bo.aC.bd,a0.b5,a0.b'⟩:bs),0,0,⟨#[]⟩))))
def uF (a0:Source):Option (bs × Bool) :=
 (s5 a0).bind λaX =>
 some (aX.1,decide (aX.2.1=0))
def pH (a0:(List Int)) (aB:Int):Option ((List Int)) :=
 (b0 (R:=Int) (λ(s1:Int) =>
 ((bif decide (0<s1) then ((idx a0 (aH (s1 - 1))).bind λbF=>some (decide (aB<bF))) else some false)).bind λow =>
 (bif ow then
 some (.inl (aH (s1 - 1)))
 else
 some (.inr s1))) (a0.length:Int)).bind λx2 =>
 ((bif decide (0<x2) then ((idx a0 (aH (x2 - 1))).bind λdD=>some (decide (dD=aB))) else some false)).bind λhI =>
 (bif hI then
 some a0
 else
 (m_ a0 0 x2).bind λdS =>
 (db ([]:List Int) dS).bind λeQ =>
 (db (([]:List Int)++dS) [aB]).bind λec =>
 (m_ a0 x2 a0.length).bind λc0 =>
 (db ((([]:List Int)++dS)++[aB]) c0).bind λb7 =>
 some ((([]:List Int)++dS)++[aB]++c0))
def uG (a0:(List Int)) (aB:Int):Option (Bool) :=
 (b0 (R:=(Unit) ⊕ (Bool)) (λ(s1:Int) =>
 (bif decide (s1<(a0.length:Int)) then
 (idx a0 s1).bind λbN =>
 (bif decide (bN=aB) then
 some (.inr (.inr true))
 else
 some (.inl (aH (s1+1))))
 else
 some (.inr (.inl ())))) 0).bind λx2 =>
 (match x2 with
 | .inl aY =>
 some false
 | .inr bP =>
 some bP)
def CR (a0:bs):Option ((List Int)) :=
 (b0 (R:=List Int) (λ(s1:List Int × Int) =>
 (bif decide (s1.2<(a0.aZ.length:Int)) then
 (db s1.1 [s1.2]).bind λbF =>
 some (.inl (s1.1++[s1.2],aH (s1.2+1)))
 else
 some (.inr s1.1))) (([]:List Int),0)).bind λx2 =>
 (b0 (R:=List Int) (λ(cP:List Int × Int) =>
 (bif decide (cP.2<(a0.bX.length:Int)) then
 (db cP.1 [aH (1000+cP.2)]).bind λbE =>
 some (.inl (cP.1++[aH (1000+cP.2)],aH (cP.2+1)))
 else
 some (.inr cP.1))) (x2,0)).bind λbM =>
 some bM
structure Item where
 Prod:Int
 e2:Int
 deriving DecidableEq,Inhabited
def zI (a0:bs) (aB:Item):Option (Bool) :=
 ((bif decide (0<=aB.Prod) then (bif decide (aB.Prod<(a0.bd.length:Int)) then (bif decide (0<=aB.e2) then ((idx a0.bd aB.Prod).bind λbP=>some (decide (aB.e2<=(bP.e7.length:Int)))) else some false) else some false) else some false)).bind λnj =>
 some nj
def xR (a0:bs) (aB:Item):Option (Int) :=
 (((zI a0 aB).bind λaX=>(bif !aX then some true else ((idx a0.bd aB.Prod).bind λaY=>some (decide (aB.e2=(aY.e7.length:Int))))))).bind λc4 =>
 (bif c4 then
 some (-1)
 else
 (idx a0.bd aB.Prod).bind λbN =>
 (idx bN.e7 aB.e2).bind λbM =>
 some bM)
def fD:bz Item:=⟨2,λx=>[ae x.Prod,ae x.e2],λ_=>rfl,λ_=>dj.bj⟩
instance:Flat fD:=⟨λ_=>rfl⟩
instance:lr fD:=⟨λx=>(inferInstance:jf [ae x.Prod,ae x.e2])⟩
instance:gu fD fD:=⟨rfl,λx=>(inferInstance:c8 [ae x.Prod,ae x.e2] [ae x.Prod,ae x.e2])⟩
def xD (a0:(List Item)) (aB:Item):Option ((List Item)) :=
 (b0 (R:=Int) (λ(s1:Int) =>
 ((bif decide (0<s1) then ((idx a0 (aH (s1 - 1))).bind λbF=>(bif decide (aB.Prod<bF.Prod) then some true else ((idx a0 (aH (s1 - 1))).bind λbM=>(bif decide (bM.Prod=aB.Prod) then ((idx a0 (aH (s1 - 1))).bind λdD=>some (decide (aB.e2<dD.e2))) else some false)))) else some false)).bind λhI =>
 (bif hI then
 some (.inl (aH (s1 - 1)))
 else
 some (.inr s1))) (a0.length:Int)).bind λx2 =>
 ((bif decide (0<x2) then ((idx a0 (aH (x2 - 1))).bind λeQ=>some (decide (eQ.Prod=aB.Prod)&&(decide (eQ.e2=aB.e2)&&true))) else some false)).bind λrF =>
 (bif rF then
 some a0
 else
 (m_ a0 0 x2).bind λb7 =>
 (db ([]:List Item) b7).bind λbO =>
 (db (([]:List Item)++b7) [aB]).bind λfo =>
 (m_ a0 x2 a0.length).bind λfj =>
 (db ((([]:List Item)++b7)++[aB]) fj).bind λe5 =>
 some ((([]:List Item)++b7)++[aB]++fj))
def Cw (a0:bs) (aB:(List Item)):Option ((List Item)) :=
 (b0 (R:=List Item) (λ(s1:List Item × Int) =>
 (bif decide (s1.2<(aB.length:Int)) then
 ((idx aB s1.2).bind λbN =>
 (zI a0 bN).bind λbM =>
 ((bif bM then
 (idx aB s1.2).bind λbE =>
 (xD s1.1 bE).bind λcb =>
 some cb
 else
 some s1.1)).bind λfm =>
 some fm).bind λqj =>
 some (.inl (qj,aH (s1.2+1)))
 else
 some (.inr s1.1))) (([]:List Item),0)).bind λx2 =>
 some x2
def xQ (a0:bs) (aB:(List Item)):Option ((List Item)) :=
 (Cw a0 aB).bind λaX =>
 (b0 (R:=List Item) (λ(s2:List Item × Int) =>
 (bif !decide (s2.2=(s2.1.length:Int)) then
 (((b0 (R:=List Item) (λ(eM:List Item × Int) =>
 (bif decide (eM.2<(s2.1.length:Int)) then
 (idx eM.1 eM.2).bind λdS =>
 (xR a0 dS).bind λeQ =>
 (b0 (R:=List Item) (λ(lK:List Item × Int) =>
 ((bif decide (lK.2<(a0.bd.length:Int)) then some (decide (1000<=eQ)) else some false)).bind λk2 =>
 (bif k2 then
 ((idx a0.bd lK.2).bind λeZ =>
 ((bif decide (eZ.Left=aH (eQ - 1000)) then
 (xD lK.1 (⟨lK.2,0⟩:Item)).bind λhc =>
 some hc
 else
 some lK.1)).bind λmz =>
 some mz).bind λxj =>
 some (.inl (xj,aH (lK.2+1)))
 else
 some (.inr lK.1))) (eM.1,0)).bind λc0 =>
 (bif !decide ((c0.length:Int)=(s2.1.length:Int)) then
 some (.inr c0)
 else
 some (.inl (c0,aH (eM.2+1))))
 else
 some (.inr eM.1))) (s2.1,0)).bind λdD =>
 some dD).bind λkK =>
 some (kK,(s2.1.length:Int))).bind λkJ =>
 some (.inl (kJ.1,kJ.2))
 else
 some (.inr s2.1))) (aX,(-1))).bind λaY =>
 some aY
def CS (a0:bs) (aB:(List Item)) (a2:Int):Option ((List Item)) :=
 (xQ a0 aB).bind λaX =>
 (b0 (R:=List Item) (λ(s2:List Item × Int) =>
 (bif decide (s2.2<(aX.length:Int)) then
 ((idx aX s2.2).bind λbM =>
 (xR a0 bM).bind λb2 =>
 ((bif decide (0<=b2) then some (decide (b2=a2)) else some false)).bind λhI =>
 ((bif hI then
 (idx aX s2.2).bind λeQ =>
 (idx aX s2.2).bind λec =>
 (xD s2.1 (⟨eQ.Prod,aH (ec.e2+1)⟩:Item)).bind λc0 =>
 some c0
 else
 some s2.1)).bind λja =>
 some ja).bind λkJ =>
 some (.inl (kJ,aH (s2.2+1)))
 else
 some (.inr s2.1))) (([]:List Item),0)).bind λaY =>
 some aY
def Cx (a0:(List Item)) (aB:(List Item)):Option (Bool) :=
 (bif !decide ((a0.length:Int)=(aB.length:Int)) then
 some false
 else
 (b0 (R:=(Unit) ⊕ (Bool)) (λ(s2:Int) =>
 (bif decide (s2<(a0.length:Int)) then
 (idx a0 s2).bind λbM =>
 (idx aB s2).bind λb2 =>
 (bif !(decide (bM.Prod=b2.Prod)&&(decide (bM.e2=b2.e2)&&true)) then
 some (.inr (.inr false))
 else
 some (.inl (aH (s2+1))))
 else
 some (.inr (.inl ())))) 0).bind λaY =>
 (match aY with
 | .inl bP =>
 some true
 | .inr bF =>
 some bF))
structure Move where
 Sym:Int
 jA:Int
 deriving DecidableEq,Inhabited
structure State where
 Kernel:(List Item)
 eF:(List Move)
 deriving DecidableEq,Inhabited
def lz:bz Move:=⟨2,λx=>[ae x.Sym,ae x.jA],λ_=>rfl,λ_=>dj.bj⟩
instance:Flat lz:=⟨λ_=>rfl⟩
instance:lr lz:=⟨λx=>(inferInstance:jf [ae x.Sym,ae x.jA])⟩
instance:gu lz lz:=⟨rfl,λx=>(inferInstance:c8 [ae x.Sym,ae x.jA] [ae x.Sym,ae x.jA])⟩
def gx:bz State:=⟨2,λx=>[ak fD x.Kernel,ak lz x.eF],λ_=>rfl,λ_=>dj.bj⟩
instance:Flat gx:=⟨λ_=>rfl⟩
instance:gu gx gx:=⟨rfl,λx=>(inferInstance:c8 [ak fD x.Kernel,ak lz x.eF] [ak fD x.Kernel,ak lz x.eF])⟩
def CT (a0:(List State)) (aB:(List Item)):Option (Int) :=
 (b0 (R:=(Unit) ⊕ (Int)) (λ(s1:Int) =>
 (bif decide (s1<(a0.length:Int)) then
 (idx a0 s1).bind λbN =>
 (Cx bN.Kernel aB).bind λbM =>
 (bif bM then
 some (.inr (.inr s1))
 else
 some (.inl (aH (s1+1))))
 else
 some (.inr (.inl ())))) 0).bind λx2 =>
 (match x2 with
 | .inl aY =>
 some (-1)
 | .inr bP =>
 some bP)
def gR:bz State:=⟨2,λx=>[ak fD x.Kernel,ao lz x.eF],λ_=>rfl,λ_=>dj.bj⟩
instance:gu gR gx:=⟨rfl,λx=>(inferInstance:c8 [ak fD x.Kernel,ao lz x.eF] [ak fD x.Kernel,ak lz x.eF])⟩
def zV (a0:bs):Option ((List State) × Int) :=
 (CR a0).bind λaX =>
 (b0 (R:=(List State) ⊕ (List State × Int)) (λ(s2:List State × Int) =>
 (bif decide (s2.2<(s2.1.length:Int)) then
 (idx s2.1 s2.2).bind λbM =>
 (xQ a0 bM.Kernel).bind λb2 =>
 (b0 (R:=List Int) (λ(fM:List Int × Int) =>
 (bif decide (fM.2<(b2.length:Int)) then
 ((idx b2 fM.2).bind λec =>
 (xR a0 ec).bind λc0 =>
 ((bif decide (0<=c0) then
 (pH fM.1 c0).bind λfo =>
 some fo
 else
 some fM.1)).bind λmy =>
 some my).bind λiB =>
 some (.inl (iB,aH (fM.2+1)))
 else
 some (.inr fM.1))) (([]:List Int),0)).bind λbE =>
 (b0 (R:=(List State) ⊕ (List State × Int)) (λ(dR:List State × Int) =>
 (bif decide (dR.2<(aX.length:Int)) then
 (idx aX dR.2).bind λhc =>
 (uG bE hc).bind λhY =>
 (bif !hY then
 some (.inl (dR.1,aH (dR.2+1)))
 else
 (idx dR.1 s2.2).bind λfZ =>
 (idx aX dR.2).bind λcE =>
 (CS a0 fZ.Kernel cE).bind λeA =>
 (CT dR.1 eA).bind λhs =>
 (bif decide (hs<0) then
 (bif decide ((dR.1.length:Int)=150) then
 some (.inr (.inr (([]:List State),4)))
 else
 (db dR.1 [(⟨eA,([]:List Move)⟩:State)]).bind λkP =>
 (idx (dR.1++[(⟨eA,([]:List Move)⟩:State)]) s2.2).bind λjd =>
 (idx aX dR.2).bind λfk =>
 (db jd.eF [(⟨fk,(dR.1.length:Int)⟩:Move)]).bind λkQ =>
 some (.inl ((dR.1++[(⟨eA,([]:List Move)⟩:State)]).set s2.2.toNat (⟨jd.Kernel,jd.eF++[(⟨fk,(dR.1.length:Int)⟩:Move)]⟩:State),aH (dR.2+1))))
 else
 (idx dR.1 s2.2).bind λjI =>
 (idx aX dR.2).bind λcT =>
 (db jI.eF [(⟨cT,hs⟩:Move)]).bind λgh =>
 some (.inl (dR.1.set s2.2.toNat (⟨jI.Kernel,jI.eF++[(⟨cT,hs⟩:Move)]⟩:State),aH (dR.2+1)))))
 else
 some (.inr (.inl dR.1)))) (s2.1,0)).bind λe5 =>
 (match e5 with
 | .inl eZ =>
 some (.inl (eZ,aH (s2.2+1)))
 | .inr fN =>
 some (.inr (.inr (fN.1,fN.2))))
 else
 some (.inr (.inl s2.1)))) ([(⟨[(⟨0,0⟩:Item)],([]:List Move)⟩:State)],0)).bind λaY =>
 (match aY with
 | .inl bP =>
 some (bP,0)
 | .inr bF =>
 some (bF.1,bF.2))
def uD (a0:Source):Option (bs × (List State) × Bool) :=
 (uF a0).bind λaX =>
 (bif !aX.2 then
 some (aX.1,([]:List State),false)
 else
 (zV aX.1).bind λaY =>
 some (aX.1,aY.1,decide (aY.2=0)))
def q7 (a0:(List State)) (aB:Int) (a2:Int):Option (Int) :=
 (b0 (R:=(Unit) ⊕ (Int)) (λ(s1:Int) =>
 ((bif decide (0<=aB) then (bif decide (aB<(a0.length:Int)) then ((idx a0 aB).bind λbM=>some (decide (s1<(bM.eF.length:Int)))) else some false) else some false)).bind λtJ =>
 (bif tJ then
 (idx a0 aB).bind λbE =>
 (idx bE.eF s1).bind λcb =>
 (bif decide (cb.Sym=a2) then
 (idx a0 aB).bind λeQ =>
 (idx eQ.eF s1).bind λec =>
 some (.inr (.inr ec.jA))
 else
 some (.inl (aH (s1+1))))
 else
 some (.inr (.inl ())))) 0).bind λx2 =>
 (match x2 with
 | .inl aY =>
 some (-1)
 | .inr bP =>
 some bP)
structure Cell where
 State:Int
 Tok:Int
 j4:Int
 lN:Bool
 bd:(List Int)
 deriving DecidableEq,Inhabited
def iu:bz Cell:=⟨5,λx=>[ae x.State,ae x.Tok,ae x.j4,bc x.lN,ak ax x.bd],λ_=>rfl,λ_=>dj.bj⟩
instance:Flat iu:=⟨λ_=>rfl⟩
instance:gu iu iu:=⟨rfl,λx=>(inferInstance:c8 [ae x.State,ae x.Tok,ae x.j4,bc x.lN,ak ax x.bd] [ae x.State,ae x.Tok,ae x.j4,bc x.lN,ak ax x.bd])⟩
instance {x:Cell}:c8 (iu.cells x) [ae x.State,ae x.Tok,ae x.j4,bc x.lN,ak ax x.bd]:=(inferInstance:c8 [ae x.State,ae x.Tok,ae x.j4,bc x.lN,ak ax x.bd] [ae x.State,ae x.Tok,ae x.j4,bc x.lN,ak ax x.bd])
def zT (a0:Cell):Option (Int) :=
 ((bif decide (0<=a0.j4) then
 some (aH ((a0.bd.length:Int)+1))
 else
 some (a0.bd.length:Int))).bind λjr =>
 ((bif a0.lN then
 some (aH (jr+1))
 else
 some jr)).bind λih =>
 some ih
structure kW where
 State:Int
 Prod:Int
 aZ:(List Int)
 deriving DecidableEq,Inhabited
def rJ:bz kW:=⟨3,λx=>[ae x.State,ae x.Prod,ak ax x.aZ],λ_=>rfl,λ_=>dj.bj⟩
instance:Flat rJ:=⟨λ_=>rfl⟩
instance:gu rJ rJ:=⟨rfl,λx=>(inferInstance:c8 [ae x.State,ae x.Prod,ak ax x.aZ] [ae x.State,ae x.Prod,ak ax x.aZ])⟩
instance {x:kW}:c8 (rJ.cells x) [ae x.State,ae x.Prod,ak ax x.aZ]:=(inferInstance:c8 [ae x.State,ae x.Prod,ak ax x.aZ] [ae x.State,ae x.Prod,ak ax x.aZ])
def CI (a0:bs) (aB:(List State)) (a2:(List kW)):Option ((List Cell)) :=
 (b0 (R:=List Cell) (λ(s1:List Cell × Int) =>
 (bif decide (s1.2<(aB.length:Int)) then
 (b0 (R:=List Cell) (λ(cA:List Cell × Int) =>
 (bif decide (cA.2<(a0.aZ.length:Int)) then
 ((q7 aB s1.2 cA.2).bind λbE =>
 (b0 (R:=Bool) (λ(jt:Bool × Int) =>
 (idx aB s1.2).bind λec =>
 (bif decide (jt.2<(ec.Kernel.length:Int)) then
 (idx aB s1.2).bind λb7 =>
 (idx b7.Kernel jt.2).bind λbO =>
 ((bif jt.1 then some true else (bif decide (cA.2=0) then (bif decide (bO.Prod=0) then some (decide (bO.e2=1)) else some false) else some false))).bind λrG =>
 some (.inl (rG,aH (jt.2+1)))
 else
 some (.inr jt.1))) (false,0)).bind λdS =>
 (b0 (R:=List Int) (λ(iD:List Int × Int) =>
 (bif decide (iD.2<(a2.length:Int)) then
 ((((idx a2 iD.2).bind λfZ=>(bif decide (fZ.State=s1.2) then ((idx a2 iD.2).bind λeA=>((uG eA.aZ cA.2).bind λhs=>some hs)) else some false))).bind λtH =>
 ((bif tH then
 (idx a2 iD.2).bind λjd =>
 (pH iD.1 jd.Prod).bind λfk =>
 some fk
 else
 some iD.1)).bind λpz =>
 some pz).bind λdQ =>
 some (.inl (dQ,aH (iD.2+1)))
 else
 some (.inr iD.1))) (([]:List Int),0)).bind λfx =>
 (zT (⟨s1.2,cA.2,bE,dS,fx⟩:Cell)).bind λkQ =>
 ((bif decide (0<kQ) then
 (db cA.1 [(⟨s1.2,cA.2,bE,dS,fx⟩:Cell)]).bind λgh =>
 some (cA.1++[(⟨s1.2,cA.2,bE,dS,fx⟩:Cell)])
 else
 some cA.1)).bind λJq =>
 some Jq).bind λnD =>
 some (.inl (nD,aH (cA.2+1)))
 else
 some (.inr cA.1))) (s1.1,0)).bind λbN =>
 some (.inl (bN,aH (s1.2+1)))
 else
 some (.inr s1.1))) (([]:List Cell),0)).bind λx2 =>
 some x2
def zZ (a0:(List (List Int))) (aB:(List (List Int))):Option ((List (List Int))) :=
 (b0 (R:=List (List Int)) (λ(s1:List (List Int) × Bool) =>
 (bif s1.2 then
 (b0 (R:=List (List Int) × Bool) (λ(cA:List (List Int) × Bool × Int) =>
 (bif decide (cA.2.2<(cA.1.length:Int)) then
 (idx aB cA.2.2).bind λdD =>
 (idx cA.1 cA.2.2).bind λbE =>
 (b0 (R:=List (List Int)) (λ(jt:List (List Int) × Int) =>
 (bif decide (jt.2<(dD.length:Int)) then
 (b0 (R:=List (List Int)) (λ(hX:List (List Int) × Int) =>
 (idx dD jt.2).bind λfo =>
 (idx hX.1 fo).bind λfj =>
 (bif decide (hX.2<(fj.length:Int)) then
 (idx hX.1 cA.2.2).bind λeZ =>
 (idx dD jt.2).bind λfN =>
 (idx hX.1 fN).bind λfx =>
 (idx fx hX.2).bind λhc =>
 (pH eZ hc).bind λhY =>
 some (.inl (hX.1.set cA.2.2.toNat hY,aH (hX.2+1)))
 else
 some (.inr hX.1))) (jt.1,0)).bind λb7 =>
 some (.inl (b7,aH (jt.2+1)))
 else
 some (.inr jt.1))) (cA.1,0)).bind λdS =>
 ((bif cA.2.1 then some true else ((idx dS cA.2.2).bind λfZ=>some (!decide ((fZ.length:Int)=(bE.length:Int)))))).bind λAR =>
 some (.inl (dS,AR,aH (cA.2.2+1)))
 else
 some (.inr (cA.1,cA.2.1)))) (s1.1,false,0)).bind λbN =>
 some (.inl (bN.1,bN.2))
 else
 some (.inr s1.1))) (a0,true)).bind λx2 =>
 some x2
structure Trans where
 State:Int
 fg:Int
 deriving DecidableEq,Inhabited
def p3:bz Trans:=⟨2,λx=>[ae x.State,ae x.fg],λ_=>rfl,λ_=>dj.bj⟩
instance:Flat p3:=⟨λ_=>rfl⟩
instance:lr p3:=⟨λx=>(inferInstance:jf [ae x.State,ae x.fg])⟩
instance:gu p3 p3:=⟨rfl,λx=>(inferInstance:c8 [ae x.State,ae x.fg] [ae x.State,ae x.fg])⟩
def qp (a0:(List State)):Option ((List Trans)) :=
 (b0 (R:=List Trans) (λ(s1:List Trans × Int) =>
 (bif decide (s1.2<(a0.length:Int)) then
 (b0 (R:=List Trans) (λ(cA:List Trans × Int) =>
 (idx a0 s1.2).bind λb2 =>
 (bif decide (cA.2<(b2.eF.length:Int)) then
 ((idx a0 s1.2).bind λcb =>
 (idx cb.eF cA.2).bind λdS =>
 ((bif decide (1000<=dS.Sym) then
 (idx a0 s1.2).bind λc0 =>
 (idx c0.eF cA.2).bind λb7 =>
 (db cA.1 [(⟨s1.2,b7.Sym⟩:Trans)]).bind λbO =>
 some (cA.1++[(⟨s1.2,b7.Sym⟩:Trans)])
 else
 some cA.1)).bind λiB =>
 some iB).bind λkI =>
 some (.inl (kI,aH (cA.2+1)))
 else
 some (.inr cA.1))) (s1.1,0)).bind λbN =>
 some (.inl (bN,aH (s1.2+1)))
 else
 some (.inr s1.1))) (([]:List Trans),0)).bind λx2 =>
 some x2
def Cy (a0:(List Item)):Option (Bool) :=
 (b0 (R:=(Unit) ⊕ (Bool)) (λ(s1:Int) =>
 (bif decide (s1<(a0.length:Int)) then
 (((idx a0 s1).bind λbN=>(bif decide (bN.Prod=0) then ((idx a0 s1).bind λb2=>some (decide (b2.e2=1))) else some false))).bind λpj =>
 (bif pj then
 some (.inr (.inr true))
 else
 some (.inl (aH (s1+1))))
 else
 some (.inr (.inl ())))) 0).bind λx2 =>
 (match x2 with
 | .inl aY =>
 some false
 | .inr bP =>
 some bP)
def CU (a0:(List State)):Option ((List (List Int))) :=
 (qp a0).bind λaX =>
 (b0 (R:=List (List Int)) (λ(s2:List (List Int) × Int) =>
 (bif decide (s2.2<(aX.length:Int)) then
 (idx aX s2.2).bind λbN =>
 (idx aX s2.2).bind λbM =>
 (q7 a0 bN.State bM.fg).bind λb2 =>
 (idx a0 b2).bind λdD =>
 (Cy dD.Kernel).bind λbE =>
 ((bif bE then
 (db ([]:List Int) [0]).bind λeQ =>
 some [0]
 else
 some ([]:List Int))).bind λja =>
 (b0 (R:=List Int) (λ(lK:List Int × Int) =>
 (idx a0 b2).bind λbO =>
 (bif decide (lK.2<(bO.eF.length:Int)) then
 ((idx a0 b2).bind λe5 =>
 (idx e5.eF lK.2).bind λeZ =>
 ((bif decide (eZ.Sym<1000) then
 (idx a0 b2).bind λhc =>
 (idx hc.eF lK.2).bind λhY =>
 (pH lK.1 hY.Sym).bind λgW =>
 some gW
 else
 some lK.1)).bind λmz =>
 some mz).bind λeS =>
 some (.inl (eS,aH (lK.2+1)))
 else
 some (.inr lK.1))) (ja,0)).bind λc0 =>
 (db s2.1 [c0]).bind λfZ =>
 some (.inl (s2.1++[c0],aH (s2.2+1)))
 else
 some (.inr s2.1))) (([]:List (List Int)),0)).bind λaY =>
 some aY
def zL (a0:(List Bool)) (aB:(List Int)):Option (Bool) :=
 (b0 (R:=(Unit) ⊕ (Bool)) (λ(s1:Int) =>
 (bif decide (s1<(aB.length:Int)) then
 (((idx aB s1).bind λbN=>(bif decide (bN<1000) then some true else ((idx aB s1).bind λb2=>((idx a0 (aH (b2 - 1000))).bind λdD=>some (!dD)))))).bind λhI =>
 (bif hI then
 some (.inr (.inr false))
 else
 some (.inl (aH (s1+1))))
 else
 some (.inr (.inl ())))) 0).bind λx2 =>
 (match x2 with
 | .inl aY =>
 some true
 | .inr bP =>
 some bP)
def zJ (a0:bs):Option ((List Bool)) :=
 (nH (a0.bX.length:Int) false).bind λaX =>
 (b0 (R:=List Bool) (λ(s2:List Bool × Bool) =>
 (bif s2.2 then
 (b0 (R:=List Bool × Bool) (λ(cP:List Bool × Bool × Int) =>
 (bif decide (cP.2.2<(a0.bd.length:Int)) then
 ((idx a0.bd cP.2.2).bind λcb =>
 (((idx cP.1 cb.Left).bind λdS=>(bif !dS then ((zL cP.1 cb.e7).bind λec=>some ec) else some false))).bind λmL =>
 ((bif mL then
 (idx cP.1 cb.Left).bind λfo =>
 some (cP.1.set cb.Left.toNat true,true)
 else
 some (cP.1,cP.2.1))).bind λmy =>
 some (my.1,my.2)).bind λkI =>
 some (.inl (kI.1,kI.2,aH (cP.2.2+1)))
 else
 some (.inr (cP.1,cP.2.1)))) (s2.1,false,0)).bind λbM =>
 some (.inl (bM.1,bM.2))
 else
 some (.inr s2.1))) (aX,true)).bind λaY =>
 some aY
def zK (a0:(List Trans)) (aB:Int) (a2:Int):Option (Int) :=
 (b0 (R:=(Unit) ⊕ (Int)) (λ(s1:Int) =>
 (bif decide (s1<(a0.length:Int)) then
 (((idx a0 s1).bind λbN=>(bif decide (bN.State=aB) then ((idx a0 s1).bind λb2=>some (decide (b2.fg=a2))) else some false))).bind λpj =>
 (bif pj then
 some (.inr (.inr s1))
 else
 some (.inl (aH (s1+1))))
 else
 some (.inr (.inl ())))) 0).bind λx2 =>
 (match x2 with
 | .inl aY =>
 some (-1)
 | .inr bP =>
 some bP)
def CV (a0:bs) (aB:(List State)):Option ((List (List Int))) :=
 (qp aB).bind λaX =>
 (zJ a0).bind λx2 =>
 (b0 (R:=List (List Int)) (λ(cS:List (List Int) × Int) =>
 (bif decide (cS.2<(aX.length:Int)) then
 (idx aX cS.2).bind λbM =>
 (idx aX cS.2).bind λb2 =>
 (q7 aB bM.State b2.fg).bind λdD =>
 (b0 (R:=List Int) (λ(gg:List Int × Int) =>
 (idx aB dD).bind λeQ =>
 (bif decide (gg.2<(eQ.eF.length:Int)) then
 ((idx aB dD).bind λb7 =>
 (idx b7.eF gg.2).bind λbO =>
 ((bif decide (1000<=bO.Sym) then ((idx x2 (aH (bO.Sym - 1000))).bind λfj=>some fj) else some false)).bind λGM =>
 ((bif GM then
 (zK aX dD bO.Sym).bind λfx =>
 (pH gg.1 fx).bind λhc =>
 some hc
 else
 some gg.1)).bind λk' =>
 some k').bind λlH =>
 some (.inl (lH,aH (gg.2+1)))
 else
 some (.inr gg.1))) (([]:List Int),0)).bind λcb =>
 (db cS.1 [cb]).bind λhY =>
 some (.inl (cS.1++[cb],aH (cS.2+1)))
 else
 some (.inr cS.1))) (([]:List (List Int)),0)).bind λbP =>
 some bP
def z1 (a0:(List State)) (aB:Int) (a2:(List Int)):Option (Int) :=
 (b0 (R:=Int) (λ(s1:Int × Int) =>
 ((bif decide (s1.2<(a2.length:Int)) then some (decide (0<=s1.1)) else some false)).bind λnj =>
 (bif nj then
 (idx a2 s1.2).bind λbM =>
 (q7 a0 s1.1 bM).bind λb2 =>
 some (.inl (b2,aH (s1.2+1)))
 else
 some (.inr s1.1))) (aB,0)).bind λx2 =>
 some x2
def CW (a0:bs) (aB:(List State)):Option ((List (List Int))) :=
 (qp aB).bind λaX =>
 (zJ a0).bind λx2 =>
 (nH (aX.length:Int) ([]:List Int)).bind λaY =>
 (b0 (R:=List (List Int)) (λ(cX:List (List Int) × Int) =>
 (bif decide (cX.2<(aX.length:Int)) then
 (b0 (R:=List (List Int)) (λ(eM:List (List Int) × Int) =>
 (bif decide (eM.2<(a0.bd.length:Int)) then
 ((idx a0.bd eM.2).bind λeQ =>
 (idx a0.bd eM.2).bind λec =>
 (idx aX cX.2).bind λc0 =>
 (bif !decide (aH (1000+ec.Left)=c0.fg) then
 some eM.1
 else
 (b0 (R:=List (List Int)) (λ(gk:List (List Int) × Int) =>
 (bif decide (gk.2<(eQ.e7.length:Int)) then
 ((((idx eQ.e7 gk.2).bind λfN=>(bif decide (fN<1000) then some true else ((m_ eQ.e7 (aH (gk.2+1)) eQ.e7.length).bind λhc=>((zL x2 hc).bind λhY=>some (!hY)))))).bind λGQ =>
 (bif GQ then
 some gk.1
 else
 (idx aX cX.2).bind λcE =>
 (m_ eQ.e7 0 gk.2).bind λeA =>
 (z1 aB cE.State eA).bind λhs =>
 ((bif decide (0<=hs) then
 (idx eQ.e7 gk.2).bind λkP =>
 (zK aX hs kP).bind λjd =>
 ((bif decide (0<=jd) then
 (idx gk.1 jd).bind λjI =>
 (pH jI cX.2).bind λcT =>
 some (gk.1.set jd.toNat cT)
 else
 some gk.1)).bind λJp =>
 some Jp
 else
 some gk.1)).bind λxl =>
 some xl)).bind λk' =>
 some (.inl (k',aH (gk.2+1)))
 else
 some (.inr gk.1))) (eM.1,0)).bind λfo =>
 some fo)).bind λet =>
 some (.inl (et,aH (eM.2+1)))
 else
 some (.inr eM.1))) (cX.1,0)).bind λdD =>
 some (.inl (dD,aH (cX.2+1)))
 else
 some (.inr cX.1))) (aY,0)).bind λbF =>
 some bF
def zW (a0:bs) (aB:(List State)):Option ((List (List Int))) :=
 (CU aB).bind λaX =>
 (CV a0 aB).bind λx2 =>
 (zZ aX x2).bind λaY =>
 (CW a0 aB).bind λbP =>
 (zZ aY bP).bind λbF =>
 some bF
def CN (a0:bs) (aB:(List Item)):Option ((List Int)) :=
 (xQ a0 aB).bind λaX =>
 (b0 (R:=List Int) (λ(s2:List Int × Int) =>
 (bif decide (s2.2<(aX.length:Int)) then
 ((((idx aX s2.2).bind λbM=>(bif decide (0<bM.Prod) then ((idx aX s2.2).bind λdD=>((idx aX s2.2).bind λbE=>((idx a0.bd bE.Prod).bind λcb=>some (decide (dD.e2=(cb.e7.length:Int)))))) else some false))).bind λsq =>
 ((bif sq then
 (idx aX s2.2).bind λc0 =>
 (db s2.1 [c0.Prod]).bind λb7 =>
 some (s2.1++[c0.Prod])
 else
 some s2.1)).bind λiB =>
 some iB).bind λkJ =>
 some (.inl (kJ,aH (s2.2+1)))
 else
 some (.inr s2.1))) (([]:List Int),0)).bind λaY =>
 some aY
def CO (a0:bs) (aB:(List State)) (a2:Int) (a3:Int):Option ((List Int)) :=
 ((bif decide (a2<0) then some true else (bif decide ((aB.length:Int)<=a2) then some true else (bif decide (a3<1) then some true else some (decide ((a0.bd.length:Int)<=a3)))))).bind λc4 =>
 (bif c4 then
 some ([]:List Int)
 else
 (qp aB).bind λbN =>
 (b0 (R:=List Int) (λ(df:List Int × Int) =>
 (bif decide (df.2<(bN.length:Int)) then
 ((((idx bN df.2).bind λdS=>((idx a0.bd a3).bind λeQ=>(bif decide (dS.fg=aH (1000+eQ.Left)) then ((idx bN df.2).bind λc0=>((idx a0.bd a3).bind λb7=>((z1 aB c0.State b7.e7).bind λbO=>some (decide (bO=a2))))) else some false)))).bind λk2 =>
 ((bif k2 then
 (db df.1 [df.2]).bind λeZ =>
 some (df.1++[df.2])
 else
 some df.1)).bind λeS =>
 some eS).bind λja =>
 some (.inl (ja,aH (df.2+1)))
 else
 some (.inr df.1))) (([]:List Int),0)).bind λb2 =>
 some b2)
def CJ (a0:bs) (aB:(List State)):Option ((List kW)) :=
 (zW a0 aB).bind λaX =>
 (b0 (R:=List kW) (λ(s2:List kW × Int) =>
 (bif decide (s2.2<(aB.length:Int)) then
 (idx aB s2.2).bind λbN =>
 (CN a0 bN.Kernel).bind λbM =>
 (b0 (R:=List kW) (λ(eM:List kW × Int) =>
 (bif decide (eM.2<(bM.length:Int)) then
 (idx bM eM.2).bind λdS =>
 (idx bM eM.2).bind λeQ =>
 (CO a0 aB s2.2 eQ).bind λec =>
 (b0 (R:=List Int) (λ(hX:List Int × Int) =>
 (bif decide (hX.2<(ec.length:Int)) then
 (b0 (R:=List Int) (λ(dR:List Int × Int) =>
 (idx ec hX.2).bind λfN =>
 (idx aX fN).bind λfx =>
 (bif decide (dR.2<(fx.length:Int)) then
 (idx ec hX.2).bind λhY =>
 (idx aX hY).bind λgW =>
 (idx gW dR.2).bind λfZ =>
 (pH dR.1 fZ).bind λcE =>
 some (.inl (cE,aH (dR.2+1)))
 else
 some (.inr dR.1))) (hX.1,0)).bind λe5 =>
 some (.inl (e5,aH (hX.2+1)))
 else
 some (.inr hX.1))) (([]:List Int),0)).bind λb7 =>
 (db eM.1 [(⟨s2.2,dS,b7⟩:kW)]).bind λeA =>
 some (.inl (eM.1++[(⟨s2.2,dS,b7⟩:kW)],aH (eM.2+1)))
 else
 some (.inr eM.1))) (s2.1,0)).bind λdD =>
 some (.inl (dD,aH (s2.2+1)))
 else
 some (.inr s2.1))) (([]:List kW),0)).bind λaY =>
 some aY
def s3 (a0:Source):Option (bs × (List State) × (List Cell) × Bool) :=
 (uD a0).bind λaX =>
 (bif !aX.2.2 then
 some (aX.1,([]:List State),([]:List Cell),false)
 else
 (CJ aX.1 aX.2.1).bind λaY =>
 (CI aX.1 aX.2.1 aY).bind λbP =>
 some (aX.1,aX.2.1,bP,true))
def CX (a0:bs) (aB:Int):Option (Int × Int) :=
 ((bif decide (aB<0) then some true else (bif decide ((a0.bd.length:Int)<=aB) then some true else ((idx a0.bd aB).bind λaY=>some (decide (aY.Prec<0)))))).bind λc4 =>
 (bif c4 then
 some (0,0)
 else
 (idx a0.bd aB).bind λbN =>
 (idx a0.aZ bN.Prec).bind λbM =>
 some (bM.Level,bM.ff))
def CP (a0:bs) (aB:Int) (a2:Int):Option (Int) :=
 (CX a0 aB).bind λaX =>
 ((bif decide (aX.1=0) then some true else (bif decide (a2<0) then some true else (bif decide ((a0.aZ.length:Int)<=a2) then some true else ((idx a0.aZ a2).bind λbF=>some (decide (bF.Level=0))))))).bind λow =>
 (bif ow then
 some 0
 else
 (idx a0.aZ a2).bind λb2 =>
 (bif decide (aX.1<b2.Level) then
 some 1
 else
 (bif decide (b2.Level<aX.1) then
 some 2
 else
 (bif decide (b2.ff=1) then
 some 2
 else
 (bif decide (b2.ff=2) then
 some 1
 else
 some 3)))))
structure e6 where
 State:Int
 Tok:Int
 hy:Int
 Drop:Int
 deriving DecidableEq,Inhabited
structure Act where
 Kind:Int
 N:Int
 deriving DecidableEq,Inhabited
def eN:bz e6:=⟨4,λx=>[ae x.State,ae x.Tok,ae x.hy,ae x.Drop],λ_=>rfl,λ_=>dj.bj⟩
instance:Flat eN:=⟨λ_=>rfl⟩
instance:lr eN:=⟨λx=>(inferInstance:jf [ae x.State,ae x.Tok,ae x.hy,ae x.Drop])⟩
instance:gu eN eN:=⟨rfl,λx=>(inferInstance:c8 [ae x.State,ae x.Tok,ae x.hy,ae x.Drop] [ae x.State,ae x.Tok,ae x.hy,ae x.Drop])⟩
instance {x:e6}:c8 (eN.cells x) [ae x.State,ae x.Tok,ae x.hy,ae x.Drop]:=(inferInstance:c8 [ae x.State,ae x.Tok,ae x.hy,ae x.Drop] [ae x.State,ae x.Tok,ae x.hy,ae x.Drop])
def xO (a0:bs) (aB:Cell):Option (Act × (List e6)) :=
 (b0 (R:=List e6) (λ(s1:List e6 × Int) =>
 (bif decide (s1.2<(aB.bd.length:Int)) then
 (idx aB.bd 0).bind λbF =>
 (idx aB.bd s1.2).bind λbN =>
 (db s1.1 [(⟨aB.State,aB.Tok,bF,bN⟩:e6)]).bind λbM =>
 some (.inl (s1.1++[(⟨aB.State,aB.Tok,bF,bN⟩:e6)],aH (s1.2+1)))
 else
 some (.inr s1.1))) (([]:List e6),1)).bind λx2 =>
 ((bif aB.lN then
 some (3,0)
 else
 some (1,aB.j4))).bind λfm =>
 (bif decide ((aB.bd.length:Int)=0) then
 some ((⟨fm.1,fm.2⟩:Act),x2)
 else
 (idx aB.bd 0).bind λcb =>
 ((bif decide (aB.j4<0) then some (!aB.lN) else some false)).bind λmh =>
 (bif mh then
 some ((⟨2,cb⟩:Act),x2)
 else
 (CP a0 cb aB.Tok).bind λc0 =>
 ((bif aB.lN then some true else some (decide (c0=0)))).bind λAQ =>
 (bif AQ then
 (db x2 [(⟨aB.State,aB.Tok,(-1),cb⟩:e6)]).bind λfj =>
 some ((⟨fm.1,fm.2⟩:Act),x2++[(⟨aB.State,aB.Tok,(-1),cb⟩:e6)])
 else
 (bif decide (c0=2) then
 some ((⟨2,cb⟩:Act),x2)
 else
 (bif decide (c0=3) then
 some ((⟨4,0⟩:Act),x2)
 else
 some ((⟨fm.1,fm.2⟩:Act),x2))))))
structure iE where
 cM:(List (List Act))
 f_:(List (List Int))
 deriving DecidableEq,Inhabited
def eW:bz Act:=⟨2,λx=>[ae x.Kind,ae x.N],λ_=>rfl,λ_=>dj.bj⟩
instance:Flat eW:=⟨λ_=>rfl⟩
instance:lr eW:=⟨λx=>(inferInstance:jf [ae x.Kind,ae x.N])⟩
instance:gu eW eW:=⟨rfl,λx=>(inferInstance:c8 [ae x.Kind,ae x.N] [ae x.Kind,ae x.N])⟩
def zR (a0:bs) (aB:(List State)) (a2:(List Cell)):Option (iE × (List e6)) :=
 (b0 (R:=List (List Act) × List (List Int) × List e6) (λ(s1:List (List Act) × List (List Int) × List e6 × Int) =>
 (bif decide (s1.2.2.2<(aB.length:Int)) then
 (nH (a0.aZ.length:Int) (⟨0,0⟩:Act)).bind λbF =>
 (b0 (R:=List e6 × List Act) (λ(cP:List e6 × List Act × Int) =>
 (bif decide (cP.2.2<(a2.length:Int)) then
 ((idx a2 cP.2.2).bind λcb =>
 ((bif decide (cb.State=s1.2.2.2) then
 (idx a2 cP.2.2).bind λec =>
 (xO a0 ec).bind λc0 =>
 (idx a2 cP.2.2).bind λb7 =>
 (idx cP.2.1 b7.Tok).bind λbO =>
 (db cP.1 c0.2).bind λfo =>
 some (cP.1++c0.2,cP.2.1.set b7.Tok.toNat c0.1)
 else
 some (cP.1,cP.2.1))).bind λet =>
 some (et.1,et.2)).bind λkI =>
 some (.inl (kI.1,kI.2,aH (cP.2.2+1)))
 else
 some (.inr (cP.1,cP.2.1)))) (s1.2.2.1,bF,0)).bind λbM =>
 (nH (a0.bX.length:Int) 0).bind λfj =>
 (b0 (R:=List Int) (λ(qs:List Int × Int) =>
 (bif decide (qs.2<(qs.1.length:Int)) then
 (q7 aB s1.2.2.2 (aH (1000+qs.2))).bind λhc =>
 (idx qs.1 qs.2).bind λhY =>
 some (.inl (qs.1.set qs.2.toNat hc,aH (qs.2+1)))
 else
 some (.inr qs.1))) (fj,0)).bind λeZ =>
 (db s1.1 [bM.2]).bind λgW =>
 (db s1.2.1 [eZ]).bind λfZ =>
 some (.inl (s1.1++[bM.2],s1.2.1++[eZ],bM.1,aH (s1.2.2.2+1)))
 else
 some (.inr (s1.1,s1.2.1,s1.2.2.1)))) (([]:List (List Act)),([]:List (List Int)),([]:List e6),0)).bind λx2 =>
 some ((⟨x2.1,x2.2.1⟩:iE),x2.2.2)
def CD (a0:(List Cell)):Option (Int) :=
 (b0 (R:=Int) (λ(s1:Int × Int) =>
 (bif decide (s1.2<(a0.length:Int)) then
 ((idx a0 s1.2).bind λbN =>
 (zT bN).bind λbM =>
 ((bif decide (1<bM) then
 some (aH (s1.1+1))
 else
 some s1.1)).bind λfm =>
 some fm).bind λqj =>
 some (.inl (qj,aH (s1.2+1)))
 else
 some (.inr s1.1))) (0,0)).bind λx2 =>
 some x2
def s0 (a0:Source):Option (bs × iE × Int × Bool) :=
 (s3 a0).bind λaX =>
 (bif !aX.2.2.2 then
 some (aX.1,(⟨([]:List (List Act)),([]:List (List Int))⟩:iE),0,false)
 else
 (zR aX.1 aX.2.1 aX.2.2.1).bind λaY =>
 (CD aX.2.2.1).bind λbP =>
 some (aX.1,aY.1,bP,true))
structure Piece where
 Kind:Int
 Text:ByteArray
 N:Int
 Tag:ByteArray
 deriving DecidableEq,Inhabited
def p2:bz Piece:=⟨4,λx=>[ae x.Kind,aw x.Text,ae x.N,aw x.Tag],λ_=>rfl,λ_=>dj.bj⟩
instance:Flat p2:=⟨λ_=>rfl⟩
instance:lr p2:=⟨λx=>(inferInstance:jf [ae x.Kind,aw x.Text,ae x.N,aw x.Tag])⟩
instance:gu p2 p2:=⟨rfl,λx=>(inferInstance:c8 [ae x.Kind,aw x.Text,ae x.N,aw x.Tag] [ae x.Kind,aw x.Text,ae x.N,aw x.Tag])⟩
instance {x:Piece}:c8 (p2.cells x) [ae x.Kind,aw x.Text,ae x.N,aw x.Tag]:=(inferInstance:c8 [ae x.Kind,aw x.Text,ae x.N,aw x.Tag] [ae x.Kind,aw x.Text,ae x.N,aw x.Tag])
def CQ (a0:ByteArray) (aB:Int):Option (Piece × Int × Int) :=
 ((bif decide (aH (aB+1)<(a0.size:Int)) then ((hG a0 (aH (aB+1))).bind λx2=>some (decide (x2=60))) else some false)).bind λj_ =>
 (bif j_ then
 (vV a0 (aH ((aH (aB+1))+1))).bind λbF =>
 ((bif decide (bF<1) then some true else (bif decide (20<bF) then some true else (bif decide ((a0.size:Int)<=aH ((aH ((aH (aB+1))+1))+bF)) then some true else ((hG a0 (aH ((aH ((aH (aB+1))+1))+bF))).bind λdD=>some (!decide (dD=62))))))).bind λhI =>
 (bif hI then
 some ((⟨0,⟨#[]⟩,0,⟨#[]⟩⟩:Piece),0,0)
 else
 (oy a0 (aH ((aH (aB+1))+1)) (aH ((aH ((aH (aB+1))+1))+bF))).bind λdS =>
 ((bif decide (aH ((aH ((aH (aB+1))+bF))+2)<(a0.size:Int)) then ((hG a0 (aH ((aH ((aH (aB+1))+bF))+2))).bind λec=>some (decide (ec=36))) else some false)).bind λmL =>
 (bif mL then
 some ((⟨2,⟨#[]⟩,0,dS⟩:Piece),aH ((aH ((aH ((aH ((aH (aB+1))+bF))+2))+1)) - aB),0)
 else
 (b0 (R:=Int × Int) (λ(gk:Int × Int) =>
 ((bif decide (gk.2<(a0.size:Int)) then ((hG a0 gk.2).bind λeZ=>((vW eZ).bind λfN=>some fN)) else some false)).bind λtG =>
 (bif tG then
 ((bif decide (aH (gk.2 - (aH ((aH ((aH (aB+1))+bF))+2)))<3) then
 (hG a0 gk.2).bind λfZ =>
 some (aH ((aH (10 * gk.1))+(aH (rn (fZ - 48)))))
 else
 some gk.1)).bind λuv =>
 some (.inl (uv,aH (gk.2+1)))
 else
 some (.inr (gk.1,gk.2)))) (0,aH ((aH ((aH (aB+1))+bF))+2))).bind λfo =>
 (bif decide (fo.2=aH ((aH ((aH (aB+1))+bF))+2)) then
 some ((⟨0,⟨#[]⟩,0,⟨#[]⟩⟩:Piece),0,0)
 else
 (bif decide (3<aH (fo.2 - (aH ((aH ((aH (aB+1))+bF))+2)))) then
 some ((⟨0,⟨#[]⟩,0,⟨#[]⟩⟩:Piece),0,6)
 else
 some ((⟨3,⟨#[]⟩,fo.1,dS⟩:Piece),aH (fo.2 - aB),0)))))
 else
 ((bif decide (aH (aB+1)<(a0.size:Int)) then ((hG a0 (aH (aB+1))).bind λku=>some (decide (ku=36))) else some false)).bind λDQ =>
 (bif DQ then
 some ((⟨2,⟨#[]⟩,0,⟨#[]⟩⟩:Piece),aH ((aH ((aH (aB+1))+1)) - aB),0)
 else
 (b0 (R:=Int × Int) (λ(eb:Int × Int) =>
 ((bif decide (eb.2<(a0.size:Int)) then ((hG a0 eb.2).bind λcT=>((vW cT).bind λgh=>some gh)) else some false)).bind λAT =>
 (bif AT then
 ((bif decide (aH (eb.2 - (aH (aB+1)))<3) then
 (hG a0 eb.2).bind λpO =>
 some (aH ((aH (10 * eb.1))+(aH (rn (pO - 48)))))
 else
 some eb.1)).bind λr6 =>
 some (.inl (r6,aH (eb.2+1)))
 else
 some (.inr (eb.1,eb.2)))) (0,aH (aB+1))).bind λfk =>
 (bif decide (fk.2=aH (aB+1)) then
 some ((⟨0,⟨#[]⟩,0,⟨#[]⟩⟩:Piece),0,0)
 else
 (bif decide (3<aH (fk.2 - (aH (aB+1)))) then
 some ((⟨0,⟨#[]⟩,0,⟨#[]⟩⟩:Piece),0,6)
 else
 some ((⟨3,⟨#[]⟩,fk.1,⟨#[]⟩⟩:Piece),aH (fk.2 - aB),0)))))
def CK (a0:ByteArray):Option ((List Piece) × Int) :=
 (xP a0 0).bind λaX =>
 (bif !decide (aX=(a0.size:Int)) then
 some (([]:List Piece),1)
 else
 (b0 (R:=(List Piece × Int) ⊕ (List Piece × Int)) (λ(cS:List Piece × Int × Int) =>
 (bif decide (cS.2.2<(a0.size:Int)) then
 (zX a0 cS.2.2).bind λb2 =>
 (bif decide (cS.2.2<b2) then
 some (.inl (cS.1,cS.2.1,b2))
 else
 (hG a0 cS.2.2).bind λbE =>
 (bif !decide (bE=36) then
 some (.inl (cS.1,cS.2.1,aH (cS.2.2+1)))
 else
 (CQ a0 cS.2.2).bind λdS =>
 (bif !decide (dS.2.2=0) then
 some (.inr (.inr (([]:List Piece),dS.2.2)))
 else
 (bif decide (dS.2.1=0) then
 some (.inl (cS.1,cS.2.1,aH (cS.2.2+1)))
 else
 ((bif decide (cS.2.1<cS.2.2) then
 (oy a0 cS.2.1 cS.2.2).bind λbO =>
 (db cS.1 [(⟨1,bO,0,⟨#[]⟩⟩:Piece)]).bind λfo =>
 some (cS.1++[(⟨1,bO,0,⟨#[]⟩⟩:Piece)])
 else
 some cS.1)).bind λlH =>
 (db lH [dS.1]).bind λfj =>
 some (.inl (lH++[dS.1],aH (cS.2.2+dS.2.1),aH (cS.2.2+dS.2.1)))))))
 else
 some (.inr (.inl (cS.1,cS.2.1))))) (([]:List Piece),0,0)).bind λbP =>
 (match bP with
 | .inl bF =>
 ((bif decide (bF.2<(a0.size:Int)) then
 (oy a0 bF.2 a0.size).bind λfN =>
 (db bF.1 [(⟨1,fN,0,⟨#[]⟩⟩:Piece)]).bind λfx =>
 some (bF.1++[(⟨1,fN,0,⟨#[]⟩⟩:Piece)])
 else
 some bF.1)).bind λxj =>
 some (xj,0)
 | .inr bN =>
 some (bN.1,bN.2)))
def CL (a0:bs) (aB:Int):Option (ByteArray) :=
 (bif decide (1000<=aB) then
 (idx a0.bX (aH (aB - 1000))).bind λx2 =>
 some x2.Tag
 else
 (idx a0.aZ aB).bind λaY =>
 some aY.Tag)
def CE (a0:bs) (aB:Int):Option (ByteArray × Int × ByteArray) :=
 ((bif decide (aB<0) then some true else (bif decide ((a0.bd.length:Int)<=aB) then some true else ((idx a0.bd aB).bind λaY=>some (decide (aY.Code=⟨#[]⟩)))))).bind λc4 =>
 (bif c4 then
 some (⟨#[]⟩,0,⟨#[]⟩)
 else
 (idx a0.bd aB).bind λbN =>
 (CK bN.Code).bind λbM =>
 (bif !decide (bM.2=0) then
 some (⟨#[]⟩,bM.2,⟨#[]⟩)
 else
 (b0 (R:=(ByteArray) ⊕ (ByteArray × Int × ByteArray)) (λ(fM:ByteArray × Int) =>
 (bif decide (fM.2<(bM.1.length:Int)) then
 (idx bM.1 fM.2).bind λec =>
 (idx bM.1 fM.2).bind λc0 =>
 (bif decide (c0.Kind=1) then
 (idx bM.1 fM.2).bind λbO =>
 (eG fM.1 bO.Text).bind λfo =>
 some (.inl (fo,aH (fM.2+1)))
 else
 (bif decide (c0.Kind=2) then
 (eG fM.1 (⟨#[121,121,86,65,76]⟩)).bind λe5 =>
 ((bif decide (ec.Tag=⟨#[]⟩) then
 (idx a0.bX bN.Left).bind λfx =>
 some fx.Tag
 else
 some ec.Tag)).bind λk' =>
 ((bif !decide (k'=⟨#[]⟩) then
 (eG e5 (⟨#[46]⟩)).bind λgW =>
 (eG gW k').bind λfZ =>
 some fZ
 else
 some e5)).bind λr5 =>
 some (.inl (r5,aH (fM.2+1)))
 else
 (idx bM.1 fM.2).bind λcE =>
 ((bif decide (cE.N<1) then some true else some (decide ((bN.rv.length:Int)<cE.N)))).bind λAS =>
 (bif AS then
 (pG cE.N).bind λe0 =>
 (eG (⟨#[36]⟩) e0).bind λkP =>
 some (.inr (.inr (⟨#[]⟩,6,kP)))
 else
 (eG fM.1 (⟨#[121,121,68,111,108,108,97,114,91]⟩)).bind λjd =>
 (pG cE.N).bind λfk =>
 (eG jd fk).bind λkQ =>
 (eG kQ (⟨#[93]⟩)).bind λjI =>
 ((bif decide (ec.Tag=⟨#[]⟩) then
 (idx bN.rv (aH (cE.N - 1))).bind λo3 =>
 (CL a0 o3).bind λj0 =>
 some j0
 else
 some ec.Tag)).bind λqW =>
 ((bif !decide (qW=⟨#[]⟩) then
 (eG jI (⟨#[46]⟩)).bind λpO =>
 (eG pO qW).bind λte =>
 some te
 else
 some jI)).bind λr6 =>
 some (.inl (r6,aH (fM.2+1))))))
 else
 some (.inr (.inl fM.1)))) (⟨#[]⟩,0)).bind λbE =>
 (match bE with
 | .inl cb =>
 some (cb,0,⟨#[]⟩)
 | .inr dS =>
 some (dS.1,dS.2.1,dS.2.2))))
def CB (a0:bs):Option ((List ByteArray) × Int × Int × ByteArray) :=
 (b0 (R:=(List ByteArray) ⊕ (List ByteArray × Int × Int × ByteArray)) (λ(s1:List ByteArray × Int) =>
 (bif decide (s1.2<(a0.bd.length:Int)) then
 (CE a0 s1.2).bind λbN =>
 (bif !decide (bN.2.1=0) then
 (idx a0.bd s1.2).bind λb2 =>
 some (.inr (.inr (([]:List ByteArray),bN.2.1,b2.At,bN.2.2)))
 else
 (db s1.1 [bN.1]).bind λdD =>
 some (.inl (s1.1++[bN.1],aH (s1.2+1))))
 else
 some (.inr (.inl s1.1)))) (([]:List ByteArray),0)).bind λx2 =>
 (match x2 with
 | .inl aY =>
 some (aY,0,0,⟨#[]⟩)
 | .inr bP =>
 some (bP.1,bP.2.1,bP.2.2.1,bP.2.2.2))
structure dy where
 At:Int
 b9:Int
 deriving DecidableEq,Inhabited
structure Row where
 Def:Int
 h5:(List dy)
 deriving DecidableEq,Inhabited
def dB:bz dy:=⟨2,λx=>[ae x.At,ae x.b9],λ_=>rfl,λ_=>dj.bj⟩
instance:Flat dB:=⟨λ_=>rfl⟩
instance:lr dB:=⟨λx=>(inferInstance:jf [ae x.At,ae x.b9])⟩
instance:gu dB dB:=⟨rfl,λx=>(inferInstance:c8 [ae x.At,ae x.b9] [ae x.At,ae x.b9])⟩
def oA:bz Row:=⟨2,λx=>[ae x.Def,ak dB x.h5],λ_=>rfl,λ_=>dj.bj⟩
instance:Flat oA:=⟨λ_=>rfl⟩
instance:gu oA oA:=⟨rfl,λx=>(inferInstance:c8 [ae x.Def,ak dB x.h5] [ae x.Def,ak dB x.h5])⟩
def xN (a0:(List Row)):Option ((List Int) × (List (List dy))) :=
 (b0 (R:=List Int × List (List dy)) (λ(s1:List Int × List (List dy) × Int) =>
 (bif decide (s1.2.2<(a0.length:Int)) then
 (idx a0 s1.2.2).bind λbF =>
 (db s1.1 [bF.Def]).bind λbN =>
 (idx a0 s1.2.2).bind λbM =>
 (db s1.2.1 [bM.h5]).bind λb2 =>
 some (.inl (s1.1++[bF.Def],s1.2.1++[bM.h5],aH (s1.2.2+1)))
 else
 some (.inr (s1.1,s1.2.1)))) (([]:List Int),([]:List (List dy)),0)).bind λx2 =>
 some (x2.1,x2.2)
def uE (a0:(List Int)):Option (Int) :=
 (b0 (R:=List Int) (λ(s1:List Int × Int) =>
 (bif decide (s1.2<(a0.length:Int)) then
 (idx a0 s1.2).bind λbF =>
 (pH s1.1 bF).bind λbN =>
 some (.inl (bN,aH (s1.2+1)))
 else
 some (.inr s1.1))) (([]:List Int),0)).bind λx2 =>
 (b0 (R:=Int) (λ(df:Int × Int × Int) =>
 (bif decide (df.2.2<(x2.length:Int)) then
 ((b0 (R:=Int) (λ(uL:Int × Int) =>
 (bif decide (uL.2<(a0.length:Int)) then
 ((idx a0 uL.2).bind λbO =>
 (idx x2 df.2.2).bind λfo =>
 ((bif decide (bO=fo) then
 some (aH (uL.1+1))
 else
 some uL.1)).bind λeS =>
 some eS).bind λmy =>
 some (.inl (my,aH (uL.2+1)))
 else
 some (.inr uL.1))) (0,0)).bind λeQ =>
 ((bif decide (df.2.1<eQ) then
 (idx x2 df.2.2).bind λfx =>
 some (fx,eQ)
 else
 some (df.1,df.2.1))).bind λk' =>
 some (k'.1,k'.2)).bind λja =>
 some (.inl (ja.1,ja.2,aH (df.2.2+1)))
 else
 some (.inr df.1))) ((-1),0,0)).bind λb2 =>
 some b2
def s4 (a0:Act):Option (Int) :=
 ((bif decide (a0.Kind=1) then (bif decide (0<=a0.N) then some (decide (a0.N<=19999)) else some false) else some false)).bind λj_ =>
 (bif j_ then
 some (aH (a0.N+1))
 else
 ((bif decide (a0.Kind=2) then (bif decide (1<=a0.N) then some (decide (a0.N<=19999)) else some false) else some false)).bind λnk =>
 (bif nk then
 some (aH (-a0.N))
 else
 ((bif decide (a0.Kind=3) then some (decide (a0.N=0)) else some false)).bind λhI =>
 (bif hI then
 some 20001
 else
 ((bif decide (a0.Kind=4) then some (decide (a0.N=0)) else some false)).bind λmh =>
 (bif mh then
 some 20002
 else
 some 0))))
def CF (a0:iE):Option ((List Row)) :=
 (b0 (R:=List Row) (λ(s1:List Row × Int) =>
 (bif decide (s1.2<(a0.cM.length:Int)) then
 (b0 (R:=List Int) (λ(cA:List Int × Int) =>
 (idx a0.cM s1.2).bind λb2 =>
 (bif decide (cA.2<(b2.length:Int)) then
 ((idx a0.cM s1.2).bind λcb =>
 (idx cb cA.2).bind λdS =>
 ((bif decide (dS.Kind=2) then
 (idx a0.cM s1.2).bind λc0 =>
 (idx c0 cA.2).bind λb7 =>
 (db cA.1 [b7.N]).bind λbO =>
 some (cA.1++[b7.N])
 else
 some cA.1)).bind λiB =>
 some iB).bind λkI =>
 some (.inl (kI,aH (cA.2+1)))
 else
 some (.inr cA.1))) (([]:List Int),0)).bind λbN =>
 (uE bN).bind λfo =>
 (b0 (R:=List dy) (λ(dR:List dy × Int) =>
 (idx a0.cM s1.2).bind λfN =>
 (bif decide (dR.2<(fN.length:Int)) then
 ((idx a0.cM s1.2).bind λhY =>
 (idx hY dR.2).bind λgW =>
 ((bif !decide (gW.Kind=0) then (bif !decide (gW.Kind=2) then some true else some (!decide (gW.N=fo))) else some false)).bind λp0 =>
 ((bif p0 then
 (s4 gW).bind λe0 =>
 (db dR.1 [(⟨dR.2,e0⟩:dy)]).bind λkP =>
 some (dR.1++[(⟨dR.2,e0⟩:dy)])
 else
 some dR.1)).bind λxk =>
 some xk).bind λr5 =>
 some (.inl (r5,aH (dR.2+1)))
 else
 some (.inr dR.1))) (([]:List dy),0)).bind λe5 =>
 (db s1.1 [(⟨fo,e5⟩:Row)]).bind λjd =>
 some (.inl (s1.1++[(⟨fo,e5⟩:Row)],aH (s1.2+1)))
 else
 some (.inr s1.1))) (([]:List Row),0)).bind λx2 =>
 some x2
def CM (a0:(List (List dy))):Option (Bool) :=
 (bif decide (400<(a0.length:Int)) then
 some false
 else
 (b0 (R:=(Unit) ⊕ (Bool)) (λ(s2:Int) =>
 (bif decide (s2<(a0.length:Int)) then
 (b0 (R:=(Unit) ⊕ (Bool)) (λ(df:List Int × Int) =>
 (idx a0 s2).bind λcb =>
 (bif decide (df.2<(cb.length:Int)) then
 (((idx a0 s2).bind λeQ=>((idx eQ df.2).bind λec=>(bif decide (ec.At<0) then some true else ((idx a0 s2).bind λb7=>((idx b7 df.2).bind λbO=>(bif decide (999<bO.At) then some true else ((idx a0 s2).bind λfj=>((idx fj df.2).bind λe5=>((uG df.1 e5.At).bind λeZ=>some eZ)))))))))).bind λGN =>
 (bif GN then
 some (.inr (.inr false))
 else
 (idx a0 s2).bind λhc =>
 (idx hc df.2).bind λhY =>
 (db df.1 [hY.At]).bind λgW =>
 some (.inl (df.1++[hY.At],aH (df.2+1))))
 else
 some (.inr (.inl ())))) (([]:List Int),0)).bind λb2 =>
 (match b2 with
 | .inl dD =>
 some (.inl (aH (s2+1)))
 | .inr bE =>
 some (.inr (.inr bE)))
 else
 some (.inr (.inl ())))) 0).bind λaY =>
 (match aY with
 | .inl bP =>
 some true
 | .inr bF =>
 some bF))
def zU (a0:(List Int)) (aB:(List dy)) (a2:Int):Option (Bool) :=
 (b0 (R:=(Unit) ⊕ (Bool)) (λ(s1:Int) =>
 (bif decide (s1<(aB.length:Int)) then
 (idx aB s1).bind λbN =>
 ((bif decide (aH (a2+bN.At)<(a0.length:Int)) then ((idx a0 (aH (a2+bN.At))).bind λb2=>some (!decide (b2=0))) else some false)).bind λpj =>
 (bif pj then
 some (.inr (.inr false))
 else
 some (.inl (aH (s1+1))))
 else
 some (.inr (.inl ())))) 0).bind λx2 =>
 (match x2 with
 | .inl aY =>
 some true
 | .inr bP =>
 some bP)
structure gX where
 c6:(List Int)
 b9:(List Int)
 ck:(List Int)
 deriving DecidableEq,Inhabited
def su:bz gX:=⟨3,λx=>[ak ax x.c6,ak ax x.b9,ak ax x.ck],λ_=>rfl,λ_=>dj.bj⟩
instance:Flat su:=⟨λ_=>rfl⟩
instance:gu su su:=⟨rfl,λx=>(inferInstance:c8 [ak ax x.c6,ak ax x.b9,ak ax x.ck] [ak ax x.c6,ak ax x.b9,ak ax x.ck])⟩
instance {x:gX}:c8 (su.cells x) [ak ax x.c6,ak ax x.b9,ak ax x.ck]:=(inferInstance:c8 [ak ax x.c6,ak ax x.b9,ak ax x.ck] [ak ax x.c6,ak ax x.b9,ak ax x.ck])
def DY:bz gX:=⟨3,λx=>[ao ax x.c6,ao ax x.b9,ao ax x.ck],λ_=>rfl,λ_=>dj.bj⟩
instance:lr DY:=⟨λx=>(inferInstance:jf [ao ax x.c6,ao ax x.b9,ao ax x.ck])⟩
instance {x:gX}:c8 (DY.cells x) [ak ax x.c6,ak ax x.b9,ak ax x.ck]:=(inferInstance:c8 [ao ax x.c6,ao ax x.b9,ao ax x.ck] [ak ax x.c6,ak ax x.b9,ak ax x.ck])
def vU (a0:(List (List dy))):Option (gX) :=
 (CM a0).bind λaX =>
 (bif !aX then
 some (⟨([]:List Int),([]:List Int),([]:List Int)⟩:gX)
 else
 (nH (a0.length:Int) 0).bind λaY =>
 (nH (a0.length:Int) false).bind λbP =>
 (b0 (R:=(Unit) ⊕ (gX)) (λ(cA:gX × List Bool) =>
 (b0 (R:=Int) (λ(fM:Int × Int) =>
 (bif decide (fM.2<(a0.length:Int)) then
 ((((idx cA.2 fM.2).bind λec=>(bif !ec then ((idx a0 fM.2).bind λb7=>(bif decide (0<(b7.length:Int)) then (bif decide (fM.1<0) then some true else ((idx a0 fM.2).bind λfj=>((idx a0 fM.1).bind λe5=>some (decide ((e5.length:Int)<(fj.length:Int)))))) else some false)) else some false))).bind λrG =>
 ((bif rG then
 some fM.2
 else
 some fM.1)).bind λmz =>
 some mz).bind λiB =>
 some (.inl (iB,aH (fM.2+1)))
 else
 some (.inr fM.1))) ((-1),0)).bind λbE =>
 (bif decide (bE<0) then
 some (.inr (.inr cA.1))
 else
 (idx cA.2 bE).bind λhY =>
 (b0 (R:=List Int) (λ(nO:List Int) =>
 (idx a0 bE).bind λeA =>
 (idx nO bE).bind λhs =>
 (zU cA.1.ck eA hs).bind λku =>
 (bif !ku then
 (idx nO bE).bind λkP =>
 some (.inl (nO.set bE.toNat (aH (kP+1))))
 else
 some (.inr nO))) cA.1.c6).bind λfZ =>
 (b0 (R:=List Int × List Int) (λ(eb:List Int × List Int × Int) =>
 (idx a0 bE).bind λjI =>
 (bif decide (eb.2.2<(jI.length:Int)) then
 (idx fZ bE).bind λgh =>
 (idx a0 bE).bind λo3 =>
 (idx o3 eb.2.2).bind λj0 =>
 (b0 (R:=List Int × List Int) (λ(ki:List Int × List Int) =>
 (bif decide ((ki.2.length:Int)<=aH (gh+j0.At)) then
 (db ki.2 [0]).bind λl7 =>
 (db ki.1 [0]).bind λo4 =>
 some (.inl (ki.1++[0],ki.2++[0]))
 else
 some (.inr (ki.1,ki.2)))) (eb.1,eb.2.1)).bind λjw =>
 (idx a0 bE).bind λrp =>
 (idx rp eb.2.2).bind λpP =>
 (idx jw.2 (aH (gh+j0.At))).bind λyd =>
 (idx jw.1 (aH (gh+j0.At))).bind λtf =>
 some (.inl (jw.1.set (aH (gh+j0.At)).toNat pP.b9,jw.2.set (aH (gh+j0.At)).toNat (aH (bE+1)),aH (eb.2.2+1)))
 else
 some (.inr (eb.1,eb.2.1)))) (cA.1.b9,cA.1.ck,0)).bind λfk =>
 some (.inl ((⟨fZ,fk.1,fk.2⟩:gX),cA.2.set bE.toNat true)))) ((⟨aY,([]:List Int),([]:List Int)⟩:gX),bP)).bind λbN =>
 (match bN with
 | .inl bM =>
 none
 | .inr b2 =>
 some b2))
def CG (a0:iE):Option ((List Row)) :=
 (b0 (R:=List Row) (λ(s1:List Row × Int) =>
 ((bif decide (0<(a0.f_.length:Int)) then ((idx a0.f_ 0).bind λbF=>some (decide (s1.2<(bF.length:Int)))) else some false)).bind λow =>
 (bif ow then
 (b0 (R:=List Int) (λ(eM:List Int × Int) =>
 (bif decide (eM.2<(a0.f_.length:Int)) then
 ((idx a0.f_ eM.2).bind λeQ =>
 (idx eQ s1.2).bind λec =>
 ((bif decide (0<=ec) then
 (idx a0.f_ eM.2).bind λbO =>
 (idx bO s1.2).bind λfo =>
 (db eM.1 [fo]).bind λfj =>
 some (eM.1++[fo])
 else
 some eM.1)).bind λlH =>
 some lH).bind λet =>
 some (.inl (et,aH (eM.2+1)))
 else
 some (.inr eM.1))) (([]:List Int),0)).bind λdD =>
 (uE dD).bind λe5 =>
 (b0 (R:=List dy) (λ(q':List dy × Int) =>
 (bif decide (q'.2<(a0.f_.length:Int)) then
 ((idx a0.f_ q'.2).bind λgW =>
 (idx gW s1.2).bind λfZ =>
 ((bif decide (0<=fZ) then some (!decide (fZ=e5)) else some false)).bind λp0 =>
 ((bif p0 then
 (db q'.1 [(⟨q'.2,fZ⟩:dy)]).bind λe0 =>
 some (q'.1++[(⟨q'.2,fZ⟩:dy)])
 else
 some q'.1)).bind λxk =>
 some xk).bind λuv =>
 some (.inl (uv,aH (q'.2+1)))
 else
 some (.inr q'.1))) (([]:List dy),0)).bind λfN =>
 (db s1.1 [(⟨e5,fN⟩:Row)]).bind λkP =>
 some (.inl (s1.1++[(⟨e5,fN⟩:Row)],aH (s1.2+1)))
 else
 some (.inr s1.1))) (([]:List Row),0)).bind λx2 =>
 some x2
def CH (a0:bs):Option ((List dy)) :=
 (b0 (R:=List Int) (λ(s1:List Int × Int) =>
 (bif decide (s1.2<(a0.aZ.length:Int)) then
 ((idx a0.aZ s1.2).bind λbN =>
 ((bif decide (0<bN.bK) then
 (idx a0.aZ s1.2).bind λdD =>
 (pH s1.1 dD.bK).bind λbE =>
 some bE
 else
 some s1.1)).bind λkK =>
 some kK).bind λqj =>
 some (.inl (qj,aH (s1.2+1)))
 else
 some (.inr s1.1))) (([]:List Int),0)).bind λx2 =>
 (b0 (R:=List dy) (λ(jt:List dy × Int) =>
 (bif decide (jt.2<(x2.length:Int)) then
 (b0 (R:=List dy) (λ(hX:List dy × Int) =>
 (bif decide (hX.2<(a0.aZ.length:Int)) then
 ((idx a0.aZ hX.2).bind λe5 =>
 (idx x2 jt.2).bind λeZ =>
 ((bif decide (e5.bK=eZ) then
 (idx x2 jt.2).bind λhc =>
 (db hX.1 [(⟨hc,hX.2⟩:dy)]).bind λhY =>
 some (hX.1++[(⟨hc,hX.2⟩:dy)])
 else
 some hX.1)).bind λmz =>
 some mz).bind λeS =>
 some (.inl (eS,aH (hX.2+1)))
 else
 some (.inr hX.1))) (jt.1,0)).bind λb7 =>
 some (.inl (b7,aH (jt.2+1)))
 else
 some (.inr jt.1))) (([]:List dy),0)).bind λdS =>
 some dS
structure Tables where
 Def:(List Int)
 cM:gX
 kU:(List Int)
 eB:gX
 Left:(List Int)
 kV:(List Int)
 ft:(List dy)
 deriving DecidableEq,Inhabited
def iJ:bz Tables:=⟨11,λx=>[ak ax x.Def,ak ax x.cM.c6,ak ax x.cM.b9,ak ax x.cM.ck,ak ax x.kU,ak ax x.eB.c6,ak ax x.eB.b9,ak ax x.eB.ck,ak ax x.Left,ak ax x.kV,ak dB x.ft],λ_=>rfl,λ_=>dj.bj⟩
instance:Flat iJ:=⟨λ_=>rfl⟩
instance:gu iJ iJ:=⟨rfl,λx=>(inferInstance:c8 [ak ax x.Def,ak ax x.cM.c6,ak ax x.cM.b9,ak ax x.cM.ck,ak ax x.kU,ak ax x.eB.c6,ak ax x.eB.b9,ak ax x.eB.ck,ak ax x.Left,ak ax x.kV,ak dB x.ft] [ak ax x.Def,ak ax x.cM.c6,ak ax x.cM.b9,ak ax x.cM.ck,ak ax x.kU,ak ax x.eB.c6,ak ax x.eB.b9,ak ax x.eB.ck,ak ax x.Left,ak ax x.kV,ak dB x.ft])⟩
instance {x:Tables}:c8 (iJ.cells x) [ak ax x.Def,ak ax x.cM.c6,ak ax x.cM.b9,ak ax x.cM.ck,ak ax x.kU,ak ax x.eB.c6,ak ax x.eB.b9,ak ax x.eB.ck,ak ax x.Left,ak ax x.kV,ak dB x.ft]:=(inferInstance:c8 [ak ax x.Def,ak ax x.cM.c6,ak ax x.cM.b9,ak ax x.cM.ck,ak ax x.kU,ak ax x.eB.c6,ak ax x.eB.b9,ak ax x.eB.ck,ak ax x.Left,ak ax x.kV,ak dB x.ft] [ak ax x.Def,ak ax x.cM.c6,ak ax x.cM.b9,ak ax x.cM.ck,ak ax x.kU,ak ax x.eB.c6,ak ax x.eB.b9,ak ax x.eB.ck,ak ax x.Left,ak ax x.kV,ak dB x.ft])
def zQ (a0:bs) (aB:iE):Option (Tables) :=
 (CF aB).bind λaX =>
 (xN aX).bind λx2 =>
 (vU x2.2).bind λaY =>
 (CG aB).bind λbP =>
 (xN bP).bind λbF =>
 (vU bF.2).bind λbN =>
 (b0 (R:=List Int × List Int) (λ(df:List Int × List Int × Int) =>
 (bif decide (df.2.2<(a0.bd.length:Int)) then
 (idx a0.bd df.2.2).bind λcb =>
 (db df.1 [cb.Left]).bind λdS =>
 (idx a0.bd df.2.2).bind λeQ =>
 (db df.2.1 [(eQ.e7.length:Int)]).bind λec =>
 some (.inl (df.1++[cb.Left],df.2.1++[(eQ.e7.length:Int)],aH (df.2.2+1)))
 else
 some (.inr (df.1,df.2.1)))) (([]:List Int),([]:List Int),0)).bind λb2 =>
 (CH a0).bind λc0 =>
 some (⟨x2.1,aY,bF.1,bN,b2.1,b2.2,c0⟩:Tables)
def xI (a0:Source):Option (bs × Tables × (List ByteArray) × Bool) :=
 (s0 a0).bind λaX =>
 (bif !aX.2.2.2 then
 some (aX.1,(⟨([]:List Int),(⟨([]:List Int),([]:List Int),([]:List Int)⟩:gX),([]:List Int),(⟨([]:List Int),([]:List Int),([]:List Int)⟩:gX),([]:List Int),([]:List Int),([]:List dy)⟩:Tables),([]:List ByteArray),false)
 else
 (CB aX.1).bind λaY =>
 (zQ aX.1 aX.2.1).bind λbP =>
 some (aX.1,bP,aY.1,decide (aY.2.1=0)))
def xL (a0:Tables):Option ((List (List Int))) :=
 (b0 (R:=List Int × List Int) (λ(s1:List Int × List Int × Int) =>
 (bif decide (s1.2.2<(a0.ft.length:Int)) then
 (idx a0.ft s1.2.2).bind λbF =>
 (db s1.1 [bF.At]).bind λbN =>
 (db s1.2.1 [bF.b9]).bind λbM =>
 some (.inl (s1.1++[bF.At],s1.2.1++[bF.b9],aH (s1.2.2+1)))
 else
 some (.inr (s1.1,s1.2.1)))) (([]:List Int),([]:List Int),0)).bind λx2 =>
 some [a0.Def,a0.cM.c6,a0.cM.b9,a0.cM.ck,a0.kU,a0.eB.c6,a0.eB.b9,a0.eB.ck,a0.Left,a0.kV,x2.1,x2.2]
def CC :Option ((List ByteArray)) :=
 some [⟨#[121,121,68,101,102]⟩,⟨#[121,121,65,99,116,66,97,115,101]⟩,⟨#[121,121,65,99,116,86,97,108]⟩,⟨#[121,121,65,99,116,67,104,107]⟩,⟨#[121,121,71,111,68,101,102]⟩,⟨#[121,121,71,111,66,97,115,101]⟩,⟨#[121,121,71,111,86,97,108]⟩,⟨#[121,121,71,111,67,104,107]⟩,⟨#[121,121,76,101,102,116]⟩,⟨#[121,121,76,101,110]⟩,⟨#[121,121,78,117,109,65,116]⟩,⟨#[121,121,78,117,109,86,97,108]⟩]
def xJ (a0:bs) (aB:Tables) (a2:(List ByteArray)):Option (ByteArray) :=
 (sO (a0.b5.size:Int)).bind λaX =>
 (eG (⟨#[47,47,32,67,111,100,101,32,109,97,100,101,32,98,121,32,121,117,99,99,97,32]⟩) aX).bind λx2 =>
 (eG x2 (⟨#[10]⟩)).bind λaY =>
 (eG aY a0.b5).bind λbP =>
 (eG bP (⟨#[10]⟩)).bind λbF =>
 (ni (⟨#[]⟩) bF).bind λbN =>
 (b0 (R:=ByteArray) (λ(df:ByteArray × Int) =>
 (bif decide (df.2<(a0.aZ.length:Int)) then
 ((idx a0.aZ df.2).bind λdS =>
 ((bif decide (2<df.2) then some (!dS.Lit) else some false)).bind λrF =>
 ((bif rF then
 (eG (⟨#[99,111,110,115,116,32]⟩) dS.Name).bind λbO =>
 (eG bO (⟨#[32,61,32]⟩)).bind λfo =>
 (sO dS.bK).bind λfj =>
 (eG fo fj).bind λe5 =>
 (eG e5 (⟨#[10]⟩)).bind λeZ =>
 (ni df.1 eZ).bind λfN =>
 some fN
 else
 some df.1)).bind λlH =>
 some lH).bind λja =>
 some (.inl (ja,aH (df.2+1)))
 else
 some (.inr df.1))) (bN,0)).bind λb2 =>
 (xL aB).bind λfx =>
 (CC ).bind λhc =>
 (b0 (R:=ByteArray) (λ(h':ByteArray × Int) =>
 (bif decide (h'.2<(hc.length:Int)) then
 (idx hc h'.2).bind λeA =>
 (idx fx h'.2).bind λhs =>
 (vO eA hs).bind λku =>
 (eG ku (⟨#[10]⟩)).bind λe0 =>
 (ni h'.1 e0).bind λkP =>
 some (.inl (kP,aH (h'.2+1)))
 else
 some (.inr h'.1))) (b2,0)).bind λgW =>
 (ni gW (⟨#[102,117,110,99,32,121,121,65,99,116,105,111,110,40,112,32,105,110,116,44,32,121,121,68,111,108,108,97,114,32,91,93,121,121,83,121,109,84,121,112,101,44,32,121,121,86,65,76,32,121,121,83,121,109,84,121,112,101,41,32,121,121,83,121,109,84,121,112,101,32,123,10,9,115,119,105,116,99,104,32,112,32,123,10]⟩)).bind λjd =>
 (b0 (R:=ByteArray) (λ(s9:ByteArray × Int) =>
 (bif decide (s9.2<(a2.length:Int)) then
 ((idx a2 s9.2).bind λo3 =>
 ((bif !decide (o3=⟨#[]⟩) then
 (sO s9.2).bind λjw =>
 (eG (⟨#[9,99,97,115,101,32]⟩) jw).bind λpO =>
 (eG pO (⟨#[58,10,9,9]⟩)).bind λte =>
 (eG te o3).bind λl7 =>
 (eG l7 (⟨#[10]⟩)).bind λo4 =>
 (ni s9.1 o4).bind λrp =>
 some rp
 else
 some s9.1)).bind λJu =>
 some Ju).bind λJr =>
 some (.inl (Jr,aH (s9.2+1)))
 else
 some (.inr s9.1))) (jd,0)).bind λkQ =>
 (eG (⟨#[9,125,10,9,114,101,116,117,114,110,32,121,121,86,65,76,10,125,10]⟩) a0.b').bind λpP =>
 (ni kQ pP).bind λyd =>
 (wE yd).bind λtf =>
 some tf
def zY :Option (Bool) :=
 (xI (⟨⟨#[112]⟩,([]:List Decl),[(⟨⟨#[115]⟩,[(⟨[(⟨(⟨⟨#[120]⟩,true,0,0⟩:Sym),⟨#[]⟩,0⟩:Part),(⟨(⟨⟨#[]⟩,false,0,0⟩:Sym),⟨#[123,102,40,41,125]⟩,0⟩:Part)],(⟨⟨#[]⟩,false,0,0⟩:Sym),0⟩:Alt)],0⟩:fc)],⟨#[116]⟩⟩:Source)).bind λaX =>
 (xJ aX.1 aX.2.1 aX.2.2.1).bind λx2 =>
 ((bif aX.2.2.2 then ((vO (⟨#[121,121,68,101,102]⟩) [(-1),2]).bind λbP=>(bif decide (bP=⟨#[118,97,114,32,121,121,68,101,102,32,61,32,91,93,105,110,116,123,45,49,44,32,50,125]⟩) then some (decide (x2=⟨#[47,47,32,67,111,100,101,32,109,97,100,101,32,98,121,32,121,117,99,99,97,32,49,10,112,10,118,97,114,32,121,121,68,101,102,32,61,32,91,93,105,110,116,123,45,49,44,32,49,44,32,45,49,125,10,118,97,114,32,121,121,65,99,116,66,97,115,101,32,61,32,91,93,105,110,116,123,48,44,32,48,44,32,48,125,10,118,97,114,32,121,121,65,99,116,86,97,108,32,61,32,91,93,105,110,116,123,50,48,48,48,49,44,32,48,44,32,48,44,32,50,125,10,118,97,114,32,121,121,65,99,116,67,104,107,32,61,32,91,93,105,110,116,123,51,44,32,48,44,32,48,44,32,49,125,10,118,97,114,32,121,121,71,111,68,101,102,32,61,32,91,93,105,110,116,123,45,49,44,32,50,125,10,118,97,114,32,121,121,71,111,66,97,115,101,32,61,32,91,93,105,110,116,123,48,44,32,48,125,10,118,97,114,32,121,121,71,111,86,97,108,32,61,32,91,93,105,110,116,123,125,10,118,97,114,32,121,121,71,111,67,104,107,32,61,32,91,93,105,110,116,123,125,10,118,97,114,32,121,121,76,101,102,116,32,61,32,91,93,105,110,116,123,48,44,32,49,125,10,118,97,114,32,121,121,76,101,110,32,61,32,91,93,105,110,116,123,49,44,32,49,125,10,118,97,114,32,121,121,78,117,109,65,116,32,61,32,91,93,105,110,116,123,49,50,48,125,10,118,97,114,32,121,121,78,117,109,86,97,108,32,61,32,91,93,105,110,116,123,51,125,10,102,117,110,99,32,121,121,65,99,116,105,111,110,40,112,32,105,110,116,44,32,121,121,68,111,108,108,97,114,32,91,93,121,121,83,121,109,84,121,112,101,44,32,121,121,86,65,76,32,121,121,83,121,109,84,121,112,101,41,32,121,121,83,121,109,84,121,112,101,32,123,10,9,115,119,105,116,99,104,32,112,32,123,10,9,99,97,115,101,32,49,58,10,9,9,123,102,40,41,125,10,9,125,10,9,114,101,116,117,114,110,32,121,121,86,65,76,10,125,10,116]⟩)) else some false)) else some false)).bind λow =>
 some ow
def qo (a0:ByteArray) (aB:Int):Option (ByteArray) :=
 (bif decide (aB<(a0.size:Int)) then
 (oy a0 0 aB).bind λx2 =>
 some x2
 else
 some a0)
def Kb (a0:(List Int)) (aB:Int):Option ((List Int)) :=
 (bif decide (aB<(a0.length:Int)) then
 (m_ a0 0 aB).bind λx2 =>
 some x2
 else
 some a0)
def xG (a0:ByteArray) (aB:(List Int)):Option (ByteArray) :=
 (eG (⟨#[118,97,114,32]⟩) a0).bind λaX =>
 (eG aX (⟨#[32,61,32,91,93,105,110,116,123]⟩)).bind λx2 =>
 (b0 (R:=ByteArray) (λ(cS:ByteArray × Int) =>
 (bif decide (cS.2<(aB.length:Int)) then
 ((bif decide (0<cS.2) then
 (eG cS.1 (⟨#[44,32]⟩)).bind λdD =>
 some dD
 else
 some cS.1)).bind λkK =>
 (idx aB cS.2).bind λbE =>
 (pG bE).bind λcb =>
 (eG kK cb).bind λdS =>
 some (.inl (dS,aH (cS.2+1)))
 else
 some (.inr cS.1))) (x2,0)).bind λbP =>
 (eG bP (⟨#[125]⟩)).bind λeQ =>
 some eQ
def Kc (a0:ByteArray) (aB:(List Int)):Option (Bool) :=
 (zY ).bind λaX =>
 (bif !aX then
 some false
 else
 (qo a0 40).bind λaY =>
 (Kb aB 100).bind λbP =>
 (vO aY bP).bind λbF =>
 (xG aY bP).bind λbN =>
 some (decide (bF=bN)))
def xK (a0:Sym):Option (Sym) :=
 (qo a0.Name 25).bind λaX =>
 some (⟨aX,a0.Lit,a0.bK,a0.At⟩:Sym)
def xH (a0:Source):Option (Source) :=
 (qo a0.b5 40).bind λaX =>
 (qo a0.b' 40).bind λx2 =>
 (b0 (R:=List Decl) (λ(cS:List Decl × Int) =>
 ((bif decide (cS.2<(a0.Decls.length:Int)) then some (decide (cS.2<8)) else some false)).bind λnk =>
 (bif nk then
 (idx a0.Decls cS.2).bind λdD =>
 (idx a0.Decls cS.2).bind λbE =>
 (qo bE.Tag 25).bind λcb =>
 (idx a0.Decls cS.2).bind λdS =>
 (b0 (R:=List Sym) (λ(hr:List Sym × Int) =>
 (((idx a0.Decls cS.2).bind λb7=>(bif decide (hr.2<(b7.ey.length:Int)) then some (decide (hr.2<6)) else some false))).bind λk2 =>
 (bif k2 then
 (idx a0.Decls cS.2).bind λe5 =>
 (idx e5.ey hr.2).bind λeZ =>
 (xK eZ).bind λfN =>
 (db hr.1 [fN]).bind λfx =>
 some (.inl (hr.1++[fN],aH (hr.2+1)))
 else
 some (.inr hr.1))) (([]:List Sym),0)).bind λec =>
 (db cS.1 [(⟨dD.Kind,cb,ec,dS.At⟩:Decl)]).bind λhc =>
 some (.inl (cS.1++[(⟨dD.Kind,cb,ec,dS.At⟩:Decl)],aH (cS.2+1)))
 else
 some (.inr cS.1))) (([]:List Decl),0)).bind λbP =>
 (b0 (R:=List fc) (λ(h':List fc × Int) =>
 ((bif decide (h'.2<(a0.dF.length:Int)) then some (decide (h'.2<6)) else some false)).bind λp0 =>
 (bif p0 then
 (idx a0.dF h'.2).bind λku =>
 (qo ku.Left 25).bind λe0 =>
 (idx a0.dF h'.2).bind λkP =>
 (b0 (R:=List Alt) (λ(eb:List Alt × Int) =>
 (((idx a0.dF h'.2).bind λjI=>(bif decide (eb.2<(jI.eJ.length:Int)) then some (decide (eb.2<5)) else some false))).bind λtI =>
 (bif tI then
 (idx a0.dF h'.2).bind λj0 =>
 (idx j0.eJ eb.2).bind λgM =>
 (xK gM.Prec).bind λjw =>
 (idx a0.dF h'.2).bind λpO =>
 (idx pO.eJ eb.2).bind λte =>
 (b0 (R:=List Part) (λ(s_:List Part × Int) =>
 (((idx a0.dF h'.2).bind λpP=>((idx pP.eJ eb.2).bind λyd=>(bif decide (s_.2<(yd.Parts.length:Int)) then some (decide (s_.2<6)) else some false)))).bind λGU =>
 (bif GU then
 (idx a0.dF h'.2).bind λZ' =>
 (idx Z'.eJ eb.2).bind λll =>
 (idx ll.Parts s_.2).bind λtg =>
 (xK tg.Sym).bind λKT =>
 (qo tg.Code 60).bind λrq =>
 (db s_.1 [(⟨KT,rq,tg.At⟩:Part)]).bind λF8 =>
 some (.inl (s_.1++[(⟨KT,rq,tg.At⟩:Part)],aH (s_.2+1)))
 else
 some (.inr s_.1))) (([]:List Part),0)).bind λo4 =>
 (db eb.1 [(⟨o4,jw,te.At⟩:Alt)]).bind λadH =>
 some (.inl (eb.1++[(⟨o4,jw,te.At⟩:Alt)],aH (eb.2+1)))
 else
 some (.inr eb.1))) (([]:List Alt),0)).bind λfk =>
 (db h'.1 [(⟨e0,fk,kP.At⟩:fc)]).bind λadI =>
 some (.inl (h'.1++[(⟨e0,fk,kP.At⟩:fc)],aH (h'.2+1)))
 else
 some (.inr h'.1))) (([]:List fc),0)).bind λgW =>
 some (⟨aX,bP,gW,x2⟩:Source)
def vS (a0:Int) (aB:Int):Option (Int) :=
 (q_ a0 aB).bind λaX =>
 ((bif decide (aX<0) then
 some (aH (aX+aB))
 else
 some aX)).bind λJo =>
 some Jo
def Kd :Option (ByteArray) :=
 some (⟨#[112,113,114,115]⟩)
def vT (a0:Int):Option (Sym) :=
 (Kd ).bind λaX =>
 (q_ a0 4).bind λx2 =>
 (q_ a0 4).bind λaY =>
 (oy aX x2 (aH (aY+1))).bind λbP =>
 some (⟨bP,true,0,0⟩:Sym)
def mi:bz Decl:=⟨4,λx=>[ae x.Kind,aw x.Tag,ao dN x.ey,ae x.At],λ_=>rfl,λ_=>dj.bj⟩
instance:gu mi dJ:=⟨rfl,λx=>(inferInstance:c8 [ae x.Kind,aw x.Tag,ao dN x.ey,ae x.At] [ae x.Kind,aw x.Tag,ak dN x.ey,ae x.At])⟩
instance {x:Decl}:c8 (mi.cells x) [ae x.Kind,aw x.Tag,ak dN x.ey,ae x.At]:=(inferInstance:c8 [ae x.Kind,aw x.Tag,ao dN x.ey,ae x.At] [ae x.Kind,aw x.Tag,ak dN x.ey,ae x.At])
def zO (a0:(List Int)):Option ((List Decl)) :=
 (b0 (R:=List Decl) (λ(s1:List Decl × Int) =>
 ((bif decide (s1.2<(a0.length:Int)) then some (decide (s1.2<4)) else some false)).bind λnj =>
 (bif nj then
 ((idx a0 s1.2).bind λb2 =>
 (vS b2 8).bind λdD =>
 (q_ dD 4).bind λbE =>
 (bif decide (bE=0) then
 some s1.1
 else
 ((bif decide (4<dD) then some (decide (0<(s1.1.length:Int))) else some false)).bind λmh =>
 (bif mh then
 (idx s1.1 (aH ((s1.1.length:Int) - 1))).bind λc0 =>
 (vT s1.2).bind λb7 =>
 (db c0.ey [b7]).bind λbO =>
 some (s1.1.set (aH ((s1.1.length:Int) - 1)).toNat (⟨c0.Kind,c0.Tag,c0.ey++[b7],c0.At⟩:Decl))
 else
 (q_ dD 4).bind λfo =>
 (vT s1.2).bind λfj =>
 (db s1.1 [(⟨aH (1+fo),⟨#[]⟩,[fj],0⟩:Decl)]).bind λe5 =>
 some (s1.1++[(⟨aH (1+fo),⟨#[]⟩,[fj],0⟩:Decl)])))).bind λkK =>
 some (.inl (kK,aH (s1.2+1)))
 else
 some (.inr s1.1))) (([]:List Decl),0)).bind λx2 =>
 some x2
def zP (a0:Int):Option (ByteArray) :=
 some (strOfNums [rn (aH (97+a0))])
def CA (a0:Int) (aB:Int):Option (Sym) :=
 (vS a0 14).bind λaX =>
 (bif decide (aX<5) then
 (q_ aX aB).bind λaY =>
 (zP aY).bind λbP =>
 some (⟨bP,false,0,0⟩:Sym)
 else
 (bif decide (aX=13) then
 some (⟨⟨#[101,114,114,111,114]⟩,false,0,0⟩:Sym)
 else
 (vT (aH (aX - 5))).bind λbN =>
 some bN))
structure pR where
 bX:Int
 dF:(List (List Int))
 qC:(List Int)
 m':(List Int)
 si:Bool
 deriving DecidableEq,Inhabited
def pn:bz pR:=⟨5,λx=>[ae x.bX,ak (bG ax) x.dF,ak ax x.qC,ak ax x.m',bc x.si],λ_=>rfl,λ_=>dj.bj⟩
instance:Flat pn:=⟨λ_=>rfl⟩
instance:gu pn pn:=⟨rfl,λx=>(inferInstance:c8 [ae x.bX,ak (bG ax) x.dF,ak ax x.qC,ak ax x.m',bc x.si] [ae x.bX,ak (bG ax) x.dF,ak ax x.qC,ak ax x.m',bc x.si])⟩
instance {x:pR}:c8 (pn.cells x) [ae x.bX,ak (bG ax) x.dF,ak ax x.qC,ak ax x.m',bc x.si]:=(inferInstance:c8 [ae x.bX,ak (bG ax) x.dF,ak ax x.qC,ak ax x.m',bc x.si] [ae x.bX,ak (bG ax) x.dF,ak ax x.qC,ak ax x.m',bc x.si])
def fu:bz fc:=⟨3,λx=>[aw x.Left,ao fp x.eJ,ae x.At],λ_=>rfl,λ_=>dj.bj⟩
instance:gu fu iv:=⟨rfl,λx=>(inferInstance:c8 [aw x.Left,ao fp x.eJ,ae x.At] [aw x.Left,ak fp x.eJ,ae x.At])⟩
instance {x:fc}:c8 (fu.cells x) [aw x.Left,ak fp x.eJ,ae x.At]:=(inferInstance:c8 [aw x.Left,ao fp x.eJ,ae x.At] [aw x.Left,ak fp x.eJ,ae x.At])
def vR (a0:pR):Option (Source) :=
 (vS a0.bX 4).bind λaX =>
 (zO a0.qC).bind λx2 =>
 (nH (aH (1+aX)) false).bind λaY =>
 (b0 (R:=List fc) (λ(cX:List fc × Int) =>
 (bif decide (cX.2<aH (1+aX)) then
 (zP cX.2).bind λb2 =>
 (db cX.1 [(⟨b2,([]:List Alt),0⟩:fc)]).bind λdD =>
 some (.inl (cX.1++[(⟨b2,([]:List Alt),0⟩:fc)],aH (cX.2+1)))
 else
 some (.inr cX.1))) (([]:List fc),0)).bind λbF =>
 (b0 (R:=List fc × List Bool) (λ(gg:List fc × List Bool × Int) =>
 ((bif decide (gg.2.2<(a0.dF.length:Int)) then some (decide (gg.2.2<9)) else some false)).bind λrF =>
 (bif rF then
 ((idx a0.dF gg.2.2).bind λbO =>
 (bif decide ((bO.length:Int)=0) then
 some (gg.1,gg.2.1)
 else
 (idx a0.dF gg.2.2).bind λfj =>
 (idx fj 0).bind λe5 =>
 (vS e5 (aH (1+aX))).bind λeZ =>
 (b0 (R:=List Part × Bool) (λ(iD:List Part × Bool × Int) =>
 (((idx a0.dF gg.2.2).bind λhY=>(bif decide (iD.2.2<(hY.length:Int)) then some (decide (iD.2.2<5)) else some false))).bind λGR =>
 (bif GR then
 ((idx a0.dF gg.2.2).bind λhs =>
 (idx hs iD.2.2).bind λku =>
 (CA ku (aH (1+aX))).bind λe0 =>
 ((bif iD.2.1 then (bif e0.Lit then some true else some (decide (e0.Name=⟨#[101,114,114,111,114]⟩))) else some false)).bind λwG =>
 (db iD.1 [(⟨e0,⟨#[]⟩,0⟩:Part)]).bind λkQ =>
 ((bif decide (gg.2.2<(a0.m'.length:Int)) then (bif decide (iD.2.2=1) then ((idx a0.m' gg.2.2).bind λgh=>((q_ gh 3).bind λo3=>some (decide (o3=1)))) else some false) else some false)).bind λAU =>
 ((bif AU then
 (db (iD.1++[(⟨e0,⟨#[]⟩,0⟩:Part)]) [(⟨(⟨⟨#[]⟩,false,0,0⟩:Sym),⟨#[123,36,36,32,61,32,36,49,125]⟩,0⟩:Part)]).bind λpO =>
 some ((iD.1++[(⟨e0,⟨#[]⟩,0⟩:Part)])++[(⟨(⟨⟨#[]⟩,false,0,0⟩:Sym),⟨#[123,36,36,32,61,32,36,49,125]⟩,0⟩:Part)])
 else
 some (iD.1++[(⟨e0,⟨#[]⟩,0⟩:Part)]))).bind λr6 =>
 some (r6,wG)).bind λB6 =>
 some (.inl (B6.1,B6.2,aH (iD.2.2+1)))
 else
 some (.inr (iD.1,iD.2.1)))) (([]:List Part),true,1)).bind λfx =>
 ((bif decide (gg.2.2<(a0.m'.length:Int)) then ((idx a0.m' gg.2.2).bind λl7=>((q_ l7 2).bind λo4=>some (!decide (o4=0)))) else some false)).bind λGS =>
 ((bif GS then
 (db fx.1 [(⟨(⟨⟨#[]⟩,false,0,0⟩:Sym),⟨#[123,102,40,36,36,41,125]⟩,0⟩:Part)]).bind λtf =>
 some (fx.1++[(⟨(⟨⟨#[]⟩,false,0,0⟩:Sym),⟨#[123,102,40,36,36,41,125]⟩,0⟩:Part)])
 else
 some fx.1)).bind λoU =>
 (((idx gg.2.1 eZ).bind λpQ=>(bif pQ then some (gg.2.1.set eZ.toNat true) else some (gg.2.1.set eZ.toNat fx.2)))).bind λDS =>
 (idx gg.1 eZ).bind λll =>
 (db ll.eJ [(⟨oU,(⟨⟨#[]⟩,false,0,0⟩:Sym),0⟩:Alt)]).bind λtg =>
 some (gg.1.set eZ.toNat (⟨ll.Left,ll.eJ++[(⟨oU,(⟨⟨#[]⟩,false,0,0⟩:Sym),0⟩:Alt)],ll.At⟩:fc),DS))).bind λmy =>
 some (.inl (my.1,my.2,aH (gg.2.2+1)))
 else
 some (.inr (gg.1,gg.2.1)))) (bF,aY,0)).bind λcb =>
 (b0 (R:=List fc) (λ(jb:List fc × Int) =>
 (bif decide (jb.2<aH (1+aX)) then
 ((((idx jb.1 jb.2).bind λwg=>(bif decide ((wg.eJ.length:Int)=0) then some true else ((idx cb.2 jb.2).bind λKU=>(bif !KU then some (!a0.si) else some false))))).bind λGV =>
 ((bif GV then
 (idx jb.1 jb.2).bind λkv =>
 (vT jb.2).bind λkx =>
 (db kv.eJ [(⟨[(⟨kx,⟨#[]⟩,0⟩:Part)],(⟨⟨#[]⟩,false,0,0⟩:Sym),0⟩:Alt)]).bind λDk =>
 some (jb.1.set jb.2.toNat (⟨kv.Left,kv.eJ++[(⟨[(⟨kx,⟨#[]⟩,0⟩:Part)],(⟨⟨#[]⟩,false,0,0⟩:Sym),0⟩:Alt)],kv.At⟩:fc))
 else
 some jb.1)).bind λJy =>
 some Jy).bind λJx =>
 some (.inl (Jx,aH (jb.2+1)))
 else
 some (.inr jb.1))) (cb.1,0)).bind λrq =>
 some (⟨⟨#[]⟩,x2,rq,⟨#[]⟩⟩:Source)
def Fg :Option ((List ByteArray)) :=
 some [⟨#[121,121,68,101,102]⟩,⟨#[121,121,65,99,116,66,97,115,101]⟩,⟨#[121,121,65,99,116,86,97,108]⟩,⟨#[121,121,65,99,116,67,104,107]⟩,⟨#[121,121,71,111,68,101,102]⟩,⟨#[121,121,71,111,66,97,115,101]⟩,⟨#[121,121,71,111,86,97,108]⟩,⟨#[121,121,71,111,67,104,107]⟩,⟨#[121,121,76,101,102,116]⟩,⟨#[121,121,76,101,110]⟩,⟨#[121,121,78,117,109,65,116]⟩,⟨#[121,121,78,117,109,86,97,108]⟩]
def xM (a0:Tables):Option ((List (List Int))) :=
 (b0 (R:=List Int × List Int) (λ(s1:List Int × List Int × Int) =>
 (bif decide (s1.2.2<(a0.ft.length:Int)) then
 (idx a0.ft s1.2.2).bind λbF =>
 (db s1.1 [bF.At]).bind λbN =>
 (idx a0.ft s1.2.2).bind λbM =>
 (db s1.2.1 [bM.b9]).bind λb2 =>
 some (.inl (s1.1++[bF.At],s1.2.1++[bM.b9],aH (s1.2.2+1)))
 else
 some (.inr (s1.1,s1.2.1)))) (([]:List Int),([]:List Int),0)).bind λx2 =>
 some [a0.Def,a0.cM.c6,a0.cM.b9,a0.cM.ck,a0.kU,a0.eB.c6,a0.eB.b9,a0.eB.ck,a0.Left,a0.kV,x2.1,x2.2]
def zN (a0:bs) (aB:Tables) (a2:(List ByteArray)):Option (ByteArray) :=
 (pG (a0.b5.size:Int)).bind λaX =>
 (eG (⟨#[47,47,32,67,111,100,101,32,109,97,100,101,32,98,121,32,121,117,99,99,97,32]⟩) aX).bind λx2 =>
 (eG x2 (⟨#[10]⟩)).bind λaY =>
 (eG aY a0.b5).bind λbP =>
 (eG bP (⟨#[10]⟩)).bind λbF =>
 (b0 (R:=ByteArray) (λ(cP:ByteArray × Int) =>
 (bif decide (cP.2<(a0.aZ.length:Int)) then
 ((idx a0.aZ cP.2).bind λcb =>
 ((bif !cb.Lit then
 (eG cP.1 (⟨#[99,111,110,115,116,32]⟩)).bind λec =>
 (idx a0.aZ cP.2).bind λc0 =>
 (eG ec c0.Name).bind λb7 =>
 (eG b7 (⟨#[32,61,32]⟩)).bind λbO =>
 (idx a0.aZ cP.2).bind λfo =>
 (pG fo.bK).bind λfj =>
 (eG bO fj).bind λe5 =>
 (eG e5 (⟨#[10]⟩)).bind λeZ =>
 some eZ
 else
 some cP.1)).bind λet =>
 some et).bind λkI =>
 some (.inl (kI,aH (cP.2+1)))
 else
 some (.inr cP.1))) (bF,3)).bind λbM =>
 (Fg ).bind λfN =>
 (xM aB).bind λfx =>
 (b0 (R:=ByteArray) (λ(uM:ByteArray × Int) =>
 (bif decide (uM.2<(fN.length:Int)) then
 (idx fN uM.2).bind λcE =>
 (idx fx uM.2).bind λeA =>
 (xG cE eA).bind λhs =>
 (eG uM.1 hs).bind λku =>
 (eG ku (⟨#[10]⟩)).bind λe0 =>
 some (.inl (e0,aH (uM.2+1)))
 else
 some (.inr uM.1))) (bM,0)).bind λhY =>
 (eG hY (⟨#[102,117,110,99,32,121,121,65,99,116,105,111,110,40,112,32,105,110,116,44,32,121,121,68,111,108,108,97,114,32,91,93,121,121,83,121,109,84,121,112,101,44,32,121,121,86,65,76,32,121,121,83,121,109,84,121,112,101,41,32,121,121,83,121,109,84,121,112,101,32,123,10,9,115,119,105,116,99,104,32,112,32,123,10]⟩)).bind λkP =>
 (b0 (R:=ByteArray) (λ(eb:ByteArray × Int) =>
 (bif decide (eb.2<(a2.length:Int)) then
 ((idx a2 eb.2).bind λgh =>
 ((bif !decide (gh=⟨#[]⟩) then
 (eG eb.1 (⟨#[9,99,97,115,101,32]⟩)).bind λgM =>
 (pG eb.2).bind λjw =>
 (eG gM jw).bind λpO =>
 (eG pO (⟨#[58,10,9,9]⟩)).bind λte =>
 (idx a2 eb.2).bind λl7 =>
 (eG te l7).bind λo4 =>
 (eG o4 (⟨#[10]⟩)).bind λrp =>
 some rp
 else
 some eb.1)).bind λJt =>
 some Jt).bind λqW =>
 some (.inl (qW,aH (eb.2+1)))
 else
 some (.inr eb.1))) (kP,0)).bind λfk =>
 (eG fk (⟨#[9,125,10,9,114,101,116,117,114,110,32,121,121,86,65,76,10,125,10]⟩)).bind λpP =>
 (eG pP a0.b').bind λyd =>
 some yd
def zS (a0:Source) (aB:pR):Option (Bool) :=
 (zY ).bind λaX =>
 (bif !aX then
 some false
 else
 (xH a0).bind λaY =>
 (vR aB).bind λbP =>
 (b0 (R:=(Unit) ⊕ (Bool)) (λ(cA:Int) =>
 (bif decide (cA<([aY,bP].length:Int)) then
 (idx [aY,bP] cA).bind λbE =>
 (xI bE).bind λcb =>
 ((bif cb.2.2.2 then ((xJ cb.1 cb.2.1 cb.2.2.1).bind λeQ=>((zN cb.1 cb.2.1 cb.2.2.1).bind λec=>some (!decide (eQ=ec)))) else some false)).bind λmL =>
 (bif mL then
 some (.inr (.inr false))
 else
 some (.inl (aH (cA+1))))
 else
 some (.inr (.inl ())))) 0).bind λbN =>
 (match bN with
 | .inl bM =>
 some true
 | .inr b2 =>
 some b2))
end Go.Proofs
namespace Go.Own
open Go
variable {α β S R:Type}
abbrev gN (p:S->Prop) (q:R->Prop) (x:S ⊕ R):Prop:=Sum.elim p q x
def Tot (x:Option α) (Φ:α->Prop):Prop:=∃ a,x=some a/\Φ a
namespace Tot
variable {Φ Ψ:α->Prop}
theorem ag {a:α}(h:Φ a):Tot (some a) Φ:=⟨a,rfl,h⟩
theorem bi {x:Option β}{f:β->Option α}(h:Tot x λa=>Tot (f a) Φ):Tot (x.bind f) Φ:=by
 obtain ⟨a,rfl,b,av,nz⟩:=h;exact ⟨b,av,nz⟩
theorem sm {f:β->Option α}{a:β}(h:Tot (f a) Φ):Tot ((some a).bind f) Φ:=h
theorem use {x:Option α}(h:Tot x Ψ) (hi:∀ a,Ψ a->Φ a):Tot x Φ:=by
 obtain ⟨a,aR,Jg⟩:=h;exact ⟨a,aR,hi a Jg⟩
theorem aq {x:Option β}{f:β->Option α}{Ξ:β->Prop}(h:Tot x Ξ) (hk:∀ a,Ξ a->Tot (f a) Φ):Tot (x.bind f) Φ:=bi (h.use hk)
theorem bl {c:Bool}{a b:Option α}(ar:c=true->Tot a Φ) (aS:c=false->Tot b Φ):Tot (cond c a b) Φ:=by
 grind
theorem ba {p:Prop} [Decidable p] {a b:Option α}(ar:p->Tot a Φ) (aS:¬ p->Tot b Φ):Tot (cond (decide p) a b) Φ:=by grind
theorem kE {p:Prop} [Decidable p] {a b:Option α}(ar:¬ p->Tot a Φ) (aS:p->Tot b Φ):Tot (cond (!decide p) a b) Φ:=by grind
theorem gf {l:List α}{i:Int}(aO:0<=i) (h1:i<l.length) (hk:∀ y,idx l i=some y->y∈l->Φ y):Tot (idx l i) Φ:=by
 have aQ:i.toNat<l.length:=by omega
 have:idx l i=some l[i.toNat]:=by simp [idx,aO,aQ]
 exact ⟨_,this,hk _ this (List.getElem_mem aQ)⟩
theorem ap {Φ:List α->Prop}{l m:List α}(h:l.length+m.length<=lim) (hk:Φ (l++m)):Tot (db l m) Φ:=by
 refine ⟨l++m,?_,hk⟩
 grind [db]
theorem loop {f:S->Option (S ⊕ R)}{eL:S}{Ψ:R->Prop}(Inv:S->Prop) (uW:S->Nat) (aO:Inv eL) (Jh:uW eL<fuel)
  (az:∀ s,Inv s->Tot (f s) (gN (λcn=>Inv cn/\uW cn<uW s) Ψ)):Tot (b0 f eL) Ψ:=by
 have key:∀ n s,Inv s->uW s<n->Tot (iter f n s) Ψ:=by
  intro n
  induction n with
  | zero=>intro s _ h; omega
  | succ n aM =>
   intro s bb hm;obtain ⟨x,j,cg⟩:=az s bb;cases x with
   | inl cn =>
    grind [iter]
   | inr r =>
    simp only [iter,j];exact ⟨r,rfl,cg⟩
 exact key fuel eL aO Jh
theorem count {f:S->Option (S ⊕ R)}{eL:S}{Ψ:R->Prop}(i:S->Int) (n:Int) (Inv:S->Prop) (aO:Inv eL) (aA:n - i eL<1000000000000000000)
  (az:∀ s,Inv s->Tot (f s) (gN (λcn=>Inv cn/\i s<i cn/\i cn<=n) Ψ)):Tot (b0 f eL) Ψ:=by
 refine loop Inv (λs=>(n - i s).toNat) aO (by show (n - i eL).toNat<1000000000000000000; omega) λs bb=>(az s bb).use λx j=>?_
 grind
end Tot
theorem Qw {n:Int}(aO:-9223372036854775808<=n) (h1:n<=9223372036854775807):aH n=n:=by
 grind [IntKind.wrap_i64]
theorem ch (n:Int):aH n=(n+9223372036854775808) % 18446744073709551616 - 9223372036854775808:=IntKind.wrap_i64 n
namespace Tot
theorem cat {Φ:ByteArray->Prop}{s u:ByteArray}(h:s.size+u.size<=4611686018427387904) (hk:Φ (s++u)):Tot (eG s u) Φ:=by
 refine ⟨s++u,?_,hk⟩
 grind [eG]
theorem cut {Φ:ByteArray->Prop}{s:ByteArray}{m n:Int}(h:0<=m/\m<=n/\n<=s.size) (hk:Φ (oz s m n)):Tot (oy s m n) Φ:=by
 refine ⟨_,?_,hk⟩
 grind [oy]
theorem jM {Φ:Int->Prop}{s:ByteArray}{m:Int}(h:0<=m/\m<s.size) (hk:Φ (ly s m)):Tot (hG s m) Φ:=by
 refine ⟨_,?_,hk⟩
 grind [hG]
theorem sub {Φ:List α->Prop}{l:List α}{m n:Int}(h:0<=m/\m<=n/\n<=l.length) (hk:Φ ((l.drop m.toNat).take (n - m).toNat)):Tot (m_ l m n) Φ:=by
 refine ⟨_,?_,hk⟩
 grind [m_]
theorem rem {Φ:Int->Prop}{m n:Int}(h:n≠0) (hk:Φ (m.tmod n)):Tot (q_ m n) Φ:=by
 refine ⟨_,?_,hk⟩
 grind [q_]
theorem quo {Φ:Int->Prop}{m n:Int}(h:n≠0) (hk:Φ (aH (m.tdiv n))):Tot (Fo m n) Φ:=by
 refine ⟨_,?_,hk⟩
 grind [Fo]
theorem pJ {Φ:Int->Prop}{m n:Int}(h:n≠0) (hk:Φ (m.tmod n)):Tot (Own.pJ m n) Φ:=by
 refine ⟨_,?_,hk⟩
 grind [Own.pJ]
theorem pI {Φ:Int->Prop}{m n:Int}(h:n≠0) (hk:Φ (IntKind.u64.wrap (m.tdiv n))):Tot (Own.pI m n) Φ:=by
 refine ⟨_,?_,hk⟩
 grind [Own.pI]
theorem mk {Φ:List α->Prop}{m:Int}{z:α}(h:0<=m/\m<=lim) (hk:Φ (List.replicate m.toNat z)):Tot (nH m z) Φ:=by
 refine ⟨_,?_,hk⟩
 grind [nH]
theorem eq {x:Option α}{Φ:α->Prop}{a:α}(h:Tot x Φ) (e:x=some a):Φ a:=by
 obtain ⟨b,av,nz⟩:=h
 grind
theorem ex {x:Option α}{Φ:α->Prop}(h:Tot x Φ):∃ a,x=some a/\Φ a:=h
end Tot
namespace Tot
theorem scan {f:Int->Option (Int ⊕ (Unit ⊕ R))}(l:List β) (P:β->Prop) (Q:R->Prop) (ai:l.length<=100000000000000000)
  (az:∀ (s:Int) (y:β),0<=s->s<l.length->idx l s=some y->y∈l->Tot (f s) (gN (λcn=>cn=s+1/\P y) (gN (λ_=>False) Q)))
  (he:∀ s:Int,¬ s<l.length->f s=some (.inr (.inl ()))):Tot (b0 f 0) (gN (λ_=>∀ y∈l,P y) Q):=by
 refine count (λs=>s) l.length (λs=>0<=s/\s<=l.length/\∀ (J:Nat) (y:β),(J:Int)<s->l[J]?=some y->P y) ⟨by omega,by omega,λJ y h=>by omega⟩ (by show (l.length:Int) - 0<_; omega) λs bb=>?_;obtain ⟨aO,h1,af⟩:=bb;by_cases aQ:s<l.length
 ·have jO:s.toNat<l.length:=by omega
  have hi:idx l s=some l[s.toNat]:=by simp [idx,aO,jO]
  refine (az s _ aO aQ hi (List.getElem_mem jO)).use λx j=>?_;rcases x with cn | ⟨⟨⟩⟩ | r
  ·obtain ⟨rfl,cg⟩:=j
   grind
  ·grind
  grind
 ·rw [he s aQ];refine ag λy al=>?_;obtain ⟨J,aj,rfl⟩:=List.mem_iff_getElem.1 al;exact af J _ (by omega) (List.getElem?_eq_getElem aj)
end Tot
end Go.Own
namespace Go.Own
open Go
variable {α β S R:Type}
def Par (x:Option α) (Φ:α->Prop):Prop:=∀ a,x=some a->Φ a
set_option linter.unusedVariables false
namespace Par
variable {Φ Ψ:α->Prop}
theorem ag {a:α}(h:Φ a):Par (some a) Φ:=λb e=>by cases e; exact h
theorem no:Par (none:Option α) Φ:=λb e=>by cases e
theorem use {x:Option α}(h:Par x Ψ) (hi:∀ a,Ψ a->Φ a):Par x Φ:=λa e=>hi a (h a e)
theorem aq {x:Option β}{f:β->Option α}{Ξ:β->Prop}(h:Par x Ξ) (hk:∀ a,Ξ a->Par (f a) Φ):Par (x.bind f) Φ:=λa e=>by
 cases x with
 | none=>cases e
 | some b=>exact hk b (h b rfl) a e
theorem go {x:Option β}{f:β->Option α}(hk:∀ a,x=some a->Par (f a) Φ):Par (x.bind f) Φ:=λa e=>by
 cases x with
 | none=>cases e
 | some b=>exact hk b rfl a e
theorem bl {c:Bool}{a b:Option α}(ar:c=true->Par a Φ) (aS:c=false->Par b Φ):Par (cond c a b) Φ:=by
 cases c
 ·exact aS rfl
 ·exact ar rfl
theorem ba {p:Prop} [Decidable p] {a b:Option α}(ar:p->Par a Φ) (aS:¬ p->Par b Φ):Par (cond (decide p) a b) Φ :=
 bl (λh=>ar (of_decide_eq_true h)) (λh=>aS (of_decide_eq_false h))
theorem kE {p:Prop} [Decidable p] {a b:Option α}(ar:¬ p->Par a Φ) (aS:p->Par b Φ):Par (cond (!decide p) a b) Φ :=
 bl (λh=>ar (of_decide_eq_false (by simpa using h))) (λh=>aS (of_decide_eq_true (by simpa using h)))
theorem ap {l m:List β}{f:List β->Option α}(hk:l.length+m.length<=lim->Par (f (l++m)) Φ):Par ((db l m).bind f) Φ:=by
 unfold db;split
 ·rename_i h; exact hk h
 ·exact no
theorem cat {s u:ByteArray}{f:ByteArray->Option α}(hk:Par (f (s++u)) Φ):Par ((eG s u).bind f) Φ:=by
 unfold eG;split
 ·exact hk
 ·exact no
theorem loop {f:S->Option (S ⊕ R)}{eL:S}{Ψ:R->Prop}(Inv:S->Prop) (aO:Inv eL) (az:∀ s,Inv s->Par (f s) (gN Inv Ψ)):Par (b0 f eL) Ψ:=by
 have key:∀ n s,Inv s->Par (iter f n s) Ψ:=by
  intro n
  induction n with
  | zero=>intro s _ a e; cases e
  | succ n aM =>
   intro s bb a e;simp only [iter] at e;cases j:f s with
   | none=>rw [j] at e; cases e
   | some x =>
    have cg:=az s bb x j;rw [j] at e;cases x with
    | inl cn=>exact aM cn cg a e
    | inr r=>cases e; exact cg
 exact key fuel eL aO
theorem iO {x:Option α}(h:Tot x Φ) (aJ:Par x Ψ):Tot x λa=>Φ a/\Ψ a:=by
 obtain ⟨a,aR,nz⟩:=h;exact ⟨a,aR,nz,aJ a aR⟩
theorem of {x:Option α}(h:Tot x Φ):Par x Φ:=λa e=>h.eq e
theorem scan {f:Int->Option (Int ⊕ (Unit ⊕ R))}(l:List β) (ai:l.length<=100000000000000000) (P:β->Prop) (Q:R->Prop)
  (az:∀ (s:Int) (y:β),0<=s->s<l.length->idx l s=some y->y∈l->Par (f s) (gN (λcn=>cn=s+1/\P y) (gN (λ_=>False) Q)))
  (he:∀ s:Int,¬ s<l.length->f s=some (.inr (.inl ()))):Par (b0 f 0) (gN (λ_=>∀ y∈l,P y) Q):=by
 refine loop (λs=>0<=s/\s<=l.length/\∀ (J:Nat) (y:β),(J:Int)<s->l[J]?=some y->P y) ⟨by omega,by omega,λJ y h=>by omega⟩ λs bb=>?_;obtain ⟨aO,h1,af⟩:=bb;by_cases aQ:s<l.length
 ·have jO:s.toNat<l.length:=by omega
  have hi:idx l s=some l[s.toNat]:=by simp [idx,aO,jO]
  refine (az s _ aO aQ hi (List.getElem_mem jO)).use λx j=>?_;rcases x with cn | ⟨⟨⟩⟩ | r
  ·obtain ⟨rfl,cg⟩:=j;refine ⟨by omega,by omega,λJ y aj al=>?_⟩;by_cases zh:(J:Int)<s
   ·exact af J y zh al
   ·have:J=s.toNat:=by omega
    subst this;rw [List.getElem?_eq_getElem jO] at al;cases al; exact cg
  ·exact j.elim
  ·exact j
 ·rw [he s aQ];refine ag λy al=>?_;obtain ⟨J,aj,rfl⟩:=List.mem_iff_getElem.1 al;exact af J _ (by omega) (List.getElem?_eq_getElem aj)
end Par
end Go.Own
namespace Go.Own
open Go
variable {α β S R:Type}
namespace Tot
theorem upto {f:S->Option (S ⊕ R)}{eL:S}{Ψ:R->Prop}(i:S->Int) (n:Nat) (Inv:Nat->S->Prop) (hi:i eL=0) (aA:n<=100000000000000000) (aO:Inv 0 eL)
  (az:∀ (k:Nat) (s:S),k<=n->i s=(k:Int)->Inv k s->Tot (f s) (gN (λcn=>k<n/\i cn=((k+1:Nat):Int)/\Inv (k+1) cn) Ψ)):Tot (b0 f eL) Ψ:=by
 refine count i n (λs=>∃ k:Nat,k<=n/\i s=(k:Int)/\Inv k s) ⟨0,Nat.zero_le _,hi,aO⟩ (by rw [hi]; omega) λs ⟨k,hk,he,bb⟩=>(az k s hk he bb).use λx j=>?_;rcases x with cn | r
 ·obtain ⟨h1,af,aK⟩:=j;exact ⟨⟨k+1,by omega,af,aK⟩,by omega,by omega⟩
 ·exact j
end Tot
namespace Par
theorem upto {f:S->Option (S ⊕ R)}{eL:S}{Ψ:R->Prop}(i:S->Int) (n:Nat) (Inv:Nat->S->Prop) (hi:i eL=0) (aO:Inv 0 eL)
  (az:∀ (k:Nat) (s:S),k<=n->i s=(k:Int)->Inv k s->Par (f s) (gN (λcn=>k<n/\i cn=((k+1:Nat):Int)/\Inv (k+1) cn) Ψ)):Par (b0 f eL) Ψ:=by
 refine loop (λs=>∃ k:Nat,k<=n/\i s=(k:Int)/\Inv k s) ⟨0,Nat.zero_le _,hi,aO⟩ λs ⟨k,hk,he,bb⟩=>(az k s hk he bb).use λx j=>?_;rcases x with cn | r
 ·obtain ⟨h1,af,aK⟩:=j;exact ⟨k+1,by omega,af,aK⟩
 ·exact j
end Par
theorem ew (k:Nat) (h:k<=1000000000000000000):aH ((k:Int)+1)=((k+1:Nat):Int):=by rw [ch]; omega
end Go.Own
namespace Go.Own
open Go
variable {α β Ar As S T R Q:Type}
def Rel (x:Option α) (y:Option β) (Φ:α->β->Prop):Prop:=∃ a b,x=some a/\y=some b/\Φ a b
abbrev Lh (p:S->T->Prop) (q:R->Q->Prop):S ⊕ R->T ⊕ Q->Prop
 | .inl a,.inl b=>p a b
 | .inr a,.inr b=>q a b
 | _,_=>False
namespace Rel
variable {Φ Ψ:α->β->Prop}
theorem ag {a:α}{b:β}(h:Φ a b):Rel (some a) (some b) Φ:=⟨a,b,rfl,rfl,h⟩
theorem use {x:Option α}{y:Option β}(h:Rel x y Ψ) (hi:∀ a b,Ψ a b->Φ a b):Rel x y Φ:=by
 obtain ⟨a,b,aR,av,Jg⟩:=h;exact ⟨a,b,aR,av,hi a b Jg⟩
theorem aq {x:Option Ar}{y:Option As}{f:Ar->Option α}{g:As->Option β}{Ξ:Ar->As->Prop}(h:Rel x y Ξ) (hk:∀ a b,Ξ a b->Rel (f a) (g b) Φ):Rel (x.bind f) (y.bind g) Φ:=by
 obtain ⟨a,b,rfl,rfl,B2⟩:=h;exact hk a b B2
theorem l {x:Option Ar}{y:Option β}{f:Ar->Option α}{Ξ:Ar->Prop}(h:Tot x Ξ) (hk:∀ a,Ξ a->Rel (f a) y Φ):Rel (x.bind f) y Φ:=by
 obtain ⟨a,rfl,B2⟩:=h;exact hk a B2
theorem r {x:Option α}{y:Option As}{g:As->Option β}{Ξ:As->Prop}(h:Tot y Ξ) (hk:∀ a,Ξ a->Rel x (g a) Φ):Rel x (y.bind g) Φ:=by
 obtain ⟨a,rfl,B2⟩:=h;exact hk a B2
theorem bl {c d:Bool}{a b:Option α}{b1 dz:Option β}(aa:c=d) (ar:c=true->Rel a b1 Φ) (aS:c=false->Rel b dz Φ):Rel (cond c a b) (cond d b1 dz) Φ:=by
 subst aa;cases c
 ·exact aS rfl
 ·exact ar rfl
theorem cl {c:Bool}{a b:Option α}{y:Option β}(ar:c=true->Rel a y Φ) (aS:c=false->Rel b y Φ):Rel (cond c a b) y Φ:=by
 cases c
 ·exact aS rfl
 ·exact ar rfl
theorem iO {x:Option α}{y:Option β}{P:α->Prop}{Q:β->Prop}(h:Tot x P) (aJ:Tot y Q) (hi:∀ a b,P a->Q b->Φ a b):Rel x y Φ:=by
 obtain ⟨a,aR,cg⟩:=h;obtain ⟨b,av,dH⟩:=aJ;exact ⟨a,b,aR,av,hi a b cg dH⟩
theorem fst {x:Option α}{y:Option β}(h:Rel x y Φ):Tot x λa=>∃ b,y=some b/\Φ a b:=by
 obtain ⟨a,b,aR,av,nz⟩:=h;exact ⟨a,aR,b,av,nz⟩
theorem loop {f:S->Option (S ⊕ R)}{g:T->Option (T ⊕ Q)}{eL:S}{t0:T}{Ψ:R->Q->Prop}(Inv:S->T->Prop) (uW:S->Nat) (aO:Inv eL t0) (Jh:uW eL<fuel)
  (az:∀ s t,Inv s t->Rel (f s) (g t) (Lh (λcn t'=>Inv cn t'/\uW cn<uW s) Ψ)):Rel (b0 f eL) (b0 g t0) Ψ:=by
 have key:∀ n s t,Inv s t->uW s<n->Rel (iter f n s) (iter g n t) Ψ:=by
  intro n
  induction n with
  | zero=>intro s t _ h; omega
  | succ n aM =>
   intro s t bb hm;obtain ⟨x,y,j,al,cg⟩:=az s t bb;rcases x with cn | r <;> rcases y with t' | q
   ·obtain ⟨h1,af⟩:=cg;simp only [iter,j,al];exact aM cn t' h1 (by omega)
   ·exact cg.elim
   ·exact cg.elim
   ·simp only [iter,j,al];exact ⟨r,q,rfl,rfl,cg⟩
 exact key fuel eL t0 aO Jh
theorem upto {f:S->Option (S ⊕ R)}{g:T->Option (T ⊕ Q)}{eL:S}{t0:T}{Ψ:R->Q->Prop}(i:S->Int) (n:Nat) (Inv:Nat->S->T->Prop) (hi:i eL=0) (aA:n<=100000000000000000) (aO:Inv 0 eL t0)
  (az:∀ (k:Nat) (s:S) (t:T),k<=n->i s=(k:Int)->Inv k s t->Rel (f s) (g t) (Lh (λcn t'=>k<n/\i cn=((k+1:Nat):Int)/\Inv (k+1) cn t') Ψ)):Rel (b0 f eL) (b0 g t0) Ψ:=by
 refine loop (λs t=>∃ k:Nat,k<=n/\i s=(k:Int)/\Inv k s t) (λs=>(n - (i s).toNat)) ⟨0,Nat.zero_le _,hi,aO⟩ (by rw [hi]; show n - 0<1000000000000000000; omega) λs t ⟨k,hk,he,bb⟩=>(az k s t hk he bb).use λx y EH=>?_;rcases x with cn | r <;> rcases y with t' | q
 ·obtain ⟨h1,af,aK⟩:=EH;refine ⟨⟨k+1,by omega,af,aK⟩,?_⟩;show n - (i cn).toNat<n - (i s).toNat;rw [af,he]; omega
 ·exact EH
 ·exact EH
 ·exact EH
end Rel
end Go.Own

namespace Go.Proofs
open Go Go.Own
set_option maxRecDepth 100000
set_option linter.unusedVariables false
theorem t114 (c:Int):Tot (Cz c) λ_=>True:=by
 unfold Cz
 repeat' first | apply Tot.bi | refine Tot.bl (λ_=>?_) (λ_=>?_) | exact Tot.ag trivial | apply Tot.ag
theorem t96 (c:Int):Tot (vW c) λ_=>True:=by
 unfold vW
 repeat' first | apply Tot.bi | refine Tot.bl (λ_=>?_) (λ_=>?_) | exact Tot.ag trivial | apply Tot.ag
theorem t123 (c:Int):Tot (zM c) λ_=>True:=by
 unfold zM
 repeat' first | apply Tot.bi | refine Tot.bl (λ_=>?_) (λ_=>?_) | exact Tot.ag trivial | apply Tot.ag
theorem t122 (x:Sym):Tot (uC x) λr=>r=true->x.Name=⟨#[]⟩/\x.Lit=false:=by
 unfold uC;apply Tot.bi;refine Tot.ba (λh=>Tot.bl (λaf=>?_) (λaf=>?_)) (λh=>?_) <;> apply Tot.ag <;> apply Tot.ag
 ·exact λ_=>⟨h,by simpa using af⟩
 ·exact λh=>by cases h
 ·exact λh=>by cases h
abbrev dp:Nat:=1000000000000
theorem t95 (s:ByteArray) (h:s.size<=dp):Tot (vV s 0) λn=>0<=n/\n<=s.size:=by
 unfold vV;refine Tot.aq (Ξ:=λn=>0<=n/\n<=s.size) ?_ λa aR=>.ag aR;refine Tot.count (λi=>i) s.size (λi=>0<=i/\i<=s.size) ⟨by omega,by omega⟩ (by show (s.size:Int) - 0<_; simp only [dp] at h; omega) λi ⟨aO,h1⟩=>?_;simp only [dp] at h;have e:aH (0+i)=i:=by rw [ch]; omega
 rw [e];have go:∀ c:Bool,(c=true->i<s.size)->Tot (bif c then some (.inl (aH (i+1))) else some (.inr i)) (gN (λcn:Int=>(0<=cn/\cn<=s.size)/\i<cn/\cn<=s.size) (λr:Int=>0<=r/\r<=s.size)):=by
  intro c aa;refine Tot.bl (λaf=>.ag ?_) (λ_=>.ag ⟨aO,h1⟩);have:=aa af;have e:aH (i+1)=i+1:=by rw [ch]; omega
  show (0<=aH (i+1)/\aH (i+1)<=s.size)/\i<aH (i+1)/\aH (i+1)<=s.size;rw [e]; omega
 apply Tot.bi;refine Tot.ba (λaf=>?_) (λaf=>.ag (go false (by simp)));apply Tot.bi;refine Tot.jM ⟨aO,af⟩ (Tot.aq (t114 _) λc _=>?_);refine Tot.bl (λ_=>.ag (go _ λ_=>af)) (λ_=>Tot.bl (λ_=>?_) (λ_=>.ag (go _ λ_=>af)));apply Tot.bi;refine Tot.jM ⟨aO,af⟩ (Tot.aq (t96 _) λc _=>?_);refine Tot.bl (λ_=>.ag (go _ λ_=>af)) (λ_=>?_);apply Tot.bi;exact Tot.jM ⟨aO,af⟩ (.ag (go _ λ_=>af))
theorem t116 (s:ByteArray) (h:s.size<=dp):Tot (vP s) λr=>r=true->1<=s.size/\s.size<=20:=by
 unfold vP;apply Tot.bi;refine Tot.ba (λh1=>Tot.ba (λaf=>?_) (λaf=>?_)) (λh1=>?_)
 ·exact .aq (t95 s h) λn aA=>.ag (.ag λ_=>by omega)
 ·exact .ag (.ag λh=>by cases h)
 ·exact .ag (.ag λh=>by cases h)
theorem t94 (s:ByteArray) (i:Int) (t:ByteArray) (h:s.size<=dp) (aO:0<=i) (h1:i<=4 * dp) (ar:t.size<=dp):Tot (xS s i t) λr=>r=true->i+t.size<=s.size:=by
 unfold xS;simp only [dp] at *;apply Tot.bi;refine Tot.ba (λaf=>?_) (λaf=>.ag (.ag λh=>by cases h));apply Tot.bi;rw [ch] at af;have e:aH (i+t.size)=i+t.size:=by rw [ch]; omega
 refine Tot.cut (by rw [e]; omega) (.ag (.ag λ_=>by omega))
theorem t74 (s:ByteArray) (i:Int) (h:s.size<=dp) (aO:0<=i) (h1:i<s.size):Tot (zX s i) λr=>r<=s.size:=by
 unfold zX;have av:(s.size:Int)<=1000000000000:=by simp only [dp] at h; omega
 have cw:aH (i+1)=i+1:=by rw [ch]; omega
 have cd:aH (i+2)=i+2:=by rw [ch]; omega
 rw [cw,cd];have wZ:=Tot.jM (Φ:=λ_=>True) (s:=s) (m:=i) ⟨aO,h1⟩ trivial;refine Tot.aq (Ξ:=λ_=>True) ?_ λc _=>Tot.bl (λ_=>?_) (λ_=>?_)
 ·refine Tot.aq wZ λ_ _=>Tot.bl (λ_=>.ag trivial) (λ_=>Tot.aq wZ λ_ _=>.ag trivial)
 ·refine Tot.aq (Ξ:=gN (λ_=>True) (λr=>r<=s.size)) ?_ λx j=>?_
  ·refine Tot.count (λJ=>J) (s.size+1) (λJ=>0<=J) (by show (0:Int)<=i+1; omega) (by show (s.size:Int)+1 - (i+1)<_; omega) λJ aj=>?_;refine Tot.aq (Ξ:=λc=>c=true->J<s.size) ?_ λc aa=>Tot.bl (λaf=>?_) (λ_=>.ag trivial)
   ·refine Tot.ba (λaf=>?_) (λ_=>.ag λh=>by cases h);exact .aq (Ξ:=λ_=>True) (Tot.jM ⟨aj,af⟩ trivial) λ_ _=>.ag λ_=>af
   ·have VR:=aa af;have H9:=Tot.jM (Φ:=λ_=>True) (s:=s) (m:=J) ⟨aj,VR⟩ trivial;have fC:aH (J+1)=J+1:=by rw [ch]; omega
    have pk:aH (J+1+1)=J+1+1:=by rw [ch]; omega
    rw [fC,pk];refine .aq H9 λ_ _=>.aq wZ λ_ _=>Tot.bl (λ_=>.ag ?_) (λ_=>.aq H9 λ_ _=>Tot.bl (λ_=>?_) (λ_=>.ag ?_))
    ·show J+1<=s.size; omega
    ·refine Tot.aq (Ξ:=λ_=>True) ?_ λc _=>Tot.bl (λ_=>.ag ?_) (λ_=>.ag ?_)
     ·refine Tot.ba (λaK=>?_) (λ_=>.ag trivial);exact .aq (Ξ:=λ_=>True) (Tot.jM ⟨by omega,aK⟩ trivial) λ_ _=>.ag trivial
     ·show (-1:Int)<=s.size; omega
     ·show (0:Int)<=J+1+1/\J<J+1+1/\J+1+1<=s.size+1; omega
    ·show (0:Int)<=J+1/\J<J+1/\J+1<=s.size+1; omega
  ·rcases x with _ | r
   ·exact .ag (by show (-1:Int)<=s.size; omega)
   ·exact .ag j
 ·refine .aq wZ λ_ _=>Tot.bl (λ_=>?_) (λ_=>?_)
  ·refine Tot.aq (Ξ:=gN (λ_=>True) (λr=>r<=s.size)) ?_ λx j=>?_
   ·refine Tot.count (λJ=>J) (s.size+1) (λJ=>0<=J) (by show (0:Int)<=i+1; omega) (by show (s.size:Int)+1 - (i+1)<_; omega) λJ aj=>?_;refine Tot.ba (λaf=>?_) (λ_=>.ag trivial);have fC:aH (J+1)=J+1:=by rw [ch]; omega
    rw [fC];refine .aq (Ξ:=λ_=>True) (Tot.jM ⟨aj,af⟩ trivial) λ_ _=>Tot.bl (λ_=>.ag ?_) (λ_=>.ag ?_)
    ·show J+1<=s.size; omega
    ·show (0:Int)<=J+1/\J<J+1/\J+1<=s.size+1; omega
   ·rcases x with _ | r
    ·exact .ag (by show (-1:Int)<=s.size; omega)
    ·exact .ag j
  ·refine .aq (t94 s i _ h aO (by simp only [dp]; omega) (by decide)) λc _=>Tot.bl (λ_=>?_) (λ_=>?_)
   ·refine Tot.aq (Ξ:=λr=>r<=s.size) ?_ λx j=>.ag j;refine Tot.count (λJ=>J) s.size (λJ=>0<=J/\J<=s.size) ⟨aO,by omega⟩ (by show (s.size:Int) - i<_; omega) λJ aj=>?_;refine Tot.aq (Ξ:=λc=>c=true->J<s.size) ?_ λc aa=>Tot.bl (λaf=>?_) (λ_=>.ag aj.2)
    ·refine Tot.ba (λaf=>?_) (λ_=>.ag λh=>by cases h);exact .aq (Ξ:=λ_=>True) (Tot.jM ⟨aj.1,af⟩ trivial) λ_ _=>.ag λ_=>af
    ·have:=aa af;have fC:aH (J+1)=J+1:=by rw [ch]; omega
     rw [fC];exact .ag (by show ((0:Int)<=J+1/\J+1<=s.size)/\J<J+1/\J+1<=s.size; omega)
   ·refine .aq (t94 s i _ h aO (by simp only [dp]; omega) (by decide)) λc aa=>Tot.bl (λiL=>?_) (λ_=>.ag (by omega));refine Tot.aq (Ξ:=gN (λ_=>True) (λr=>r<=s.size)) ?_ λx j=>?_
    ·refine Tot.count (λJ=>J) (s.size+1) (λJ=>0<=J) (by show (0:Int)<=i+2; omega) (by show (s.size:Int)+1 - (i+2)<_; omega) λJ aj=>?_;refine Tot.ba (λaf=>?_) (λ_=>.ag trivial);have fC:aH (J+1)=J+1:=by rw [ch]; omega
     have pk:aH (J+2)=J+2:=by rw [ch]; omega
     rw [fC,pk];refine .aq (t94 s J _ h aj (by simp only [dp]; omega) (by decide)) λc aa=>Tot.bl (λw1=>.ag ?_) (λ_=>.ag ?_)
     ·have:=aa w1;have qL:(⟨#[42,47]⟩:ByteArray).size=2:=rfl;rw [qL] at this;show J+2<=s.size; omega
     ·show (0:Int)<=J+1/\J<J+1/\J+1<=s.size+1; omega
    ·rcases x with _ | r
     ·exact .ag (by show (-1:Int)<=s.size; omega)
     ·exact .ag j
theorem t73 (s:ByteArray) (h:s.size<=dp):Tot (xP s 0) λ_=>True:=by
 unfold xP;have av:(s.size:Int)<=1000000000000:=by simp only [dp] at h; omega
 refine Tot.aq (Ξ:=λ_=>True) ?_ λc _=>Tot.bl (λ_=>.ag trivial) (λ_=>?_)
 ·refine Tot.ba (λh=>.ag trivial) (λaO=>Tot.ba (λh=>.ag trivial) (λaf=>?_));exact .aq (Ξ:=λ_=>True) (Tot.jM (by omega) trivial) λ_ _=>.ag trivial
 ·refine Tot.aq (Ξ:=λ_=>True) ?_ λx _=>by rcases x with _ | r <;> exact .ag trivial
  refine Tot.count (λJ=>J.2) s.size (λJ=>0<=J.2/\J.2<=s.size) ⟨by show (0:Int)<=0; omega,by show (0:Int)<=s.size; omega⟩ (by show (s.size:Int) - 0<_; omega) λJ aj=>?_;refine Tot.ba (λaf=>?_) (λ_=>.ag trivial);refine .aq (t74 s J.2 h aj.1 af) λn aA=>Tot.ba (λ_=>.ag trivial) (λaK=>Tot.ba (λbu=>.ag ?_) (λbu=>?_))
  ·show ((0:Int)<=n/\n<=s.size)/\J.2<n/\n<=s.size; omega
  ·have wZ:=Tot.jM (Φ:=λ_=>True) (s:=s) (m:=J.2) ⟨aj.1,af⟩ trivial;have fC:aH (J.2+1)=J.2+1:=by rw [ch]; omega
   rw [fC];refine .aq wZ λ_ _=>.aq (Ξ:=λ_=>True) (Tot.bl (λ_=>.ag trivial) (λ_=>.ag trivial)) λ_ _=>.aq wZ λ_ _=>.aq (Ξ:=λ_=>True) (Tot.bl (λ_=>.ag trivial) (λ_=>.ag trivial)) λ_ _=>Tot.bl (λ_=>.ag trivial) (λ_=>.ag ?_);show ((0:Int)<=J.2+1/\J.2+1<=s.size)/\J.2<J.2+1/\J.2+1<=s.size; omega
def lO (x:Sym):Prop:=x.Lit=true->x.Name.size=1
structure Gi (d:Decl):Prop where
 tag:d.Tag.size<=1000
 n:d.ey.length<=1000
 syms:∀ x∈d.ey,x.Name.size<=dp
structure wi (a:Alt):Prop where
 n:a.Parts.length<=1000
 parts:∀ p∈a.Parts,p.Sym.Name.size<=dp/\p.Code.size<=1000
 prec:a.Prec.Name.size<=dp
structure Ln (r:fc):Prop where
 left:r.Left.size<=dp
 n:r.eJ.length<=1000
 alts:∀ a∈r.eJ,wi a
structure nU (s:Source):Prop where
 xU:s.b5.size<=dp
 y1:s.Decls.length<=1000
 decls:∀ d∈s.Decls,Gi d
 aE:s.dF.length<=1000
 rules:∀ r∈s.dF,Ln r
theorem t121 (x:Sym) (a b:Bool) (h:x.Name.size<=dp):Tot (uB x a b) λr=>r=true->lO x:=by
 unfold uB;refine Tot.bl (λai=>?_) (λai=>?_)
 ·refine Tot.aq (Ξ:=λc=>c=false->x.Name.size=1) ?_ λc aa=>Tot.bl (λ_=>.ag λh=>by cases h) (λaf=>?_)
  ·refine Tot.bl (λ_=>.ag λh=>by cases h) (λ_=>Tot.kE (λ_=>.ag λh=>by cases h) (λh1=>.ag λ_=>by omega))
  ·have h1:=aa af;refine .aq (Ξ:=λ_=>True) (Tot.jM (by omega) trivial) λ_ _=>.aq (t123 _) λ_ _=>.ag λ_ _=>h1
 ·have da:lO x:=λh=>by rw [ai] at h; cases h
  refine Tot.aq (Ξ:=λ_=>True) ?_ λc aa=>.ag λ_=>da;refine .aq (t116 _ h) λc _=>?_
  repeat' first | refine Tot.bl (λ_=>?_) (λ_=>?_) | exact Tot.ag trivial
theorem t115 (d:Decl) (h:Gi d):Tot (xE d) λr=>r=true->∀ x∈d.ey,lO x:=by
 unfold xE;refine Tot.aq (Ξ:=λ_=>True) ?_ λc _=>Tot.bl (λ_=>.ag λh=>by cases h) (λ_=>?_)
 ·have ar:=(t116 _ (Nat.le_trans h.tag (by decide))).use (Φ:=λ_=>True) λ_ _=>trivial
  repeat' first | refine Tot.bl (λ_=>?_) (λ_=>?_) | exact Tot.ag trivial | refine .aq ar λ_ _=>?_
 ·refine Tot.aq (Tot.scan d.ey (λx=>lO x) (λr=>r=false) (by have:=h.n; omega) (λs y aO h1 hi hm=>?_) (λs az=>by simp [az])) λx j=>?_
  ·refine Tot.ba (λ_=>?_) (λh=>absurd h1 h);rw [hi];refine Tot.sm ?_;refine .aq (t121 _ _ _ (h.syms _ hm)) λc aa=>Tot.bl (λ_=>.ag rfl) (λaf=>.ag ⟨?_,aa (by simpa using af)⟩);have:=h.n;rw [ch]; omega
  ·rcases x with _ | r
   ·exact .ag λ_=>j
   ·exact .ag λh=>by have:r=false:=j; rw [this] at h; cases h
theorem t117 (a:Alt) (h:wi a):Tot (xF a) λr=>r=true->(∀ p∈a.Parts,lO p.Sym)/\lO a.Prec:=by
 unfold xF;refine Tot.aq (Tot.scan a.Parts (λp=>lO p.Sym) (λr=>r=false) (by have:=h.n; omega) (λs y aO h1 hi hm=>?_) (λs az=>by simp [az])) λx j=>?_
 ·refine Tot.ba (λ_=>?_) (λh=>absurd h1 h);rw [hi];refine Tot.sm ?_;have au:=h.parts _ hm;have t1:=t121 y.Sym false true au.1;have t2:=t122 y.Sym;have Qg:=t73 y.Code (Nat.le_trans au.2 (by decide));have hw:aH (s+1)=s+1:=by have:=h.n; rw [ch]; omega
  rw [hw];have n118:(y.Sym.Name=⟨#[]⟩/\y.Sym.Lit=false)->lO y.Sym:=λh ai=>by rw [h.2] at ai; cases ai
  refine Tot.aq (Ξ:=λc=>c=false->lO y.Sym) ?_ λc aa=>Tot.bl (λ_=>.ag rfl) (λaf=>.ag ⟨rfl,aa af⟩);refine Tot.ba (λ_=>?_) (λcz=>?_)
  ·refine .aq t1 λc aa=>Tot.bl (λ_=>.ag λh=>by cases h) (λaf=>?_);have da:=aa (by simpa using af);refine Tot.bl (λ_=>?_) (λ_=>.ag λ_=>da);refine .aq t2 λc _=>Tot.bl (λ_=>.ag λ_=>da) (λ_=>?_);exact .aq Qg λ_ _=>.ag λ_=>da
  ·refine Tot.kE (λ_=>?_) (λh=>.ag λ_=>?_)
   ·refine .aq t2 λc aa=>Tot.bl (λ_=>.ag λh=>by cases h) (λaf=>?_);have da:=n118 (aa (by simpa using af));exact .aq Qg λ_ _=>.ag λ_=>da
   ·exact absurd h cz
 ·rcases x with _ | r
  ·have j:∀ p∈a.Parts,lO p.Sym:=j;refine Tot.aq (Ξ:=λc=>c=true->lO a.Prec) ?_ λc aa=>.ag λh=>⟨j,aa h⟩;refine .aq (t122 _) λc aa=>Tot.bl (λaf=>.ag λ_=>?_) (λ_=>.aq (t121 _ _ _ h.prec) λc aa=>.ag aa);intro ai; rw [(aa af).2] at ai; cases ai
  ·exact .ag λh=>by have:r=false:=j; rw [this] at h; cases h
structure Dt (a:Alt):Prop where
 parts:∀ p∈a.Parts,lO p.Sym
 prec:lO a.Prec
structure Lq (s:Source):Prop where
 decls:∀ d∈s.Decls,∀ x∈d.ey,lO x
 rules:∀ r∈s.dF,∀ a∈r.eJ,Dt a
 pos:0<s.dF.length
theorem t99 (s:Source) (h:nU s):Tot (xT s) λr=>r=true->Lq s:=by
 unfold xT;refine Tot.aq (Ξ:=gN (λ_=>True) (λr=>r=false)) ?_ λx j=>?_
 ·have au:(s.b5.size:Int)<=1000000000000:=by have:=h.xU; simp only [dp] at this; omega
  refine Tot.count (λJ=>J) s.b5.size (λJ=>0<=J/\J<=s.b5.size) ⟨by omega,by omega⟩ (by show (s.b5.size:Int) - 0<_; omega) λJ aj=>?_;have cw:aH (J+1)=J+1:=by rw [ch]; omega
  have cd:aH (J+2)=J+2:=by rw [ch]; omega
  rw [cw,cd];refine Tot.ba (λaf=>?_) (λ_=>.ag trivial);refine .aq (Ξ:=λ_=>True) (Tot.cut (by omega) trivial) λ_ _=>Tot.bl (λ_=>.ag rfl) (λ_=>.ag ?_);show ((0:Int)<=J+1/\J+1<=s.b5.size)/\J<J+1/\J+1<=s.b5.size; omega
 ·rcases x with _ | r
  ·refine Tot.aq (Tot.scan s.Decls (λd=>∀ x∈d.ey,lO x) (λr=>r=false) (by have:=h.y1; omega) (λi y aO h1 hi hm=>?_) (λs az=>by simp [az])) λx j=>?_
   ·refine Tot.ba (λ_=>?_) (λh=>absurd h1 h);rw [hi];refine Tot.sm ?_;refine .aq (t115 _ (h.decls _ hm)) λc aa=>Tot.bl (λ_=>.ag rfl) (λaf=>.ag ⟨?_,aa (by simpa using af)⟩);have:=h.y1;rw [ch]; omega
   ·rcases x with _ | r
    ·have j:∀ d∈s.Decls,∀ x∈d.ey,lO x:=j;refine Tot.aq (Tot.scan s.dF (λr=>∀ a∈r.eJ,Dt a) (λr=>r=false) (by have:=h.aE; omega) (λi y aO h1 hi hm=>?_) (λs az=>by simp [az])) λx kf=>?_
     ·refine Tot.ba (λ_=>?_) (λh=>absurd h1 h);rw [hi];refine Tot.sm ?_;have ah:=h.rules _ hm;have hw:aH (i+1)=i+1:=by have:=h.aE; rw [ch]; omega
      rw [hw];refine .aq (Ξ:=λ_=>True) (.aq (t116 _ ah.left) λc _=>Tot.bl (λ_=>.ag trivial) (λ_=>.ag trivial)) λc _=>Tot.bl (λ_=>.ag rfl) (λ_=>?_);refine Tot.aq (Tot.scan y.eJ Dt (λr=>r=false) (by have:=ah.n; omega) (λk a aO h1 hi hm=>?_) (λs az=>by simp [az])) λx jQ=>?_
      ·refine Tot.ba (λ_=>?_) (λh=>absurd h1 h);rw [hi];refine Tot.sm ?_;refine .aq (t117 _ (ah.alts _ hm)) λc aa=>Tot.bl (λ_=>.ag rfl) (λaf=>.ag ⟨?_,⟨(aa (by simpa using af)).1,(aa (by simpa using af)).2⟩⟩);have:=ah.n;rw [ch]; omega
      ·rcases x with _ | r
       ·exact .ag ⟨rfl,jQ⟩
       ·exact .ag jQ
     ·rcases x with _ | r
      ·exact .ag λh=>⟨j,kf,by have:=of_decide_eq_true h; omega⟩
      ·exact .ag λh=>by have:r=false:=kf; rw [this] at h; cases h
    ·exact .ag λh=>by have:r=false:=j; rw [this] at h; cases h
  ·exact .ag λh=>by have:r=false:=j; rw [this] at h; cases h
abbrev ek:=dh
structure qI (m bh:ek):Prop where
 g:bh.aC=m.aC
 gm:bh.cf=m.cf
 ty:bh.cv=m.cv
 fi:bh.bZ=m.bZ
 jV:bh.cc=m.cc
 hj:bh.bU=m.bU
theorem t101 (m:ek) (a:Int) (n:ByteArray):Tot (nN m a n) λbh=>qI m bh/\bh.cL≠0:=by
 unfold nN;apply Tot.bi;refine Tot.ba (λ_=>.ag (.ag ⟨⟨rfl,rfl,rfl,rfl,rfl,rfl⟩,?_⟩)) (λh=>.ag (.ag ⟨⟨rfl,rfl,rfl,rfl,rfl,rfl⟩,h⟩))
 grind
theorem t105 (m:ek) (n:ByteArray) (h:m.cv.length<=dp):Tot (zH m n) λr=>r=-1\/(0<=r/\r<m.cv.length):=by
 unfold zH;simp only [dp] at h;refine Tot.aq (Tot.scan m.cv (λ_=>True) (λr:Int=>0<=r/\r<m.cv.length) (by omega) (λs y aO h1 hi hm=>?_) (λs az=>by simp [az])) λx j=>?_
 ·refine Tot.ba (λ_=>?_) (λh=>absurd h1 h);rw [hi];refine Tot.sm ?_;refine Tot.bl (λ_=>.ag ⟨aO,h1⟩) (λ_=>.ag ⟨?_,trivial⟩)
  grind [ch]
 ·rcases x with _ | r
  ·exact .ag (.inl rfl)
  ·exact .ag (.inr j)
theorem t103 (m:ek) (n:ByteArray) (h:m.bZ.length<=dp):Tot (sX m n) λr=>(r=-1/\∀ x∈m.bZ,x≠n)\/(0<=r/\r<m.bZ.length/\m.bZ[r.toNat]?=some n):=by
 unfold sX;simp only [dp] at h;refine Tot.aq (Tot.scan m.bZ (λx=>x≠n) (λr:Int=>0<=r/\r<m.bZ.length/\m.bZ[r.toNat]?=some n) (by omega) (λs y aO h1 hi hm=>?_) (λs az=>by simp [az])) λx j=>?_
 ·refine Tot.ba (λ_=>?_) (λh=>absurd h1 h);rw [hi];refine Tot.sm ?_;refine Tot.ba (λe=>.ag ⟨aO,h1,by rw [<- e]; exact (r3 hi).2.2⟩) (λe=>.ag ⟨?_,e⟩)
  grind [ch]
 ·rcases x with _ | r
  ·exact .ag (.inl ⟨rfl,j⟩)
  ·exact .ag (.inr j)
theorem t102 (m:ek) (x:Sym) (h:m.aC.aZ.length<=dp):Tot (uA m x) λr=>r=-1\/(1<=r/\r<m.aC.aZ.length):=by
 unfold uA;simp only [dp] at h;refine Tot.aq (Ξ:=gN (λ_=>True) (λr=>1<=r/\r<m.aC.aZ.length)) ?_ λx j=>?_
 ·refine Tot.count (λJ=>J) m.aC.aZ.length (λJ=>1<=J) (by omega) (by show (m.aC.aZ.length:Int) - 1<_; omega) λJ aj=>?_;refine Tot.ba (λaf=>?_) (λ_=>.ag trivial);have e:aH (J+1)=J+1:=by rw [ch]; omega
  rw [e];refine .aq (Ξ:=λ_=>True) ?_ λc _=>Tot.bl (λ_=>.ag ⟨aj,af⟩) (λ_=>.ag ?_)
  ·refine .aq (Ξ:=λ_=>True) (Tot.gf (by omega) af λ_ _ _=>trivial) λ_ _=>Tot.bl (λ_=>?_) (λ_=>.ag trivial);exact .aq (Ξ:=λ_=>True) (Tot.gf (by omega) af λ_ _ _=>trivial) λ_ _=>Tot.bl (λ_=>.ag trivial) (λ_=>.ag trivial)
  grind
 ·rcases x with _ | r
  ·exact .ag (.inl rfl)
  ·exact .ag (.inr j)
theorem t119 (m:ek) (n:Int) (h:m.aC.aZ.length<=dp):Tot (vQ m n) λ_=>True:=by
 unfold vQ;simp only [dp] at h;refine Tot.aq (Ξ:=λ_=>True) ?_ λx j=>?_
 ·refine Tot.count (λJ=>J) m.aC.aZ.length (λJ=>1<=J) (by decide) (by show (m.aC.aZ.length:Int) - 3<_; omega) λJ aj=>?_;refine Tot.ba (λaf=>?_) (λ_=>.ag trivial);have e:aH (J+1)=J+1:=by rw [ch]; omega
  rw [e];refine .aq (Ξ:=λ_=>True) (Tot.gf (by omega) af λ_ _ _=>trivial) λc _=>Tot.bl (λ_=>.ag trivial) (λ_=>.ag ?_)
  grind
 ·rcases x with _ | r <;> exact .ag trivial
structure Grow (m bh:ek) (k:Nat):Prop where
 gm:bh.cf.length=bh.aC.aZ.length
 lo:m.aC.aZ.length<=bh.aC.aZ.length
 hi:bh.aC.aZ.length<=m.aC.aZ.length+k
 ty:bh.cv.length<=m.cv.length+k
 fi:bh.bZ=m.bZ
 gq:bh.aC.bd=m.aC.bd
 hj:bh.bU=m.bU
 lvl:bh.cc=m.cc
 jV:0<=m.cc->(∀ t∈m.aC.aZ,0<=t.Level)->∀ t∈bh.aC.aZ,0<=t.Level
theorem qI.grow {m bh:ek}(h:qI m bh) (aN:m.cf.length=m.aC.aZ.length) (k:Nat):Grow m bh k:=by
 obtain ⟨h1,af,aK,bu,cu,dM⟩:=h;exact ⟨by rw [h1,af]; exact aN,by rw [h1]; omega,by rw [h1]; omega,by rw [aK]; omega,bu,by rw [h1],dM,cu,by rw [h1]; exact λ_ h=>h⟩
theorem t118 (m:ek) (x:Sym) (aN:m.cf.length=m.aC.aZ.length) (h:m.aC.aZ.length<=100000000000) (j:lO x) :
  Tot (sZ m x) λr=>Grow m r.2 1/\0<=r.1/\r.1<r.2.aC.aZ.length:=by
 unfold sZ;refine .aq (t102 m x (by simp only [dp]; omega)) λt ar=>Tot.ba (λaO=>.ag ⟨⟨aN,Nat.le_refl _,Nat.le_succ _,Nat.le_succ _,rfl,rfl,rfl,rfl,λ_ h=>h⟩,aO,?_⟩) (λ_=>?_)
 ·grind
 ·refine Tot.aq (Ξ:=λJ=>qI m J.1) ?_ λJ aj=>?_
  ·refine Tot.bl (λai=>?_) (λ_=>.ag ⟨rfl,rfl,rfl,rfl,rfl,rfl⟩);have:=j ai;refine .aq (Ξ:=λ_=>True) (Tot.jM (by omega) trivial) λb _=>.aq (t119 m _ (by simp only [dp]; omega)) λo _=>?_;refine Tot.aq (Ξ:=λJ=>qI m J) ?_ λJ aj=>.ag aj;exact Tot.bl (λ_=>.aq (t101 m _ _) λbh hm=>.ag hm.1) (λ_=>.ag ⟨rfl,rfl,rfl,rfl,rfl,rfl⟩)
  ·obtain ⟨h1,af,aK,bu,cu,dM⟩:=aj;have aQ:J.1.aC.aZ.length=m.aC.aZ.length:=by rw [h1]
   have V4:J.1.cf.length=m.cf.length:=by rw [af]
   refine .aq (Ξ:=λ_=>True) (Tot.ap (by rw [aQ]; simp [lim]; omega) trivial) λ_ _=>.aq (Ξ:=λ_=>True) (Tot.ap (by rw [V4]; simp [lim]; omega) trivial) λ_ _=>.ag ?_;refine ⟨⟨?_,?_,?_,?_,bu,by show J.1.aC.bd=_; rw [h1],dM,cu,?_⟩,?_,?_⟩
   all_goals grind [ch]
structure nW (m bh:ek):Prop where
 tk:bh.aC.aZ.length=m.aC.aZ.length
 gm:bh.cf.length=m.cf.length
 ty:bh.cv=m.cv
 fi:bh.bZ=m.bZ
 gq:bh.aC.bd=m.aC.bd
 hj:bh.bU=m.bU
 lvl:bh.cc=m.cc
 jV:0<=m.cc->(∀ t∈m.aC.aZ,0<=t.Level)->∀ t∈bh.aC.aZ,0<=t.Level
theorem nW.refl (m:ek):nW m m:=⟨rfl,rfl,rfl,rfl,rfl,rfl,rfl,λ_ h=>h⟩
theorem nW.trans {m bh Cj:ek}(h:nW m bh) (aJ:nW bh Cj):nW m Cj:=⟨aJ.tk.trans h.tk,aJ.gm.trans h.gm,aJ.ty.trans h.ty,aJ.fi.trans h.fi,aJ.gq.trans h.gq,aJ.hj.trans h.hj,aJ.lvl.trans h.lvl,λaO ai=>aJ.jV (by rw [h.lvl]; exact aO) (h.jV aO ai)⟩
theorem qI.tk {m bh:ek}(h:qI m bh):nW m bh:=⟨by rw [h.g],by rw [h.gm],h.ty,h.fi,by rw [h.g],h.hj,h.jV,by rw [h.g]; exact λ_ h=>h⟩
theorem Grow.tk {m bh Cj:ek}{k:Nat}(h:Grow m bh k) (aJ:nW bh Cj):Grow m Cj k :=
 ⟨by rw [aJ.gm,aJ.tk]; exact h.gm,by rw [aJ.tk]; exact h.lo,by rw [aJ.tk]; exact h.hi,by rw [aJ.ty]; exact h.ty,aJ.fi.trans h.fi,aJ.gq.trans h.gq,aJ.hj.trans h.hj,aJ.lvl.trans h.lvl,λaO ai=>aJ.jV (by rw [h.lvl]; exact aO) (h.jV aO ai)⟩
theorem OA {α:Type}{l:List α}{i:Nat}{x y:α}(h:y∈l.set i x):y∈l\/y=x:=List.mem_or_eq_of_mem_set h
theorem t100 (m:ek) (d:Decl) (x:Sym) (aN:m.cf.length=m.aC.aZ.length) (h:m.aC.aZ.length<=100000000000) (ar:m.cv.length<=100000000000) (j:lO x) :
  Tot (sW m d x) λbh=>Grow m bh 1:=by
 unfold sW;refine Tot.bl (λ_=>?_) (λ_=>?_)
 ·refine .aq (t105 m x.Name (by simp only [dp]; omega)) λk hk=>Tot.aq (Ξ:=λbh=>Grow m bh 1) ?_ λbh hm=>.ag hm;refine Tot.ba (λ_=>?_) (λaO=>?_)
  ·refine .aq (Ξ:=λ_=>True) (Tot.ap (by simp [lim]; omega) trivial) λ_ _=>.ag ⟨aN,Nat.le_refl _,Nat.le_succ _,?_,rfl,rfl,rfl,rfl,λ_ h=>h⟩
   grind
  ·refine .aq (Ξ:=λ_=>True) (Tot.gf (by omega) (by omega) λ_ _ _=>trivial) λ_ _=>Tot.aq (Ξ:=λbh=>Grow m bh 1) ?_ λbh hm=>.ag hm;exact Tot.bl (λ_=>.aq (t101 m _ _) λbh hm=>.ag (hm.1.grow aN 1)) (λ_=>.ag ⟨aN,Nat.le_refl _,Nat.le_succ _,Nat.le_succ _,rfl,rfl,rfl,rfl,λ_ h=>h⟩)
 ·refine .aq (t118 m x aN h j) λr ⟨ah,aO,h1⟩=>?_;have gf:∀ {bh:ek},nW r.2 bh->Tot (idx bh.aC.aZ r.1) λy=>y∈bh.aC.aZ:=λhm=>Tot.gf aO (by rw [hm.tk]; exact h1) λ_ _ h=>h;have Od:∀ {bh:ek},nW r.2 bh->Tot (idx bh.cf r.1) λ_=>True:=λhm=>Tot.gf aO (by rw [hm.gm,ah.gm]; exact h1) λ_ _ _=>trivial;refine .aq (gf (.refl _)) λy _=>?_;refine Tot.aq (Ξ:=λbh=>nW r.2 bh) ?_ λet jk=>?_
  ·refine Tot.bl (λ_=>?_) (λ_=>.ag (.refl _));refine Tot.aq (Ξ:=λbh=>nW r.2 bh) ?_ λc3 oC=>?_
   ·exact Tot.bl (λ_=>.aq (t101 r.2 _ _) λbh hm=>.ag ⟨rfl,hm.1.tk.gm,hm.1.tk.ty,hm.1.tk.fi,hm.1.tk.gq,hm.1.tk.hj,hm.1.tk.lvl,λ_ h=>h⟩) (λ_=>.ag (.refl _))
   ·refine .aq (gf oC) λ_ _=>.ag (oC.trans ⟨?_,rfl,rfl,rfl,rfl,rfl,rfl,λai ar t bH=>?_⟩)
    ·grind
    grind
  ·refine .aq (gf jk) λ_ _=>?_;refine Tot.aq (Ξ:=λbh=>nW r.2 bh) ?_ λeS p6=>?_
   ·refine Tot.bl (λ_=>?_) (λ_=>.ag jk);refine .aq (Ξ:=λ_=>True) ?_ λc _=>?_
    ·refine Tot.bl (λ_=>.ag trivial) (λ_=>.aq (Od jk) λ_ _=>Tot.bl (λ_=>.ag trivial) (λ_=>.aq (t119 et _ ?_) λ_ _=>.ag trivial));have:=jk.tk;have:=ah.hi
     grind
    ·refine Tot.aq (Ξ:=λbh=>nW r.2 bh) ?_ λdQ mj=>?_
     ·exact Tot.bl (λ_=>.aq (t101 et _ _) λbh hm=>.ag (jk.trans ⟨rfl,hm.1.tk.gm,hm.1.tk.ty,hm.1.tk.fi,hm.1.tk.gq,hm.1.tk.hj,hm.1.tk.lvl,λ_ h=>h⟩)) (λ_=>.ag jk)
     ·refine .aq (gf mj) λy al=>.aq (Od mj) λ_ _=>.ag (mj.trans ⟨?_,?_,rfl,rfl,rfl,rfl,rfl,λai ar t bH=>?_⟩)
      all_goals grind
   ·refine .aq (gf p6) λ_ _=>?_;refine Tot.aq (Ξ:=λbh=>nW r.2 bh) ?_ λpz y7=>.ag (ah.tk y7);refine Tot.bl (λ_=>?_) (λ_=>.ag p6);refine .aq (Ξ:=λ_=>True) (Tot.bl (λ_=>.ag trivial) (λ_=>.ag trivial)) λc _=>?_;refine Tot.aq (Ξ:=λbh=>nW r.2 bh) ?_ λmA qM=>?_
    ·exact Tot.bl (λ_=>.aq (t101 eS _ _) λbh hm=>.ag (p6.trans ⟨rfl,hm.1.tk.gm,hm.1.tk.ty,hm.1.tk.fi,hm.1.tk.gq,hm.1.tk.hj,hm.1.tk.lvl,λ_ h=>h⟩)) (λ_=>.ag p6)
    ·refine .aq (gf qM) λy al=>.ag (qM.trans ⟨?_,rfl,rfl,rfl,rfl,rfl,rfl,λai ar t bH=>?_⟩)
     ·grind
     grind
def nV (T:Nat) (N:Int) (s:Int):Prop:=(0<=s/\s<T)\/(1000<=s/\s<=1000+N)
theorem nV.mono {T T':Nat}{N iU s:Int}(h:nV T N s) (dt:T<=T') (a_:N<=iU):nV T' iU s:=by
 rcases h with h | h
 ·exact .inl (by omega)
 ·exact .inr (by omega)
theorem t120 (m:ek) (x:Sym) (aN:m.cf.length=m.aC.aZ.length) (aK:3<=m.aC.aZ.length) (h:m.aC.aZ.length<=100000000000) (ai:m.bZ.length<=100000000000) (j:lO x) :
  Tot (q6 m x) λr=>Grow m r.2 1/\nV r.2.aC.aZ.length m.bZ.length r.1:=by
 unfold q6;have n3:Grow m m 1:=⟨aN,Nat.le_refl _,Nat.le_succ _,Nat.le_succ _,rfl,rfl,rfl,rfl,λ_ h=>h⟩;refine Tot.bl (λ_=>?_) (λ_=>?_)
 ·exact .aq (t118 m x aN h j) λr ⟨ah,aO,h1⟩=>.ag ⟨ah,.inl ⟨aO,h1⟩⟩
 ·refine .aq (t103 m x.Name (by simp only [dp]; omega)) λk hk=>Tot.ba (λaO=>.ag ⟨n3,.inr ?_⟩) (λ_=>?_)
  ·grind [ch]
  ·refine .aq (t102 m x (by simp only [dp]; omega)) λt ar=>Tot.ba (λ_=>?_) (λaO=>.ag ⟨n3,.inl ?_⟩)
   ·refine .aq (t101 m _ _) λbh hm=>.ag ⟨hm.1.grow aN 1,.inl ⟨Int.le_refl 0,?_⟩⟩;show (0:Int)<(bh.aC.aZ.length:Int);rw [hm.1.g];omega
   grind
theorem ZB (m:ek) (x:Sym) (aN:m.cf.length=m.aC.aZ.length) (aK:3<=m.aC.aZ.length) (h:m.aC.aZ.length<=100000000000) (ai:m.bZ.length<=100000000000) (j:lO x) (ar:x.Lit=true\/∀ y∈m.bZ,y≠x.Name) :
  Tot (q6 m x) λr=>Grow m r.2 1/\0<=r.1/\r.1<r.2.aC.aZ.length:=by
 unfold q6;have n3:Grow m m 1:=⟨aN,Nat.le_refl _,Nat.le_succ _,Nat.le_succ _,rfl,rfl,rfl,rfl,λ_ h=>h⟩;refine Tot.bl (λ_=>?_) (λkp=>?_)
 ·exact .aq (t118 m x aN h j) λr ⟨ah,aO,h1⟩=>.ag ⟨ah,aO,h1⟩
 ·have ar:∀ y∈m.bZ,y≠x.Name:=ar.resolve_left (by rw [kp]; decide);refine .aq (t103 m x.Name (by simp only [dp]; omega)) λk hk=>Tot.ba (λaO=>?_) (λ_=>?_)
  ·rcases hk with ⟨rfl,_⟩ | ⟨h1,af,aK⟩
   ·exact absurd aO (by decide)
   ·exact absurd rfl (ar _ (List.mem_of_getElem? aK))
  ·refine .aq (t102 m x (by simp only [dp]; omega)) λt ar=>Tot.ba (λ_=>?_) (λaO=>.ag ⟨n3,?_⟩)
   ·refine .aq (t101 m _ _) λbh hm=>.ag ⟨hm.1.grow aN 1,Int.le_refl 0,?_⟩;show (0:Int)<(bh.aC.aZ.length:Int);rw [hm.1.g]; omega
   ·show 0<=t/\t<(m.aC.aZ.length:Int);rcases ar with ar | ar <;> omega
structure AF (T:Nat) (N:Int) (p:Prod):Prop where
 left:0<=p.Left/\p.Left<=N
 right:∀ s∈p.e7,nV T N s
 prec:-1<=p.Prec/\p.Prec<T
 args:∀ s∈p.rv,nV T N s
 code:p.Code.size<=1000
theorem AF.mono {T T':Nat}{N iU:Int}{p:Prod}(h:AF T N p) (dt:T<=T') (a_:N<=iU):AF T' iU p :=
 ⟨⟨h.left.1,by have:=h.left.2; omega⟩,λs az=>(h.right s az).mono dt a_,⟨h.prec.1,by have:=h.prec.2; omega⟩,λs az=>(h.args s az).mono dt a_,h.code⟩
structure kX (m:ek) (T L I Q:Nat):Prop where
 gm:m.cf.length=m.aC.aZ.length
 lo:3<=m.aC.aZ.length
 hi:m.aC.aZ.length<=T
 ty:m.cv.length<=T
 fi:m.bZ.length=L
 hj:0<=m.bU/\m.bU<=I
 z8:m.aC.bd.length<=Q
 gq:∀ p∈m.aC.bd,AF m.aC.aZ.length (L+m.bU) p
 lvl:0<=m.cc
 jV:∀ t∈m.aC.aZ,0<=t.Level
theorem kX.mono {m:ek}{T L I Q T' I' Lm:Nat}(h:kX m T L I Q) (dt:T<=T') (bb:I<=I') (dH:Q<=Lm):kX m T' L I' Lm :=
 ⟨h.gm,h.lo,by have:=h.hi; omega,by have:=h.ty; omega,h.fi,⟨h.hj.1,by have:=h.hj.2; omega⟩,by have:=h.z8; omega,h.gq,h.lvl,h.jV⟩
theorem kX.grow {m bh:ek}{T L I Q k:Nat}(h:kX m T L I Q) (g:Grow m bh k):kX bh (T+k) L I Q :=
 ⟨g.gm,by have:=h.lo; have:=g.lo; omega,by have:=h.hi; have:=g.hi; omega,by have:=h.ty; have:=g.ty; omega,by rw [g.fi]; exact h.fi,by rw [g.hj]; exact h.hj,by rw [g.gq]; exact h.z8,
  by rw [g.gq,g.hj]; exact λp au=>(h.gq p au).mono g.lo (by omega),by rw [g.lvl]; exact h.lvl,g.jV h.lvl h.jV⟩
theorem t104 (m:ek) (left:ByteArray) (a:Alt) {T L I Q:Nat}(hm:kX m T L I Q) (dt:T<=10000000000) (ix:L<=10000000000) (bb:I<=10000000000) (dH:Q<=10000000000) (av:wi a) (da:Dt a) :
  Tot (sY m left a) λbh=>kX bh (T+1001) L (I+1000) (Q+1001)/\1<=bh.aC.bd.length:=by
 unfold sY;have aA:=av.n;refine .aq (t103 m left (by rw [hm.fi]; simp only [dp]; omega)) λaX jP=>?_;have adh:-1<=aX/\aX<L:=by rw [<- hm.fi]; rcases jP with h | h <;> omega
 refine Tot.aq (Ξ:=λaY=>kX aY.1 (T+1000) L (I+1000) (Q+1000)/\(∀ s∈aY.2.1,nV aY.1.aC.aZ.length (L+aY.1.bU) s)/\aY.2.1.length<=1000/\aY.2.2.1.size<=1000) ?_ λaY jQ=>?_
 ·refine Tot.count (λs=>s.2.2.2.2) a.Parts.length (λs=>0<=s.2.2.2.2/\s.2.2.2.2<=a.Parts.length/\kX s.1 (T+s.2.2.2.2.toNat) L (I+s.2.2.2.2.toNat) (Q+s.2.2.2.2.toNat)/\(∀ y∈s.2.1,nV s.1.aC.aZ.length (L+s.1.bU) y)/\s.2.1.length<=s.2.2.2.2.toNat/\s.2.2.1.size<=1000) ⟨by show (0:Int)<=0; omega,by show (0:Int)<=_; omega,hm,by simp,Nat.le_refl 0,Nat.zero_le _⟩ (by show (a.Parts.length:Int) - 0<_; omega) λs az=>?_;obtain ⟨m1,rt,bl,at_,i⟩:=s;obtain ⟨aO,h1,aj,ah,ai,zc⟩:=az;simp only at aO h1 aj ah ai zc ⊢;have hw:aH (i+1)=i+1:=by rw [ch]; omega
  have cw:(i+1).toNat=i.toNat+1:=by omega
  refine Tot.ba (λaQ=>?_) (λ_=>.ag ⟨aj.mono (by omega) (by omega) (by omega),ah,by show rt.length<=1000; omega,zc⟩);refine Tot.aq (Ξ:=λJ=>kX J.1 (T+(i.toNat+1)) L (I+(i.toNat+1)) (Q+(i.toNat+1))/\(∀ y∈J.2.1,nV J.1.aC.aZ.length (L+J.1.bU) y)/\J.2.1.length<=i.toNat+1/\J.2.2.1.size<=1000) ?_ λJ zg=>?_
  ·refine Tot.aq (Tot.gf (Φ:=λy=>y∈a.Parts) aO aQ λy _ al=>al) λy al=>?_;refine Tot.aq (Ξ:=λJ=>kX J.1 (T+(i.toNat+1)) L (I+(i.toNat+1)) (Q+(i.toNat+1))/\(∀ y∈J.2.1,nV J.1.aC.aZ.length (L+J.1.bU) y)/\J.2.1.length<=i.toNat+1/\J.2.2.1.size<=1000) ?_ λJ Ir=>.ag Ir;refine Tot.aq (Ξ:=λJ=>kX J.1 (T+(i.toNat+1)) L (I+(i.toNat+1)) (Q+(i.toNat+1))/\(∀ y∈J.2.1,nV J.1.aC.aZ.length (L+J.1.bU) y)/\J.2.1.length<=i.toNat+1/\J.2.2.1.size<=1000) ?_ λJ Ir=>.ag Ir;refine Tot.bl (λ_=>?_) (λ_=>?_)
   ·have bH:=aj.hi;refine .aq (t120 m1 y.Sym aj.gm aj.lo (by omega) (by rw [aj.fi]; omega) (da.parts y al)) λr ⟨aN,NR⟩=>?_;refine .aq (Ξ:=λ_=>True) (Tot.ap (by simp [lim]; omega) trivial) λ_ _=>.ag ⟨(aj.grow aN).mono (by omega) (by omega) (by omega),λz aW=>?_,by simp; omega,zc⟩;rcases List.mem_append.1 aW with aW | aW
    ·exact (ah z aW).mono aN.lo (by show (L:Int)+m1.bU<=L+r.2.bU; rw [aN.hj]; omega)
    ·rw [List.mem_singleton.1 aW];rw [aj.fi] at NR;exact NR.mono (Nat.le_refl _) (by show (L:Int)<=L+r.2.bU; rw [aN.hj]; have:=aj.hj.1; omega)
   ·refine Tot.aq (Ξ:=λJ=>kX (⟨(⟨m1.aC.aZ,m1.aC.bX,J.1,m1.aC.b5,m1.aC.b'⟩:bs),m1.cf,m1.cv,m1.bZ,m1.cL,m1.dc,m1.c_,m1.cc,J.2.1⟩:dh) (T+(i.toNat+1)) L (I+(i.toNat+1)) (Q+(i.toNat+1))/\(∀ y∈J.2.2.1,nV m1.aC.aZ.length (L+J.2.1) y)/\J.2.2.1.length<=i.toNat+1/\J.2.2.2.1.size<=1000) ?_ λJ VS=>.ag VS;refine Tot.bl (λ_=>.ag ⟨⟨aj.gm,aj.lo,by have:=aj.hi; show m1.aC.aZ.length<=_; omega,by have:=aj.ty; show m1.cv.length<=_; omega,aj.fi,⟨aj.hj.1,by have:=aj.hj.2; show m1.bU<=_; omega⟩,by have:=aj.z8; show m1.aC.bd.length<=_; omega,aj.gq,aj.lvl,aj.jV⟩,ah,by show rt.length<=_; omega,(av.parts y al).2⟩) (λ_=>?_);have ze:=aj.hj;have vk:=aj.fi;have w_:=aj.z8;have gL:aH (m1.bU+1)=m1.bU+1:=by rw [ch]; omega
    have fw:aH (((m1.bZ.length:Int))+(m1.bU+1))=L+(m1.bU+1):=by rw [ch,vk]; omega
    have wc:aH (1000+(m1.bZ.length:Int))=1000+L:=by rw [ch,vk]; omega
    have we:aH (1000+(L:Int)+(m1.bU+1))=1000+(L:Int)+(m1.bU+1):=by rw [ch]; omega
    rw [gL,fw,wc,we];refine .aq (Ξ:=λ_=>True) (Tot.ap (by simp [lim]; omega) trivial) λ_ _=>.aq (Ξ:=λ_=>True) (Tot.ap (by simp [lim]; omega) trivial) λ_ _=>.aq (Ξ:=λ_=>True) (Tot.ap (by simp [lim]; omega) trivial) λ_ _=>.ag ⟨⟨aj.gm,aj.lo,?_,?_,aj.fi,?_,?_,?_,aj.lvl,aj.jV⟩,?_,?_,zc⟩
    ·have:=aj.hi; show m1.aC.aZ.length<=_; omega
    ·have:=aj.ty; show m1.cv.length<=_; omega
    ·show 0<=m1.bU+1/\m1.bU+1<=((I+(i.toNat+1):Nat):Int); omega
    ·show (m1.aC.bd++[_]).length<=_; simp; omega
    ·intro p au;rcases List.mem_append.1 au with au | au
     ·exact (aj.gq p au).mono (Nat.le_refl _) (by show (L:Int)+m1.bU<=L+(m1.bU+1); omega)
     ·rw [List.mem_singleton.1 au];refine ⟨?_,by simp,?_,λz aW=>(ah z (by simpa using aW)).mono (Nat.le_refl _) (by show (L:Int)+m1.bU<=L+(m1.bU+1); omega),(av.parts y al).2⟩
      ·show 0<=(L:Int)+(m1.bU+1)/\(L:Int)+(m1.bU+1)<=L+(m1.bU+1); omega
      ·have:=aj.lo; show (-1:Int)<=-1/\(-1:Int)<(m1.aC.aZ.length:Int); omega
    ·intro z aW;rcases List.mem_append.1 aW with aW | aW
     ·exact (ah z aW).mono (Nat.le_refl _) (by show (L:Int)+m1.bU<=L+(m1.bU+1); omega)
     ·rw [List.mem_singleton.1 aW];exact .inr (by show 1000<=1000+(L:Int)+(m1.bU+1)/\1000+(L:Int)+(m1.bU+1)<=1000+((L:Int)+(m1.bU+1)); omega)
    ·show (rt++[_]).length<=_; simp; omega
  ·rw [hw];refine .ag ⟨⟨?_,?_,?_,zg.2.1,?_,zg.2.2.2⟩,?_,?_⟩
   ·show (0:Int)<=i+1; omega
   ·show i+1<=(a.Parts.length:Int); omega
   ·show kX J.1 (T+(i+1).toNat) L (I+(i+1).toNat) (Q+(i+1).toNat);rw [cw]; exact zg.1
   ·show J.2.1.length<=(i+1).toNat;rw [cw]; exact zg.2.2.1
   ·show i<i+1; omega
   ·show i+1<=(a.Parts.length:Int); omega
 ·obtain ⟨aj,ah,ai,zc⟩:=jQ;have lF:=aj.lo;have ze:=aj.hj;refine Tot.aq (Ξ:=λp=>-1<=p/\p<(aY.1.aC.aZ.length:Int)) ?_ λgq zm=>?_
  ·refine Tot.count (λs=>s.2) aY.2.1.length (λs=>0<=s.2/\s.2<=aY.2.1.length/\-1<=s.1/\s.1<(aY.1.aC.aZ.length:Int)) ⟨by show (0:Int)<=0; omega,by show (0:Int)<=_; omega,by show (-1:Int)<=-1; omega,by show (-1:Int)<_; omega⟩ (by show (aY.2.1.length:Int) - 0<_; omega) λs az=>?_;obtain ⟨aO,h1,af,aK⟩:=az;have hw:aH (s.2+1)=s.2+1:=by rw [ch]; omega
   rw [hw];refine Tot.ba (λaQ=>?_) (λ_=>.ag ⟨af,aK⟩);refine Tot.aq (Ξ:=λp=>-1<=p/\p<(aY.1.aC.aZ.length:Int)) ?_ λp au=>.ag ⟨⟨?_,?_,au.1,au.2⟩,?_,?_⟩
   ·refine .aq (Tot.gf (Φ:=λy=>idx aY.2.1 s.2=some y/\y∈aY.2.1) aO aQ λy h1 af=>⟨h1,af⟩) λy al=>?_;refine .aq (Ξ:=λp=>-1<=p/\p<(aY.1.aC.aZ.length:Int)) ?_ λp au=>.ag au;refine Tot.ba (λaQ=>?_) (λ_=>.ag ⟨af,aK⟩);rw [al.1];refine Tot.sm (.ag ?_);rcases ah y al.2 with h | h
    ·omega
    ·omega
   ·show (0:Int)<=s.2+1; omega
   ·show s.2+1<=(aY.2.1.length:Int); omega
   ·show s.2<s.2+1; omega
   ·show s.2+1<=(aY.2.1.length:Int); omega
  ·refine Tot.aq (Ξ:=λJ=>Grow aY.1 J.1 1/\-1<=J.2/\J.2<(J.1.aC.aZ.length:Int)) ?_ λJ zf=>?_
   ·have n3:Grow aY.1 aY.1 1:=⟨aj.gm,Nat.le_refl _,Nat.le_succ _,Nat.le_succ _,rfl,rfl,rfl,rfl,λ_ h=>h⟩;refine Tot.bl (λ_=>?_) (λ_=>.ag ⟨n3,zm⟩);refine Tot.aq (Ξ:=λc=>c=true->a.Prec.Lit=true\/∀ y∈aY.1.bZ,y≠a.Prec.Name) ?_ λc aa=>?_
    ·refine Tot.bl (λh=>.ag λ_=>.inl h) (λ_=>?_);refine .aq (t103 aY.1 a.Prec.Name (by rw [aj.fi]; simp only [dp]; omega)) λk hk=>.ag λaQ=>?_;have aQ:=of_decide_eq_true aQ;rcases hk with ⟨_,h⟩ | h
     ·exact .inr h
     ·omega
    ·refine Tot.aq (Ξ:=λJ=>Grow aY.1 J.1 1/\-1<=J.2/\J.2<(J.1.aC.aZ.length:Int)) ?_ λJ aj=>.ag aj;have bH:=aj.hi;refine Tot.bl (λh=>?_) (λ_=>?_)
     ·refine .aq (ZB aY.1 a.Prec aj.gm aj.lo (by omega) (by rw [aj.fi]; omega) da.prec (aa h)) λr ah=>.ag ⟨ah.1,?_,ah.2.2⟩;have:=ah.2.1; show -1<=r.1; omega
     ·refine .aq (t101 aY.1 _ _) λbh gT=>.ag ⟨gT.1.grow aj.gm 1,by show (-1:Int)<=-1; omega,?_⟩;show (-1:Int)<(bh.aC.aZ.length:Int); omega
   ·have gT:=aj.grow zf.1;have w_:=gT.z8;refine .aq (Ξ:=λ_=>True) (Tot.ap (by simp [lim]; omega) trivial) λ_ _=>.aq (Ξ:=λ_=>True) (Tot.ap (by simp [lim]; omega) trivial) λ_ _=>.ag ⟨⟨gT.gm,gT.lo,?_,?_,gT.fi,⟨gT.hj.1,?_⟩,?_,?_,gT.lvl,gT.jV⟩,by simp⟩
    ·have:=gT.hi; show J.1.aC.aZ.length<=_; omega
    ·have:=gT.ty; show J.1.cv.length<=_; omega
    ·have:=gT.hj.2; show J.1.bU<=_; omega
    ·show (J.1.aC.bd++[_]).length<=_; simp; omega
    ·intro p au;rcases List.mem_append.1 au with au | au
     ·exact gT.gq p au
     ·rw [List.mem_singleton.1 au];have acV:=gT.hj;refine ⟨?_,λz aW=>?_,zf.2,λz aW=>(ah z (by simpa using aW)).mono zf.1.lo (by show (L:Int)+aY.1.bU<=L+J.1.bU; rw [zf.1.hj]; omega),zc⟩
      ·show 0<=aH (1+aX)/\aH (1+aX)<=(L:Int)+J.1.bU;rw [ch]; omega
      ·exact (ah z aW).mono zf.1.lo (by show (L:Int)+aY.1.bU<=L+J.1.bU; rw [zf.1.hj]; omega)
theorem Ky (l:List Int):(strOfNums l).size=l.length:=strOfNums_size ..
theorem t18 (n:Int) (aO:0<=n) (h1:n<=1000000000000):Tot (pG n) λs=>s.size<=2000000000000:=by
 unfold pG;have hu:IntKind.u64.wrap n=n:=by rw [IntKind.wrap_u64]; omega
 refine Tot.aq (Ξ:=λJ=>J=n) (Tot.ba (λh=>absurd h (by omega)) (λ_=>.ag hu)) λJ aj=>?_;subst aj;refine Tot.aq (Ξ:=λs=>s.size<=1000000000001) ?_ λs az=>Tot.ba (λh=>absurd h (by omega)) (λ_=>.ag (by omega));refine Tot.loop (λs=>0<=s.1/\s.1+s.2.size<=1000000000000+1/\(s.2.size=0->s.1<=1000000000000)) (λs=>s.1.toNat+(if s.2.size=0 then 1 else 0)) ⟨aO,by show J+((0:Nat):Int)<=_; omega,λ_=>h1⟩ (by show J.toNat+(if (0:Nat)=0 then 1 else 0)<1000000000000000000; simp; omega) λs az=>?_
 obtain ⟨m,t⟩:=s;obtain ⟨g0,g1,g2⟩:=az;simp only at g0 g1 g2 ⊢;refine Tot.aq (Ξ:=λc=>c=true->0<m\/t.size=0) ?_ λc aa=>Tot.bl (λiL=>?_) (λ_=>.ag ?_)
 ·refine Tot.ba (λh=>.ag λ_=>.inl h) (λ_=>.ag λh=>.inr ?_);have:=of_decide_eq_true h;rw [this]; rfl
 ·have aa:=aa iL;refine .aq (Ξ:=λx=>x=m.tmod 10) (Tot.pJ (by decide) rfl) λx j=>?_;refine .aq (Ξ:=λy=>y.size=t.size+1) (Tot.cat ?_ ?_) λy al=>.aq (Ξ:=λz=>z=m / 10) (Tot.pI (by decide) ?_) λz aW=>.ag ?_
  ·rw [Ky]; simp; omega
  ·rw [ByteArray.size_append,Ky]; simp; omega
  ·rw [Int.tdiv_eq_ediv_of_nonneg g0,IntKind.wrap_u64]; omega
  ·subst aW;refine ⟨⟨?_,?_,?_⟩,?_⟩
   ·show 0<=m / 10; omega
   ·show m / 10+(y.size:Int)<=_; rw [al]; omega
   ·intro h; have h:y.size=0:=h; omega
   ·show (m / 10).toNat+(if y.size=0 then 1 else 0)<m.toNat+(if t.size=0 then 1 else 0);rw [if_neg (by omega)]
    split <;> omega
 ·show t.size<=1000000000001; omega
structure gi (g:bs):Prop where
 jZ:3<=g.aZ.length/\g.aZ.length<=40
 dk:1<=g.bX.length/\g.bX.length<=24
 hV:1<=g.bd.length/\g.bd.length<=60
 gq:∀ p∈g.bd,AF g.aZ.length (g.bX.length - 1) p
 aE:∀ p∈g.bd,p.e7.length<=8
 jV:∀ t∈g.aZ,0<=t.Level
structure iF (m:ek) (T L:Nat):Prop where
 gm:m.cf.length=m.aC.aZ.length
 lo:3<=m.aC.aZ.length
 hi:m.aC.aZ.length<=3+T
 ty:m.cv.length<=T
 fi:m.bZ.length<=L
 gq:m.aC.bd=[]
 hj:m.bU=0
 lvl:0<=m.cc
 jV:∀ t∈m.aC.aZ,0<=t.Level
theorem iF.mono {m:ek}{T L T' hQ:Nat}(h:iF m T L) (dt:T<=T') (ix:L<=hQ):iF m T' hQ :=
 ⟨h.gm,h.lo,by have:=h.hi; omega,by have:=h.ty; omega,by have:=h.fi; omega,h.gq,h.hj,h.lvl,h.jV⟩
theorem iF.grow {m bh:ek}{T L k:Nat}(h:iF m T L) (g:Grow m bh k):iF bh (T+k) L :=
 ⟨g.gm,by have:=h.lo; have:=g.lo; omega,by have:=h.hi; have:=g.hi; omega,by have:=h.ty; have:=g.ty; omega,by rw [g.fi]; exact h.fi,g.gq.trans h.gq,g.hj.trans h.hj,by rw [g.lvl]; exact h.lvl,g.jV h.lvl h.jV⟩
theorem iF.same {m bh:ek}{T L:Nat}(h:iF m T L) (g:qI m bh):iF bh T L:=by
 have:=h.grow (g.grow h.gm 0);exact this
theorem iF.XL {m:ek}{T L:Nat}(h:iF m T L):kX m (3+T) m.bZ.length 0 0 :=
 ⟨h.gm,h.lo,h.hi,by have:=h.ty; omega,rfl,by rw [h.hj]; decide,by rw [h.gq]; exact Nat.le_refl 0,by rw [h.gq]; exact λp au=>absurd au (by simp),h.lvl,h.jV⟩
theorem t81 (s:Source) (av:nU s):Tot (s5 s) λr=>r.2.1=0->gi r.1:=by
 unfold s5;refine .aq (t99 s av) λc aa=>Tot.bl (λ_=>.ag λh=>absurd h (by decide)) (λiL=>?_);have ok:Lq s:=aa (by simpa using iL);refine .aq (Tot.mk (by decide) (rfl:List.replicate (3:Int).toNat false=List.replicate (3:Int).toNat false)) λaY jQ=>?_;have VD:=av.y1;have BM:=av.aE
 -- declarations
 refine Tot.aq (Ξ:=λr=>iF r.1 (1001 * 1000) 0) ?_ λbF cu=>?_
 ·refine Tot.count (λz=>z.2.2) s.Decls.length (λz=>0<=z.2.2/\z.2.2<=s.Decls.length/\iF z.1 (1001 * z.2.2.toNat) 0/\z.1.cc<=z.2.2) ⟨Int.le_refl 0,by show (0:Int)<=_; omega,⟨by show aY.length=3; rw [<- jQ]; rfl,Nat.le_refl 3,Nat.le_refl 3,Nat.le_refl 0,Nat.le_refl 0,rfl,rfl,Int.le_refl 0,by show ∀ t∈[_,_,_],0<=Tok.Level t; simp⟩,Int.le_refl 0⟩ (by show (s.Decls.length:Int) - 0<_; omega) λz aW=>?_;obtain ⟨m,st,i⟩:=z;obtain ⟨aO,h1,hm,oJ⟩:=aW;simp only at aO h1 hm oJ ⊢;have hw:aH (i+1)=i+1:=by rw [ch]; omega
  rw [hw];have zj:=hm.lvl;refine Tot.ba (λaQ=>?_) (λ_=>.ag (hm.mono (by omega) (Nat.le_refl _)));refine .aq (Tot.gf (Φ:=λy=>y∈s.Decls) aO aQ λy _ al=>al) λd aP=>?_;have iK:=av.decls d aP;have El:=iK.n;refine .aq (Ξ:=λ_=>True) (Tot.bl (λ_=>.ag trivial) (λ_=>.ag trivial)) λhI _=>.aq (Ξ:=λJ=>0<=J/\J<=i+1) (Tot.bl (λ_=>.ag (by rw [ch]; omega)) (λ_=>.ag (by omega))) λja y6=>?_;refine Tot.aq (Ξ:=λr=>iF r.1 (1001 * i.toNat+1000) 0/\r.1.cc<=i+1) ?_ λec oC=>.ag ⟨⟨?_,?_,?_,?_⟩,?_,?_⟩
  ·refine Tot.count (λz=>z.2.2) d.ey.length (λz=>0<=z.2.2/\z.2.2<=d.ey.length/\iF z.1 (1001 * i.toNat+z.2.2.toNat) 0/\z.1.cc<=i+1) ⟨Int.le_refl 0,by show (0:Int)<=_; omega,⟨hm.gm,hm.lo,hm.hi,hm.ty,hm.fi,hm.gq,hm.hj,y6.1,hm.jV⟩,y6.2⟩ (by show (d.ey.length:Int) - 0<_; omega) λz aW=>?_;obtain ⟨m,st,k⟩:=z;obtain ⟨g0,g1,hm,oJ⟩:=aW;simp only at g0 g1 hm oJ ⊢;have qd:aH (k+1)=k+1:=by rw [ch]; omega
   rw [qd];refine Tot.ba (λud=>?_) (λ_=>.ag ⟨hm.mono (by omega) (Nat.le_refl _),oJ⟩);have EP:Tot (idx d.ey k) λy=>y∈d.ey:=Tot.gf g0 ud λy _ al=>al;refine Tot.aq (Ξ:=λJ=>iF J.1 (1001 * i.toNat+k.toNat+1) 0/\J.1.cc<=i+1) ?_ λJ aj=>.ag ⟨⟨?_,?_,?_,aj.2⟩,?_,?_⟩
   ·refine Tot.bl (λ_=>?_) (λ_=>?_)
    ·refine .aq EP λx j=>.aq (t100 m d x hm.gm (by have:=hm.hi; omega) (by have:=hm.ty; omega) (ok.decls d aP x j)) λbh aN=>.ag ⟨hm.grow aN,by show bh.cc<=_; rw [aN.lvl]; exact oJ⟩
    ·refine Tot.aq (Ξ:=λJ=>iF J (1001 * i.toNat+k.toNat+1) 0/\J.cc<=i+1) ?_ λJ aj=>.aq EP λ_ _=>.ag aj;refine Tot.bl (λ_=>?_) (λ_=>.ag ⟨hm.mono (by omega) (Nat.le_refl _),oJ⟩);exact .aq EP λ_ _=>.aq EP λ_ _=>.aq (t101 m _ _) λbh gT=>.ag ⟨(hm.same gT.1).mono (by omega) (Nat.le_refl _),by rw [gT.1.jV]; exact oJ⟩
   ·show 0<=k+1; omega
   ·show k+1<=(d.ey.length:Int); omega
   ·show iF J.1 (1001 * i.toNat+(k+1).toNat) 0;exact aj.1.mono (by omega) (Nat.le_refl _)
   ·show k<k+1; omega
   ·show k+1<=(d.ey.length:Int); omega
  ·show 0<=i+1; omega
  ·show i+1<=(s.Decls.length:Int); omega
  ·show iF ec.1 (1001 * (i+1).toNat) 0;exact oC.1.mono (by omega) (Nat.le_refl _)
  ·exact oC.2
  ·show i<i+1; omega
  ·show i+1<=(s.Decls.length:Int); omega
 -- what stands on the left
 refine Tot.aq (Ξ:=λr=>iF r (1001 * 1000) 1000) ?_ λcE A9=>?_
 ·refine Tot.count (λz=>z.2) s.dF.length (λz=>0<=z.2/\z.2<=s.dF.length/\iF z.1 (1001 * 1000) z.2.toNat) ⟨Int.le_refl 0,by show (0:Int)<=_; omega,cu⟩ (by show (s.dF.length:Int) - 0<_; omega) λz aW=>?_;obtain ⟨m,i⟩:=z;obtain ⟨aO,h1,hm⟩:=aW;simp only at aO h1 hm ⊢;have hw:aH (i+1)=i+1:=by rw [ch]; omega
  rw [hw];refine Tot.ba (λaQ=>?_) (λ_=>.ag (hm.mono (Nat.le_refl _) (by omega)));have vh:=hm.hi;have vk:=hm.fi;refine Tot.aq (Ξ:=λJ=>iF J (1001 * 1000) (i.toNat+1)) ?_ λJ aj=>.ag ⟨⟨?_,?_,?_⟩,?_,?_⟩
  ·refine .aq (Tot.gf (Φ:=λ_=>True) aO aQ λy _ al=>trivial) λr ah=>.aq (t102 m _ (by simp only [dp]; omega)) λt _=>?_;refine Tot.aq (Ξ:=λJ=>iF J (1001 * 1000) i.toNat) ?_ λiC lB=>?_
   ·exact Tot.bl (λ_=>.aq (t101 m _ _) λbh gT=>.ag (hm.same gT.1)) (λ_=>.ag hm)
   ·have ac1:=lB.fi;refine .aq (t103 iC _ (by simp only [dp]; omega)) λk _=>?_;refine Tot.aq (Ξ:=λl=>l.length<=i.toNat+1) ?_ λl ai=>.ag ⟨lB.gm,lB.lo,lB.hi,lB.ty,ai,lB.gq,lB.hj,lB.lvl,lB.jV⟩;refine Tot.bl (λ_=>?_) (λ_=>.ag (by omega));exact .aq (Ξ:=λ_=>True) (Tot.ap (by simp [lim]; omega) trivial) λ_ _=>.ag (by simp; omega)
  ·show 0<=i+1; omega
  ·show i+1<=(s.dF.length:Int); omega
  ·show iF J (1001 * 1000) (i+1).toNat;exact aj.mono (Nat.le_refl _) (by omega)
  ·show i<i+1; omega
  ·show i+1<=(s.dF.length:Int); omega
 -- types and starts
 refine Tot.aq (Ξ:=λr=>iF r (1001 * 1000) 1000) ?_ λgM qN=>?_
 ·refine Tot.count (λz=>z.2) s.Decls.length (λz=>0<=z.2/\z.2<=s.Decls.length/\iF z.1 (1001 * 1000) 1000) ⟨Int.le_refl 0,by show (0:Int)<=_; omega,A9⟩ (by show (s.Decls.length:Int) - 0<_; omega) λz aW=>?_;obtain ⟨m,i⟩:=z;obtain ⟨aO,h1,hm⟩:=aW;simp only at aO h1 hm ⊢;have hw:aH (i+1)=i+1:=by rw [ch]; omega
  rw [hw];refine Tot.ba (λaQ=>?_) (λ_=>.ag hm);refine Tot.aq (Ξ:=λr=>iF r (1001 * 1000) 1000) ?_ λl7 T8=>.ag ⟨⟨?_,?_,T8⟩,?_,?_⟩
  ·have jO:i.toNat<s.Decls.length:=by omega
   have hi:idx s.Decls i=some s.Decls[i.toNat]:=by simp [idx,aO,jO]
   rw [hi];generalize aP:s.Decls[i.toNat]=d;have jo:d∈s.Decls:=by rw [<- aP]; exact List.getElem_mem jO
   have El:=(av.decls d jo).n;refine Tot.count (λz=>z.2) d.ey.length (λz=>0<=z.2/\z.2<=d.ey.length/\iF z.1 (1001 * 1000) 1000) ⟨Int.le_refl 0,by show (0:Int)<=_; omega,hm⟩ (by show (d.ey.length:Int) - 0<_; omega) λz aW=>?_;obtain ⟨m,k⟩:=z;obtain ⟨g0,g1,hm⟩:=aW;simp only at g0 g1 hm ⊢;have qd:aH (k+1)=k+1:=by rw [ch]; omega
   rw [qd];refine Tot.sm (Tot.ba (λud=>?_) (λ_=>.ag hm));have vk:=hm.fi;refine Tot.aq (Ξ:=λJ=>iF J (1001 * 1000) 1000) ?_ λJ aj=>.ag ⟨⟨?_,?_,aj⟩,?_,?_⟩
   ·refine Tot.sm (.aq (Tot.gf (Φ:=λ_=>True) g0 ud λ_ _ _=>trivial) λx _=>?_);refine .aq (Ξ:=λ_=>True) (Tot.sm (Tot.bl (λ_=>.aq (t103 m _ (by simp only [dp]; omega)) λ_ _=>.ag trivial) (λ_=>.ag trivial))) λc _=>?_;refine Tot.aq (Ξ:=λJ=>iF J (1001 * 1000) 1000) ?_ λJ aj=>.ag aj;exact Tot.bl (λ_=>.aq (t101 m _ _) λbh gT=>.ag (hm.same gT.1)) (λ_=>.ag hm)
   ·show 0<=k+1; omega
   ·show k+1<=(d.ey.length:Int); omega
   ·show k<k+1; omega
   ·show k+1<=(d.ey.length:Int); omega
  ·show 0<=i+1; omega
  ·show i+1<=(s.Decls.length:Int); omega
  ·show i<i+1; omega
  ·show i+1<=(s.Decls.length:Int); omega
 -- the start
 have sE:=ok.pos;refine Tot.aq (Ξ:=λ_=>True) (Tot.bl (λ_=>.aq (Ξ:=λ_=>True) (Tot.gf (by decide) (by omega) λ_ _ _=>trivial) λ_ _=>.ag trivial) (λ_=>.ag trivial)) λvG _=>?_;have ac4:=qN.fi;refine .aq (t103 gM vG (by simp only [dp]; omega)) λl8 nn=>?_;have Ue:-1<=l8/\l8<gM.bZ.length:=by rcases nn with h | h <;> omega
 -- the alternatives
 have ix:gM.bZ.length<=1000:=qN.fi;generalize UD:gM.bZ.length=L at ix Ue;refine Tot.aq (Ξ:=λr=>kX r (3+1001 * 1000+1001 * 1000000) L (1001 * 1000000) (1+1001 * 1000000)/\1<=r.aC.bd.length) ?_ λbo Uf=>?_
 ·have ue:=qN.XL;rw [UD] at ue;refine Tot.count (λz=>z.2) s.dF.length (λz=>0<=z.2/\z.2<=s.dF.length/\kX z.1 (3+1001 * 1000+1001 * (1000 * z.2.toNat)) L (1001 * (1000 * z.2.toNat)) (1+1001 * (1000 * z.2.toNat))/\1<=z.1.aC.bd.length) ⟨Int.le_refl 0,by show (0:Int)<=_; omega,⟨ue.gm,ue.lo,ue.hi,ue.ty,ue.fi,ue.hj,Nat.le_refl 1,λp au=>?_,ue.lvl,ue.jV⟩,Nat.le_refl 1⟩ (by show (s.dF.length:Int) - 0<_; omega) λz aW=>?_
  ·rw [List.mem_singleton.1 au];have acR:=qN.hj;have lF:=qN.lo;refine ⟨⟨Int.le_refl 0,by show (0:Int)<=L+gM.bU; omega⟩,λy al=>?_,⟨by show (-1:Int)<=-1; omega,by show (-1:Int)<_; omega⟩,λy al=>absurd al (by simp),Nat.zero_le _⟩;have al:y∈[aH (1001+l8)]:=al;rw [List.mem_singleton.1 al];have:aH (1001+l8)=1001+l8:=by rw [ch]; omega
   rw [this];exact .inr (by show 1000<=1001+l8/\1001+l8<=1000+((L:Int)+gM.bU); omega)
  ·obtain ⟨m,i⟩:=z;obtain ⟨aO,h1,hm,vo⟩:=aW;simp only at aO h1 hm vo ⊢;have hw:aH (i+1)=i+1:=by rw [ch]; omega
   rw [hw];refine Tot.ba (λaQ=>?_) (λ_=>.ag ⟨hm.mono (by omega) (by omega) (by omega),vo⟩);refine Tot.aq (Ξ:=λr=>kX r (3+1001 * 1000+1001 * (1000 * (i.toNat+1))) L (1001 * (1000 * (i.toNat+1))) (1+1001 * (1000 * (i.toNat+1)))/\1<=r.aC.bd.length) ?_ λkv Ea=>.ag ⟨⟨?_,?_,?_,Ea.2⟩,?_,?_⟩
   ·have jO:i.toNat<s.dF.length:=by omega
    have hi:idx s.dF i=some s.dF[i.toNat]:=by simp [idx,aO,jO]
    rw [hi];generalize aP:s.dF[i.toNat]=d;have jo:d∈s.dF:=by rw [<- aP]; exact List.getElem_mem jO
    have El:=(av.rules d jo).n;refine Tot.count (λz=>z.2) d.eJ.length (λz=>0<=z.2/\z.2<=d.eJ.length/\kX z.1 (3+1001 * 1000+1001 * (1000 * i.toNat+z.2.toNat)) L (1001 * (1000 * i.toNat+z.2.toNat)) (1+1001 * (1000 * i.toNat+z.2.toNat))/\1<=z.1.aC.bd.length) ⟨Int.le_refl 0,by show (0:Int)<=_; omega,hm,vo⟩ (by show (d.eJ.length:Int) - 0<_; omega) λz aW=>?_;obtain ⟨m,k⟩:=z;obtain ⟨g0,g1,hm,vo⟩:=aW;simp only at g0 g1 hm vo ⊢;have qd:aH (k+1)=k+1:=by rw [ch]; omega
    rw [qd];refine Tot.sm (Tot.ba (λud=>?_) (λ_=>.ag ⟨hm.mono (by omega) (by omega) (by omega),vo⟩));refine Tot.sm (Tot.sm (.aq (Tot.gf (Φ:=λy=>y∈d.eJ) g0 ud λ_ _ h=>h) λa aR=>?_));refine .aq (t104 m d.Left a hm (by omega) (by omega) (by omega) (by omega) ((av.rules d jo).alts a aR) (ok.rules d jo a aR)) λbh gT=>.ag ⟨⟨?_,?_,?_,gT.2⟩,?_,?_⟩
    ·show 0<=k+1; omega
    ·show k+1<=(d.eJ.length:Int); omega
    ·show kX bh (3+1001 * 1000+1001 * (1000 * i.toNat+(k+1).toNat)) L (1001 * (1000 * i.toNat+(k+1).toNat)) (1+1001 * (1000 * i.toNat+(k+1).toNat));exact gT.1.mono (by omega) (by omega) (by omega)
    ·show k<k+1; omega
    ·show k+1<=(d.eJ.length:Int); omega
   ·show 0<=i+1; omega
   ·show i+1<=(s.dF.length:Int); omega
   ·show kX kv (3+1001 * 1000+1001 * (1000 * (i+1).toNat)) L (1001 * (1000 * (i+1).toNat)) (1+1001 * (1000 * (i+1).toNat));exact Ea.1.mono (by omega) (by omega) (by omega)
   ·show i<i+1; omega
   ·show i+1<=(s.dF.length:Int); omega
 obtain ⟨np,Ug⟩:=Uf;refine Tot.kE (λh=>.ag λaJ=>absurd aJ h) (λhe=>?_);have acm:=np.fi;have acj:=np.hi;have aco:=np.ty;have ack:=np.hj;have acn:=np.z8
 -- nonterminals
 refine Tot.aq (Ξ:=λl=>l.length=1+L) ?_ λth A_=>?_
 ·refine Tot.count (λz=>z.2) bo.bZ.length (λz=>0<=z.2/\z.2<=bo.bZ.length/\z.1.length=1+z.2.toNat) ⟨Int.le_refl 0,by show (0:Int)<=_; omega,rfl⟩ (by show (bo.bZ.length:Int) - 0<_; omega) λz aW=>?_;obtain ⟨l,i⟩:=z;obtain ⟨aO,h1,ai⟩:=aW;simp only at aO h1 ai ⊢;have hw:aH (i+1)=i+1:=by rw [ch]; omega
  rw [hw];refine Tot.ba (λaQ=>?_) (λ_=>.ag (by show l.length=1+L; omega));refine .aq (Tot.gf (Φ:=λ_=>True) aO aQ λ_ _ _=>trivial) λqy _=>.aq (t105 _ _ (by show bo.cv.length<=_; simp only [dp]; omega)) λye Uh=>?_;have acq:ye=-1\/(0<=ye/\ye<bo.cv.length):=Uh;refine .aq (Ξ:=λ_=>True) (Tot.ba (λh=>.aq (Ξ:=λ_=>True) (Tot.gf h (by omega) λ_ _ _=>trivial) λ_ _=>.ag trivial) (λ_=>.ag trivial)) λuw _=>?_;refine .aq (Ξ:=λ_=>True) (Tot.ap (by simp [lim]; omega) trivial) λ_ _=>.ag ⟨⟨?_,?_,?_⟩,?_,?_⟩
  ·show 0<=i+1; omega
  ·show i+1<=(bo.bZ.length:Int); omega
  ·show (l++[_]).length=1+(i+1).toNat;simp; omega
  ·show i<i+1; omega
  ·show i+1<=(bo.bZ.length:Int); omega
 refine Tot.aq (Ξ:=λl=>(l.length:Int)=1+L+bo.bU) ?_ λky Eb=>?_
 ·refine Tot.count (λz=>z.2) (bo.bU+1) (λz=>1<=z.2/\z.2<=bo.bU+1/\(z.1.length:Int)=1+L+(z.2 - 1)) ⟨Int.le_refl 1,by show (1:Int)<=_; omega,by show (th.length:Int)=1+L+(1 - 1); omega⟩ (by show bo.bU+1 - 1<_; omega) λz aW=>?_;obtain ⟨l,i⟩:=z;obtain ⟨aO,h1,ai⟩:=aW;simp only at aO h1 ai ⊢;have hw:aH (i+1)=i+1:=by rw [ch]; omega
  rw [hw];refine Tot.ba (λaQ=>?_) (λ_=>.ag (by show (l.length:Int)=1+L+bo.bU; omega));refine .aq (t18 i (by omega) (by omega)) λF_ acr=>.aq (Ξ:=λ_=>True) (Tot.cat (by show 1+F_.size<=_; omega) trivial) λwh _=>?_;refine .aq (Ξ:=λ_=>True) (Tot.ap (by simp [lim]; omega) trivial) λ_ _=>.ag ⟨⟨?_,?_,?_⟩,?_,?_⟩
  ·show 1<=i+1; omega
  ·show i+1<=bo.bU+1; omega
  ·show ((l++[_]).length:Int)=1+L+(i+1 - 1);simp; omega
  ·show i<i+1; omega
  ·show i+1<=bo.bU+1; omega
 -- numbers
 have rQ:=np.gm;refine Tot.aq (Ξ:=λl=>l.length=bo.aC.aZ.length/\∀ t∈l,0<=t.Level) ?_ λlM Ui=>?_
 ·refine Tot.count (λz=>z.2.2) bo.aC.aZ.length (λz=>3<=z.2.2/\z.2.2<=bo.aC.aZ.length/\z.1.length=bo.aC.aZ.length/\∀ t∈z.1,0<=t.Level) ⟨Int.le_refl 3,by have:=np.lo; show (3:Int)<=_; omega,rfl,np.jV⟩ (by show (bo.aC.aZ.length:Int) - 3<_; omega) λz aW=>?_;obtain ⟨l,n,i⟩:=z;obtain ⟨aO,h1,ai,hv⟩:=aW;simp only at aO h1 ai hv ⊢;have hw:aH (i+1)=i+1:=by rw [ch]; omega
  rw [hw];refine Tot.ba (λaQ=>?_) (λ_=>.ag ⟨ai,hv⟩);refine Tot.aq (Ξ:=λJ=>J.1.length=bo.aC.aZ.length/\∀ t∈J.1,0<=t.Level) ?_ λJ aj=>.ag ⟨⟨?_,?_,aj⟩,?_,?_⟩
  ·refine .aq (Tot.gf (Φ:=λ_=>True) (by omega) (by rw [rQ]; omega) λ_ _ _=>trivial) λ_ _=>?_;refine Tot.aq (Ξ:=λJ=>J.1.length=bo.aC.aZ.length/\∀ t∈J.1,0<=t.Level) ?_ λJ aj=>.ag aj;refine Tot.bl (λ_=>?_) (λ_=>.ag ⟨ai,hv⟩);refine .aq (Tot.gf (Φ:=λy=>y∈l) (by omega) aQ λ_ _ h=>h) λy al=>.ag ⟨by show (l.set _ _).length=_; simp [ai],λt ar=>?_⟩;rcases OA ar with ar | rfl
   ·exact hv t ar
   ·exact (hv y al:0<=y.Level)
  ·show 3<=i+1; omega
  ·show i+1<=(bo.aC.aZ.length:Int); omega
  ·show i<i+1; omega
  ·show i+1<=(bo.aC.aZ.length:Int); omega
 -- limits
 obtain ⟨Ec,Uj⟩:=Ui;refine Tot.aq (Ξ:=λc=>c=false->lM.length<=40/\ky.length<=24/\bo.aC.bd.length<=60) ?_ λAP Hv=>?_
 ·refine Tot.ba (λ_=>.ag λh=>by cases h) (λh1=>Tot.ba (λ_=>.ag λh=>by cases h) (λaf=>.ag λh=>?_));have aK:=of_decide_eq_false h;omega
 refine Tot.aq (Ξ:=λc=>c=false->AP=false/\∀ p∈bo.aC.bd,p.e7.length<=8) ?_ λAo Hw=>?_
 ·refine Tot.count (λz=>z.2) bo.aC.bd.length (λz=>0<=z.2/\z.2<=bo.aC.bd.length/\(z.1=false->AP=false/\∀ (J:Nat) (p:Prod),(J:Int)<z.2->bo.aC.bd[J]?=some p->p.e7.length<=8)) ⟨Int.le_refl 0,by show (0:Int)<=_; omega,λh=>⟨h,λJ p aj=>by have aj:(J:Int)<0:=aj; omega⟩⟩ (by show (bo.aC.bd.length:Int) - 0<_; omega) λz aW=>?_;obtain ⟨c,i⟩:=z;obtain ⟨aO,h1,ai⟩:=aW;simp only at aO h1 ai ⊢;have hw:aH (i+1)=i+1:=by rw [ch]; omega
  rw [hw];refine Tot.ba (λaQ=>?_) (λdw=>.ag λh=>⟨(ai h).1,λp au=>?_⟩)
  ·refine Tot.aq (Ξ:=λj9=>j9=false->c=false/\∀ p,bo.aC.bd[i.toNat]?=some p->p.e7.length<=8) ?_ λj9 e_=>.ag ⟨⟨?_,?_,λh=>?_⟩,?_,?_⟩
   ·refine Tot.bl (λ_=>.ag λh=>by cases h) (λIb=>.aq (Tot.gf (Φ:=λy=>idx bo.aC.bd i=some y) aO aQ λ_ h _=>h) λy al=>.ag λh=>⟨Ib,λp au=>?_⟩);have af:=(r3 al).2.2;rw [au] at af; cases af;have:=of_decide_eq_false h;omega
   ·show 0<=i+1; omega
   ·show i+1<=(bo.aC.bd.length:Int); omega
   ·obtain ⟨aB,a2⟩:=e_ h;obtain ⟨hg,h6⟩:=ai aB;refine ⟨hg,λJ p aj au=>?_⟩;have aj:(J:Int)<i+1:=aj;by_cases VT:(J:Int)<i
    ·exact h6 J p VT au
    ·have:J=i.toNat:=by omega
     subst this;exact a2 p au
   ·show i<i+1; omega
   ·show i+1<=(bo.aC.bd.length:Int); omega
  ·obtain ⟨J,aj,rfl⟩:=List.mem_iff_getElem.1 au;exact (ai h).2 J _ (by omega) (List.getElem?_eq_getElem aj)
 refine Tot.bl (λ_=>.ag λh=>absurd h (by decide)) (λaa=>.ag λ_=>?_);obtain ⟨aB,a2⟩:=Hw aa;obtain ⟨hg,h6,kD⟩:=Hv aB;have lF:=np.lo;refine ⟨⟨?_,hg⟩,⟨?_,h6⟩,⟨Ug,kD⟩,λp au=>?_,a2,Uj⟩
 ·show 3<=lM.length; omega
 ·show 1<=ky.length; omega
 ·have:=np.gq p au;exact this.mono (by show _<=lM.length; omega) (by show (L:Int)+bo.bU<=((ky.length:Nat):Int) - 1; omega)
theorem To (s:ByteArray) (m n:Int) (h:0<=m/\m<=n/\n<=s.size):(oz s m n).size<=(n - m).toNat:=by
 grind [oz,ByteArray.size_extract]
theorem t9 (s:ByteArray) (n:Int) (aO:0<=n):Tot (qo s n) λt=>(t.size:Int)<=n:=by
 unfold qo;refine Tot.ba (λh=>?_) (λh=>.ag (by omega))
 grind [Tot.cut,To]
theorem t22 (x:Sym):Tot (xK x) λy=>y.Name.size<=dp:=by
 unfold xK;refine .aq (t9 _ 25 (by decide)) λt ar=>.ag ?_
 grind
theorem Tot.make {β:Type}{f:List β × Int->Option ((List β × Int) ⊕ List β)}(n:Int) (P:β->Prop) (aA:0<=n/\n<=1000000)
  (az:∀ (l:List β) (i:Int),0<=i->i<=n->(l.length:Int)=i->(∀ y∈l,P y)->Tot (f (l,i)) (gN (λcn=>i<n/\cn.2=i+1/\∃ y,cn.1=l++[y]/\P y) (λr=>r=l))) :
  Tot (b0 f ([],0)) λl=>(l.length:Int)<=n/\∀ y∈l,P y:=by
 refine Tot.count (λs=>s.2) n (λs=>0<=s.2/\s.2<=n/\(s.1.length:Int)=s.2/\∀ y∈s.1,P y) ⟨Int.le_refl 0,aA.1,rfl,by simp⟩ (by show n - 0<_; omega) λs bb=>?_;obtain ⟨l,i⟩:=s;obtain ⟨aO,h1,af,aK⟩:=bb;refine (az l i aO h1 af aK).use λx j=>?_
 grind
theorem t13 (s:Source):Tot (xH s) nU:=by
 unfold xH;refine .aq (t9 s.b5 40 (by decide)) λaX h1=>.aq (t9 s.b' 40 (by decide)) λx2 af=>?_;refine .aq (Tot.make 8 Gi (by decide) λl i aO ze ai cg=>?_) λbP bu=>?_
 ·refine .aq (Ξ:=λc=>c=true->i<s.Decls.length/\i<8) (Tot.ba (λh=>.ag λaf=>⟨h,of_decide_eq_true af⟩) (λ_=>.ag λh=>by cases h)) λc aa=>Tot.bl (λiL=>?_) (λ_=>.ag rfl);obtain ⟨hi,Io⟩:=aa iL;have jO:i.toNat<s.Decls.length:=by omega
  have uc:idx s.Decls i=some s.Decls[i.toNat]:=by simp [idx,aO,jO]
  rw [uc];generalize s.Decls[i.toNat]=d;have hw:aH (i+1)=i+1:=by rw [ch]; omega
  refine Tot.sm (Tot.sm (.aq (t9 d.Tag 25 (by decide)) λcb y6=>Tot.sm ?_));refine .aq (Tot.make 6 (λx=>x.Name.size<=dp) (by decide) λvI k g0 T0 D9 TZ=>?_) λec oC=>?_
  ·refine .aq (Ξ:=λc=>c=true->k<d.ey.length/\k<6) (Tot.sm (Tot.ba (λh=>.ag λaf=>⟨h,of_decide_eq_true af⟩) (λ_=>.ag λh=>by cases h))) λc aa=>Tot.bl (λiL=>?_) (λ_=>.ag rfl);obtain ⟨hk,Iu⟩:=aa iL;refine Tot.sm (.aq (Tot.gf (Φ:=λ_=>True) g0 hk λ_ _ _=>trivial) λeZ _=>.aq (t22 eZ) λfN T2=>.aq (Ξ:=λ_=>True) (Tot.ap (by simp [lim]; omega) trivial) λ_ _=>.ag ⟨Iu,?_,_,rfl,T2⟩)
   grind [ch]
  ·refine .aq (Ξ:=λ_=>True) (Tot.ap (by simp [lim]; omega) trivial) λ_ _=>.ag ⟨Io,hw,_,rfl,⟨?_,?_,oC.2⟩⟩
   ·grind
   grind
 ·refine .aq (Tot.make 6 Ln (by decide) λl i aO ze ai cg=>?_) λgW mj=>.ag ⟨?_,?_,bu.2,?_,mj.2⟩
  ·refine .aq (Ξ:=λc=>c=true->i<s.dF.length/\i<6) (Tot.ba (λh=>.ag λaf=>⟨h,of_decide_eq_true af⟩) (λ_=>.ag λh=>by cases h)) λc aa=>Tot.bl (λiL=>?_) (λ_=>.ag rfl);obtain ⟨hi,Io⟩:=aa iL;have jO:i.toNat<s.dF.length:=by omega
   have uc:idx s.dF i=some s.dF[i.toNat]:=by simp [idx,aO,jO]
   rw [uc];generalize s.dF[i.toNat]=d;have hw:aH (i+1)=i+1:=by rw [ch]; omega
   refine Tot.sm (.aq (t9 d.Left 25 (by decide)) λe0 y7=>Tot.sm ?_);refine .aq (Tot.make 5 wi (by decide) λvI k g0 T0 D9 TZ=>?_) λfk T5=>?_
   ·refine .aq (Ξ:=λc=>c=true->k<d.eJ.length/\k<5) (Tot.sm (Tot.ba (λh=>.ag λaf=>⟨h,of_decide_eq_true af⟩) (λ_=>.ag λh=>by cases h))) λc aa=>Tot.bl (λiL=>?_) (λ_=>.ag rfl);obtain ⟨hk,Iu⟩:=aa iL;have V1:k.toNat<d.eJ.length:=by omega
    have VY:idx d.eJ k=some d.eJ[k.toNat]:=by simp [idx,g0,V1]
    simp only [Option.bind_some,VY];generalize d.eJ[k.toNat]=a;have qd:aH (k+1)=k+1:=by rw [ch]; omega
    refine .aq (t22 a.Prec) λjw T7=>?_;refine .aq (Tot.make 6 (λp=>p.Sym.Name.size<=dp/\p.Code.size<=1000) (by decide) λgb J hp acd el acb=>?_) λo4 T9=>?_
    ·refine .aq (Ξ:=λc=>c=true->J<a.Parts.length/\J<6) (Tot.ba (λh=>.ag λaf=>⟨h,of_decide_eq_true af⟩) (λ_=>.ag λh=>by cases h)) λc aa=>Tot.bl (λiL=>?_) (λ_=>.ag rfl);obtain ⟨aj,zg⟩:=aa iL;refine .aq (Tot.gf (Φ:=λ_=>True) hp aj λ_ _ _=>trivial) λtg _=>.aq (t22 tg.Sym) λKT HA=>.aq (t9 tg.Code 60 (by decide)) λrq MV=>.aq (Ξ:=λ_=>True) (Tot.ap (by simp [lim]; omega) trivial) λ_ _=>.ag ⟨zg,?_,_,rfl,HA,?_⟩
     ·grind [ch]
     grind
    ·refine .aq (Ξ:=λ_=>True) (Tot.ap (by simp [lim]; omega) trivial) λ_ _=>.ag ⟨Iu,qd,_,rfl,⟨?_,T9.2,T7⟩⟩
     grind
   ·refine .aq (Ξ:=λ_=>True) (Tot.ap (by simp [lim]; omega) trivial) λ_ _=>.ag ⟨Io,hw,_,rfl,⟨?_,?_,T5.2⟩⟩
    ·grind
    grind
  all_goals grind
theorem t23 (a n:Int) (h:0<n) (aA:n<=9223372036854775807):Tot (vS a n) λr=>0<=r/\r<n:=by
 unfold vS;have h1:-n<a.tmod n:=by
  by_cases aR:0<=a
  ·have:=Int.tmod_nonneg n aR; omega
  ·have af:(-a).tmod n<n:=Int.tmod_lt_of_pos _ h;rw [Int.neg_tmod] at af;omega
 have af:a.tmod n<n:=Int.tmod_lt_of_pos a h;refine .aq (Ξ:=λx=>x=a.tmod n) (Tot.rem (by omega) rfl) λx j=>?_;subst j;refine Tot.aq (Ξ:=λr=>0<=r/\r<n) (Tot.ba (λaK=>.ag ?_) (λaK=>.ag (by omega))) λr ah=>.ag ah;rw [ch]; omega
theorem t27 (k:Int) (h:0<=k):Tot (vT k) λx=>x.Name.size=1/\x.Lit=true/\x.bK=0:=by
 unfold vT;refine .aq (Ξ:=λx=>x.size=4) (.ag rfl) λaX h1=>.aq (Ξ:=λr=>r=k.tmod 4) (Tot.rem (by decide) rfl) λx2 af=>.aq (Ξ:=λr=>r=k.tmod 4) (Tot.rem (by decide) rfl) λaY aK=>?_;subst af aK;have e:k.tmod 4=k % 4:=Int.tmod_eq_emod_of_nonneg h;rw [e];have hw:aH (k % 4+1)=k % 4+1:=by rw [ch]; omega
 rw [hw];refine .aq (Ξ:=λx=>x.size=1) (Tot.cut (by rw [h1]; omega) ?_) λbP bu=>.ag ⟨bu,rfl,rfl⟩
 grind [Tp]
theorem t25 (k:Int):Tot (zP k) λx=>x.size=1:=by
 unfold zP;exact .ag (by rw [Ky]; rfl)
theorem t26 (k n:Int) (h:0<n) (aA:n<=100):Tot (CA k n) λx=>x.Name.size<=5:=by
 unfold CA;refine .aq (t23 k 14 (by decide) (by decide)) λaX h1=>Tot.ba (λcu=>?_) (λcu=>Tot.bl (λ_=>.ag ?_) (λ_=>?_))
 ·refine .aq (Ξ:=λ_=>True) (Tot.rem (by omega) trivial) λaY _=>.aq (t25 aY) λbP bu=>.ag ?_
  grind
 ·show (5:Nat)<=5;omega
 ·refine .aq (t27 _ ?_) λx j=>.ag (by omega)
  grind [ch]
structure Av (n:Nat) (d:Decl):Prop where
 tag:d.Tag.size=0
 n:d.ey.length<=n
 syms:∀ x∈d.ey,x.Name.size<=dp
theorem t24 (l:List Int):Tot (zO l) λr=>r.length<=4/\∀ d∈r,Av 10 d:=by
 unfold zO;refine Tot.aq (Ξ:=λr=>r.length<=4/\∀ d∈r,Av 10 d) ?_ λr ah=>.ag ah;refine Tot.count (λs=>s.2) 4 (λs=>0<=s.2/\s.2<=4/\s.1.length<=s.2.toNat/\∀ d∈s.1,Av (1+s.2.toNat) d) ⟨Int.le_refl 0,by decide,Nat.le_refl 0,λd aP=>absurd aP (by simp)⟩ (by decide) λs az=>?_;obtain ⟨r,i⟩:=s;obtain ⟨aO,bu,ai,aP⟩:=az;simp only at aO bu ai aP ⊢;have hw:aH (i+1)=i+1:=by rw [ch]; omega
 rw [hw];refine .aq (Ξ:=λc=>c=true->i<l.length/\i<4) (Tot.ba (λh=>.ag λaf=>⟨h,of_decide_eq_true af⟩) (λ_=>.ag λh=>by cases h)) λc aa=>Tot.bl (λiL=>?_) (λ_=>.ag ⟨by omega,λd jo=>⟨(aP d jo).tag,by have:=(aP d jo).n; omega,(aP d jo).syms⟩⟩);obtain ⟨hi,acS⟩:=aa iL;refine Tot.aq (Ξ:=λJ=>J.length<=i.toNat+1/\∀ d∈J,Av (1+(i.toNat+1)) d) ?_ λJ aj=>.ag ⟨⟨?_,?_,?_,?_⟩,?_,?_⟩
 ·refine .aq (Tot.gf (Φ:=λ_=>True) aO hi λ_ _ _=>trivial) λb2 _=>.aq (t23 b2 8 (by decide) (by decide)) λdD wS=>.aq (Ξ:=λ_=>True) (Tot.rem (by decide) trivial) λbE _=>?_;have mr:∀ d∈r,Av (1+(i.toNat+1)) d:=λd jo=>⟨(aP d jo).tag,by have:=(aP d jo).n; omega,(aP d jo).syms⟩;refine Tot.bl (λ_=>.ag ⟨by omega,mr⟩) (λ_=>?_);refine .aq (Ξ:=λc=>c=true->0<(r.length:Int)) (Tot.bl (λ_=>.ag λh=>of_decide_eq_true h) (λ_=>.ag λh=>by cases h)) λc aa=>Tot.bl (λw1=>?_) (λ_=>?_)
  ·have sE:=aa w1;have WQ:aH ((r.length:Int) - 1)=(r.length:Int) - 1:=by rw [ch]; omega
   rw [WQ];refine .aq (Tot.gf (Φ:=λy=>y∈r) (by omega) (by omega) λ_ _ h=>h) λd jo=>.aq (t27 i aO) λx j=>.aq (Ξ:=λ_=>True) (Tot.ap (by have:=(aP d jo).n; simp [lim]; omega) trivial) λ_ _=>.ag ⟨by simp; omega,λMk w3=>?_⟩;rcases OA w3 with h | rfl
   ·grind
   ·refine ⟨(aP d jo).tag,?_,λy al=>?_⟩
    ·have:=(aP d jo).n
     grind
    ·rcases List.mem_append.1 al with al | al
     ·exact (aP d jo).syms y al
     grind
  ·refine .aq (Ξ:=λ_=>True) (Tot.rem (by decide) trivial) λfo _=>.aq (t27 i aO) λx j=>.aq (Ξ:=λ_=>True) (Tot.ap (by simp [lim]; omega) trivial) λ_ _=>.ag ⟨by simp; omega,λMk w3=>?_⟩;rcases List.mem_append.1 w3 with h | h
   ·grind
   ·rw [List.mem_singleton.1 h];refine ⟨rfl,by show 1<=_; omega,λy al=>?_⟩
    grind
 all_goals grind
structure me (n:Nat) (r:fc):Prop where
 left:r.Left.size<=dp
 n:r.eJ.length<=n
 alts:∀ a∈r.eJ,wi a
theorem me.mono {n m:Nat}{r:fc}(h:me n r) (hm:n<=m):me m r:=⟨h.left,Nat.le_trans h.n hm,h.alts⟩
theorem me.add {n:Nat}{r:fc}{a:Alt}(h:me n r) (aR:wi a):me (n+1) (⟨r.Left,r.eJ++[a],r.At⟩:fc):=by
 refine ⟨h.left,by have:=h.n; show (r.eJ++[a]).length<=_; simp; omega,λb av=>?_⟩;rcases List.mem_append.1 av with av | av
 ·exact h.alts b av
 grind
theorem LC {l:List fc}{i n:Nat}{r:fc}(h:∀ x∈l,me n x) (ah:me n r):∀ x∈l.set i r,me n x:=by grind
theorem t14 (x:pR):Tot (vR x) nU:=by
 unfold vR;refine .aq (t23 x.bX 4 (by decide) (by decide)) λaX h1=>.aq (t24 x.qC) λx2 af=>?_;have WM:aH (1+aX)=1+aX:=by rw [ch]; omega
 rw [WM];refine .aq (Ξ:=λl=>l=List.replicate (1+aX).toNat false) (Tot.mk (by simp [lim]; omega) rfl) λaY aK=>?_;have ach:aY.length=(1+aX).toNat:=by rw [aK]; simp
 refine Tot.aq (Ξ:=λl=>(l.length:Int)=1+aX/\∀ r∈l,me 0 r) ?_ λbF cu=>?_
 ·refine Tot.count (λs=>s.2) (1+aX) (λs=>0<=s.2/\s.2<=1+aX/\(s.1.length:Int)=s.2/\∀ r∈s.1,me 0 r) ⟨Int.le_refl 0,by show 0<=1+aX; omega,rfl,λd aP=>absurd aP (by simp)⟩ (by show 1+aX - 0<_; omega) λs az=>?_;obtain ⟨l,i⟩:=s;obtain ⟨g0,g1,ai,cg⟩:=az;simp only at g0 g1 ai cg ⊢;have hw:aH (i+1)=i+1:=by rw [ch]; omega
  rw [hw];refine Tot.ba (λaQ=>?_) (λ_=>.ag ⟨by omega,cg⟩);refine .aq (t25 i) λb2 mP=>.aq (Ξ:=λ_=>True) (Tot.ap (by simp [lim]; omega) trivial) λ_ _=>.ag ⟨⟨?_,?_,?_,λr ah=>?_⟩,?_,?_⟩
  ·grind
  ·grind
  ·grind
  ·rcases List.mem_append.1 ah with ah | ah
   ·grind
   ·rw [List.mem_singleton.1 ah];exact ⟨by show b2.size<=_; rw [mP]; decide,Nat.le_refl 0,λa aR=>absurd aR (by simp)⟩
  ·grind
  grind
 refine Tot.aq (Ξ:=λr=>(r.1.length:Int)=1+aX/\(r.2.length:Int)=1+aX/\∀ y∈r.1,me 9 y) ?_ λcb y6=>?_
 ·refine Tot.count (λs=>s.2.2) 9 (λs=>0<=s.2.2/\s.2.2<=9/\(s.1.length:Int)=1+aX/\(s.2.1.length:Int)=1+aX/\∀ y∈s.1,me s.2.2.toNat y) ⟨Int.le_refl 0,by show (0:Int)<=9; decide,cu.1,by show (aY.length:Int)=_; omega,cu.2⟩ (by show (9:Int) - 0<_; decide) λs az=>?_;obtain ⟨l,av,i⟩:=s;obtain ⟨g0,g1,ai,Im,cg⟩:=az;simp only at g0 g1 ai Im cg ⊢;have hw:aH (i+1)=i+1:=by rw [ch]; omega
  rw [hw];refine .aq (Ξ:=λc=>c=true->i<x.dF.length/\i<9) (Tot.ba (λh=>.ag λaf=>⟨h,of_decide_eq_true af⟩) (λ_=>.ag λh=>by cases h)) λc aa=>Tot.bl (λiL=>?_) (λ_=>.ag ⟨ai,Im,λy al=>(cg y al).mono (by omega)⟩);obtain ⟨hi,acT⟩:=aa iL;have jO:i.toNat<x.dF.length:=by omega
  have uc:idx x.dF i=some x.dF[i.toNat]:=by simp [idx,g0,jO]
  rw [uc];generalize x.dF[i.toNat]=d;have M7:∀ y∈l,me (i.toNat+1) y:=λy al=>(cg y al).mono (by omega);refine Tot.aq (Ξ:=λJ=>(J.1.length:Int)=1+aX/\(J.2.length:Int)=1+aX/\∀ y∈J.1,me (i.toNat+1) y) ?_ λJ aj=>.ag ⟨⟨?_,?_,aj.1,aj.2.1,?_⟩,?_,?_⟩
  ·refine Tot.sm (Tot.ba (λ_=>.ag ⟨ai,Im,M7⟩) (λcz=>Tot.sm ?_));refine .aq (Tot.gf (Φ:=λ_=>True) (by decide) (by omega) λ_ _ _=>trivial) λe5 _=>.aq (t23 e5 (1+aX) (by omega) (by omega)) λeZ D'=>?_;have jM:∀ c:ByteArray,c.size<=1000->((⟨(⟨⟨#[]⟩,false,0,0⟩:Sym),c,0⟩:Part).Sym.Name.size<=dp/\(⟨(⟨⟨#[]⟩,false,0,0⟩:Sym),c,0⟩:Part).Code.size<=1000):=λc aa=>⟨by show 0<=_; exact Nat.zero_le _,aa⟩;refine Tot.aq (Ξ:=λr=>r.1.length<=10/\∀ p∈r.1,p.Sym.Name.size<=dp/\p.Code.size<=1000) ?_ λfx T3=>?_
   ·refine Tot.count (λs=>s.2.2) 5 (λs=>1<=s.2.2/\s.2.2<=5/\(s.1.length:Int)<=2 * (s.2.2 - 1)/\∀ p∈s.1,p.Sym.Name.size<=dp/\p.Code.size<=1000) ⟨Int.le_refl 1,by decide,by decide,λp au=>absurd au (by simp)⟩ (by decide) λs az=>?_;obtain ⟨ps,pl,k⟩:=s;obtain ⟨k0,vH,Xy,Og⟩:=az;simp only at k0 vH Xy Og ⊢;have qd:aH (k+1)=k+1:=by rw [ch]; omega
    rw [qd];refine .aq (Ξ:=λc=>c=true->k<d.length/\k<5) (Tot.sm (Tot.ba (λh=>.ag λaf=>⟨h,of_decide_eq_true af⟩) (λ_=>.ag λh=>by cases h))) λc aa=>Tot.bl (λiL=>?_) (λ_=>.ag ⟨by show ps.length<=10; omega,Og⟩);obtain ⟨hk,acX⟩:=aa iL;refine Tot.aq (Ξ:=λJ=>(J.1.length:Int)<=2 * k/\∀ p∈J.1,p.Sym.Name.size<=dp/\p.Code.size<=1000) ?_ λJ aj=>.ag ⟨⟨?_,?_,?_,aj.2⟩,?_,?_⟩
    ·refine Tot.sm (.aq (Tot.gf (Φ:=λ_=>True) (by omega) hk λ_ _ _=>trivial) λku _=>.aq (t26 ku (1+aX) (by omega) (by omega)) λe0 y7=>?_);refine .aq (Ξ:=λ_=>True) (Tot.bl (λ_=>Tot.bl (λ_=>.ag trivial) (λ_=>.ag trivial)) (λ_=>.ag trivial)) λ_ _=>.aq (Ξ:=λ_=>True) (Tot.ap (by simp [lim]; omega) trivial) λ_ _=>?_;have a7:∀ p∈ps++[(⟨e0,⟨#[]⟩,0⟩:Part)],p.Sym.Name.size<=dp/\p.Code.size<=1000:=λp au=>by
      rcases List.mem_append.1 au with h|h
      ·exact Og p h
      ·rw [List.mem_singleton.1 h];exact ⟨by show e0.Name.size<=1000000000000; omega,Nat.zero_le _⟩
     refine .aq (Ξ:=λ_=>True) ?_ λL4 _=>?_
     ·refine Tot.ba (λh=>Tot.bl (λ_=>.aq (Tot.gf (Φ:=λ_=>True) g0 h λ_ _ _=>trivial) λ_ _=>.aq (Ξ:=λ_=>True) (Tot.rem (by decide) trivial) λ_ _=>.ag trivial) (λ_=>.ag trivial)) (λ_=>.ag trivial)
     ·refine Tot.aq (Ξ:=λl=>(l.length:Int)<=2 * k/\∀ p∈l,p.Sym.Name.size<=dp/\p.Code.size<=1000) ?_ λJ aj=>.ag aj;refine Tot.bl (λ_=>?_) (λ_=>.ag ⟨by simp; omega,a7⟩);refine .aq (Ξ:=λ_=>True) (Tot.ap (by simp [lim]; omega) trivial) λ_ _=>.ag ⟨by simp; omega,λp au=>?_⟩;rcases List.mem_append.1 au with au | au
      ·grind
      ·rw [List.mem_singleton.1 au];exact jM _ (by decide)
    all_goals grind
   ·refine .aq (Ξ:=λ_=>True) (Tot.ba (λh=>.aq (Tot.gf (Φ:=λ_=>True) g0 h λ_ _ _=>trivial) λ_ _=>.aq (Ξ:=λ_=>True) (Tot.rem (by decide) trivial) λ_ _=>.ag trivial) (λ_=>.ag trivial)) λaaq _=>?_;refine Tot.aq (Ξ:=λl=>l.length<=20/\∀ p∈l,p.Sym.Name.size<=dp/\p.Code.size<=1000) ?_ λoU T_=>?_
    ·refine Tot.bl (λ_=>?_) (λ_=>.ag ⟨by omega,T3.2⟩);refine .aq (Ξ:=λ_=>True) (Tot.ap (by simp [lim]; omega) trivial) λ_ _=>.ag ⟨by simp; omega,λp au=>?_⟩;rcases List.mem_append.1 au with au | au
     ·grind
     ·rw [List.mem_singleton.1 au];exact jM _ (by decide)
    ·refine Tot.aq (Ξ:=λl=>(l.length:Int)=1+aX) ?_ λL6 Ub=>?_
     ·refine .aq (Tot.gf (Φ:=λ_=>True) D'.1 (by omega) λ_ _ _=>trivial) λ_ _=>Tot.bl (λ_=>.ag (by simp; omega)) (λ_=>.ag (by simp; omega))
     ·refine .aq (Tot.gf (Φ:=λy=>y∈l) D'.1 (by omega) λ_ _ h=>h) λll Uc=>?_;have qU:=cg ll Uc;refine .aq (Ξ:=λ_=>True) (Tot.ap (by have:=qU.n; simp [lim]; omega) trivial) λ_ _=>.ag ⟨by show ((l.set _ _).length:Int)=_; simp; omega,Ub,LC M7 (qU.add ⟨by show oU.length<=_; omega,T_.2,Nat.zero_le _⟩)⟩
  all_goals grind
 refine Tot.aq (Ξ:=λl=>(l.length:Int)=1+aX/\∀ y∈l,me 20 y) ?_ λrq MV=>.ag ⟨Nat.zero_le _,?_,λd aP=>?_,?_,λr ah=>?_⟩
 ·refine Tot.count (λs=>s.2) (1+aX) (λs=>0<=s.2/\s.2<=1+aX/\(s.1.length:Int)=1+aX/\∀ y∈s.1,me (9+s.2.toNat) y) ⟨Int.le_refl 0,by show 0<=1+aX; omega,y6.1,y6.2.2⟩ (by show 1+aX - 0<_; omega) λs az=>?_;obtain ⟨l,i⟩:=s;obtain ⟨g0,g1,ai,cg⟩:=az;simp only at g0 g1 ai cg ⊢;have hw:aH (i+1)=i+1:=by rw [ch]; omega
  rw [hw];refine Tot.ba (λaQ=>?_) (λ_=>.ag ⟨ai,λy al=>(cg y al).mono (by omega)⟩);refine Tot.aq (Ξ:=λl=>(l.length:Int)=1+aX/\∀ y∈l,me (9+i.toNat+1) y) ?_ λJ aj=>.ag ⟨⟨?_,?_,aj.1,?_⟩,?_,?_⟩
  ·refine .aq (Ξ:=λ_=>True) ?_ λaar _=>?_
   ·refine .aq (Tot.gf (Φ:=λ_=>True) g0 (by omega) λ_ _ _=>trivial) λwg _=>Tot.bl (λ_=>.ag trivial) (λ_=>.aq (Tot.gf (Φ:=λ_=>True) g0 (by omega) λ_ _ _=>trivial) λ_ _=>Tot.bl (λ_=>.ag trivial) (λ_=>.ag trivial))
   ·refine Tot.aq (Ξ:=λl=>(l.length:Int)=1+aX/\∀ y∈l,me (9+i.toNat+1) y) ?_ λJ aj=>.ag aj;refine Tot.bl (λ_=>?_) (λ_=>.ag ⟨ai,λy al=>(cg y al).mono (by omega)⟩);refine .aq (Tot.gf (Φ:=λy=>y∈l) g0 (by omega) λ_ _ h=>h) λkv Ea=>.aq (t27 i g0) λkx acp=>?_;have j:=cg kv Ea;refine .aq (Ξ:=λ_=>True) (Tot.ap (by have:=j.n; simp [lim]; omega) trivial) λ_ _=>.ag ⟨by simp; omega,LC (λy al=>(cg y al).mono (by omega)) (j.add ⟨by show 1<=_; omega,λp au=>?_,Nat.zero_le _⟩)⟩;have au:p∈[(⟨kx,⟨#[]⟩,0⟩:Part)]:=au;rw [List.mem_singleton.1 au];exact ⟨by show kx.Name.size<=1000000000000; omega,Nat.zero_le _⟩
  all_goals grind
 ·grind
 ·have:=af.2 d aP;exact ⟨by rw [this.tag]; exact Nat.zero_le _,by have:=this.n; omega,this.syms⟩
 ·grind
 ·have:=MV.2 r ah;exact ⟨this.left,by have:=this.n; omega,this.alts⟩
theorem t66 (s:Source) (av:nU s):Tot (uF s) λr=>r.2=true->gi r.1:=by
 unfold uF;exact .aq (t81 s av) λr ah=>.ag λh=>ah (of_decide_eq_true h)
structure j5 (x:Sym):Prop where
 lit:x.Lit=true->x.Name.size=1/\0<ly x.Name 0/\ly x.Name 0<=255/\x.bK=0
 num:0<=x.bK/\x.bK<=50000
theorem J7 (x:Sym) (a b:Bool):Par (uB x a b) λr=>r=true->j5 x:=by
 unfold uB;refine Par.bl (λai=>?_) (λai=>?_)
 ·refine .aq (Ξ:=λc=>c=false->x.Name.size=1/\x.bK=0) ?_ λc aa=>Par.bl (λ_=>.ag λh=>by cases h) (λaf=>?_)
  ·refine Par.bl (λ_=>.ag λh=>by cases h) (λ_=>Par.kE (λ_=>.ag λh=>by cases h) (λh1=>.ag λaf=>⟨by omega,?_⟩));simpa using af
  ·obtain ⟨h1,aK⟩:=aa af;refine .aq (Ξ:=λc=>c=ly x.Name 0) (λc aa=>?_) λc aa=>?_
   ·unfold hG at aa
    split at aa
    ·exact (Option.some.inj aa).symm
    ·cases aa
   ·subst aa;refine .aq (Ξ:=λr=>r.2=true->0<ly x.Name 0/\ly x.Name 0<=255) ?_ λr ah=>.ag λh=>⟨λ_=>⟨h1,(ah h).1,(ah h).2,aK⟩,by omega⟩;unfold zM;refine Par.ba (λh=>.ag λ_=>by omega) (λ_=>Par.ba (λh=>.ag λ_=>by omega) (λ_=>Par.ba (λh=>.ag λ_=>by omega) (λ_=>?_)));refine .aq (Ξ:=λc=>c=true->ly x.Name 0=92\/ly x.Name 0=39) (Par.ba (λh=>.ag λ_=>.inl h) (λ_=>.ag λh=>.inr (of_decide_eq_true h))) λc aa=>Par.bl (λh=>.ag λ_=>by rcases aa h with h | h <;> omega) (λ_=>?_);refine .aq (Ξ:=λr:Int × Bool=>r.2=true->0<ly x.Name 0/\ly x.Name 0<=255) (Par.ba (λh=>.ag λaJ=>?_) (λ_=>.ag λh=>by cases h)) λr ah=>.ag ah;have:ly x.Name 0<=126:=of_decide_eq_true aJ;omega
 ·refine .aq (Ξ:=λc=>c=true->0<=x.bK/\x.bK<=50000) ?_ λc aa=>.ag λh=>⟨λaJ=>(by rw [ai] at aJ; cases aJ),aa h⟩;refine .aq (Ξ:=λ_=>True) (λ_ _=>trivial) λc _=>Par.bl (λ_=>Par.ba (λh=>.ag λ_=>by omega) (λ_=>Par.bl (λ_=>Par.ba (λh=>.ag λaJ=>⟨by omega,of_decide_eq_true aJ⟩) (λ_=>.ag λh=>by cases h)) (λ_=>.ag λh=>by cases h))) (λ_=>.ag λh=>by cases h)
theorem O' (x:Sym):Par (uC x) λr=>r=true->j5 x:=by
 unfold uC;refine .aq (Ξ:=λr=>r=true->j5 x) ?_ λr ah=>.ag ah;refine Par.bl (λ_=>Par.bl (λh=>.ag λaJ=>?_) (λ_=>.ag λh=>by cases h)) (λ_=>.ag λh=>by cases h);have h1:x.Lit=false:=by simpa using h
 have af:x.bK=0:=of_decide_eq_true aJ;exact ⟨λh=>(by rw [h1] at h; cases h),by omega⟩
theorem Yd (d:Decl) (aA:d.ey.length<=1000000):Par (xE d) λr=>r=true->∀ x∈d.ey,j5 x:=by
 unfold xE;refine .aq (Ξ:=λ_=>True) (λ_ _=>trivial) λc _=>Par.bl (λ_=>.ag λh=>by cases h) (λ_=>?_);refine .aq (Par.scan d.ey (by omega) (λx=>j5 x) (λr=>r=false) (λs y aO h1 hi hm=>?_) (λs az=>by simp [az])) λx j=>?_
 ·refine Par.ba (λ_=>?_) (λh=>absurd h1 h);rw [hi];have hw:aH (s+1)=s+1:=by rw [ch]; omega
  rw [hw];exact .aq (Ξ:=λz=>z=y) (.ag rfl) λz aW=>by
   subst aW;exact .aq (J7 _ _ _) λc aa=>Par.bl (λ_=>.ag rfl) (λaf=>.ag ⟨rfl,aa (by simpa using af)⟩)
 ·rcases x with _ | r
  ·exact .ag λ_=>j
  ·exact .ag λh=>by have:r=false:=j; rw [this] at h; cases h
theorem Ye (a:Alt) (aA:a.Parts.length<=1000000):Par (xF a) λr=>r=true->(∀ p∈a.Parts,j5 p.Sym)/\j5 a.Prec:=by
 unfold xF;refine .aq (Par.scan a.Parts (by omega) (λp=>j5 p.Sym) (λr=>r=false) (λs y aO h1 hi hm=>?_) (λs az=>by simp [az])) λx j=>?_
 ·refine Par.ba (λ_=>?_) (λh=>absurd h1 h);rw [hi];have hw:aH (s+1)=s+1:=by rw [ch]; omega
  rw [hw];refine .aq (Ξ:=λz=>z=y) (.ag rfl) λz aW=>?_;subst aW;refine .aq (Ξ:=λc=>c=false->j5 z.Sym) ?_ λc aa=>Par.bl (λ_=>.ag rfl) (λaf=>.ag ⟨rfl,aa af⟩);refine Par.ba (λhe=>?_) (λcz=>?_)
  ·refine .aq (J7 _ _ _) λc aa=>Par.bl (λ_=>.ag λh=>by cases h) (λaf=>?_);have da:=aa (by simpa using af);exact λ_ _ _=>da
  ·refine Par.kE (λ_=>?_) (λh=>absurd h cz);refine .aq (O' _) λc aa=>Par.bl (λ_=>.ag λh=>by cases h) (λaf=>?_);have da:=aa (by simpa using af);exact λ_ _ _=>da
 ·rcases x with _ | r
  ·have j:∀ p∈a.Parts,j5 p.Sym:=j;refine .aq (Ξ:=λc=>c=true->j5 a.Prec) ?_ λc aa=>.ag λh=>⟨j,aa h⟩;refine .aq (O' _) λc aa=>Par.bl (λaf=>.ag λ_=>aa af) (λ_=>.aq (J7 _ _ _) λc aa=>.ag aa)
  ·exact .ag λh=>by have:r=false:=j; rw [this] at h; cases h
structure Lp (s:Source):Prop where
 decls:∀ d∈s.Decls,∀ x∈d.ey,j5 x
 rules:∀ r∈s.dF,∀ a∈r.eJ,(∀ p∈a.Parts,j5 p.Sym)/\j5 a.Prec
theorem Yg (s:Source) (av:nU s):Par (xT s) λr=>r=true->Lp s:=by
 unfold xT;refine .aq (Ξ:=gN (λ_=>True) (λr=>r=false)) ?_ λx j=>?_
 ·refine Par.loop (λ_=>True) trivial λJ _=>?_;refine Par.ba (λ_=>.aq (Ξ:=λ_=>True) (λ_ _=>trivial) λ_ _=>Par.bl (λ_=>.ag rfl) (λ_=>.ag trivial)) (λ_=>.ag trivial)
 ·rcases x with _ | r
  ·refine .aq (Par.scan s.Decls (by have:=av.y1; omega) (λd=>∀ x∈d.ey,j5 x) (λr=>r=false) (λi y aO h1 hi hm=>?_) (λs az=>by simp [az])) λx j=>?_
   ·refine Par.ba (λ_=>?_) (λh=>absurd h1 h);rw [hi];have hw:aH (i+1)=i+1:=by have:=av.y1; rw [ch]; omega
    rw [hw];refine .aq (Ξ:=λz=>z=y) (.ag rfl) λz aW=>?_;subst aW;exact .aq (Yd z (by have:=(av.decls z hm).n; omega)) λc aa=>Par.bl (λ_=>.ag rfl) (λaf=>.ag ⟨rfl,aa (by simpa using af)⟩)
   ·rcases x with _ | r
    ·have aP:∀ d∈s.Decls,∀ x∈d.ey,j5 x:=j;refine .aq (Par.scan s.dF (by have:=av.aE; omega) (λr=>∀ a∈r.eJ,(∀ p∈a.Parts,j5 p.Sym)/\j5 a.Prec) (λr=>r=false) (λi y aO h1 hi hm=>?_) (λs az=>by simp [az])) λx j=>?_
     ·refine Par.ba (λ_=>?_) (λh=>absurd h1 h);rw [hi];have hw:aH (i+1)=i+1:=by have:=av.aE; rw [ch]; omega
      rw [hw];refine .aq (Ξ:=λz=>z=y) (.ag rfl) λz aW=>?_;subst aW;have n5:=(av.rules z hm);refine .aq (Ξ:=λ_=>True) (λ_ _=>trivial) λc _=>Par.bl (λ_=>.ag rfl) (λ_=>?_);refine .aq (Par.scan z.eJ (by have:=n5.n; omega) (λa=>(∀ p∈a.Parts,j5 p.Sym)/\j5 a.Prec) (λr=>r=false) (λk y aO h1 hi hm=>?_) (λs az=>by simp [az])) λx j=>?_
      ·refine Par.ba (λ_=>?_) (λh=>absurd h1 h);rw [hi];have hw:aH (k+1)=k+1:=by have:=n5.n; rw [ch]; omega
       rw [hw];refine .aq (Ξ:=λz=>z=y) (.ag rfl) λz aW=>?_;subst aW;exact .aq (Ye z (by have:=(n5.alts z hm).n; omega)) λc aa=>Par.bl (λ_=>.ag rfl) (λaf=>.ag ⟨rfl,aa (by simpa using af)⟩)
      ·rcases x with _ | r
       ·exact .ag ⟨rfl,j⟩
       ·exact .ag j
     ·rcases x with _ | r
      ·exact .ag λ_=>⟨aP,j⟩
      ·exact .ag λh=>by have:r=false:=j; rw [this] at h; cases h
    ·exact .ag λh=>by have:r=false:=j; rw [this] at h; cases h
  ·exact .ag λh=>by have:r=false:=j; rw [this] at h; cases h
structure yF (T:List Tok) (G:List Bool):Prop where
 D9:G.length=T.length
 lo:3<=T.length
 hi:T.length<=lim
 l0:∀ t∈T,t.Name.size<=dp/\(t.Lit=true->t.Name.size=1)
 le:∀ t∈T,t.bK<=50000
structure tw (T:List Tok) (G:List Bool):Prop where
 aP:∀ (i:Nat) (t:Tok),i<3->T[i]?=some t->t.bK<=0
 un:∀ (i J:Nat) (s t:Tok),T[i]?=some s->T[J]?=some t->0<s.bK->s.bK=t.bK->i=J
 gm:∀ (i:Nat) (t:Tok),3<=i->T[i]?=some t->(G[i]?=some true->0<t.bK)/\(G[i]?=some false->t.bK=0)
structure fl (m:ek):Prop where
 a:yF m.aC.aZ m.cf
 b:m.cL=0->tw m.aC.aZ m.cf
 fi:∀ y∈m.bZ,y.size<=dp
theorem vC {α:Type}{l:List α}{i:Int}{y:α}(h:idx l i=some y):0<=i/\i.toNat<l.length/\l[i.toNat]?=some y:=by
 unfold idx at h
 split at h
 ·rename_i aO;exact ⟨aO,(List.getElem?_eq_some_iff.1 h).1,h⟩
 ·cases h
theorem yF.set {T:List Tok}{G:List Bool}(h:yF T G) {k:Nat}{t t':Tok}(hk:T[k]?=some t) (aA:t'.Name=t.Name) (ai:t'.Lit=t.Lit) (hu:t'.bK<=50000) {Ld:List Bool}(c':Ld.length=G.length):yF (T.set k t') Ld:=by
 have hm:=List.mem_of_getElem? hk;have key:∀ {P:Tok->Prop},(∀ s∈T,P s)->P t'->∀ s∈T.set k t',P s:=λh1 af s az=>by
  rcases List.mem_or_eq_of_mem_set az with h | h
  ·exact h1 s h
  ·rw [h]; exact af
 exact ⟨by rw [c',List.length_set]; exact h.D9,by rw [List.length_set]; exact h.lo,by rw [List.length_set]; exact h.hi,key h.l0 (by rw [aA,ai]; exact h.l0 t hm),key h.le hu⟩
theorem s' {α:Type}{l:List α}{k:Nat}{x:α}(hk:k<l.length) (i:Nat):(l.set k x)[i]?=if i=k then some x else l[i]?:=by
 rw [List.getElem?_set];by_cases e:k=i
 ·subst e; simp [hk]
 ·simp [e,Ne.symm e]
theorem tw.FA {T:List Tok}{G:List Bool}(h:tw T G) {k:Nat}{t t':Tok}(hk:T[k]?=some t) (hu:t'.bK=t.bK):tw (T.set k t') G:=by
 have aQ:=(List.getElem?_eq_some_iff.1 hk).1;have key:∀ (i:Nat) (s:Tok),(T.set k t')[i]?=some s->∃ cn,T[i]?=some cn/\cn.bK=s.bK:=by
  intro i s az;rw [s' aQ] at az;by_cases e:i=k
  ·rw [if_pos e] at az;cases az;exact ⟨t,by rw [e]; exact hk,hu.symm⟩
  ·rw [if_neg e] at az;exact ⟨s,az,rfl⟩
 refine ⟨λi s hi az=>?_,λi J s s2 az lX aO he=>?_,λi s hi az=>?_⟩
 ·obtain ⟨cn,h1,af⟩:=key i s az;rw [<- af]; exact h.aP i cn hi h1
 ·obtain ⟨cn,h1,af⟩:=key i s az;obtain ⟨Y2,aK,bu⟩:=key J s2 lX;exact h.un i J cn Y2 h1 aK (by omega) (by omega)
 ·obtain ⟨cn,h1,af⟩:=key i s az;rw [<- af]; exact h.gm i cn hi h1
theorem tw.Za {T:List Tok}{G:List Bool}(h:tw T G) {k:Nat}{t t':Tok}(hk:T[k]?=some t) (aK:3<=k) (aN:k<G.length) (aO:0<t'.bK) (aA:∀ (i:Nat) (s:Tok),T[i]?=some s->s.bK≠t'.bK):tw (T.set k t') (G.set k true):=by
 have aQ:=(List.getElem?_eq_some_iff.1 hk).1;refine ⟨λi s hi az=>?_,λi J s s2 az lX au he=>?_,λi s hi az=>?_⟩
 ·rw [s' aQ,if_neg (by omega)] at az;exact h.aP i s hi az
 ·rw [s' aQ] at az lX;by_cases cw:i=k
  ·rw [if_pos cw] at az; cases az;by_cases cd:J=k
   ·omega
   ·rw [if_neg cd] at lX;exact absurd he.symm (aA J s2 lX)
  ·rw [if_neg cw] at az;by_cases cd:J=k
   ·rw [if_pos cd] at lX; cases lX;exact absurd he (aA i s az)
   ·rw [if_neg cd] at lX;exact h.un i J s s2 az lX au he
 ·rw [s' aQ] at az;rw [s' aN];by_cases cw:i=k
  ·rw [if_pos cw] at az ⊢;cases az;exact ⟨λ_=>aO,λh=>by cases h⟩
  ·rw [if_neg cw] at az ⊢;exact h.gm i s hi az
theorem l3 (m:ek) (a:Int) (n:ByteArray):Par (nN m a n) λbh=>qI m bh/\bh.cL≠0:=.of (t101 m a n)
theorem fl.fail {m bh:ek}(h:fl m) (az:qI m bh/\bh.cL≠0):fl bh:=⟨by rw [az.1.g,az.1.gm]; exact h.a,λe=>absurd e az.2,by rw [az.1.fi]; exact h.fi⟩
theorem Yb (m:ek) (x:Sym) (aK:3<=m.aC.aZ.length) (h:m.aC.aZ.length<=lim):Par (uA m x) λr=>r=-1\/(1<=r/\r≠2):=by
 have ai:lim=1000000000000\/lim<=1000000000000000:=by unfold lim; omega
 unfold uA;refine .aq (Ξ:=gN (λ_=>True) (λr:Int=>1<=r/\r≠2)) ?_ λr ah=>?_
 ·refine Par.loop (λs=>1<=s/\s<=m.aC.aZ.length) ⟨by decide,by omega⟩ λs az=>?_
  ·refine Par.ba (λaQ=>?_) (λ_=>.ag trivial);refine .aq (Ξ:=λc=>c=true->s≠2) ?_ λc aa=>Par.bl (λaJ=>.ag ⟨az.1,aa aJ⟩) (λ_=>.ag ⟨by rw [ch]; omega,by rw [ch]; omega⟩);refine .go λy _=>Par.bl (λ_=>.go λz _=>Par.bl (λ_=>.ag λaJ=>by simpa using aJ) (λ_=>.ag λh=>by cases h)) (λ_=>.ag λh=>by cases h)
 ·rcases r with _ | r
  ·exact .ag (.inl rfl)
  ·exact .ag (.inr ah)
theorem O9 (m:ek) (n:Int) (aK:3<=m.aC.aZ.length) (h:m.aC.aZ.length<=lim):Par (vQ m n) λr=>r<0->∀ (i:Nat) (t:Tok),3<=i->m.aC.aZ[i]?=some t->t.bK≠n:=by
 have ai:lim=1000000000000\/lim<=1000000000000000:=by unfold lim; omega
 unfold vQ;refine .aq (Ξ:=gN (λ_=>∀ (i:Nat) (t:Tok),3<=i->m.aC.aZ[i]?=some t->t.bK≠n) (λr:Int=>0<=r)) ?_ λr ah=>?_
 ·refine Par.loop (λs=>3<=s/\s<=m.aC.aZ.length/\∀ (i:Nat) (t:Tok),3<=i->(i:Int)<s->m.aC.aZ[i]?=some t->t.bK≠n) ⟨by decide,by omega,λi t h1 af=>by omega⟩ λs az=>?_;obtain ⟨h1,af,az⟩:=az;refine Par.ba (λaQ=>?_) (λdw=>.ag λi t hi ar=>az i t hi ?_ ar)
  ·refine .go λy al=>?_;obtain ⟨_,_,al⟩:=vC al;have hw:aH (s+1)=s+1:=by rw [ch]; omega
   rw [hw];refine Par.ba (λe=>.ag (show (0:Int)<=s by omega)) (λe=>.ag ⟨by omega,by omega,λi t hi n4 ar=>?_⟩);by_cases cd:i=s.toNat
   ·subst cd;rw [al] at ar; cases ar; exact e
   ·exact az i t hi (by omega) ar
  ·have:=(List.getElem?_eq_some_iff.1 ar).1;omega
 ·rcases r with _ | r
  ·exact .ag λ_=>ah
  ·exact .ag λh=>by have:(0:Int)<=r:=ah; omega
theorem Da {α:Type}{l:List α}{x:α}(i:Nat) {y:α}(h:(l++[x])[i]?=some y):(i<l.length/\l[i]?=some y)\/(i=l.length/\y=x):=by
 by_cases hi:i<l.length
 ·rw [List.getElem?_append_left hi] at h;exact .inl ⟨hi,h⟩
 ·rw [List.getElem?_append_right (by omega)] at h;by_cases e:i - l.length=0
  ·rw [e] at h;simp at h;exact .inr ⟨by omega,h.symm⟩
  ·have:([x]:List α)[i - l.length]?=none:=by rw [List.getElem?_eq_none]; simp; omega
   rw [this] at h; cases h
theorem O8 (m:ek) (x:Sym) (hm:fl m) (j:j5 x) (az:x.Name.size<=dp):Par (sZ m x) λr=>fl r.2/\(r.1=1\/3<=r.1):=by
 unfold sZ;have ai:lim<=1000000000000000:=by unfold lim; omega
 refine .aq (Yb m x hm.a.lo hm.a.hi) λr ah=>Par.ba (λh=>.ag ⟨hm,?_⟩) (λ_=>?_)
 ·show r=1\/3<=r;omega
 refine .aq (Ξ:=λJ:ek × Int=>J.1.aC=m.aC/\J.1.cf=m.cf/\J.1.bZ=m.bZ/\fl J.1/\J.2<=50000/\(J.1.cL=0->(x.Lit=true->0<J.2/\∀ (i:Nat) (t:Tok),m.aC.aZ[i]?=some t->t.bK≠J.2)/\(x.Lit=false->J.2=0))) ?_ λJ aj=>?_
 ·refine Par.bl (λkp=>?_) (λkp=>.ag ⟨rfl,rfl,rfl,hm,by show (0:Int)<=_; decide,λ_=>⟨λh=>(by rw [kp] at h; cases h),λ_=>rfl⟩⟩);obtain ⟨_,h1,af,_⟩:=j.lit kp;refine .aq (Ξ:=λc=>c=ly x.Name 0) (λc aa=>?_) λc aa=>?_
  ·unfold hG at aa
   split at aa
   ·exact (Option.some.inj aa).symm
   ·cases aa
  subst aa;have hw:aH (ly x.Name 0)=ly x.Name 0:=by rw [ch]; omega
  rw [hw];refine .aq (O9 m (ly x.Name 0) hm.a.lo hm.a.hi) λo aV=>?_;refine .aq (Ξ:=λJ:ek=>J.aC=m.aC/\J.cf=m.cf/\J.bZ=m.bZ/\fl J/\(J.cL=0->m.cL=0/\o<0)) (Par.ba (λh=>.aq (l3 m x.At x.Name) λbh aJ=>.ag ⟨aJ.1.g,aJ.1.gm,aJ.1.fi,hm.fail aJ,λe=>absurd e aJ.2⟩) (λh=>.ag ⟨rfl,rfl,rfl,hm,λe=>⟨e,by omega⟩⟩)) λJ aj=>.ag ⟨aj.1,aj.2.1,aj.2.2.1,aj.2.2.2.1,by show ly x.Name 0<=_; omega,λe=>⟨λ_=>⟨h1,λi t ar=>?_⟩,λh=>(by rw [kp] at h; cases h)⟩⟩;obtain ⟨cw,cd⟩:=aj.2.2.2.2 e;by_cases aK:3<=i
  ·exact aV cd i t aK ar
  ·have:=(hm.b cw).aP i t (by omega) ar;show t.bK≠ly x.Name 0;omega
 ·obtain ⟨aN,rQ,vk,dt,hle,he⟩:=aj;have Ei:J.1.cL=0->tw m.aC.aZ m.cf:=λe=>by have:=dt.b e; rwa [aN,rQ] at this
  refine Par.ap λsD=>Par.ap λ_=>.ag ?_;rw [aN] at sD;rw [aN,rQ,vk];simp only [List.length_cons,List.length_nil] at sD;have aK:=hm.a.lo;have Ns:=hm.a.D9;refine ⟨⟨⟨by simp [Ns],by show 3<=(m.aC.aZ++[_]).length; simp; omega,by show (m.aC.aZ++[_]).length<=_; simp; omega,λt ar=>?_,λt ar=>?_⟩,λhp=>?_,hm.fi⟩,?_⟩
  ·rcases List.mem_append.1 ar with ar | ar
   ·exact hm.a.l0 t ar
   ·rw [List.mem_singleton.1 ar];exact ⟨az,λh=>(j.lit h).1⟩
  ·rcases List.mem_append.1 ar with ar | ar
   ·exact hm.a.le t ar
   ·rw [List.mem_singleton.1 ar]; exact hle
  ·have Mo:J.1.cL=0:=hp;have av:=Ei Mo;obtain ⟨Ii,Bu⟩:=he Mo;refine ⟨λi t hi ar=>?_,λi k s t az ar aO heq=>?_,λi t hi ar=>?_⟩
   ·rcases Da i ar with ⟨h1,af⟩ | ⟨h1,_⟩
    ·exact av.aP i t hi af
    ·omega
   ·rcases Da i az with ⟨h1,af⟩ | ⟨h1,af⟩
    ·rcases Da k ar with ⟨bu,cu⟩ | ⟨bu,cu⟩
     ·exact av.un i k s t af cu aO heq
     ·subst cu;have heq:s.bK=J.2:=heq;cases kp:x.Lit with
      | true=>exact absurd heq ((Ii kp).2 i s af)
      | false=>have:=Bu kp; omega
    ·subst af;rcases Da k ar with ⟨bu,cu⟩ | ⟨bu,cu⟩
     ·have heq:J.2=t.bK:=heq;have aO:0<J.2:=aO;cases kp:x.Lit with
      | true=>exact absurd heq.symm ((Ii kp).2 k t cu)
      | false=>have:=Bu kp; omega
     ·omega
   ·have Uy:(m.cf++[x.Lit])[i]?=if i=m.aC.aZ.length then some x.Lit else m.cf[i]?:=by
     by_cases e:i=m.aC.aZ.length
     ·rw [if_pos e,e,<- Ns,List.getElem?_append_right (Nat.le_refl _)]; simp
     ·have:=(List.getElem?_eq_some_iff.1 ar).1;simp at this;rw [if_neg e,List.getElem?_append_left (by omega)]
    show ((m.cf++[x.Lit])[i]?=some true->0<t.bK)/\((m.cf++[x.Lit])[i]?=some false->t.bK=0);rw [Uy];rcases Da i ar with ⟨h1,af⟩ | ⟨h1,af⟩
    ·rw [if_neg (by omega)];exact av.gm i t hi af
    ·rw [if_pos h1];subst af;exact ⟨λh=>(Ii (Option.some.inj h)).1,λh=>Bu (Option.some.inj h)⟩
  ·right;show 3<=aH (((m.aC.aZ++[_]).length:Int) - 1);simp only [List.length_append,List.length_cons,List.length_nil];rw [ch]; omega
theorem qi {α:Type}{l:List α}{i:Int}{y:α}(h:idx l i=some y):y∈l:=List.mem_of_getElem? (vC h).2.2
theorem fl.FA {m:ek}(h:fl m) {k:Nat}{t t':Tok}(hk:m.aC.aZ[k]?=some t) (aA:t'.Name=t.Name) (ai:t'.Lit=t.Lit) (hu:t'.bK=t.bK):yF (m.aC.aZ.set k t') m.cf/\(m.cL=0->tw (m.aC.aZ.set k t') m.cf) :=
 ⟨h.a.set hk aA ai (by rw [hu]; exact h.a.le t (List.mem_of_getElem? hk)) rfl,λe=>(h.b e).FA hk hu⟩
theorem fl.Hm {m bh:ek}(h:fl m) (az:qI m bh/\bh.cL≠0):fl (⟨(⟨m.aC.aZ,bh.aC.bX,bh.aC.bd,bh.aC.b5,bh.aC.b'⟩:bs),bh.cf,bh.cv,bh.bZ,bh.cL,bh.dc,bh.c_,bh.cc,bh.bU⟩:ek) :=
 ⟨by show yF m.aC.aZ bh.cf; rw [az.1.gm]; exact h.a,λe=>absurd e az.2,by show ∀ y∈bh.bZ,_; rw [az.1.fi]; exact h.fi⟩
theorem Ya (m:ek) (d:Decl) (x:Sym) (hm:fl m) (j:j5 x) (az:x.Name.size<=dp):Par (sW m d x) fl:=by
 unfold sW;refine Par.bl (λ_=>?_) (λ_=>?_)
 ·refine .aq (Ξ:=λ_=>True) (λ_ _=>trivial) λk _=>.aq (Ξ:=fl) ?_ λbh hm=>.ag hm;refine Par.ba (λ_=>Par.ap λ_=>.ag ⟨hm.a,hm.b,hm.fi⟩) (λ_=>?_);refine .go λy _=>.aq (Ξ:=fl) (Par.bl (λ_=>.aq (l3 m _ _) λbh h=>.ag (hm.fail h)) (λ_=>.ag hm)) λbh hm=>.ag hm
 ·refine .aq (O8 m x hm j az) λr ah=>?_;obtain ⟨ah,iA⟩:=ah;refine .go λy al=>?_;refine .aq (Ξ:=fl) ?_ λet jk=>?_
  ·refine Par.bl (λ_=>?_) (λ_=>.ag ah);refine .aq (Ξ:=fl) (Par.bl (λ_=>.aq (l3 r.2 _ _) λbh h=>.ag (ah.Hm h)) (λ_=>.ag ah)) λc3 oC=>?_;refine .go λz aW=>?_;obtain ⟨_,_,aW⟩:=vC aW;rw [List.set_set];obtain ⟨h1,af⟩:=oC.FA (t':=(⟨z.Name,z.Lit,z.bK,c3.cc,aH (d.Kind - 1),z.Tag⟩:Tok)) aW rfl rfl rfl;exact .ag ⟨h1,af,oC.fi⟩
  refine .go λy _=>?_;refine .aq (Ξ:=fl) ?_ λeS p6=>?_
  ·refine Par.ba (λsE=>?_) (λ_=>.ag jk);refine .aq (Ξ:=λc:Bool=>c=false->r.1≠1/\∀ (i:Nat) (t:Tok),3<=i->et.aC.aZ[i]?=some t->t.bK≠x.bK) ?_ λc aa=>?_
   ·refine Par.ba (λ_=>.ag λh=>by cases h) (λh1=>.go λgm _=>Par.bl (λ_=>.ag λh=>by cases h) (λ_=>.aq (O9 et x.bK jk.a.lo jk.a.hi) λo aV=>.ag λh=>⟨h1,aV (by have:=of_decide_eq_false h; omega)⟩))
   refine .aq (Ξ:=λJ=>fl J/\(J.cL=0->r.1≠1/\∀ (i:Nat) (t:Tok),3<=i->J.aC.aZ[i]?=some t->t.bK≠x.bK)) (Par.bl (λ_=>.aq (l3 et _ _) λbh h=>.ag ⟨jk.Hm h,λe=>absurd e h.2⟩) (λh=>.ag ⟨jk,λ_=>aa h⟩)) λdQ mj=>?_;obtain ⟨mj,aA⟩:=mj;refine .go λz aW=>.go λgm rQ=>.ag ?_;obtain ⟨aO,aQ,aW⟩:=vC aW;obtain ⟨_,V6,rQ⟩:=vC rQ;have hle:=j.num;refine ⟨mj.a.set (t':=(⟨z.Name,z.Lit,x.bK,z.Level,z.ff,z.Tag⟩:Tok)) aW rfl rfl hle.2 (by simp),λe=>?_,mj.fi⟩;obtain ⟨aK,bu⟩:=aA e;have av:=mj.b e;refine av.Za (t':=(⟨z.Name,z.Lit,x.bK,z.Level,z.ff,z.Tag⟩:Tok)) aW (by omega) V6 sE λi t ar=>?_;by_cases acg:3<=i
   ·grind
   ·have:=av.aP i t (by omega) ar
    grind
  refine .go λy _=>.aq (Ξ:=fl) ?_ λJ aj=>.ag aj;refine Par.bl (λ_=>?_) (λ_=>.ag p6);refine .aq (Ξ:=λ_=>True) (λ_ _=>trivial) λc _=>?_;refine .aq (Ξ:=fl) (Par.bl (λ_=>.aq (l3 eS _ _) λbh h=>.ag (p6.Hm h)) (λ_=>.ag p6)) λmA qM=>?_;refine .go λz aW=>?_;obtain ⟨_,_,aW⟩:=vC aW;obtain ⟨h1,af⟩:=qM.FA (t':=(⟨z.Name,z.Lit,z.bK,z.Level,z.ff,d.Tag⟩:Tok)) aW rfl rfl rfl;exact .ag ⟨h1,af,qM.fi⟩
theorem O_ (m:ek) (x:Sym) (hm:fl m) (j:j5 x) (az:x.Name.size<=dp):Par (q6 m x) λr=>fl r.2:=by
 unfold q6;refine Par.bl (λ_=>.aq (O8 m x hm j az) λr ah=>.ag ah.1) (λ_=>.aq (Ξ:=λ_=>True) (λ_ _=>trivial) λk _=>Par.bl (λ_=>.ag hm) (λ_=>.aq (Ξ:=λ_=>True) (λ_ _=>trivial) λt _=>Par.bl (λ_=>.aq (l3 m _ _) λbh h=>.ag (hm.fail h)) (λ_=>.ag hm)))
theorem Yc (m:ek) (left:ByteArray) (a:Alt) (hm:fl m) (av:wi a) (aR:(∀ p∈a.Parts,j5 p.Sym)/\j5 a.Prec):Par (sY m left a) fl:=by
 have aA:=av.n;unfold sY;refine .aq (Ξ:=λ_=>True) (λ_ _=>trivial) λaX _=>?_;refine .aq (Ξ:=λr:ek × List Int × ByteArray × Int=>fl r.1) ?_ λaY aK=>?_
 ·refine Par.loop (λs=>fl s.1/\0<=s.2.2.2.2) ⟨hm,Int.le_refl 0⟩ λs az=>?_;obtain ⟨m1,rt,bl,at_,i⟩:=s;obtain ⟨az,aO⟩:=az;simp only at az aO ⊢;refine Par.ba (λaQ=>?_) (λ_=>.ag az);refine .aq (Ξ:=λJ:ek × List Int × ByteArray × Int=>fl J.1) ?_ λJ aj=>.ag ⟨aj,by show 0<=aH (i+1); rw [ch]; omega⟩;refine .go λy al=>.aq (Ξ:=λJ:ek × List Int × ByteArray × Int=>fl J.1) ?_ λJ aj=>.ag aj;have EJ:=(qi al);refine .aq (Ξ:=λJ:ek × List Int × ByteArray × Int=>fl J.1) ?_ λJ aj=>.ag aj;refine Par.bl (λ_=>?_) (λ_=>?_)
  ·exact .aq (O_ m1 y.Sym az (aR.1 y EJ) (av.parts y EJ).1) λr ah=>Par.ap λ_=>.ag ah
  ·exact .aq (Ξ:=λ_=>True) (λ_ _=>trivial) λJ _=>.ag ⟨az.a,az.b,az.fi⟩
 ·refine .aq (Ξ:=λ_=>True) (λ_ _=>trivial) λgq _=>?_;refine .aq (Ξ:=λJ:ek × Int=>fl J.1) ?_ λJ aj=>Par.ap λ_=>Par.ap λ_=>.ag ⟨aj.a,aj.b,aj.fi⟩;refine Par.bl (λ_=>?_) (λ_=>.ag aK);refine .aq (Ξ:=λ_=>True) (λ_ _=>trivial) λc _=>.aq (Ξ:=λJ:ek × Int=>fl J.1) ?_ λJ aj=>.ag aj;exact Par.bl (λ_=>.aq (O_ aY.1 a.Prec aK aR.2 av.prec) λr ah=>.ag ah) (λ_=>.aq (l3 aY.1 _ _) λbh h=>.ag (aK.fail h))
structure tm (g:bs):Prop where
 aP:∀ (i:Nat) (t:Tok),i<3->g.aZ[i]?=some t->t.bK<=0
 pos:∀ (i:Nat) (t:Tok),3<=i->g.aZ[i]?=some t->0<t.bK/\t.bK<=100000
 un:∀ (i J:Nat) (s t:Tok),g.aZ[i]?=some s->g.aZ[J]?=some t->0<s.bK->s.bK=t.bK->i=J
 l0:∀ t∈g.aZ,t.Name.size<=dp/\(t.Lit=true->t.Name.size=1)
 dk:∀ x∈g.bX,x.Name.size<=4 * dp
theorem Yf (s:Source) (av:nU s):Par (s5 s) λr=>r.2.1=0->tm r.1:=by
 have VD:=av.y1;have BM:=av.aE;unfold s5;refine .aq (Yg s av) λc aa=>Par.bl (λ_=>.ag λh=>absurd h (by decide)) (λiL=>?_);have ok:Lp s:=aa (by simpa using iL);refine .aq (Ξ:=λl=>l=List.replicate 3 false) (λa e=>by unfold nH at e; split at e <;> cases e; rfl) λaY jQ=>?_;subst jQ
 -- declarations
 refine .aq (Ξ:=λr:ek × ByteArray=>fl r.1) ?_ λbF cu=>?_
 ·refine Par.loop (λz=>fl z.1/\0<=z.2.2) ⟨⟨⟨rfl,Nat.le_refl 3,by show 3<=lim; unfold lim; omega,λt ar=>?_,λt ar=>?_⟩,λ_=>⟨λi t hi ar=>?_,λi J a b aR av aO he=>?_,λi t hi ar=>?_⟩,λy al=>by cases al⟩,Int.le_refl 0⟩ λz aW=>?_
  ·have ar:t∈[_,_,_]:=ar;simp only [List.mem_cons,List.not_mem_nil,or_false] at ar;rcases ar with rfl | rfl | rfl <;> exact ⟨by decide,λh=>by cases h⟩
  ·have ar:t∈[_,_,_]:=ar;simp only [List.mem_cons,List.not_mem_nil,or_false] at ar;rcases ar with rfl | rfl | rfl <;> decide
  ·have ar:t∈[_,_,_]:=List.mem_of_getElem? ar;simp only [List.mem_cons,List.not_mem_nil,or_false] at ar;rcases ar with rfl | rfl | rfl <;> decide
  ·have aR:a∈[_,_,_]:=List.mem_of_getElem? aR;simp only [List.mem_cons,List.not_mem_nil,or_false] at aR;rcases aR with rfl | rfl | rfl <;> exact absurd aO (by decide)
  ·have:=(List.getElem?_eq_some_iff.1 ar).1;have:i<3:=this;omega
  ·obtain ⟨m,st,i⟩:=z;obtain ⟨hm,aO⟩:=aW;simp only at hm aO ⊢;refine Par.ba (λaQ=>?_) (λ_=>.ag hm);refine .go λd aP=>?_;have jo:=qi aP;refine .aq (Ξ:=λ_=>True) (λ_ _=>trivial) λ_ _=>.aq (Ξ:=λ_=>True) (λ_ _=>trivial) λja _=>?_;refine .aq (Ξ:=λr:ek × ByteArray=>fl r.1) ?_ λr ah=>.ag ⟨ah,by show 0<=aH (i+1); rw [ch]; omega⟩;refine Par.loop (λz=>fl z.1/\0<=z.2.2) ⟨⟨hm.a,hm.b,hm.fi⟩,Int.le_refl 0⟩ λz aW=>?_;obtain ⟨m,st,k⟩:=z;obtain ⟨hm,Hu⟩:=aW;simp only at hm Hu ⊢;have El:=(av.decls d jo).n;refine Par.ba (λud=>?_) (λ_=>.ag hm);refine .aq (Ξ:=λr:ek × ByteArray=>fl r.1) ?_ λr ah=>.ag ⟨ah,by show 0<=aH (k+1); rw [ch]; omega⟩;refine Par.bl (λ_=>.go λx j=>?_) (λ_=>?_)
   ·have vA:=qi j;exact .aq (Ya m d x hm (ok.decls d jo x vA) ((av.decls d jo).syms x vA)) λbh gT=>.ag gT
   ·refine .aq (Ξ:=fl) (Par.bl (λ_=>.go λ_ _=>.go λ_ _=>.aq (l3 m _ _) λbh h=>.ag (hm.fail h)) (λ_=>.ag hm)) λbh gT=>.go λ_ _=>.ag gT
 -- what stands on the left
 refine .aq (Ξ:=fl) ?_ λcE A9=>?_
 ·refine Par.loop (λz=>fl z.1/\0<=z.2) ⟨cu,Int.le_refl 0⟩ λz aW=>?_;obtain ⟨m,i⟩:=z;obtain ⟨hm,aO⟩:=aW;simp only at hm aO ⊢;refine Par.ba (λaQ=>?_) (λ_=>.ag hm);refine .aq (Ξ:=fl) ?_ λr ah=>.ag ⟨ah,by show 0<=aH (i+1); rw [ch]; omega⟩;refine .go λr ah=>.aq (Ξ:=λ_=>True) (λ_ _=>trivial) λ_ _=>?_;refine .aq (Ξ:=fl) (Par.bl (λ_=>.aq (l3 m _ _) λbh h=>.ag (hm.fail h)) (λ_=>.ag hm)) λiC lB=>?_;refine .aq (Ξ:=λ_=>True) (λ_ _=>trivial) λ_ _=>?_;refine .aq (Ξ:=λl:List ByteArray=>∀ y∈l,y.size<=dp) (Par.bl (λ_=>Par.ap λ_=>.ag λy al=>?_) (λ_=>.ag lB.fi)) λl ai=>.ag ⟨lB.a,lB.b,ai⟩;rcases List.mem_append.1 al with al | al
  ·exact lB.fi y al
  ·rw [List.mem_singleton.1 al]; exact (av.rules r (qi ah)).left
 -- types and starts
 refine .aq (Ξ:=fl) ?_ λgM qN=>?_
 ·refine Par.loop (λz=>fl z.1) A9 λz hm=>?_;obtain ⟨m,i⟩:=z;simp only at hm ⊢;refine Par.ba (λaQ=>?_) (λ_=>.ag hm);refine .aq (Ξ:=fl) ?_ λr ah=>.ag ah;refine Par.loop (λz=>fl z.1) hm λz hm=>?_;obtain ⟨m,k⟩:=z;simp only at hm ⊢;refine .go λd _=>Par.ba (λaQ=>?_) (λ_=>.ag hm);refine .aq (Ξ:=fl) ?_ λr ah=>.ag ah;refine .go λ_ _=>.go λ_ _=>.aq (Ξ:=λ_=>True) (λ_ _=>trivial) λ_ _=>?_;exact .aq (Ξ:=fl) (Par.bl (λ_=>.aq (l3 m _ _) λbh h=>.ag (hm.fail h)) (λ_=>.ag hm)) λbh gT=>.ag gT
 refine .aq (Ξ:=λ_=>True) (λ_ _=>trivial) λvG _=>.aq (Ξ:=λ_=>True) (λ_ _=>trivial) λl8 _=>?_
 -- the alternatives
 refine .aq (Ξ:=fl) ?_ λbo np=>?_
 ·refine Par.loop (λz=>fl z.1/\0<=z.2) ⟨⟨qN.a,qN.b,qN.fi⟩,Int.le_refl 0⟩ λz aW=>?_;obtain ⟨m,i⟩:=z;obtain ⟨hm,aO⟩:=aW;simp only at hm aO ⊢;refine Par.ba (λaQ=>?_) (λ_=>.ag hm);refine .aq (Ξ:=fl) ?_ λr ah=>.ag ⟨ah,by show 0<=aH (i+1); rw [ch]; omega⟩;refine Par.loop (λz=>fl z.1/\0<=z.2) ⟨hm,Int.le_refl 0⟩ λz aW=>?_;obtain ⟨m,k⟩:=z;obtain ⟨hm,Hu⟩:=aW;simp only at hm Hu ⊢;refine .go λd aP=>Par.ba (λud=>?_) (λ_=>.ag hm);have jo:=qi aP;have El:=(av.rules d jo).n;refine .go λd1 Ig=>.go λd2 w3=>.go λa aR=>?_;rw [aP] at Ig w3;cases Ig; cases w3;have Nb:=qi aR;exact .aq (Yc m d.Left a hm ((av.rules d jo).alts a Nb) (ok.rules d jo a Nb)) λbh gT=>.ag ⟨gT,by show 0<=aH (k+1); rw [ch]; omega⟩
 refine Par.kE (λh=>.ag λaJ=>absurd aJ h) (λhe=>?_);have IT:=np.b he
 -- nonterminals
 refine .aq (Ξ:=λl:List fg=>1<=l.length/\∀ x∈l,x.Name.size<=4 * dp) ?_ λth A_=>?_
 ·refine Par.loop (λz=>1<=z.1.length/\∀ x∈z.1,x.Name.size<=4 * dp) ⟨Nat.le_refl 1,λx j=>?_⟩ λz aW=>?_
  ·rw [List.mem_singleton.1 j]; decide
  ·refine Par.bl (λ_=>.go λy al=>.go λ_ _=>.aq (Ξ:=λ_=>True) (λ_ _=>trivial) λ_ _=>Par.ap λ_=>.ag ⟨by show 1<=(z.1++[_]).length; simp,λx j=>?_⟩) (λ_=>.ag aW);rcases List.mem_append.1 j with j | j
   ·exact aW.2 x j
   ·rw [List.mem_singleton.1 j];have:=np.fi y (qi al);show y.size<=4 * dp;omega
 refine .aq (Ξ:=λl:List fg=>l.length<=24->∀ x∈l,x.Name.size<=4 * dp) ?_ λky Eb=>?_
 ·refine Par.loop (λz=>(z.1.length<=24->∀ x∈z.1,x.Name.size<=4 * dp)/\0<=z.2/\z.2<=z.1.length) ⟨λ_=>A_.2,by show (0:Int)<=1; decide,by have:=A_.1; show (1:Int)<=(th.length:Int); omega⟩ λz aW=>?_;obtain ⟨l,i⟩:=z;obtain ⟨ai,aO,hi⟩:=aW;simp only at ai aO hi ⊢;refine Par.ba (λhle=>.go λy al=>?_) (λ_=>.ag ai);refine Par.cat (Par.ap λsD=>.ag ⟨λhlen x j=>?_,by show 0<=aH (i+1); unfold lim at sD; simp only [List.length_cons,List.length_nil] at sD; rw [ch]; omega,by show aH (i+1)<=(((l++[_]).length:Nat):Int); unfold lim at sD; simp only [List.length_cons,List.length_nil,List.length_append] at sD ⊢; rw [ch]; omega⟩);have hlen:(l++[_]).length<=24:=hlen;simp only [List.length_append,List.length_cons,List.length_nil] at hlen;rcases List.mem_append.1 j with j | j
  ·exact ai (by omega) x j
  ·rw [List.mem_singleton.1 j];have eR:=(t18 i aO (by omega)).eq al;show (_++y).size<=4 * dp;rw [ByteArray.size_append];show 1+y.size<=4 * dp;simp only [dp]; omega
 -- numbers
 have dt:=np.a;have sD:bo.aC.aZ.length<=1000000000000000:=by have:=dt.hi; unfold lim at this; omega
 refine .aq (Ξ:=λl:List Tok=>∃ (i next:Int),l.length=bo.aC.aZ.length/\(l.length:Int)<=i/\(∀ (J:Nat) (t:Tok),l[J]?=some t->∃ t0,bo.aC.aZ[J]?=some t0/\t.Name=t0.Name/\t.Lit=t0.Lit/\((t.bK=t0.bK/\(¬ (3<=J/\(J:Int)<i)\/bo.cf[J]?=some true))\/(57346<=t.bK/\t.bK<next/\3<=J/\(J:Int)<i)))/\(∀ (J k:Nat) (s t:Tok),l[J]?=some s->l[k]?=some t->57346<=s.bK->s.bK=t.bK->J=k)/\57346<=next/\next<=57343+i/\i<=l.length) ?_ λlM Ec=>?_
 ·refine Par.loop (λz=>z.1.length=bo.aC.aZ.length/\(∀ (J:Nat) (t:Tok),z.1[J]?=some t->∃ t0,bo.aC.aZ[J]?=some t0/\t.Name=t0.Name/\t.Lit=t0.Lit/\((t.bK=t0.bK/\(¬ (3<=J/\(J:Int)<z.2.2)\/bo.cf[J]?=some true))\/(57346<=t.bK/\t.bK<z.2.1/\3<=J/\(J:Int)<z.2.2)))/\(∀ (J k:Nat) (s t:Tok),z.1[J]?=some s->z.1[k]?=some t->57346<=s.bK->s.bK=t.bK->J=k)/\57346<=z.2.1/\z.2.1<=57343+z.2.2/\3<=z.2.2/\z.2.2<=z.1.length) ⟨rfl,λJ t ar=>⟨t,ar,rfl,rfl,.inl ⟨rfl,.inl (by show ¬ (3<=J/\(J:Int)<3); omega)⟩⟩,λJ k s t az ar aO he=>?_,by show (57346:Int)<=57346; decide,by show (57346:Int)<=57343+3; decide,Int.le_refl 3,by have:=dt.lo; show (3:Int)<=(bo.aC.aZ.length:Nat); omega⟩ λz aW=>?_
  ·have:=dt.le s (List.mem_of_getElem? az); omega
  obtain ⟨l,next,i⟩:=z;obtain ⟨ai,fh,qO,k9,vl,VQ,oH⟩:=aW;simp only at ai fh qO k9 vl VQ oH ⊢;have hw:aH (i+1)=i+1:=by rw [ch]; omega
  have WR:aH (next+1)=next+1:=by rw [ch]; omega
  rw [hw,WR];refine Par.ba (λaQ=>?_) (λdw=>.ag ⟨i,next,ai,by omega,fh,qO,k9,vl,oH⟩);have Nv:i.toNat<l.length:=by omega
  refine .aq (Ξ:=λJ:List Tok × Int=>J.1.length=bo.aC.aZ.length/\(∀ (k:Nat) (t:Tok),J.1[k]?=some t->∃ t0,bo.aC.aZ[k]?=some t0/\t.Name=t0.Name/\t.Lit=t0.Lit/\((t.bK=t0.bK/\(¬ (3<=k/\(k:Int)<i+1)\/bo.cf[k]?=some true))\/(57346<=t.bK/\t.bK<J.2/\3<=k/\(k:Int)<i+1)))/\(∀ (a k:Nat) (s t:Tok),J.1[a]?=some s->J.1[k]?=some t->57346<=s.bK->s.bK=t.bK->a=k)/\57346<=J.2/\J.2<=57343+(i+1)) ?_ λJ aj=>.ag ⟨aj.1,aj.2.1,aj.2.2.1,aj.2.2.2.1,aj.2.2.2.2,by show 3<=i+1; omega,by show i+1<=(J.1.length:Nat); rw [aj.1,<- ai]; omega⟩;refine .go λgm rQ=>.aq (Ξ:=λJ:List Tok × Int=>J.1.length=bo.aC.aZ.length/\(∀ (k:Nat) (t:Tok),J.1[k]?=some t->∃ t0,bo.aC.aZ[k]?=some t0/\t.Name=t0.Name/\t.Lit=t0.Lit/\((t.bK=t0.bK/\(¬ (3<=k/\(k:Int)<i+1)\/bo.cf[k]?=some true))\/(57346<=t.bK/\t.bK<J.2/\3<=k/\(k:Int)<i+1)))/\(∀ (a k:Nat) (s t:Tok),J.1[a]?=some s->J.1[k]?=some t->57346<=s.bK->s.bK=t.bK->a=k)/\57346<=J.2/\J.2<=57343+(i+1)) ?_ λJ aj=>.ag aj;obtain ⟨_,_,rQ⟩:=vC rQ;refine Par.bl (λaN=>.go λy al=>.ag ?_) (λaN=>.ag ⟨ai,λk t ar=>?_,qO,k9,by omega⟩)
  ·obtain ⟨_,_,al⟩:=vC al;obtain ⟨t0,hp,cw,cd,fC⟩:=fh _ y al;have ac2:y.bK<next:=by
    rcases fC with ⟨fC,_⟩ | fC
    ·have:=dt.le t0 (List.mem_of_getElem? hp); omega
    ·exact fC.2.1
   have lF:∀ (k:Nat) (t:Tok),l[k]?=some t->t.bK<next:=λk t ar=>by
    obtain ⟨t1,f0,_,_,f3⟩:=fh k t ar;rcases f3 with ⟨f3,_⟩ | f3
    ·have:=dt.le t1 (List.mem_of_getElem? f0); omega
    ·exact f3.2.1
   refine ⟨by show (l.set _ _).length=_; rw [List.length_set]; exact ai,λk t ar=>?_,λa k s t az ar aO he=>?_,by show 57346<=next+1; omega,by show next+1<=_; omega⟩
   ·have ar:(l.set i.toNat _)[k]?=some t:=ar;rw [s' Nv] at ar;by_cases e:k=i.toNat
    ·rw [if_pos e] at ar;cases ar;subst e;exact ⟨t0,hp,cw,cd,.inr ⟨k9,by show next<next+1; omega,by omega,by omega⟩⟩
    ·rw [if_neg e] at ar;obtain ⟨t1,f0,f1,f2,f3⟩:=fh k t ar;refine ⟨t1,f0,f1,f2,?_⟩;rcases f3 with ⟨f3,f4⟩ | f3
     ·exact .inl ⟨f3,f4.imp (λh=>by omega) id⟩
     ·exact .inr ⟨f3.1,by show t.bK<next+1; omega,f3.2.2.1,by omega⟩
   ·have az:(l.set i.toNat _)[a]?=some s:=az;have ar:(l.set i.toNat _)[k]?=some t:=ar;rw [s' Nv] at az ar;by_cases e:a=i.toNat
    ·rw [if_pos e] at az;cases az;by_cases b_:k=i.toNat
     ·omega
     ·rw [if_neg b_] at ar;have h1:=lF k t ar;have he:next=t.bK:=he;omega
    ·rw [if_neg e] at az;by_cases b_:k=i.toNat
     ·rw [if_pos b_] at ar;cases ar;have h1:=lF a s az;have he:s.bK=next:=he;omega
     ·rw [if_neg b_] at ar;exact qO a k s t az ar aO he
  ·obtain ⟨t1,f0,f1,f2,f3⟩:=fh k t ar;refine ⟨t1,f0,f1,f2,?_⟩;rcases f3 with ⟨f3,f4⟩ | f3
   ·by_cases e:k=i.toNat
    ·refine .inl ⟨f3,.inr ?_⟩;rw [e,rQ];simpa using aN
    ·exact .inl ⟨f3,f4.imp (λh=>by omega) id⟩
   ·exact .inr ⟨f3.1,f3.2.1,f3.2.2.1,by omega⟩
 -- limits
 refine .aq (Ξ:=λc=>c=false->lM.length<=40/\ky.length<=24) ?_ λso Hv=>?_
 ·exact Par.ba (λ_=>.ag λh=>by cases h) (λh1=>Par.ba (λ_=>.ag λh=>by cases h) (λaf=>.ag λh=>by omega))
 refine .aq (Ξ:=λc=>c=false->so=false) ?_ λAo Hw=>?_
 ·refine Par.loop (λz=>z.1=false->so=false) id λz aW=>?_;refine Par.bl (λ_=>?_) (λ_=>.ag aW);exact .aq (Ξ:=λc=>c=false->so=false) (Par.bl (λ_=>.ag λh=>by cases h) (λh=>.go λ_ _=>.ag λ_=>aW h)) λc aa=>.ag aa
 refine Par.bl (λ_=>.ag λh=>absurd h (by decide)) (λaa=>.ag λ_=>?_);obtain ⟨jP,kf⟩:=Hv (Hw aa);obtain ⟨i,next,ai,dw,fh,qO,k9,vl,oH⟩:=Ec;refine ⟨λJ t aj ar=>?_,λJ t aj ar=>?_,λJ k s t az ar aO Bu=>?_,λt ar=>?_,Eb kf⟩
 ·obtain ⟨t0,hp,_,_,fC⟩:=fh J t ar;rcases fC with ⟨fC,_⟩ | fC
  ·rw [fC]; exact IT.aP J t0 aj hp
  ·omega
 ·have eY:J<lM.length:=(List.getElem?_eq_some_iff.1 ar).1;obtain ⟨t0,hp,_,_,fC⟩:=fh J t ar;rcases fC with ⟨fC,pk⟩ | fC
  ·rcases pk with pk | pk
   ·omega
   ·have h1:=(IT.gm J t0 aj hp).1 pk;have af:=dt.le t0 (List.mem_of_getElem? hp);omega
  ·omega
 ·by_cases HA:57346<=s.bK
  ·exact qO J k s t az ar HA Bu
  ·obtain ⟨eL,hp,_,_,fC⟩:=fh J s az;obtain ⟨t0,f0,_,_,f3⟩:=fh k t ar;rcases fC with ⟨fC,_⟩ | fC
   ·rcases f3 with ⟨f3,_⟩ | f3
    ·exact IT.un J k eL t0 hp f0 (by omega) (by omega)
    ·omega
   ·omega
 ·obtain ⟨J,aj,rfl⟩:=List.mem_iff_getElem.1 ar;obtain ⟨t0,hp,cw,cd,_⟩:=fh J _ (List.getElem?_eq_getElem aj);have:=dt.l0 t0 (List.mem_of_getElem? hp);rw [cw,cd]; exact this
theorem Qy:zY=some true:=by kernel_rfl
open Go Go.Own Go.Lib
theorem AM {a b:ByteArray}(h:a.data.toList=b.data.toList):a=b:=by
 cases a; cases b; congr; exact Array.ext' h
theorem iW (a b:ByteArray):(a++b).data.toList=a.data.toList++b.data.toList:=by rw [ByteArray.data_append,Array.toList_append]
theorem pY (a:ByteArray):a.size=a.data.toList.length:=(Array.length_toList ..).symm
theorem Sb {a:ByteArray}(h:a.size=0):a=⟨#[]⟩:=AM (List.eq_nil_of_length_eq_zero (by rw [<- pY,h]))
theorem fB (a b:ByteArray):(a++b).size=a.size+b.size:=ByteArray.size_append
theorem XP (u:Nat):1<=(decDigits u).length:=by rw [decDigits_length]; exact nDigits_pos u
theorem Ck {u:Nat}(h:u<18446744073709551616):(decDigits u).length<=20:=by
 rw [decDigits_length];rcases Nat.eq_zero_or_pos u with rfl | h1
 ·rw [nDigits_small (by omega)]; omega
 ·have:=numDigits_eq u h1 h
  split at this <;> omega
theorem Mm (u:Nat) (hu:u<18446744073709551616) (f:Int × ByteArray->Option ((Int × ByteArray) ⊕ ByteArray))
  (aS:f=λ(cS:Int × ByteArray) =>
((bif decide (0<cS.1) then some true else some (decide (cS.2=⟨#[]⟩)))).bind λnk =>
(bif nk then
(pJ cS.1 10).bind λdD =>
(eG (strOfNums [rn (IntKind.u64.wrap (48+dD))]) cS.2).bind λbE =>
(pI cS.1 10).bind λcb =>
some (.inl (cb,bE))
else
some (.inr cS.2))):b0 (R:=ByteArray) f ((u:Int),⟨#[]⟩)=some ⟨(decDigits u).toArray⟩:=by
 suffices h:Tot (b0 (R:=ByteArray) f ((u:Int),⟨#[]⟩)) λr=>r=⟨(decDigits u).toArray⟩ by
  obtain ⟨r,ah,e⟩:=h; rw [ah,e]
 refine Tot.loop (λs=>∃ m:Nat,s.1=m/\m<18446744073709551616/\((s.2.size=0/\m=u)\/(0<s.2.size/\(if m=0 then [] else decDigits m)++s.2.data.toList=decDigits u)))
  (λs=>if s.1=0 then (if s.2.size=0 then 1 else 0) else (decDigits s.1.toNat).length+1) ⟨u,rfl,hu,.inl ⟨rfl,rfl⟩⟩ ?_ ?_
 ·show (if (u:Int)=0 then _ else _)<1000000000000000000
  have:=Ck hu;split
  ·split <;> omega
  ·simp only [Int.toNat_natCast]; omega
 ·rintro ⟨x,s⟩ ⟨m,j,hm,az⟩;simp only at j az;subst j;rw [aS];by_cases Nt:0<m\/s.size=0
  ·have aa:(bif decide (0<((m:Int),s).1) then some true else some (decide (((m:Int),s).2=⟨#[]⟩)))=some true:=by
    simp only;by_cases aO:0<(m:Int)
    ·rw [decide_eq_true aO]; rfl
    ·rw [decide_eq_false aO];show some (decide (s=⟨#[]⟩))=some true;rw [decide_eq_true (Sb (by omega))]
   simp only [aa,Option.bind_some,cond_true];have Et:(m:Int).tmod 10=((m % 10:Nat):Int):=by
    rw [Int.tmod_eq_emod_of_nonneg (by omega)]; omega
   have hdiv:IntKind.u64.wrap ((m:Int).tdiv 10)=((m / 10:Nat):Int):=by
    rw [Int.tdiv_eq_ediv_of_nonneg (by omega),IntKind.wrap_u64]; omega
   have VC:rn (IntKind.u64.wrap (48+(m:Int).tmod 10))=((48+m % 10:Nat):Int):=by
    show IntKind.u8.wrap _=_;rw [Et,IntKind.wrap_u64,IntKind.wrap_u8]; omega
   have gy:(strOfNums [((48+m % 10:Nat):Int)]).data.toList=[UInt8.ofNat (48+m % 10)]:=rfl;have eR:(strOfNums [((48+m % 10:Nat):Int)]).size=1:=strOfNums_size _
   -- what is there behind the step
   have iK:(if m / 10=0 then [] else decDigits (m / 10))++(UInt8.ofNat (48+m % 10)::s.data.toList)=decDigits u:=by
    have bH:(if m / 10=0 then [] else decDigits (m / 10))++[UInt8.ofNat (48+m % 10)]=decDigits m:=by
     by_cases rL:m<10
     ·rw [if_pos (by omega),decDigits,dif_pos rL,Nat.mod_eq_of_lt rL]; rfl
     ·rw [if_neg (by omega)]
      conv=>rhs; rw [decDigits,dif_neg rL]
    rw [show UInt8.ofNat (48+m % 10)::s.data.toList=[UInt8.ofNat (48+m % 10)]++s.data.toList from rfl,<- List.append_assoc,bH]
    rcases az with ⟨aO,rfl⟩ | ⟨aO,h1⟩
    ·rw [List.eq_nil_of_length_eq_zero (l:=s.data.toList) (by rw [<- pY]; exact aO),List.append_nil]
    ·rw [if_neg (by omega)] at h1; exact h1
   have adf:s.size+1<=20:=by
    have h1:=congrArg List.length iK;have af:=Ck hu;rw [List.length_append,List.length_cons,<- pY] at h1;omega
   refine .bi (.pJ (by omega) (.bi ?_));rw [VC];refine .cat (by rw [eR]; omega) (.bi (.pI (by omega) (.ag ?_)));rw [hdiv];refine ⟨⟨m / 10,rfl,by omega,.inr ⟨by rw [fB,eR]; omega,?_⟩⟩,?_⟩
   ·show _++(strOfNums [((48+m % 10:Nat):Int)]++s).data.toList=_;rw [iW,gy]; exact iK
   ·show (if ((m / 10:Nat):Int)=0 then (if (strOfNums [((48+m % 10:Nat):Int)]++s).size=0 then 1 else 0) else (decDigits ((m / 10:Nat):Int).toNat).length+1)<(if (m:Int)=0 then (if s.size=0 then 1 else 0) else (decDigits (m:Int).toNat).length+1)
    rw [fB,eR];simp only [Int.toNat_natCast];by_cases aO:m=0
    ·have:s.size=0:=by omega
     subst aO;simp [this]
    ·have Bz:¬ (m:Int)=0:=by omega
     rw [if_neg Bz];by_cases rL:m<10
     ·rw [if_pos (show ((m / 10:Nat):Int)=0 by omega),if_neg (by omega)];have:=XP m; omega
     ·rw [if_neg (show ¬ ((m / 10:Nat):Int)=0 by omega)];have:decDigits m=decDigits (m / 10)++[UInt8.ofNat (48+m % 10)]:=by conv=>lhs; rw [decDigits,dif_neg rL]
      rw [this,List.length_append]; simp
  ·have aO:m=0:=by omega
   subst aO;have NQ:0<s.size:=by omega
   have cz:¬ s=⟨#[]⟩:=λe=>by rw [e] at NQ; exact absurd NQ (by decide)
   simp only [Int.natCast_zero,Int.lt_irrefl,decide_false,cond_false,Option.bind_some,decide_eq_false cz];refine .ag ?_;rcases az with ⟨h,_⟩ | ⟨_,h⟩
   ·omega
   ·rw [if_pos rfl] at h;exact AM h
theorem k2 (n:Int) (h:-9223372036854775808<=n/\n<=9223372036854775807):pG n=some ⟨(nC n).toArray⟩:=by
 rw [Jn h];unfold pG Lib.itoa;by_cases aO:n<0
 ·have e:IntKind.u64.wrap (-(IntKind.u64.wrap n))=((n.natAbs:Nat):Int):=by
   rw [IntKind.wrap_u64,IntKind.wrap_u64]; omega
  simp only [decide_eq_true aO,cond_true,Option.bind_some,e,if_pos aO];rw [Mm n.natAbs (by omega) _ rfl,Option.bind_some];have eR:({ data:=(decDigits n.natAbs).toArray }:ByteArray).size<=20:=by rw [pY]; exact Ck (by omega)
  have:eG ⟨#[45]⟩ ⟨(decDigits n.natAbs).toArray⟩=some ⟨(45::decDigits n.natAbs).toArray⟩:=by
   unfold eG;rw [if_pos (by have:(⟨#[45]⟩:ByteArray).size=1:=rfl; omega)];rfl
  rw [this]; rfl
 ·have e:IntKind.u64.wrap n=((n.toNat:Nat):Int):=by rw [IntKind.wrap_u64]; omega
  simp only [decide_eq_false aO,cond_false,Option.bind_some,e,if_neg aO];rw [Mm n.toNat (by omega) _ rfl]; rfl
theorem EO (n:Int) (h:-9223372036854775808<=n/\n<=9223372036854775807):(nC n).length<=21:=by
 rw [Jn h];unfold Lib.itoa;split
 ·have:=Ck (u:=n.natAbs) (by omega); simp only [List.length_cons]; omega
 ·have:=Ck (u:=n.toNat) (by omega); omega
theorem DT (n:Int) (h:-9223372036854775808<=n/\n<=9223372036854775807):sO n=some ⟨(nC n).toArray⟩:=by unfold sO; rw [if_pos h]
def i64 (n:Int):Prop:=-9223372036854775808<=n/\n<=9223372036854775807
def cB:Nat->List Int->List UInt8
 | _,[]=>[]
 | k,x::l=>(if 0<k then [44,32] else [])++(nC x++cB (k+1) l)
def qZ:List UInt8:=[118,97,114,32]
def q0:List UInt8:=[32,61,32,91,93,105,110,116,123]
def vJ (name:ByteArray) (l:List Int):List UInt8:=qZ++name.data.toList++q0++cB 0 l++[125]
theorem Oe:∀ (l:List Int) (k:Nat),(∀ x∈l,i64 x)->(cB k l).length<=23 * l.length
 | [],k,_=>by simp [cB]
 | x::l,k,h=>by
  have h1:=EO x (h x (by simp));have af:=Oe l (k+1) λy al=>h y (by simp [al]);simp only [cB,List.length_append,List.length_cons]
  split <;> simp <;> omega
theorem Sp {x s:ByteArray}(h:x.size+s.size<=140737488355328):ni x s=some (x++s):=by unfold ni; rw [if_pos h]
theorem _root_.Go.Own.Tot.mK {Φ:ByteArray->Prop}{s u:ByteArray}(h:s.size+u.size<=140737488355328) (hk:Φ (s++u)):Tot (ni s u) Φ:=⟨_,Sp h,hk⟩
theorem Cc:(⟨#[118,97,114,32]⟩:ByteArray).size=4:=rfl
theorem JG:(⟨#[32,61,32,91,93,105,110,116,123]⟩:ByteArray).size=9:=rfl
theorem EY:(⟨#[44,32]⟩:ByteArray).size=2:=rfl
theorem JF:(⟨#[125]⟩:ByteArray).size=1:=rfl
theorem N8 {α:Type}{l:List α}{i:Nat}(h:i<l.length):idx l (i:Int)=some l[i]:=by
 simp [idx,h]
theorem Mn {l:List Int}{i:Nat}(h:i<l.length):l.drop i=l[i]::l.drop (i+1):=(List.getElem_cons_drop h).symm
theorem vE {n:Int}(h:i64 n):({ data:=(nC n).toArray }:ByteArray).size<=21:=by rw [pY]; exact EO n h
theorem L1 (name:ByteArray) (l:List Int) (aA:name.size<=1000000000) (ai:l.length<=1000000000) (ah:∀ x∈l,i64 x):vO name l=some ⟨(vJ name l).toArray⟩:=by
 suffices h:Tot (vO name l) λr=>r.data.toList=vJ name l by
  obtain ⟨r,ah,e⟩:=h; rw [ah]; exact congrArg some (AM e)
 unfold vO;refine .bi (.cat (by rw [Cc]; omega) (.bi (.cat (by rw [fB,Cc,JG]; omega) (.bi (.mK (by simp only [fB,Cc,JG]; have:(⟨#[]⟩:ByteArray).size=0:=rfl; omega) ?_)))));have pw:((⟨#[]⟩:ByteArray)++((⟨#[118,97,114,32]⟩:ByteArray)++name++⟨#[32,61,32,91,93,105,110,116,123]⟩)).data.toList=qZ++name.data.toList++q0:=by
  rw [iW,iW,iW]; rfl
 refine .aq (Ξ:=λr=>r.data.toList=qZ++name.data.toList++q0++cB 0 l/\r.size<=13+name.size+23 * l.length) (Tot.count (λs=>s.2) l.length
  (λs=>∃ i:Nat,s.2=i/\i<=l.length/\s.1.data.toList++cB i (l.drop i)=qZ++name.data.toList++q0++cB 0 l/\s.1.size<=13+name.size+23 * i) ⟨0,rfl,by omega,by rw [pw]; rfl,by rw [pY,pw,List.length_append,List.length_append,<- pY]; show 4+name.size+9<=_; omega⟩ (by simp only; omega) ?_) ?_
 ·rintro ⟨s,x⟩ ⟨i,j,hi,he,aW⟩;simp only at j he aW;subst j;refine Tot.ba (λaQ=>?_) (λdw=>.ag ⟨by
   have:i=l.length:=by omega
   subst this;rw [List.drop_length] at he;simpa [cB] using he,by
    have:i=l.length:=by omega
    subst this;exact aW⟩)
  have jO:i<l.length:=by simpa using aQ
  simp only [N8 jO,Option.bind_some];have av:=ah l[i] (List.getElem_mem jO);rw [Mn jO] at he;have fin:∀ J:ByteArray,J.data.toList=s.data.toList++(if 0<i then [44,32] else [])->J.size<=s.size+2->Tot ((sO l[i]).bind λdS=>(ni J dS).bind λeQ=>some (.inl (eQ,aH ((i:Int)+1))))
    (gN (λ(cn:ByteArray × Int)=>(∃ lY:Nat,cn.2=lY/\lY<=l.length/\cn.1.data.toList++cB lY (l.drop lY)=qZ++name.data.toList++q0++cB 0 l/\cn.1.size<=13+name.size+23 * lY)/\(i:Int)<cn.2/\cn.2<=l.length) λ(r:ByteArray)=>r.data.toList=qZ++name.data.toList++q0++cB 0 l/\r.size<=13+name.size+23 * l.length):=by
   intro J aj VU;rw [DT _ av,Option.bind_some];have D':=vE av;refine .bi (.mK (by omega) (.ag ?_));have hw:aH ((i:Int)+1)=((i+1:Nat):Int):=by rw [Qw (by omega) (by omega)]; omega
   refine ⟨⟨i+1,hw,by omega,?_,by rw [fB]; omega⟩,by rw [hw]; omega,by rw [hw]; omega⟩;show (J++{ data:=(nC l[i]).toArray }).data.toList++_=_;rw [iW,aj,<- he];simp [cB]
  by_cases aO:0<i
  ·simp only [decide_eq_true (show (0:Int)<(i:Int) by omega),cond_true];refine .bi (.bi (.mK (by rw [EY]; omega) (.ag ?_)));exact fin _ (by rw [iW,if_pos aO]) (by rw [fB,EY]; omega)
  ·simp only [decide_eq_false (show ¬ (0:Int)<(i:Int) by omega),cond_false,Option.bind_some];exact fin s (by rw [if_neg aO,List.append_nil]) (by omega)
 ·rintro r ⟨iA,ie⟩;refine .bi (.mK (by rw [JF]; omega) (.bi ?_));have cz:(r++(⟨#[125]⟩:ByteArray)).size≠0:=by rw [fB,JF]; omega
  refine ⟨_,by unfold wE; rw [if_neg cz],.ag ?_⟩;rw [iW,iA]; rfl
theorem sq (name:ByteArray) (l:List Int) (aA:name.size<=1000000000) (ai:l.length<=1000000000) (ah:∀ x∈l,i64 x):xG name l=some ⟨(vJ name l).toArray⟩:=by
 suffices h:Tot (xG name l) λr=>r.data.toList=vJ name l by
  obtain ⟨r,ah,e⟩:=h; rw [ah]; exact congrArg some (AM e)
 unfold xG;refine .bi (.cat (by rw [Cc]; omega) (.bi (.cat (by rw [fB,Cc,JG]; omega) ?_)));have pw:(((⟨#[118,97,114,32]⟩:ByteArray)++name++⟨#[32,61,32,91,93,105,110,116,123]⟩)).data.toList=qZ++name.data.toList++q0:=by
  rw [iW,iW]; rfl
 refine .aq (Ξ:=λr=>r.data.toList=qZ++name.data.toList++q0++cB 0 l/\r.size<=13+name.size+23 * l.length) (Tot.count (λs=>s.2) l.length
  (λs=>∃ i:Nat,s.2=i/\i<=l.length/\s.1.data.toList++cB i (l.drop i)=qZ++name.data.toList++q0++cB 0 l/\s.1.size<=13+name.size+23 * i) ⟨0,rfl,by omega,by rw [pw]; rfl,by rw [pY,pw,List.length_append,List.length_append,<- pY]; show 4+name.size+9<=_; omega⟩ (by simp only; omega) ?_) ?_
 ·rintro ⟨s,x⟩ ⟨i,j,hi,he,aW⟩;simp only at j he aW;subst j;refine Tot.ba (λaQ=>?_) (λdw=>.ag ⟨by
   have:i=l.length:=by omega
   subst this;rw [List.drop_length] at he;simpa [cB] using he,by
    have:i=l.length:=by omega
    subst this;exact aW⟩)
  have jO:i<l.length:=by simpa using aQ
  have av:=ah l[i] (List.getElem_mem jO);rw [Mn jO] at he;have fin:∀ J:ByteArray,J.data.toList=s.data.toList++(if 0<i then [44,32] else [])->J.size<=s.size+2->Tot ((idx l (i:Int)).bind λbE=>(pG bE).bind λcb=>(eG J cb).bind λdS=>some (.inl (dS,aH ((i:Int)+1))))
    (gN (λ(cn:ByteArray × Int)=>(∃ lY:Nat,cn.2=lY/\lY<=l.length/\cn.1.data.toList++cB lY (l.drop lY)=qZ++name.data.toList++q0++cB 0 l/\cn.1.size<=13+name.size+23 * lY)/\(i:Int)<cn.2/\cn.2<=l.length) λ(r:ByteArray)=>r.data.toList=qZ++name.data.toList++q0++cB 0 l/\r.size<=13+name.size+23 * l.length):=by
   intro J aj VU;rw [N8 jO,Option.bind_some,k2 _ av,Option.bind_some];have D':=vE av;refine .bi (.cat (by omega) (.ag ?_));have hw:aH ((i:Int)+1)=((i+1:Nat):Int):=by rw [Qw (by omega) (by omega)]; omega
   refine ⟨⟨i+1,hw,by omega,?_,by rw [fB]; omega⟩,by rw [hw]; omega,by rw [hw]; omega⟩;show (J++{ data:=(nC l[i]).toArray }).data.toList++_=_;rw [iW,aj,<- he];simp [cB]
  by_cases aO:0<i
  ·simp only [decide_eq_true (show (0:Int)<(i:Int) by omega),cond_true];refine .bi (.bi (.cat (by rw [EY]; omega) (.ag ?_)));exact fin _ (by rw [iW,if_pos aO]) (by rw [fB,EY]; omega)
  ·simp only [decide_eq_false (show ¬ (0:Int)<(i:Int) by omega),cond_false,Option.bind_some];exact fin s (by rw [if_neg aO,List.append_nil]) (by omega)
 ·rintro r ⟨iA,ie⟩;refine .bi (.cat (by rw [JF]; omega) (.ag ?_));rw [iW,iA]; rfl
theorem Ji (n:Int):i64 (aH n):=by unfold i64; rw [ch]; omega
theorem ZC (s:ByteArray) (k:Int) (h:s.size<=dp) (hk:0<=k/\k<=s.size):Tot (vV s k) λn=>0<=n/\k+n<=s.size:=by
 unfold vV;refine Tot.aq (Ξ:=λn=>0<=n/\k+n<=s.size) ?_ λa aR=>.ag aR;refine Tot.count (λi=>i) (s.size - k) (λi=>0<=i/\k+i<=s.size) ⟨by omega,by omega⟩ (by show ((s.size:Int) - k) - 0<_; simp only [dp] at h; omega) λi ⟨aO,h1⟩=>?_;simp only [dp] at h;have e:aH (k+i)=k+i:=by rw [ch]; omega
 rw [e];have go:∀ c:Bool,(c=true->k+i<s.size)->Tot (bif c then some (.inl (aH (i+1))) else some (.inr i)) (gN (λcn:Int=>(0<=cn/\k+cn<=s.size)/\i<cn/\cn<=s.size - k) (λr:Int=>0<=r/\k+r<=s.size)):=by
  intro c aa;refine Tot.bl (λaf=>.ag ?_) (λ_=>.ag ⟨aO,h1⟩);have:=aa af;have e:aH (i+1)=i+1:=by rw [ch]; omega
  show (0<=aH (i+1)/\k+aH (i+1)<=s.size)/\i<aH (i+1)/\aH (i+1)<=s.size - k;rw [e]; omega
 apply Tot.bi;refine Tot.ba (λaf=>?_) (λaf=>.ag (go false (by simp)));apply Tot.bi;refine Tot.jM ⟨by omega,af⟩ (Tot.aq (t114 _) λc _=>?_);refine Tot.bl (λ_=>.ag (go _ λ_=>af)) (λ_=>Tot.bl (λ_=>?_) (λ_=>.ag (go _ λ_=>af)));apply Tot.bi;refine Tot.jM ⟨by omega,af⟩ (Tot.aq (t96 _) λc _=>?_);refine Tot.bl (λ_=>.ag (go _ λ_=>af)) (λ_=>?_);apply Tot.bi;exact Tot.jM ⟨by omega,af⟩ (.ag (go _ λ_=>af))
theorem Ml (s:ByteArray) (k:Int) (h:s.size<=dp) (hk:0<=k/\k<=s.size):Tot (b0 (R:=Int × Int) (λ(gk:Int × Int) =>
((bif decide (gk.2<(s.size:Int)) then ((hG s gk.2).bind λeZ=>((vW eZ).bind λfN=>some fN)) else some false)).bind λtG =>
(bif tG then
((bif decide (aH (gk.2 - k)<3) then
(hG s gk.2).bind λfZ =>
some (aH ((aH (10 * gk.1))+(aH (rn (fZ - 48)))))
else
some gk.1)).bind λuv =>
some (.inl (uv,aH (gk.2+1)))
else
some (.inr (gk.1,gk.2)))) (0,k)) λr=>i64 r.1/\k<=r.2/\r.2<=s.size:=by
 simp only [dp] at h;refine Tot.count (λz=>z.2) s.size (λz=>i64 z.1/\k<=z.2/\z.2<=s.size) ⟨(by unfold i64; decide:i64 0),Int.le_refl k,hk.2⟩ (by show (s.size:Int) - k<_; omega) λz aW=>?_;obtain ⟨v,i⟩:=z;obtain ⟨h1,af,aK⟩:=aW;simp only at h1 af aK ⊢;refine .aq (Ξ:=λc=>c=true->i<s.size) (Tot.ba (λai=>.bi (.jM ⟨by omega,ai⟩ (.aq (t96 _) λ_ _=>.ag λ_=>ai))) (λ_=>.ag λh=>by cases h)) λc aa=>Tot.bl (λar=>?_) (λ_=>.ag ⟨h1,af,aK⟩);have ai:=aa ar;refine .aq (Ξ:=i64) (Tot.ba (λ_=>.bi (.jM ⟨by omega,ai⟩ (.ag (Ji _)))) (λ_=>.ag h1)) λeh hv=>.ag ?_;have e:aH (i+1)=i+1:=by rw [ch]; omega
 show (i64 eh/\k<=aH (i+1)/\aH (i+1)<=s.size)/\i<aH (i+1)/\aH (i+1)<=s.size;rw [e];exact ⟨⟨hv,by omega,by omega⟩,by omega,by omega⟩
theorem G' (s:ByteArray) (m n:Int) (h:0<=m/\m<=n/\n<=s.size):(oz s m n).size<=s.size:=by
 unfold oz;simp [ByteArray.size_extract];omega
theorem t75 (s:ByteArray) (i:Int) (h:s.size<=dp) (aO:0<=i) (h1:i<s.size):Tot (CQ s i) λr=>r.2.2=0->r.2.1=0\/(0<r.2.1/\i+r.2.1<=s.size/\r.1.Text.size=0/\r.1.Tag.size<=s.size/\i64 r.1.N):=by
 unfold CQ;have av:(s.size:Int)<=1000000000000:=by simp only [dp] at h; omega
 have z64:i64 0:=by unfold i64; decide
 have gL:aH (i+1)=i+1:=by rw [ch]; omega
 have fw:aH (i+1+1)=i+1+1:=by rw [ch]; omega
 simp only [gL,fw];refine .aq (Ξ:=λc=>c=true->i+1<s.size) (Tot.ba (λai=>.bi (.jM ⟨by omega,ai⟩ (.ag λ_=>ai))) (λ_=>.ag λh=>by cases h)) λj_ Vt=>Tot.bl (λaK=>?_) (λ_=>?_)
 ·have ai:=Vt aK;refine .aq (ZC s (i+1+1) h ⟨by omega,by omega⟩) λn aA=>?_;have wc:aH (i+1+1+n)=i+1+1+n:=by rw [ch]; omega
  have we:aH (i+1+n)=i+1+n:=by rw [ch]; omega
  have Am:aH (i+1+n+2)=i+1+n+2:=by rw [ch]; omega
  have An:aH (i+1+n+2+1)=i+1+n+2+1:=by rw [ch]; omega
  simp only [wc,we,Am,An];refine .aq (Ξ:=λc=>c=false->1<=n/\i+1+1+n<s.size) ?_ λhI rL=>Tot.bl (λ_=>.ag λ_=>.inl rfl) (λaS=>?_)
  ·exact Tot.ba (λ_=>.ag λh=>by cases h) (λaB=>Tot.ba (λ_=>.ag λh=>by cases h) (λa2=>Tot.ba (λ_=>.ag λh=>by cases h) (λa3=>.bi (.jM ⟨by omega,by omega⟩ (.ag λ_=>⟨by omega,by omega⟩)))))
  ·obtain ⟨vl,oK⟩:=rL aS;refine .bi (.cut ⟨by omega,by omega,by omega⟩ ?_);have aa:=G' s (i+1+1) (i+1+1+n) ⟨by omega,by omega,by omega⟩;refine .aq (Ξ:=λc=>c=true->i+1+n+2<s.size) (Tot.ba (λai=>.bi (.jM ⟨by omega,ai⟩ (.ag λ_=>ai))) (λ_=>.ag λh=>by cases h)) λmL Nf=>Tot.bl (λMS=>.ag λ_=>.inr ⟨?_,?_,rfl,aa,z64⟩) (λ_=>?_)
   ·have:=Nf MS; show 0<aH _; rw [ch]; omega
   ·have:=Nf MS; show i+aH _<=_; rw [ch]; omega
   ·refine .aq (Ml s (i+1+n+2) h ⟨by omega,by omega⟩) λr ah=>?_;obtain ⟨q9,jY⟩:=r;obtain ⟨g1,g2,g3⟩:=ah;simp only at g1 g2 g3 ⊢;refine Tot.ba (λ_=>.ag λ_=>.inl rfl) (λcz=>Tot.ba (λ_=>.ag λh=>by cases h) (λ_=>.ag λ_=>.inr ⟨?_,?_,rfl,aa,g1⟩))
    ·show 0<aH _; rw [ch]; omega
    ·show i+aH _<=_; rw [ch]; omega
 ·refine .aq (Ξ:=λc=>c=true->i+1<s.size) (Tot.ba (λai=>.bi (.jM ⟨by omega,ai⟩ (.ag λ_=>ai))) (λ_=>.ag λh=>by cases h)) λDQ Ng=>Tot.bl (λy7=>.ag λ_=>.inr ⟨?_,?_,rfl,by show 0<=_; omega,z64⟩) (λ_=>?_)
  ·have:=Ng y7; show 0<aH _; rw [ch]; omega
  ·have:=Ng y7; show i+aH _<=_; rw [ch]; omega
  ·refine .aq (Ml s (i+1) h ⟨by omega,by omega⟩) λr ah=>?_;obtain ⟨q9,jY⟩:=r;obtain ⟨g1,g2,g3⟩:=ah;simp only at g1 g2 g3 ⊢;refine Tot.ba (λ_=>.ag λ_=>.inl rfl) (λcz=>Tot.ba (λ_=>.ag λh=>by cases h) (λ_=>.ag λ_=>.inr ⟨?_,?_,rfl,by show 0<=_; omega,g1⟩))
   ·show 0<aH _; rw [ch]; omega
   ·show i+aH _<=_; rw [ch]; omega
structure tt (n:Nat) (p:Piece):Prop where
 x:p.Text.size<=n
 t:p.Tag.size<=n
 n:i64 p.N
theorem tt.Qo (n:Nat) (s:ByteArray) (h:s.size<=n):tt n ⟨1,s,0,⟨#[]⟩⟩:=⟨h,Nat.zero_le _,(by unfold i64; decide:i64 0)⟩
theorem SF (s:ByteArray) (h:s.size<=1000):Tot (CK s) λr=>r.2=0->r.1.length<=2 * s.size+1/\∀ p∈r.1,tt s.size p:=by
 unfold CK;have aN:s.size<=dp:=by simp only [dp]; omega
 refine .aq (t73 s aN) λaX _=>Tot.bl (λ_=>.ag λh=>by cases h) (λ_=>?_);refine .aq (Ξ:=gN (λr:List Piece × Int=>(r.1.length:Int)<=2 * s.size/\0<=r.2/\r.2<=s.size/\∀ p∈r.1,tt s.size p) (λr:List Piece × Int=>r.2≠0)) ?_ λx j=>?_
 ·refine Tot.count (λz=>z.2.2) s.size (λz=>(z.1.length:Int)<=2 * z.2.2/\0<=z.2.1/\z.2.1<=z.2.2/\z.2.2<=s.size/\∀ p∈z.1,tt s.size p) ⟨Int.le_refl 0,Int.le_refl 0,Int.le_refl 0,by show (0:Int)<=_; omega,λp au=>by cases au⟩ (by show (s.size:Int) - 0<_; omega) λz aW=>?_;obtain ⟨l,ep,i⟩:=z;obtain ⟨h1,af,aK,bu,cu⟩:=aW;simp only at h1 af aK bu cu ⊢;have e:aH (i+1)=i+1:=by rw [ch]; omega
  refine Tot.ba (λaQ=>?_) (λdw=>.ag ⟨by show (l.length:Int)<=_; omega,af,by show ep<=_; omega,cu⟩);have next:gN (λz:List Piece × Int × Int=>((z.1.length:Int)<=2 * z.2.2/\0<=z.2.1/\z.2.1<=z.2.2/\z.2.2<=s.size/\∀ p∈z.1,tt s.size p)/\i<z.2.2/\z.2.2<=s.size) (gN (λr:List Piece × Int=>(r.1.length:Int)<=2 * s.size/\0<=r.2/\r.2<=s.size/\∀ p∈r.1,tt s.size p) (λr:List Piece × Int=>r.2≠0)) (.inl (l,ep,aH (i+1))):=by
   rw [e];exact ⟨⟨by show (l.length:Int)<=2 * (i+1); omega,af,by show ep<=i+1; omega,by show i+1<=_; omega,cu⟩,by show i<i+1; omega,by show i+1<=_; omega⟩
  refine .aq (t74 s i aN (by omega) aQ) λb2 mP=>Tot.ba (λj=>.ag ⟨⟨by show (l.length:Int)<=2 * b2; omega,af,by show ep<=b2; omega,mP,cu⟩,j,mP⟩) (λ_=>?_);refine .bi (.jM ⟨by omega,aQ⟩ (Tot.kE (λ_=>.ag next) (λ_=>?_)));refine .aq (t75 s i aN (by omega) aQ) λr ah=>?_;obtain ⟨p,n,ace⟩:=r;simp only at ah ⊢;refine Tot.kE (λcz=>.ag cz) (λhe=>Tot.ba (λ_=>.ag next) (λaA=>?_));rcases ah he with aO | ⟨g1,g2,g3,g4,g5⟩
  ·exact absurd aO aA
  refine .aq (Ξ:=λL:List Piece=>(L.length:Int)<=2 * i+1/\∀ p∈L,tt s.size p) (Tot.ba (λn4=>.bi (.cut ⟨af,by omega,by omega⟩ (.bi (.ap (by simp [lim]; omega) (.ag ⟨by simp; omega,λq a7=>?_⟩))))) (λ_=>.ag ⟨by omega,cu⟩)) λL ix=>?_
  ·rcases List.mem_append.1 a7 with a7 | a7
   ·exact cu q a7
   ·rw [List.mem_singleton.1 a7];exact .Qo _ _ (G' s _ _ ⟨af,by omega,by omega⟩)
  ·have cd:aH (i+n)=i+n:=by rw [ch]; omega
   rw [cd];have acA:=ix.1;refine .bi (.ap (by simp [lim]; omega) (.ag ⟨⟨?_,by show 0<=i+n; omega,Int.le_refl _,g2,λq a7=>?_⟩,by show i<i+n; omega,g2⟩))
   ·show (((L++[p]).length:Nat):Int)<=2 * (i+n);simp; omega
   ·rcases List.mem_append.1 a7 with a7 | a7
    ·exact ix.2 q a7
    ·rw [List.mem_singleton.1 a7];exact ⟨by omega,g4,g5⟩
 ·rcases x with x | x
  ·obtain ⟨g1,g2,g3,g4⟩:=j;refine .aq (Ξ:=λl:List Piece=>l.length<=2 * s.size+1/\∀ p∈l,tt s.size p) ?_ λl ai=>.ag λ_=>ai;refine Tot.ba (λaQ=>.bi (.cut ⟨g2,by omega,by omega⟩ (.bi (.ap (by simp [lim]; omega) (.ag ⟨by simp; omega,λp au=>?_⟩))))) (λ_=>.ag ⟨by omega,g4⟩);rcases List.mem_append.1 au with au | au
   ·exact g4 p au
   ·rw [List.mem_singleton.1 au];exact .Qo _ _ (G' s _ _ ⟨g2,by omega,by omega⟩)
  ·exact .ag λh=>absurd h j
end Go.Proofs
namespace Go.Own
open Go Go.Sort
set_option linter.unusedSectionVars false
variable [cH]
variable {α:Type} [DecidableEq α]
structure Ord (lt:α->α->Bool):Prop where
 swo:SWO lt
 iO:∀ x y,lt x y=false->lt y x=false->x=y
def eT (lt:α->α->Bool) (l:List α):Prop:=l.Pairwise λa b=>lt a b=true
omit [DecidableEq α] in
theorem eT.nd {lt:α->α->Bool}(h:Ord lt) {l:List α}(ai:eT lt l):l.Nodup:=ai.imp λ{a b} M_ e=>by
 subst e;rw [h.swo.irrefl] at M_; cases M_
omit [DecidableEq α] in
theorem eT.uniq {lt:α->α->Bool}(h:Ord lt) {l m:List α}(ai:eT lt l) (hm:eT lt m) (he:∀ x,x∈l↔x∈m):l=m :=
 List.Perm.eq_of_pairwise (le:=λa b=>lt a b=true) (λa b _ _ h1 af=>by have:=h.swo.trans _ _ _ h1 af; rw [h.swo.irrefl] at this; cases this) ai hm ((List.perm_ext_iff_of_nodup (ai.nd h) (hm.nd h)).2 he)
omit [DecidableEq α] in
theorem uy {l m:List α}(aP:l.Nodup) (hm:∀ x∈l,x∈m):l.length<=m.length:=by
 classical
 induction l generalizing m with
 | nil=>exact Nat.zero_le _
 | cons x l aM =>
  have j:=hm x (by simp);have mr:=List.nodup_cons.1 aP;have:=aM (m:=m.erase x) mr.2 λy al=>(List.mem_erase_of_ne (λe=>mr.1 (by rw [<- e]; exact al))).2 (hm y (by simp [al]));have ai:=List.length_erase_of_mem j;have au:=List.length_pos_of_mem j;simp only [List.length_cons];omega
end Go.Own
namespace Go.Proofs
open Go Go.Own Go.Sort
set_option maxRecDepth 100000
set_option linter.unusedVariables false
def gJ (a b:Item):Bool:=decide (a.Prod<b.Prod\/(a.Prod=b.Prod/\a.e2<b.e2))
theorem JK {a b:Item}:gJ a b=true↔(a.Prod<b.Prod\/(a.Prod=b.Prod/\a.e2<b.e2)):=by simp [gJ]
theorem Cg {a b:Item}:gJ a b=false↔¬ (a.Prod<b.Prod\/(a.Prod=b.Prod/\a.e2<b.e2)):=by simp [gJ]
theorem vN:Ord gJ where
 swo:=⟨λx=>by rw [Cg]; omega,λx y z h1 af=>by rw [JK] at *; omega,λx y z h1 af=>by rw [Cg] at *; omega⟩
 iO x y h1 af:=by
  rw [Cg] at h1 af;obtain ⟨aX,x2⟩:=x;obtain ⟨bI,y2⟩:=y;simp only at h1 af;have:aX=bI:=by omega
  have:x2=y2:=by omega
  subst_vars; rfl
def i' (g:bs) (x:Item):Prop:=∃ q,idx g.bd x.Prod=some q/\0<=x.e2/\x.e2<=q.e7.length
def hM (g:bs) (x:Item):Int:=match idx g.bd x.Prod with
 | some q=>(idx q.e7 x.e2).getD (-1)
 | none=>-1
theorem n_ {α:Type}{l:List α}{i:Int}{y:α}(h:idx l i=some y):0<=i/\i<l.length/\y∈l:=by
 unfold idx at h
 split at h
 ·rename_i aO;obtain ⟨h1,af⟩:=List.getElem?_eq_some_iff.1 h;exact ⟨aO,by omega,List.mem_of_getElem? h⟩
 ·cases h
theorem Jm {α:Type}{l:List α}{i:Int}(h:i<0\/(l.length:Int)<=i):idx l i=none:=by
 unfold idx;split
 ·exact List.getElem?_eq_none (by omega)
 ·rfl
theorem nA {α:Type}{l:List α}{i:Int}(aO:0<=i) (h1:i<l.length):∃ y,idx l i=some y/\y∈l:=by
 have aQ:i.toNat<l.length:=by omega
 exact ⟨l[i.toNat],by simp [idx,aO,aQ],List.getElem_mem aQ⟩
theorem dT {α:Type}{l:List α}{k:Nat}(h:k<l.length):idx l (k:Int)=some l[k]:=by simp [idx,h]
theorem Mp (g:bs) (x:Item):∃ c,zI g x=some c/\(c=true↔i' g x):=by
 unfold zI;by_cases aO:0<=x.Prod
 ·by_cases h1:x.Prod<g.bd.length
  ·obtain ⟨q,a7,_⟩:=nA aO h1;by_cases af:0<=x.e2
   ·refine ⟨decide (x.e2<=(q.e7.length:Int)),by simp [aO,h1,af,a7],?_⟩;rw [decide_eq_true_eq];exact ⟨λh=>⟨q,a7,af,h⟩,λ⟨gB,Ey,_,h⟩=>by rw [a7] at Ey; cases Ey; exact h⟩
   ·exact ⟨false,by simp [aO,h1,af],λh=>(by cases h),λ⟨_,_,h,_⟩=>absurd h af⟩
  ·exact ⟨false,by simp [aO,h1],λh=>(by cases h),λ⟨_,h,_⟩=>absurd (n_ h).2.1 h1⟩
 ·exact ⟨false,by simp [aO],λh=>(by cases h),λ⟨_,h,_⟩=>absurd (n_ h).1 aO⟩
theorem Hg (g:bs) (x:Item):xR g x=some (hM g x):=by
 unfold xR hM;obtain ⟨c,aa,hi⟩:=Mp g x;rw [aa];simp only [Option.bind_some];cases c with
 | false =>
  have aA:¬ i' g x:=λh=>by have:=hi.2 h; cases this
  simp only [Bool.not_false,cond_true,Option.bind_some];cases a7:idx g.bd x.Prod with
  | none=>rfl
  | some q =>
   have:idx q.e7 x.e2=none:=Jm (by
    by_cases aO:0<=x.e2
    ·right;by_cases h1:x.e2<=q.e7.length
     ·exact absurd ⟨q,a7,aO,h1⟩ aA
     ·omega
    ·left; omega)
   simp [this]
 | true =>
  obtain ⟨q,a7,aO,h1⟩:=hi.1 rfl;simp only [Bool.not_true,cond_false,a7,Option.bind_some];by_cases he:x.e2=q.e7.length
  ·rw [Jm (.inr (by omega))];simp [he]
  ·obtain ⟨s,az,_⟩:=nA (l:=q.e7) (i:=x.e2) aO (by omega);simp [he,az]
theorem OO {g:bs}(aN:gi g) {x:Item}(h:0<=hM g x):i' g x/\nV g.aZ.length (g.bX.length - 1) (hM g x)/\∃ q,idx g.bd x.Prod=some q/\idx q.e7 x.e2=some (hM g x):=by
 cases a7:idx g.bd x.Prod with
 | none =>
  have:hM g x=-1:=by unfold hM; rw [a7]
  rw [this] at h; exact absurd h (by decide)
 | some q =>
  cases az:idx q.e7 x.e2 with
  | none =>
   have:hM g x=-1:=by unfold hM; rw [a7]; simp [az]
   rw [this] at h; exact absurd h (by decide)
  | some s =>
   have e:hM g x=s:=by unfold hM; rw [a7]; simp [az]
   rw [e];obtain ⟨aO,h1,hm⟩:=n_ az;exact ⟨⟨q,a7,aO,by omega⟩,(aN.gq q (n_ a7).2.2).right s hm,q,rfl,az⟩
inductive nQ (g:bs) (l:List Item):Item->Prop
 | base {x:Item}(h:x∈l) (hi:i' g x):nQ g l x
 | step {x:Item}{q:Prod}{p:Nat}(h:nQ g l x) (au:g.bd[p]?=some q) (aA:hM g x=1000+q.Left) (aO:1000<=hM g x):nQ g l ⟨p,0⟩
theorem Oc {g:bs}{p:Nat}{q:Prod}(au:g.bd[p]?=some q):i' g ⟨p,0⟩:=⟨q,by simp [idx,au],Int.le_refl _,by show (0:Int)<=_; omega⟩
theorem nQ.i' {g:bs}{l:List Item}{x:Item}(h:nQ g l x):i' g x:=by
 cases h with
 | base _ hi=>exact hi
 | step _ au _ _=>exact Oc au
theorem XW {g:bs}(aN:gi g) (x:Item):-1<=hM g x/\hM g x<=1023:=by
 by_cases h:0<=hM g x
 ·obtain ⟨_,az,_⟩:=OO aN h;have:=aN.dk;have:=aN.jZ;rcases az with az | az <;> omega
 ·refine ⟨?_,by omega⟩;revert h;unfold hM;cases a7:idx g.bd x.Prod with
  | none=>intro _; exact Int.le_refl _
  | some q =>
   cases az:idx q.e7 x.e2 with
   | none=>intro _; simp [az]
   | some s =>
    intro h;have hm:=(aN.gq q (n_ a7).2.2).right s (n_ az).2.2;simp only [az,Option.getD_some] at h ⊢;rcases hm with hm | hm <;> omega
def ho (m:List Bool):Nat:=(m.filter λb=>b).length
theorem wI:∀ (m:List Bool) (i:Nat),i<m.length->m.getD i false=false->ho (m.set i true)=ho m+1
 | [],i,h,_=>by simp at h
 | b::m,0,_,h=>by
  have:b=false:=by simpa using h
  subst this;simp [ho]
 | b::m,i+1,h,aO=>by
  have:=wI m i (by simpa using h) (by simpa using aO);unfold ho at this ⊢;simp only [List.set_cons_succ,List.filter_cons];cases b <;> simp [this]
theorem S0 (m:List Bool):ho m<=m.length:=List.length_filter_le _ _
theorem jc {α:Type}{r:List α}{k:Nat}(h:k<r.length):r.take (k+1)=r.take k++[r[k]]:=by
 simp_all
theorem FP (k:Nat) (h:k<=1000000000000):aH ((k:Int)+1)=((k+1:Nat):Int):=by
 grind [ch]
def allI (g:bs):List Item:=(List.range g.bd.length).flatMap λp=>(List.range 9).map λd=>(⟨(p:Nat),(d:Nat)⟩:Item)
theorem RE (g:bs):(allI g).length=g.bd.length * 9:=by
 have:∀ l:List Nat,(l.map λ_=>9).sum=l.length * 9:=λl=>by
  induction l with
  | nil=>rfl
  | cons a l aM=>simp only [List.map_cons,List.sum_cons,aM,List.length_cons]; omega
 simp [allI,List.length_flatMap,this]
theorem XJ {g:bs}(aN:gi g) {x:Item}(h:i' g x):x∈allI g:=by
 obtain ⟨q,a7,aO,h1⟩:=h;obtain ⟨af,aK,bu⟩:=n_ a7;have:=aN.aE q bu;refine List.mem_flatMap.2 ⟨x.Prod.toNat,by simp; omega,List.mem_map.2 ⟨x.e2.toNat,by simp; omega,?_⟩⟩;obtain ⟨a,b⟩:=x;simp only at aO af ⊢;congr 1 <;> omega
theorem tB {g:bs}(aN:gi g) {l:List Item}(ai:eT gJ l) (hi:∀ x∈l,i' g x):l.length<=540:=by
 have:=uy (ai.nd vN) λx j=>XJ aN (hi x j);rw [RE] at this;have:=aN.hV;omega
theorem RV {l:List Item}(ai:eT gJ l) {i J:Nat}(hi:i<l.length) (aj:J<l.length) (h:i<J):gJ l[i] l[J]=true:=List.pairwise_iff_getElem.1 ai i J hi aj h
theorem GL (l:List Item) (x:Item) (ai:eT gJ l) (aA:l.length<=100000):Tot (xD l x) λr=>eT gJ r/\(∀ y,y∈r↔y∈l\/y=x):=by
 unfold xD;refine .aq (Ξ:=λz:Int=>∃ k:Nat,z=(k:Int)/\k<=l.length/\(∀ (i:Nat) (h:i<l.length),k<=i->gJ x l[i]=true)/\∀ (h:0<k),gJ x (l[k - 1]?.getD default)=false) ?_ λz aW=>?_
 ·refine Tot.count (λs=>-s) 1 (λs=>∃ k:Nat,s=(k:Int)/\k<=l.length/\∀ (i:Nat) (h:i<l.length),k<=i->gJ x l[i]=true) ⟨l.length,rfl,Nat.le_refl _,λi h hk=>by omega⟩ (by show 1 - -(l.length:Int)<_; omega) λs az=>?_;obtain ⟨k,rfl,hk,uk⟩:=az;refine .aq (Ξ:=λc:Bool=>(c=true->0<k/\gJ x (l[k - 1]?.getD default)=true)/\(c=false->∀ (h:0<k),gJ x (l[k - 1]?.getD default)=false)) ?_ λc aa=>Tot.bl (λh=>?_) (λh=>.ag ⟨k,rfl,hk,uk,aa.2 h⟩)
  ·refine Tot.ba (λh=>?_) (λh=>.ag ⟨λaJ=>(by cases aJ),λ_ aJ=>by omega⟩);have gn:k - 1<l.length:=by omega
   have hw:aH ((k:Int) - 1)=((k - 1:Nat):Int):=by rw [ch]; omega
   rw [hw,dT gn,List.getElem?_eq_getElem gn];simp only [Option.bind_some,Option.getD_some];generalize l[k - 1]=y;refine Tot.ba (λh1=>.ag ⟨λ_=>⟨by omega,JK.2 (.inl h1)⟩,λaJ=>(by cases aJ)⟩) (λh1=>Tot.ba (λaf=>.ag ⟨λaK=>⟨by omega,JK.2 (.inr ⟨af.symm,of_decide_eq_true aK⟩)⟩,λaK _=>?_⟩) (λaf=>.ag ⟨λaJ=>(by cases aJ),λ_ _=>?_⟩))
   ·have:=of_decide_eq_false aK;rw [Cg]; omega
   ·rw [Cg]; omega
  ·obtain ⟨aO,h1⟩:=aa.1 h;refine .ag ⟨⟨k - 1,by rw [ch]; omega,by omega,λi hi VZ=>?_⟩,by show -(k:Int) < -aH _; rw [ch]; omega,by show -aH _<=1; rw [ch]; omega⟩;by_cases e:i=k - 1
   ·subst e;rw [List.getElem?_eq_getElem hi] at h1;exact h1
   ·exact uk i hi (by omega)
 ·obtain ⟨k,rfl,hk,uk,lF⟩:=aW;refine .aq (Ξ:=λc:Bool=>(c=true↔(0<k/\l[k - 1]?.getD default=x))) ?_ λc aa=>Tot.bl (λh=>?_) (λh=>?_)
  ·refine Tot.ba (λh=>?_) (λh=>.ag ⟨λaJ=>(by cases aJ),λaJ=>by omega⟩);have gn:k - 1<l.length:=by omega
   have hw:aH ((k:Int) - 1)=((k - 1:Nat):Int):=by rw [ch]; omega
   rw [hw,dT gn,List.getElem?_eq_getElem gn];simp only [Option.bind_some,Option.getD_some];generalize l[k - 1]=y;refine .ag ?_;obtain ⟨bI,y2⟩:=y;obtain ⟨aX,x2⟩:=x;simp only [Bool.and_true,Bool.and_eq_true,decide_eq_true_eq,Item.mk.injEq];exact ⟨λaJ=>⟨by omega,aJ⟩,λaJ=>aJ.2⟩
  ·obtain ⟨aO,h1⟩:=aa.1 h;have gn:k - 1<l.length:=by omega
   rw [List.getElem?_eq_getElem gn] at h1;have j:x∈l:=by rw [<- h1]; exact List.getElem_mem gn
   exact .ag ⟨ai,λy=>⟨.inl,λh=>h.elim id λe=>e ▸ j⟩⟩
  ·have cz:∀ (i:Nat) (hi:i<l.length),i<k->gJ l[i] x=true:=by
    intro i hi Eo;have gn:k - 1<l.length:=by omega
    have lF:=lF (by omega);have aA:l[k - 1]?.getD default≠x:=λe=>by rw [aa.2 ⟨by omega,e⟩] at h; cases h
    rw [List.getElem?_eq_getElem gn] at lF aA;simp only [Option.getD_some] at lF aA;have fS:gJ l[k - 1] x=true:=by
     cases bH:gJ l[k - 1] x with
     | true=>rfl
     | false=>exact absurd (vN.iO _ _ bH lF) aA
    by_cases e:i=k - 1
    ·subst e; exact fS
    ·exact vN.swo.trans _ _ _ (RV ai hi gn (by omega)) fS
   refine .aq (Ξ:=λz=>z=l.take k) (Tot.sub ⟨by omega,by omega,by omega⟩ (by simp)) λz aW=>?_;subst aW;refine .aq (Ξ:=λ_=>True) (Tot.ap (by simp [lim]; omega) trivial) λ_ _=>.aq (Ξ:=λ_=>True) (Tot.ap (by simp [lim]; omega) trivial) λ_ _=>?_;refine .aq (Ξ:=λz=>z=l.drop k) (Tot.sub ⟨by omega,by omega,by omega⟩ ?_) λz aW=>?_
   ·rw [List.take_of_length_le]
    ·congr 1
    ·rw [List.length_drop]; omega
   subst aW;refine .aq (Ξ:=λ_=>True) (Tot.ap (by simp [lim]; omega) trivial) λ_ _=>.ag ?_;rw [List.nil_append];constructor
   ·have h1:∀ a∈l.take k,gJ a x=true:=by
     intro a aR;obtain ⟨i,hi,rfl⟩:=List.mem_iff_getElem.1 aR;rw [List.length_take] at hi;rw [List.getElem_take];exact cz i (by omega) (by omega)
    have af:∀ a∈l.drop k,gJ x a=true:=by
     intro a aR;obtain ⟨i,hi,rfl⟩:=List.mem_iff_getElem.1 aR;rw [List.length_drop] at hi;rw [List.getElem_drop];exact uk (k+i) (by omega) (by omega)
    unfold eT;rw [List.append_assoc,List.pairwise_append];refine ⟨List.Pairwise.sublist (List.take_sublist k l) ai,?_,λa aR b av=>?_⟩
    ·rw [List.singleton_append,List.pairwise_cons];exact ⟨af,List.Pairwise.sublist (List.drop_sublist k l) ai⟩
    ·rcases List.mem_append.1 av with av | av
     ·rw [List.mem_singleton.1 av]; exact h1 a aR
     ·exact vN.swo.trans _ _ _ (h1 a aR) (af b av)
   ·intro y;rw [List.append_assoc,List.mem_append,List.mem_append,List.mem_singleton];have hm:y∈l↔y∈l.take k\/y∈l.drop k:=by
     rw [<- List.mem_append,List.take_append_drop]
    rw [hm];constructor
    ·rintro (h | h | h)
     ·exact .inl (.inl h)
     ·exact .inr h
     ·exact .inl (.inr h)
    ·rintro ((h | h) | h)
     ·exact .inl h
     ·exact .inr (.inr h)
     ·exact .inr (.inl h)
theorem so (g:bs) (aN:gi g) (l:List Item) (ai:l.length<=1000000):Tot (Cw g l) λr=>eT gJ r/\∀ x,x∈r↔x∈l/\i' g x:=by
 unfold Cw;refine .aq (Ξ:=λr=>eT gJ r/\∀ x,x∈r↔x∈l/\i' g x) ?_ λr ah=>.ag ah;refine Tot.count (λs=>s.2) l.length (λs=>∃ k:Nat,k<=l.length/\s.2=(k:Int)/\eT gJ s.1/\∀ x,x∈s.1↔x∈l.take k/\i' g x) ⟨0,Nat.zero_le _,rfl,List.Pairwise.nil,λx=>by simp⟩ (by show (l.length:Int) - 0<_; omega) λs az=>?_;obtain ⟨out,kL⟩:=s;obtain ⟨k,hk,rfl,aR,hm⟩:=az;simp only at aR hm ⊢;rw [FP k (by omega)];refine Tot.ba (λaQ=>?_) (λdw=>.ag ?_)
 ·have aQ:k<l.length:=by omega
  rw [dT aQ];refine .aq (Ξ:=λo:List Item=>eT gJ o/\∀ x,x∈o↔x∈l.take (k+1)/\i' g x) ?_ λo aV=>.ag ⟨⟨k+1,by omega,rfl,aV⟩,by show (k:Int)<((k+1:Nat):Int); omega,by show ((k+1:Nat):Int)<=_; omega⟩;obtain ⟨c,aa,hi⟩:=Mp g l[k];rw [jc aQ];refine Tot.sm ?_;rw [aa];refine Tot.sm (.aq (Ξ:=λo:List Item=>eT gJ o/\∀ x,x∈o↔x∈l.take k++[l[k]]/\i' g x) (Tot.bl (λh=>?_) (λh=>.ag ⟨aR,λx=>?_⟩)) λo aV=>.ag aV)
  ·have w8:=tB aN aR λx j=>((hm x).1 j).2;refine Tot.sm (.aq (GL out _ aR (by omega)) λo aV=>.ag ⟨aV.1,λx=>?_⟩);rw [aV.2 x,List.mem_append,List.mem_singleton,hm x];constructor
   ·rintro (⟨h1,af⟩ | rfl)
    ·exact ⟨.inl h1,af⟩
    ·exact ⟨.inr rfl,hi.1 h⟩
   ·rintro ⟨h1 | rfl,af⟩
    ·exact .inl ⟨h1,af⟩
    ·exact .inr rfl
  ·rw [List.mem_append,List.mem_singleton,hm x];constructor
   ·rintro ⟨h1,af⟩;exact ⟨.inl h1,af⟩
   ·rintro ⟨h1 | rfl,af⟩
    ·exact ⟨h1,af⟩
    ·rw [hi.2 af] at h; cases h
 ·have:k=l.length:=by omega
  subst this;rw [List.take_length] at hm;exact ⟨aR,hm⟩
end Go.Proofs
