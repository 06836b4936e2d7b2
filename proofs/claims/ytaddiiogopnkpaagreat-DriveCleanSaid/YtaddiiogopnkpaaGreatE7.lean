/- Parts of the proof that the last text states. -/
import Derived.Test.YtaddiiogopnkpaaGreatRows
import Derived.Test.YtaddiiogopnkpaaGreatE6
set_option linter.unusedVariables false
namespace Go.Proofs
open Go Go.Own
set_option maxRecDepth 100000
def wh (a0:Int):Option (Bool) :=
 some (!decide (a0=a0))
def tp (a0:Int) (aw:Int):Option (Int) :=
 (wh a0).bind λaR =>
 (wh aw).bind λx2 =>
 (bif aR then
 (bif x2 then
 some 0
 else
 some (-1))
 else
 (bif x2 then
 some 1
 else
 (bif decide (a0<aw) then
 some (-1)
 else
 (bif decide (aw<a0) then
 some 1
 else
 some 0))))
structure cH where
 At:Int
 b':Int
 deriving DecidableEq,Inhabited
def AJ (a0:cH) (aw:Int):Option (Int) :=
 (tp a0.At aw).bind λaR =>
 some aR
def ck:bN cH:=⟨2,λx=>[ae x.At,ae x.b'],λ_=>rfl,λ_=>dp.bn⟩
instance:Bn ck:=⟨λx=>(inferInstance:q0 [ae x.At,ae x.b'])⟩
instance:il ck ck:=⟨rfl,λx=>(inferInstance:ga [ae x.At,ae x.b'] [ae x.At,ae x.b'])⟩
def DP (a0:(List cH)) (aw:Int):Option (Int × Bool) :=
 (cd (R:=Int) (λ(s1:Int × Int) =>
 (bif decide (s1.1<s1.2) then
 ((idx a0 (aG (yz .u64 (IntKind.u64.wrap (aG (s1.1+s1.2))) 1))).bind λbz =>
 (AJ bz aw).bind λbq =>
 ((bif decide (bq<0) then
 some (aG ((aG (yz .u64 (IntKind.u64.wrap (aG (s1.1+s1.2))) 1))+1),s1.2)
 else
 some (s1.1,aG (yz .u64 (IntKind.u64.wrap (aG (s1.1+s1.2))) 1)))).bind λea =>
 some (ea.1,ea.2)).bind λiy =>
 some (.inl (iy.1,iy.2))
 else
 some (.inr s1.1))) (0,(a0.length:Int))).bind λx2 =>
 ((bif decide (x2<(a0.length:Int)) then ((idx a0 x2).bind λa7=>((AJ a7 aw).bind λeH=>some (x2,decide (eH=0)))) else some (x2,false))).bind λiU =>
 some (iU.1,iU.2)
def wc (a0:(List cH)) (aw:Int):Option (Int) :=
 (bif decide (aw<=0) then
 some 0
 else
 (DP a0 aw).bind λx2 =>
 (bif !x2.2 then
 some 2
 else
 (idx a0 x2.1).bind λbg =>
 some bg.b'))
structure h6 where
 cZ:(List Int)
 b':(List Int)
 b8:(List Int)
 deriving DecidableEq,Inhabited
def tU:bN h6:=⟨3,λx=>[ak ai x.cZ,ak ai x.b',ak ai x.b8],λ_=>rfl,λ_=>dp.bn⟩
def rD (a0:h6) (aw:Int) (a2:Int):Option (Int × Bool) :=
 ((bif decide (aw<0) then some true else (bif decide ((a0.cZ.length:Int)<=aw) then some true else (bif decide (a2<0) then some true else some (decide ((a0.b8.length:Int)<=a2)))))).bind λc4 =>
 (bif c4 then
 some (0,false)
 else
 (idx a0.cZ aw).bind λbz =>
 ((bif decide ((a0.b8.length:Int)<=aG (bz+a2)) then some true else ((idx a0.b8 (aG (bz+a2))).bind λbM=>some (!decide (bM=aG (aw+1)))))).bind λr1 =>
 (bif r1 then
 some (0,false)
 else
 (idx a0.b' (aG (bz+a2))).bind λa7 =>
 some (a7,true)))
structure Act where
 Kind:Int
 N:Int
 deriving DecidableEq,Inhabited
def yb (a0:Int):Option (Act) :=
 ((bif decide (0<a0) then some (decide (a0<=20000)) else some false)).bind λc2 =>
 (bif c2 then
 some (⟨1,aG (a0 - 1)⟩:Act)
 else
 ((bif decide (a0<0) then some (decide ((-20000)<a0)) else some false)).bind λjH =>
 (bif jH then
 some (⟨2,aG (-a0)⟩:Act)
 else
 (bif decide (a0=20001) then
 some (⟨3,0⟩:Act)
 else
 (bif decide (a0=20002) then
 some (⟨4,0⟩:Act)
 else
 some (⟨0,0⟩:Act)))))
structure Tables where
 Def:(List Int)
 cA:h6
 jA:(List Int)
 eo:h6
 Left:(List Int)
 kH:(List Int)
 ji:(List cH)
 deriving DecidableEq,Inhabited
abbrev TX (x:Tables):List ab:=[ak ai x.Def,ak ai x.cA.cZ,ak ai x.cA.b',ak ai x.cA.b8,ak ai x.jA,ak ai x.eo.cZ,ak ai x.eo.b',ak ai x.eo.b8,ak ai x.Left,ak ai x.kH,ak ck x.ji]
def qm:bN Tables:=⟨11,λx=>TX x,λ_=>rfl,λ_=>dp.bn⟩
def wi (a0:Tables) (aw:Int) (a2:Int):Option (Act) :=
 (rD a0.cA aw a2).bind λaR =>
 (bif aR.2 then
 (yb aR.1).bind λa8 =>
 some a8
 else
 ((bif decide (aw<0) then some true else (bif decide ((a0.Def.length:Int)<=aw) then some true else ((idx a0.Def aw).bind λbz=>some (decide (bz<0)))))).bind λnT =>
 (bif nT then
 some (⟨0,0⟩:Act)
 else
 (idx a0.Def aw).bind λcC =>
 some (⟨2,cC⟩:Act)))
structure Node where
 Sym:Int
 Prod:Int
 At:Int
 Kids:wJ
 deriving Inhabited
structure vb where
 At:Int
 Told:Bool
 deriving DecidableEq,Inhabited
structure hQ where
 Kind:Int
 At:Int
 Steps:Int
 Deep:Int
 bu:(List Int)
 eB:(List vb)
 gP:(List Int)
 Tree:Node
 deriving Inhabited
structure dC where
 bZ:Tables
 iX:(List Int)
 jo:Int
 jq:Int
 du:(List Int)
 fk:(List Node)
 h9:Int
 bb:hQ
 deriving Inhabited
def eh:bN Node:=⟨4,λx=>[ae x.Sym,ae x.Prod,ae x.At,jU 4 x.Kids],λ_=>rfl,λ_=>dp.bn⟩
instance:il eh eh:=⟨rfl,λx=>(inferInstance:ga [ae x.Sym,ae x.Prod,ae x.At,jU 4 x.Kids] [ae x.Sym,ae x.Prod,ae x.At,jU 4 x.Kids])⟩
def iJ:bN vb:=⟨2,λx=>[ae x.At,bh x.Told],λ_=>rfl,λ_=>dp.bn⟩
instance:il iJ iJ:=⟨rfl,λx=>(inferInstance:ga [ae x.At,bh x.Told] [ae x.At,bh x.Told])⟩
abbrev TW (x:hQ):List ab:=[ae x.Kind,ae x.At,ae x.Steps,ae x.Deep,ak ai x.bu,ak iJ x.eB,ak ai x.gP,ae x.Tree.Sym,ae x.Tree.Prod,ae x.Tree.At,jU 4 x.Tree.Kids]
def Fc:bN hQ:=⟨11,λx=>TW x,λ_=>rfl,λ_=>dp.bn⟩
abbrev w1 (x:dC):List ab:=[ak ai x.bZ.Def,ak ai x.bZ.cA.cZ,ak ai x.bZ.cA.b',ak ai x.bZ.cA.b8,ak ai x.bZ.jA,ak ai x.bZ.eo.cZ,ak ai x.bZ.eo.b',ak ai x.bZ.eo.b8,ak ai x.bZ.Left,ak ai x.bZ.kH,ak ck x.bZ.ji,ak ai x.iX,ae x.jo,ae x.jq,ak ai x.du,ak eh x.fk,ae x.h9,ae x.bb.Kind,ae x.bb.At,ae x.bb.Steps,ae x.bb.Deep,ak ai x.bb.bu,ak iJ x.bb.eB,ak ai x.bb.gP,ae x.bb.Tree.Sym,ae x.bb.Tree.Prod,ae x.bb.Tree.At,jU 4 x.bb.Tree.Kids]
def U4:bN dC:=⟨28,λx=>w1 x,λ_=>rfl,λ_=>dp.bn⟩
def ym (a0:dC) (aw:Int):Option (Act) :=
 (idx a0.du (aG ((a0.du.length:Int) - 1))).bind λaR =>
 (wi a0.bZ aR aw).bind λx2 =>
 some x2
def yn (a0:dC):Option (Int) :=
 (bif decide ((a0.iX.length:Int)<=a0.bb.At) then
 some 0
 else
 (idx a0.iX a0.bb.At).bind λx2 =>
 some x2)
abbrev k7 (x:dC):List ab:=[ak ai x.bZ.Def,ak ai x.bZ.cA.cZ,ak ai x.bZ.cA.b',ak ai x.bZ.cA.b8,ak ai x.bZ.jA,ak ai x.bZ.eo.cZ,ak ai x.bZ.eo.b',ak ai x.bZ.eo.b8,ak ai x.bZ.Left,ak ai x.bZ.kH,ak ck x.bZ.ji,aD ai x.iX,ae x.jo,ae x.jq,aD ai x.du,aD eh x.fk,ae x.h9,ae x.bb.Kind,ae x.bb.At,ae x.bb.Steps,ae x.bb.Deep,aD ai x.bb.bu,aD iJ x.bb.eB,aD ai x.bb.gP,ae x.bb.Tree.Sym,ae x.bb.Tree.Prod,ae x.bb.Tree.At,jU 4 x.bb.Tree.Kids]
def ig:bN dC:=⟨28,λx=>k7 x,λ_=>rfl,λ_=>dp.bn⟩
instance {x:dC}:ga (ig.cells x) (w1 x):=(inferInstance:ga (k7 x) (w1 x))
def x7 (a0:dC) (aw:Int):Option (Bool × dC) :=
 ((bif decide (a0.bb.Steps=a0.jq) then some true else some (decide (a0.jo<aw)))).bind λc2 =>
 (bif c2 then
 some (false,(⟨a0.bZ,a0.iX,a0.jo,a0.jq,a0.du,a0.fk,a0.h9,(⟨3,a0.bb.At,a0.bb.Steps,a0.bb.Deep,a0.bb.bu,a0.bb.eB,a0.bb.gP,a0.bb.Tree⟩:hQ)⟩:dC))
 else
 some (true,(⟨a0.bZ,a0.iX,a0.jo,a0.jq,a0.du,a0.fk,a0.h9,(⟨a0.bb.Kind,a0.bb.At,aG (a0.bb.Steps+1),a0.bb.Deep,a0.bb.bu,a0.bb.eB,a0.bb.gP,a0.bb.Tree⟩:hQ)⟩:dC)))
def uL (a0:dC) (aw:Int) (a2:Int) (a3:Node):Option (Bool × dC) :=
 (x7 a0 (aG ((a0.du.length:Int) - a2))).bind λaR =>
 (bif !aR.1 then
 some (false,aR.2)
 else
 (l2 aR.2.du (aG ((aR.2.du.length:Int) - a2))).bind λa8 =>
 (c8 (aR.2.du.take ((aG ((aR.2.du.length:Int) - a2)).toNat)) [aw]).bind λbg =>
 (l2 aR.2.fk (aG ((aR.2.fk.length:Int) - a2))).bind λb1 =>
 (c8 (aR.2.fk.take ((aG ((aR.2.fk.length:Int) - a2)).toNat)) [a3]).bind λbz =>
 some (true,(⟨aR.2.bZ,aR.2.iX,aR.2.jo,aR.2.jq,bg,bz,aR.2.h9,(⟨aR.2.bb.Kind,aR.2.bb.At,aR.2.bb.Steps,max aR.2.bb.Deep (aG ((bg.length:Int) - 1)),aR.2.bb.bu,aR.2.bb.eB,aR.2.bb.gP,aR.2.bb.Tree⟩:hQ)⟩:dC)))
def uM (a0:dC) (aw:Int):Option (Node) :=
 some (⟨aw,(-1),a0.bb.At,(tr eh ([]:List Node))⟩:Node)
def Li (a0:List Node):Option (List Node):=E' a0
def Aq (a0:Tables) (aw:Int) (a2:Int):Option (Int) :=
 (rD a0.eo a2 aw).bind λaR =>
 (bif aR.2 then
 some aR.1
 else
 ((bif decide (a2<0) then some true else some (decide ((a0.jA.length:Int)<=a2)))).bind λc4 =>
 (bif c4 then
 some (-1)
 else
 (idx a0.jA a2).bind λbz =>
 some bz))
def AM (a0:dC) (aw:Int):Option (dC) :=
 (idx a0.bZ.kH aw).bind λaR =>
 (idx a0.bZ.Left aw).bind λx2 =>
 (l2 a0.fk (aG ((a0.fk.length:Int) - aR))).bind λa8 =>
 (Li (a0.fk.drop ((aG ((a0.fk.length:Int) - aR)).toNat))).bind λbg =>
 (idx a0.du (aG ((aG ((a0.du.length:Int) - 1)) - aR))).bind λb1 =>
 (Aq a0.bZ b1 x2).bind λbz =>
 (uL a0 bz aR (⟨aG (1000+x2),aw,(-1),(tr eh bg)⟩:Node)).bind λbq =>
 ((bif bq.1 then
 (c8 bq.2.bb.bu [aw]).bind λch =>
 some (bq.2.bb.bu++[aw])
 else
 some bq.2.bb.bu)).bind λea =>
 some (⟨bq.2.bZ,bq.2.iX,bq.2.jo,bq.2.jq,bq.2.du,bq.2.fk,bq.2.h9,(⟨bq.2.bb.Kind,bq.2.bb.At,bq.2.bb.Steps,bq.2.bb.Deep,ea,bq.2.bb.eB,bq.2.bb.gP,bq.2.bb.Tree⟩:hQ)⟩:dC)
def Dq (a0:dC):Option (dC) :=
 (yn a0).bind λaR =>
 ((bif decide (aR=0) then
 some (⟨a0.bZ,a0.iX,a0.jo,a0.jq,a0.du,a0.fk,a0.h9,(⟨2,a0.bb.At,a0.bb.Steps,a0.bb.Deep,a0.bb.bu,a0.bb.eB,a0.bb.gP,a0.bb.Tree⟩:hQ)⟩:dC)
 else
 (x7 a0 (aG ((a0.du.length:Int) - 1))).bind λbg =>
 ((bif bg.1 then
 (c8 bg.2.bb.gP [bg.2.bb.At]).bind λbq =>
 some (aG (bg.2.bb.At+1),bg.2.bb.gP++[bg.2.bb.At])
 else
 some (bg.2.bb.At,bg.2.bb.gP))).bind λiy =>
 some (⟨bg.2.bZ,bg.2.iX,bg.2.jo,bg.2.jq,bg.2.du,bg.2.fk,bg.2.h9,(⟨bg.2.bb.Kind,iy.1,bg.2.bb.Steps,bg.2.bb.Deep,bg.2.bb.bu,bg.2.bb.eB,iy.2,bg.2.bb.Tree⟩:hQ)⟩:dC))).bind λxN =>
 some xN
def AN (a0:dC):Option (dC) :=
 (bif decide (a0.h9=3) then
 (Dq a0).bind λx2 =>
 some x2
 else
 (c8 a0.bb.eB [(⟨a0.bb.At,decide (a0.h9=0)⟩:vb)]).bind λa8 =>
 (ym (⟨a0.bZ,a0.iX,a0.jo,a0.jq,a0.du,a0.fk,3,(⟨a0.bb.Kind,a0.bb.At,a0.bb.Steps,a0.bb.Deep,a0.bb.bu,a0.bb.eB++[(⟨a0.bb.At,decide (a0.h9=0)⟩:vb)],a0.bb.gP,a0.bb.Tree⟩:hQ)⟩:dC) 1).bind λbg =>
 (cd (R:=(dC × Int × Int) ⊕ (dC)) (λ(b2:dC × Int × Int) =>
 (bif !decide (b2.2.1=1) then
 (bif decide (aG ((b2.1.du.length:Int) - 1)=0) then
 some (.inr (.inr (⟨b2.1.bZ,b2.1.iX,b2.1.jo,b2.1.jq,b2.1.du,b2.1.fk,b2.1.h9,(⟨2,b2.1.bb.At,b2.1.bb.Steps,b2.1.bb.Deep,b2.1.bb.bu,b2.1.bb.eB,b2.1.bb.gP,b2.1.bb.Tree⟩:hQ)⟩:dC)))
 else
 (x7 b2.1 (aG ((aG ((b2.1.du.length:Int) - 1)) - 1))).bind λa7 =>
 (bif !a7.1 then
 some (.inr (.inr a7.2))
 else
 (l2 a7.2.du (aG ((b2.1.du.length:Int) - 1))).bind λcw =>
 (l2 a7.2.fk (aG ((aG ((b2.1.du.length:Int) - 1)) - 1))).bind λe3 =>
 (ym (⟨a7.2.bZ,a7.2.iX,a7.2.jo,a7.2.jq,a7.2.du.take ((aG ((b2.1.du.length:Int) - 1)).toNat),a7.2.fk.take ((aG ((aG ((b2.1.du.length:Int) - 1)) - 1)).toNat),a7.2.h9,a7.2.bb⟩:dC) 1).bind λcL =>
 some (.inl ((⟨a7.2.bZ,a7.2.iX,a7.2.jo,a7.2.jq,a7.2.du.take ((aG ((b2.1.du.length:Int) - 1)).toNat),a7.2.fk.take ((aG ((aG ((b2.1.du.length:Int) - 1)) - 1)).toNat),a7.2.h9,a7.2.bb⟩:dC),cL.Kind,cL.N))))
 else
 some (.inr (.inl (b2.1,b2.2.1,b2.2.2))))) ((⟨a0.bZ,a0.iX,a0.jo,a0.jq,a0.du,a0.fk,3,(⟨a0.bb.Kind,a0.bb.At,a0.bb.Steps,a0.bb.Deep,a0.bb.bu,a0.bb.eB++[(⟨a0.bb.At,decide (a0.h9=0)⟩:vb)],a0.bb.gP,a0.bb.Tree⟩:hQ)⟩:dC),bg.Kind,bg.N)).bind λbz =>
 (match bz with
 | .inl bq =>
 (uM bq.1 1).bind λcE =>
 (uL bq.1 bq.2.2 0 cE).bind λc0 =>
 some c0.2
 | .inr bM =>
 some bM))
def yj (a0:dC):Option (dC) :=
 (yn a0).bind λaR =>
 (ym a0 aR).bind λx2 =>
 (((bif decide (x2.Kind=1) then
 (yn a0).bind λbz =>
 (uM a0 bz).bind λbq =>
 (uL a0 x2.N 0 bq).bind λbM =>
 ((bif bM.1 then
 some (max (aG (bM.2.h9 - 1)) 0,aG (bM.2.bb.At+1))
 else
 some (bM.2.h9,bM.2.bb.At))).bind λmW =>
 some (⟨bM.2.bZ,bM.2.iX,bM.2.jo,bM.2.jq,bM.2.du,bM.2.fk,mW.1,(⟨bM.2.bb.Kind,mW.2,bM.2.bb.Steps,bM.2.bb.Deep,bM.2.bb.bu,bM.2.bb.eB,bM.2.bb.gP,bM.2.bb.Tree⟩:hQ)⟩:dC)
 else
 ((bif decide (x2.Kind=2) then
 (AM a0 x2.N).bind λcw =>
 some cw
 else
 ((bif decide (x2.Kind=3) then
 (idx a0.fk (aG ((a0.fk.length:Int) - 1))).bind λcE =>
 some (⟨a0.bZ,a0.iX,a0.jo,a0.jq,a0.du,a0.fk,a0.h9,(⟨1,a0.bb.At,a0.bb.Steps,a0.bb.Deep,a0.bb.bu,a0.bb.eB,a0.bb.gP,cE⟩:hQ)⟩:dC)
 else
 (AN a0).bind λc0 =>
 some c0)).bind λfY =>
 some fY)).bind λjb =>
 some jb)).bind λxQ =>
 some xQ).bind λhN =>
 some hN
def uH (a0:Tables) (aw:(List Int)) (a2:Int) (a3:Int):Option (hQ) :=
 ((cd (R:=List Int) (λ(s2:List Int × Int) =>
 (bif decide (s2.2<(aw.length:Int)) then
 (idx aw s2.2).bind λbz =>
 (bif decide (bz<=0) then
 some (.inr s2.1)
 else
 (wc a0.ji bz).bind λbM =>
 (c8 s2.1 [bM]).bind λcC =>
 some (.inl (s2.1++[bM],aG (s2.2+1))))
 else
 some (.inr s2.1))) (([]:List Int),0)).bind λa8 =>
 some a8).bind λlB =>
 (cd (R:=dC) (λ(e2:dC) =>
 (bif decide (e2.bb.Kind=0) then
 (yj e2).bind λe3 =>
 some (.inl e3)
 else
 some (.inr e2))) (⟨a0,lB,min (max a2 0) 100000,min (max a3 0) 1000000,[0],[],0,(⟨0,0,0,0,[],[],[],(⟨0,0,0,GP⟩:Node)⟩:hQ)⟩:dC)).bind λa7 =>
 some a7.bb
def DO (a0:cH) (aw:cH):Option (Int) :=
 (tp a0.At aw.At).bind λaR =>
 some aR
structure b4 where
 Name:ByteArray
 Lit:Bool
 cb:Int
 Level:Int
 jg:Int
 Tag:ByteArray
 deriving DecidableEq,Inhabited
structure fy where
 Name:ByteArray
 Tag:ByteArray
 deriving DecidableEq,Inhabited
structure Prod where
 Left:Int
 dw:(List Int)
 Prec:Int
 Code:ByteArray
 RZ:(List Int)
 At:Int
 deriving DecidableEq,Inhabited
structure bA where
 bo:(List b4)
 dD:(List fy)
 bu:(List Prod)
 hp:ByteArray
 j3:ByteArray
 deriving DecidableEq,Inhabited
abbrev Io (x:b4):List ab:=[a1 x.Name,bh x.Lit,ae x.cb,ae x.Level,ae x.jg,a1 x.Tag]
def cu:bN b4:=⟨6,λx=>Io x,λ_=>rfl,λ_=>dp.bn⟩
instance:il cu cu:=⟨rfl,λx=>(inferInstance:ga (Io x) (Io x))⟩
def e9:bN fy:=⟨2,λx=>[a1 x.Name,a1 x.Tag],λ_=>rfl,λ_=>dp.bn⟩
instance:il e9 e9:=⟨rfl,λx=>(inferInstance:ga [a1 x.Name,a1 x.Tag] [a1 x.Name,a1 x.Tag])⟩
abbrev Im (x:Prod):List ab:=[ae x.Left,ak ai x.dw,ae x.Prec,a1 x.Code,ak ai x.RZ,ae x.At]
def hI:bN Prod:=⟨6,λx=>Im x,λ_=>rfl,λ_=>dp.bn⟩
instance:il hI hI:=⟨rfl,λx=>(inferInstance:ga (Im x) (Im x))⟩
abbrev BD (x:bA):List ab:=[ak cu x.bo,ak e9 x.dD,ak hI x.bu,a1 x.hp,a1 x.j3]
def c9:bN bA:=⟨5,λx=>BD x,λ_=>rfl,λ_=>dp.bn⟩
def AE (a0:bA):Option ((List cH)) :=
 (cd (R:=List cH) (λ(s1:List cH × Int) =>
 (bif decide (s1.2<(a0.bo.length:Int)) then
 ((idx a0.bo s1.2).bind λbz =>
 ((bif decide (0<bz.cb) then
 (c8 s1.1 [(⟨bz.cb,s1.2⟩:cH)]).bind λcC =>
 some (s1.1++[(⟨bz.cb,s1.2⟩:cH)])
 else
 some s1.1)).bind λlg =>
 some lg).bind λiy =>
 some (.inl (iy,aG (s1.2+1)))
 else
 some (.inr s1.1))) (([]:List cH),0)).bind λx2 =>
 (p4 (λa b=>DO a b) x2).bind λch =>
 some ch
def As (a0:(List (List cH))):Option (Bool) :=
 (bif decide (400<(a0.length:Int)) then
 some false
 else
 (cd (R:=(Unit) ⊕ (Bool)) (λ(s2:Int) =>
 (bif decide (s2<(a0.length:Int)) then
 (idx a0 s2).bind λbq =>
 (cd (R:=(Unit) ⊕ (Bool)) (λ(ej:List Bool × Int) =>
 (bif decide (ej.2<(bq.length:Int)) then
 (idx bq ej.2).bind λcw =>
 ((bif decide (cw.At<0) then some true else (bif decide (1000<=cw.At) then some true else ((xJ 1000 ej.1 cw.At).bind λcE=>some cE)))).bind λwW =>
 (bif wW then
 some (.inr (.inr false))
 else
 (xJ 1000 ej.1 cw.At).bind λgh =>
 some (.inl (ej.1.set cw.At.toNat true,aG (ej.2+1))))
 else
 some (.inr (.inl ())))) ((List.replicate 1000 false),0)).bind λcC =>
 (match cC with
 | .inl ch =>
 some (.inl (aG (s2+1)))
 | .inr a7 =>
 some (.inr (.inr a7)))
 else
 some (.inr (.inl ())))) 0).bind λa8 =>
 (match a8 with
 | .inl bg =>
 some true
 | .inr b1 =>
 some b1))
def Ds (a0:(List Int)):Option (Int) :=
 (cd (R:=(Unit) ⊕ (Int)) (λ(s1:Int) =>
 (bif decide (s1<(a0.length:Int)) then
 (idx a0 s1).bind λbz =>
 (bif !decide (bz=0) then
 some (.inr (.inr bz))
 else
 some (.inl (aG (s1+1))))
 else
 some (.inr (.inl ())))) 0).bind λx2 =>
 (match x2 with
 | .inl a8 =>
 some 0
 | .inr bg =>
 some bg)
def vZ (a0:Int) (aw:Int) (q7:(List (List cH))):Option (Int) :=
 (idx q7 aw).bind λaR =>
 (idx q7 a0).bind λx2 =>
 (tp (aR.length:Int) (x2.length:Int)).bind λa8 =>
 (tp a0 aw).bind λbg =>
 (Ds [a8,bg]).bind λb1 =>
 some b1
def DB (a0:cH) (q7:Int) (c1:(List Int)):Option (Bool) :=
 ((bif decide (aG (q7+a0.At)<(c1.length:Int)) then ((idx c1 (aG (q7+a0.At))).bind λx2=>some (!decide (x2=0))) else some false)).bind λkK =>
 some kK
def Gu (a0:(List cH)) (q4:Int) (q5:(List Int)):Option (Int) :=
 (cd (R:=(Unit) ⊕ (Int)) (λ(s1:Int) =>
 (bif decide (s1<(a0.length:Int)) then
 (idx a0 s1).bind λbz =>
 (DB bz q4 q5).bind λbq =>
 (bif bq then
 some (.inr (.inr s1))
 else
 some (.inl (aG (s1+1))))
 else
 some (.inr (.inl ())))) 0).bind λx2 =>
 (match x2 with
 | .inl a8 =>
 some (-1)
 | .inr bg =>
 some bg)
def Gt (a0:(List cH)) (q4:Int) (q5:(List Int)):Option (Bool) :=
 (Gu a0 q4 q5).bind λaR =>
 some (decide (0<=aR))
def x9 (a0:(List Int)) (aw:(List cH)) (a2:Int):Option (Bool) :=
 (Gt aw a2 a0).bind λaR =>
 some (!aR)
def vi:bN h6:=⟨3,λx=>[aD ai x.cZ,aD ai x.b',aD ai x.b8],λ_=>rfl,λ_=>dp.bn⟩
instance:Bn vi:=⟨λx=>(inferInstance:q0 [aD ai x.cZ,aD ai x.b',aD ai x.b8])⟩
def AO (a0:(List (List cH))):Option (h6) :=
 (As a0).bind λaR =>
 (bif !aR then
 some (⟨([]:List Int),([]:List Int),([]:List Int)⟩:h6)
 else
 (oO (a0.length:Int) 0).bind λa8 =>
 (cd (R:=List Int) (λ(da:List Int × Int) =>
 (bif decide (da.2<(a0.length:Int)) then
 ((idx a0 da.2).bind λcC =>
 ((bif decide (0<(cC.length:Int)) then
 (c8 da.1 [da.2]).bind λeH =>
 some (da.1++[da.2])
 else
 some da.1)).bind λjO =>
 some jO).bind λea =>
 some (.inl (ea,aG (da.2+1)))
 else
 some (.inr da.1))) (([]:List Int),0)).bind λb1 =>
 (p4 (λa b=>vZ a b a0) b1).bind λcw =>
 (cd (R:=h6) (λ(eu:h6 × Int) =>
 (bif decide (eu.2<(cw.length:Int)) then
 (idx cw eu.2).bind λdP =>
 (cd (R:=List Int) (λ(dk:List Int) =>
 (idx a0 dP).bind λiC =>
 (idx dk dP).bind λf_ =>
 (x9 eu.1.b8 iC f_).bind λhf =>
 (bif !hf then
 (idx dk dP).bind λjW =>
 some (.inl (dk.set dP.toNat (aG (jW+1))))
 else
 some (.inr dk))) eu.1.cZ).bind λeQ =>
 (idx a0 dP).bind λff =>
 (cd (R:=List Int × List Int) (λ(kU:List Int × List Int × Int) =>
 (bif decide (kU.2.2<(ff.length:Int)) then
 (idx ff kU.2.2).bind λdb =>
 (idx eQ dP).bind λhg =>
 (cd (R:=List Int × List Int) (λ(ho:List Int × List Int) =>
 (bif decide ((ho.2.length:Int)<=aG (hg+db.At)) then
 (c8 ho.2 [0]).bind λgO =>
 (c8 ho.1 [0]).bind λkV =>
 some (.inl (ho.1++[0],ho.2++[0]))
 else
 some (.inr (ho.1,ho.2)))) (kU.1,kU.2.1)).bind λfv =>
 (idx fv.2 (aG (hg+db.At))).bind λwz =>
 (idx fv.1 (aG (hg+db.At))).bind λHv =>
 some (.inl (fv.1.set (aG (hg+db.At)).toNat db.b',fv.2.set (aG (hg+db.At)).toNat (aG (dP+1)),aG (kU.2.2+1)))
 else
 some (.inr (kU.1,kU.2.1)))) (eu.1.b',eu.1.b8,0)).bind λeg =>
 some (.inl ((⟨eQ,eg.1,eg.2⟩:h6),aG (eu.2+1)))
 else
 some (.inr eu.1))) ((⟨a8,([]:List Int),([]:List Int)⟩:h6),0)).bind λcL =>
 some cL)
structure Row where
 Def:Int
 hh:(List cH)
 deriving DecidableEq,Inhabited
def pD:bN Row:=⟨2,λx=>[ae x.Def,ak ck x.hh],λ_=>rfl,λ_=>dp.bn⟩
instance:il pD pD:=⟨rfl,λx=>(inferInstance:ga [ae x.Def,ak ck x.hh] [ae x.Def,ak ck x.hh])⟩
def yk (a0:(List Row)):Option ((List Int) × h6) :=
 (cd (R:=List Int × List (List cH)) (λ(s1:List Int × List (List cH) × Int) =>
 (bif decide (s1.2.2<(a0.length:Int)) then
 (idx a0 s1.2.2).bind λb1 =>
 (c8 s1.1 [b1.Def]).bind λbz =>
 (c8 s1.2.1 [b1.hh]).bind λbq =>
 some (.inl (s1.1++[b1.Def],s1.2.1++[b1.hh],aG (s1.2.2+1)))
 else
 some (.inr (s1.1,s1.2.1)))) (([]:List Int),([]:List (List cH)),0)).bind λx2 =>
 (AO x2.2).bind λbM =>
 some (x2.1,bM)
def wg (a0:(List Int)):Option (Int) :=
 (cd (R:=Int) (λ(s1:(List (Int × Int)) × Int × Int) =>
 (bif decide (s1.2.2<(a0.length:Int)) then
 ((idx a0 s1.2.2).bind λbz =>
 (uC sv 0 s1.1 bz).bind λbq =>
 (Ad sv s1.1 bz (aG (bq+1))).bind λbM =>
 (uC sv 0 bM bz).bind λcC =>
 (uC sv 0 bM s1.2.1).bind λch =>
 ((bif decide (s1.2.1<0) then some true else (bif decide (0<aG (cC - ch)) then some true else (bif decide (aG (cC - ch)=0) then some (decide (bz<s1.2.1)) else some false)))).bind λrZ =>
 ((bif rZ then
 some bz
 else
 some s1.2.1)).bind λry =>
 some (bM,ry)).bind λiy =>
 some (.inl (iy.1,iy.2,aG (s1.2.2+1)))
 else
 some (.inr s1.2.1))) (([]:List (Int × Int)),(-1),0)).bind λx2 =>
 some x2
def AP (a0:Act):Option (Int) :=
 ((bif decide (a0.Kind=1) then (bif decide (0<=a0.N) then some (decide (a0.N<20000)) else some false) else some false)).bind λkK =>
 (bif kK then
 some (aG (a0.N+1))
 else
 ((bif decide (a0.Kind=2) then (bif decide (0<a0.N) then some (decide (a0.N<20000)) else some false) else some false)).bind λnT =>
 (bif nT then
 some (aG (-a0.N))
 else
 ((bif decide (a0.Kind=3) then some (decide (a0.N=0)) else some false)).bind λiI =>
 (bif iI then
 some 20001
 else
 ((bif decide (a0.Kind=4) then some (decide (a0.N=0)) else some false)).bind λiU =>
 (bif iU then
 some 20002
 else
 some 0))))
structure gW where
 cA:(List (List Act))
 eJ:(List (List Int))
 deriving DecidableEq,Inhabited
def dS:bN Act:=⟨2,λx=>[ae x.Kind,ae x.N],λ_=>rfl,λ_=>dp.bn⟩
instance:il dS dS:=⟨rfl,λx=>(inferInstance:ga [ae x.Kind,ae x.N] [ae x.Kind,ae x.N])⟩
def DM (a0:gW):Option ((List Row)) :=
 (cd (R:=List Row) (λ(s1:List Row × Int) =>
 (bif decide (s1.2<(a0.cA.length:Int)) then
 (idx a0.cA s1.2).bind λb1 =>
 (cd (R:=List Int) (λ(cK:List Int × Int) =>
 (bif decide (cK.2<(b1.length:Int)) then
 ((idx b1 cK.2).bind λa7 =>
 ((bif decide (a7.Kind=2) then
 (c8 cK.1 [a7.N]).bind λe3 =>
 some (cK.1++[a7.N])
 else
 some cK.1)).bind λhd =>
 some hd).bind λjO =>
 some (.inl (jO,aG (cK.2+1)))
 else
 some (.inr cK.1))) (([]:List Int),0)).bind λbq =>
 (wg bq).bind λcL =>
 (cd (R:=List cH) (λ(nH:List cH × Int) =>
 (bif decide (nH.2<(b1.length:Int)) then
 ((idx b1 nH.2).bind λfS =>
 ((bif !decide (fS.Kind=0) then (bif !decide (fS.Kind=2) then some true else some (!decide (fS.N=cL))) else some false)).bind λwX =>
 ((bif wX then
 (AP fS).bind λff =>
 (c8 nH.1 [(⟨nH.2,ff⟩:cH)]).bind λgD =>
 some (nH.1++[(⟨nH.2,ff⟩:cH)])
 else
 some nH.1)).bind λKE =>
 some KE).bind λxO =>
 some (.inl (xO,aG (nH.2+1)))
 else
 some (.inr nH.1))) (([]:List cH),0)).bind λc0 =>
 (c8 s1.1 [(⟨cL,c0⟩:Row)]).bind λeg =>
 some (.inl (s1.1++[(⟨cL,c0⟩:Row)],aG (s1.2+1)))
 else
 some (.inr s1.1))) (([]:List Row),0)).bind λx2 =>
 some x2
def DN (a0:gW):Option ((List Row)) :=
 (bif decide ((a0.eJ.length:Int)=0) then
 some ([]:List Row)
 else
 (idx a0.eJ 0).bind λx2 =>
 (cd (R:=List Row) (λ(eK:List Row × Int) =>
 (bif decide (eK.2<(x2.length:Int)) then
 (cd (R:=List Int) (λ(gg:List Int × Int) =>
 (bif decide (gg.2<(a0.eJ.length:Int)) then
 ((idx a0.eJ gg.2).bind λeH =>
 (idx eH eK.2).bind λcw =>
 ((bif decide (0<=cw) then
 (idx eH eK.2).bind λcE =>
 (c8 gg.1 [cE]).bind λc0 =>
 some (gg.1++[cE])
 else
 some gg.1)).bind λfY =>
 some fY).bind λjb =>
 some (.inl (jb,aG (gg.2+1)))
 else
 some (.inr gg.1))) (([]:List Int),0)).bind λbM =>
 (wg bM).bind λdP =>
 (cd (R:=List cH) (λ(dk:List cH × Int) =>
 (bif decide (dk.2<(a0.eJ.length:Int)) then
 ((idx a0.eJ dk.2).bind λhf =>
 (((idx hf eK.2).bind λlH=>(bif decide (0<=lH) then ((idx hf eK.2).bind λff=>some (!decide (ff=dP))) else some false))).bind λwY =>
 ((bif wY then
 (idx hf eK.2).bind λoU =>
 (c8 dk.1 [(⟨dk.2,oU⟩:cH)]).bind λdb =>
 some (dk.1++[(⟨dk.2,oU⟩:cH)])
 else
 some dk.1)).bind λux =>
 some ux).bind λKC =>
 some (.inl (KC,aG (dk.2+1)))
 else
 some (.inr dk.1))) (([]:List cH),0)).bind λeQ =>
 (c8 eK.1 [(⟨dP,eQ⟩:Row)]).bind λhg =>
 some (.inl (eK.1++[(⟨dP,eQ⟩:Row)],aG (eK.2+1)))
 else
 some (.inr eK.1))) (([]:List Row),0)).bind λbg =>
 some bg)
def yg (a0:bA) (aw:gW):Option (Tables) :=
 (DM aw).bind λaR =>
 (yk aR).bind λx2 =>
 (DN aw).bind λa8 =>
 (yk a8).bind λbg =>
 (cd (R:=List Int × List Int) (λ(b2:List Int × List Int × Int) =>
 (bif decide (b2.2.2<(a0.bu.length:Int)) then
 (idx a0.bu b2.2.2).bind λcC =>
 (c8 b2.1 [cC.Left]).bind λch =>
 (c8 b2.2.1 [(cC.dw.length:Int)]).bind λa7 =>
 some (.inl (b2.1++[cC.Left],b2.2.1++[(cC.dw.length:Int)],aG (b2.2.2+1)))
 else
 some (.inr (b2.1,b2.2.1)))) (([]:List Int),([]:List Int),0)).bind λbz =>
 (AE a0).bind λeH =>
 some (⟨x2.1,x2.2,bg.1,bg.2,bz.1,bz.2,eH⟩:Tables)
def Gv (a0:(List Int)) (aw:(List Int)):Option (Bool) :=
 (bif !decide ((a0.length:Int)=(aw.length:Int)) then
 some false
 else
 (cd (R:=(Unit) ⊕ (Bool)) (λ(s2:Int) =>
 (bif decide (s2<(a0.length:Int)) then
 (idx a0 s2).bind λbq =>
 (idx aw s2).bind λbM =>
 (bif !decide (bq=bM) then
 some (.inr (.inr false))
 else
 some (.inl (aG (s2+1))))
 else
 some (.inr (.inl ())))) 0).bind λa8 =>
 (match a8 with
 | .inl bg =>
 some true
 | .inr b1 =>
 some b1))
def DH (a0:Int):Option (Bool) :=
 ((bif decide (97<=a0) then (bif decide (a0<=122) then some true else (bif decide (65<=a0) then (bif decide (a0<=90) then some true else some (decide (a0=95))) else some (decide (a0=95)))) else (bif decide (65<=a0) then (bif decide (a0<=90) then some true else some (decide (a0=95))) else some (decide (a0=95))))).bind λnT =>
 some nT
def DI (a0:Int):Option (Bool) :=
 ((bif decide (48<=a0) then some (decide (a0<=57)) else some false)).bind λc2 =>
 some c2
def DG (a0:ByteArray) (aw:Int):Option (Int) :=
 (cd (R:=Int) (λ(s1:Int) =>
 ((bif decide (aG (aw+s1)<(a0.size:Int)) then ((kJ a0 (aG (aw+s1))).bind λb1=>((DH b1).bind λbz=>(bif bz then some true else (bif decide (0<s1) then ((kJ a0 (aG (aw+s1))).bind λcC=>((DI cC).bind λch=>(bif ch then some true else ((kJ a0 (aG (aw+s1))).bind λeH=>some (decide (eH=46)))))) else some false)))) else some false)).bind λiU =>
 (bif iU then
 some (.inl (aG (s1+1)))
 else
 some (.inr s1))) 0).bind λx2 =>
 some x2
def v' (a0:ByteArray):Option (Bool) :=
 ((bif decide (1<=(a0.size:Int)) then (bif decide ((a0.size:Int)<=20) then ((DG a0 0).bind λa8=>some (decide (a8=(a0.size:Int)))) else some false) else some false)).bind λc4 =>
 some c4
def AD (a0:Int):Option (Int × Bool) :=
 (bif decide (a0=10) then
 some (110,true)
 else
 (bif decide (a0=9) then
 some (116,true)
 else
 (bif decide (a0=13) then
 some (114,true)
 else
 ((bif decide (a0=92) then
 some (decide (a0=92))
 else
 some (decide (a0=39)))).bind λxQ =>
 (bif xQ then
 some (a0,true)
 else
 ((bif decide (32<=a0) then some (0,decide (a0<=126)) else some (0,false))).bind λtR =>
 some (tR.1,tR.2)))))
structure Sym where
 Name:ByteArray
 Lit:Bool
 cb:Int
 At:Int
 deriving DecidableEq,Inhabited
def fC:bN Sym:=⟨4,λx=>[a1 x.Name,bh x.Lit,ae x.cb,ae x.At],λ_=>rfl,λ_=>dp.bn⟩
instance:il fC fC:=⟨rfl,λx=>(inferInstance:ga [a1 x.Name,bh x.Lit,ae x.cb,ae x.At] [a1 x.Name,bh x.Lit,ae x.cb,ae x.At])⟩
def uI (a0:Sym) (aw:Bool) (a2:Bool):Option (Bool) :=
 (bif a0.Lit then
 ((bif !a2 then some true else (bif !decide ((a0.Name.size:Int)=1) then some true else some (!decide (a0.cb=0))))).bind λc4 =>
 (bif c4 then
 some false
 else
 (kJ a0.Name 0).bind λbz =>
 (AD bz).bind λbq =>
 some bq.2)
 else
 (((v' a0.Name).bind λbM=>(bif bM then (bif decide (a0.cb=0) then some true else (bif aw then (bif decide (1<=a0.cb) then some (decide (a0.cb<=50000)) else some false) else some false)) else some false))).bind λiU =>
 some iU)
structure Decl where
 Kind:Int
 Tag:ByteArray
 fi:(List Sym)
 At:Int
 deriving DecidableEq,Inhabited
def eV:bN Decl:=⟨4,λx=>[ae x.Kind,a1 x.Tag,ak fC x.fi,ae x.At],λ_=>rfl,λ_=>dp.bn⟩
def ye (a0:Decl):Option (Bool) :=
 ((bif decide (a0.Kind<1) then some true else (bif decide (6<a0.Kind) then some true else (bif decide ((a0.fi.length:Int)=0) then some true else (bif decide (a0.Kind=6) then (bif !decide ((a0.fi.length:Int)=1) then some true else (bif !decide (a0.Tag=⟨#[]⟩) then some true else (bif decide (a0.Kind=5) then (bif decide (a0.Tag=⟨#[]⟩) then some true else some false) else some false))) else (bif decide (a0.Kind=5) then (bif decide (a0.Tag=⟨#[]⟩) then some true else (bif !decide (a0.Tag=⟨#[]⟩) then ((v' a0.Tag).bind λeH=>some (!eH)) else some false)) else (bif !decide (a0.Tag=⟨#[]⟩) then ((v' a0.Tag).bind λe3=>some (!e3)) else some false))))))).bind λwV =>
 (bif wV then
 some false
 else
 (cd (R:=(Unit) ⊕ (Bool)) (λ(l6:Int) =>
 (bif decide (l6<(a0.fi.length:Int)) then
 (idx a0.fi l6).bind λiC =>
 (uI iC (decide (a0.Kind=1)) (decide (a0.Kind<5))).bind λf_ =>
 (bif !f_ then
 some (.inr (.inr false))
 else
 some (.inl (aG (l6+1))))
 else
 some (.inr (.inl ())))) 0).bind λdP =>
 (match dP with
 | .inl gh =>
 some true
 | .inr eQ =>
 some eQ))
def uJ (a0:Sym):Option (Bool) :=
 ((bif decide (a0.Name=⟨#[]⟩) then (bif !a0.Lit then some (decide (a0.cb=0)) else some false) else some false)).bind λkK =>
 some kK
def yh (a0:ByteArray) (aw:Int) (a2:ByteArray):Option (Bool) :=
 ((bif decide ((a2.size:Int)<=aG ((a0.size:Int) - aw)) then ((w5 a0 aw (aG (aw+(a2.size:Int)))).bind λx2=>some (decide (x2=a2))) else some false)).bind λkK =>
 some kK
def DJ (a0:ByteArray) (aw:Int):Option (Int) :=
 (((kJ a0 aw).bind λaR=>(bif decide (aR=34) then some true else ((kJ a0 aw).bind λa8=>some (decide (a8=39)))))).bind λc4 =>
 (bif c4 then
 (cd (R:=(Unit) ⊕ (Int)) (λ(cK:Int) =>
 ((bif decide (cK<(a0.size:Int)) then ((kJ a0 cK).bind λa7=>some (!decide (a7=10))) else some false)).bind λwU =>
 (bif wU then
 (kJ a0 cK).bind λe3 =>
 (kJ a0 aw).bind λcL =>
 (bif decide (e3=cL) then
 some (.inr (.inr (aG (cK+1))))
 else
 (kJ a0 cK).bind λc0 =>
 (bif decide (c0=92) then
 ((bif decide (aG (cK+1)<(a0.size:Int)) then ((kJ a0 (aG (cK+1))).bind λeQ=>some (decide (eQ=10))) else some false)).bind λr0 =>
 (bif r0 then
 some (.inr (.inr (-1)))
 else
 some (.inl (aG ((aG (cK+1))+1))))
 else
 some (.inl (aG (cK+1)))))
 else
 some (.inr (.inl ())))) (aG (aw+1))).bind λbq =>
 (match bq with
 | .inl bM =>
 some (-1)
 | .inr cC =>
 some cC)
 else
 (kJ a0 aw).bind λf_ =>
 (bif decide (f_=96) then
 (cd (R:=(Unit) ⊕ (Int)) (λ(A2:Int) =>
 (bif decide (A2<(a0.size:Int)) then
 (kJ a0 A2).bind λik =>
 (bif decide (ik=96) then
 some (.inr (.inr (aG (A2+1))))
 else
 some (.inl (aG (A2+1))))
 else
 some (.inr (.inl ())))) (aG (aw+1))).bind λjW =>
 (match jW with
 | .inl ff =>
 some (-1)
 | .inr gD =>
 some gD)
 else
 (yh a0 aw (⟨#[47,47]⟩)).bind λdb =>
 (bif db then
 (cd (R:=Int) (λ(ho:Int) =>
 ((bif decide (ho<(a0.size:Int)) then ((kJ a0 ho).bind λgO=>some (!decide (gO=10))) else some false)).bind λIc =>
 (bif Ic then
 some (.inl (aG (ho+1)))
 else
 some (.inr ho))) aw).bind λfv =>
 some fv
 else
 (yh a0 aw (⟨#[47,42]⟩)).bind λHv =>
 (bif Hv then
 (cd (R:=(Unit) ⊕ (Int)) (λ(A3:Int) =>
 (bif decide (A3<(a0.size:Int)) then
 (yh a0 A3 (⟨#[42,47]⟩)).bind λHx =>
 (bif Hx then
 some (.inr (.inr (aG (A3+2))))
 else
 some (.inl (aG (A3+1))))
 else
 some (.inr (.inl ())))) (aG (aw+2))).bind λHw =>
 (match Hw with
 | .inl abu =>
 some (-1)
 | .inr qQ =>
 some qQ)
 else
 some aw))))
def AB (a0:ByteArray) (aw:Int):Option (Int) :=
 ((bif decide (aw<0) then some true else (bif decide ((a0.size:Int)<=aw) then some true else ((kJ a0 aw).bind λa8=>some (!decide (a8=123)))))).bind λc4 =>
 (bif c4 then
 some (-1)
 else
 (cd (R:=(Unit) ⊕ (Int)) (λ(cK:Int × Int) =>
 (bif decide (cK.2<(a0.size:Int)) then
 (DJ a0 cK.2).bind λa7 =>
 (bif decide (a7<0) then
 some (.inr (.inr (-1)))
 else
 (bif decide (cK.2<a7) then
 some (.inl (cK.1,a7))
 else
 (kJ a0 cK.2).bind λe3 =>
 ((bif decide (e3=123) then
 some (aG (cK.1+1))
 else
 some cK.1)).bind λry =>
 (kJ a0 cK.2).bind λc0 =>
 ((bif decide (c0=125) then
 some (aG (ry - 1))
 else
 some ry)).bind λF1 =>
 (bif decide (F1=0) then
 some (.inr (.inr (aG (cK.2+1))))
 else
 some (.inl (F1,aG (cK.2+1))))))
 else
 some (.inr (.inl ())))) (0,aw)).bind λbq =>
 (match bq with
 | .inl bM =>
 some (-1)
 | .inr cC =>
 some cC))
structure Part where
 Sym:Sym
 Code:ByteArray
 At:Int
 deriving DecidableEq,Inhabited
structure Alt where
 Parts:(List Part)
 Prec:Sym
 At:Int
 deriving DecidableEq,Inhabited
abbrev Il (x:Part):List ab:=[a1 x.Sym.Name,bh x.Sym.Lit,ae x.Sym.cb,ae x.Sym.At,a1 x.Code,ae x.At]
def fb:bN Part:=⟨6,λx=>Il x,λ_=>rfl,λ_=>dp.bn⟩
instance:il fb fb:=⟨rfl,λx=>(inferInstance:ga (Il x) (Il x))⟩
abbrev Ij (x:Alt):List ab:=[ak fb x.Parts,a1 x.Prec.Name,bh x.Prec.Lit,ae x.Prec.cb,ae x.Prec.At,ae x.At]
def gG:bN Alt:=⟨6,λx=>Ij x,λ_=>rfl,λ_=>dp.bn⟩
instance:il gG gG:=⟨rfl,λx=>(inferInstance:ga (Ij x) (Ij x))⟩
def yf (a0:Alt):Option (Bool) :=
 (cd (R:=(Unit) ⊕ (Bool)) (λ(s1:Int) =>
 (bif decide (s1<(a0.Parts.length:Int)) then
 (idx a0.Parts s1).bind λbz =>
 ((bif decide (bz.Code=⟨#[]⟩) then ((uI bz.Sym false true).bind λbM=>(bif !bM then some true else (bif !decide (bz.Code=⟨#[]⟩) then ((uJ bz.Sym).bind λa7=>(bif !a7 then some true else ((AB bz.Code 0).bind λcw=>some (!decide (cw=(bz.Code.size:Int)))))) else some false))) else (bif !decide (bz.Code=⟨#[]⟩) then ((uJ bz.Sym).bind λcL=>(bif !cL then some true else ((AB bz.Code 0).bind λc0=>some (!decide (c0=(bz.Code.size:Int)))))) else some false))).bind λnS =>
 (bif nS then
 some (.inr (.inr false))
 else
 some (.inl (aG (s1+1))))
 else
 some (.inr (.inl ())))) 0).bind λx2 =>
 (match x2 with
 | .inl a8 =>
 (((uJ a0.Prec).bind λeQ=>(bif eQ then some true else ((uI a0.Prec false true).bind λiC=>some iC)))).bind λH' =>
 some H'
 | .inr bg =>
 some bg)
structure fL where
 Left:ByteArray
 gi:(List Alt)
 At:Int
 deriving DecidableEq,Inhabited
structure Source where
 hp:ByteArray
 Decls:(List Decl)
 eR:(List fL)
 j3:ByteArray
 deriving DecidableEq,Inhabited
def oB:bN fL:=⟨3,λx=>[a1 x.Left,ak gG x.gi,ae x.At],λ_=>rfl,λ_=>dp.bn⟩
instance:il oB oB:=⟨rfl,λx=>(inferInstance:ga [a1 x.Left,ak gG x.gi,ae x.At] [a1 x.Left,ak gG x.gi,ae x.At])⟩
def lR:bN Source:=⟨4,λx=>[a1 x.hp,ak eV x.Decls,ak oB x.eR,a1 x.j3],λ_=>rfl,λ_=>dp.bn⟩
def yc (a0:Source):Option (Bool) :=
 (cd (R:=(Unit) ⊕ (Bool)) (λ(s1:Int) =>
 (bif decide (aG (s1+1)<(a0.hp.size:Int)) then
 (w5 a0.hp s1 (aG (s1+2))).bind λbz =>
 (bif decide (bz=⟨#[37,125]⟩) then
 some (.inr (.inr false))
 else
 some (.inl (aG (s1+1))))
 else
 some (.inr (.inl ())))) 0).bind λx2 =>
 (match x2 with
 | .inl a8 =>
 (cd (R:=(Unit) ⊕ (Bool)) (λ(ej:Int) =>
 (bif decide (ej<(a0.Decls.length:Int)) then
 (idx a0.Decls ej).bind λcw =>
 (ye cw).bind λe3 =>
 (bif !e3 then
 some (.inr (.inr false))
 else
 some (.inl (aG (ej+1))))
 else
 some (.inr (.inl ())))) 0).bind λcC =>
 (match cC with
 | .inl ch =>
 (cd (R:=(Unit) ⊕ (Bool)) (λ(nH:Int) =>
 (bif decide (nH<(a0.eR.length:Int)) then
 (idx a0.eR nH).bind λfS =>
 (((v' fS.Left).bind λiC=>(bif !iC then some true else some (decide ((fS.gi.length:Int)=0))))).bind λwX =>
 (bif wX then
 some (.inr (.inr false))
 else
 (cd (R:=(Unit) ⊕ (Bool)) (λ(D7:Int) =>
 (bif decide (D7<(fS.gi.length:Int)) then
 (idx fS.gi D7).bind λoU =>
 (yf oU).bind λdb =>
 (bif !db then
 some (.inr (.inr false))
 else
 some (.inl (aG (D7+1))))
 else
 some (.inr (.inl ())))) 0).bind λff =>
 (match ff with
 | .inl gD =>
 some (.inl (aG (nH+1)))
 | .inr eg =>
 some (.inr (.inr eg))))
 else
 some (.inr (.inl ())))) 0).bind λc0 =>
 (match c0 with
 | .inl dP =>
 some (decide (0<(a0.eR.length:Int)))
 | .inr gh =>
 some gh)
 | .inr a7 =>
 some a7)
 | .inr bg =>
 some bg)
structure dd where
 ba:bA
 ed:(List Bool)
 fD:(List fy)
 dq:(List ByteArray)
 eM:Int
 kn:Int
 ko:ByteArray
 fj:Int
 df:Int
 deriving DecidableEq,Inhabited
abbrev zv (x:dd):List ab:=[ak cu x.ba.bo,ak e9 x.ba.dD,ak hI x.ba.bu,a1 x.ba.hp,a1 x.ba.j3,ak e8 x.ed,ak e9 x.fD,ak nU x.dq,ae x.eM,ae x.kn,a1 x.ko,ae x.fj,ae x.df]
abbrev er (x:dd):List ab:=[aD cu x.ba.bo,aD e9 x.ba.dD,aD hI x.ba.bu,a1 x.ba.hp,a1 x.ba.j3,aD e8 x.ed,aD e9 x.fD,aD nU x.dq,ae x.eM,ae x.kn,a1 x.ko,ae x.fj,ae x.df]
def eW:bN dd:=⟨13,λx=>er x,λ_=>rfl,λ_=>dp.bn⟩
instance {x:dd}:ga (eW.cells x) (zv x):=(inferInstance:ga (er x) (zv x))
def oe (a0:dd) (aw:Int) (a2:ByteArray):Option (dd) :=
 ((bif decide (a0.eM=0) then
 some (⟨a0.ba,a0.ed,a0.fD,a0.dq,3,aw,a2,a0.fj,a0.df⟩:dd)
 else
 some a0)).bind λlB =>
 some lB
def Aw (a0:dd) (aw:ByteArray):Option (Int) :=
 (cd (R:=(Unit) ⊕ (Int)) (λ(s1:Int) =>
 (bif decide (s1<(a0.fD.length:Int)) then
 (idx a0.fD s1).bind λbz =>
 (bif decide (bz.Name=aw) then
 some (.inr (.inr s1))
 else
 some (.inl (aG (s1+1))))
 else
 some (.inr (.inl ())))) 0).bind λx2 =>
 (match x2 with
 | .inl a8 =>
 some (-1)
 | .inr bg =>
 some bg)
def uG (a0:dd) (aw:Sym):Option (Int) :=
 (cd (R:=(Unit) ⊕ (Int)) (λ(s1:Int) =>
 (bif decide (s1<(a0.ba.bo.length:Int)) then
 (((idx a0.ba.bo s1).bind λbz=>(bif decide (bz.Name=aw.Name) then ((idx a0.ba.bo s1).bind λbM=>(bif (bM.Lit == aw.Lit) then some (!decide (s1=2)) else some false)) else some false))).bind λiI =>
 (bif iI then
 some (.inr (.inr s1))
 else
 some (.inl (aG (s1+1))))
 else
 some (.inr (.inl ())))) 1).bind λx2 =>
 (match x2 with
 | .inl a8 =>
 some (-1)
 | .inr bg =>
 some bg)
def wb (a0:dd) (aw:Int):Option (Int) :=
 (cd (R:=(Unit) ⊕ (Int)) (λ(s1:Int) =>
 (bif decide (s1<(a0.ba.bo.length:Int)) then
 (idx a0.ba.bo s1).bind λbz =>
 (bif decide (bz.cb=aw) then
 some (.inr (.inr s1))
 else
 some (.inl (aG (s1+1))))
 else
 some (.inr (.inl ())))) 3).bind λx2 =>
 (match x2 with
 | .inl a8 =>
 some (-1)
 | .inr bg =>
 some bg)
def wa (a0:dd) (aw:Sym):Option (Int × dd) :=
 (uG a0 aw).bind λaR =>
 (bif decide (0<=aR) then
 some (aR,a0)
 else
 ((bif aw.Lit then
 (kJ aw.Name 0).bind λb1 =>
 (wb a0 (aG b1)).bind λbz =>
 ((bif decide (0<=bz) then
 (oe a0 aw.At aw.Name).bind λcC =>
 some cC
 else
 some a0)).bind λlg =>
 some (lg,aG b1)
 else
 some (a0,0))).bind λhN =>
 (c8 hN.1.ba.bo [(⟨aw.Name,aw.Lit,hN.2,0,0,⟨#[]⟩⟩:b4)]).bind λch =>
 (c8 hN.1.ed [aw.Lit]).bind λa7 =>
 some (aG (((hN.1.ba.bo++[(⟨aw.Name,aw.Lit,hN.2,0,0,⟨#[]⟩⟩:b4)]).length:Int) - 1),(⟨(⟨hN.1.ba.bo++[(⟨aw.Name,aw.Lit,hN.2,0,0,⟨#[]⟩⟩:b4)],hN.1.ba.dD,hN.1.ba.bu,hN.1.ba.hp,hN.1.ba.j3⟩:bA),hN.1.ed++[aw.Lit],hN.1.fD,hN.1.dq,hN.1.eM,hN.1.kn,hN.1.ko,hN.1.fj,hN.1.df⟩:dd)))
def v8 (a0:dd) (aw:Decl) (a2:Sym):Option (dd) :=
 (bif decide (aw.Kind=5) then
 (Aw a0 a2.Name).bind λx2 =>
 ((bif decide (x2<0) then
 (c8 a0.fD [(⟨a2.Name,aw.Tag⟩:fy)]).bind λb1 =>
 some (⟨a0.ba,a0.ed,a0.fD++[(⟨a2.Name,aw.Tag⟩:fy)],a0.dq,a0.eM,a0.kn,a0.ko,a0.fj,a0.df⟩:dd)
 else
 (idx a0.fD x2).bind λbz =>
 ((bif !decide (bz.Tag=aw.Tag) then
 (oe a0 a2.At a2.Name).bind λcC =>
 some cC
 else
 some a0)).bind λlg =>
 some lg)).bind λhN =>
 some hN
 else
 (wa a0 a2).bind λch =>
 (idx ch.2.ba.bo ch.1).bind λa7 =>
 ((bif !decide (aw.Kind=1) then
 ((bif decide (0<a7.Level) then
 (oe ch.2 a2.At a2.Name).bind λcE =>
 some (⟨(⟨ch.2.ba.bo,cE.ba.dD,cE.ba.bu,cE.ba.hp,cE.ba.j3⟩:bA),cE.ed,cE.fD,cE.dq,cE.eM,cE.kn,cE.ko,cE.fj,cE.df⟩:dd)
 else
 some ch.2)).bind λfY =>
 (idx fY.ba.bo ch.1).bind λc0 =>
 some (⟨(⟨(fY.ba.bo.set ch.1.toNat (⟨c0.Name,c0.Lit,c0.cb,fY.fj,c0.jg,c0.Tag⟩:b4)).set ch.1.toNat (⟨c0.Name,c0.Lit,c0.cb,fY.fj,aG (aw.Kind - 1),c0.Tag⟩:b4),fY.ba.dD,fY.ba.bu,fY.ba.hp,fY.ba.j3⟩:bA),fY.ed,fY.fD,fY.dq,fY.eM,fY.kn,fY.ko,fY.fj,fY.df⟩:dd)
 else
 some ch.2)).bind λhd =>
 (idx hd.ba.bo ch.1).bind λdP =>
 ((bif decide (0<a2.cb) then
 ((bif decide (ch.1=1) then some true else ((idx hd.ed ch.1).bind λiC=>(bif iC then some true else ((wb hd a2.cb).bind λhf=>some (decide (0<=hf))))))).bind λtQ =>
 ((bif tQ then
 (oe hd a2.At a2.Name).bind λgD =>
 some (⟨(⟨hd.ba.bo,gD.ba.dD,gD.ba.bu,gD.ba.hp,gD.ba.j3⟩:bA),gD.ed,gD.fD,gD.dq,gD.eM,gD.kn,gD.ko,gD.fj,gD.df⟩:dd)
 else
 some hd)).bind λh2 =>
 (idx h2.ba.bo ch.1).bind λeg =>
 (idx h2.ed ch.1).bind λik =>
 some (⟨(⟨h2.ba.bo.set ch.1.toNat (⟨eg.Name,eg.Lit,a2.cb,eg.Level,eg.jg,eg.Tag⟩:b4),h2.ba.dD,h2.ba.bu,h2.ba.hp,h2.ba.j3⟩:bA),h2.ed.set ch.1.toNat true,h2.fD,h2.dq,h2.eM,h2.kn,h2.ko,h2.fj,h2.df⟩:dd)
 else
 some hd)).bind λiN =>
 (idx iN.ba.bo ch.1).bind λoU =>
 ((bif !decide (aw.Tag=⟨#[]⟩) then
 ((bif !decide (oU.Tag=⟨#[]⟩) then some (!decide (oU.Tag=aw.Tag)) else some false)).bind λqj =>
 ((bif qj then
 (oe iN a2.At a2.Name).bind λgO =>
 some (⟨(⟨iN.ba.bo,gO.ba.dD,gO.ba.bu,gO.ba.hp,gO.ba.j3⟩:bA),gO.ed,gO.fD,gO.dq,gO.eM,gO.kn,gO.ko,gO.fj,gO.df⟩:dd)
 else
 some iN)).bind λnD =>
 (idx nD.ba.bo ch.1).bind λkV =>
 some (⟨(⟨nD.ba.bo.set ch.1.toNat (⟨kV.Name,kV.Lit,kV.cb,kV.Level,kV.jg,aw.Tag⟩:b4),nD.ba.dD,nD.ba.bu,nD.ba.hp,nD.ba.j3⟩:bA),nD.ed,nD.fD,nD.dq,nD.eM,nD.kn,nD.ko,nD.fj,nD.df⟩:dd)
 else
 some iN)).bind λpV =>
 some pV)
def tm (a0:dd) (aw:ByteArray):Option (Int) :=
 (cd (R:=(Unit) ⊕ (Int)) (λ(s1:Int) =>
 (bif decide (s1<(a0.dq.length:Int)) then
 (idx a0.dq s1).bind λbz =>
 (bif decide (bz=aw) then
 some (.inr (.inr s1))
 else
 some (.inl (aG (s1+1))))
 else
 some (.inr (.inl ())))) 0).bind λx2 =>
 (match x2 with
 | .inl a8 =>
 some (-1)
 | .inr bg =>
 some bg)
def tn (a0:dd) (aw:Sym):Option (Int × dd) :=
 (bif aw.Lit then
 (wa a0 aw).bind λx2 =>
 some (x2.1,x2.2)
 else
 (tm a0 aw.Name).bind λa8 =>
 (bif decide (0<=a8) then
 some (aG (1001+a8),a0)
 else
 (uG a0 aw).bind λb1 =>
 (bif decide (b1<0) then
 (oe a0 aw.At aw.Name).bind λbq =>
 some (0,bq)
 else
 some (b1,a0))))
def v_ (a0:dd) (aw:ByteArray) (a2:Alt):Option (dd) :=
 (tm a0 aw).bind λaR =>
 (cd (R:=dd × List Int × ByteArray × Int) (λ(s2:dd × List Int × ByteArray × Int × Int) =>
 (bif decide (s2.2.2.2.2<(a2.Parts.length:Int)) then
 ((idx a2.Parts s2.2.2.2.2).bind λbq =>
 (((bif decide (bq.Code=⟨#[]⟩) then
 (tn s2.1 bq.Sym).bind λa7 =>
 (c8 s2.2.1 [a7.1]).bind λeH =>
 some (a7.2,s2.2.1++[a7.1],s2.2.2.1,s2.2.2.2.1)
 else
 ((bif decide (aG (s2.2.2.2.2+1)=(a2.Parts.length:Int)) then
 some (s2.1.ba.bu,s2.1.df,s2.2.1,bq.Code,bq.At)
 else
 (c8 ([]:List Int) s2.2.1).bind λcL =>
 (c8 s2.1.ba.bu [(⟨aG ((s2.1.dq.length:Int)+(aG (s2.1.df+1))),([]:List Int),(-1),bq.Code,([]:List Int)++s2.2.1,bq.At⟩:Prod)]).bind λcE =>
 (c8 s2.2.1 [aG ((aG (1000+(s2.1.dq.length:Int)))+(aG (s2.1.df+1)))]).bind λc0 =>
 some (s2.1.ba.bu++[(⟨aG ((s2.1.dq.length:Int)+(aG (s2.1.df+1))),([]:List Int),(-1),bq.Code,([]:List Int)++s2.2.1,bq.At⟩:Prod)],aG (s2.1.df+1),s2.2.1++[aG ((aG (1000+(s2.1.dq.length:Int)))+(aG (s2.1.df+1)))],s2.2.2.1,s2.2.2.2.1))).bind λlb =>
 some ((⟨(⟨s2.1.ba.bo,s2.1.ba.dD,lb.1,s2.1.ba.hp,s2.1.ba.j3⟩:bA),s2.1.ed,s2.1.fD,s2.1.dq,s2.1.eM,s2.1.kn,s2.1.ko,s2.1.fj,lb.2.1⟩:dd),lb.2.2.1,lb.2.2.2.1,lb.2.2.2.2))).bind λmW =>
 some (mW.1,mW.2.1,mW.2.2.1,mW.2.2.2)).bind λea =>
 some (ea.1,ea.2.1,ea.2.2.1,ea.2.2.2)).bind λlf =>
 some (.inl (lf.1,lf.2.1,lf.2.2.1,lf.2.2.2,aG (s2.2.2.2.2+1)))
 else
 some (.inr (s2.1,s2.2.1,s2.2.2.1,s2.2.2.2.1)))) (a0,([]:List Int),⟨#[]⟩,a2.At,0)).bind λa8 =>
 (cd (R:=Int) (λ(tu:Int × Int) =>
 (bif decide (tu.2<(a8.2.1.length:Int)) then
 ((idx a8.2.1 tu.2).bind λf_ =>
 ((bif decide (f_<1000) then
 (idx a8.2.1 tu.2).bind λjW =>
 some jW
 else
 some tu.1)).bind λKD =>
 some KD).bind λsu =>
 some (.inl (su,aG (tu.2+1)))
 else
 some (.inr tu.1))) ((-1),0)).bind λgh =>
 ((bif !decide (a2.Prec.Name=⟨#[]⟩) then
 ((bif a2.Prec.Lit then some true else ((tm a8.1 a2.Prec.Name).bind λik=>some (decide (ik<0))))).bind λwZ =>
 ((bif wZ then
 (tn a8.1 a2.Prec).bind λll =>
 some (ll.2,ll.1)
 else
 (oe a8.1 a2.Prec.At a2.Prec.Name).bind λfv =>
 some (fv,(-1)))).bind λpV =>
 some (pV.1,pV.2)
 else
 some (a8.1,gh))).bind λkb =>
 (c8 ([]:List Int) a8.2.1).bind λqP =>
 (c8 kb.1.ba.bu [(⟨aG (1+aR),a8.2.1,kb.2,a8.2.2.1,([]:List Int)++a8.2.1,a8.2.2.2⟩:Prod)]).bind λnb =>
 some (⟨(⟨kb.1.ba.bo,kb.1.ba.dD,kb.1.ba.bu++[(⟨aG (1+aR),a8.2.1,kb.2,a8.2.2.1,([]:List Int)++a8.2.1,a8.2.2.2⟩:Prod)],kb.1.ba.hp,kb.1.ba.j3⟩:bA),kb.1.ed,kb.1.fD,kb.1.dq,kb.1.eM,kb.1.kn,kb.1.ko,kb.1.fj,kb.1.df⟩:dd)
def DC (a0:Int):Option (ByteArray) :=
 ((bif decide (a0<0) then
 some (IntKind.u64.wrap (-(IntKind.u64.wrap a0)))
 else
 some (IntKind.u64.wrap a0))).bind λlB =>
 (cd (R:=ByteArray) (λ(eK:Int × ByteArray) =>
 ((bif decide (0<eK.1) then some true else some (decide (eK.2=⟨#[]⟩)))).bind λnT =>
 (bif nT then
 (rI eK.1 10).bind λcC =>
 (tS (strOfNums [yK (IntKind.u64.wrap (48+cC))]) eK.2).bind λch =>
 (rG eK.1 10).bind λa7 =>
 some (.inl (a7,ch))
 else
 some (.inr eK.2))) (lB,⟨#[]⟩)).bind λbg =>
 (bif decide (a0<0) then
 (tS (⟨#[45]⟩) bg).bind λcw =>
 some cw
 else
 some bg)
def v7 (a0:Source):Option (bA × Int × Int × ByteArray) :=
 (yc a0).bind λaR =>
 (bif !aR then
 some ((⟨([]:List b4),([]:List fy),([]:List Prod),⟨#[]⟩,⟨#[]⟩⟩:bA),1,0,⟨#[]⟩)
 else
 (oO 3 false).bind λa8 =>
 (cd (R:=dd × ByteArray) (λ(da:dd × ByteArray × Int) =>
 (bif decide (da.2.2<(a0.Decls.length:Int)) then
 (idx a0.Decls da.2.2).bind λbM =>
 ((bif decide (2<=bM.Kind) then some (decide (bM.Kind<=4)) else some false)).bind λiI =>
 ((bif iI then
 some (aG (da.1.fj+1))
 else
 some da.1.fj)).bind λjb =>
 (cd (R:=dd × ByteArray) (λ(nG:dd × ByteArray × Int) =>
 (bif decide (nG.2.2<(bM.fi.length:Int)) then
 ((bif !decide (bM.Kind=6) then
 (idx bM.fi nG.2.2).bind λgh =>
 (v8 nG.1 bM gh).bind λeQ =>
 some (eQ,nG.2.1)
 else
 ((bif !decide (nG.2.1=⟨#[]⟩) then
 (idx bM.fi nG.2.2).bind λf_ =>
 (idx bM.fi nG.2.2).bind λhf =>
 (oe nG.1 f_.At hf.Name).bind λlH =>
 some lH
 else
 some nG.1)).bind λpU =>
 (idx bM.fi nG.2.2).bind λjW =>
 some (pU,jW.Name))).bind λC2 =>
 some (.inl (C2.1,C2.2,aG (nG.2.2+1)))
 else
 some (.inr (nG.1,nG.2.1)))) ((⟨da.1.ba,da.1.ed,da.1.fD,da.1.dq,da.1.eM,da.1.kn,da.1.ko,jb,da.1.df⟩:dd),da.2.1,0)).bind λe3 =>
 some (.inl (e3.1,e3.2,aG (da.2.2+1)))
 else
 some (.inr (da.1,da.2.1)))) ((⟨(⟨[(⟨⟨#[36,101,110,100]⟩,false,0,0,0,⟨#[]⟩⟩:b4),(⟨⟨#[101,114,114,111,114]⟩,false,(-1),0,0,⟨#[]⟩⟩:b4),(⟨⟨#[36,117,110,107]⟩,false,(-1),0,0,⟨#[]⟩⟩:b4)],[],[],⟨#[]⟩,⟨#[]⟩⟩:bA),a8,[],[],0,0,⟨#[]⟩,0,0⟩:dd),⟨#[]⟩,0)).bind λb1 =>
 (cd (R:=dd) (λ(sF:dd × Int) =>
 (bif decide (sF.2<(a0.eR.length:Int)) then
 ((idx a0.eR sF.2).bind λdb =>
 (uG sF.1 (⟨db.Left,false,0,0⟩:Sym)).bind λhg =>
 ((bif decide (0<=hg) then
 (oe sF.1 db.At db.Left).bind λqP =>
 some qP
 else
 some sF.1)).bind λmV =>
 (tm mV db.Left).bind λnb =>
 ((bif decide (nb<0) then
 (c8 mV.dq [db.Left]).bind λwz =>
 some (mV.dq++[db.Left])
 else
 some mV.dq)).bind λKH =>
 some (⟨mV.ba,mV.ed,mV.fD,KH,mV.eM,mV.kn,mV.ko,mV.fj,mV.df⟩:dd)).bind λxP =>
 some (.inl (xP,aG (sF.2+1)))
 else
 some (.inr sF.1))) (b1.1,0)).bind λgD =>
 (cd (R:=dd) (λ(rJ:dd × Int) =>
 (bif decide (rJ.2<(a0.Decls.length:Int)) then
 (cd (R:=dd) (λ(sG:dd × Int) =>
 (idx a0.Decls rJ.2).bind λHx =>
 (bif decide (sG.2<(Hx.fi.length:Int)) then
 ((idx a0.Decls rJ.2).bind λA8 =>
 (idx A8.fi sG.2).bind λtz =>
 (((idx a0.Decls rJ.2).bind λL3=>(bif decide (5<=L3.Kind) then ((tm sG.1 tz.Name).bind λmz=>some (decide (mz<0))) else some false))).bind λIh =>
 ((bif Ih then
 (oe sG.1 tz.At tz.Name).bind λRI =>
 some RI
 else
 some sG.1)).bind λKK =>
 some KK).bind λKJ =>
 some (.inl (KJ,aG (sG.2+1)))
 else
 some (.inr sG.1))) (rJ.1,0)).bind λqQ =>
 some (.inl (qQ,aG (rJ.2+1)))
 else
 some (.inr rJ.1))) (gD,0)).bind λhP =>
 ((bif decide (b1.2=⟨#[]⟩) then
 (idx a0.eR 0).bind λwB =>
 some wB.Left
 else
 some b1.2)).bind λxR =>
 (tm hP xR).bind λmA =>
 (cd (R:=dd) (λ(rK:dd × Int) =>
 (bif decide (rK.2<(a0.eR.length:Int)) then
 (cd (R:=dd) (λ(uQ:dd × Int) =>
 (idx a0.eR rK.2).bind λEr =>
 (bif decide (uQ.2<(Er.gi.length:Int)) then
 (idx a0.eR rK.2).bind λL5 =>
 (idx a0.eR rK.2).bind λL6 =>
 (idx L6.gi uQ.2).bind λL7 =>
 (v_ uQ.1 L5.Left L7).bind λRJ =>
 some (.inl (RJ,aG (uQ.2+1)))
 else
 some (.inr uQ.1))) (rK.1,0)).bind λkW =>
 some (.inl (kW,aG (rK.2+1)))
 else
 some (.inr rK.1))) ((⟨(⟨hP.ba.bo,hP.ba.dD,[(⟨0,[aG (1001+mA)],(-1),⟨#[]⟩,([]:List Int),0⟩:Prod)],hP.ba.hp,hP.ba.j3⟩:bA),hP.ed,hP.fD,hP.dq,hP.eM,hP.kn,hP.ko,hP.fj,hP.df⟩:dd),0)).bind λcj =>
 (bif !decide (cj.eM=0) then
 some ((⟨([]:List b4),([]:List fy),([]:List Prod),⟨#[]⟩,⟨#[]⟩⟩:bA),cj.eM,cj.kn,cj.ko)
 else
 (cd (R:=List fy) (λ(rL:List fy × Int) =>
 (bif decide (rL.2<(cj.dq.length:Int)) then
 (idx cj.dq rL.2).bind λqR =>
 (Aw (⟨(⟨cj.ba.bo,rL.1,cj.ba.bu,cj.ba.hp,cj.ba.j3⟩:bA),cj.ed,cj.fD,cj.dq,cj.eM,cj.kn,cj.ko,cj.fj,cj.df⟩:dd) qR).bind λyL =>
 ((bif decide (0<=yL) then
 (idx cj.fD yL).bind λL8 =>
 some L8.Tag
 else
 some (⟨#[]⟩))).bind λuy =>
 (c8 rL.1 [(⟨qR,uy⟩:fy)]).bind λRK =>
 some (.inl (rL.1++[(⟨qR,uy⟩:fy)],aG (rL.2+1)))
 else
 some (.inr rL.1))) ([(⟨⟨#[36,97,99,99,101,112,116]⟩,⟨#[]⟩⟩:fy)],0)).bind λu2 =>
 (cd (R:=List fy) (λ(sH:List fy × Int) =>
 (bif decide (sH.2<=cj.df) then
 (DC sH.2).bind λHy =>
 (tS (⟨#[64]⟩) Hy).bind λwC =>
 (c8 sH.1 [(⟨wC,⟨#[]⟩⟩:fy)]).bind λRL =>
 some (.inl (sH.1++[(⟨wC,⟨#[]⟩⟩:fy)],aG (sH.2+1)))
 else
 some (.inr sH.1))) (u2,1)).bind λln =>
 (cd (R:=List b4) (λ(mr:List b4 × Int × Int) =>
 (bif decide (mr.2.2<(mr.1.length:Int)) then
 ((idx cj.ed mr.2.2).bind λL1 =>
 ((bif !L1 then
 (idx mr.1 mr.2.2).bind λsP =>
 some (mr.1.set mr.2.2.toNat (⟨sP.Name,sP.Lit,mr.2.1,sP.Level,sP.jg,sP.Tag⟩:b4),aG (mr.2.1+1))
 else
 some (mr.1,mr.2.1))).bind λC1 =>
 some (C1.1,C1.2)).bind λC3 =>
 some (.inl (C3.1,C3.2,aG (mr.2.2+1)))
 else
 some (.inr mr.1))) (cj.ba.bo,57346,3)).bind λmB =>
 ((bif decide (40<(mB.length:Int)) then some true else (bif decide (24<(ln.length:Int)) then some true else some (decide (60<(cj.ba.bu.length:Int)))))).bind λvg =>
 (cd (R:=Bool) (λ(tt:Bool × Int) =>
 (bif decide (tt.2<(cj.ba.bu.length:Int)) then
 ((bif tt.1 then some true else ((idx cj.ba.bu tt.2).bind λL2=>some (decide (8<(L2.dw.length:Int)))))).bind λH7 =>
 some (.inl (H7,aG (tt.2+1)))
 else
 some (.inr tt.1))) (vg,0)).bind λA7 =>
 (bif A7 then
 some ((⟨([]:List b4),([]:List fy),([]:List Prod),⟨#[]⟩,⟨#[]⟩⟩:bA),4,0,⟨#[]⟩)
 else
 some ((⟨mB,ln,cj.ba.bu,a0.hp,a0.j3⟩:bA),0,0,⟨#[]⟩))))
def yo (a0:Source):Option (bA × Bool) :=
 (v7 a0).bind λaR =>
 some (aR.1,decide (aR.2.1=0))
def yi (a0:(List Int)) (aw:Int):Option (Bool) :=
 (cd (R:=(Unit) ⊕ (Bool)) (λ(s1:Int) =>
 (bif decide (s1<(a0.length:Int)) then
 (idx a0 s1).bind λbz =>
 (bif decide (bz=aw) then
 some (.inr (.inr true))
 else
 some (.inl (aG (s1+1))))
 else
 some (.inr (.inl ())))) 0).bind λx2 =>
 (match x2 with
 | .inl a8 =>
 some false
 | .inr bg =>
 some bg)
def qI (a0:(List Int)) (aw:Int):Option ((List Int)) :=
 (cd (R:=Int) (λ(s1:Int) =>
 ((bif decide (0<s1) then ((idx a0 (aG (s1 - 1))).bind λb1=>some (decide (aw<b1))) else some false)).bind λw0 =>
 (bif w0 then
 some (.inl (aG (s1 - 1)))
 else
 some (.inr s1))) (a0.length:Int)).bind λx2 =>
 ((bif decide (0<x2) then ((idx a0 (aG (x2 - 1))).bind λcC=>some (decide (cC=aw))) else some false)).bind λiI =>
 (bif iI then
 some a0
 else
 (p5 a0 0 x2).bind λeH =>
 (c8 ([]:List Int) eH).bind λcw =>
 (c8 (([]:List Int)++eH) [aw]).bind λe3 =>
 (p5 a0 x2 a0.length).bind λcL =>
 (c8 ((([]:List Int)++eH)++[aw]) cL).bind λcE =>
 some ((([]:List Int)++eH)++[aw]++cL))
def Dt (a0:bA):Option ((List Int)) :=
 (cd (R:=List Int) (λ(s1:List Int × Int) =>
 (bif decide (s1.2<(a0.bo.length:Int)) then
 (c8 s1.1 [s1.2]).bind λb1 =>
 some (.inl (s1.1++[s1.2],aG (s1.2+1)))
 else
 some (.inr s1.1))) (([]:List Int),0)).bind λx2 =>
 (cd (R:=List Int) (λ(cK:List Int × Int) =>
 (bif decide (cK.2<(a0.dD.length:Int)) then
 (c8 cK.1 [aG (1000+cK.2)]).bind λch =>
 some (.inl (cK.1++[aG (1000+cK.2)],aG (cK.2+1)))
 else
 some (.inr cK.1))) (x2,0)).bind λbq =>
 some bq
structure Item where
 Prod:Int
 ee:Int
 deriving DecidableEq,Inhabited
def Ax (a0:bA) (aw:Item):Option (Bool) :=
 ((bif decide (0<=aw.Prod) then (bif decide (aw.Prod<(a0.bu.length:Int)) then (bif decide (0<=aw.ee) then ((idx a0.bu aw.Prod).bind λbg=>some (decide (aw.ee<=(bg.dw.length:Int)))) else some false) else some false) else some false)).bind λjH =>
 some jH
def ya (a0:bA) (aw:Item):Option (Int) :=
 (((Ax a0 aw).bind λaR=>(bif !aR then some true else ((idx a0.bu aw.Prod).bind λa8=>some (decide (aw.ee=(a8.dw.length:Int))))))).bind λc4 =>
 (bif c4 then
 some (-1)
 else
 (idx a0.bu aw.Prod).bind λbz =>
 (idx bz.dw aw.ee).bind λbq =>
 some bq)
def gf:bN Item:=⟨2,λx=>[ae x.Prod,ae x.ee],λ_=>rfl,λ_=>dp.bn⟩
instance:il gf gf:=⟨rfl,λx=>(inferInstance:ga [ae x.Prod,ae x.ee] [ae x.Prod,ae x.ee])⟩
def yd (a0:(List Item)) (aw:Item):Option ((List Item)) :=
 (cd (R:=Int) (λ(s1:Int) =>
 ((bif decide (0<s1) then ((idx a0 (aG (s1 - 1))).bind λb1=>(bif decide (aw.Prod<b1.Prod) then some true else ((idx a0 (aG (s1 - 1))).bind λbq=>(bif decide (bq.Prod=aw.Prod) then ((idx a0 (aG (s1 - 1))).bind λcC=>some (decide (aw.ee<cC.ee))) else some false)))) else some false)).bind λiI =>
 (bif iI then
 some (.inl (aG (s1 - 1)))
 else
 some (.inr s1))) (a0.length:Int)).bind λx2 =>
 ((bif decide (0<x2) then ((idx a0 (aG (x2 - 1))).bind λcw=>some (decide (cw.Prod=aw.Prod)&&(decide (cw.ee=aw.ee)&&true))) else some false)).bind λrZ =>
 (bif rZ then
 some a0
 else
 (p5 a0 0 x2).bind λcE =>
 (c8 ([]:List Item) cE).bind λc0 =>
 (c8 (([]:List Item)++cE) [aw]).bind λdP =>
 (p5 a0 x2 a0.length).bind λgh =>
 (c8 ((([]:List Item)++cE)++[aw]) gh).bind λeQ =>
 some ((([]:List Item)++cE)++[aw]++gh))
def DD (a0:bA) (aw:(List Item)):Option ((List Item)) :=
 (cd (R:=List Item) (λ(s1:List Item × Int) =>
 (bif decide (s1.2<(aw.length:Int)) then
 ((idx aw s1.2).bind λbz =>
 (Ax a0 bz).bind λbq =>
 ((bif bq then
 (idx aw s1.2).bind λch =>
 (yd s1.1 ch).bind λa7 =>
 some a7
 else
 some s1.1)).bind λea =>
 some ea).bind λiy =>
 some (.inl (iy,aG (s1.2+1)))
 else
 some (.inr s1.1))) (([]:List Item),0)).bind λx2 =>
 some x2
def x_ (a0:bA) (aw:(List Item)):Option ((List Item)) :=
 (DD a0 aw).bind λaR =>
 (cd (R:=List Item) (λ(s2:List Item × Int) =>
 (bif !decide (s2.2=(s2.1.length:Int)) then
 (((cd (R:=List Item) (λ(ej:List Item × Int) =>
 (bif decide (ej.2<(s2.1.length:Int)) then
 (idx ej.1 ej.2).bind λeH =>
 (ya a0 eH).bind λcw =>
 (cd (R:=List Item) (λ(eu:List Item × Int) =>
 ((bif decide (eu.2<(a0.bu.length:Int)) then some (decide (1000<=cw)) else some false)).bind λnS =>
 (bif nS then
 ((idx a0.bu eu.2).bind λfS =>
 ((bif decide (fS.Left=aG (cw - 1000)) then
 (yd eu.1 (⟨eu.2,0⟩:Item)).bind λhf =>
 some hf
 else
 some eu.1)).bind λsu =>
 some su).bind λxO =>
 some (.inl (xO,aG (eu.2+1)))
 else
 some (.inr eu.1))) (ej.1,0)).bind λcL =>
 (bif !decide ((cL.length:Int)=(s2.1.length:Int)) then
 some (.inr cL)
 else
 some (.inl (cL,aG (ej.2+1))))
 else
 some (.inr ej.1))) (s2.1,0)).bind λcC =>
 some cC).bind λlg =>
 some (lg,(s2.1.length:Int))).bind λlf =>
 some (.inl (lf.1,lf.2))
 else
 some (.inr s2.1))) (aR,(-1))).bind λa8 =>
 some a8
def Du (a0:bA) (aw:(List Item)) (a2:Int):Option ((List Item)) :=
 (x_ a0 aw).bind λaR =>
 (cd (R:=List Item) (λ(s2:List Item × Int) =>
 (bif decide (s2.2<(aR.length:Int)) then
 ((idx aR s2.2).bind λbq =>
 (ya a0 bq).bind λbM =>
 ((bif decide (0<=bM) then some (decide (bM=a2)) else some false)).bind λiI =>
 ((bif iI then
 (idx aR s2.2).bind λcw =>
 (idx aR s2.2).bind λe3 =>
 (yd s2.1 (⟨cw.Prod,aG (e3.ee+1)⟩:Item)).bind λcL =>
 some cL
 else
 some s2.1)).bind λjb =>
 some jb).bind λlf =>
 some (.inl (lf,aG (s2.2+1)))
 else
 some (.inr s2.1))) (([]:List Item),0)).bind λa8 =>
 some a8
def DE (a0:(List Item)) (aw:(List Item)):Option (Bool) :=
 (bif !decide ((a0.length:Int)=(aw.length:Int)) then
 some false
 else
 (cd (R:=(Unit) ⊕ (Bool)) (λ(s2:Int) =>
 (bif decide (s2<(a0.length:Int)) then
 (idx a0 s2).bind λbq =>
 (idx aw s2).bind λbM =>
 (bif !(decide (bq.Prod=bM.Prod)&&(decide (bq.ee=bM.ee)&&true)) then
 some (.inr (.inr false))
 else
 some (.inl (aG (s2+1))))
 else
 some (.inr (.inl ())))) 0).bind λa8 =>
 (match a8 with
 | .inl bg =>
 some true
 | .inr b1 =>
 some b1))
structure Move where
 Sym:Int
 rW:Int
 deriving DecidableEq,Inhabited
structure State where
 Kernel:(List Item)
 dY:(List Move)
 deriving DecidableEq,Inhabited
def oA:bN Move:=⟨2,λx=>[ae x.Sym,ae x.rW],λ_=>rfl,λ_=>dp.bn⟩
instance:il oA oA:=⟨rfl,λx=>(inferInstance:ga [ae x.Sym,ae x.rW] [ae x.Sym,ae x.rW])⟩
def ha:bN State:=⟨2,λx=>[ak gf x.Kernel,ak oA x.dY],λ_=>rfl,λ_=>dp.bn⟩
def Dv (a0:(List State)) (aw:(List Item)):Option (Int) :=
 (cd (R:=(Unit) ⊕ (Int)) (λ(s1:Int) =>
 (bif decide (s1<(a0.length:Int)) then
 (idx a0 s1).bind λbz =>
 (DE bz.Kernel aw).bind λbq =>
 (bif bq then
 some (.inr (.inr s1))
 else
 some (.inl (aG (s1+1))))
 else
 some (.inr (.inl ())))) 0).bind λx2 =>
 (match x2 with
 | .inl a8 =>
 some (-1)
 | .inr bg =>
 some bg)
def gR:bN State:=⟨2,λx=>[ak gf x.Kernel,aD oA x.dY],λ_=>rfl,λ_=>dp.bn⟩
instance:il gR ha:=⟨rfl,λx=>(inferInstance:ga [ak gf x.Kernel,aD oA x.dY] [ak gf x.Kernel,ak oA x.dY])⟩
def AQ (a0:bA):Option ((List State) × Int) :=
 (Dt a0).bind λaR =>
 (cd (R:=(List State) ⊕ (List State × Int)) (λ(s2:List State × Int) =>
 (bif decide (s2.2<(s2.1.length:Int)) then
 (idx s2.1 s2.2).bind λbq =>
 (x_ a0 bq.Kernel).bind λbM =>
 (cd (R:=List Int) (λ(oS:List Int × Int) =>
 (bif decide (oS.2<(bM.length:Int)) then
 ((idx bM oS.2).bind λe3 =>
 (ya a0 e3).bind λcL =>
 ((bif decide (0<=cL) then
 (qI oS.1 cL).bind λdP =>
 some dP
 else
 some oS.1)).bind λn9 =>
 some n9).bind λlb =>
 some (.inl (lb,aG (oS.2+1)))
 else
 some (.inr oS.1))) (([]:List Int),0)).bind λch =>
 (cd (R:=(List State) ⊕ (List State × Int)) (λ(dk:List State × Int) =>
 (bif decide (dk.2<(aR.length:Int)) then
 (idx aR dk.2).bind λhf =>
 (yi ch hf).bind λlH =>
 (bif !lH then
 some (.inl (dk.1,aG (dk.2+1)))
 else
 (idx dk.1 s2.2).bind λff =>
 (idx aR dk.2).bind λgD =>
 (Du a0 ff.Kernel gD).bind λeg =>
 (Dv dk.1 eg).bind λik =>
 (bif decide (ik<0) then
 (bif decide ((dk.1.length:Int)=150) then
 some (.inr (.inr (([]:List State),4)))
 else
 (c8 dk.1 [(⟨eg,([]:List Move)⟩:State)]).bind λhg =>
 (idx (dk.1++[(⟨eg,([]:List Move)⟩:State)]) s2.2).bind λll =>
 (idx aR dk.2).bind λfv =>
 (c8 ll.dY [(⟨fv,(dk.1.length:Int)⟩:Move)]).bind λqP =>
 some (.inl ((dk.1++[(⟨eg,([]:List Move)⟩:State)]).set s2.2.toNat (⟨ll.Kernel,ll.dY++[(⟨fv,(dk.1.length:Int)⟩:Move)]⟩:State),aG (dk.2+1))))
 else
 (idx dk.1 s2.2).bind λnb =>
 (idx aR dk.2).bind λgO =>
 (c8 nb.dY [(⟨gO,ik⟩:Move)]).bind λkV =>
 some (.inl (dk.1.set s2.2.toNat (⟨nb.Kernel,nb.dY++[(⟨gO,ik⟩:Move)]⟩:State),aG (dk.2+1)))))
 else
 some (.inr (.inl dk.1)))) (s2.1,0)).bind λeQ =>
 (match eQ with
 | .inl fS =>
 some (.inl (fS,aG (s2.2+1)))
 | .inr iC =>
 some (.inr (.inr (iC.1,iC.2))))
 else
 some (.inr (.inl s2.1)))) ([(⟨[(⟨0,0⟩:Item)],([]:List Move)⟩:State)],0)).bind λa8 =>
 (match a8 with
 | .inl bg =>
 some (bg,0)
 | .inr b1 =>
 some (b1.1,b1.2))
def Gx (a0:Source):Option (bA × (List State) × Bool) :=
 (yo a0).bind λaR =>
 (bif !aR.2 then
 some (aR.1,([]:List State),false)
 else
 (AQ aR.1).bind λa8 =>
 some (aR.1,a8.1,decide (a8.2=0)))
def rE (a0:(List State)) (aw:Int) (a2:Int):Option (Int) :=
 (cd (R:=(Unit) ⊕ (Int)) (λ(s1:Int) =>
 ((bif decide (0<=aw) then (bif decide (aw<(a0.length:Int)) then ((idx a0 aw).bind λbq=>some (decide (s1<(bq.dY.length:Int)))) else some false) else some false)).bind λtR =>
 (bif tR then
 (idx a0 aw).bind λch =>
 (idx ch.dY s1).bind λa7 =>
 (bif decide (a7.Sym=a2) then
 (idx a0 aw).bind λcw =>
 (idx cw.dY s1).bind λe3 =>
 some (.inr (.inr e3.rW))
 else
 some (.inl (aG (s1+1))))
 else
 some (.inr (.inl ())))) 0).bind λx2 =>
 (match x2 with
 | .inl a8 =>
 some (-1)
 | .inr bg =>
 some bg)
structure Cell where
 State:Int
 b4:Int
 k2:Int
 nK:Bool
 bu:(List Int)
 deriving DecidableEq,Inhabited
abbrev Ik (x:Cell):List ab:=[ae x.State,ae x.b4,ae x.k2,bh x.nK,ak ai x.bu]
def iW:bN Cell:=⟨5,λx=>Ik x,λ_=>rfl,λ_=>dp.bn⟩
instance:il iW iW:=⟨rfl,λx=>(inferInstance:ga (Ik x) (Ik x))⟩
def AL (a0:Cell):Option (Int) :=
 ((bif decide (0<=a0.k2) then
 some (aG ((a0.bu.length:Int)+1))
 else
 some (a0.bu.length:Int))).bind λlB =>
 ((bif a0.nK then
 some (aG (lB+1))
 else
 some lB)).bind λhN =>
 some hN
structure lM where
 State:Int
 Prod:Int
 bo:(List Int)
 deriving DecidableEq,Inhabited
def tV:bN lM:=⟨3,λx=>[ae x.State,ae x.Prod,ak ai x.bo],λ_=>rfl,λ_=>dp.bn⟩
instance:il tV tV:=⟨rfl,λx=>(inferInstance:ga [ae x.State,ae x.Prod,ak ai x.bo] [ae x.State,ae x.Prod,ak ai x.bo])⟩
def DS (a0:bA) (aw:(List State)) (a2:(List lM)):Option ((List Cell)) :=
 (cd (R:=List Cell) (λ(s1:List Cell × Int) =>
 (bif decide (s1.2<(aw.length:Int)) then
 (cd (R:=List Cell) (λ(b2:List Cell × Int) =>
 (bif decide (b2.2<(a0.bo.length:Int)) then
 ((rE aw s1.2 b2.2).bind λch =>
 (cd (R:=Bool) (λ(nF:Bool × Int) =>
 (idx aw s1.2).bind λe3 =>
 (bif decide (nF.2<(e3.Kernel.length:Int)) then
 (idx aw s1.2).bind λcE =>
 (idx cE.Kernel nF.2).bind λc0 =>
 ((bif nF.1 then some true else (bif decide (b2.2=0) then (bif decide (c0.Prod=0) then some (decide (c0.ee=1)) else some false) else some false))).bind λr0 =>
 some (.inl (r0,aG (nF.2+1)))
 else
 some (.inr nF.1))) (false,0)).bind λeH =>
 (cd (R:=List Int) (λ(iA:List Int × Int) =>
 (bif decide (iA.2<(a2.length:Int)) then
 ((((idx a2 iA.2).bind λff=>(bif decide (ff.State=s1.2) then ((idx a2 iA.2).bind λeg=>((yi eg.bo b2.2).bind λik=>some ik)) else some false))).bind λwZ =>
 ((bif wZ then
 (idx a2 iA.2).bind λll =>
 (qI iA.1 ll.Prod).bind λfv =>
 some fv
 else
 some iA.1)).bind λpV =>
 some pV).bind λh2 =>
 some (.inl (h2,aG (iA.2+1)))
 else
 some (.inr iA.1))) (([]:List Int),0)).bind λf_ =>
 (AL (⟨s1.2,b2.2,ch,eH,f_⟩:Cell)).bind λqP =>
 ((bif decide (0<qP) then
 (c8 b2.1 [(⟨s1.2,b2.2,ch,eH,f_⟩:Cell)]).bind λkV =>
 some (b2.1++[(⟨s1.2,b2.2,ch,eH,f_⟩:Cell)])
 else
 some b2.1)).bind λKG =>
 some KG).bind λmW =>
 some (.inl (mW,aG (b2.2+1)))
 else
 some (.inr b2.1))) (s1.1,0)).bind λbz =>
 some (.inl (bz,aG (s1.2+1)))
 else
 some (.inr s1.1))) (([]:List Cell),0)).bind λx2 =>
 some x2
def Au (a0:(List (List Int))) (aw:(List (List Int))):Option ((List (List Int))) :=
 (cd (R:=List (List Int)) (λ(s1:List (List Int) × Bool) =>
 (bif s1.2 then
 (cd (R:=List (List Int) × Bool) (λ(b2:List (List Int) × Bool × Int) =>
 (bif decide (b2.2.2<(b2.1.length:Int)) then
 (idx aw b2.2.2).bind λcC =>
 (idx b2.1 b2.2.2).bind λch =>
 (cd (R:=List (List Int)) (λ(nF:List (List Int) × Int) =>
 (bif decide (nF.2<(cC.length:Int)) then
 (cd (R:=List (List Int)) (λ(l5:List (List Int) × Int) =>
 (idx cC nF.2).bind λdP =>
 (idx l5.1 dP).bind λgh =>
 (bif decide (l5.2<(gh.length:Int)) then
 (idx l5.1 b2.2.2).bind λfS =>
 (idx cC nF.2).bind λiC =>
 (idx l5.1 iC).bind λf_ =>
 (idx f_ l5.2).bind λhf =>
 (qI fS hf).bind λlH =>
 some (.inl (l5.1.set b2.2.2.toNat lH,aG (l5.2+1)))
 else
 some (.inr l5.1))) (nF.1,0)).bind λcE =>
 some (.inl (cE,aG (nF.2+1)))
 else
 some (.inr nF.1))) (b2.1,0)).bind λeH =>
 ((bif b2.2.1 then some true else ((idx eH b2.2.2).bind λff=>some (!decide ((ff.length:Int)=(ch.length:Int)))))).bind λwY =>
 some (.inl (eH,wY,aG (b2.2.2+1)))
 else
 some (.inr (b2.1,b2.2.1)))) (s1.1,false,0)).bind λbz =>
 some (.inl (bz.1,bz.2))
 else
 some (.inr s1.1))) (a0,true)).bind λx2 =>
 some x2
structure Trans where
 State:Int
 fy:Int
 deriving DecidableEq,Inhabited
def r3:bN Trans:=⟨2,λx=>[ae x.State,ae x.fy],λ_=>rfl,λ_=>dp.bn⟩
instance:il r3 r3:=⟨rfl,λx=>(inferInstance:ga [ae x.State,ae x.fy] [ae x.State,ae x.fy])⟩
def qH (a0:(List State)):Option ((List Trans)) :=
 (cd (R:=List Trans) (λ(s1:List Trans × Int) =>
 (bif decide (s1.2<(a0.length:Int)) then
 (cd (R:=List Trans) (λ(b2:List Trans × Int) =>
 (idx a0 s1.2).bind λbM =>
 (bif decide (b2.2<(bM.dY.length:Int)) then
 ((idx a0 s1.2).bind λa7 =>
 (idx a7.dY b2.2).bind λeH =>
 ((bif decide (1000<=eH.Sym) then
 (idx a0 s1.2).bind λcL =>
 (idx cL.dY b2.2).bind λcE =>
 (c8 b2.1 [(⟨s1.2,cE.Sym⟩:Trans)]).bind λc0 =>
 some (b2.1++[(⟨s1.2,cE.Sym⟩:Trans)])
 else
 some b2.1)).bind λlb =>
 some lb).bind λjO =>
 some (.inl (jO,aG (b2.2+1)))
 else
 some (.inr b2.1))) (s1.1,0)).bind λbz =>
 some (.inl (bz,aG (s1.2+1)))
 else
 some (.inr s1.1))) (([]:List Trans),0)).bind λx2 =>
 some x2
def DF (a0:(List Item)):Option (Bool) :=
 (cd (R:=(Unit) ⊕ (Bool)) (λ(s1:Int) =>
 (bif decide (s1<(a0.length:Int)) then
 (((idx a0 s1).bind λbz=>(bif decide (bz.Prod=0) then ((idx a0 s1).bind λbM=>some (decide (bM.ee=1))) else some false))).bind λr1 =>
 (bif r1 then
 some (.inr (.inr true))
 else
 some (.inl (aG (s1+1))))
 else
 some (.inr (.inl ())))) 0).bind λx2 =>
 (match x2 with
 | .inl a8 =>
 some false
 | .inr bg =>
 some bg)
def Dx (a0:(List State)):Option ((List (List Int))) :=
 (qH a0).bind λaR =>
 (cd (R:=List (List Int)) (λ(s2:List (List Int) × Int) =>
 (bif decide (s2.2<(aR.length:Int)) then
 (idx aR s2.2).bind λbz =>
 (idx aR s2.2).bind λbq =>
 (rE a0 bz.State bq.fy).bind λbM =>
 (idx a0 bM).bind λcC =>
 (DF cC.Kernel).bind λch =>
 ((bif ch then
 (c8 ([]:List Int) [0]).bind λcw =>
 some [0]
 else
 some ([]:List Int))).bind λjb =>
 (cd (R:=List Int) (λ(eu:List Int × Int) =>
 (idx a0 bM).bind λc0 =>
 (bif decide (eu.2<(c0.dY.length:Int)) then
 ((idx a0 bM).bind λeQ =>
 (idx eQ.dY eu.2).bind λfS =>
 ((bif decide (fS.Sym<1000) then
 (idx a0 bM).bind λhf =>
 (idx hf.dY eu.2).bind λlH =>
 (qI eu.1 lH.Sym).bind λjW =>
 some jW
 else
 some eu.1)).bind λsu =>
 some su).bind λiN =>
 some (.inl (iN,aG (eu.2+1)))
 else
 some (.inr eu.1))) (jb,0)).bind λcL =>
 (c8 s2.1 [cL]).bind λff =>
 some (.inl (s2.1++[cL],aG (s2.2+1)))
 else
 some (.inr s2.1))) (([]:List (List Int)),0)).bind λa8 =>
 some a8
def AA (a0:(List Bool)) (aw:(List Int)):Option (Bool) :=
 (cd (R:=(Unit) ⊕ (Bool)) (λ(s1:Int) =>
 (bif decide (s1<(aw.length:Int)) then
 (((idx aw s1).bind λbz=>(bif decide (bz<1000) then some true else ((idx aw s1).bind λbM=>((idx a0 (aG (bM - 1000))).bind λcC=>some (!cC)))))).bind λiI =>
 (bif iI then
 some (.inr (.inr false))
 else
 some (.inl (aG (s1+1))))
 else
 some (.inr (.inl ())))) 0).bind λx2 =>
 (match x2 with
 | .inl a8 =>
 some true
 | .inr bg =>
 some bg)
def Ay (a0:bA):Option ((List Bool)) :=
 (oO (a0.dD.length:Int) false).bind λaR =>
 (cd (R:=List Bool) (λ(s2:List Bool × Bool) =>
 (bif s2.2 then
 (cd (R:=List Bool × Bool) (λ(cK:List Bool × Bool × Int) =>
 (bif decide (cK.2.2<(a0.bu.length:Int)) then
 ((idx a0.bu cK.2.2).bind λa7 =>
 (((idx cK.1 a7.Left).bind λeH=>(bif !eH then ((AA cK.1 a7.dw).bind λe3=>some e3) else some false))).bind λwV =>
 ((bif wV then
 (idx cK.1 a7.Left).bind λdP =>
 some (cK.1.set a7.Left.toNat true,true)
 else
 some (cK.1,cK.2.1))).bind λn9 =>
 some (n9.1,n9.2)).bind λjO =>
 some (.inl (jO.1,jO.2,aG (cK.2.2+1)))
 else
 some (.inr (cK.1,cK.2.1)))) (s2.1,false,0)).bind λbq =>
 some (.inl (bq.1,bq.2))
 else
 some (.inr s2.1))) (aR,true)).bind λa8 =>
 some a8
def Az (a0:(List Trans)) (aw:Int) (a2:Int):Option (Int) :=
 (cd (R:=(Unit) ⊕ (Int)) (λ(s1:Int) =>
 (bif decide (s1<(a0.length:Int)) then
 (((idx a0 s1).bind λbz=>(bif decide (bz.State=aw) then ((idx a0 s1).bind λbM=>some (decide (bM.fy=a2))) else some false))).bind λr1 =>
 (bif r1 then
 some (.inr (.inr s1))
 else
 some (.inl (aG (s1+1))))
 else
 some (.inr (.inl ())))) 0).bind λx2 =>
 (match x2 with
 | .inl a8 =>
 some (-1)
 | .inr bg =>
 some bg)
def Dy (a0:bA) (aw:(List State)):Option ((List (List Int))) :=
 (qH aw).bind λaR =>
 (Ay a0).bind λx2 =>
 (cd (R:=List (List Int)) (λ(eK:List (List Int) × Int) =>
 (bif decide (eK.2<(aR.length:Int)) then
 (idx aR eK.2).bind λbq =>
 (idx aR eK.2).bind λbM =>
 (rE aw bq.State bM.fy).bind λcC =>
 (cd (R:=List Int) (λ(e2:List Int × Int) =>
 (idx aw cC).bind λcw =>
 (bif decide (e2.2<(cw.dY.length:Int)) then
 ((idx aw cC).bind λcE =>
 (idx cE.dY e2.2).bind λc0 =>
 ((bif decide (1000<=c0.Sym) then ((idx x2 (aG (c0.Sym - 1000))).bind λgh=>some gh) else some false)).bind λH_ =>
 ((bif H_ then
 (Az aR cC c0.Sym).bind λf_ =>
 (qI e2.1 f_).bind λhf =>
 some hf
 else
 some e2.1)).bind λpU =>
 some pU).bind λry =>
 some (.inl (ry,aG (e2.2+1)))
 else
 some (.inr e2.1))) (([]:List Int),0)).bind λa7 =>
 (c8 eK.1 [a7]).bind λlH =>
 some (.inl (eK.1++[a7],aG (eK.2+1)))
 else
 some (.inr eK.1))) (([]:List (List Int)),0)).bind λbg =>
 some bg
def Av (a0:(List State)) (aw:Int) (a2:(List Int)):Option (Int) :=
 (cd (R:=Int) (λ(s1:Int × Int) =>
 ((bif decide (s1.2<(a2.length:Int)) then some (decide (0<=s1.1)) else some false)).bind λjH =>
 (bif jH then
 (idx a2 s1.2).bind λbq =>
 (rE a0 s1.1 bq).bind λbM =>
 some (.inl (bM,aG (s1.2+1)))
 else
 some (.inr s1.1))) (aw,0)).bind λx2 =>
 some x2
def Dz (a0:bA) (aw:(List State)):Option ((List (List Int))) :=
 (qH aw).bind λaR =>
 (Ay a0).bind λx2 =>
 (oO (aR.length:Int) ([]:List Int)).bind λa8 =>
 (cd (R:=List (List Int)) (λ(da:List (List Int) × Int) =>
 (bif decide (da.2<(aR.length:Int)) then
 (cd (R:=List (List Int)) (λ(ej:List (List Int) × Int) =>
 (bif decide (ej.2<(a0.bu.length:Int)) then
 ((idx a0.bu ej.2).bind λcw =>
 (idx a0.bu ej.2).bind λe3 =>
 (idx aR da.2).bind λcL =>
 (bif !decide (aG (1000+e3.Left)=cL.fy) then
 some ej.1
 else
 (cd (R:=List (List Int)) (λ(l6:List (List Int) × Int) =>
 (bif decide (l6.2<(cw.dw.length:Int)) then
 ((((idx cw.dw l6.2).bind λiC=>(bif decide (iC<1000) then some true else ((p5 cw.dw (aG (l6.2+1)) cw.dw.length).bind λhf=>((AA x2 hf).bind λlH=>some (!lH)))))).bind λIa =>
 (bif Ia then
 some l6.1
 else
 (idx aR da.2).bind λgD =>
 (p5 cw.dw 0 l6.2).bind λeg =>
 (Av aw gD.State eg).bind λik =>
 ((bif decide (0<=ik) then
 (idx cw.dw l6.2).bind λhg =>
 (Az aR ik hg).bind λll =>
 ((bif decide (0<=ll) then
 (idx l6.1 ll).bind λnb =>
 (qI nb da.2).bind λgO =>
 some (l6.1.set ll.toNat gO)
 else
 some l6.1)).bind λKF =>
 some KF
 else
 some l6.1)).bind λxP =>
 some xP)).bind λpU =>
 some (.inl (pU,aG (l6.2+1)))
 else
 some (.inr l6.1))) (ej.1,0)).bind λdP =>
 some dP)).bind λhd =>
 some (.inl (hd,aG (ej.2+1)))
 else
 some (.inr ej.1))) (da.1,0)).bind λcC =>
 some (.inl (cC,aG (da.2+1)))
 else
 some (.inr da.1))) (a8,0)).bind λb1 =>
 some b1
def AR (a0:bA) (aw:(List State)):Option ((List (List Int))) :=
 (Dx aw).bind λaR =>
 (Dy a0 aw).bind λx2 =>
 (Au aR x2).bind λa8 =>
 (Dz a0 aw).bind λbg =>
 (Au a8 bg).bind λb1 =>
 some b1
def DV (a0:bA) (aw:(List Item)):Option ((List Int)) :=
 (x_ a0 aw).bind λaR =>
 (cd (R:=List Int) (λ(s2:List Int × Int) =>
 (bif decide (s2.2<(aR.length:Int)) then
 ((((idx aR s2.2).bind λbq=>(bif decide (0<bq.Prod) then ((idx aR s2.2).bind λcC=>((idx aR s2.2).bind λch=>((idx a0.bu ch.Prod).bind λa7=>some (decide (cC.ee=(a7.dw.length:Int)))))) else some false))).bind λwU =>
 ((bif wU then
 (idx aR s2.2).bind λcL =>
 (c8 s2.1 [cL.Prod]).bind λcE =>
 some (s2.1++[cL.Prod])
 else
 some s2.1)).bind λlb =>
 some lb).bind λlf =>
 some (.inl (lf,aG (s2.2+1)))
 else
 some (.inr s2.1))) (([]:List Int),0)).bind λa8 =>
 some a8
def DW (a0:bA) (aw:(List State)) (a2:Int) (a3:Int):Option ((List Int)) :=
 ((bif decide (a2<0) then some true else (bif decide ((aw.length:Int)<=a2) then some true else (bif decide (a3<1) then some true else some (decide ((a0.bu.length:Int)<=a3)))))).bind λc4 =>
 (bif c4 then
 some ([]:List Int)
 else
 (qH aw).bind λbz =>
 (cd (R:=List Int) (λ(gg:List Int × Int) =>
 (bif decide (gg.2<(bz.length:Int)) then
 ((((idx bz gg.2).bind λeH=>((idx a0.bu a3).bind λcw=>(bif decide (eH.fy=aG (1000+cw.Left)) then ((idx bz gg.2).bind λcL=>((idx a0.bu a3).bind λcE=>((Av aw cL.State cE.dw).bind λc0=>some (decide (c0=a2))))) else some false)))).bind λnS =>
 ((bif nS then
 (c8 gg.1 [gg.2]).bind λfS =>
 some (gg.1++[gg.2])
 else
 some gg.1)).bind λiN =>
 some iN).bind λjb =>
 some (.inl (jb,aG (gg.2+1)))
 else
 some (.inr gg.1))) (([]:List Int),0)).bind λbM =>
 some bM)
def DT (a0:bA) (aw:(List State)):Option ((List lM)) :=
 (AR a0 aw).bind λaR =>
 (cd (R:=List lM) (λ(s2:List lM × Int) =>
 (bif decide (s2.2<(aw.length:Int)) then
 (idx aw s2.2).bind λbz =>
 (DV a0 bz.Kernel).bind λbq =>
 (cd (R:=List lM) (λ(ej:List lM × Int) =>
 (bif decide (ej.2<(bq.length:Int)) then
 (idx bq ej.2).bind λeH =>
 (idx bq ej.2).bind λcw =>
 (DW a0 aw s2.2 cw).bind λe3 =>
 (cd (R:=List Int) (λ(l5:List Int × Int) =>
 (bif decide (l5.2<(e3.length:Int)) then
 (cd (R:=List Int) (λ(dk:List Int × Int) =>
 (idx e3 l5.2).bind λiC =>
 (idx aR iC).bind λf_ =>
 (bif decide (dk.2<(f_.length:Int)) then
 (idx e3 l5.2).bind λlH =>
 (idx aR lH).bind λjW =>
 (idx jW dk.2).bind λff =>
 (qI dk.1 ff).bind λgD =>
 some (.inl (gD,aG (dk.2+1)))
 else
 some (.inr dk.1))) (l5.1,0)).bind λeQ =>
 some (.inl (eQ,aG (l5.2+1)))
 else
 some (.inr l5.1))) (([]:List Int),0)).bind λcE =>
 (c8 ej.1 [(⟨s2.2,eH,cE⟩:lM)]).bind λeg =>
 some (.inl (ej.1++[(⟨s2.2,eH,cE⟩:lM)],aG (ej.2+1)))
 else
 some (.inr ej.1))) (s2.1,0)).bind λcC =>
 some (.inl (cC,aG (s2.2+1)))
 else
 some (.inr s2.1))) (([]:List lM),0)).bind λa8 =>
 some a8
def AH (a0:Source):Option (bA × (List State) × (List Cell) × Bool) :=
 (Gx a0).bind λaR =>
 (bif !aR.2.2 then
 some (aR.1,([]:List State),([]:List Cell),false)
 else
 (DT aR.1 aR.2.1).bind λa8 =>
 (DS aR.1 aR.2.1 a8).bind λbg =>
 some (aR.1,aR.2.1,bg,true))
def DA (a0:bA) (aw:Int):Option (Int × Int) :=
 ((bif decide (aw<0) then some true else (bif decide ((a0.bu.length:Int)<=aw) then some true else ((idx a0.bu aw).bind λa8=>some (decide (a8.Prec<0)))))).bind λc4 =>
 (bif c4 then
 some (0,0)
 else
 (idx a0.bu aw).bind λbz =>
 (idx a0.bo bz.Prec).bind λbq =>
 some (bq.Level,bq.jg))
def DX (a0:bA) (aw:Int) (a2:Int):Option (Int) :=
 (DA a0 aw).bind λaR =>
 ((bif decide (aR.1=0) then some true else (bif decide (a2<0) then some true else (bif decide ((a0.bo.length:Int)<=a2) then some true else ((idx a0.bo a2).bind λb1=>some (decide (b1.Level=0))))))).bind λw0 =>
 (bif w0 then
 some 0
 else
 (idx a0.bo a2).bind λbM =>
 (bif decide (aR.1<bM.Level) then
 some 1
 else
 (bif decide (bM.Level<aR.1) then
 some 2
 else
 (bif decide (bM.jg=1) then
 some 2
 else
 (bif decide (bM.jg=2) then
 some 1
 else
 some 3)))))
structure e5 where
 State:Int
 b4:Int
 iE:Int
 Drop:Int
 deriving DecidableEq,Inhabited
def eL:bN e5:=⟨4,λx=>[ae x.State,ae x.b4,ae x.iE,ae x.Drop],λ_=>rfl,λ_=>dp.bn⟩
instance:il eL eL:=⟨rfl,λx=>(inferInstance:ga [ae x.State,ae x.b4,ae x.iE,ae x.Drop] [ae x.State,ae x.b4,ae x.iE,ae x.Drop])⟩
def yl (a0:bA) (aw:Cell):Option (Act × (List e5)) :=
 (cd (R:=List e5) (λ(s1:List e5 × Int) =>
 (bif decide (s1.2<(aw.bu.length:Int)) then
 (idx aw.bu 0).bind λb1 =>
 (idx aw.bu s1.2).bind λbz =>
 (c8 s1.1 [(⟨aw.State,aw.b4,b1,bz⟩:e5)]).bind λbq =>
 some (.inl (s1.1++[(⟨aw.State,aw.b4,b1,bz⟩:e5)],aG (s1.2+1)))
 else
 some (.inr s1.1))) (([]:List e5),1)).bind λx2 =>
 ((bif aw.nK then
 some (3,0)
 else
 some (1,aw.k2))).bind λea =>
 (bif decide ((aw.bu.length:Int)=0) then
 some ((⟨ea.1,ea.2⟩:Act),x2)
 else
 (idx aw.bu 0).bind λa7 =>
 ((bif decide (aw.k2<0) then some (!aw.nK) else some false)).bind λiU =>
 (bif iU then
 some ((⟨2,a7⟩:Act),x2)
 else
 (DX a0 a7 aw.b4).bind λcL =>
 ((bif aw.nK then some true else some (decide (cL=0)))).bind λwW =>
 (bif wW then
 (c8 x2 [(⟨aw.State,aw.b4,(-1),a7⟩:e5)]).bind λgh =>
 some ((⟨ea.1,ea.2⟩:Act),x2++[(⟨aw.State,aw.b4,(-1),a7⟩:e5)])
 else
 (bif decide (cL=2) then
 some ((⟨2,a7⟩:Act),x2)
 else
 (bif decide (cL=3) then
 some ((⟨4,0⟩:Act),x2)
 else
 some ((⟨ea.1,ea.2⟩:Act),x2))))))
def AI (a0:bA) (aw:(List State)) (a2:(List Cell)):Option (gW × (List e5)) :=
 (cd (R:=List (List Act) × List (List Int) × List e5) (λ(s1:List (List Act) × List (List Int) × List e5 × Int) =>
 (bif decide (s1.2.2.2<(aw.length:Int)) then
 (oO (a0.bo.length:Int) (⟨0,0⟩:Act)).bind λb1 =>
 (cd (R:=List e5 × List Act) (λ(cK:List e5 × List Act × Int) =>
 (bif decide (cK.2.2<(a2.length:Int)) then
 ((idx a2 cK.2.2).bind λa7 =>
 ((bif decide (a7.State=s1.2.2.2) then
 (idx a2 cK.2.2).bind λe3 =>
 (yl a0 e3).bind λcL =>
 (idx a2 cK.2.2).bind λcE =>
 (idx cK.2.1 cE.b4).bind λc0 =>
 (c8 cK.1 cL.2).bind λdP =>
 some (cK.1++cL.2,cK.2.1.set cE.b4.toNat cL.1)
 else
 some (cK.1,cK.2.1))).bind λhd =>
 some (hd.1,hd.2)).bind λjO =>
 some (.inl (jO.1,jO.2,aG (cK.2.2+1)))
 else
 some (.inr (cK.1,cK.2.1)))) (s1.2.2.1,b1,0)).bind λbq =>
 (oO (a0.dD.length:Int) 0).bind λgh =>
 (cd (R:=List Int) (λ(qM:List Int × Int) =>
 (bif decide (qM.2<(qM.1.length:Int)) then
 (rE aw s1.2.2.2 (aG (1000+qM.2))).bind λhf =>
 (idx qM.1 qM.2).bind λlH =>
 some (.inl (qM.1.set qM.2.toNat hf,aG (qM.2+1)))
 else
 some (.inr qM.1))) (gh,0)).bind λfS =>
 (c8 s1.1 [bq.2]).bind λjW =>
 (c8 s1.2.1 [fS]).bind λff =>
 some (.inl (s1.1++[bq.2],s1.2.1++[fS],bq.1,aG (s1.2.2.2+1)))
 else
 some (.inr (s1.1,s1.2.1,s1.2.2.1)))) (([]:List (List Act)),([]:List (List Int)),([]:List e5),0)).bind λx2 =>
 some ((⟨x2.1,x2.2.1⟩:gW),x2.2.2)
def DL (a0:(List Cell)):Option (Int) :=
 (cd (R:=Int) (λ(s1:Int × Int) =>
 (bif decide (s1.2<(a0.length:Int)) then
 ((idx a0 s1.2).bind λbz =>
 (AL bz).bind λbq =>
 ((bif decide (1<bq) then
 some (aG (s1.1+1))
 else
 some s1.1)).bind λea =>
 some ea).bind λiy =>
 some (.inl (iy,aG (s1.2+1)))
 else
 some (.inr s1.1))) (0,0)).bind λx2 =>
 some x2
def x8 (a0:Source):Option (bA × gW × Int × Bool) :=
 (AH a0).bind λaR =>
 (bif !aR.2.2.2 then
 some (aR.1,(⟨([]:List (List Act)),([]:List (List Int))⟩:gW),0,false)
 else
 (AI aR.1 aR.2.1 aR.2.2.1).bind λa8 =>
 (DL aR.2.2.1).bind λbg =>
 some (aR.1,a8.1,bg,true))
def DQ (a0:ByteArray):Option (Part) :=
 some (⟨(⟨a0,false,0,0⟩:Sym),⟨#[]⟩,0⟩:Part)
def DR (a0:ByteArray):Option (Part) :=
 some (⟨(⟨a0,true,0,0⟩:Sym),⟨#[]⟩,0⟩:Part)
def Gw :Option (bA × gW × Bool) :=
 (DQ (⟨#[115]⟩)).bind λaR =>
 (DQ (⟨#[108]⟩)).bind λx2 =>
 (DR (⟨#[120]⟩)).bind λa8 =>
 (DR (⟨#[59]⟩)).bind λbg =>
 (DQ (⟨#[101,114,114,111,114]⟩)).bind λb1 =>
 (DR (⟨#[59]⟩)).bind λbz =>
 (x8 (⟨⟨#[]⟩,([]:List Decl),[(⟨⟨#[115]⟩,[(⟨([]:List Part),(⟨⟨#[]⟩,false,0,0⟩:Sym),0⟩:Alt),(⟨[aR,x2],(⟨⟨#[]⟩,false,0,0⟩:Sym),0⟩:Alt)],0⟩:fL),(⟨⟨#[108]⟩,[(⟨[a8,bg],(⟨⟨#[]⟩,false,0,0⟩:Sym),0⟩:Alt),(⟨[b1,bz],(⟨⟨#[]⟩,false,0,0⟩:Sym),0⟩:Alt)],0⟩:fL)],⟨#[]⟩⟩:Source)).bind λbq =>
 some (bq.1,bq.2.1,bq.2.2.2)
def DU :Option (Bool) :=
 (Gw ).bind λaR =>
 (yg aR.1 aR.2.1).bind λx2 =>
 ((bif !aR.2.2 then some true else some (decide ((x2.Def.length:Int)=0)))).bind λc4 =>
 (bif c4 then
 some false
 else
 (uH x2 [120,120,59,120,59] 50 50).bind λbz =>
 (uH x2 [120,59,0,120] 50 50).bind λbq =>
 (uH x2 [59,59] 50 3).bind λbM =>
 ((bif decide (bz.Kind=1) then (bif decide (bz.At=5) then (bif decide ((bz.eB.length:Int)=1) then ((idx bz.eB 0).bind λeH=>(bif decide (eH.At=1) then ((idx bz.eB 0).bind λe3=>(bif e3.Told then ((Gv bz.gP [1]).bind λcE=>(bif cE then (bif decide (bz.Tree.Sym=1001) then ((Gv bz.bu [1,4,2,3,2]).bind λgh=>(bif gh then (bif decide (bz.Steps=12) then (bif decide (bz.Deep=3) then (bif decide (bq.Kind=1) then (bif decide (bq.At=2) then some (decide (bM.Kind=3)) else some false) else some false) else some false) else some false) else some false)) else some false) else some false)) else some false)) else some false)) else some false) else some false) else some false)).bind λtQ =>
 some tQ)
def uK (a0:Int) (aw:Int):Option (Int) :=
 (rH a0 aw).bind λaR =>
 ((bif decide (aR<0) then
 some (aG (aR+aw))
 else
 some aR)).bind λxN =>
 some xN
def Lj :Option (ByteArray) :=
 some (⟨#[112,113,114,115]⟩)
def we (a0:Int):Option (Sym) :=
 (Lj ).bind λaR =>
 (rH a0 4).bind λx2 =>
 (rH a0 4).bind λa8 =>
 (w5 aR x2 (aG (a8+1))).bind λbg =>
 some (⟨bg,true,0,0⟩:Sym)
def ns:bN Decl:=⟨4,λx=>[ae x.Kind,a1 x.Tag,aD fC x.fi,ae x.At],λ_=>rfl,λ_=>dp.bn⟩
instance:il ns eV:=⟨rfl,λx=>(inferInstance:ga [ae x.Kind,a1 x.Tag,aD fC x.fi,ae x.At] [ae x.Kind,a1 x.Tag,ak fC x.fi,ae x.At])⟩
def AF (a0:(List Int)):Option ((List Decl)) :=
 (cd (R:=List Decl) (λ(s1:List Decl × Int) =>
 ((bif decide (s1.2<(a0.length:Int)) then some (decide (s1.2<4)) else some false)).bind λjH =>
 (bif jH then
 ((idx a0 s1.2).bind λbM =>
 (uK bM 8).bind λcC =>
 (rH cC 4).bind λch =>
 (bif decide (ch=0) then
 some s1.1
 else
 ((bif decide (4<cC) then some (decide (0<(s1.1.length:Int))) else some false)).bind λiU =>
 (bif iU then
 (idx s1.1 (aG ((s1.1.length:Int) - 1))).bind λcL =>
 (we s1.2).bind λcE =>
 (c8 cL.fi [cE]).bind λc0 =>
 some (s1.1.set (aG ((s1.1.length:Int) - 1)).toNat (⟨cL.Kind,cL.Tag,cL.fi++[cE],cL.At⟩:Decl))
 else
 (rH cC 4).bind λdP =>
 (we s1.2).bind λgh =>
 (c8 s1.1 [(⟨aG (1+dP),⟨#[]⟩,[gh],0⟩:Decl)]).bind λeQ =>
 some (s1.1++[(⟨aG (1+dP),⟨#[]⟩,[gh],0⟩:Decl)])))).bind λlg =>
 some (.inl (lg,aG (s1.2+1)))
 else
 some (.inr s1.1))) (([]:List Decl),0)).bind λx2 =>
 some x2
def AG (a0:Int):Option (ByteArray) :=
 some (strOfNums [yK (aG (97+a0))])
def DK (a0:Int) (aw:Int):Option (Sym) :=
 (uK a0 14).bind λaR =>
 (bif decide (aR<5) then
 (rH aR aw).bind λa8 =>
 (AG a8).bind λbg =>
 some (⟨bg,false,0,0⟩:Sym)
 else
 (bif decide (aR=13) then
 some (⟨⟨#[101,114,114,111,114]⟩,false,0,0⟩:Sym)
 else
 (we (aG (aR - 5))).bind λbz =>
 some bz))
structure qS where
 dD:Int
 eR:(List (List Int))
 wF:(List Int)
 qY:(List Int)
 Bb:Bool
 deriving DecidableEq,Inhabited
abbrev UM (x:qS):List ab:=[ae x.dD,ak (bC ai) x.eR,ak ai x.wF,ak ai x.qY,bh x.Bb]
def sY:bN qS:=⟨5,λx=>UM x,λ_=>rfl,λ_=>dp.bn⟩
def fB:bN fL:=⟨3,λx=>[a1 x.Left,aD gG x.gi,ae x.At],λ_=>rfl,λ_=>dp.bn⟩
instance:il fB oB:=⟨rfl,λx=>(inferInstance:ga [a1 x.Left,aD gG x.gi,ae x.At] [a1 x.Left,ak gG x.gi,ae x.At])⟩
def Ap (a0:qS):Option (Source) :=
 (uK a0.dD 4).bind λaR =>
 (AF a0.wF).bind λx2 =>
 (oO (aG (1+aR)) false).bind λa8 =>
 (cd (R:=List fL) (λ(da:List fL × Int) =>
 (bif decide (da.2<aG (1+aR)) then
 (AG da.2).bind λbM =>
 (c8 da.1 [(⟨bM,([]:List Alt),0⟩:fL)]).bind λcC =>
 some (.inl (da.1++[(⟨bM,([]:List Alt),0⟩:fL)],aG (da.2+1)))
 else
 some (.inr da.1))) (([]:List fL),0)).bind λb1 =>
 (cd (R:=List fL × List Bool) (λ(e2:List fL × List Bool × Int) =>
 ((bif decide (e2.2.2<(a0.eR.length:Int)) then some (decide (e2.2.2<9)) else some false)).bind λrZ =>
 (bif rZ then
 ((idx a0.eR e2.2.2).bind λc0 =>
 (bif decide ((c0.length:Int)=0) then
 some (e2.1,e2.2.1)
 else
 (idx a0.eR e2.2.2).bind λgh =>
 (idx gh 0).bind λeQ =>
 (uK eQ (aG (1+aR))).bind λfS =>
 (cd (R:=List Part × Bool) (λ(iA:List Part × Bool × Int) =>
 (((idx a0.eR e2.2.2).bind λlH=>(bif decide (iA.2.2<(lH.length:Int)) then some (decide (iA.2.2<5)) else some false))).bind λIb =>
 (bif Ib then
 ((idx a0.eR e2.2.2).bind λik =>
 (idx ik iA.2.2).bind λoU =>
 (DK oU (aG (1+aR))).bind λdb =>
 ((bif iA.2.1 then (bif db.Lit then some true else some (decide (db.Name=⟨#[101,114,114,111,114]⟩))) else some false)).bind λqj =>
 (c8 iA.1 [(⟨db,⟨#[]⟩,0⟩:Part)]).bind λqP =>
 ((bif decide (e2.2.2<(a0.qY.length:Int)) then (bif decide (iA.2.2=1) then ((idx a0.qY e2.2.2).bind λkV=>((rH kV 3).bind λwz=>some (decide (wz=1)))) else some false) else some false)).bind λIe =>
 ((bif Ie then
 (c8 (iA.1++[(⟨db,⟨#[]⟩,0⟩:Part)]) [(⟨(⟨⟨#[]⟩,false,0,0⟩:Sym),⟨#[123,36,36,32,61,32,36,49,125]⟩,0⟩:Part)]).bind λHw =>
 some ((iA.1++[(⟨db,⟨#[]⟩,0⟩:Part)])++[(⟨(⟨⟨#[]⟩,false,0,0⟩:Sym),⟨#[123,36,36,32,61,32,36,49,125]⟩,0⟩:Part)])
 else
 some (iA.1++[(⟨db,⟨#[]⟩,0⟩:Part)]))).bind λKI =>
 some (KI,qj)).bind λux =>
 some (.inl (ux.1,ux.2,aG (iA.2.2+1)))
 else
 some (.inr (iA.1,iA.2.1)))) (([]:List Part),true,1)).bind λf_ =>
 ((bif decide (e2.2.2<(a0.qY.length:Int)) then ((idx a0.qY e2.2.2).bind λqQ=>((rH qQ 2).bind λRG=>some (!decide (RG=0)))) else some false)).bind λzr =>
 ((bif zr then
 (c8 f_.1 [(⟨(⟨⟨#[]⟩,false,0,0⟩:Sym),⟨#[123,102,40,36,36,41,125]⟩,0⟩:Part)]).bind λA8 =>
 some (f_.1++[(⟨(⟨⟨#[]⟩,false,0,0⟩:Sym),⟨#[123,102,40,36,36,41,125]⟩,0⟩:Part)])
 else
 some f_.1)).bind λpf =>
 (((idx e2.2.1 fS).bind λtz=>(bif tz then some (e2.2.1.set fS.toNat true) else some (e2.2.1.set fS.toNat f_.2)))).bind λE8 =>
 (idx e2.1 fS).bind λmz =>
 (c8 mz.gi [(⟨pf,(⟨⟨#[]⟩,false,0,0⟩:Sym),0⟩:Alt)]).bind λRH =>
 some (e2.1.set fS.toNat (⟨mz.Left,mz.gi++[(⟨pf,(⟨⟨#[]⟩,false,0,0⟩:Sym),0⟩:Alt)],mz.At⟩:fL),E8))).bind λn9 =>
 some (.inl (n9.1,n9.2,aG (e2.2.2+1)))
 else
 some (.inr (e2.1,e2.2.1)))) (b1,a8,0)).bind λa7 =>
 (cd (R:=List fL) (λ(je:List fL × Int) =>
 (bif decide (je.2<aG (1+aR)) then
 ((((idx je.1 je.2).bind λwB=>(bif decide ((wB.gi.length:Int)=0) then some true else ((idx a7.2 je.2).bind λL4=>(bif !L4 then some (!a0.Bb) else some false))))).bind λIi =>
 ((bif Ii then
 (idx je.1 je.2).bind λkW =>
 (we je.2).bind λkX =>
 (c8 kW.gi [(⟨[(⟨kX,⟨#[]⟩,0⟩:Part)],(⟨⟨#[]⟩,false,0,0⟩:Sym),0⟩:Alt)]).bind λEr =>
 some (je.1.set je.2.toNat (⟨kW.Left,kW.gi++[(⟨[(⟨kX,⟨#[]⟩,0⟩:Part)],(⟨⟨#[]⟩,false,0,0⟩:Sym),0⟩:Alt)],kW.At⟩:fL))
 else
 some je.1)).bind λKM =>
 some KM).bind λKL =>
 some (.inl (KL,aG (je.2+1)))
 else
 some (.inr je.1))) (a7.1,0)).bind λwA =>
 some (⟨⟨#[]⟩,x2,wA,⟨#[]⟩⟩:Source)
def Gy (a0:(List Int)):Option (Int) :=
 (cd (R:=List Int) (λ(s1:List Int × Int) =>
 (bif decide (s1.2<(a0.length:Int)) then
 (idx a0 s1.2).bind λb1 =>
 (qI s1.1 b1).bind λbz =>
 some (.inl (bz,aG (s1.2+1)))
 else
 some (.inr s1.1))) (([]:List Int),0)).bind λx2 =>
 (cd (R:=Int) (λ(gg:Int × Int × Int) =>
 (bif decide (gg.2.2<(x2.length:Int)) then
 ((cd (R:=Int) (λ(A1:Int × Int) =>
 (bif decide (A1.2<(a0.length:Int)) then
 ((idx a0 A1.2).bind λc0 =>
 (idx x2 gg.2.2).bind λdP =>
 ((bif decide (c0=dP) then
 some (aG (A1.1+1))
 else
 some A1.1)).bind λiN =>
 some iN).bind λn9 =>
 some (.inl (n9,aG (A1.2+1)))
 else
 some (.inr A1.1))) (0,0)).bind λcw =>
 ((bif decide (gg.2.1<cw) then
 (idx x2 gg.2.2).bind λf_ =>
 some (f_,cw)
 else
 some (gg.1,gg.2.1))).bind λpU =>
 some (pU.1,pU.2)).bind λjb =>
 some (.inl (jb.1,jb.2,aG (gg.2.2+1)))
 else
 some (.inr gg.1))) ((-1),0,0)).bind λbM =>
 some bM
def oQ (a0:Act):Option (Int) :=
 ((bif decide (a0.Kind=1) then (bif decide (0<=a0.N) then some (decide (a0.N<=19999)) else some false) else some false)).bind λkK =>
 (bif kK then
 some (aG (a0.N+1))
 else
 ((bif decide (a0.Kind=2) then (bif decide (1<=a0.N) then some (decide (a0.N<=19999)) else some false) else some false)).bind λnT =>
 (bif nT then
 some (aG (-a0.N))
 else
 ((bif decide (a0.Kind=3) then some (decide (a0.N=0)) else some false)).bind λiI =>
 (bif iI then
 some 20001
 else
 ((bif decide (a0.Kind=4) then some (decide (a0.N=0)) else some false)).bind λiU =>
 (bif iU then
 some 20002
 else
 some 0))))
def Dw (a0:bA) (aw:(List Int)) (a2:Int):Option ((List Int)) :=
 (cd (R:=List Int) (λ(s1:List Int × Int) =>
 ((bif decide (s1.2<(aw.length:Int)) then some (decide (s1.2<a2)) else some false)).bind λjH =>
 (bif jH then
 ((idx aw s1.2).bind λbM =>
 (uK bM (aG ((a0.bo.length:Int) - 2))).bind λcC =>
 ((bif decide (0<cC) then
 (idx a0.bo (aG (cC+2))).bind λeH =>
 (c8 s1.1 [eH.cb]).bind λcw =>
 some (s1.1++[eH.cb])
 else
 (c8 s1.1 [999]).bind λe3 =>
 some (s1.1++[999]))).bind λjO =>
 some jO).bind λlg =>
 some (.inl (lg,aG (s1.2+1)))
 else
 some (.inr s1.1))) (([]:List Int),0)).bind λx2 =>
 some x2
def Ar (a0:(List cH)) (aw:Int):Option (Int × Bool) :=
 (cd (R:=(Unit) ⊕ (Int × Bool)) (λ(s1:Int) =>
 (bif decide (s1<(a0.length:Int)) then
 (idx a0 s1).bind λbz =>
 (bif decide (bz.At=aw) then
 (idx a0 s1).bind λbM =>
 some (.inr (.inr (bM.b',true)))
 else
 some (.inl (aG (s1+1))))
 else
 some (.inr (.inl ())))) 0).bind λx2 =>
 (match x2 with
 | .inl a8 =>
 some (0,false)
 | .inr bg =>
 some (bg.1,bg.2))
def Dr (a0:Int):Option (Act) :=
 ((bif decide (1<=a0) then some (decide (a0<=20000)) else some false)).bind λc2 =>
 (bif c2 then
 some (⟨1,aG (a0 - 1)⟩:Act)
 else
 ((bif decide (a0<=(-1)) then some (decide ((-19999)<=a0)) else some false)).bind λjH =>
 (bif jH then
 some (⟨2,aG (-a0)⟩:Act)
 else
 (bif decide (a0=20001) then
 some (⟨3,0⟩:Act)
 else
 (bif decide (a0=20002) then
 some (⟨4,0⟩:Act)
 else
 some (⟨0,0⟩:Act)))))
def AK (a0:qS) (aw:(List Int)):Option (Bool) :=
 (DU ).bind λaR =>
 (bif !aR then
 some false
 else
 (Ap a0).bind λa8 =>
 (x8 a8).bind λbg =>
 (bif !bg.2.2.2 then
 some true
 else
 (cd (R:=(Unit) ⊕ (Bool)) (λ(cK:Int) =>
 (bif decide (cK<(bg.1.bu.length:Int)) then
 (idx bg.1.bu cK).bind λa7 =>
 (yi a7.dw 1).bind λeH =>
 (bif eH then
 some (.inr (.inr true))
 else
 some (.inl (aG (cK+1))))
 else
 some (.inr (.inl ())))) 0).bind λbq =>
 (match bq with
 | .inl bM =>
 (yg bg.1 bg.2.1).bind λe3 =>
 (Dw bg.1 aw 30).bind λcL =>
 (uH e3 cL 2000 2000).bind λcE =>
 ((bif decide (0<(cE.gP.length:Int)) then some true else some (decide (1<(cE.eB.length:Int))))).bind λnS =>
 (bif nS then
 some false
 else
 ((bif decide ((cE.eB.length:Int)=0) then (bif decide (cE.Kind=1) then some true else (bif decide (cE.Kind=3) then some true else (bif decide ((cE.eB.length:Int)=1) then ((idx cE.eB 0).bind λhf=>(bif hf.Told then (bif decide (cE.Kind=2) then ((idx cE.eB 0).bind λff=>(bif decide (cE.At=ff.At) then some true else some (decide (cE.Kind=3)))) else some (decide (cE.Kind=3))) else some false)) else some false))) else (bif decide ((cE.eB.length:Int)=1) then ((idx cE.eB 0).bind λik=>(bif ik.Told then (bif decide (cE.Kind=2) then ((idx cE.eB 0).bind λhg=>(bif decide (cE.At=hg.At) then some true else some (decide (cE.Kind=3)))) else some (decide (cE.Kind=3))) else some false)) else some false))).bind λqj =>
 some qj)
 | .inr cC =>
 some cC)))
end Go.Proofs
namespace Go.Own
open Go
variable {α β S R:Type}
abbrev ie (p:S->Prop) (q:R->Prop) (x:S ⊕ R):Prop:=Sum.elim p q x
def Tot (x:Option α) (Φ:α->Prop):Prop:=∃ a,x=some a/\Φ a
namespace Tot
variable {Φ Ψ:α->Prop}
theorem aj {a:α}(h:Φ a):Tot (some a) Φ:=⟨a,rfl,h⟩
theorem bi {x:Option β}{f:β->Option α}(h:Tot x λa=>Tot (f a) Φ):Tot (x.bind f) Φ:=by
 obtain ⟨a,rfl,b,ar,qD⟩:=h;exact ⟨b,ar,qD⟩
theorem aV {f:β->Option α}{a:β}(h:Tot (f a) Φ):Tot ((some a).bind f) Φ:=h
theorem use {x:Option α}(h:Tot x Ψ) (hi:∀ a,Ψ a->Φ a):Tot x Φ:=by
 obtain ⟨a,aJ,Yq⟩:=h;exact ⟨a,aJ,hi a Yq⟩
theorem aB {x:Option β}{f:β->Option α}{Ξ:β->Prop}(h:Tot x Ξ) (hk:∀ a,Ξ a->Tot (f a) Φ):Tot (x.bind f) Φ:=bi (h.use hk)
theorem bH {c:Bool}{a b:Option α}(au:c=true->Tot a Φ) (aU:c=false->Tot b Φ):Tot (cond c a b) Φ:=by
 grind
theorem bt {p:Prop} [Decidable p] {a b:Option α}(au:p->Tot a Φ) (aU:¬ p->Tot b Φ):Tot (cond (decide p) a b) Φ:=by grind
theorem q8 {p:Prop} [Decidable p] {a b:Option α}(au:¬ p->Tot a Φ) (aU:p->Tot b Φ):Tot (cond (!decide p) a b) Φ:=by grind
theorem hC {l:List α}{i:Int}(aK:0<=i) (h1:i<l.length) (hk:∀ y,idx l i=some y->y∈l->Φ y):Tot (idx l i) Φ:=by
 have aP:i.toNat<l.length:=by omega
 have:idx l i=some l[i.toNat]:=by simp [idx,aK,aP]
 exact ⟨_,this,hk _ this (List.getElem_mem aP)⟩
theorem ap {Φ:List α->Prop}{l m:List α}(h:l.length+m.length<=lim) (hk:Φ (l++m)):Tot (c8 l m) Φ:=by
 refine ⟨l++m,?_,hk⟩
 grind [c8]
theorem bJ {Φ:β->Prop}{l m:List α}{f:List α->Option β}(hk:Tot (f (l++m)) Φ) (h:l.length+m.length<=lim:=by simp [lim]; omega):Tot ((c8 l m).bind f) Φ:=bi (ap h hk)
theorem loop {f:S->Option (S ⊕ R)}{fl:S}{Ψ:R->Prop}(Inv:S->Prop) (HF:S->Nat) (aK:Inv fl) (Yr:HF fl<fuel)
  (av:∀ s,Inv s->Tot (f s) (ie (λcz=>Inv cz/\HF cz<HF s) Ψ)):Tot (cd f fl) Ψ:=by
 have key:∀ n s,Inv s->HF s<n->Tot (iter f n s) Ψ:=by
  intro n
  induction n with
  | zero=>intro s _ h; omega
  | succ n aO =>
   intro s bc hm;obtain ⟨x,J,bT⟩:=av s bc;cases x with
   | inl cz =>
    grind [iter]
   | inr r =>
    simp only [iter,J];exact ⟨r,rfl,bT⟩
 exact key fuel fl aK Yr
theorem count {f:S->Option (S ⊕ R)}{fl:S}{Ψ:R->Prop}(i:S->Int) (n:Int) (Inv:S->Prop) (aK:Inv fl) (aC:n - i fl<1000000000000000000)
  (av:∀ s,Inv s->Tot (f s) (ie (λcz=>Inv cz/\i s<i cz/\i cz<=n) Ψ)):Tot (cd f fl) Ψ:=by
 refine loop Inv (λs=>(n - i s).toNat) aK (by show (n - i fl).toNat<1000000000000000000; omega) λs bc=>(av s bc).use λx J=>?_
 grind
end Tot
theorem l9 {n:Int}(aK:-9223372036854775808<=n) (h1:n<=9223372036854775807):aG n=n:=by
 grind [IntKind.wrap_i64]
theorem cv (n:Int):aG n=(n+9223372036854775808) % 18446744073709551616 - 9223372036854775808:=IntKind.wrap_i64 n
namespace Tot
theorem cat {Φ:ByteArray->Prop}{s u:ByteArray}(h:s.size+u.size<=4611686018427387904) (hk:Φ (s++u)):Tot (tS s u) Φ:=by
 refine ⟨s++u,?_,hk⟩
 grind [tS]
theorem cut {Φ:ByteArray->Prop}{s:ByteArray}{m n:Int}(h:0<=m/\m<=n/\n<=s.size) (hk:Φ (BK s m n)):Tot (w5 s m n) Φ:=by
 refine ⟨_,?_,hk⟩
 grind [w5]
theorem oz {Φ:Int->Prop}{s:ByteArray}{m:Int}(h:0<=m/\m<s.size) (hk:Φ (lQ s m)):Tot (kJ s m) Φ:=by
 refine ⟨_,?_,hk⟩
 grind [kJ]
theorem sub {Φ:List α->Prop}{l:List α}{m n:Int}(h:0<=m/\m<=n/\n<=l.length) (hk:Φ ((l.drop m.toNat).take (n - m).toNat)):Tot (p5 l m n) Φ:=by
 refine ⟨_,?_,hk⟩
 grind [p5]
theorem rem {Φ:Int->Prop}{m n:Int}(h:n≠0) (hk:Φ (m.tmod n)):Tot (rH m n) Φ:=by
 refine ⟨_,?_,hk⟩
 grind [rH]
theorem rI {Φ:Int->Prop}{m n:Int}(h:n≠0) (hk:Φ (m.tmod n)):Tot (Own.rI m n) Φ:=by
 refine ⟨_,?_,hk⟩
 grind [Own.rI]
theorem rG {Φ:Int->Prop}{m n:Int}(h:n≠0) (hk:Φ (IntKind.u64.wrap (m.tdiv n))):Tot (Own.rG m n) Φ:=by
 refine ⟨_,?_,hk⟩
 grind [Own.rG]
theorem mk {Φ:List α->Prop}{m:Int}{z:α}(h:0<=m/\m<=lim) (hk:Φ (List.replicate m.toNat z)):Tot (oO m z) Φ:=by
 refine ⟨_,?_,hk⟩
 grind [oO]
theorem eq {x:Option α}{Φ:α->Prop}{a:α}(h:Tot x Φ) (e:x=some a):Φ a:=by
 obtain ⟨b,ar,qD⟩:=h
 grind
end Tot
namespace Tot
theorem scan {f:Int->Option (Int ⊕ (Unit ⊕ R))}(l:List β) (P:β->Prop) (Q:R->Prop) (ah:l.length<=100000000000000000)
  (av:∀ (s:Int) (y:β),0<=s->s<l.length->idx l s=some y->y∈l->Tot (f s) (ie (λcz=>cz=s+1/\P y) (ie (λ_=>False) Q)))
  (he:∀ s:Int,¬ s<l.length->f s=some (.inr (.inl ()))):Tot (cd f 0) (ie (λ_=>∀ y∈l,P y) Q):=by
 refine count (λs=>s) l.length (λs=>0<=s/\s<=l.length/\∀ (j:Nat) (y:β),(j:Int)<s->l[j]?=some y->P y) ⟨by omega,by omega,λj y h=>by omega⟩ (by show (l.length:Int) - 0<_; omega) λs bc=>?_;obtain ⟨aK,h1,af⟩:=bc;by_cases aP:s<l.length
 ·have pM:s.toNat<l.length:=by omega
  have hi:idx l s=some l[s.toNat]:=by simp [idx,aK,pM]
  refine (av s _ aK aP hi (List.getElem_mem pM)).use λx J=>?_;rcases x with cz | ⟨⟨⟩⟩ | r
  ·obtain ⟨rfl,bT⟩:=J
   grind
  ·grind
  grind
 ·rw [he s aP];refine aj λy ao=>?_;obtain ⟨j,ag,rfl⟩:=List.mem_iff_getElem.1 ao;exact af j _ (by omega) (List.getElem?_eq_getElem ag)
end Tot
def Par (x:Option α) (Φ:α->Prop):Prop:=∀ a,x=some a->Φ a
namespace Par
variable {Φ Ψ:α->Prop}
theorem aj {a:α}(h:Φ a):Par (some a) Φ:=λb e=>by cases e; exact h
theorem no:Par (none:Option α) Φ:=λb e=>by cases e
theorem use {x:Option α}(h:Par x Ψ) (hi:∀ a,Ψ a->Φ a):Par x Φ:=λa e=>hi a (h a e)
theorem aB {x:Option β}{f:β->Option α}{Ξ:β->Prop}(h:Par x Ξ) (hk:∀ a,Ξ a->Par (f a) Φ):Par (x.bind f) Φ:=λa e=>by
 cases x with
 | none=>cases e
 | some b=>exact hk b (h b rfl) a e
theorem go {x:Option β}{f:β->Option α}(hk:∀ a,x=some a->Par (f a) Φ):Par (x.bind f) Φ:=λa e=>by
 cases x with
 | none=>cases e
 | some b=>exact hk b rfl a e
theorem bH {c:Bool}{a b:Option α}(au:c=true->Par a Φ) (aU:c=false->Par b Φ):Par (cond c a b) Φ:=by
 cases c
 ·exact aU rfl
 ·exact au rfl
theorem bt {p:Prop} [Decidable p] {a b:Option α}(au:p->Par a Φ) (aU:¬ p->Par b Φ):Par (cond (decide p) a b) Φ :=
 bH (λh=>au (of_decide_eq_true h)) (λh=>aU (of_decide_eq_false h))
theorem q8 {p:Prop} [Decidable p] {a b:Option α}(au:¬ p->Par a Φ) (aU:p->Par b Φ):Par (cond (!decide p) a b) Φ :=
 bH (λh=>au (of_decide_eq_false (by simpa using h))) (λh=>aU (of_decide_eq_true (by simpa using h)))
theorem ap {l m:List β}{f:List β->Option α}(hk:l.length+m.length<=lim->Par (f (l++m)) Φ):Par ((c8 l m).bind f) Φ:=by
 unfold c8;split
 ·rename_i h; exact hk h
 ·exact no
theorem cat {s u:ByteArray}{f:ByteArray->Option α}(hk:Par (f (s++u)) Φ):Par ((tS s u).bind f) Φ:=by
 unfold tS;split
 ·exact hk
 ·exact no
theorem loop {f:S->Option (S ⊕ R)}{fl:S}{Ψ:R->Prop}(Inv:S->Prop) (aK:Inv fl) (av:∀ s,Inv s->Par (f s) (ie Inv Ψ)):Par (cd f fl) Ψ:=by
 have key:∀ n s,Inv s->Par (iter f n s) Ψ:=by
  intro n
  induction n with
  | zero=>intro s _ a e; cases e
  | succ n aO =>
   intro s bc a e;simp only [iter] at e;cases J:f s with
   | none=>rw [J] at e; cases e
   | some x =>
    have bT:=av s bc x J;rw [J] at e;cases x with
    | inl cz=>exact aO cz bT a e
    | inr r=>cases e; exact bT
 exact key fuel fl aK
theorem jz {x:Option α}(h:Tot x Φ) (aI:Par x Ψ):Tot x λa=>Φ a/\Ψ a:=by
 obtain ⟨a,aJ,qD⟩:=h;exact ⟨a,aJ,qD,aI a aJ⟩
theorem of {x:Option α}(h:Tot x Φ):Par x Φ:=λa e=>h.eq e
theorem scan {f:Int->Option (Int ⊕ (Unit ⊕ R))}(l:List β) (ah:l.length<=100000000000000000) (P:β->Prop) (Q:R->Prop)
  (av:∀ (s:Int) (y:β),0<=s->s<l.length->idx l s=some y->y∈l->Par (f s) (ie (λcz=>cz=s+1/\P y) (ie (λ_=>False) Q)))
  (he:∀ s:Int,¬ s<l.length->f s=some (.inr (.inl ()))):Par (cd f 0) (ie (λ_=>∀ y∈l,P y) Q):=by
 refine loop (λs=>0<=s/\s<=l.length/\∀ (j:Nat) (y:β),(j:Int)<s->l[j]?=some y->P y) ⟨by omega,by omega,λj y h=>by omega⟩ λs bc=>?_;obtain ⟨aK,h1,af⟩:=bc;by_cases aP:s<l.length
 ·have pM:s.toNat<l.length:=by omega
  have hi:idx l s=some l[s.toNat]:=by simp [idx,aK,pM]
  refine (av s _ aK aP hi (List.getElem_mem pM)).use λx J=>?_;rcases x with cz | ⟨⟨⟩⟩ | r
  ·obtain ⟨rfl,bT⟩:=J;refine ⟨by omega,by omega,λj y ag ao=>?_⟩;by_cases FA:(j:Int)<s
   ·exact af j y FA ao
   ·have:j=s.toNat:=by omega
    subst this;rw [List.getElem?_eq_getElem pM] at ao;cases ao; exact bT
  ·exact J.elim
  ·exact J
 ·rw [he s aP];refine aj λy ao=>?_;obtain ⟨j,ag,rfl⟩:=List.mem_iff_getElem.1 ao;exact af j _ (by omega) (List.getElem?_eq_getElem ag)
end Par
namespace Tot
theorem upto {f:S->Option (S ⊕ R)}{fl:S}{Ψ:R->Prop}(i:S->Int) (n:Nat) (Inv:Nat->S->Prop) (hi:i fl=0) (aC:n<=100000000000000000) (aK:Inv 0 fl)
  (av:∀ (k:Nat) (s:S),k<=n->i s=(k:Int)->Inv k s->Tot (f s) (ie (λcz=>k<n/\i cz=((k+1:Nat):Int)/\Inv (k+1) cz) Ψ)):Tot (cd f fl) Ψ:=by
 refine count i n (λs=>∃ k:Nat,k<=n/\i s=(k:Int)/\Inv k s) ⟨0,Nat.zero_le _,hi,aK⟩ (by rw [hi]; omega) λs ⟨k,hk,he,bc⟩=>(av k s hk he bc).use λx J=>?_;rcases x with cz | r
 ·obtain ⟨h1,af,aE⟩:=J;exact ⟨⟨k+1,by omega,af,aE⟩,by omega,by omega⟩
 ·exact J
end Tot
namespace Par
end Par
theorem eA (k:Nat) (h:k<=1000000000000000000):aG ((k:Int)+1)=((k+1:Nat):Int):=by rw [cv]; omega
end Go.Own
namespace Go.Own
open Go
variable {α β ae7 ae8 S T R Q:Type}
namespace Rel
variable {Φ Ψ:α->β->Prop}
end Rel
end Go.Own

namespace Go.Proofs
open Go Go.Own
set_option maxRecDepth 100000
theorem t187 (c:Int):Tot (DH c) λ_=>True:=by
 unfold DH
 repeat' first | apply Tot.bi | refine Tot.bH (λ_=>?_) (λ_=>?_) | exact Tot.aj trivial | apply Tot.aj
theorem t188 (c:Int):Tot (DI c) λ_=>True:=by
 unfold DI
 repeat' first | apply Tot.bi | refine Tot.bH (λ_=>?_) (λ_=>?_) | exact Tot.aj trivial | apply Tot.aj
theorem t186 (c:Int):Tot (AD c) λ_=>True:=by
 unfold AD
 repeat' first | apply Tot.bi | refine Tot.bH (λ_=>?_) (λ_=>?_) | exact Tot.aj trivial | apply Tot.aj
theorem t183 (x:Sym):Tot (uJ x) λr=>r=true->x.Name=⟨#[]⟩/\x.Lit=false:=by
 unfold uJ;apply Tot.bi;refine Tot.bt (λh=>Tot.bH (λaf=>?_) (λaf=>?_)) (λh=>?_) <;> apply Tot.aj <;> apply Tot.aj
 ·exact λ_=>⟨h,by simpa using af⟩
 ·exact λh=>by cases h
 ·exact λh=>by cases h
abbrev dA:Nat:=1000000000000
theorem t182 (s:ByteArray) (h:s.size<=dA):Tot (DG s 0) λn=>0<=n/\n<=s.size:=by
 unfold DG;refine Tot.aB (Ξ:=λn=>0<=n/\n<=s.size) ?_ λa aJ=>.aj aJ;refine Tot.count (λi=>i) s.size (λi=>0<=i/\i<=s.size) ⟨by omega,by omega⟩ (by show (s.size:Int) - 0<_; simp only [dA] at h; omega) λi ⟨aK,h1⟩=>?_;simp only [dA] at h;have e:aG (0+i)=i:=by rw [cv]; omega
 rw [e];have go:∀ c:Bool,(c=true->i<s.size)->Tot (bif c then some (.inl (aG (i+1))) else some (.inr i)) (ie (λcz:Int=>(0<=cz/\cz<=s.size)/\i<cz/\cz<=s.size) (λr:Int=>0<=r/\r<=s.size)):=by
  intro c aa;refine Tot.bH (λaf=>.aj ?_) (λ_=>.aj ⟨aK,h1⟩);have:=aa af;have e:aG (i+1)=i+1:=by rw [cv]; omega
  show (0<=aG (i+1)/\aG (i+1)<=s.size)/\i<aG (i+1)/\aG (i+1)<=s.size;rw [e]; omega
 apply Tot.bi;refine Tot.bt (λaf=>?_) (λaf=>.aj (go false (by simp)));apply Tot.bi;refine Tot.oz ⟨aK,af⟩ (Tot.aB (t187 _) λc _=>?_);refine Tot.bH (λ_=>.aj (go _ λ_=>af)) (λ_=>Tot.bH (λ_=>?_) (λ_=>.aj (go _ λ_=>af)));apply Tot.bi;refine Tot.oz ⟨aK,af⟩ (Tot.aB (t188 _) λc _=>?_);refine Tot.bH (λ_=>.aj (go _ λ_=>af)) (λ_=>?_);apply Tot.bi;exact Tot.oz ⟨aK,af⟩ (.aj (go _ λ_=>af))
theorem t173 (s:ByteArray) (h:s.size<=dA):Tot (v' s) λr=>r=true->1<=s.size/\s.size<=20:=by
 unfold v';apply Tot.bi;refine Tot.bt (λh1=>Tot.bt (λaf=>?_) (λaf=>?_)) (λh1=>?_)
 ·exact .aB (t182 s h) λn aC=>.aj (.aj λ_=>by omega)
 ·exact .aj (.aj λh=>by cases h)
 ·exact .aj (.aj λh=>by cases h)
theorem t190 (s:ByteArray) (i:Int) (t:ByteArray) (h:s.size<=dA) (aK:0<=i) (h1:i<=4 * dA) (au:t.size<=dA):Tot (yh s i t) λr=>r=true->i+t.size<=s.size:=by
 unfold yh;simp only [dA] at *;apply Tot.bi;refine Tot.bt (λaf=>?_) (λaf=>.aj (.aj λh=>by cases h));apply Tot.bi;rw [cv] at af;have e:aG (i+t.size)=i+t.size:=by rw [cv]; omega
 refine Tot.cut (by rw [e]; omega) (.aj (.aj λ_=>by omega))
theorem t189 (s:ByteArray) (i:Int) (h:s.size<=dA) (aK:0<=i) (h1:i<s.size):Tot (DJ s i) λr=>r<=s.size:=by
 unfold DJ;have ar:(s.size:Int)<=1000000000000:=by simp only [dA] at h; omega
 have b9:aG (i+1)=i+1:=by rw [cv]; omega
 have b3:aG (i+2)=i+2:=by rw [cv]; omega
 rw [b9,b3];have xm:=Tot.oz (Φ:=λ_=>True) (s:=s) (m:=i) ⟨aK,h1⟩ trivial;refine Tot.aB (Ξ:=λ_=>True) ?_ λc _=>Tot.bH (λ_=>?_) (λ_=>?_)
 ·refine Tot.aB xm λ_ _=>Tot.bH (λ_=>.aj trivial) (λ_=>Tot.aB xm λ_ _=>.aj trivial)
 ·refine Tot.aB (Ξ:=ie (λ_=>True) (λr=>r<=s.size)) ?_ λx J=>?_
  ·refine Tot.count (λj=>j) (s.size+1) (λj=>0<=j) (by show (0:Int)<=i+1; omega) (by show (s.size:Int)+1 - (i+1)<_; omega) λj ag=>?_;refine Tot.aB (Ξ:=λc=>c=true->j<s.size) ?_ λc aa=>Tot.bH (λaf=>?_) (λ_=>.aj trivial)
   ·refine Tot.bt (λaf=>?_) (λ_=>.aj λh=>by cases h);exact .aB (Ξ:=λ_=>True) (Tot.oz ⟨ag,af⟩ trivial) λ_ _=>.aj λ_=>af
   ·have Xc:=aa af;have xk:=Tot.oz (Φ:=λ_=>True) (s:=s) (m:=j) ⟨ag,Xc⟩ trivial;have e7:aG (j+1)=j+1:=by rw [cv]; omega
    have nr:aG (j+1+1)=j+1+1:=by rw [cv]; omega
    rw [e7,nr];refine .aB xk λ_ _=>.aB xm λ_ _=>Tot.bH (λ_=>.aj ?_) (λ_=>.aB xk λ_ _=>Tot.bH (λ_=>?_) (λ_=>.aj ?_))
    ·show j+1<=s.size; omega
    ·refine Tot.aB (Ξ:=λ_=>True) ?_ λc _=>Tot.bH (λ_=>.aj ?_) (λ_=>.aj ?_)
     ·refine Tot.bt (λaE=>?_) (λ_=>.aj trivial);exact .aB (Ξ:=λ_=>True) (Tot.oz ⟨by omega,aE⟩ trivial) λ_ _=>.aj trivial
     ·show (-1:Int)<=s.size; omega
     ·show (0:Int)<=j+1+1/\j<j+1+1/\j+1+1<=s.size+1; omega
    ·show (0:Int)<=j+1/\j<j+1/\j+1<=s.size+1; omega
  ·rcases x with _ | r
   ·exact .aj (by show (-1:Int)<=s.size; omega)
   ·exact .aj J
 ·refine .aB xm λ_ _=>Tot.bH (λ_=>?_) (λ_=>?_)
  ·refine Tot.aB (Ξ:=ie (λ_=>True) (λr=>r<=s.size)) ?_ λx J=>?_
   ·refine Tot.count (λj=>j) (s.size+1) (λj=>0<=j) (by show (0:Int)<=i+1; omega) (by show (s.size:Int)+1 - (i+1)<_; omega) λj ag=>?_;refine Tot.bt (λaf=>?_) (λ_=>.aj trivial);have e7:aG (j+1)=j+1:=by rw [cv]; omega
    rw [e7];refine .aB (Ξ:=λ_=>True) (Tot.oz ⟨ag,af⟩ trivial) λ_ _=>Tot.bH (λ_=>.aj ?_) (λ_=>.aj ?_)
    ·show j+1<=s.size; omega
    ·show (0:Int)<=j+1/\j<j+1/\j+1<=s.size+1; omega
   ·rcases x with _ | r
    ·exact .aj (by show (-1:Int)<=s.size; omega)
    ·exact .aj J
  ·refine .aB (t190 s i _ h aK (by simp only [dA]; omega) (by decide)) λc _=>Tot.bH (λ_=>?_) (λ_=>?_)
   ·refine Tot.aB (Ξ:=λr=>r<=s.size) ?_ λx J=>.aj J;refine Tot.count (λj=>j) s.size (λj=>0<=j/\j<=s.size) ⟨aK,by omega⟩ (by show (s.size:Int) - i<_; omega) λj ag=>?_;refine Tot.aB (Ξ:=λc=>c=true->j<s.size) ?_ λc aa=>Tot.bH (λaf=>?_) (λ_=>.aj ag.2)
    ·refine Tot.bt (λaf=>?_) (λ_=>.aj λh=>by cases h);exact .aB (Ξ:=λ_=>True) (Tot.oz ⟨ag.1,af⟩ trivial) λ_ _=>.aj λ_=>af
    ·have:=aa af;have e7:aG (j+1)=j+1:=by rw [cv]; omega
     rw [e7];exact .aj (by show ((0:Int)<=j+1/\j+1<=s.size)/\j<j+1/\j+1<=s.size; omega)
   ·refine .aB (t190 s i _ h aK (by simp only [dA]; omega) (by decide)) λc aa=>Tot.bH (λku=>?_) (λ_=>.aj (by omega));refine Tot.aB (Ξ:=ie (λ_=>True) (λr=>r<=s.size)) ?_ λx J=>?_
    ·refine Tot.count (λj=>j) (s.size+1) (λj=>0<=j) (by show (0:Int)<=i+2; omega) (by show (s.size:Int)+1 - (i+2)<_; omega) λj ag=>?_;refine Tot.bt (λaf=>?_) (λ_=>.aj trivial);have e7:aG (j+1)=j+1:=by rw [cv]; omega
     have nr:aG (j+2)=j+2:=by rw [cv]; omega
     rw [e7,nr];refine .aB (t190 s j _ h ag (by simp only [dA]; omega) (by decide)) λc aa=>Tot.bH (λqw=>.aj ?_) (λ_=>.aj ?_)
     ·have:=aa qw;have BN:(⟨#[42,47]⟩:ByteArray).size=2:=rfl;rw [BN] at this;show j+2<=s.size; omega
     ·show (0:Int)<=j+1/\j<j+1/\j+1<=s.size+1; omega
    ·rcases x with _ | r
     ·exact .aj (by show (-1:Int)<=s.size; omega)
     ·exact .aj J
theorem t184 (s:ByteArray) (h:s.size<=dA):Tot (AB s 0) λ_=>True:=by
 unfold AB;have ar:(s.size:Int)<=1000000000000:=by simp only [dA] at h; omega
 refine Tot.aB (Ξ:=λ_=>True) ?_ λc _=>Tot.bH (λ_=>.aj trivial) (λ_=>?_)
 ·refine Tot.bt (λh=>.aj trivial) (λaK=>Tot.bt (λh=>.aj trivial) (λaf=>?_));exact .aB (Ξ:=λ_=>True) (Tot.oz (by omega) trivial) λ_ _=>.aj trivial
 ·refine Tot.aB (Ξ:=λ_=>True) ?_ λx _=>by rcases x with _ | r <;> exact .aj trivial
  refine Tot.count (λj=>j.2) s.size (λj=>0<=j.2/\j.2<=s.size) ⟨by show (0:Int)<=0; omega,by show (0:Int)<=s.size; omega⟩ (by show (s.size:Int) - 0<_; omega) λj ag=>?_;refine Tot.bt (λaf=>?_) (λ_=>.aj trivial);refine .aB (t189 s j.2 h ag.1 af) λn aC=>Tot.bt (λ_=>.aj trivial) (λaE=>Tot.bt (λbm=>.aj ?_) (λbm=>?_))
  ·show ((0:Int)<=n/\n<=s.size)/\j.2<n/\n<=s.size; omega
  ·have xm:=Tot.oz (Φ:=λ_=>True) (s:=s) (m:=j.2) ⟨ag.1,af⟩ trivial;have e7:aG (j.2+1)=j.2+1:=by rw [cv]; omega
   rw [e7];refine .aB xm λ_ _=>.aB (Ξ:=λ_=>True) (Tot.bH (λ_=>.aj trivial) (λ_=>.aj trivial)) λ_ _=>.aB xm λ_ _=>.aB (Ξ:=λ_=>True) (Tot.bH (λ_=>.aj trivial) (λ_=>.aj trivial)) λ_ _=>Tot.bH (λ_=>.aj trivial) (λ_=>.aj ?_);show ((0:Int)<=j.2+1/\j.2+1<=s.size)/\j.2<j.2+1/\j.2+1<=s.size; omega
def ma (x:Sym):Prop:=x.Lit=true->x.Name.size=1
structure Mf (d:Decl):Prop where
 tag:d.Tag.size<=dA
 n:d.fi.length<=1000
 syms:∀ x∈d.fi,x.Name.size<=dA
structure yO (a:Alt):Prop where
 n:a.Parts.length<=1000
 parts:∀ p∈a.Parts,p.Sym.Name.size<=dA/\p.Code.size<=dA
 prec:a.Prec.Name.size<=dA
structure Sn (r:fL):Prop where
 left:r.Left.size<=dA
 n:r.gi.length<=1000
 alts:∀ a∈r.gi,yO a
structure u' (s:Source):Prop where
 ZJ:s.hp.size<=dA
 ql:s.Decls.length<=1000
 decls:∀ d∈s.Decls,Mf d
 aF:s.eR.length<=1000
 rules:∀ r∈s.eR,Sn r
theorem t181 (x:Sym) (a b:Bool) (h:x.Name.size<=dA):Tot (uI x a b) λr=>r=true->ma x:=by
 unfold uI;refine Tot.bH (λah=>?_) (λah=>?_)
 ·refine Tot.aB (Ξ:=λc=>c=false->x.Name.size=1) ?_ λc aa=>Tot.bH (λ_=>.aj λh=>by cases h) (λaf=>?_)
  ·refine Tot.bH (λ_=>.aj λh=>by cases h) (λ_=>Tot.q8 (λ_=>.aj λh=>by cases h) (λh1=>.aj λ_=>by omega))
  ·have h1:=aa af;refine .aB (Ξ:=λ_=>True) (Tot.oz (by omega) trivial) λ_ _=>.aB (t186 _) λ_ _=>.aj λ_ _=>h1
 ·have c6:ma x:=λh=>by rw [ah] at h; cases h
  refine Tot.aB (Ξ:=λ_=>True) ?_ λc aa=>.aj λ_=>c6;refine .aB (t173 _ h) λc _=>?_
  repeat' first | refine Tot.bH (λ_=>?_) (λ_=>?_) | exact Tot.aj trivial
theorem t172 (d:Decl) (h:Mf d):Tot (ye d) λr=>r=true->∀ x∈d.fi,ma x:=by
 unfold ye;refine Tot.aB (Ξ:=λ_=>True) ?_ λc _=>Tot.bH (λ_=>.aj λh=>by cases h) (λ_=>?_)
 ·have au:=(t173 _ h.tag).use (Φ:=λ_=>True) λ_ _=>trivial
  repeat' first | refine Tot.bH (λ_=>?_) (λ_=>?_) | exact Tot.aj trivial | refine .aB au λ_ _=>?_
 ·refine Tot.aB (Tot.scan d.fi (λx=>ma x) (λr=>r=false) (by have:=h.n; omega) (λs y aK h1 hi hm=>?_) (λs av=>by simp [av])) λx J=>?_
  ·refine Tot.bt (λ_=>?_) (λh=>absurd h1 h);rw [hi];refine Tot.aV ?_;refine .aB (t181 _ _ _ (h.syms _ hm)) λc aa=>Tot.bH (λ_=>.aj rfl) (λaf=>.aj ⟨?_,aa (by simpa using af)⟩);have:=h.n;rw [cv]; omega
  ·rcases x with _ | r
   ·exact .aj λ_=>J
   ·exact .aj λh=>by have:r=false:=J; rw [this] at h; cases h
theorem t174 (a:Alt) (h:yO a):Tot (yf a) λr=>r=true->(∀ p∈a.Parts,ma p.Sym)/\ma a.Prec:=by
 unfold yf;refine Tot.aB (Tot.scan a.Parts (λp=>ma p.Sym) (λr=>r=false) (by have:=h.n; omega) (λs y aK h1 hi hm=>?_) (λs av=>by simp [av])) λx J=>?_
 ·refine Tot.bt (λ_=>?_) (λh=>absurd h1 h);rw [hi];refine Tot.aV ?_;have aq:=h.parts _ hm;have t1:=t181 y.Sym false true aq.1;have t2:=t183 y.Sym;have Rn:=t184 y.Code aq.2;have hw:aG (s+1)=s+1:=by have:=h.n; rw [cv]; omega
  rw [hw];have n118:(y.Sym.Name=⟨#[]⟩/\y.Sym.Lit=false)->ma y.Sym:=λh ah=>by rw [h.2] at ah; cases ah
  refine Tot.aB (Ξ:=λc=>c=false->ma y.Sym) ?_ λc aa=>Tot.bH (λ_=>.aj rfl) (λaf=>.aj ⟨rfl,aa af⟩);refine Tot.bt (λ_=>?_) (λcS=>?_)
  ·refine .aB t1 λc aa=>Tot.bH (λ_=>.aj λh=>by cases h) (λaf=>?_);have c6:=aa (by simpa using af);refine Tot.bH (λ_=>?_) (λ_=>.aj λ_=>c6);refine .aB t2 λc _=>Tot.bH (λ_=>.aj λ_=>c6) (λ_=>?_);exact .aB Rn λ_ _=>.aj λ_=>c6
  ·refine Tot.q8 (λ_=>?_) (λh=>.aj λ_=>?_)
   ·refine .aB t2 λc aa=>Tot.bH (λ_=>.aj λh=>by cases h) (λaf=>?_);have c6:=n118 (aa (by simpa using af));exact .aB Rn λ_ _=>.aj λ_=>c6
   ·exact absurd h cS
 ·rcases x with _ | r
  ·have J:∀ p∈a.Parts,ma p.Sym:=J;refine Tot.aB (Ξ:=λc=>c=true->ma a.Prec) ?_ λc aa=>.aj λh=>⟨J,aa h⟩;refine .aB (t183 _) λc aa=>Tot.bH (λaf=>.aj λ_=>?_) (λ_=>.aB (t181 _ _ _ h.prec) λc aa=>.aj aa);intro ah; rw [(aa af).2] at ah; cases ah
  ·exact .aj λh=>by have:r=false:=J; rw [this] at h; cases h
structure EA (a:Alt):Prop where
 parts:∀ p∈a.Parts,ma p.Sym
 prec:ma a.Prec
structure Mu (s:Source):Prop where
 decls:∀ d∈s.Decls,∀ x∈d.fi,ma x
 rules:∀ r∈s.eR,∀ a∈r.gi,EA a
 pos:0<s.eR.length
theorem t146 (s:Source) (h:u' s):Tot (yc s) λr=>r=true->Mu s:=by
 unfold yc;refine Tot.aB (Ξ:=ie (λ_=>True) (λr=>r=false)) ?_ λx J=>?_
 ·have aq:(s.hp.size:Int)<=1000000000000:=by have:=h.ZJ; simp only [dA] at this; omega
  refine Tot.count (λj=>j) s.hp.size (λj=>0<=j/\j<=s.hp.size) ⟨by omega,by omega⟩ (by show (s.hp.size:Int) - 0<_; omega) λj ag=>?_;have b9:aG (j+1)=j+1:=by rw [cv]; omega
  have b3:aG (j+2)=j+2:=by rw [cv]; omega
  rw [b9,b3];refine Tot.bt (λaf=>?_) (λ_=>.aj trivial);refine .aB (Ξ:=λ_=>True) (Tot.cut (by omega) trivial) λ_ _=>Tot.bH (λ_=>.aj rfl) (λ_=>.aj ?_);show ((0:Int)<=j+1/\j+1<=s.hp.size)/\j<j+1/\j+1<=s.hp.size; omega
 ·rcases x with _ | r
  ·refine Tot.aB (Tot.scan s.Decls (λd=>∀ x∈d.fi,ma x) (λr=>r=false) (by have:=h.ql; omega) (λi y aK h1 hi hm=>?_) (λs av=>by simp [av])) λx J=>?_
   ·refine Tot.bt (λ_=>?_) (λh=>absurd h1 h);rw [hi];refine Tot.aV ?_;refine .aB (t172 _ (h.decls _ hm)) λc aa=>Tot.bH (λ_=>.aj rfl) (λaf=>.aj ⟨?_,aa (by simpa using af)⟩);have:=h.ql;rw [cv]; omega
   ·rcases x with _ | r
    ·have J:∀ d∈s.Decls,∀ x∈d.fi,ma x:=J;refine Tot.aB (Tot.scan s.eR (λr=>∀ a∈r.gi,EA a) (λr=>r=false) (by have:=h.aF; omega) (λi y aK h1 hi hm=>?_) (λs av=>by simp [av])) λx gv=>?_
     ·refine Tot.bt (λ_=>?_) (λh=>absurd h1 h);rw [hi];refine Tot.aV ?_;have hr:=h.rules _ hm;have hw:aG (i+1)=i+1:=by have:=h.aF; rw [cv]; omega
      rw [hw];refine .aB (Ξ:=λ_=>True) (.aB (t173 _ hr.left) λc _=>Tot.bH (λ_=>.aj trivial) (λ_=>.aj trivial)) λc _=>Tot.bH (λ_=>.aj rfl) (λ_=>?_);refine Tot.aB (Tot.scan y.gi EA (λr=>r=false) (by have:=hr.n; omega) (λk a aK h1 hi hm=>?_) (λs av=>by simp [av])) λx hl=>?_
      ·refine Tot.bt (λ_=>?_) (λh=>absurd h1 h);rw [hi];refine Tot.aV ?_;refine .aB (t174 _ (hr.alts _ hm)) λc aa=>Tot.bH (λ_=>.aj rfl) (λaf=>.aj ⟨?_,⟨(aa (by simpa using af)).1,(aa (by simpa using af)).2⟩⟩);have:=hr.n;rw [cv]; omega
      ·rcases x with _ | r
       ·exact .aj ⟨rfl,hl⟩
       ·exact .aj hl
     ·rcases x with _ | r
      ·exact .aj λh=>⟨J,gv,by have:=of_decide_eq_true h; omega⟩
      ·exact .aj λh=>by have:r=false:=gv; rw [this] at h; cases h
    ·exact .aj λh=>by have:r=false:=J; rw [this] at h; cases h
  ·exact .aj λh=>by have:r=false:=J; rw [this] at h; cases h
abbrev fh:=dd
structure rV (m m':fh):Prop where
 g:m'.ba=m.ba
 gr:m'.ed=m.ed
 ty:m'.fD=m.fD
 e_:m'.dq=m.dq
 jw:m'.fj=m.fj
 hB:m'.df=m.df
theorem t148 (m:fh) (a:Int) (n:ByteArray):Tot (oe m a n) λm'=>rV m m'/\m'.eM≠0:=by
 unfold oe;apply Tot.bi;refine Tot.bt (λ_=>.aj (.aj ⟨⟨rfl,rfl,rfl,rfl,rfl,rfl⟩,?_⟩)) (λh=>.aj (.aj ⟨⟨rfl,rfl,rfl,rfl,rfl,rfl⟩,h⟩))
 grind
theorem t152 (m:fh) (n:ByteArray) (h:m.fD.length<=dA):Tot (Aw m n) λr=>r=-1\/(0<=r/\r<m.fD.length):=by
 unfold Aw;simp only [dA] at h;refine Tot.aB (Tot.scan m.fD (λ_=>True) (λr:Int=>0<=r/\r<m.fD.length) (by omega) (λs y aK h1 hi hm=>?_) (λs av=>by simp [av])) λx J=>?_
 ·refine Tot.bt (λ_=>?_) (λh=>absurd h1 h);rw [hi];refine Tot.aV ?_;refine Tot.bH (λ_=>.aj ⟨aK,h1⟩) (λ_=>.aj ⟨?_,trivial⟩)
  grind [cv]
 ·rcases x with _ | r
  ·exact .aj (.inl rfl)
  ·exact .aj (.inr J)
theorem t150 (m:fh) (n:ByteArray) (h:m.dq.length<=dA):Tot (tm m n) λr=>(r=-1/\∀ x∈m.dq,x≠n)\/(0<=r/\r<m.dq.length/\m.dq[r.toNat]?=some n):=by
 unfold tm;simp only [dA] at h;refine Tot.aB (Tot.scan m.dq (λx=>x≠n) (λr:Int=>0<=r/\r<m.dq.length/\m.dq[r.toNat]?=some n) (by omega) (λs y aK h1 hi hm=>?_) (λs av=>by simp [av])) λx J=>?_
 ·refine Tot.bt (λ_=>?_) (λh=>absurd h1 h);rw [hi];refine Tot.aV ?_;refine Tot.bt (λe=>.aj ⟨aK,h1,by rw [<- e]; exact (mn hi).2.2⟩) (λe=>.aj ⟨?_,e⟩)
  grind [cv]
 ·rcases x with _ | r
  ·exact .aj (.inl ⟨rfl,J⟩)
  ·exact .aj (.inr J)
theorem t149 (m:fh) (x:Sym) (h:m.ba.bo.length<=dA):Tot (uG m x) λr=>r=-1\/(1<=r/\r<m.ba.bo.length):=by
 unfold uG;simp only [dA] at h;refine Tot.aB (Ξ:=ie (λ_=>True) (λr=>1<=r/\r<m.ba.bo.length)) ?_ λx J=>?_
 ·refine Tot.count (λj=>j) m.ba.bo.length (λj=>1<=j) (by omega) (by show (m.ba.bo.length:Int) - 1<_; omega) λj ag=>?_;refine Tot.bt (λaf=>?_) (λ_=>.aj trivial);have e:aG (j+1)=j+1:=by rw [cv]; omega
  rw [e];refine .aB (Ξ:=λ_=>True) ?_ λc _=>Tot.bH (λ_=>.aj ⟨ag,af⟩) (λ_=>.aj ?_)
  ·refine .aB (Ξ:=λ_=>True) (Tot.hC (by omega) af λ_ _ _=>trivial) λ_ _=>Tot.bH (λ_=>?_) (λ_=>.aj trivial);exact .aB (Ξ:=λ_=>True) (Tot.hC (by omega) af λ_ _ _=>trivial) λ_ _=>Tot.bH (λ_=>.aj trivial) (λ_=>.aj trivial)
  grind
 ·rcases x with _ | r
  ·exact .aj (.inl rfl)
  ·exact .aj (.inr J)
theorem t176 (m:fh) (n:Int) (h:m.ba.bo.length<=dA):Tot (wb m n) λ_=>True:=by
 unfold wb;simp only [dA] at h;refine Tot.aB (Ξ:=λ_=>True) ?_ λx J=>?_
 ·refine Tot.count (λj=>j) m.ba.bo.length (λj=>1<=j) (by decide) (by show (m.ba.bo.length:Int) - 3<_; omega) λj ag=>?_;refine Tot.bt (λaf=>?_) (λ_=>.aj trivial);have e:aG (j+1)=j+1:=by rw [cv]; omega
  rw [e];refine .aB (Ξ:=λ_=>True) (Tot.hC (by omega) af λ_ _ _=>trivial) λc _=>Tot.bH (λ_=>.aj trivial) (λ_=>.aj ?_)
  grind
 ·rcases x with _ | r <;> exact .aj trivial
structure Grow (m m':fh) (k:Nat):Prop where
 gr:m'.ed.length=m'.ba.bo.length
 lo:m.ba.bo.length<=m'.ba.bo.length
 hi:m'.ba.bo.length<=m.ba.bo.length+k
 ty:m'.fD.length<=m.fD.length+k
 e_:m'.dq=m.dq
 gB:m'.ba.bu=m.ba.bu
 hB:m'.df=m.df
 lvl:m'.fj=m.fj
 jw:0<=m.fj->(∀ t∈m.ba.bo,0<=t.Level)->∀ t∈m'.ba.bo,0<=t.Level
theorem rV.grow {m m':fh}(h:rV m m') (aN:m.ed.length=m.ba.bo.length) (k:Nat):Grow m m' k:=by
 obtain ⟨h1,af,aE,bm,b7,dr⟩:=h;exact ⟨by rw [h1,af]; exact aN,by rw [h1]; omega,by rw [h1]; omega,by rw [aE]; omega,bm,by rw [h1],dr,b7,by rw [h1]; exact λ_ h=>h⟩
theorem t175 (m:fh) (x:Sym) (aN:m.ed.length=m.ba.bo.length) (h:m.ba.bo.length<=100000000000) (J:ma x) :
  Tot (wa m x) λr=>(Grow m r.2 1/\0<=r.1/\r.1<r.2.ba.bo.length)/\(r.2.eM=0->m.eM=0)/\(1<=m.ba.bo.length->1<=r.1):=by
 unfold wa;refine .aB (t149 m x (by simp only [dA]; omega)) λt au=>Tot.bt (λaK=>.aj ⟨⟨⟨aN,Nat.le_refl _,Nat.le_succ _,Nat.le_succ _,rfl,rfl,rfl,rfl,λ_ h=>h⟩,aK,?_⟩,id,λ_=>by show 1<=t; omega⟩) (λ_=>?_)
 ·grind
 ·refine Tot.aB (Ξ:=λj=>rV m j.1/\(j.1.eM=0->m.eM=0)) ?_ λj ag=>?_
  ·refine Tot.bH (λah=>?_) (λ_=>.aj ⟨⟨rfl,rfl,rfl,rfl,rfl,rfl⟩,id⟩);have:=J ah;refine .aB (Ξ:=λ_=>True) (Tot.oz (by omega) trivial) λb _=>.aB (t176 m _ (by simp only [dA]; omega)) λo _=>?_;refine Tot.aB (Ξ:=λj=>rV m j/\(j.eM=0->m.eM=0)) ?_ λj ag=>.aj ag;exact Tot.bH (λ_=>.aB (t148 m _ _) λm' hm=>.aj ⟨hm.1,λe=>absurd e hm.2⟩) (λ_=>.aj ⟨⟨rfl,rfl,rfl,rfl,rfl,rfl⟩,id⟩)
  ·obtain ⟨⟨h1,af,aE,bm,b7,dr⟩,W6⟩:=ag;have aP:j.1.ba.bo.length=m.ba.bo.length:=by rw [h1]
   have Xm:j.1.ed.length=m.ed.length:=by rw [af]
   refine .aB (Ξ:=λ_=>True) (Tot.ap (by rw [aP]; simp [lim]; omega) trivial) λ_ _=>.aB (Ξ:=λ_=>True) (Tot.ap (by rw [Xm]; simp [lim]; omega) trivial) λ_ _=>.aj ?_;refine ⟨⟨⟨?_,?_,?_,?_,bm,by show j.1.ba.bu=_; rw [h1],dr,b7,?_⟩,?_,?_⟩,W6,λh1=>?_⟩
   all_goals grind [cv]
structure oy (m m':fh):Prop where
 tk:m'.ba.bo.length=m.ba.bo.length
 gr:m'.ed.length=m.ed.length
 ty:m'.fD=m.fD
 e_:m'.dq=m.dq
 gB:m'.ba.bu=m.ba.bu
 hB:m'.df=m.df
 lvl:m'.fj=m.fj
 jw:0<=m.fj->(∀ t∈m.ba.bo,0<=t.Level)->∀ t∈m'.ba.bo,0<=t.Level
theorem oy.refl (m:fh):oy m m:=⟨rfl,rfl,rfl,rfl,rfl,rfl,rfl,λ_ h=>h⟩
theorem oy.trans {m m' Db:fh}(h:oy m m') (aI:oy m' Db):oy m Db:=⟨aI.tk.trans h.tk,aI.gr.trans h.gr,aI.ty.trans h.ty,aI.e_.trans h.e_,aI.gB.trans h.gB,aI.hB.trans h.hB,aI.lvl.trans h.lvl,λaK ah=>aI.jw (by rw [h.lvl]; exact aK) (h.jw aK ah)⟩
theorem rV.tk {m m':fh}(h:rV m m'):oy m m':=⟨by rw [h.g],by rw [h.gr],h.ty,h.e_,by rw [h.g],h.hB,h.jw,by rw [h.g]; exact λ_ h=>h⟩
theorem Grow.tk {m m' Db:fh}{k:Nat}(h:Grow m m' k) (aI:oy m' Db):Grow m Db k :=
 ⟨by rw [aI.gr,aI.tk]; exact h.gr,by rw [aI.tk]; exact h.lo,by rw [aI.tk]; exact h.hi,by rw [aI.ty]; exact h.ty,aI.e_.trans h.e_,aI.gB.trans h.gB,aI.hB.trans h.hB,aI.lvl.trans h.lvl,λaK ah=>aI.jw (by rw [h.lvl]; exact aK) (h.jw aK ah)⟩
theorem PO {α:Type}{l:List α}{i:Nat}{x y:α}(h:y∈l.set i x):y∈l\/y=x:=List.mem_or_eq_of_mem_set h
theorem t147 (m:fh) (d:Decl) (x:Sym) (aN:m.ed.length=m.ba.bo.length) (h:m.ba.bo.length<=100000000000) (au:m.fD.length<=100000000000) (J:ma x) :
  Tot (v8 m d x) λm'=>Grow m m' 1:=by
 unfold v8;refine Tot.bH (λ_=>?_) (λ_=>?_)
 ·refine .aB (t152 m x.Name (by simp only [dA]; omega)) λk hk=>Tot.aB (Ξ:=λm'=>Grow m m' 1) ?_ λm' hm=>.aj hm;refine Tot.bt (λ_=>?_) (λaK=>?_)
  ·refine .bJ<|.aj ⟨aN,Nat.le_refl _,Nat.le_succ _,?_,rfl,rfl,rfl,rfl,λ_ h=>h⟩
   grind
  ·refine .aB (Ξ:=λ_=>True) (Tot.hC (by omega) (by omega) λ_ _ _=>trivial) λ_ _=>Tot.aB (Ξ:=λm'=>Grow m m' 1) ?_ λm' hm=>.aj hm;exact Tot.bH (λ_=>.aB (t148 m _ _) λm' hm=>.aj (hm.1.grow aN 1)) (λ_=>.aj ⟨aN,Nat.le_refl _,Nat.le_succ _,Nat.le_succ _,rfl,rfl,rfl,rfl,λ_ h=>h⟩)
 ·refine .aB (t175 m x aN h J) λr ⟨⟨hr,aK,h1⟩,_⟩=>?_;have hC:∀ {m':fh},oy r.2 m'->Tot (idx m'.ba.bo r.1) λy=>y∈m'.ba.bo:=λhm=>Tot.hC aK (by rw [hm.tk]; exact h1) λ_ _ h=>h;have Pz:∀ {m':fh},oy r.2 m'->Tot (idx m'.ed r.1) λ_=>True:=λhm=>Tot.hC aK (by rw [hm.gr,hr.gr]; exact h1) λ_ _ _=>trivial;refine .aB (hC (.refl _)) λy _=>?_;refine Tot.aB (Ξ:=λm'=>oy r.2 m') ?_ λhd pF=>?_
  ·refine Tot.bH (λ_=>?_) (λ_=>.aj (.refl _));refine Tot.aB (Ξ:=λm'=>oy r.2 m') ?_ λfY vn=>?_
   ·exact Tot.bH (λ_=>.aB (t148 r.2 _ _) λm' hm=>.aj ⟨rfl,hm.1.tk.gr,hm.1.tk.ty,hm.1.tk.e_,hm.1.tk.gB,hm.1.tk.hB,hm.1.tk.lvl,λ_ h=>h⟩) (λ_=>.aj (.refl _))
   ·refine .aB (hC vn) λ_ _=>.aj (vn.trans ⟨?_,rfl,rfl,rfl,rfl,rfl,rfl,λah au t bO=>?_⟩)
    ·grind
    grind
  ·refine .aB (hC pF) λ_ _=>?_;refine Tot.aB (Ξ:=λm'=>oy r.2 m') ?_ λiN vo=>?_
   ·refine Tot.bH (λ_=>?_) (λ_=>.aj pF);refine .aB (Ξ:=λ_=>True) ?_ λc _=>?_
    ·refine Tot.bH (λ_=>.aj trivial) (λ_=>.aB (Pz pF) λ_ _=>Tot.bH (λ_=>.aj trivial) (λ_=>.aB (t176 hd _ ?_) λ_ _=>.aj trivial));have:=pF.tk;have:=hr.hi
     grind
    ·refine Tot.aB (Ξ:=λm'=>oy r.2 m') ?_ λh2 tY=>?_
     ·exact Tot.bH (λ_=>.aB (t148 hd _ _) λm' hm=>.aj (pF.trans ⟨rfl,hm.1.tk.gr,hm.1.tk.ty,hm.1.tk.e_,hm.1.tk.gB,hm.1.tk.hB,hm.1.tk.lvl,λ_ h=>h⟩)) (λ_=>.aj pF)
     ·refine .aB (hC tY) λy ao=>.aB (Pz tY) λ_ _=>.aj (tY.trans ⟨?_,?_,rfl,rfl,rfl,rfl,rfl,λah au t bO=>?_⟩)
      all_goals grind
   ·refine .aB (hC vo) λ_ _=>?_;refine Tot.aB (Ξ:=λm'=>oy r.2 m') ?_ λpV NX=>.aj (hr.tk NX);refine Tot.bH (λ_=>?_) (λ_=>.aj vo);refine .aB (Ξ:=λ_=>True) (Tot.bH (λ_=>.aj trivial) (λ_=>.aj trivial)) λc _=>?_;refine Tot.aB (Ξ:=λm'=>oy r.2 m') ?_ λnD BY=>?_
    ·exact Tot.bH (λ_=>.aB (t148 iN _ _) λm' hm=>.aj (vo.trans ⟨rfl,hm.1.tk.gr,hm.1.tk.ty,hm.1.tk.e_,hm.1.tk.gB,hm.1.tk.hB,hm.1.tk.lvl,λ_ h=>h⟩)) (λ_=>.aj vo)
    ·refine .aB (hC BY) λy ao=>.aj (BY.trans ⟨?_,rfl,rfl,rfl,rfl,rfl,rfl,λah au t bO=>?_⟩)
     ·grind
     grind
def wL (T:Nat) (N:Int) (s:Int):Prop:=(0<=s/\s<T)\/(1000<=s/\s<=1000+N)
theorem wL.mono {T T':Nat}{N kI s:Int}(h:wL T N s) (cX:T<=T') (bp:N<=kI):wL T' kI s:=by
 rcases h with h | h
 ·exact .inl (by omega)
 ·exact .inr (by omega)
theorem t177 (m:fh) (x:Sym) (aN:m.ed.length=m.ba.bo.length) (aE:3<=m.ba.bo.length) (h:m.ba.bo.length<=100000000000) (ah:m.dq.length<=100000000000) (J:ma x) :
  Tot (tn m x) λr=>Grow m r.2 1/\wL r.2.ba.bo.length m.dq.length r.1/\(r.2.eM=0->m.eM=0/\r.1≠0):=by
 unfold tn;have sb:Grow m m 1:=⟨aN,Nat.le_refl _,Nat.le_succ _,Nat.le_succ _,rfl,rfl,rfl,rfl,λ_ h=>h⟩;refine Tot.bH (λ_=>?_) (λ_=>?_)
 ·exact .aB (t175 m x aN h J) λr ⟨⟨hr,aK,h1⟩,he,aq⟩=>.aj ⟨hr,.inl ⟨aK,h1⟩,λe=>⟨he e,by have:=aq (by omega); show r.1≠0; omega⟩⟩
 ·refine .aB (t150 m x.Name (by simp only [dA]; omega)) λk hk=>Tot.bt (λaK=>.aj ⟨sb,.inr ?_,λe=>⟨e,?_⟩⟩) (λ_=>?_)
  ·grind [cv]
  ·show aG (1001+k)≠0;rcases hk with hk | hk
   ·rw [cv]; omega
   ·rw [cv]; omega
  ·refine .aB (t149 m x (by simp only [dA]; omega)) λt au=>Tot.bt (λ_=>?_) (λaK=>.aj ⟨sb,.inl ?_,λe=>⟨e,by show t≠0; omega⟩⟩)
   ·refine .aB (t148 m _ _) λm' hm=>.aj ⟨hm.1.grow aN 1,.inl ⟨Int.le_refl 0,?_⟩,λe=>absurd e hm.2⟩;show (0:Int)<(m'.ba.bo.length:Int);rw [hm.1.g];omega
   grind
theorem aa0 (m:fh) (x:Sym) (aN:m.ed.length=m.ba.bo.length) (aE:3<=m.ba.bo.length) (h:m.ba.bo.length<=100000000000) (ah:m.dq.length<=100000000000) (J:ma x) (au:x.Lit=true\/∀ y∈m.dq,y≠x.Name) :
  Tot (tn m x) λr=>Grow m r.2 1/\(0<=r.1/\r.1<r.2.ba.bo.length)/\(r.2.eM=0->m.eM=0):=by
 unfold tn;have sb:Grow m m 1:=⟨aN,Nat.le_refl _,Nat.le_succ _,Nat.le_succ _,rfl,rfl,rfl,rfl,λ_ h=>h⟩;refine Tot.bH (λ_=>?_) (λoE=>?_)
 ·exact .aB (t175 m x aN h J) λr ⟨⟨hr,aK,h1⟩,he,_⟩=>.aj ⟨hr,⟨aK,h1⟩,he⟩
 ·have au:∀ y∈m.dq,y≠x.Name:=au.resolve_left (by rw [oE]; decide);refine .aB (t150 m x.Name (by simp only [dA]; omega)) λk hk=>Tot.bt (λaK=>?_) (λ_=>?_)
  ·rcases hk with ⟨rfl,_⟩ | ⟨h1,af,aE⟩
   ·exact absurd aK (by decide)
   ·exact absurd rfl (au _ (List.mem_of_getElem? aE))
  ·refine .aB (t149 m x (by simp only [dA]; omega)) λt au=>Tot.bt (λ_=>?_) (λaK=>.aj ⟨sb,?_,id⟩)
   ·refine .aB (t148 m _ _) λm' hm=>.aj ⟨hm.1.grow aN 1,⟨Int.le_refl 0,?_⟩,λe=>absurd e hm.2⟩;show (0:Int)<(m'.ba.bo.length:Int);rw [hm.1.g]; omega
   ·show 0<=t/\t<(m.ba.bo.length:Int);rcases au with au | au <;> omega
structure Bp (T:Nat) (N:Int) (p:Prod):Prop where
 left:0<=p.Left/\p.Left<=N
 right:∀ s∈p.dw,wL T N s
 prec:-1<=p.Prec/\p.Prec<T
theorem Bp.mono {T T':Nat}{N kI:Int}{p:Prod}(h:Bp T N p) (cX:T<=T') (bp:N<=kI):Bp T' kI p :=
 ⟨⟨h.left.1,by have:=h.left.2; omega⟩,λs av=>(h.right s av).mono cX bp,⟨h.prec.1,by have:=h.prec.2; omega⟩⟩
def EN (P:List Prod):Prop:=∀ p∈P,∀ s∈p.dw,s≠0
def zd (m:fh) (N s:Int):Prop:=wL m.ba.bo.length N s/\(m.eM=0->s≠0)
structure lq (m:fh) (T L I Q:Nat):Prop where
 gr:m.ed.length=m.ba.bo.length
 lo:3<=m.ba.bo.length
 hi:m.ba.bo.length<=T
 ty:m.fD.length<=T
 e_:m.dq.length=L
 hB:0<=m.df/\m.df<=I
 AS:m.ba.bu.length<=Q
 gB:∀ p∈m.ba.bu,Bp m.ba.bo.length (L+m.df) p
 lvl:0<=m.fj
 jw:∀ t∈m.ba.bo,0<=t.Level
 yq:m.eM=0->EN m.ba.bu
theorem lq.mono {m:fh}{T L I Q T' I' Mr:Nat}(h:lq m T L I Q) (cX:T<=T') (bc:I<=I') (ew:Q<=Mr):lq m T' L I' Mr :=
 ⟨h.gr,h.lo,by have:=h.hi; omega,by have:=h.ty; omega,h.e_,⟨h.hB.1,by have:=h.hB.2; omega⟩,by have:=h.AS; omega,h.gB,h.lvl,h.jw,h.yq⟩
theorem lq.grow {m m':fh}{T L I Q k:Nat}(h:lq m T L I Q) (g:Grow m m' k) (Vg:m'.eM=0->m.eM=0):lq m' (T+k) L I Q :=
 ⟨g.gr,by have:=h.lo; have:=g.lo; omega,by have:=h.hi; have:=g.hi; omega,by have:=h.ty; have:=g.ty; omega,by rw [g.e_]; exact h.e_,by rw [g.hB]; exact h.hB,by rw [g.gB]; exact h.AS,
  by rw [g.gB,g.hB]; exact λp aq=>(h.gB p aq).mono g.lo (by omega),by rw [g.lvl]; exact h.lvl,g.jw h.lvl h.jw,λe=>by rw [g.gB]; exact h.yq (Vg e)⟩
theorem Lo {P:List Prod}{p:Prod}(h:EN P) (aq:∀ s∈p.dw,s≠0):EN (P++[p]):=λq a_=>by
 rcases List.mem_append.1 a_ with a_ | a_
 ·exact h q a_
 ·rw [List.mem_singleton.1 a_]; exact aq
theorem t151 (m:fh) (left:ByteArray) (a:Alt) {T L I Q:Nat}(hm:lq m T L I Q) (cX:T<=10000000000) (fN:L<=10000000000) (bc:I<=10000000000) (ew:Q<=10000000000) (ar:yO a) (c6:EA a) :
  Tot (v_ m left a) λm'=>lq m' (T+1001) L (I+1000) (Q+1001)/\1<=m'.ba.bu.length:=by
 unfold v_;have aC:=ar.n;refine .aB (t150 m left (by rw [hm.e_]; simp only [dA]; omega)) λaR gJ=>?_;have aeM:-1<=aR/\aR<L:=by rw [<- hm.e_]; rcases gJ with h | h <;> omega
 refine Tot.aB (Ξ:=λa8=>lq a8.1 (T+1000) L (I+1000) (Q+1000)/\(∀ s∈a8.2.1,zd a8.1 (L+a8.1.df) s)/\a8.2.1.length<=1000) ?_ λa8 hl=>?_
 ·refine Tot.count (λs=>s.2.2.2.2) a.Parts.length (λs=>0<=s.2.2.2.2/\s.2.2.2.2<=a.Parts.length/\lq s.1 (T+s.2.2.2.2.toNat) L (I+s.2.2.2.2.toNat) (Q+s.2.2.2.2.toNat)/\(∀ y∈s.2.1,zd s.1 (L+s.1.df) y)/\s.2.1.length<=s.2.2.2.2.toNat) ⟨by show (0:Int)<=0; omega,by show (0:Int)<=_; omega,hm,by simp,Nat.le_refl 0⟩ (by show (a.Parts.length:Int) - 0<_; omega) λs av=>?_;obtain ⟨m1,rt,bH,at_,i⟩:=s;obtain ⟨aK,h1,ag,hr,ah⟩:=av;simp only at aK h1 ag hr ah ⊢;have hw:aG (i+1)=i+1:=by rw [cv]; omega
  have b9:(i+1).toNat=i.toNat+1:=by omega
  refine Tot.bt (λaP=>?_) (λ_=>.aj ⟨ag.mono (by omega) (by omega) (by omega),hr,by show rt.length<=1000; omega⟩);refine Tot.aB (Ξ:=λj=>lq j.1 (T+(i.toNat+1)) L (I+(i.toNat+1)) (Q+(i.toNat+1))/\(∀ y∈j.2.1,zd j.1 (L+j.1.df) y)/\j.2.1.length<=i.toNat+1) ?_ λj JM=>?_
  ·refine Tot.aB (Tot.hC (Φ:=λy=>y∈a.Parts) aK aP λy _ ao=>ao) λy ao=>?_;refine Tot.aB (Ξ:=λj=>lq j.1 (T+(i.toNat+1)) L (I+(i.toNat+1)) (Q+(i.toNat+1))/\(∀ y∈j.2.1,zd j.1 (L+j.1.df) y)/\j.2.1.length<=i.toNat+1) ?_ λj JN=>.aj JN;refine Tot.aB (Ξ:=λj=>lq j.1 (T+(i.toNat+1)) L (I+(i.toNat+1)) (Q+(i.toNat+1))/\(∀ y∈j.2.1,zd j.1 (L+j.1.df) y)/\j.2.1.length<=i.toNat+1) ?_ λj JN=>.aj JN;refine Tot.bH (λ_=>?_) (λ_=>?_)
   ·have bO:=ag.hi;refine .aB (t177 m1 y.Sym ag.gr ag.lo (by omega) (by rw [ag.e_]; omega) (c6.parts y ao)) λr ⟨aN,O2,CY⟩=>?_;refine .bJ<|.aj ⟨(ag.grow aN λe=>(CY e).1).mono (by omega) (by omega) (by omega),λz aW=>?_,by simp; omega⟩;rcases List.mem_append.1 aW with aW | aW
    ·exact ⟨(hr z aW).1.mono aN.lo (by show (L:Int)+m1.df<=L+r.2.df; rw [aN.hB]; omega),λe=>(hr z aW).2 (CY e).1⟩
    ·rw [List.mem_singleton.1 aW];rw [ag.e_] at O2;exact ⟨O2.mono (Nat.le_refl _) (by show (L:Int)<=L+r.2.df; rw [aN.hB]; have:=ag.hB.1; omega),λe=>(CY e).2⟩
   ·refine Tot.aB (Ξ:=λj=>lq (⟨(⟨m1.ba.bo,m1.ba.dD,j.1,m1.ba.hp,m1.ba.j3⟩:bA),m1.ed,m1.fD,m1.dq,m1.eM,m1.kn,m1.ko,m1.fj,j.2.1⟩:dd) (T+(i.toNat+1)) L (I+(i.toNat+1)) (Q+(i.toNat+1))/\(∀ y∈j.2.2.1,zd m1 (L+j.2.1) y)/\j.2.2.1.length<=i.toNat+1) ?_ λj Xd=>.aj Xd;refine Tot.bH (λ_=>.aj ⟨⟨ag.gr,ag.lo,by have:=ag.hi; show m1.ba.bo.length<=_; omega,by have:=ag.ty; show m1.fD.length<=_; omega,ag.e_,⟨ag.hB.1,by have:=ag.hB.2; show m1.df<=_; omega⟩,by have:=ag.AS; show m1.ba.bu.length<=_; omega,ag.gB,ag.lvl,ag.jw,ag.yq⟩,hr,by show rt.length<=_; omega⟩) (λ_=>?_);have zK:=ag.hB;have vB:=ag.e_;have rk:=ag.AS;have hX:aG (m1.df+1)=m1.df+1:=by rw [cv]; omega
    have gU:aG (((m1.dq.length:Int))+(m1.df+1))=L+(m1.df+1):=by rw [cv,vB]; omega
    have A5:aG (1000+(m1.dq.length:Int))=1000+L:=by rw [cv,vB]; omega
    have A6:aG (1000+(L:Int)+(m1.df+1))=1000+(L:Int)+(m1.df+1):=by rw [cv]; omega
    rw [hX,gU,A5,A6];refine .bJ<|.bJ<|.bJ<|.aj ⟨⟨ag.gr,ag.lo,?_,?_,ag.e_,?_,?_,?_,ag.lvl,ag.jw,λe=>Lo (ag.yq e) λs h=>by cases h⟩,?_,?_⟩
    ·have:=ag.hi; show m1.ba.bo.length<=_; omega
    ·have:=ag.ty; show m1.fD.length<=_; omega
    ·show 0<=m1.df+1/\m1.df+1<=((I+(i.toNat+1):Nat):Int); omega
    ·show (m1.ba.bu++[_]).length<=_; simp; omega
    ·intro p aq;rcases List.mem_append.1 aq with aq | aq
     ·exact (ag.gB p aq).mono (Nat.le_refl _) (by show (L:Int)+m1.df<=L+(m1.df+1); omega)
     ·rw [List.mem_singleton.1 aq];refine ⟨?_,by simp,?_⟩
      ·show 0<=(L:Int)+(m1.df+1)/\(L:Int)+(m1.df+1)<=L+(m1.df+1); omega
      ·have:=ag.lo; show (-1:Int)<=-1/\(-1:Int)<(m1.ba.bo.length:Int); omega
    ·intro z aW;rcases List.mem_append.1 aW with aW | aW
     ·exact ⟨(hr z aW).1.mono (Nat.le_refl _) (by show (L:Int)+m1.df<=L+(m1.df+1); omega),(hr z aW).2⟩
     ·rw [List.mem_singleton.1 aW];exact ⟨.inr (by show 1000<=1000+(L:Int)+(m1.df+1)/\1000+(L:Int)+(m1.df+1)<=1000+((L:Int)+(m1.df+1)); omega),λ_=>by show 1000+(L:Int)+(m1.df+1)≠0; omega⟩
    ·show (rt++[_]).length<=_; simp; omega
  ·rw [hw];refine .aj ⟨⟨?_,?_,?_,JM.2.1,?_⟩,?_,?_⟩
   ·show (0:Int)<=i+1; omega
   ·show i+1<=(a.Parts.length:Int); omega
   ·show lq j.1 (T+(i+1).toNat) L (I+(i+1).toNat) (Q+(i+1).toNat);rw [b9]; exact JM.1
   ·show j.2.1.length<=(i+1).toNat;rw [b9]; exact JM.2.2
   ·show i<i+1; omega
   ·show i+1<=(a.Parts.length:Int); omega
 ·obtain ⟨ag,hr,ah⟩:=hl;have mi:=ag.lo;have zK:=ag.hB;refine Tot.aB (Ξ:=λp=>-1<=p/\p<(a8.1.ba.bo.length:Int)) ?_ λgB FH=>?_
  ·refine Tot.count (λs=>s.2) a8.2.1.length (λs=>0<=s.2/\s.2<=a8.2.1.length/\-1<=s.1/\s.1<(a8.1.ba.bo.length:Int)) ⟨by show (0:Int)<=0; omega,by show (0:Int)<=_; omega,by show (-1:Int)<=-1; omega,by show (-1:Int)<_; omega⟩ (by show (a8.2.1.length:Int) - 0<_; omega) λs av=>?_;obtain ⟨aK,h1,af,aE⟩:=av;have hw:aG (s.2+1)=s.2+1:=by rw [cv]; omega
   rw [hw];refine Tot.bt (λaP=>?_) (λ_=>.aj ⟨af,aE⟩);refine Tot.aB (Ξ:=λp=>-1<=p/\p<(a8.1.ba.bo.length:Int)) ?_ λp aq=>.aj ⟨⟨?_,?_,aq.1,aq.2⟩,?_,?_⟩
   ·refine .aB (Tot.hC (Φ:=λy=>idx a8.2.1 s.2=some y/\y∈a8.2.1) aK aP λy h1 af=>⟨h1,af⟩) λy ao=>?_;refine .aB (Ξ:=λp=>-1<=p/\p<(a8.1.ba.bo.length:Int)) ?_ λp aq=>.aj aq;refine Tot.bt (λaP=>?_) (λ_=>.aj ⟨af,aE⟩);rw [ao.1];refine Tot.aV (.aj ?_);rcases (hr y ao.2).1 with h | h
    ·omega
    ·omega
   ·show (0:Int)<=s.2+1; omega
   ·show s.2+1<=(a8.2.1.length:Int); omega
   ·show s.2<s.2+1; omega
   ·show s.2+1<=(a8.2.1.length:Int); omega
  ·refine Tot.aB (Ξ:=λj=>Grow a8.1 j.1 1/\(-1<=j.2/\j.2<(j.1.ba.bo.length:Int))/\(j.1.eM=0->a8.1.eM=0)) ?_ λj zL=>?_
   ·have sb:Grow a8.1 a8.1 1:=⟨ag.gr,Nat.le_refl _,Nat.le_succ _,Nat.le_succ _,rfl,rfl,rfl,rfl,λ_ h=>h⟩;refine Tot.bH (λ_=>?_) (λ_=>.aj ⟨sb,FH,id⟩);refine Tot.aB (Ξ:=λc=>c=true->a.Prec.Lit=true\/∀ y∈a8.1.dq,y≠a.Prec.Name) ?_ λc aa=>?_
    ·refine Tot.bH (λh=>.aj λ_=>.inl h) (λ_=>?_);refine .aB (t150 a8.1 a.Prec.Name (by rw [ag.e_]; simp only [dA]; omega)) λk hk=>.aj λaP=>?_;have aP:=of_decide_eq_true aP;rcases hk with ⟨_,h⟩ | h
     ·exact .inr h
     ·omega
    ·refine Tot.aB (Ξ:=λj=>Grow a8.1 j.1 1/\(-1<=j.2/\j.2<(j.1.ba.bo.length:Int))/\(j.1.eM=0->a8.1.eM=0)) ?_ λj ag=>.aj ag;have bO:=ag.hi;refine Tot.bH (λh=>?_) (λ_=>?_)
     ·refine .aB (aa0 a8.1 a.Prec ag.gr ag.lo (by omega) (by rw [ag.e_]; omega) c6.prec (aa h)) λr hr=>.aj ⟨hr.1,⟨?_,hr.2.1.2⟩,hr.2.2⟩;have:=hr.2.1.1; show -1<=r.1; omega
     ·refine .aB (t148 a8.1 _ _) λm' hZ=>.aj ⟨hZ.1.grow ag.gr 1,⟨by show (-1:Int)<=-1; omega,?_⟩,λe=>absurd e hZ.2⟩;show (-1:Int)<(m'.ba.bo.length:Int); omega
   ·have hZ:=ag.grow zL.1 zL.2.2;have rk:=hZ.AS;refine .bJ<|.bJ<|.aj ⟨⟨hZ.gr,hZ.lo,?_,?_,hZ.e_,⟨hZ.hB.1,?_⟩,?_,?_,hZ.lvl,hZ.jw,λe=>Lo (hZ.yq e) λs av=>(hr s av).2 (zL.2.2 e)⟩,by simp⟩
    ·have:=hZ.hi; show j.1.ba.bo.length<=_; omega
    ·have:=hZ.ty; show j.1.fD.length<=_; omega
    ·have:=hZ.hB.2; show j.1.df<=_; omega
    ·show (j.1.ba.bu++[_]).length<=_; simp; omega
    ·intro p aq;rcases List.mem_append.1 aq with aq | aq
     ·exact hZ.gB p aq
     ·rw [List.mem_singleton.1 aq];have aeu:=hZ.hB;refine ⟨?_,λz aW=>?_,zL.2.1⟩
      ·show 0<=aG (1+aR)/\aG (1+aR)<=(L:Int)+j.1.df;rw [cv]; omega
      ·exact (hr z aW).1.mono zL.1.lo (by show (L:Int)+a8.1.df<=L+j.1.df; rw [zL.1.hB]; omega)
end Go.Proofs
